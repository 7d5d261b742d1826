/- The jobs with some cells, in order. Deeds with a queue: words; put, taken, back, Revive. -/
import Derived.Test.YtfadbmfkidiaoaaGreatDoorZ30
namespace Go.Proofs.YtfadbmfkidiaoaaGreatDoor
open Go.RowKit Go Go.MapKept
set_option linter.unusedSimpArgs false
set_option linter.unusedVariables false
set_option linter.unusedSectionVars false
set_option linter.unnecessarySimpa false

theorem T67 : SlT Tryz.prog 67 80 7 64 := slT_mk (z := .agg #[.int .i64 0, .int .i64 0, .string ⟨#[]⟩, .int .i64 0, .int .i64 0, .int .i64 0, .int .i64 0]) Tryz.underlying67 (by kernel_rfl) rfl (by omega)
def InRel (w1 : World) (js : List Jb) (sel : Jb → Bool) (ov iv : Value) (wl : World) : Prop :=
  ∃ (i m : Nat) (A : Option Addr) (c' go : Nat), iv = .int .i64 i ∧ i ≤ js.length ∧ m = ((js.take i).filter sel).length ∧ ov = .slice A m c' ∧ Row wl go 80 7 (.slice A m c') m (jcs ((js.take i).filter sel)) ∧ w1.heap.size ≤ go ∧ Ext [] w1 wl
theorem InRel.skip {w1 wl wr : World} {js : List Jb} {sel : Jb → Bool} {ov : Value} {i m : Nat} {A : Option Addr} {c' go : Nat} (hi : i < js.length) (hm : m = ((js.take i).filter sel).length) (hs : sel (js[i]'hi) = false) (hr : Row wl go 80 7 (.slice A m c') m (jcs ((js.take i).filter sel))) (hgo : w1.heap.size ≤ go) (hx : Ext [] w1 wl) (hx2 : Ext [] wl wr) (ho : ov = .slice A m c') :
    InRel w1 js sel ov (.int .i64 ((i + 1 : Nat) : Int)) wr := by
  have e := take_filter js sel i hi
  rw [hs, if_neg (by simp), List.append_nil] at e
  exact ⟨i + 1, m, A, c', go, rfl, by omega, by rw [e]; exact hm, ho, by rw [e]; exact hr.ext hx2 (by simp), hgo, hx.trans hx2⟩
set_option maxRecDepth 100000 in
set_option maxHeartbeats 8000000 in
theorem in_any (b bm g r : Nat) (G : Nat → Option Jb) (last now : Nat) (w : World) (L : Pairs) (h : Qu w b bm g r L (FG G) last now) (js : List Jb) (hj : JLs L G js) (hn : L.length ≤ 1000) (hM : MxL w) (h8 : 8 ≤ w.heap.size)
    (gl : Nat) (vl : Value) (l : List Cl) (hl : kdsC l = [1, 1, 1].take l.length) (hle : l.length ≤ 3) (hv : Vw w gl 93 5 vl l.length (clsC l)) (hok : OkCs l) (hgl : gl < w.heap.size) (hks : (csB l).length ≤ 23) (P : List UInt8) (bb : UInt8) (hP : UInt8.ofNat 1 :: csB l = P ++ [bb]) (hb : bb.toNat < 255) (sel : Jb → Bool) (hsel : sel = fun j => selK (keyB 1 l) ⟨(P ++ [bb + 1]).toArray⟩ (keyJ j)) :
    Calls Tryz.prog 66 #[.pointer (some ⟨b, 0, none⟩), vl] w fun e w' => ∃ g' v', e = .returned v' ∧ Row w' g' 80 7 v' (js.filter sel).length (jcs (js.filter sel)) ∧ w.heap.size ≤ g' ∧ Ext [] w w' := by
  have hsp := fun W vt (ht : Tb W vt 1 [1, 1, 1] [1, 3, 1, 1]) (hx : Ext [] w W) => span_any 1 gl vt vl l [1, 1, 1] [1, 3, 1, 1] W ht hl hle (hv.ext hx (by simp)) hok (by have := hx.size; omega) hks (hM.ext hx (by simp)) (by have := hx.size; omega) P bb hP hb
  have hto : (⟨(P ++ [bb + 1]).toArray⟩ : ByteArray).toList.isEmpty = false := str_ne (by
    show 1 ≤ (P ++ [bb + 1]).toArray.size
    rw [List.size_toArray, List.length_append]; simp)
  have hsj : ∀ j, sel j = selK (keyB 1 l) ⟨(P ++ [bb + 1]).toArray⟩ (keyJ j) := by rw [hsel]; exact fun _ => rfl
  have HJ := Lib.hid hj
  have hlen : L.length = js.length := by rw [hj.eq, List.length_map]
  clear hsel hj hP hl hok hks hv
  generalize keyB 1 l = F at *
  generalize (⟨(P ++ [bb + 1]).toArray⟩ : ByteArray) = T at *
  have c0 := fun W (hx : Ext [] w W) => (cell_of_row _ _ 0 _ _ _ (h.ext hx (by simp) (by simp) (by simp) (by simp)).blk : W.cell? ⟨b, 0, none⟩ = some (.pointer (some ⟨bm, 0, none⟩)))
  have hpr := fun W (hx : Ext [] w W) => pairs_any bm g L W (h.ext hx (by simp) (by simp) (by simp) (by simp)).mdl (by omega)
  clear h
  go_enter Tryz.func66, Tryz.ntmps66
  go_wp2_with fail
  refine (table_any _).mono ?_
  rintro e w1 ⟨vt, rfl, ht, hx1⟩
  have hs1 := hsp w1 vt ht hx1
  clear hsp
  go_wp2_with fail
  refine hs1.mono ?_
  rintro e w2 ⟨rfl, hx2⟩
  clear hs1
  have hx02 := hx1.trans hx2
  have c2 := c0 w2 hx02
  have hp2 := hpr w2 hx02
  clear hpr c0
  go_wp2_with fail
  refine hp2.mono ?_
  rintro e w3 ⟨gp, vp, rfl, hrp, hgp, hx3⟩
  clear hp2
  have hx03 := hx02.trans hx3
  have hM3 := hM.ext hx03 (by simp)
  have h83 : 8 ≤ w3.heap.size := by have := hx03.size; omega
  have hz3 : w.heap.size ≤ w3.heap.size := hx03.size
  obtain ⟨Ap, cp, rfl, _⟩ := hrp.vw.form
  have hvp := hrp.vw
  rw [hlen] at hvp
  have HPR := Lib.hid hvp
  clear hvp hrp
  rw [hlen]
  have hnj : js.length ≤ 1000 := by omega
  generalize hN : js.length = N at *
  have HN := Lib.hid hN; clear hN
  go_wp2_with fail
  go_loopw [8, 26] (InRel w3 js sel) (fun _ iv _ => N - (intOf iv).toNat)
  case atStart => exact ⟨0, 0, none, 0, w3.heap.size, rfl, Nat.zero_le _, rfl, rfl, .nil, Nat.le_refl _, Ext.refl _ _⟩
  case round =>
    obtain ⟨i, m, A, c', go, rfl, hi, hm, rfl, hro, hgo, hx⟩ := hrel
    have HM := Lib.hid hm; clear hm
    rw [HN.out] at hi
    by_cases hlt : i < N
    · have hil : i < js.length := by have := HN.out; omega
      have hvp := HPR.out
      obtain ⟨o, rfl⟩ := hvp.head (by omega)
      obtain ⟨k0, k1⟩ := (hvp.ext hx (by simp)).pair i hlt
      have e0 : kAt L i = keyJ (js[i]'hil) := by rw [kAt_eq _ _ (by omega)]; simp [HJ.out.eq]
      have e1 : vAt L i = valJ (js[i]'hil) := by rw [vAt_eq _ _ (by omega)]; simp [HJ.out.eq]
      rw [e0] at k0
      rw [e1] at k1
      clear e0 e1
      have hjo := (HJ.out.ok _ (List.getElem_mem hil)).1
      have htf := Lib.hid (take_filter js sel i hil)
      have hss := hsj (js[i]'hil)
      unfold selK at hss
      generalize hJ : (js[i]'hil) = J at *
      have HJJ := Lib.hid hJ; clear hJ
      have hrd := fun W vt (ht : Tb W vt 1 [1, 1, 1] [1, 3, 1, 1]) (hxx : Ext [] wr W) => readJ J hjo vt W ht ((hM3.ext hx (by simp)).ext hxx (by simp)) (by have := hx.size; have := hxx.size; omega)
      have hjb := fun gg vv W hr => jobJ J gg vv W hjo hr
      have q1 := bless (keyJ J) F
      have q2 := bless (keyJ J) T
      have hjc : jcs [J] = [.int .i64 (J.id : Nat), .int .i64 (J.pr : Nat), .string J.body, .int .i64 (J.st : Nat), .int .i64 (J.tries : Nat), .int .i64 (J.who : Nat), .int .i64 (J.till : Nat)] := rfl
      generalize keyJ J = K at *
      generalize valJ J = V at *
      have hn1 := heap_alloc_new wr (.cells #[.string K, .string V] 77)
      have hxa : Ext [] wr (wr.alloc (.cells #[.string K, .string V] 77)) := (Ext.refl [] wr).alloc _
      have b0 : (wr.alloc (.cells #[.string K, .string V] 77)).cell? ⟨wr.heap.size, 0, none⟩ = some (.string K) := cell_of_row _ _ 0 _ _ _ hn1
      have b1 : (wr.alloc (.cells #[.string K, .string V] 77)).cell? ⟨wr.heap.size, 1, none⟩ = some (.string V) := cell_of_row _ _ 1 _ _ _ hn1
      clear hn1
      by_cases g1 : klt K F
      · have hss' : sel J = false := by rw [hss]; simp [g1]
        clear hss
        simp only [g1, decide_true] at q1
        clear q2 hrd hjb
        go_wp2_with fail
        refine ⟨?rel, ?measure⟩
        case rel => exact InRel.skip hil HM.out (by rw [HJJ.out]; exact hss') hro hgo hx hxa rfl
        case measure => simp [intOf]; omega
      · simp only [g1, decide_false] at q1
        by_cases g2 : klt K T
        · have hss' : sel J = true := by rw [hss]; simp [g1, g2]
          clear hss
          simp only [g2, decide_true] at q2
          rw [hss', if_pos rfl] at htf
          go_wp2_with fail
          generalize (wr.alloc (.cells #[.string K, .string V] 77)) = W0 at *
          go_region_held3 (fun W => W.cell? ⟨wr.heap.size, 0, none⟩ = some (.string K) ∧ W.cell? ⟨wr.heap.size, 1, none⟩ = some (.string V) ∧ Ext [] W0 W)
            (first | exact heldR0 b0 b1 | exact heldR2 (by assumption) | exact heldR1 (by assumption) hxn)
            (first
              | (go_at_call 71; refine (table_any _).mono ?_; rintro e w' ⟨vt, rfl, ht, hxn⟩)
              | (go_at_call 24; refine (hrd _ _ ht (hxa.trans (heldR_x (by assumption)))).mono ?_; rintro e w' ⟨g4, v4, rfl, hr4, hg4, hg4', hxn⟩))
          rename_i hHeld
          have hS := heldR_x hHeld
          clear hHeld hrd ht b0 b1
          rename World => w5
          have hj5 := hjb _ _ _ hr4
          clear hjb
          go_wp2_with fail
          refine hj5.mono ?_
          rintro e w6 ⟨rfl, hx6⟩
          clear hj5
          have hx06 : Ext [] wr w6 := (hxa.trans hS).trans hx6
          have hn2 := Row.new w6 80 7 #[.int .i64 (J.id : Nat), .int .i64 (J.pr : Nat), .string J.body, .int .i64 (J.st : Nat), .int .i64 (J.tries : Nat), .int .i64 (J.who : Nat), .int .i64 (J.till : Nat)] 1 1 (by omega) (by simp [maxLen]) rfl
          have hro6 := (hro.ext hx06 (by simp)).ext ((Ext.refl [] w6).alloc (.cells #[.int .i64 (J.id : Nat), .int .i64 (J.pr : Nat), .string J.body, .int .i64 (J.st : Nat), .int .i64 (J.tries : Nat), .int .i64 (J.who : Nat), .int .i64 (J.till : Nat)] 80)) (by simp)
          have hone : ∀ u ∈ jcs [J], u.oneCell' = true := jcs_one [J]
          rw [hjc] at hone
          have hmb : m ≤ 1000 := by
            have h1 := HM.out
            have h2 := List.length_filter_le sel (js.take i)
            have h3 := List.length_take_le i js
            omega
          go_wp2_with ((with_reducible refine wpList_append T67 rfl (.tmp 55) (.tmp 58) rfl rfl rfl hro6 hn2.vw hone (by omega) (by omega) ?_); rintro g9 A9 c9 w9 hr9 hx9 hg9 hA9 _ _; obtain rfl := hA9 (by omega))
          have s6 := hx06.size
          have sx := hx.size
          simp only [World.size_alloc] at hg9
          have hxa9 : Ext [go] wr w9 := ((hx06.mono (by simp) : Ext [go] wr w6).alloc _).trans hx9
          refine ⟨?rel, ?measure⟩
          case rel =>
            refine ⟨i + 1, m + 1, some ⟨g9, 0, none⟩, c9, g9, by go_num, by have := HN.out; omega, ?_, rfl, ?_, by omega, hx.step hxa9 (by simp; omega)⟩
            · rw [htf.out, List.length_append, ← HM.out]; rfl
            · rw [htf.out, jcs_app, hjc]; exact hr9
          case measure => simp [intOf]; omega
        · have hss' : sel J = false := by rw [hss]; simp [g1, g2]
          clear hss
          simp only [g2, decide_false] at q2
          clear hrd hjb
          go_wp2_with fail
          refine ⟨?rel, ?measure⟩
          case rel => exact InRel.skip hil HM.out (by rw [HJJ.out]; exact hss') hro hgo hx hxa rfl
          case measure => simp [intOf]; omega
    · obtain rfl : i = N := by omega
      go_wp2_with fail
      go_ret
      have e : js.take i = js := List.take_of_length_le (by have := HN.out; omega)
      rw [e] at hro
      have hmm := HM.out
      rw [e] at hmm
      exact ⟨go, _, rfl, by rw [← hmm]; exact hro, by omega, hx03.trans hx⟩
end Go.Proofs.YtfadbmfkidiaoaaGreatDoor

namespace Go.Proofs.YtfadbmfkidiaoaaGreatDoor
open Go.RowKit Go Go.MapKept
set_option linter.unusedSimpArgs false
set_option linter.unusedVariables false
set_option linter.unusedSectionVars false
set_option linter.unnecessarySimpa false

/-- bounds that hold after k deeds -/
structure Bd (G : Nat → Option Jb) (last now k : Nat) : Prop where
  lastL : last ≤ k
  nowL : now ≤ 255 * k
  job : ∀ i j, G i = some j → OkJ j ∧ j.id = i ∧ i ≤ last ∧ j.tries ≤ k ∧ j.who ≤ 3 ∧ j.till ≤ 256 * (k + 1)
theorem Bd.zero : Bd (fun _ => none) 0 0 0 := ⟨Nat.le_refl _, Nat.le_refl _, by simp⟩
theorem Bd.more {G : Nat → Option Jb} {last now k now' : Nat} (h : Bd G last now k) (hn : now' ≤ 255 * (k + 1)) : Bd G last now' (k + 1) := by
  refine ⟨by have := h.lastL; omega, hn, fun i j hj => ?_⟩
  obtain ⟨h1, h2, h3, h4, h5, h6⟩ := h.job i j hj
  exact ⟨h1, h2, h3, by omega, h5, by omega⟩
theorem Bd.upd {G : Nat → Option Jb} {last now k last' : Nat} (h : Bd G last now (k + 1)) (hl : last ≤ last') (hl' : last' ≤ k + 1) (j : Jb) (ok : OkJ j) (hid : j.id ≤ last') (ht : j.tries ≤ k + 1) (hw : j.who ≤ 3) (htl : j.till ≤ 256 * (k + 2)) : Bd (updG G j.id (some j)) last' now (k + 1) := by
  refine ⟨hl', h.nowL, fun i x hx => ?_⟩
  unfold updG at hx
  split at hx
  · next e => cases hx; exact ⟨ok, e.symm, by omega, ht, hw, htl⟩
  · obtain ⟨h1, h2, h3, h4, h5, h6⟩ := h.job i x hx
    exact ⟨h1, h2, by omega, h4, h5, h6⟩
theorem Bd.del {G : Nat → Option Jb} {last now k i : Nat} (h : Bd G last now k) : Bd (updG G i none) last now k := by
  refine ⟨h.lastL, h.nowL, fun i x hx => ?_⟩
  unfold updG at hx
  split at hx
  · cases hx
  · exact h.job i x hx
/-- what a deed leaves behind -/
def DPost (b bm g r : Nat) (w : World) (k lo hi : Nat) (w' : World) : Prop := ∃ G' n' last' now', QPost b bm g r w G' n' last' now' w' ∧ Bd G' last' now' (k + 1) ∧ lo ≤ n' ∧ n' ≤ hi
theorem Qx.cells {w : World} {b bm g r : Nat} {G : Nat → Option Jb} {n last now : Nat} (h : Qx w b bm g r G n last now) :
    (w.cell? ⟨b, 0, none⟩ = some (.pointer (some ⟨bm, 0, none⟩)) ∧ w.cell? ⟨b, 1, none⟩ = some (.map (some r)) ∧ w.cell? ⟨b, 2, none⟩ = some (.int .i64 2) ∧ w.cell? ⟨b, 3, none⟩ = some (.int .i64 last) ∧ w.cell? ⟨b, 4, none⟩ = some (.int .i64 now)) ∧
    w.frozen? ⟨b, 0, none⟩ = false ∧ w.frozen? ⟨b, 1, none⟩ = false ∧ w.frozen? ⟨b, 2, none⟩ = false ∧ w.frozen? ⟨b, 3, none⟩ = false ∧ w.frozen? ⟨b, 4, none⟩ = false := by
  obtain ⟨L, q1, _, _⟩ := h
  exact cells5 q1.blk
theorem Qx.setLast {w : World} {b bm g r : Nat} {G : Nat → Option Jb} {n last now : Nat} (h : Qx w b bm g r G n last now) (v : Nat) : Qx (w.setCell ⟨b, 3, none⟩ (.int .i64 (v : Nat))) b bm g r G n v now ∧ Ext [b] w (w.setCell ⟨b, 3, none⟩ (.int .i64 (v : Nat))) := by
  obtain ⟨L, ⟨q1, q2, ⟨M, q3, q3'⟩, q4, q5, q6⟩, q7, q8⟩ := h
  have hx : Ext [b] w (w.setCell ⟨b, 3, none⟩ (.int .i64 (v : Nat))) := (Ext.refl [b] w).setCell (.inl (by simp)) _
  exact ⟨⟨L, ⟨heap_setCell_same w b 3 _ 128 (.int .i64 (v : Nat)) q1, q2.ext hx (by simp; omega) (by simp; omega), ⟨M, q3.ext hx (by simp; omega), q3'⟩, q4, q5, q6⟩, q7, q8⟩, hx⟩
theorem Qx.setNow {w : World} {b bm g r : Nat} {G : Nat → Option Jb} {n last now : Nat} (h : Qx w b bm g r G n last now) (v : Nat) : Qx (w.setCell ⟨b, 4, none⟩ (.int .i64 (v : Nat))) b bm g r G n last v ∧ Ext [b] w (w.setCell ⟨b, 4, none⟩ (.int .i64 (v : Nat))) := by
  obtain ⟨L, ⟨q1, q2, ⟨M, q3, q3'⟩, q4, q5, q6⟩, q7, q8⟩ := h
  have hx : Ext [b] w (w.setCell ⟨b, 4, none⟩ (.int .i64 (v : Nat))) := (Ext.refl [b] w).setCell (.inl (by simp)) _
  exact ⟨⟨L, ⟨heap_setCell_same w b 4 _ 128 (.int .i64 (v : Nat)) q1, q2.ext hx (by simp; omega) (by simp; omega), ⟨M, q3.ext hx (by simp; omega), q3'⟩, q4, q5, q6⟩, q7, q8⟩, hx⟩
theorem qnone_x {w : World} {b bm g r : Nat} {G : Nat → Option Jb} {n last now : Nat} (h : Qx w b bm g r G n last now) : Calls Tryz.prog 51 #[.pointer (some ⟨b, 0, none⟩)] w fun e w' => e = .returned (.bool false) ∧ w = w' := by
  obtain ⟨L, q1, _, _⟩ := h
  exact qnone_any _ _ _ _ _ _ _ _ _ q1
theorem set_x {w : World} {b bm g r : Nat} {G : Nat → Option Jb} {n last now : Nat} (h : Qx w b bm g r G n last now) (hn : n ≤ 1000) (hM : MxL w) (h8 : 8 ≤ w.heap.size) (j : Jb) (hok : OkJ j) (id pr st tries who till : Int) (e1 : id = (j.id : Nat)) (e2 : pr = (j.pr : Nat)) (e3 : st = (j.st : Nat)) (e4 : tries = (j.tries : Nat)) (e5 : who = (j.who : Nat)) (e6 : till = (j.till : Nat)) :
    Calls Tryz.prog 117 #[.pointer (some ⟨b, 0, none⟩), .agg #[.int .i64 id, .int .i64 pr, .string j.body, .int .i64 st, .int .i64 tries, .int .i64 who, .int .i64 till]] w fun e w' => e = .returned (.int .i64 0) ∧ QPost b bm g r w (updG G j.id (some j)) (if (G j.id).isSome then n else n + 1) last now w' := by
  subst e1 e2 e3 e4 e5 e6
  exact set_any b bm g r G n last now w h hn hM h8 j hok
theorem get_x {w : World} {b bm g r : Nat} {G : Nat → Option Jb} {n last now : Nat} (h : Qx w b bm g r G n last now) (hn : n ≤ 1000) (hM : MxL w) (h8 : 8 ≤ w.heap.size) (i : Nat) :
    Calls Tryz.prog 25 #[.pointer (some ⟨b, 0, none⟩), .int .i64 (i : Nat)] w fun e w' => ((G i = none ∧ e = .returned (.tuple #[.agg #[.int .i64 0, .int .i64 0, .string ⟨#[]⟩, .int .i64 0, .int .i64 0, .int .i64 0, .int .i64 0], .int .i64 9])) ∨
      ∃ j, G i = some j ∧ e = .returned (.tuple #[.agg #[.int .i64 (j.id : Nat), .int .i64 (j.pr : Nat), .string j.body, .int .i64 (j.st : Nat), .int .i64 (j.tries : Nat), .int .i64 (j.who : Nat), .int .i64 (j.till : Nat)], .int .i64 0])) ∧ Ext [] w w' := by
  obtain ⟨L, q1, q2, q3⟩ := h
  cases hG : G i with
  | none => exact (get_no_any b bm g r L G last now w q1 i hG).mono fun e w' ⟨h1, h2⟩ => ⟨.inl ⟨rfl, h1⟩, h2⟩
  | some j => exact (get_yes_any b bm g r L G last now w q1 q2 (by omega) hM h8 i j hG).mono fun e w' ⟨h1, h2⟩ => ⟨.inr ⟨j, rfl, h1⟩, h2⟩
set_option maxRecDepth 100000 in
set_option maxHeartbeats 1600000 in
theorem qput_any (b bm g r : Nat) (G : Nat → Option Jb) (n last now k pr : Nat) (body : ByteArray) (w : World) (h : Qx w b bm g r G n last now) (hB : Bd G last now k) (hk : k ≤ 30) (hn : n ≤ 1000) (hpr : pr ≤ 9) (hM : MxL w) (h8 : 8 ≤ w.heap.size) (hz : body.size ≤ 1000000) :
    Calls Tryz.prog 53 #[.pointer (some ⟨b, 0, none⟩), .int .i64 (pr : Nat), .string body] w fun e w' => ∃ v, e = .returned v ∧ DPost b bm g r w k (if body.size ≤ 15 then n + 1 else n) (n + 1) w' := by
  have hno := qnone_x h
  obtain ⟨⟨c0, c1, c2, c3, c4⟩, _⟩ := h.cells
  have hlast := hB.lastL
  have hpr1 : ((pr : Int) < 0) = False := by simp
  by_cases hb : body.size ≤ 15
  · have hGn : G (last + 1) = none := by
      cases hG : G (last + 1) with
      | none => rfl
      | some j => have := (hB.job _ j hG).2.2.1; omega
    have hok : OkJ ⟨last + 1, pr, body, 1, 0, 0, 0⟩ := ⟨by simp only; omega, hpr, hb, .inl rfl, by simp only; omega, by simp only; omega, by simp only; omega, fun _ => rfl⟩
    have hset := set_x h hn hM h8 ⟨last + 1, pr, body, 1, 0, 0, 0⟩ hok ((last : Int) + 1) pr 1 0 0 0 (by simp) rfl rfl rfl rfl rfl
    simp only [hGn, Option.isSome_none, Bool.false_eq_true, if_false] at hset
    have hBd := (hB.more (now' := now) (by have := hB.nowL; omega)).upd (last' := last + 1) (by omega) (by omega) ⟨last + 1, pr, body, 1, 0, 0, 0⟩ hok (Nat.le_refl _) (by simp only; omega) (by simp only; omega) (by simp only; omega)
    simp only at hBd
    rw [if_pos hb]
    go_enter Tryz.func53, Tryz.ntmps53
    go_wp2_with fail
    refine hno.mono ?_
    rintro e w1 ⟨rfl, rfl⟩
    clear hno
    go_wp2_with fail
    refine hset.mono ?_
    rintro e w1 ⟨rfl, g1, hq1, hg1, hx1⟩
    clear hset
    obtain ⟨⟨d0, d1, d2, d3, d4⟩, f0, f1, f2, f3, f4⟩ := hq1.cells
    obtain ⟨hq2, hx2⟩ := hq1.setLast (last + 1)
    go_wp2_with fail
    go_ret2
    refine ⟨_, rfl, _, _, _, _, ⟨g1, hq2, hg1, hx1.trans (hx2.mono (by simp))⟩, hBd, Nat.le_refl _, Nat.le_refl _⟩
  · rw [if_neg hb]
    go_enter Tryz.func53, Tryz.ntmps53
    go_wp2_with fail
    refine hno.mono ?_
    rintro e w1 ⟨rfl, rfl⟩
    clear hno
    go_wp2_with fail
    go_ret2
    exact ⟨_, rfl, _, _, _, _, QPost.refl h, hB.more (by have := hB.nowL; omega), Nat.le_refl _, by omega⟩
end Go.Proofs.YtfadbmfkidiaoaaGreatDoor
