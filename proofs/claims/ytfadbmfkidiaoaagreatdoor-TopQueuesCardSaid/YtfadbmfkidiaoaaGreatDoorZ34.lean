/- A deed. An index: the pairs in a span. A base of rows in memory. -/
import Derived.Test.YtfadbmfkidiaoaaGreatDoorZ33
namespace Go.Proofs.YtfadbmfkidiaoaaGreatDoor
open Go.RowKit Go Go.MapKept
set_option linter.unusedSimpArgs false
set_option linter.unusedVariables false
set_option linter.unusedSectionVars false
set_option linter.unnecessarySimpa false

set_option maxRecDepth 100000 in
set_option maxHeartbeats 3200000 in
theorem done_any (b bm g r : Nat) (G : Nat → Option Jb) (n last now k : Nat) (kind who id nn : Nat) (body : ByteArray) (w : World) (h : Qx w b bm g r G n last now) (hB : Bd G last now k) (hk : k ≤ 30) (hn : n ≤ 1000) (hM : MxL w) (h8 : 8 ≤ w.heap.size)
    (k1 : kind < 256) (k2 : who < 256) (k3 : id < 256) (k4 : nn < 256) (hbody : body.size ≤ 1000) :
    Calls Tryz.prog 17 #[.pointer (some ⟨b, 0, none⟩), .agg #[.int .u8 kind, .int .u8 who, .int .u8 id, .int .u8 nn, .string body]] w fun e w' => e = .returned (.tuple #[]) ∧ DPost b bm g r w k (if kind % 6 = 0 ∧ body.size ≤ 15 then n + 1 else if kind % 6 = 2 then 0 else n) (n + 1) w' := by
  have hx0 : Ext [] w (w.alloc (.cells #[.int .u8 kind, .int .u8 who, .int .u8 id, .int .u8 nn, .string body] 28)) := (Ext.refl [] w).alloc _
  have h0 := h.ext0 hx0
  have hM0 := hM.ext hx0 (by simp)
  have h80 : 8 ≤ (w.alloc (.cells #[.int .u8 kind, .int .u8 who, .int .u8 id, .int .u8 nn, .string body] 28)).heap.size := by have := hx0.size; omega
  have cw : ((who % 3 + 1 : Nat) : Int) = (who : Int) % 3 + 1 := by omega
  have ci : ((id % 8 : Nat) : Int) = (id : Int) % 8 := by omega
  have cn : ((nn % 10 : Nat) : Int) = (nn : Int) % 10 := by omega
  have cn1 : ((nn + 1 : Nat) : Int) = (nn : Int) + 1 := by omega
  have hfin : ∀ lo w', DPost b bm g r (w.alloc (.cells #[.int .u8 kind, .int .u8 who, .int .u8 id, .int .u8 nn, .string body] 28)) k lo (n + 1) w' → DPost b bm g r w k lo (n + 1) w' := by
    rintro lo w' ⟨G', n', last', now', q1, q2, q3, q4⟩
    exact ⟨G', n', last', now', QPost.from hx0 q1, q2, q3, q4⟩
  have hup : ∀ lo hi w', hi ≤ n + 1 → DPost b bm g r (w.alloc (.cells #[.int .u8 kind, .int .u8 who, .int .u8 id, .int .u8 nn, .string body] 28)) k lo hi w' → DPost b bm g r w k lo (n + 1) w' := by
    rintro lo hi w' hh ⟨G', n', last', now', q1, q2, q3, q4⟩
    exact ⟨G', n', last', now', QPost.from hx0 q1, q2, q3, by omega⟩
  rcases (show kind % 6 = 0 ∨ kind % 6 = 1 ∨ kind % 6 = 2 ∨ kind % 6 = 3 ∨ kind % 6 = 4 ∨ kind % 6 = 5 by omega) with hm | hm | hm | hm | hm | hm
  · have hc := qput_any b bm g r G n last now k (nn % 10) body _ h0 hB hk hn (by omega) hM0 h80 (by omega)
    rw [cn] at hc
    have t0 : ((kind : Int) % 6 == 0) = true := by rw [beq_iff_eq]; omega
    have hcond : (if kind % 6 = 0 ∧ body.size ≤ 15 then n + 1 else if kind % 6 = 2 then 0 else n) = (if body.size ≤ 15 then n + 1 else n) := by simp [hm]
    rw [hcond]
    generalize (if body.size ≤ 15 then n + 1 else n) = lo at *
    have hnow := hB.nowL
    clear hcond cw ci cn cn1 hm
    go_enter Tryz.func17, Tryz.ntmps17
    go_wp2_with fail
    refine hc.mono ?_
    rintro e w1 ⟨v, rfl, hd⟩
    go_wp2_with fail
    go_end0
    exact ⟨rfl, hfin _ _ hd⟩
  · have hc := qtake_any b bm g r G n last now k (who % 3 + 1) (nn + 1) _ h0 hB hk hn hM0 h80 (by omega) (by omega) (by omega) (by omega)
    rw [cw, cn1] at hc
    have t0 : ((kind : Int) % 6 == 0) = false := by rw [beq_eq_false_iff_ne]; omega
    have t1 : ((kind : Int) % 6 == 1) = true := by rw [beq_iff_eq]; omega
    have hcond : (if kind % 6 = 0 ∧ body.size ≤ 15 then n + 1 else if kind % 6 = 2 then 0 else n) = n := by simp [hm]
    rw [hcond]
    have hnow := hB.nowL
    clear hcond cw ci cn cn1 hm
    go_enter Tryz.func17, Tryz.ntmps17
    go_wp2_with fail
    refine hc.mono ?_
    rintro e w1 ⟨v, rfl, hd⟩
    go_wp2_with fail
    go_end0
    exact ⟨rfl, hup _ _ _ (by omega) hd⟩
  · have hc := qfinish_any b bm g r G n last now k (who % 3 + 1) (id % 8) _ h0 hB hk hn hM0 h80 (by omega) (by omega)
    rw [cw, ci] at hc
    have t0 : ((kind : Int) % 6 == 0) = false := by rw [beq_eq_false_iff_ne]; omega
    have t1 : ((kind : Int) % 6 == 1) = false := by rw [beq_eq_false_iff_ne]; omega
    have t2 : ((kind : Int) % 6 == 2) = true := by rw [beq_iff_eq]; omega
    have hcond : (if kind % 6 = 0 ∧ body.size ≤ 15 then n + 1 else if kind % 6 = 2 then 0 else n) = 0 := by simp [hm]
    rw [hcond]
    have hnow := hB.nowL
    clear hcond cw ci cn cn1 hm
    go_enter Tryz.func17, Tryz.ntmps17
    go_wp2_with fail
    refine hc.mono ?_
    rintro e w1 ⟨v, rfl, hd⟩
    go_wp2_with fail
    go_end0
    exact ⟨rfl, hup _ _ _ (by omega) hd⟩
  · have hc := qback_any b bm g r G n last now k (who % 3 + 1) (id % 8) _ h0 hB hk hn hM0 h80 (by omega) (by omega)
    rw [cw, ci] at hc
    have t0 : ((kind : Int) % 6 == 0) = false := by rw [beq_eq_false_iff_ne]; omega
    have t1 : ((kind : Int) % 6 == 1) = false := by rw [beq_eq_false_iff_ne]; omega
    have t2 : ((kind : Int) % 6 == 2) = false := by rw [beq_eq_false_iff_ne]; omega
    have t3 : ((kind : Int) % 6 == 3) = true := by rw [beq_iff_eq]; omega
    have hcond : (if kind % 6 = 0 ∧ body.size ≤ 15 then n + 1 else if kind % 6 = 2 then 0 else n) = n := by simp [hm]
    rw [hcond]
    have hnow := hB.nowL
    clear hcond cw ci cn cn1 hm
    go_enter Tryz.func17, Tryz.ntmps17
    go_wp2_with fail
    refine hc.mono ?_
    rintro e w1 ⟨v, rfl, hd⟩
    go_wp2_with fail
    go_end0
    exact ⟨rfl, hup _ _ _ (by omega) hd⟩
  · have hc := qpass_any b bm g r G n last now k (now + nn) (w.alloc (.cells #[.int .u8 kind, .int .u8 who, .int .u8 id, .int .u8 nn, .string body] 28)).drew (h0.ext0 (Ext.refl [] _).drew) hB hk hn (hM0.ext (Ext.refl [] _).drew (by simp)) h80 (by omega) (by omega)
    rw [Int.natCast_add] at hc
    have t0 : ((kind : Int) % 6 == 0) = false := by rw [beq_eq_false_iff_ne]; omega
    have t1 : ((kind : Int) % 6 == 1) = false := by rw [beq_eq_false_iff_ne]; omega
    have t2 : ((kind : Int) % 6 == 2) = false := by rw [beq_eq_false_iff_ne]; omega
    have t3 : ((kind : Int) % 6 == 3) = false := by rw [beq_eq_false_iff_ne]; omega
    have t4 : ((kind : Int) % 6 == 4) = true := by rw [beq_iff_eq]; omega
    have hnw : Calls Tryz.prog 58 #[.pointer (some ⟨b, 0, none⟩)] (w.alloc (.cells #[.int .u8 kind, .int .u8 who, .int .u8 id, .int .u8 nn, .string body] 28)).drew fun e w' => e = .returned (.int .i64 now) ∧ (w.alloc (.cells #[.int .u8 kind, .int .u8 who, .int .u8 id, .int .u8 nn, .string body] 28)).drew = w' := by
      obtain ⟨L, q1, _, _⟩ := h0.ext0 ((Ext.refl [] _).drew)
      exact qnow_any _ _ _ _ _ _ _ _ _ q1
    have hcond : (if kind % 6 = 0 ∧ body.size ≤ 15 then n + 1 else if kind % 6 = 2 then 0 else n) = n := by simp [hm]
    rw [hcond]
    have hnow := hB.nowL
    clear hcond cw ci cn cn1 hm
    go_enter Tryz.func17, Tryz.ntmps17
    go_wp2_with fail
    have s1 : IntKind.i64.wrap ((now : Int) + IntKind.i64.wrap (nn : Int)) = (now : Int) + nn := by rw [IntWalk.i64_in (nn : Int) (by omega), IntWalk.i64_in _ (by omega)]
    have hc2 := hc
    rw [← s1] at hc2
    go_region_with
      (first
        | (go_at_call 58; refine hnw.mono ?_; rintro e w1 ⟨rfl, rfl⟩)
        | (go_at_call 57; (first | (with_reducible refine hc2.mono ?_) | (with_reducible refine hc.mono ?_)); rintro e w1 ⟨v, rfl, hd⟩))
    all_goals (
      clear hc hnw s1
      go_wp2_with fail
      go_end0
      obtain ⟨G', n', last', now', q1, q2, q3, q4⟩ := hd
      exact ⟨rfl, G', n', last', now', QPost.from hx0.drew q1, q2, q3, by omega⟩)
  · have hc := qrevive_any b bm g r G n last now k (id % 8) _ h0 hB hk hn hM0 h80
    rw [ci] at hc
    have t0 : ((kind : Int) % 6 == 0) = false := by rw [beq_eq_false_iff_ne]; omega
    have t1 : ((kind : Int) % 6 == 1) = false := by rw [beq_eq_false_iff_ne]; omega
    have t2 : ((kind : Int) % 6 == 2) = false := by rw [beq_eq_false_iff_ne]; omega
    have t3 : ((kind : Int) % 6 == 3) = false := by rw [beq_eq_false_iff_ne]; omega
    have t4 : ((kind : Int) % 6 == 4) = false := by rw [beq_eq_false_iff_ne]; omega
    have hcond : (if kind % 6 = 0 ∧ body.size ≤ 15 then n + 1 else if kind % 6 = 2 then 0 else n) = n := by simp [hm]
    rw [hcond]
    have hnow := hB.nowL
    clear hcond cw ci cn cn1 hm
    go_enter Tryz.func17, Tryz.ntmps17
    go_wp2_with fail
    refine hc.mono ?_
    rintro e w1 ⟨v, rfl, hd⟩
    go_wp2_with fail
    go_end0
    exact ⟨rfl, hup _ _ _ (by omega) hd⟩
end Go.Proofs.YtfadbmfkidiaoaaGreatDoor

namespace Go.Proofs.YtfadbmfkidiaoaaGreatDoor
open Go.RowKit Go Go.MapKept
set_option linter.unusedSimpArgs false
set_option linter.unusedVariables false
set_option linter.unusedSectionVars false
set_option linter.unnecessarySimpa false

def WiRel (w1 : World) (D : Pairs) (sel : ByteArray × ByteArray → Bool) (ov iv : Value) (wl : World) : Prop :=
  ∃ (i m : Nat) (A : Option Addr) (c' go : Nat), iv = .int .i64 i ∧ i ≤ D.length ∧ m = ((D.take i).filter sel).length ∧ ov = .slice A m c' ∧ Row wl go 77 2 (.slice A m c') m (pcs ((D.take i).filter sel)) ∧ w1.heap.size ≤ go ∧ Ext [] w1 wl
theorem WiRel.skip {w1 wl wr : World} {D : Pairs} {sel : ByteArray × ByteArray → Bool} {ov : Value} {i m : Nat} {A : Option Addr} {c' go : Nat} (hi : i < D.length) (hm : m = ((D.take i).filter sel).length) (hs : sel (D[i]'hi) = false) (hr : Row wl go 77 2 (.slice A m c') m (pcs ((D.take i).filter sel))) (hgo : w1.heap.size ≤ go) (hx : Ext [] w1 wl) (hx2 : Ext [] wl wr) (ho : ov = .slice A m c') :
    WiRel w1 D sel ov (.int .i64 ((i + 1 : Nat) : Int)) wr := by
  have e := take_filter D sel i hi
  rw [hs, if_neg (by simp), List.append_nil] at e
  exact ⟨i + 1, m, A, c', go, rfl, by omega, by rw [e]; exact hm, ho, by rw [e]; exact hr.ext hx2 (by simp), hgo, hx.trans hx2⟩
set_option maxRecDepth 100000 in
set_option maxHeartbeats 8000000 in
theorem within_any (b g : Nat) (D : Pairs) (lo hi : ByteArray) (w : World) (hm : Mdl w b g D) (hn : D.length ≤ 1000) (hto : hi.toList.isEmpty = false) (sel : ByteArray × ByteArray → Bool) (hsel : sel = fun p => selK lo hi p.1) :
    Calls Tryz.prog 83 #[.pointer (some ⟨b, 0, none⟩), .string lo, .string hi] w fun e w' => ∃ g' v', e = .returned v' ∧ Row w' g' 77 2 v' (D.filter sel).length (pcs (D.filter sel)) ∧ w.heap.size ≤ g' ∧ Ext [] w w' := by
  have hpr := pairs_any b g D w hm (by omega)
  have hsj : ∀ p, sel p = selK lo hi p.1 := by rw [hsel]; exact fun _ => rfl
  clear hsel hm
  go_enter Tryz.func83, Tryz.ntmps83
  go_wp2_with fail
  refine hpr.mono ?_
  rintro e w3 ⟨gp, vp, rfl, hrp, hgp, hx3⟩
  clear hpr
  have hz3 := hx3.size
  obtain ⟨Ap, cp, rfl, _⟩ := hrp.vw.form
  have HPR := Lib.hid hrp.vw
  clear hrp
  generalize hN : D.length = N at *
  have HN := Lib.hid hN; clear hN
  go_wp2_with fail
  go_loopw [7, 13] (WiRel w3 D sel) (fun _ iv _ => N - (intOf iv).toNat)
  case atStart => exact ⟨0, 0, none, 0, w3.heap.size, rfl, Nat.zero_le _, rfl, rfl, .nil, Nat.le_refl _, Ext.refl _ _⟩
  case round =>
    obtain ⟨i, m, A, c', go, rfl, hi', hm, rfl, hro, hgo, hx⟩ := hrel
    have HM := Lib.hid hm; clear hm
    rw [HN.out] at hi'
    by_cases hlt : i < N
    · have hil : i < D.length := by have := HN.out; omega
      have hvp := HPR.out
      obtain ⟨o, rfl⟩ := hvp.headU (by omega)
      obtain ⟨k0, k1⟩ := (hvp.ext hx (by simp)).pair i hlt
      have e0 : kAt D i = (D[i]'hil).1 := kAt_eq _ _ hil
      have e1 : vAt D i = (D[i]'hil).2 := vAt_eq _ _ hil
      rw [e0] at k0
      rw [e1] at k1
      clear e0 e1
      have htf := Lib.hid (take_filter D sel i hil)
      have hss := hsj (D[i]'hil)
      unfold selK at hss
      generalize hJ : (D[i]'hil) = J at *
      have HJJ := Lib.hid hJ; clear hJ
      obtain ⟨K, V⟩ := J
      simp only at k0 k1 hss
      have q1 := bless K lo
      have q2 := bless K hi
      have hn1 := heap_alloc_new wr (.cells #[.string K, .string V] 77)
      have hxa : Ext [] wr (wr.alloc (.cells #[.string K, .string V] 77)) := (Ext.refl [] wr).alloc _
      by_cases g1 : klt K lo
      · have hss' : sel (K, V) = false := by rw [hss]; simp [g1]
        clear hss
        simp only [g1, decide_true] at q1
        clear q2
        go_wp2_with fail
        refine ⟨?rel, ?measure⟩
        case rel => exact WiRel.skip hil HM.out (by rw [HJJ.out]; exact hss') hro hgo hx hxa rfl
        case measure => simp [intOf]; omega
      · simp only [g1, decide_false] at q1
        by_cases g2 : klt K hi
        · have hss' : sel (K, V) = true := by rw [hss]; simp [g1, g2]
          clear hss
          simp only [g2, decide_true] at q2
          rw [hss', if_pos rfl] at htf
          obtain ⟨⟨b0, b1⟩, _⟩ : ((wr.alloc (.cells #[.string K, .string V] 77)).cell? ⟨wr.heap.size, 0, none⟩ = some (.string K) ∧ (wr.alloc (.cells #[.string K, .string V] 77)).cell? ⟨wr.heap.size, 1, none⟩ = some (.string V)) ∧ True := ⟨⟨cell_of_row _ _ 0 _ _ _ hn1, cell_of_row _ _ 1 _ _ _ hn1⟩, trivial⟩
          have hn2 := Row.new (wr.alloc (.cells #[.string K, .string V] 77)) 77 2 #[.string K, .string V] 1 1 (by omega) (by simp [maxLen]) rfl
          simp only [World.size_alloc] at hn2
          have hro6 := (hro.ext hxa (by simp)).ext ((Ext.refl [] (wr.alloc (.cells #[.string K, .string V] 77))).alloc (.cells #[.string K, .string V] 77)) (by simp)
          have hone : ∀ u ∈ pcs [(K, V)], u.oneCell' = true := pcs_one [(K, V)]
          have hpc : pcs [(K, V)] = [.string K, .string V] := rfl
          rw [hpc] at hone
          have hmb : m ≤ 1000 := by
            have h1 := HM.out
            have h2 := List.length_filter_le sel (D.take i)
            have h3 := List.length_take_le i D
            omega
          go_wp2_with ((with_reducible refine wpList_append T32 rfl (.tmp 31) (.tmp 33) rfl rfl rfl hro6 hn2.vw hone (by omega) (by omega) ?_); rintro g9 A9 c9 w9 hr9 hx9 hg9 hA9 _ _; obtain rfl := hA9 (by omega))
          have sx := hx.size
          simp only [World.size_alloc] at hg9
          have hxa9 : Ext [go] wr w9 := (((Ext.refl [go] wr).alloc _).alloc _).trans hx9
          refine ⟨?rel, ?measure⟩
          case rel =>
            refine ⟨i + 1, m + 1, some ⟨g9, 0, none⟩, c9, g9, by go_num, by have := HN.out; omega, ?_, rfl, ?_, by omega, hx.step hxa9 (by simp; omega)⟩
            · rw [htf.out, List.length_append, ← HM.out]; rfl
            · rw [htf.out, pcs_append, hpc]; exact hr9
          case measure => simp [intOf]; omega
        · have hss' : sel (K, V) = false := by rw [hss]; simp [g1, g2]
          clear hss
          simp only [g2, decide_false] at q2
          go_wp2_with fail
          refine ⟨?rel, ?measure⟩
          case rel => exact WiRel.skip hil HM.out (by rw [HJJ.out]; exact hss') hro hgo hx hxa rfl
          case measure => simp [intOf]; omega
    · obtain rfl : i = N := by omega
      go_wp2_with fail
      go_ret
      have e : D.take i = D := List.take_of_length_le (by have := HN.out; omega)
      rw [e] at hro
      have hmm := HM.out
      rw [e] at hmm
      exact ⟨go, _, rfl, by rw [← hmm]; exact hro, by omega, hx3.trans hx⟩
end Go.Proofs.YtfadbmfkidiaoaaGreatDoor

namespace Go.Proofs.YtfadbmfkidiaoaaGreatDoor
open Go.RowKit Go Go.MapKept
set_option linter.unusedSimpArgs false
set_option linter.unusedVariables false
set_option linter.unusedSectionVars false
set_option linter.unnecessarySimpa false

/-- a base of jobs' rows at block b, its map at bm with the pairs D in g; an index over who has them -/
structure Bs (w : World) (b bm g : Nat) (vk vr vx vc : Value) (gk gr gx gc : Nat) (D : Pairs) : Prop where
  blk : w.heap[b]? = some (.cells #[.int .i64 1, vk, vr, vx, .pointer (some ⟨bm, 0, none⟩)] 155 (0, 0))
  k : Vw w gk 52 1 vk 3 (nts [1, 1, 1])
  r : Vw w gr 52 1 vr 4 (nts [1, 3, 1, 1])
  x : Vw w gx 60 3 vx 1 [.int .i64 2, vc, .bool false]
  c : Vw w gc 3 1 vc 1 [.int .i64 6]
  mdl : Mdl w bm g D
  lt : gk < w.heap.size ∧ gr < w.heap.size ∧ gx < w.heap.size ∧ gc < w.heap.size
  ne : b ≠ gk ∧ b ≠ gr ∧ b ≠ gx ∧ b ≠ gc ∧ b ≠ bm ∧ b ≠ g
  lo : 8 ≤ b
theorem Bs.ext {w w' : World} {b bm g : Nat} {vk vr vx vc : Value} {gk gr gx gc : Nat} {D : Pairs} (h : Bs w b bm g vk vr vx vc gk gr gx gc D) (hx : Ext [] w w') : Bs w' b bm g vk vr vx vc gk gr gx gc D := by
  obtain ⟨h1, h2, h3, h4, h5, h6, h7, h8, h9⟩ := h
  have := hx.size
  exact ⟨hx.keep h1 (by simp), h2.ext hx (by simp), h3.ext hx (by simp), h4.ext hx (by simp), h5.ext hx (by simp), h6.ext hx (by simp) (by simp), by omega, h8, h9⟩
theorem Bs.tb {w : World} {b bm g : Nat} {vk vr vx vc : Value} {gk gr gx gc : Nat} {D : Pairs} (h : Bs w b bm g vk vr vx vc gk gr gx gc D) : Tb w (.agg #[.int .i64 1, vk, vr]) 1 [1, 1, 1] [1, 3, 1, 1] :=
  ⟨⟨vk, vr, gk, gr, rfl, h.k, h.r, h.lt.1, h.lt.2.1⟩, by omega, by omega, by simp, by simp, by simp, by simp [Kd], by simp [Kd]⟩
theorem Bs.cells {w : World} {b bm g : Nat} {vk vr vx vc : Value} {gk gr gx gc : Nat} {D : Pairs} (h : Bs w b bm g vk vr vx vc gk gr gx gc D) :
    w.cell? ⟨b, 0, none⟩ = some (.int .i64 1) ∧ w.cell? ⟨b, 1, none⟩ = some vk ∧ w.cell? ⟨b, 2, none⟩ = some vr ∧ w.cell? ⟨b, 3, none⟩ = some vx ∧ w.cell? ⟨b, 4, none⟩ = some (.pointer (some ⟨bm, 0, none⟩)) :=
  (cells5 h.blk).1
set_option maxRecDepth 100000 in
set_option maxHeartbeats 800000 in
theorem bnone_any {w : World} {b bm g : Nat} {vk vr vx vc : Value} {gk gr gx gc : Nat} {D : Pairs} (h : Bs w b bm g vk vr vx vc gk gr gx gc D) :
    Calls Tryz.prog 75 #[.pointer (some ⟨b, 0, none⟩)] w fun e w' => e = .returned (.bool false) ∧ w = w' := by
  obtain ⟨c0, c1, c2, c3, c4⟩ := h.cells
  go_enter Tryz.func75, Tryz.ntmps75
  go_wp2_with fail
  go_ret
  exact ⟨ret1 rfl, rfl⟩
set_option maxRecDepth 100000 in
set_option maxHeartbeats 800000 in
theorem bget_yes {w : World} {b bm g : Nat} {vk vr vx vc : Value} {gk gr gx gc : Nat} {D : Pairs} (h : Bs w b bm g vk vr vx vc gk gr gx gc D) (js : List Jb) (hD : IX D js) (hn : D.length ≤ 1000) (j : Jb) (hj : j ∈ js) (hM : MxL w) (h8 : 8 ≤ w.heap.size) :
    Calls Tryz.prog 78 #[.pointer (some ⟨b, 0, none⟩), .string (keyJ j)] w fun e w' => ∃ g' v', e = .returned (.tuple #[v', .int .i64 0]) ∧ Row w' g' 93 5 v' 7 (clsC (kJ j ++ rJ j)) ∧ w.heap.size ≤ g' ∧ g' < w'.heap.size ∧ Ext [] w w' := by
  obtain ⟨c0, c1, c2, c3, c4⟩ := h.cells
  have hok := (hD.ok j hj).1
  have hks := keyJ_size hok
  obtain ⟨hh, hl⟩ := hD.look hj
  have hget := get_yes bm g D (keyJ j) w h.mdl (by omega) hD.srt hks.1 hks.2 hh
  rw [hl] at hget
  have hrd := fun W (hx : Ext [] w W) => readJ j hok _ W (h.tb.ext hx) (hM.ext hx (by simp)) (by have := hx.size; omega)
  generalize keyJ j = K at *
  generalize valJ j = V at *
  go_enter Tryz.func78, Tryz.ntmps78
  go_wp2_with fail
  refine hget.mono ?_
  rintro e w1 ⟨rfl, hx1⟩
  have d0 := hx1.cell c0 (by simp)
  have d1 := hx1.cell c1 (by simp)
  have d2 := hx1.cell c2 (by simp)
  have hrd1 := hrd w1 hx1
  clear hget hrd c0 c1 c2 c3 c4 hh hl
  go_wp2_with fail
  refine hrd1.mono ?_
  rintro e w2 ⟨g2, v2, rfl, hr2, hg2, hg2', hx2⟩
  clear hrd1
  go_wp2_with fail
  go_ret2
  have := hx1.size
  exact ⟨g2, v2, rfl, hr2, by omega, hg2', hx1.trans hx2⟩
set_option maxRecDepth 100000 in
set_option maxHeartbeats 800000 in
theorem bget_no {w : World} {b bm g : Nat} {vk vr vx vc : Value} {gk gr gx gc : Nat} {D : Pairs} (h : Bs w b bm g vk vr vx vc gk gr gx gc D) (hs : Srt D) (hn : D.length ≤ 1000) (K : ByteArray) (hk1 : 1 ≤ K.size) (hk2 : K.size ≤ 24) (hh : has D K = false) :
    Calls Tryz.prog 78 #[.pointer (some ⟨b, 0, none⟩), .string K] w fun e w' => e = .returned (.tuple #[.slice none 0 0, .int .i64 9]) ∧ Ext [] w w' := by
  obtain ⟨c0, c1, c2, c3, c4⟩ := h.cells
  have hget := get_no bm g D K w h.mdl (by omega) hs hk1 hk2 hh
  clear hh
  go_enter Tryz.func78, Tryz.ntmps78
  go_wp2_with fail
  refine hget.mono ?_
  rintro e w1 ⟨rfl, hx1⟩
  go_wp2_with fail
  go_ret2
  exact ⟨rfl, hx1⟩
set_option maxRecDepth 100000 in
set_option maxHeartbeats 800000 in
theorem bGet_yes {w : World} {b bm g : Nat} {vk vr vx vc : Value} {gk gr gx gc : Nat} {D : Pairs} (h : Bs w b bm g vk vr vx vc gk gr gx gc D) (js : List Jb) (hD : IX D js) (hn : D.length ≤ 1000) (j : Jb) (hj : j ∈ js) (hM : MxL w) (h8 : 8 ≤ w.heap.size) (gl : Nat) (vl : Value) (hv : Vw w gl 93 5 vl 3 (clsC (kJ j))) (hgl : gl < w.heap.size) :
    Calls Tryz.prog 84 #[.pointer (some ⟨b, 0, none⟩), vl] w fun e w' => ∃ g' v', e = .returned (.tuple #[v', .int .i64 0]) ∧ Row w' g' 93 5 v' 7 (clsC (kJ j ++ rJ j)) ∧ w.heap.size ≤ g' ∧ g' < w'.heap.size ∧ Ext [] w w' := by
  obtain ⟨c0, c1, c2, c3, c4⟩ := h.cells
  have hno := bnone_any h
  have hok := (hD.ok j hj).1
  have hkey : Calls Tryz.prog 132 #[.agg #[.int .i64 1, vk, vr], vl] w fun e w' => e = .returned (.tuple #[.string (keyJ j), .int .i64 0]) ∧ Ext [] w w' :=
    key_any 1 gl _ vl (kJ j) [1, 3, 1, 1] w h.tb hv (fun c hc => hok.cells c (by simp [hc])) hgl hok.k23 hM h8
  have hget := fun W (hx : Ext [] w W) => bget_yes (h.ext hx) js hD hn j hj (hM.ext hx (by simp)) (by have := hx.size; omega)
  generalize keyJ j = K at *
  go_enter Tryz.func84, Tryz.ntmps84
  go_wp2_with fail
  refine hno.mono ?_
  rintro e w1 ⟨rfl, rfl⟩
  clear hno
  go_wp2_with fail
  refine hkey.mono ?_
  rintro e w1 ⟨rfl, hx1⟩
  have hg1 := hget w1 hx1
  clear hkey hget c0 c1 c2 c3 c4
  go_wp2_with fail
  refine hg1.mono ?_
  rintro e w2 ⟨g2, v2, rfl, hr2, hg2, hg2', hx2⟩
  go_wp2_with fail
  go_ret2
  have := hx1.size
  exact ⟨g2, v2, rfl, hr2, by omega, hg2', hx1.trans hx2⟩
end Go.Proofs.YtfadbmfkidiaoaaGreatDoor
