/- An index: lists of rows; all rows. An index made: slices cloned. -/
import Derived.Test.YtfadbmfkidiaoaaGreatDoorZ36
namespace Go.Proofs.YtfadbmfkidiaoaaGreatDoor
open Go.RowKit Go Go.MapKept
set_option linter.unusedSimpArgs false
set_option linter.unusedVariables false
set_option linter.unusedSectionVars false
set_option linter.unnecessarySimpa false

theorem T72 : SlT Tryz.prog 72 73 1 24 := slT_mk (z := .slice none 0 0) Tryz.underlying72 (by kernel_rfl) rfl (by omega)
/-- rows of jobs, whose blocks lie at B or behind it and are not q -/
def RwL (w : World) (B q : Nat) : List Value → List Jb → Prop
  | [], [] => True
  | v :: vs, j :: is => (∃ g, B ≤ g ∧ g < w.heap.size ∧ g ≠ q ∧ Vw w g 93 5 v 7 (clsC (kJ j ++ rJ j))) ∧ RwL w B q vs is
  | _, _ => False
theorem RwL.ext {w w' : World} {B q q' : Nat} {vs : List Value} {is : List Jb} {S : List Nat} (h : RwL w B q vs is) (hx : Ext S w w') (hS : ∀ x ∈ S, x < B ∨ w.heap.size ≤ x ∨ x = q) (hq : q' = q ∨ w.heap.size ≤ q' ∨ q' < B) : RwL w' B q' vs is := by
  have hz := hx.size
  induction vs generalizing is with
  | nil => cases is with
    | nil => trivial
    | cons j is => exact h.elim
  | cons v vs ih => cases is with
    | nil => exact h.elim
    | cons j is =>
      obtain ⟨⟨g, h1, h2, h3, h4⟩, h5⟩ := h
      exact ⟨⟨g, h1, by omega, by omega, h4.ext hx (fun hg => by have := hS g hg; omega)⟩, ih h5⟩
theorem RwL.snoc {w : World} {B q : Nat} {vs : List Value} {is : List Jb} (h : RwL w B q vs is) {v : Value} {j : Jb} {g : Nat} (h1 : B ≤ g) (h2 : g < w.heap.size) (h3 : g ≠ q) (h4 : Vw w g 93 5 v 7 (clsC (kJ j ++ rJ j))) : RwL w B q (vs ++ [v]) (is ++ [j]) := by
  induction vs generalizing is with
  | nil => cases is with
    | nil => exact ⟨⟨g, h1, h2, h3, h4⟩, trivial⟩
    | cons j is => exact h.elim
  | cons v vs ih => cases is with
    | nil => exact h.elim
    | cons j is => exact ⟨h.1, ih h.2⟩
theorem RwL.len {w : World} {B q : Nat} {vs : List Value} {is : List Jb} (h : RwL w B q vs is) : vs.length = is.length := by
  induction vs generalizing is with
  | nil => cases is with
    | nil => rfl
    | cons j is => exact h.elim
  | cons v vs ih => cases is with
    | nil => exact h.elim
    | cons j is => simp [ih h.2]
theorem RwL.at_ {w : World} {B q : Nat} {vs : List Value} {is : List Jb} (h : RwL w B q vs is) (i : Nat) (hi : i < is.length) : ∃ v g, vs[i]? = some v ∧ B ≤ g ∧ g < w.heap.size ∧ g ≠ q ∧ Vw w g 93 5 v 7 (clsC (kJ is[i] ++ rJ is[i])) := by
  induction vs generalizing is i with
  | nil => cases is with
    | nil => simp at hi
    | cons j is => exact h.elim
  | cons v vs ih => cases is with
    | nil => exact h.elim
    | cons j is =>
      cases i with
      | zero => obtain ⟨⟨g, h1, h2, h3, h4⟩, _⟩ := h; exact ⟨v, g, rfl, h1, h2, h3, h4⟩
      | succ i => exact ih h.2 i (by simpa using hi)
theorem Row.pick {W : World} {g e sz : Nat} {v : Value} {n : Nat} {cs : List Value} (h : Row W g e sz v n cs) (K : Nat) : ∃ g', Row W g' e sz v n cs ∧ ((g' = g ∧ g < W.heap.size) ∨ g' = K) := by
  rcases h.split with ⟨rfl, rfl, rfl⟩ | ⟨c, cur, h1, h2, h3, h4, h5⟩
  · exact ⟨K, .nil, .inr rfl⟩
  · exact ⟨g, h, .inl ⟨rfl, lt_of_block h4⟩⟩
theorem one_slice {w : World} {g n : Nat} {v : Value} {cs : List Value} (h : Vw w g 93 5 v n cs) : ∀ u ∈ [v], u.oneCell' = true := by
  intro u hu
  simp only [List.mem_singleton] at hu
  subst hu
  obtain ⟨A, c, rfl, _⟩ := h.form
  rfl
theorem held5x {w W W' : World} {a b c d e : Addr} {x1 x2 x3 x4 x5 : Value} (h : W.cell? a = some x1 ∧ W.cell? b = some x2 ∧ W.cell? c = some x3 ∧ W.cell? d = some x4 ∧ W.cell? e = some x5 ∧ Ext [] w W) (hx : Ext [] W W') : W'.cell? a = some x1 ∧ W'.cell? b = some x2 ∧ W'.cell? c = some x3 ∧ W'.cell? d = some x4 ∧ W'.cell? e = some x5 ∧ Ext [] w W' :=
  ⟨hx.cell h.1 (by simp), hx.cell h.2.1 (by simp), hx.cell h.2.2.1 (by simp), hx.cell h.2.2.2.1 (by simp), hx.cell h.2.2.2.2.1 (by simp), h.2.2.2.2.2.trans hx⟩
theorem conj5' {p0 p1 p2 p3 p4 : Prop} {w W : World} (h : p0 ∧ p1 ∧ p2 ∧ p3 ∧ p4 ∧ Ext [] w W) : Ext [] w W := h.2.2.2.2.2
def RoRel (w3 : World) (B : Nat) (js : List Jb) (ov iv : Value) (wl : World) : Prop :=
  ∃ (i : Nat) (A : Option Addr) (c' go : Nat) (vs : List Value), iv = .int .i64 i ∧ i ≤ js.length ∧ ov = .slice A i c' ∧ Row wl go 73 1 (.slice A i c') i vs ∧ RwL wl B go vs (js.take i) ∧ w3.heap.size ≤ go ∧ Ext [] w3 wl
set_option maxRecDepth 100000 in
set_option maxHeartbeats 8000000 in
theorem rows_any {w : World} {b bm g : Nat} {vk vr vx vc : Value} {gk gr gx gc : Nat} {D : Pairs} (h : Bs w b bm g vk vr vx vc gk gr gx gc D) (js : List Jb) (hD : IX D js) (hs : Srt (js.map fun j => (keyJ j, valJ j))) (hn : D.length ≤ 500) (hM : MxL w) (h8 : 8 ≤ w.heap.size) :
    Calls Tryz.prog 31 #[.pointer (some ⟨b, 0, none⟩)] w fun e w' => ∃ g' v' vs, e = .returned v' ∧ Row w' g' 73 1 v' js.length vs ∧ RwL w' w.heap.size g' vs js ∧ w.heap.size ≤ g' ∧ Ext [] w w' := by
  obtain ⟨c0, c1, c2, c3, c4⟩ := h.cells
  have hno := bnone_any h
  have hspan := span_any 1 0 _ (.slice none 0 0) [] [1, 1, 1] [1, 3, 1, 1] w h.tb rfl (by simp) .nil (fun c hc => by cases hc) (by omega) (by simp [csB]) hM h8 [] 1 rfl (by decide)
  have hlo : keyB 1 [] = ⟨#[1]⟩ := ba_ext (by show bl _ = _; rw [keyB_bl]; rfl)
  have hhi : (⟨([] ++ [(1 : UInt8) + 1]).toArray⟩ : ByteArray) = ⟨#[2]⟩ := rfl
  rw [hlo, hhi] at hspan
  have hwi := fun W (hx : Ext [] w W) => within_any bm g D ⟨#[1]⟩ ⟨#[2]⟩ W (h.mdl.ext hx (by simp) (by simp)) (by omega) (str_ne (by show 1 ≤ 1; omega)) _ rfl
  rw [hD.rows hs] at hwi
  have hjl : js.length ≤ 500 := by have := hD.len; omega
  have hHO := Lib.hid hD.ok
  clear hlo hhi
  generalize (⟨#[1]⟩ : ByteArray) = lo at *
  generalize (⟨#[2]⟩ : ByteArray) = hi at *
  go_enter Tryz.func31, Tryz.ntmps31
  go_wp2_with fail
  refine hno.mono ?_
  rintro e w1 ⟨rfl, rfl⟩
  clear hno
  go_wp2_with fail
  refine hspan.mono ?_
  rintro e w1 ⟨rfl, hx1⟩
  have hwi1 := hwi w1 hx1
  have d4 := hx1.cell c4 (by simp)
  clear hspan hwi c0 c1 c2 c3 c4
  go_wp2_with fail
  refine hwi1.mono ?_
  rintro e w3 ⟨gp, vp, rfl, hrp, hgp, hx3⟩
  clear hwi1
  have hx03 := hx1.trans hx3
  have hz03 := hx03.size
  rw [List.length_map] at hrp
  obtain ⟨Ap, cp, rfl, _⟩ := hrp.vw.form
  have HPR := Lib.hid hrp.vw
  clear hrp
  generalize hN : js.length = N at *
  have HN := Lib.hid hN; clear hN
  go_wp2_with fail
  go_loopw [6, 30] (RoRel w3 w.heap.size js) (fun _ iv _ => N - (intOf iv).toNat)
  case atStart => exact ⟨0, none, 0, w3.heap.size, [], rfl, Nat.zero_le _, rfl, .nil, trivial, Nat.le_refl _, Ext.refl _ _⟩
  case round =>
    obtain ⟨i, A, c', go, vs, rfl, hi', rfl, hro, hrw, hgo, hx⟩ := hrel
    rw [HN.out] at hi'
    by_cases hlt : i < N
    · have hil : i < js.length := by have := HN.out; omega
      have hvp := HPR.out
      obtain ⟨o, rfl⟩ := hvp.headU (by omega)
      obtain ⟨k0, k1⟩ := (hvp.ext hx (by simp)).pair i hlt
      have e0 : kAt (js.map fun j => (keyJ j, valJ j)) i = keyJ (js[i]'hil) := by rw [kAt_eq _ _ (by rw [List.length_map]; omega)]; simp
      have e1 : vAt (js.map fun j => (keyJ j, valJ j)) i = valJ (js[i]'hil) := by rw [vAt_eq _ _ (by rw [List.length_map]; omega)]; simp
      rw [e0] at k0
      rw [e1] at k1
      clear e0 e1
      have hjo := (hHO.out _ (List.getElem_mem hil)).1
      have htk := Lib.hid (show js.take (i + 1) = js.take i ++ [js[i]'hil] by rw [List.take_add_one, List.getElem?_eq_getElem hil]; rfl)
      generalize (js[i]'hil) = J at *
      have hr0 := h.ext (hx03.trans hx)
      obtain ⟨c0, c1, c2, _⟩ := hr0.cells
      have hxr := hx03.trans hx
      have hrd := fun W (hxx : Ext [] wr W) => readJ J hjo _ W (hr0.tb.ext hxx) ((hM.ext hxr (by simp)).ext hxx (by simp)) (by have := hxr.size; have := hxx.size; omega)
      generalize keyJ J = K at *
      generalize valJ J = V at *
      have hxa : Ext [] wr (wr.alloc (.cells #[.string K, .string V] 77)) := (Ext.refl [] _).alloc _
      have hn1 := heap_alloc_new wr (.cells #[.string K, .string V] 77)
      obtain ⟨W0, hW0⟩ : ∃ W0, W0 = (wr.alloc (.cells #[.string K, .string V] 77)) := ⟨_, rfl⟩
      rw [← hW0] at hxa hn1
      have b0 : W0.cell? ⟨wr.heap.size, 0, none⟩ = some (.string K) := cell_of_row _ _ 0 _ _ _ hn1
      have b1 : W0.cell? ⟨wr.heap.size, 1, none⟩ = some (.string V) := cell_of_row _ _ 1 _ _ _ hn1
      have a0 := hxa.cell c0 (by simp)
      have a1 := hxa.cell c1 (by simp)
      have a2 := hxa.cell c2 (by simp)
      have hpt : W0.cell? ⟨b, 0, none⟩ = some (.int .i64 1) ∧ W0.cell? ⟨b, 1, none⟩ = some vk ∧ W0.cell? ⟨b, 2, none⟩ = some vr ∧ W0.cell? ⟨wr.heap.size, 0, none⟩ = some (.string K) ∧ W0.cell? ⟨wr.heap.size, 1, none⟩ = some (.string V) ∧ Ext [] W0 W0 := ⟨a0, a1, a2, b0, b1, Ext.refl _ _⟩
      clear c0 c1 c2
      go_wp2_with fail
      rw [← hW0]
      clear hW0
      go_region_held3 (fun W => W.cell? ⟨b, 0, none⟩ = some (.int .i64 1) ∧ W.cell? ⟨b, 1, none⟩ = some vk ∧ W.cell? ⟨b, 2, none⟩ = some vr ∧ W.cell? ⟨wr.heap.size, 0, none⟩ = some (.string K) ∧ W.cell? ⟨wr.heap.size, 1, none⟩ = some (.string V) ∧ Ext [] W0 W)
        (first | exact held5x hpt (Ext.refl [] W0).drew | exact held5x (by assumption) hxn)
        (first
          | (go_at_call 24; refine (hrd _ (hxa.trans (conj5' (by assumption)))).mono ?_; rintro e w5 ⟨g5, v5, rfl, hr5, hg5, hg5', hxn⟩))
      rename_i hHeld
      have hS := conj5' hHeld
      clear hHeld hpt
      obtain ⟨A5, c5', rfl, hA5, _⟩ := hr5.form
      obtain rfl := hA5 (by omega)
      all_goals (
        have hx05 : Ext [] wr w5 := hxa.trans hS
        have hz5 := hS.size
        have hzW : W0.drew.heap.size = W0.heap.size := rfl
        have hza := hxa.size
        have hlt0 := lt_of_block hn1
        have hzr := hx.size
        obtain ⟨go2, hro2, hpk⟩ := hro.pick (w5.heap.size + 1)
        have hro5 := (hro2.ext hx05 (by simp)).ext ((Ext.refl [] w5).alloc (.cells #[.slice (some ⟨g5, 0, none⟩) 7 c5'] 73)) (by simp)
        have hn2 := Row.new w5 73 1 #[.slice (some ⟨g5, 0, none⟩) 7 c5'] 1 1 (by omega) (by simp [maxLen]) rfl
        have hone := one_slice hr5.vw
        have hrw5 : RwL w5 w.heap.size go2 vs (js.take i) := hrw.ext hx05 (by simp) (by omega)
        have hrw6 := hrw5.snoc (v := .slice (some ⟨g5, 0, none⟩) 7 c5') (j := J) (g := g5) (by omega) hg5' (by omega) hr5.vw
        clear hrd hrw hro hro2 hr5 a0 a1 a2 b0 b1 k0 k1 hr0
        go_wp2_with ((with_reducible refine wpList_append T72 rfl (.tmp 46) (.tmp 48) rfl rfl rfl hro5 hn2.vw hone (by omega) (by omega) ?_); rintro g9 A9 c9 w9 hr9 hx9 hg9 hA9 _ _; obtain rfl := hA9 (by omega))
        simp only [World.size_alloc] at hg9
        have hx59 : Ext [go2] w5 w9 := ((Ext.refl [go2] w5).alloc _).trans hx9
        have hxf : Ext [] w3 w9 := (hx.trans hx05).step hx59 (by simp; omega)
        refine ⟨?rel, ?measure⟩
        case rel =>
          refine ⟨i + 1, some ⟨g9, 0, none⟩, c9, g9, vs ++ [.slice (some ⟨g5, 0, none⟩) 7 c5'], by go_num, by have := HN.out; omega, rfl, hr9, ?_, by omega, hxf⟩
          rw [htk.out]
          exact hrw6.ext hx59 (by simp) (by omega)
        case measure => simp [intOf]; omega)
    · obtain rfl : i = N := by omega
      have e : js.take i = js := List.take_of_length_le (by have := HN.out; omega)
      rw [e] at hrw
      go_wp2_with fail
      go_ret
      exact ⟨go, _, vs, rfl, by rw [HN.out]; exact hro, hrw, by omega, hx03.trans hx⟩
end Go.Proofs.YtfadbmfkidiaoaaGreatDoor

namespace Go.Proofs.YtfadbmfkidiaoaaGreatDoor
open Go.RowKit Go Go.MapKept
set_option linter.unusedSimpArgs false
set_option linter.unusedVariables false
set_option linter.unusedSectionVars false
set_option linter.unnecessarySimpa false

theorem T41i : SlT Tryz.prog 41 3 1 8 := slT_mk (z := .int .i64 0) Tryz.underlying41 (by kernel_rfl) rfl (by omega)
set_option maxRecDepth 100000 in
set_option maxHeartbeats 800000 in
theorem cloneKind (g o n c : Nat) (l : List Nat) (w : World) (hv : Vw w g 52 1 (.slice (some ⟨g, o, none⟩) n c) n (nts l)) (hn : n ≤ 100) (h1 : 1 ≤ n) :
    Calls Tryz.prog 114 #[.slice (some ⟨g, o, none⟩) n c] w fun e w' => ∃ g' c', e = .returned (.slice (some ⟨g', 0, none⟩) n c') ∧ Row w' g' 52 1 (.slice (some ⟨g', 0, none⟩) n c') n (nts l) ∧ w.heap.size ≤ g' ∧ Ext [] w w' := by
  have hnil := fun (w : World) => Lib.run_eql_slice_nil (P := Tryz.prog) w 53
  have hv1 : Vw (w.alloc (.cells #[] 52)) g 52 1 (.slice (some ⟨g, o, none⟩) n c) n (nts l) := hv.ext ((Ext.refl [] w).alloc _) (by simp)
  have hr1 := Row.new w 52 1 #[] 0 0 (Nat.le_refl _) (by simp [maxLen]) rfl
  go_enter Tryz.func114, Tryz.ntmps114
  go_wp2_with (with_reducible refine wpList_append T53 rfl (.tmp 5) (.tmp 6) rfl rfl rfl hr1 hv1 (nts_one l) (by omega) (by omega) ?_; rintro g9 A9 c9 w9 hr9 hx9 hg9 hA9 _ _)
  obtain rfl := hA9 (by omega)
  go_ret
  rw [Nat.zero_add] at hr9
  simp only [World.size_alloc] at hg9
  exact ⟨g9, c9, by simp, hr9, by omega, ((Ext.refl [] w).alloc _).step hx9 (by simp)⟩
set_option maxRecDepth 100000 in
set_option maxHeartbeats 800000 in
theorem cloneInt (g o c : Nat) (w : World) (hv : Vw w g 3 1 (.slice (some ⟨g, o, none⟩) 1 c) 1 [.int .i64 6]) :
    Calls Tryz.prog 116 #[.slice (some ⟨g, o, none⟩) 1 c] w fun e w' => ∃ g' c', e = .returned (.slice (some ⟨g', 0, none⟩) 1 c') ∧ Row w' g' 3 1 (.slice (some ⟨g', 0, none⟩) 1 c') 1 [.int .i64 6] ∧ w.heap.size ≤ g' ∧ Ext [] w w' := by
  have hnil := fun (w : World) => Lib.run_eql_slice_nil (P := Tryz.prog) w 41
  have hv1 : Vw (w.alloc (.cells #[] 3)) g 3 1 (.slice (some ⟨g, o, none⟩) 1 c) 1 [.int .i64 6] := hv.ext ((Ext.refl [] w).alloc _) (by simp)
  have hr1 := Row.new w 3 1 #[] 0 0 (Nat.le_refl _) (by simp [maxLen]) rfl
  have hone : ∀ u ∈ [Value.int .i64 6], u.oneCell' = true := nts_one [6]
  go_enter Tryz.func116, Tryz.ntmps116
  go_wp2_with (with_reducible refine wpList_append T41i rfl (.tmp 5) (.tmp 6) rfl rfl rfl hr1 hv1 hone (by omega) (by omega) ?_; rintro g9 A9 c9 w9 hr9 hx9 hg9 hA9 _ _)
  obtain rfl := hA9 (by omega)
  go_ret
  simp only [World.size_alloc] at hg9
  exact ⟨g9, c9, by simp, hr9, by omega, ((Ext.refl [] w).alloc _).step hx9 (by simp)⟩
end Go.Proofs.YtfadbmfkidiaoaaGreatDoor
