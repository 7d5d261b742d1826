/- An index: kinds, entries. An index: its table. -/
import Derived.Test.YtfadbmfkidiaoaaGreatDoorZ34
import Derived.Deep.RegionLaw
namespace Go.Proofs.YtfadbmfkidiaoaaGreatDoor
open Go.RowKit Go Go.MapKept
set_option linter.unusedSimpArgs false
set_option linter.unusedVariables false
set_option linter.unusedSectionVars false
set_option linter.unnecessarySimpa false

set_option maxRecDepth 100000 in
set_option maxHeartbeats 800000 in
theorem kinds_any (gk gr : Nat) (vk vr : Value) (w : World) (hk : Vw w gk 52 1 vk 3 (nts [1, 1, 1])) (hr : Vw w gr 52 1 vr 4 (nts [1, 3, 1, 1])) :
    Calls Tryz.prog 115 #[.agg #[.int .i64 1, vk, vr]] w fun e w' => ∃ g' c', e = .returned (.slice (some ⟨g', 0, none⟩) 7 c') ∧ Row w' g' 52 1 (.slice (some ⟨g', 0, none⟩) 7 c') 7 (nts [1, 1, 1, 1, 3, 1, 1]) ∧ w.heap.size ≤ g' ∧ Ext [] w w' := by
  have hx0 : Ext [] w ((w.alloc (.cells #[.int .i64 1, vk, vr] 55)).alloc (.cells #[vk, vr] 53)) := ((Ext.refl [] w).alloc _).alloc _
  have hB := heap_alloc_new (w.alloc (.cells #[.int .i64 1, vk, vr] 55)) (.cells #[vk, vr] 53)
  rw [World.size_alloc] at hB
  have hcc := concatKind _ gk gr _ _ 3 4 _ _ _ (cell_of_row _ _ 0 _ _ _ hB) (cell_of_row _ _ 1 _ _ _ hB) (hk.ext hx0 (by simp)) (hr.ext hx0 (by simp)) (by omega) (by omega) (by omega)
  obtain ⟨Ak, ck, rfl, _⟩ := hk.form
  obtain ⟨Ar, cr, rfl, _⟩ := hr.form
  go_enter Tryz.func115, Tryz.ntmps115
  go_wp2_with fail
  refine hcc.mono ?_
  rintro e w1 ⟨g', c', rfl, hr', hg', hx'⟩
  go_wp2_with fail
  go_ret
  have := hx0.size
  exact ⟨g', c', rfl, hr', by omega, hx0.trans hx'⟩
def EnRel (w1 : World) (j : Jb) (ov iv : Value) (wl : World) : Prop :=
  ∃ (i : Nat) (A : Option Addr) (c' go : Nat), iv = .int .i64 i ∧ i ≤ 1 ∧ ov = .slice A i c' ∧ Row wl go 93 5 (.slice A i c') i (clsC ((ixC j).take i)) ∧ w1.heap.size ≤ go ∧ Ext [] w1 wl
set_option maxRecDepth 100000 in
set_option maxHeartbeats 3200000 in
theorem entry_any (gc gl : Nat) (vk vr vc vl : Value) (j : Jb) (w : World) (Ak : Option Addr) (ck : Nat) (hvk : vk = .slice Ak 3 ck) (hc : Vw w gc 3 1 vc 1 [.int .i64 6]) (hv : Vw w gl 93 5 vl 7 (clsC (kJ j ++ rJ j))) :
    Calls Tryz.prog 77 #[.agg #[.int .i64 1, vk, vr], .agg #[.int .i64 2, vc, .bool false], vl] w fun e w' => ∃ g' v', e = .returned v' ∧ Row w' g' 93 5 v' 4 (clsC (ixC j)) ∧ w.heap.size ≤ g' ∧ Ext [] w w' := by
  subst hvk
  obtain ⟨Ac, cc, rfl, _⟩ := hc.form
  obtain ⟨Al, cl, rfl, hlc⟩ := hv.form
  obtain ⟨ol, rfl⟩ := hv.head (by omega)
  obtain ⟨oc, rfl⟩ := hc.head (by omega)
  have hx0 : Ext [] w ((w.alloc (.cells #[.int .i64 1, .slice Ak 3 ck, vr] 55)).alloc (.cells #[.int .i64 2, .slice (some ⟨gc, oc, none⟩) 1 cc, .bool false] 60)) := ((Ext.refl [] w).alloc _).alloc _
  have hT := heap_alloc_new w (.cells #[.int .i64 1, .slice Ak 3 ck, vr] 55)
  have hT' := ((Ext.refl [] (w.alloc (.cells #[.int .i64 1, .slice Ak 3 ck, vr] 55))).alloc (.cells #[.int .i64 2, .slice (some ⟨gc, oc, none⟩) 1 cc, .bool false] 60)).keep hT (by simp)
  have hv0 := hv.ext hx0 (by simp)
  have hc0 := hc.ext hx0 (by simp)
  obtain ⟨W0, hW0⟩ : ∃ W0, W0 = ((w.alloc (.cells #[.int .i64 1, .slice Ak 3 ck, vr] 55)).alloc (.cells #[.int .i64 2, .slice (some ⟨gc, oc, none⟩) 1 cc, .bool false] 60)) := ⟨_, rfl⟩
  rw [← hW0] at hx0 hT' hv0 hc0
  have z0 := hx0.size
  clear hT hv hc
  go_enter Tryz.func77, Tryz.ntmps77
  go_wp2_with fail
  rw [← hW0]
  clear hW0
  go_loopw [7, 13] (EnRel W0 j) (fun _ iv _ => 1 - (intOf iv).toNat)
  case atStart => exact ⟨0, none, 0, W0.heap.size, rfl, Nat.zero_le _, rfl, .nil, Nat.le_refl _, Ext.refl _ _⟩
  case round =>
    obtain ⟨i, A, c', go, rfl, hi, rfl, hro, hgo, hx⟩ := hrel
    have hvr := hv0.ext hx (by simp)
    have hcr := hc0.ext hx (by simp)
    have hTr := hx.keep hT' (by simp)
    rcases (show i = 0 ∨ i = 1 by omega) with rfl | rfl
    · have hc6 : wr.cell? ⟨gc, oc, none⟩ = some (.int .i64 6) := by
        cases hcr with
        | at_ hl hn' hc' hcell hty => exact hcell 0 _ rfl
      have d0 : wr.cell? ⟨gl, ol + 30, none⟩ = some (.int .i64 1) := (hvr.cl 6 (by omega)).1
      have d1 : wr.cell? ⟨gl, ol + 30 + 1, none⟩ = some (.int .u64 (j.who : Nat)) := (hvr.cl 6 (by omega)).2.1
      have d2 : wr.cell? ⟨gl, ol + 30 + 2, none⟩ = some (.int .i64 0) := (hvr.cl 6 (by omega)).2.2.1
      have d3 : wr.cell? ⟨gl, ol + 30 + 3, none⟩ = some (.string eS) := (hvr.cl 6 (by omega)).2.2.2.1
      have d4 : wr.cell? ⟨gl, ol + 30 + 4, none⟩ = some (.bool false) := (hvr.cl 6 (by omega)).2.2.2.2
      have hone : ∀ u ∈ [Value.int .i64 1, .int .u64 (j.who : Nat), .int .i64 0, .string eS, .bool false], u.oneCell' = true := clsC_one [cU j.who]
      have hn2 := Row.new wr 93 5 #[.int .i64 1, .int .u64 (j.who : Nat), .int .i64 0, .string eS, .bool false] 1 1 (by omega) (by simp [maxLen]) rfl
      have hro6 := hro.ext ((Ext.refl [] wr).alloc (.cells #[.int .i64 1, .int .u64 (j.who : Nat), .int .i64 0, .string eS, .bool false] 93)) (by simp)
      clear hvr hcr hTr
      go_wp2_with ((with_reducible refine wpList_append T73 rfl (.tmp 17) (.tmp 22) rfl rfl rfl hro6 hn2.vw hone (by omega) (by omega) ?_); rintro g9 A9 c9 w9 hr9 hx9 hg9 hA9 _ _; obtain rfl := hA9 (by omega))
      have sx := hx.size
      simp only [World.size_alloc] at hg9
      have hxa9 : Ext [go] wr w9 := ((Ext.refl [go] wr).alloc _).trans hx9
      refine ⟨?rel, ?measure⟩
      case rel => exact ⟨1, some ⟨g9, 0, none⟩, c9, g9, by go_num, Nat.le_refl _, rfl, hr9, by omega, hx.step hxa9 (by simp; omega)⟩
      case measure => simp [intOf]
    · have p1 : wr.cell? ⟨w.heap.size, 1, none⟩ = some (.slice Ak 3 ck) := cell_of_row _ _ 1 _ _ _ hTr
      have hs1 := slice_h T73 gl ol 7 cl 3 rfl (by omega)
      have hv3 := hvr.to_ 3 (by omega)
      have hone := clsC_one ((kJ j ++ rJ j).take 3)
      have e3 : (clsC (kJ j ++ rJ j)).take (3 * 5) = clsC ((kJ j ++ rJ j).take 3) := rfl
      rw [e3] at hv3
      clear hvr hcr hTr
      go_wp2_with ((with_reducible refine wpList_append T73 rfl (.tmp 25) (.tmp 30) rfl rfl rfl hro hv3 hone (by omega) (by omega) ?_); rintro g9 A9 c9 w9 hr9 hx9 hg9 hA9 _ _; obtain rfl := hA9 (by omega))
      go_ret
      have sx := hx.size
      refine ⟨g9, _, rfl, ?_, by omega, hx0.trans (hx.step hx9 (by simp; omega))⟩
      exact hr9
end Go.Proofs.YtfadbmfkidiaoaaGreatDoor

namespace Go.Proofs.YtfadbmfkidiaoaaGreatDoor
open Go.RowKit Go Go.MapKept
set_option linter.unusedSimpArgs false
set_option linter.unusedVariables false
set_option linter.unusedSectionVars false
set_option linter.unnecessarySimpa false

theorem run_results_t {fn : Func} {p : Tmp} (h : fn.results = #[.cell p 55]) (W : World) (tmps : Array Value) (B : Nat) (a b c : Value) (h2 : tmps.getD p undef = .pointer (some ⟨B, 0, none⟩))
    (hb : W.heap[B]? = some (.cells #[a, b, c] 55 (0, 0))) : (results fn tmps).run Tryz.prog W = .ok (.agg #[a, b, c]) W := by
  have c0 : W.cell? ⟨B, 0, none⟩ = some a := cell_of_row _ _ 0 _ _ _ hb
  have c1 : W.cell? ⟨B, 1, none⟩ = some b := cell_of_row _ _ 1 _ _ _ hb
  have c2 : W.cell? ⟨B, 2, none⟩ = some c := cell_of_row _ _ 2 _ _ _ hb
  rw [results_c1 h, h2]
  go_simp
theorem put3_heap {W : World} {B t : Nat} {a b c a' b' c' : Value} (hb : W.heap[B]? = some (.cells #[a, b, c] t (0, 0))) : (((W.setCell ⟨B, 0, none⟩ a').setCell ⟨B, 1, none⟩ b').setCell ⟨B, 2, none⟩ c').heap[B]? = some (.cells #[a', b', c'] t (0, 0)) := by
  have h0 : (W.setCell ⟨B, 0, none⟩ a').heap[B]? = some (.cells #[a', b, c] t (0, 0)) := heap_setCell_same W B 0 _ t a' hb
  have h1 : ((W.setCell ⟨B, 0, none⟩ a').setCell ⟨B, 1, none⟩ b').heap[B]? = some (.cells #[a', b', c] t (0, 0)) := heap_setCell_same (W.setCell ⟨B, 0, none⟩ a') B 1 _ t b' h0
  exact heap_setCell_same ((W.setCell ⟨B, 0, none⟩ a').setCell ⟨B, 1, none⟩ b') B 2 _ t c' h1
/-- append at a step of a region that draws -/
theorem step_append {P : Program} {w : World} {t e sz by_ : Nat} {ops : Array Oper} {o : Oper} {a : Act} {K : Act → World → Prop} {Q : Exit → Act → World → Prop} {E : Prop} (T : SlT P t e sz by_) (hgd : o.guard = none) (sO xO : Operand)
    (ho : o.op = .call { callee := .builtin .append, args := #[sO, xO], argTypes := #[t, t] }) {g g2 n m : Nat} {s x : Value} {xs ys : List Value} (hs : a.eval sO = s) (hx : a.eval xO = x)
    (hr : Row w g e sz s n xs) (hv : Vw w g2 e sz x m ys) (h1 : ∀ u ∈ ys, u.oneCell' = true) (hb : (n + m) * by_ ≤ 140737488355328) (h63 : n + m ≤ 9223372036854775807)
    (h : ∀ (g' : Nat) (A' : Option Addr) (c' : Nat) (w' : World), Row w' g' e sz (.slice A' (n + m) c') (n + m) (xs ++ ys) → Ext [g] w w' → (g' = g ∨ w.heap.size ≤ g') → (0 < n + m → A' = some ⟨g', 0, none⟩) → n + m ≤ c' → K (a.put o.dst (.slice A' (n + m) c')) w') :
    if Region.wanted o (yielded ops a.tmps) = true then Oper.wp P o a w K Q else E := by
  have hw : Region.wanted o (yielded ops a.tmps) = true := by simp [Region.wanted, hgd]
  rw [if_pos hw]
  obtain ⟨g', v', w', hrun, h2, h3, h4, h5⟩ := run_append T o.type hr hv h1 hb h63
  unfold Oper.wp execOp
  simp only [ho, resolve, invoke, builtin, Sem.run_bind, Sem.run_pure, Result.andThen_ok, List.map_toArray, List.map_cons, List.map_nil, hs, hx, hrun]
  obtain ⟨A, c, rfl, hA, hc⟩ := h2.form
  exact h g' A c w' h2 h3 h4 hA hc
def TaRel (W0 : World) (B : Nat) (iv : Value) (wl : World) : Prop :=
  ∃ (i : Nat) (A : Option Addr) (c' go : Nat), iv = .int .i64 i ∧ i ≤ 1 ∧ (i = 0 → A = none ∧ c' = 0) ∧ wl.heap[B]? = some (.cells #[.int .i64 2, .slice A i c', .slice none 0 0] 55 (0, 0)) ∧ Row wl go 52 1 (.slice A i c') i (nts (([1] : List Nat).take i)) ∧ W0.heap.size ≤ go ∧ Ext [B] W0 wl
theorem cells3 {W : World} {B t : Nat} {a b c : Value} (hb : W.heap[B]? = some (.cells #[a, b, c] t (0, 0))) :
    (W.cell? ⟨B, 0, none⟩ = some a ∧ W.cell? ⟨B, 1, none⟩ = some b ∧ W.cell? ⟨B, 2, none⟩ = some c) ∧ W.frozen? ⟨B, 0, none⟩ = false ∧ W.frozen? ⟨B, 1, none⟩ = false ∧ W.frozen? ⟨B, 2, none⟩ = false :=
  ⟨⟨cell_of_row _ _ 0 _ _ _ hb, cell_of_row _ _ 1 _ _ _ hb, cell_of_row _ _ 2 _ _ _ hb⟩, frozen_of_row _ _ 0 _ _ hb, frozen_of_row _ _ 1 _ _ hb, frozen_of_row _ _ 2 _ _ hb⟩
theorem ta_start (w : World) (Ak Ar : Option Addr) (ck cr gc oc cc : Nat) : ∃ A4 : World, A4 = (((w.alloc (.cells #[.int .i64 1, .slice Ak 3 ck, .slice Ar 4 cr] 55)).alloc (.cells #[.int .i64 2, .slice (some ⟨gc, oc, none⟩) 1 cc, .bool false] 60)).alloc (.cells #[.int .i64 0, .slice none 0 0, .slice none 0 0] 55)).alloc (.cells #[.int .i64 2, .slice none 0 0, .slice none 0 0] 55) ∧
    A4.heap[w.heap.size]? = some (.cells #[.int .i64 1, .slice Ak 3 ck, .slice Ar 4 cr] 55 (0, 0)) ∧ A4.heap[w.heap.size + 1]? = some (.cells #[.int .i64 2, .slice (some ⟨gc, oc, none⟩) 1 cc, .bool false] 60 (0, 0)) ∧ A4.heap[w.heap.size + 2]? = some (.cells #[.int .i64 0, .slice none 0 0, .slice none 0 0] 55 (0, 0)) ∧
    A4.heap[w.heap.size + 3]? = some (.cells #[.int .i64 2, .slice none 0 0, .slice none 0 0] 55 (0, 0)) ∧ A4.heap.size = w.heap.size + 4 ∧ Ext [] w A4 := by
  have x1 : Ext [] w (w.alloc (.cells #[.int .i64 1, .slice Ak 3 ck, .slice Ar 4 cr] 55)) := (Ext.refl [] _).alloc _
  have h1 := heap_alloc_new w (.cells #[.int .i64 1, .slice Ak 3 ck, .slice Ar 4 cr] 55)
  generalize hA1 : (w.alloc (.cells #[.int .i64 1, .slice Ak 3 ck, .slice Ar 4 cr] 55)) = A1 at *
  have z1 : A1.heap.size = w.heap.size + 1 := by rw [← hA1]; simp
  have x2 : Ext [] A1 (A1.alloc (.cells #[.int .i64 2, .slice (some ⟨gc, oc, none⟩) 1 cc, .bool false] 60)) := (Ext.refl [] _).alloc _
  have h2 := heap_alloc_new A1 (.cells #[.int .i64 2, .slice (some ⟨gc, oc, none⟩) 1 cc, .bool false] 60)
  generalize hA2 : (A1.alloc (.cells #[.int .i64 2, .slice (some ⟨gc, oc, none⟩) 1 cc, .bool false] 60)) = A2 at *
  have z2 : A2.heap.size = w.heap.size + 2 := by rw [← hA2]; simp [z1]
  have x3 : Ext [] A2 (A2.alloc (.cells #[.int .i64 0, .slice none 0 0, .slice none 0 0] 55)) := (Ext.refl [] _).alloc _
  have h3 := heap_alloc_new A2 (.cells #[.int .i64 0, .slice none 0 0, .slice none 0 0] 55)
  generalize hA3 : (A2.alloc (.cells #[.int .i64 0, .slice none 0 0, .slice none 0 0] 55)) = A3 at *
  have z3 : A3.heap.size = w.heap.size + 3 := by rw [← hA3]; simp [z2]
  have x4 : Ext [] A3 (A3.alloc (.cells #[.int .i64 2, .slice none 0 0, .slice none 0 0] 55)) := (Ext.refl [] _).alloc _
  have h4 := heap_alloc_new A3 (.cells #[.int .i64 2, .slice none 0 0, .slice none 0 0] 55)
  generalize hA4 : (A3.alloc (.cells #[.int .i64 2, .slice none 0 0, .slice none 0 0] 55)) = A4 at *
  have z4 : A4.heap.size = w.heap.size + 4 := by rw [← hA4]; simp [z3]
  have b1 := x4.keep (x3.keep (x2.keep h1 (by simp)) (by simp)) (by simp)
  have b2 := x4.keep (x3.keep h2 (by simp)) (by simp)
  have b3 := x4.keep h3 (by simp)
  rw [z1] at b2
  rw [z2] at b3
  rw [z3] at h4
  have x04 := ((x1.trans x2).trans x3).trans x4
  exact ⟨A4, by rw [← hA4, ← hA3, ← hA2, ← hA1], b1, b2, b3, h4, z4, x04⟩
set_option maxRecDepth 100000 in
set_option maxHeartbeats 3200000 in
theorem tableOf2_any (gk gr gc : Nat) (vk vr vc : Value) (w : World) (hk : Vw w gk 52 1 vk 3 (nts [1, 1, 1])) (hr : Vw w gr 52 1 vr 4 (nts [1, 3, 1, 1])) (hc : Vw w gc 3 1 vc 1 [.int .i64 6]) (hltk : gk < w.heap.size) (hltr : gr < w.heap.size) (hltc : gc < w.heap.size) :
    Calls Tryz.prog 76 #[.agg #[.int .i64 1, vk, vr], .agg #[.int .i64 2, vc, .bool false]] w fun e w' => ∃ A c gq, e = .returned (.agg #[.int .i64 2, .slice A 4 c, .slice none 0 0]) ∧ Vw w' gq 52 1 (.slice A 4 c) 4 (nts [1, 1, 1, 1]) ∧ w.heap.size ≤ gq ∧ gq < w'.heap.size ∧ Ext [] w w' := by
  obtain ⟨Ac, cc, rfl, _⟩ := hc.form
  obtain ⟨Ak, ck, rfl, _⟩ := hk.form
  obtain ⟨Ar, cr, rfl, _⟩ := hr.form
  obtain ⟨oc, rfl⟩ := hc.head (by omega)
  obtain ⟨A4, hA4, b1, b2, b3, h4, z4, x04⟩ := ta_start w Ak Ar ck cr gc oc cc
  have hk4 := hk.ext x04 (by simp)
  have hr4 := hr.ext x04 (by simp)
  have hc4 := hc.ext x04 (by simp)
  clear hk hr hc
  go_enter Tryz.func76, Tryz.ntmps76
  obtain ⟨⟨s0, s1, s2⟩, _⟩ := cells3 b2
  go_wp2_with fail
  rw [← hA4]
  clear hA4
  go_loopw [14] (TaRel A4 (w.heap.size + 3)) (fun iv _ => 1 - (intOf iv).toNat)
  case atStart => exact ⟨0, none, 0, A4.heap.size, rfl, Nat.zero_le _, fun _ => ⟨rfl, rfl⟩, h4, .nil, Nat.le_refl _, Ext.refl _ _⟩
  case round =>
    clear s0 s1 s2
    obtain ⟨i, A, c', go, rfl, hi, hA0, hb5, hro, hgo, hx⟩ := hrel
    have d1 := hx.keep b1 (by simp)
    have d2 := hx.keep b2 (by simp)
    have d3 := hx.keep b3 (by simp)
    have hkr := hk4.ext hx (by simp; omega)
    have hrr := hr4.ext hx (by simp; omega)
    have hcr := hc4.ext hx (by simp; omega)
    have zr := hx.size
    rcases (show i = 0 ∨ i = 1 by omega) with rfl | rfl
    · have hc6 : wr.cell? ⟨gc, oc, none⟩ = some (.int .i64 6) := by
        cases hcr with
        | at_ hl hn' hc' hcell hty => exact hcell 0 _ rfl
      obtain ⟨rfl, rfl⟩ := hA0 rfl
      obtain ⟨⟨s0, s1, s2⟩, f0, f1, f2⟩ := cells3 hb5
      obtain ⟨⟨t0, t1, t2⟩, _⟩ := cells3 d1
      go_wp2_with fail
      have hdr : Ext [] wr wr.drew := (Ext.refl [] wr).drew
      have kk := kinds_any gk gr _ _ wr.drew (hkr.ext hdr (by simp)) (hrr.ext hdr (by simp))
      have hb5d := hdr.keep hb5 (by simp)
      replace s1 := hdr.cell s1 (by simp)
      replace t0 := hdr.cell t0 (by simp)
      replace t1 := hdr.cell t1 (by simp)
      replace t2 := hdr.cell t2 (by simp)
      go_region_law (first
        | (with_reducible refine step_append T53 rfl (.tmp 19) (.tmp 25) rfl rfl rfl hra hn.vw (nts_one [1]) (by omega) (by omega) ?_
           rintro g9 A9 c9 w9 hr9 hx9 hg9 hA9 _
           obtain rfl := hA9 (by omega)
           simp only [Nat.zero_add, List.nil_append] at hr9
           have hz3d : w.heap.size + 3 < wr.drew.heap.size := by show _ < wr.heap.size; omega
           have hb9 := hx9.keep (hal1.keep hb5e (by simp)) (by simp; omega)
           obtain ⟨⟨n0, n1, n2⟩, z0, z1, z2⟩ := cells3 hb9)
        | (go_simp
           go_at_call 115
           refine kk.mono ?_
           rintro e w1 ⟨g7, c7, rfl, hr7, hg7, hx7⟩
           have u1 := hx7.cell s1 (by simp)
           have hb5e := hx7.keep hb5d (by simp)
           have hz7 := hx7.size
           have n6 : w1.cell? ⟨g7, 6, none⟩ = some (.int .i64 1) := by
             have := hr7.vw.nt 6 (by omega)
             simpa [nAt] using this
           have hra : Row (w1.alloc (.cells #[.int .i64 1] 52)) (w1.heap.size + 1) 52 1 (.slice none 0 0) 0 [] := .nil
           have hn := Row.new w1 52 1 #[.int .i64 1] 1 1 (by omega) (by simp [maxLen]) rfl
           have hal1 : Ext [] w1 (w1.alloc (.cells #[.int .i64 1] 52)) := (Ext.refl [] w1).alloc _
           have u2 := hal1.cell u1 (by simp)))
      all_goals (
        clear kk
        go_wp2_with fail
        refine ⟨?rel, ?measure⟩
        case rel =>
          have hset := heap_setCell_same w9 (w.heap.size + 3) 1 _ 55 (.slice (some ⟨g9, 0, none⟩) 1 c9) hb9
          have hxs : Ext [w.heap.size + 3] w9 (w9.setCell ⟨w.heap.size + 3, 1, none⟩ (.slice (some ⟨g9, 0, none⟩) 1 c9)) := (Ext.refl [w.heap.size + 3] w9).setCell (.inl (by simp)) _
          have hzd : wr.heap.size ≤ w1.heap.size := hz7
          simp only [World.size_alloc] at hg9
          have hx19 : Ext [] wr w9 := ((hdr.trans hx7).trans hal1).step hx9 (by simp; omega)
          exact ⟨1, some ⟨g9, 0, none⟩, c9, g9, by go_num, Nat.le_refl _, (fun h => absurd h (by omega)), hset, hr9.ext hxs (by simp; omega), by omega, (hx.trans0 hx19).trans hxs⟩
        case measure => simp [intOf])
    · obtain ⟨⟨s0, s1, s2⟩, f0, f1, f2⟩ := cells3 hb5
      obtain ⟨⟨t0, t1, t2⟩, _⟩ := cells3 d1
      obtain ⟨⟨q0, q1, q2⟩, _⟩ := cells3 d2
      have hlt3 := lt_of_block hb5
      go_wp2_with ((with_reducible refine wpList_append T53 rfl (.tmp 36) (.tmp 38) rfl rfl rfl hro hkr (nts_one _) (by omega) (by omega) ?_); rintro g9 A9 c9 w9 hr9 hx9 hg9 hA9 _ _; obtain rfl := hA9 (by omega); have hb9 := hx9.keep hb5 (by simp; omega); have d39 := hx9.keep d3 (by simp; omega); obtain ⟨⟨m0, m1, m2⟩, y0, y1, y2⟩ := cells3 hb9; obtain ⟨⟨n0, n1, n2⟩, z0, z1, z2⟩ := cells3 d39)
      have hset := heap_setCell_same w9 (w.heap.size + 3) 1 _ 55 (.slice (some ⟨g9, 0, none⟩) (1 + 3) c9) hb9
      have d4' := (heap_setCell_other w9 ⟨w.heap.size + 3, 1, none⟩ (w.heap.size + 2) (.slice (some ⟨g9, 0, none⟩) (1 + 3) c9) (by simp)).trans d39
      have hfin := put3_heap (a' := .int .i64 2) (b' := .slice (some ⟨g9, 0, none⟩) (1 + 3) c9) (c' := .slice none 0 0) d4'
      refine bodyPost_ret (run_results_t (fn := Tryz.f76) (p := 4) (by kernel_rfl) _ _ (w.heap.size + 2) _ _ _ rfl hfin) rfl ?_
      have e1 : Ext [w.heap.size + 3, w.heap.size + 2] w9 ((((w9.setCell ⟨w.heap.size + 3, 1, none⟩ (.slice (some ⟨g9, 0, none⟩) (1 + 3) c9)).setCell ⟨w.heap.size + 2, 0, none⟩ (.int .i64 2)).setCell ⟨w.heap.size + 2, 1, none⟩ (.slice (some ⟨g9, 0, none⟩) (1 + 3) c9)).setCell ⟨w.heap.size + 2, 2, none⟩ (.slice none 0 0)) :=
        ((((Ext.refl _ w9).setCell (.inl (by simp)) _).setCell (.inl (by simp)) _).setCell (.inl (by simp)) _).setCell (.inl (by simp)) _
      have hz9 := hx9.size
      have hzf := e1.size
      have hrf := hr9.ext e1 (by simp; omega)
      have hx14 : Ext [] w wr := x04.step hx (by simp)
      have hx19 : Ext [] w w9 := hx14.step hx9 (by simp; omega)
      have hg9l := hrf.blt (by omega)
      exact ⟨_, c9, rfl, g9, hrf.vw, by omega, hg9l, hx19.step e1 (by simp)⟩
theorem tb2_mk {w : World} {A : Option Addr} {c gq : Nat} (hv : Vw w gq 52 1 (.slice A 4 c) 4 (nts [1, 1, 1, 1])) (hl : gq < w.heap.size) : Tb w (.agg #[.int .i64 2, .slice A 4 c, .slice none 0 0]) 2 [1, 1, 1, 1] [] :=
  ⟨⟨_, _, gq, 0, rfl, hv, .nil, hl, Nat.lt_of_le_of_lt (Nat.zero_le _) hl⟩, by omega, by omega, by simp, by simp, by simp, by simp [Kd], by simp [Kd]⟩
theorem tableOf_any (gk gr gc : Nat) (vk vr vc : Value) (w : World) (hk : Vw w gk 52 1 vk 3 (nts [1, 1, 1])) (hr : Vw w gr 52 1 vr 4 (nts [1, 3, 1, 1])) (hc : Vw w gc 3 1 vc 1 [.int .i64 6]) (hltk : gk < w.heap.size) (hltr : gr < w.heap.size) (hltc : gc < w.heap.size) :
    Calls Tryz.prog 76 #[.agg #[.int .i64 1, vk, vr], .agg #[.int .i64 2, vc, .bool false]] w fun e w' => ∃ v, e = .returned v ∧ Tb w' v 2 [1, 1, 1, 1] [] ∧ Ext [] w w' := by
  refine (tableOf2_any gk gr gc vk vr vc w hk hr hc hltk hltr hltc).mono ?_
  rintro e w' ⟨A, c, gq, rfl, h1, _, h3, h4⟩
  exact ⟨_, rfl, tb2_mk h1 h3, h4⟩
end Go.Proofs.YtfadbmfkidiaoaaGreatDoor
