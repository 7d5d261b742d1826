/- Deltas of two maps: what is done for each key. The delta from one map to another. -/
import Derived.Test.YtfadbmfkidiaoaaGreatDoorZ41
import Derived.Lib.MinMaxS
namespace Go.Proofs.YtfadbmfkidiaoaaGreatDoor
open Go.RowKit Go
set_option linter.unusedSimpArgs false
set_option linter.unusedVariables false
set_option linter.unusedSectionVars false
set_option linter.unnecessarySimpa false

/-- a variable that holds a list of changes -/
structure OutC (W : World) (po go : Nat) (out : List Chg) : Prop where
  ex : ∃ A c, W.heap[po]? = some (.cells #[.slice A out.length c] 61 (0, 0)) ∧ Row W go 138 5 (.slice A out.length c) out.length (ccs out)
  ne : go ≠ po
theorem OutC.ext {W W' : World} {po go : Nat} {out : List Chg} {S : List Nat} (h : OutC W po go out) (hx : Ext S W W') (h1 : po ∉ S) (h2 : go ∉ S) : OutC W' po go out := by
  obtain ⟨⟨A, c, q1, q2⟩, q3⟩ := h
  exact ⟨⟨A, c, hx.keep q1 h1, q2.ext hx h2⟩, q3⟩
def OutPost (po go : Nat) (out : List Chg) (w w' : World) : Prop := ∃ go', OutC w' po go' out ∧ (go' = go ∨ w.heap.size ≤ go') ∧ Ext [po, go] w w'
theorem chg_one (c : Chg) : ∀ u ∈ [Value.string c.key, .bool c.was, .bool c.is, .string c.before, .string c.after], u.oneCell' = true := by
  intro u hu
  simp only [List.mem_cons, List.not_mem_nil, or_false] at hu
  rcases hu with rfl | rfl | rfl | rfl | rfl <;> rfl
theorem ccs_snoc (l : List Chg) (c : Chg) : ccs (l ++ [c]) = ccs l ++ [.string c.key, .bool c.was, .bool c.is, .string c.before, .string c.after] := by
  rw [ccs_app]; rfl
theorem max_str {P : Program} (w : World) (ts : Array TypeId) (t : TypeId) (x y : ByteArray) : (Builtin.max_ ts t #[.string x, .string y]).run P w = .ok (.string (mxS x y)) w := Lib.run_max_strs w ts t x y
set_option maxRecDepth 100000 in
set_option maxHeartbeats 1600000 in
theorem of1_any (x y : Chg) (a b : Bool) (po go : Nat) (out : List Chg) (w : World) (h : OutC w po go out) (hpo : po < w.heap.size) (hn : out.length ≤ 1000) :
    Calls Tryz.prog 62 #[.agg #[.string x.key, .bool x.was, .bool x.is, .string x.before, .string x.after], .agg #[.string y.key, .bool y.was, .bool y.is, .string y.before, .string y.after], .bool a, .bool b, .pointer (some ⟨po, 0, none⟩)] w
      fun e w' => e = .returned (.tuple #[]) ∧ OutPost po go (out ++ (ofStep ⟨x, y, a, b⟩).toList) w w' := by
  have hmx := fun w ts t => max_str (P := Tryz.prog) w ts t x.key y.key
  have hst : ofStep ⟨x, y, a, b⟩ = if sameC ⟨mxS x.key y.key, a, b, x.after, y.after⟩ then none else some ⟨mxS x.key y.key, a, b, x.after, y.after⟩ := rfl
  have hsm := same_any ⟨mxS x.key y.key, a, b, x.after, y.after⟩
  simp only at hsm
  generalize mxS x.key y.key = K at *
  have HS := Lib.hid hst; clear hst
  obtain ⟨⟨A, c, q1, q2⟩, q3⟩ := h
  have hx0 : Ext [] w (((w.alloc (.cells #[.string x.key, .bool x.was, .bool x.is, .string x.before, .string x.after] 138)).alloc (.cells #[.string y.key, .bool y.was, .bool y.is, .string y.before, .string y.after] 138)).alloc (.cells #[.string K, .bool a, .bool b, .string x.after, .string y.after] 138)) := (((Ext.refl [] w).alloc _).alloc _).alloc _
  have hb := heap_alloc_new ((w.alloc (.cells #[.string x.key, .bool x.was, .bool x.is, .string x.before, .string x.after] 138)).alloc (.cells #[.string y.key, .bool y.was, .bool y.is, .string y.before, .string y.after] 138)) (.cells #[.string K, .bool a, .bool b, .string x.after, .string y.after] 138)
  simp only [World.size_alloc] at hb
  go_enter Tryz.func62, Tryz.ntmps62
  go_wp2_with fail
  generalize (((w.alloc (.cells #[.string x.key, .bool x.was, .bool x.is, .string x.before, .string x.after] 138)).alloc (.cells #[.string y.key, .bool y.was, .bool y.is, .string y.before, .string y.after] 138)).alloc (.cells #[.string K, .bool a, .bool b, .string x.after, .string y.after] 138)) = W0 at *
  refine (hsm W0).mono ?_
  rintro e w2 ⟨rfl, hx2⟩
  clear hsm
  have hx02 := hx0.trans hx2
  have hz2 := hx02.size
  have q12 := hx02.keep q1 (by simp)
  have q22 := q2.ext hx02 (by simp)
  obtain ⟨⟨b0, b1, b2, b3, b4⟩, _⟩ := c5 (hx2.keep hb (by simp))
  have p0 : w2.cell? ⟨po, 0, none⟩ = some (.slice A out.length c) := cell_of_row _ _ 0 _ _ _ q12
  cases hs : sameC ⟨K, a, b, x.after, y.after⟩ with
  | true =>
    have hol : ofStep ⟨x, y, a, b⟩ = none := by rw [HS.out, hs]; rfl
    have HO := Lib.hid hol
    clear hol
    go_wp2_with fail
    go_end0
    rw [HO.out]
    exact ⟨rfl, go, by rw [Option.toList_none, List.append_nil]; exact ⟨⟨A, c, q12, q22⟩, q3⟩, .inl rfl, hx02.mono (by simp)⟩
  | false =>
    have hol : ofStep ⟨x, y, a, b⟩ = some ⟨K, a, b, x.after, y.after⟩ := by rw [HS.out, hs]; rfl
    have HO := Lib.hid hol
    clear hs hol
    have hone := chg_one ⟨K, a, b, x.after, y.after⟩
    simp only at hone
    have hn2 := Row.new w2 138 5 #[.string K, .bool a, .bool b, .string x.after, .string y.after] 1 1 (by omega) (by simp [maxLen]) rfl
    have q23 := q22.ext ((Ext.refl [] w2).alloc (.cells #[.string K, .bool a, .bool b, .string x.after, .string y.after] 138)) (by simp)
    have hsn := Lib.hid (ccs_snoc out ⟨K, a, b, x.after, y.after⟩)
    generalize hL : out.length = L at *
    have HL := Lib.hid hL; clear hL
    have hx23 : Ext [] w2 (w2.alloc (.cells #[.string K, .bool a, .bool b, .string x.after, .string y.after] 138)) := (Ext.refl [] w2).alloc _
    have q13 := hx23.keep q12 (by simp)
    go_wp2_with ((with_reducible refine wpList_append T61 rfl (.tmp 25) (.tmp 27) rfl rfl rfl q23 hn2.vw hone (by omega) (by omega) ?_); rintro g9 A9 c9 w9 hr9 hx9 hg9 hA9 _ _; obtain rfl := hA9 (by omega); have q19 := hx9.keep q13 (by simp; omega); have p9 : w9.cell? ⟨po, 0, none⟩ = some (.slice A L c) := cell_of_row _ _ 0 _ _ _ q19; have f9 : w9.frozen? ⟨po, 0, none⟩ = false := frozen_of_row _ _ 0 _ _ q19)
    go_end0
    rw [HO.out]
    have hset := heap_setCell_same w9 po 0 _ 61 (.slice (some ⟨g9, 0, none⟩) (L + 1) c9) q19
    simp only [World.size_alloc] at hg9
    have hgp : g9 ≠ po := by rcases hg9 with h | h <;> omega
    have hxs : Ext [po] w9 (w9.setCell ⟨po, 0, none⟩ (.slice (some ⟨g9, 0, none⟩) (L + 1) c9)) := (Ext.refl [po] w9).setCell (.inl (by simp)) _
    have hl2 : (out ++ [(⟨K, a, b, x.after, y.after⟩ : Chg)]).length = L + 1 := by rw [List.length_append, HL.out]; rfl
    refine ⟨rfl, g9, ⟨⟨some ⟨g9, 0, none⟩, c9, by rw [Option.toList_some, hl2]; exact hset, ?_⟩, hgp⟩, by omega, ?_⟩
    · rw [Option.toList_some, hl2, hsn.out]
      exact hr9.ext hxs (by simp; omega)
    · exact ((((hx02.mono (by simp)).trans (hx23.mono (by simp))).trans (hx9.mono (by simp))).trans (hxs.mono (by simp)))
end Go.Proofs.YtfadbmfkidiaoaaGreatDoor

namespace Go.Proofs.YtfadbmfkidiaoaaGreatDoor
open Go.RowKit Go
set_option linter.unusedSimpArgs false
set_option linter.unusedVariables false
set_option linter.unusedSectionVars false
set_option linter.unnecessarySimpa false

theorem bothL_len (a b : List Chg) : (bothL a b).length ≤ a.length + b.length := by
  induction a, b using bothL.induct with
  | case1 => simp [bothL]
  | case2 a u ih => rw [bothL]; simp only [List.length_cons, List.length_nil] at ih ⊢; omega
  | case3 b v ih => rw [bothL]; simp only [List.length_cons, List.length_nil] at ih ⊢; omega
  | case4 a u b v h ih => rw [bothL, if_pos h]; simp only [List.length_cons] at ih ⊢; omega
  | case5 a u b v h h2 ih => rw [bothL, if_neg h, if_pos h2]; simp only [List.length_cons] at ih ⊢; omega
  | case6 a u b v h h2 ih => rw [bothL, if_neg h, if_neg h2]; simp only [List.length_cons] at ih ⊢; omega
theorem Row.vlt {w : World} {g e sz : Nat} {v : Value} {n : Nat} {cs : List Value} (h : Row w g e sz v n cs) (h0 : 0 < w.heap.size) : ∃ g', Vw w g' e sz v n cs ∧ g' < w.heap.size ∧ (g' = g ∨ g' = 0) := by
  rcases h.split with ⟨rfl, rfl, rfl⟩ | ⟨c, cur, h1, h2, h3, h4, h5⟩
  · exact ⟨0, .nil, h0, .inr rfl⟩
  · exact ⟨g, h.vw, lt_of_block h4, .inl rfl⟩
/-- what is kept while the changes are gone over -/
def OfR (w2 : World) (po : Nat) (evs : List Ev) (W : World) : Prop := ∃ go, OutC W po go (evs.filterMap ofStep) ∧ w2.heap.size ≤ go ∧ Ext [po] w2 W
set_option maxRecDepth 100000 in
set_option maxHeartbeats 1600000 in
theorem delta_any (ba ga bb gb : Nat) (A B : Pairs) (w : World) (hA : Mdl w ba ga A) (hB : Mdl w bb gb B) (hna : A.length ≤ 400) (hnb : B.length ≤ 400) (h8 : 8 ≤ w.heap.size) :
    Calls Tryz.prog 18 #[.pointer (some ⟨ba, 0, none⟩), .pointer (some ⟨bb, 0, none⟩)] w fun e w' => ∃ g' v', e = .returned (.tuple #[v', .int .i64 0]) ∧ Row w' g' 138 5 v' (deltaL A B).length (ccs (deltaL A B)) ∧ w.heap.size ≤ g' ∧ Ext [] w w' := by
  have hx0 : Ext [] w (w.alloc (.cells #[.slice none 0 0] 61)) := (Ext.refl [] w).alloc _
  have hb0 := heap_alloc_new w (.cells #[.slice none 0 0] 61)
  have hofa := of_any ba ga A _ (hA.ext hx0 (by simp) (by simp)) (by omega)
  have hofb := fun W hx => of_any bb gb B W ((hB.ext hx0 (by simp) (by simp)).ext (hx : Ext [] (w.alloc (.cells #[.slice none 0 0] 61)) W) (by simp) (by simp)) (by omega)
  have hz0 : (w.alloc (.cells #[.slice none 0 0] 61)).heap.size = w.heap.size + 1 := by simp
  have hlen : (ofL A).length = A.length ∧ (ofL B).length = B.length := ⟨by simp [ofL], by simp [ofL]⟩
  clear hA hB
  go_enter Tryz.func18, Tryz.ntmps18
  go_wp2_with fail
  generalize (w.alloc (.cells #[.slice none 0 0] 61)) = W0 at *
  refine hofa.mono ?_
  rintro e w1 ⟨g1, v1, rfl, hr1, hg1, hx1⟩
  clear hofa
  go_wp2_with fail
  refine (hofb w1 hx1).mono ?_
  rintro e w2 ⟨g2, v2, rfl, hr2, hg2, hx2⟩
  clear hofb
  have hx12 := hx1.trans hx2
  have hz1 := hx1.size
  have hz2 := hx2.size
  obtain ⟨ga', hv1, hl1, hg1'⟩ := (hr1.ext hx2 (by simp)).vlt (by omega)
  obtain ⟨gb', hv2, hl2, hg2'⟩ := hr2.vlt (by omega)
  have hbp := hx12.keep hb0 (by simp)
  have hR0 : OfR w2 w.heap.size [] w2 := ⟨w2.heap.size, ⟨⟨none, 0, hbp, .nil⟩, by omega⟩, Nat.le_refl _, Ext.refl _ _⟩
  have hka : ∀ evs W W', OfR w2 w.heap.size evs W → Ext [] W W' → Vw W' ga' 138 5 v1 (ofL A).length (ccs (ofL A)) := by
    rintro evs W W' ⟨go, _, _, hx⟩ hx'
    rw [hlen.1]
    exact (hv1.ext hx (by simp; omega)).ext hx' (by simp)
  have hkb : ∀ evs W W', OfR w2 w.heap.size evs W → Ext [] W W' → Vw W' gb' 138 5 v2 (ofL B).length (ccs (ofL B)) := by
    rintro evs W W' ⟨go, _, _, hx⟩ hx'
    rw [hlen.2]
    exact (hv2.ext hx (by simp; omega)).ext hx' (by simp)
  have hbl := bothL_len (ofL A) (ofL B)
  have hboth := both62_any (ofL A) (ofL B) ga' gb' v1 v2 (.pointer (some ⟨w.heap.size, 0, none⟩)) (OfR w2 w.heap.size) w2 hl2 (fun evs W h => by obtain ⟨_, _, _, hx⟩ := h; exact hx.size) hka hkb (by
    rintro evs ⟨x, y, a, b⟩ rest W W' hev ⟨go, ho, hgo, hx⟩ hx'
    have hzW := hx.size
    have hzW' := hx'.size
    have hlo : (evs.filterMap ofStep).length ≤ 1000 := by
      have h1 := List.length_filterMap_le ofStep evs
      have h2 := congrArg List.length hev
      rw [List.length_append, List.length_cons] at h2
      omega
    refine (of1_any x y a b w.heap.size go (evs.filterMap ofStep) W' (ho.ext hx' (by simp) (by simp)) (by omega) hlo).mono ?_
    rintro r w' ⟨rfl, go', ho', hgo', hx''⟩
    refine ⟨rfl, go', ?_, by omega, (hx.trans0 hx').step hx'' (by simp; omega)⟩
    rw [List.filterMap_append]
    have : List.filterMap ofStep [(⟨x, y, a, b⟩ : Ev)] = (ofStep ⟨x, y, a, b⟩).toList := by cases h : ofStep ⟨x, y, a, b⟩ <;> simp [List.filterMap_cons, h]
    rw [this]; exact ho') hR0
  have hdl : (bothL (ofL A) (ofL B)).filterMap ofStep = deltaL A B := rfl
  have hdn := delta_len A B
  go_wp2_with fail
  refine hboth.mono ?_
  rintro e w5 ⟨rfl, go, ho, hgo, hx5⟩
  rw [hdl] at ho
  obtain ⟨⟨A5, c5', q1, q2⟩, q3⟩ := ho
  have p5 : w5.cell? ⟨w.heap.size, 0, none⟩ = some (.slice A5 (deltaL A B).length c5') := cell_of_row _ _ 0 _ _ _ q1
  have hx05 : Ext [] w w5 := (hx0.trans hx12).step hx5 (by simp)
  clear hboth hka hkb hR0
  generalize hN : (deltaL A B).length = N at *
  have HN := Lib.hid hN; clear hN
  go_wp2_with fail
  go_ret2
  exact ⟨go, _, rfl, by rw [HN.out]; exact q2, by omega, hx05⟩
end Go.Proofs.YtfadbmfkidiaoaaGreatDoor
