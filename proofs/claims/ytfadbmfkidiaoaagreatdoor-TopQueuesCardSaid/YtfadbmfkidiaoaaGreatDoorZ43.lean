/- Two deltas together: what is done for each key. -/
import Derived.Test.YtfadbmfkidiaoaaGreatDoorZ42
namespace Go.Proofs.YtfadbmfkidiaoaaGreatDoor
open Go.RowKit Go
set_option linter.unusedSimpArgs false
set_option linter.unusedVariables false
set_option linter.unusedSectionVars false
set_option linter.unnecessarySimpa false

set_option maxRecDepth 100000 in
set_option maxHeartbeats 3200000 in
theorem tog1_any (x y : Chg) (a b : Bool) (po pq go : Nat) (out : List Chg) (w : World) (h : OutC w po go out) (hpo : po < w.heap.size) (hn : out.length ≤ 1400) (hbad : togBad ⟨x, y, a, b⟩ = false) :
    Calls Tryz.prog 65 #[.agg #[.string x.key, .bool x.was, .bool x.is, .string x.before, .string x.after], .agg #[.string y.key, .bool y.was, .bool y.is, .string y.before, .string y.after], .bool a, .bool b, .pointer (some ⟨po, 0, none⟩), .pointer (some ⟨pq, 0, none⟩)] w
      fun e w' => e = .returned (.tuple #[]) ∧ OutPost po go (out ++ (togStep ⟨x, y, a, b⟩).toList) w w' := by
  obtain ⟨⟨A, c, q1, q2⟩, q3⟩ := h
  obtain ⟨xk, xw, xi, xb, xa⟩ := x
  obtain ⟨yk, yw, yi, yb, ya⟩ := y
  simp only
  have hx0 : Ext [] w ((w.alloc (.cells #[.string xk, .bool xw, .bool xi, .string xb, .string xa] 138)).alloc (.cells #[.string yk, .bool yw, .bool yi, .string yb, .string ya] 138)) := ((Ext.refl [] w).alloc _).alloc _
  cases b with
  | false =>
    have hst : togStep ⟨⟨xk, xw, xi, xb, xa⟩, ⟨yk, yw, yi, yb, ya⟩, a, false⟩ = some ⟨xk, xw, xi, xb, xa⟩ := rfl
    clear hbad
    go_enter Tryz.func65, Tryz.ntmps65
    have hone := chg_one ⟨xk, xw, xi, xb, xa⟩
    simp only at hone
    have hz2 := (hx0).size
    have hn2 := Row.new ((w.alloc (.cells #[.string xk, .bool xw, .bool xi, .string xb, .string xa] 138)).alloc (.cells #[.string yk, .bool yw, .bool yi, .string yb, .string ya] 138)) 138 5 #[.string xk, .bool xw, .bool xi, .string xb, .string xa] 1 1 (by omega) (by simp [maxLen]) rfl
    try simp only [World.size_alloc] at hn2
    have hx23 : Ext [] ((w.alloc (.cells #[.string xk, .bool xw, .bool xi, .string xb, .string xa] 138)).alloc (.cells #[.string yk, .bool yw, .bool yi, .string yb, .string ya] 138)) ((((w.alloc (.cells #[.string xk, .bool xw, .bool xi, .string xb, .string xa] 138)).alloc (.cells #[.string yk, .bool yw, .bool yi, .string yb, .string ya] 138))).alloc (.cells #[.string xk, .bool xw, .bool xi, .string xb, .string xa] 138)) := (Ext.refl [] _).alloc _
    have q12 := (hx0).keep q1 (by simp)
    have q22 := q2.ext (hx0) (by simp)
    have q23 := q22.ext hx23 (by simp)
    have q13 := hx23.keep q12 (by simp)
    have p0 : (((w.alloc (.cells #[.string xk, .bool xw, .bool xi, .string xb, .string xa] 138)).alloc (.cells #[.string yk, .bool yw, .bool yi, .string yb, .string ya] 138))).cell? ⟨po, 0, none⟩ = some (.slice A out.length c) := cell_of_row _ _ 0 _ _ _ q12
    have hsn := Lib.hid (ccs_snoc out ⟨xk, xw, xi, xb, xa⟩)
    have HO := Lib.hid (hst)
    clear hst
    generalize hL : out.length = L at *
    have HL := Lib.hid hL; clear hL
    go_wp2_with ((with_reducible refine wpList_append T61 rfl (.tmp 32) (.tmp 34) rfl rfl rfl q23 hn2.vw hone (by omega) (by omega) ?_); rintro g9 A9 c9 w9 hr9 hx9 hg9 hA9 _ _; obtain rfl := hA9 (by omega); have q19 := hx9.keep q13 (by simp; omega); have p9 : w9.cell? ⟨po, 0, none⟩ = some (.slice A L c) := cell_of_row _ _ 0 _ _ _ q19; have f9 : w9.frozen? ⟨po, 0, none⟩ = false := frozen_of_row _ _ 0 _ _ q19)
    go_end0
    have hset := heap_setCell_same w9 po 0 _ 61 (.slice (some ⟨g9, 0, none⟩) (L + 1) c9) q19
    simp only [World.size_alloc] at hg9
    have hgp : g9 ≠ po := by rcases hg9 with h | h <;> omega
    have hxs : Ext [po] w9 (w9.setCell ⟨po, 0, none⟩ (.slice (some ⟨g9, 0, none⟩) (L + 1) c9)) := (Ext.refl [po] w9).setCell (.inl (by simp)) _
    have hl2 : (out ++ [(⟨xk, xw, xi, xb, xa⟩ : Chg)]).length = L + 1 := by rw [List.length_append, HL.out]; rfl
    rw [HO.out]
    refine ⟨rfl, g9, ⟨⟨some ⟨g9, 0, none⟩, c9, by rw [Option.toList_some, hl2]; exact hset, ?_⟩, hgp⟩, by omega, ?_⟩
    · rw [Option.toList_some, hl2, hsn.out]
      exact hr9.ext hxs (by simp; omega)
    · exact ((((hx0).mono (by simp)).trans (hx23.mono (by simp))).trans (hx9.mono (by simp))).trans (hxs.mono (by simp))
  | true =>
    cases a with
    | false =>
      have hst : togStep ⟨⟨xk, xw, xi, xb, xa⟩, ⟨yk, yw, yi, yb, ya⟩, false, true⟩ = some ⟨yk, yw, yi, yb, ya⟩ := rfl
      clear hbad
      go_enter Tryz.func65, Tryz.ntmps65
      have hone := chg_one ⟨yk, yw, yi, yb, ya⟩
      simp only at hone
      have hz2 := (hx0).size
      have hn2 := Row.new ((w.alloc (.cells #[.string xk, .bool xw, .bool xi, .string xb, .string xa] 138)).alloc (.cells #[.string yk, .bool yw, .bool yi, .string yb, .string ya] 138)) 138 5 #[.string yk, .bool yw, .bool yi, .string yb, .string ya] 1 1 (by omega) (by simp [maxLen]) rfl
      try simp only [World.size_alloc] at hn2
      have hx23 : Ext [] ((w.alloc (.cells #[.string xk, .bool xw, .bool xi, .string xb, .string xa] 138)).alloc (.cells #[.string yk, .bool yw, .bool yi, .string yb, .string ya] 138)) ((((w.alloc (.cells #[.string xk, .bool xw, .bool xi, .string xb, .string xa] 138)).alloc (.cells #[.string yk, .bool yw, .bool yi, .string yb, .string ya] 138))).alloc (.cells #[.string yk, .bool yw, .bool yi, .string yb, .string ya] 138)) := (Ext.refl [] _).alloc _
      have q12 := (hx0).keep q1 (by simp)
      have q22 := q2.ext (hx0) (by simp)
      have q23 := q22.ext hx23 (by simp)
      have q13 := hx23.keep q12 (by simp)
      have p0 : (((w.alloc (.cells #[.string xk, .bool xw, .bool xi, .string xb, .string xa] 138)).alloc (.cells #[.string yk, .bool yw, .bool yi, .string yb, .string ya] 138))).cell? ⟨po, 0, none⟩ = some (.slice A out.length c) := cell_of_row _ _ 0 _ _ _ q12
      have hsn := Lib.hid (ccs_snoc out ⟨yk, yw, yi, yb, ya⟩)
      have HO := Lib.hid (hst)
      clear hst
      generalize hL : out.length = L at *
      have HL := Lib.hid hL; clear hL
      go_wp2_with ((with_reducible refine wpList_append T61 rfl (.tmp 39) (.tmp 41) rfl rfl rfl q23 hn2.vw hone (by omega) (by omega) ?_); rintro g9 A9 c9 w9 hr9 hx9 hg9 hA9 _ _; obtain rfl := hA9 (by omega); have q19 := hx9.keep q13 (by simp; omega); have p9 : w9.cell? ⟨po, 0, none⟩ = some (.slice A L c) := cell_of_row _ _ 0 _ _ _ q19; have f9 : w9.frozen? ⟨po, 0, none⟩ = false := frozen_of_row _ _ 0 _ _ q19)
      go_end0
      have hset := heap_setCell_same w9 po 0 _ 61 (.slice (some ⟨g9, 0, none⟩) (L + 1) c9) q19
      simp only [World.size_alloc] at hg9
      have hgp : g9 ≠ po := by rcases hg9 with h | h <;> omega
      have hxs : Ext [po] w9 (w9.setCell ⟨po, 0, none⟩ (.slice (some ⟨g9, 0, none⟩) (L + 1) c9)) := (Ext.refl [po] w9).setCell (.inl (by simp)) _
      have hl2 : (out ++ [(⟨yk, yw, yi, yb, ya⟩ : Chg)]).length = L + 1 := by rw [List.length_append, HL.out]; rfl
      rw [HO.out]
      refine ⟨rfl, g9, ⟨⟨some ⟨g9, 0, none⟩, c9, by rw [Option.toList_some, hl2]; exact hset, ?_⟩, hgp⟩, by omega, ?_⟩
      · rw [Option.toList_some, hl2, hsn.out]
        exact hr9.ext hxs (by simp; omega)
      · exact ((((hx0).mono (by simp)).trans (hx23.mono (by simp))).trans (hx9.mono (by simp))).trans (hxs.mono (by simp))
    | true =>
      have hb1 : xi = yw ∧ xa = yb := by
        simp only [togBad, Bool.true_and, Bool.or_eq_false_iff, decide_eq_false_iff_not, Decidable.not_not, bne_eq_false_iff_eq] at hbad
        exact hbad
      obtain ⟨rfl, rfl⟩ := hb1
      have hst : togStep ⟨⟨xk, xw, xi, xb, xa⟩, ⟨yk, xi, yi, xa, ya⟩, true, true⟩ = if sameC ⟨xk, xw, yi, xb, ya⟩ then none else some ⟨xk, xw, yi, xb, ya⟩ := by
        simp only [togStep, hbad]; rfl
      clear hbad
      have hsm := same_any ⟨xk, xw, yi, xb, ya⟩
      simp only at hsm
      have hxc : Ext [] w (((w.alloc (.cells #[.string xk, .bool xw, .bool xi, .string xb, .string xa] 138)).alloc (.cells #[.string yk, .bool xi, .bool yi, .string xa, .string ya] 138)).alloc (.cells #[.string xk, .bool xw, .bool yi, .string xb, .string ya] 138)) := ((((Ext.refl [] w).alloc _).alloc _)).alloc _
      have hb := heap_alloc_new ((w.alloc (.cells #[.string xk, .bool xw, .bool xi, .string xb, .string xa] 138)).alloc (.cells #[.string yk, .bool xi, .bool yi, .string xa, .string ya] 138)) (.cells #[.string xk, .bool xw, .bool yi, .string xb, .string ya] 138)
      simp only [World.size_alloc] at hb
      have heq : (xa.toList == xa.toList) = true := by simp
      go_enter Tryz.func65, Tryz.ntmps65
      go_wp2_with fail
      generalize (((w.alloc (.cells #[.string xk, .bool xw, .bool xi, .string xb, .string xa] 138)).alloc (.cells #[.string yk, .bool xi, .bool yi, .string xa, .string ya] 138)).alloc (.cells #[.string xk, .bool xw, .bool yi, .string xb, .string ya] 138)) = W0 at *
      refine (hsm W0).mono ?_
      rintro e w2 ⟨rfl, hx2⟩
      clear hsm hx0
      have hx02 := hxc.trans hx2
      obtain ⟨⟨b0, b1, b2, b3, b4⟩, _⟩ := c5 (hx2.keep hb (by simp))
      cases hs : sameC ⟨xk, xw, yi, xb, ya⟩ with
      | true =>
        have HO := Lib.hid (show togStep ⟨⟨xk, xw, xi, xb, xa⟩, ⟨yk, xi, yi, xa, ya⟩, true, true⟩ = none by rw [hst, hs]; rfl)
        clear hst
        go_wp2_with fail
        go_end0
        rw [HO.out]
        exact ⟨rfl, go, by rw [Option.toList_none, List.append_nil]; exact ⟨⟨A, c, hx02.keep q1 (by simp), q2.ext hx02 (by simp)⟩, q3⟩, .inl rfl, hx02.mono (by simp)⟩
      | false =>
        have hst2 : togStep ⟨⟨xk, xw, xi, xb, xa⟩, ⟨yk, xi, yi, xa, ya⟩, true, true⟩ = some ⟨xk, xw, yi, xb, ya⟩ := by rw [hst, hs]; rfl
        clear hs
        have hone := chg_one ⟨xk, xw, yi, xb, ya⟩
        simp only at hone
        have hz2 := (hx02).size
        have hn2 := Row.new w2 138 5 #[.string xk, .bool xw, .bool yi, .string xb, .string ya] 1 1 (by omega) (by simp [maxLen]) rfl
        try simp only [World.size_alloc] at hn2
        have hx23 : Ext [] w2 ((w2).alloc (.cells #[.string xk, .bool xw, .bool yi, .string xb, .string ya] 138)) := (Ext.refl [] _).alloc _
        have q12 := (hx02).keep q1 (by simp)
        have q22 := q2.ext (hx02) (by simp)
        have q23 := q22.ext hx23 (by simp)
        have q13 := hx23.keep q12 (by simp)
        have p0 : (w2).cell? ⟨po, 0, none⟩ = some (.slice A out.length c) := cell_of_row _ _ 0 _ _ _ q12
        have hsn := Lib.hid (ccs_snoc out ⟨xk, xw, yi, xb, ya⟩)
        have HO := Lib.hid (hst2)
        clear hst hst2
        generalize hL : out.length = L at *
        have HL := Lib.hid hL; clear hL
        go_wp2_with ((with_reducible refine wpList_append T61 rfl (.tmp 25) (.tmp 27) rfl rfl rfl q23 hn2.vw hone (by omega) (by omega) ?_); rintro g9 A9 c9 w9 hr9 hx9 hg9 hA9 _ _; obtain rfl := hA9 (by omega); have q19 := hx9.keep q13 (by simp; omega); have p9 : w9.cell? ⟨po, 0, none⟩ = some (.slice A L c) := cell_of_row _ _ 0 _ _ _ q19; have f9 : w9.frozen? ⟨po, 0, none⟩ = false := frozen_of_row _ _ 0 _ _ q19)
        go_end0
        have hset := heap_setCell_same w9 po 0 _ 61 (.slice (some ⟨g9, 0, none⟩) (L + 1) c9) q19
        simp only [World.size_alloc] at hg9
        have hgp : g9 ≠ po := by rcases hg9 with h | h <;> omega
        have hxs : Ext [po] w9 (w9.setCell ⟨po, 0, none⟩ (.slice (some ⟨g9, 0, none⟩) (L + 1) c9)) := (Ext.refl [po] w9).setCell (.inl (by simp)) _
        have hl2 : (out ++ [(⟨xk, xw, yi, xb, ya⟩ : Chg)]).length = L + 1 := by rw [List.length_append, HL.out]; rfl
        rw [HO.out]
        refine ⟨rfl, g9, ⟨⟨some ⟨g9, 0, none⟩, c9, by rw [Option.toList_some, hl2]; exact hset, ?_⟩, hgp⟩, by omega, ?_⟩
        · rw [Option.toList_some, hl2, hsn.out]
          exact hr9.ext hxs (by simp; omega)
        · exact ((((hx02).mono (by simp)).trans (hx23.mono (by simp))).trans (hx9.mono (by simp))).trans (hxs.mono (by simp))
end Go.Proofs.YtfadbmfkidiaoaaGreatDoor
