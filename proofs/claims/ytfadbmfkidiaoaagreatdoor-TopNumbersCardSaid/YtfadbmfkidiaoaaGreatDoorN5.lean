/- TopNumbers: the walk. -/
import Derived.Test.YtfadbmfkidiaoaaGreatDoorN4
namespace Go.Proofs.YtfadbmfkidiaoaaGreatDoor
open Go.RowKit Go

/-- the example of the law -/
def exW : List Wnt := [(false, false, 4), (true, false, 4), (false, false, 2), (false, false, 1), (true, false, 1), (false, false, 4), (true, false, 0), (false, true, 5)]
theorem exW_vw (w : World) : Vw (w.alloc (.cells (wsC exW).toArray 24)) w.heap.size 24 3 (.slice (some ⟨w.heap.size, 0, none⟩) 8 8) 8 (wsC exW) := by
  have := (Row.new w 24 3 (wsC exW).toArray 8 8 (by omega) (by simp [maxLen]) (by simp [wsC, exW])).vw
  have e : (wsC exW).toArray.toList.take (8 * 3) = wsC exW := by simp [wsC, exW]
  rwa [e] at this
theorem exW_lt : ∀ x ∈ exW, x.2.2 < 256 := by simp [exW]
theorem numbered_ex (w W : World) (hx : Ext [] (w.alloc (.cells (wsC exW).toArray 24)) W) (hT : Tab w) (h8 : 8 ≤ w.heap.size) :
    Calls Tryz.prog 5 #[.slice (some ⟨w.heap.size, 0, none⟩) 8 8, .int .i64 3, .int .i64 5] W fun e w' => e = .returned (.bool true) ∧ Ext [] W w' := by
  have hx0 : Ext [] w (w.alloc (.cells (wsC exW).toArray 24)) := (Ext.refl [] w).alloc _
  have h := hx0.trans hx
  exact numbered_any w.heap.size _ 8 exW 3 5 W ((exW_vw w).wv.ext hx (by simp)) (by omega) (by omega) (by omega) (hT.ext h (by simp)) (by have := h.size; omega) exW_lt

set_option maxRecDepth 100000 in
set_option maxHeartbeats 4000000 in
theorem topNumbers_any (gw : Nat) (v : Value) (n : Nat) (l : List Wnt) (size piece : Int) (w : World) (hv : Wv w gw v n l) (hk8 : ∀ x ∈ l, x.2.2 < 256) (hT : Tab w) (h8 : 8 ≤ w.heap.size) (hgw : gw < w.heap.size) :
    Calls Tryz.prog 3 #[v, .int .i64 size, .int .i64 piece] w fun e w' => e = .returned (.bool true) ∧ Ext [] w w' := by
  have hx0 : Ext [] w (w.alloc (.cells (wsC exW).toArray 24)) := (Ext.refl [] w).alloc _
  have hex := fun W hx => numbered_ex w W hx hT h8
  have hlen := hv.le
  by_cases hf : n ≤ 60 ∧ 1 ≤ size ∧ size ≤ 9 ∧ 1 ≤ piece ∧ piece ≤ 64
  · obtain ⟨f1, f2, f3, f4, f5⟩ := hf
    obtain ⟨s, rfl⟩ : ∃ s : Nat, size = s := ⟨size.toNat, by omega⟩
    obtain ⟨p, rfl⟩ : ∃ p : Nat, piece = p := ⟨piece.toNat, by omega⟩
    have hnum := fun W (hx : Ext [] w W) => numbered_any gw v n l s p W (hv.ext hx (by simp)) f1 (by omega) (by omega) (hT.ext hx (by simp)) (by have := hx.size; omega) hk8
    obtain ⟨A, c, rfl, hnc⟩ := hv.form
    clear hv
    go_enter Tryz.func3, Tryz.ntmps3
    go_wp2_with fail
    refine (hnum _ hx0).mono ?_
    rintro e w1 ⟨rfl, hx1⟩
    have h2 := hex _ hx1
    clear hnum hex
    go_wp2_with fail
    refine h2.mono ?_
    rintro e w2 ⟨rfl, hx2⟩
    go_wp2_with fail
    go_ret
    exact ⟨rfl, (hx0.trans hx1).trans hx2⟩
  · have h2 := hex _ (Ext.refl [] _)
    obtain ⟨A, c, rfl, hnc⟩ := hv.form
    clear hv hex
    go_enter Tryz.func3, Tryz.ntmps3
    go_wp2_with fail
    all_goals first
      | (refine h2.mono ?_
         rintro e w2 ⟨rfl, hx2⟩
         go_wp2_with fail
         go_ret
         exact ⟨rfl, hx0.trans hx2⟩)
      | (exfalso; omega)
end Go.Proofs.YtfadbmfkidiaoaaGreatDoor
