/- What a giver does. -/
import Derived.Test.YtfadbmfkidiaoaaGreatDoorE3
namespace Go.Proofs.YtfadbmfkidiaoaaGreatDoor
open Go.RowKit Go Go.MapKept

theorem cell96 {w : World} {bg r size : Nat} {F : Lf} (h : Gv w bg r size F) : w.cell? ⟨bg, 0, none⟩ = some (.int .i64 size) ∧ w.cell? ⟨bg, 1, none⟩ = some (.map (some r)) :=
  ⟨cell_of_row w bg 0 _ _ _ h.blk, cell_of_row w bg 1 _ _ _ h.blk⟩

set_option maxHeartbeats 800000 in
theorem gvNone (bg r size : Nat) (F : Lf) (w : World) (h : Gv w bg r size F) (hs : 1 ≤ size) :
    Calls Tryz.prog 33 #[.pointer (some ⟨bg, 0, none⟩)] w fun e w' => e = .returned (.bool false) ∧ w = w' := by
  obtain ⟨c0, _⟩ := cell96 h
  have hz : ((size : Int) == 0) = false := by rw [beq_eq_false_iff_ne]; omega
  go_enter Tryz.func33, Tryz.ntmps33
  go_wp2_with fail
  go_ret
  exact ⟨rfl, rfl⟩

set_option maxRecDepth 100000 in
set_option maxHeartbeats 800000 in
theorem idsNew (n : Nat) (w : World) (h1 : 1 ≤ n) (h9 : n ≤ 9) :
    Calls Tryz.prog 7 #[.int .i64 n] w fun e w' => ∃ bg r, e = .returned (.tuple #[.pointer (some ⟨bg, 0, none⟩), .int .i64 0]) ∧ Gv w' bg r n (fun _ => none) ∧ w.heap.size ≤ bg ∧ w.heap.size ≤ r ∧ bg < w'.heap.size ∧ r < w'.heap.size ∧ Ext [] w w' := by
  have hmm := @run_makeMap Tryz.prog
  go_enter Tryz.func7, Tryz.ntmps7
  go_wp2_with fail
  go_ret2
  have hx : Ext [] w ((w.alloc (.map #[] 0)).alloc (.cells #[.int .i64 n, .map (some w.heap.size)] 96)) := ((Ext.refl [] w).alloc _).alloc _
  refine ⟨w.heap.size + 1, w.heap.size, by simp, ⟨?_, [], (Mp.new w .string).ext ((Ext.refl [] _).alloc _) (by simp), by simp [GL]⟩, by omega, by omega, by simp, by simp; omega, hx⟩
  have := heap_alloc_new (w.alloc (.map #[] 0)) (.cells #[.int .i64 n, .map (some w.heap.size)] 96)
  simpa using this

theorem results_cell1 {fn : Func} {p : Tmp} {ty : TypeId} (h : fn.results = #[.cell p ty]) (tmps : Array Value) (P : Program) (w : World) :
    (results fn tmps).run P w = ((asAddr (tmps.getD p undef)).run P w).andThen fun a w₁ => (loadVar ty a).run P w₁ := by
  simp only [results, h]
  simp [Sem.run_bind, Result.andThen]
theorem run_results8 (W : World) (tmps : Array Value) (B : Nat) (x y : Value) (h4 : tmps.getD 4 undef = .pointer (some ⟨B, 0, none⟩))
    (c0 : W.cell? ⟨B, 0, none⟩ = some x) (c1 : W.cell? ⟨B, 1, none⟩ = some y) :
    (results Tryz.f8 tmps).run Tryz.prog W = .ok (.agg #[x, y]) W := by
  rw [results_cell1 (fn := Tryz.f8) (p := 4) (ty := 43) (by kernel_rfl), h4]
  go_simp
set_option maxRecDepth 100000 in
set_option maxHeartbeats 800000 in
theorem gvLeft (bg r size : Nat) (F : Lf) (k : Bool) (w : World) (h : Gv w bg r size F) (hs : 1 ≤ size) :
    Calls Tryz.prog 8 #[.pointer (some ⟨bg, 0, none⟩), .string (nm k)] w fun e w' => e = .returned (.agg #[.int .i64 (lf F k).1, .int .i64 (lf F k).2]) ∧ Ext [] w w' := by
  have hx0 : Ext [] w (w.alloc (.cells #[.int .i64 0, .int .i64 0] 43)) := (Ext.refl [] w).alloc _
  have h0 := h.ext hx0 (by simp) (by simp)
  obtain ⟨c0, c1⟩ := cell96 h0
  have hl := h0.lookup k
  have hn := gvNone bg r size F _ h0 hs
  have hb := heap_alloc_new w (.cells #[.int .i64 0, .int .i64 0] 43)
  have d0 : (w.alloc (.cells #[.int .i64 0, .int .i64 0] 43)).cell? ⟨w.heap.size, 0, none⟩ = some (.int .i64 0) := cell_of_row _ _ 0 _ _ _ hb
  have d1 : (w.alloc (.cells #[.int .i64 0, .int .i64 0] 43)).cell? ⟨w.heap.size, 1, none⟩ = some (.int .i64 0) := cell_of_row _ _ 1 _ _ _ hb
  have f0 : (w.alloc (.cells #[.int .i64 0, .int .i64 0] 43)).frozen? ⟨w.heap.size, 0, none⟩ = false := frozen_of_row _ _ 0 _ _ hb
  have f1 : (w.alloc (.cells #[.int .i64 0, .int .i64 0] 43)).frozen? ⟨w.heap.size, 1, none⟩ = false := frozen_of_row _ _ 1 _ _ hb
  generalize nm k = K at *
  generalize lf F k = x at *
  go_enter Tryz.func8, Tryz.ntmps8
  go_wp2_with fail
  refine hn.mono ?_
  rintro e w1 ⟨rfl, rfl⟩
  clear hn
  go_wp2_with fail
  have hb' := heap_alloc_new w (.cells #[.int .i64 x.1, .int .i64 x.2] 43)
  refine bodyPost_ret (run_results8 _ _ w.heap.size (.int .i64 x.1) (.int .i64 x.2) rfl (cell_of_row _ _ 0 _ _ _ hb') (cell_of_row _ _ 1 _ _ _ hb')) rfl ?_
  exact ⟨rfl, (Ext.refl [] w).alloc _⟩

set_option maxHeartbeats 800000 in
theorem gvLose (bg r size : Nat) (F : Lf) (w : World) (h : Gv w bg r size F) (hs : 1 ≤ size) :
    Calls Tryz.prog 9 #[.pointer (some ⟨bg, 0, none⟩)] w fun e w' => (∃ v, e = .returned v) ∧ Gv w' bg r size (fun _ => none) ∧ Ext [r] w w' := by
  have hne := h.ne
  obtain ⟨c0, c1⟩ := cell96 h
  have hn := gvNone bg r size F _ h hs
  have hb := h.blk
  obtain ⟨_, L, hm, _⟩ := h
  obtain ⟨w', hcl, hm', hx⟩ := hm.clear (P := Tryz.prog) Tryz.underlying94 Tryz.underlying9 0
  go_enter Tryz.func9, Tryz.ntmps9
  go_wp2_with fail
  refine hn.mono ?_
  rintro e w1 ⟨rfl, rfl⟩
  clear hn
  go_wp2_with fail
  go_end0
  exact ⟨⟨_, rfl⟩, ⟨hx.keep hb (by simpa using hne), [], hm', by simp [GL]⟩, hx⟩

set_option maxRecDepth 100000 in
set_option maxHeartbeats 800000 in
theorem gvSet (bg r size : Nat) (F : Lf) (k : Bool) (x n : Nat) (w : World) (h : Gv w bg r size F) :
    Calls Tryz.prog 46 #[.pointer (some ⟨bg, 0, none⟩), .string (nm k), .agg #[.int .i64 x, .int .i64 n]] w fun e w' => (∃ v, e = .returned v) ∧ Gv w' bg r size (upd F k (if n = 0 then none else some (x, n))) ∧ Ext [r] w w' := by
  have hx0 : Ext [] w (w.alloc (.cells #[.int .i64 x, .int .i64 n] 43)) := (Ext.refl [] w).alloc _
  have h0 := h.ext hx0 (by simp) (by simp)
  have hne := h.ne
  obtain ⟨c0, c1⟩ := cell96 h0
  have hb := heap_alloc_new w (.cells #[.int .i64 x, .int .i64 n] 43)
  have d0 : (w.alloc (.cells #[.int .i64 x, .int .i64 n] 43)).cell? ⟨w.heap.size, 0, none⟩ = some (.int .i64 x) := cell_of_row _ _ 0 _ _ _ hb
  have d1 : (w.alloc (.cells #[.int .i64 x, .int .i64 n] 43)).cell? ⟨w.heap.size, 1, none⟩ = some (.int .i64 n) := cell_of_row _ _ 1 _ _ _ hb
  by_cases hn : n = 0
  · have hz : ((n : Int) == 0) = true := by rw [beq_iff_eq]; omega
    rw [if_pos hn]
    clear hn
    obtain ⟨w', hd, hg', hx⟩ := h0.del hne k 0
    generalize nm k = K at *
    go_enter Tryz.func46, Tryz.ntmps46
    go_wp2_with fail
    refine bodyPost_ret (results_none rfl _ _ _) rfl ?_
    exact ⟨⟨_, rfl⟩, hg', (hx0.mono (by simp)).trans hx⟩
  · have hz : ((n : Int) == 0) = false := by rw [beq_eq_false_iff_ne]; omega
    rw [if_neg hn]
    have hxd : Ext [] w (w.alloc (.cells #[.int .i64 x, .int .i64 n] 43)).drew := hx0.drew
    have h0d := h0.ext (S := []) ((Ext.refl [] _).drew) (by simp) (by simp)
    obtain ⟨w', hup, hg', hx⟩ := h0d.put hne k (x, n)
    simp only at hup
    generalize nm k = K at *
    go_enter Tryz.func46, Tryz.ntmps46
    go_wp2_with fail
    generalize w.alloc (.cells #[.int .i64 x, .int .i64 n] 43) = W at *
    go_still_tail 6, (by kernel_rfl)
    change wpList _ _ _ _ _ W.drew
    go_wp2_with fail
    go_end0
    exact ⟨⟨_, rfl⟩, hg', (hxd.mono (by simp)).trans hx⟩
end Go.Proofs.YtfadbmfkidiaoaaGreatDoor
