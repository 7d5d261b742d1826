/- Jobs as rows. -/
import Derived.Test.YtfadbmfkidiaoaaGreatDoorZ25
namespace Go.Proofs.YtfadbmfkidiaoaaGreatDoor
open Go.RowKit Go
set_option linter.unusedSimpArgs false
set_option linter.unusedVariables false
set_option linter.unusedSectionVars false
set_option linter.unnecessarySimpa false

/-- a job -/
structure Jb where
  id : Nat
  pr : Nat
  body : ByteArray
  st : Nat
  tries : Nat
  who : Nat
  till : Nat
def jC (j : Jb) : List Value := [.int .i64 (j.id : Nat), .int .i64 (j.pr : Nat), .string j.body, .int .i64 (j.st : Nat), .int .i64 (j.tries : Nat), .int .i64 (j.who : Nat), .int .i64 (j.till : Nat)]
def jV (j : Jb) : Value := .agg (jC j).toArray
/-- a job as it lies in a queue -/
structure OkJ (j : Jb) : Prop where
  id : j.id ≤ 1000
  pr : j.pr ≤ 9
  body : j.body.size ≤ 15
  st : j.st = 1 ∨ j.st = 2 ∨ j.st = 3
  tries : j.tries ≤ 100
  who : j.who ≤ 1000
  till : j.till ≤ 60000
  free : j.st ≠ 2 → j.till = 0
def ordJ (j : Jb) : Nat := if j.st = 1 then 9 - j.pr else j.till
def kJ (j : Jb) : List Cl := [cU j.st, cU (ordJ j), cU j.id]
def rJ (j : Jb) : List Cl := [cU j.pr, cT j.body, cU j.tries, cU j.who]
theorem OkJ.cells {j : Jb} (h : OkJ j) : OkCs (kJ j ++ rJ j) := by
  obtain ⟨h1, h2, h3, h4, h5, h6, h7, h8⟩ := h
  intro c hc
  simp only [kJ, rJ, List.mem_append, List.mem_cons, List.not_mem_nil, or_false] at hc
  rcases hc with (rfl | rfl | rfl) | (rfl | rfl | rfl | rfl)
  · exact .inl ⟨_, rfl, by omega⟩
  · exact .inl ⟨_, rfl, by unfold ordJ; split <;> omega⟩
  · exact .inl ⟨_, rfl, by omega⟩
  · exact .inl ⟨_, rfl, by omega⟩
  · exact .inr ⟨_, rfl, by omega⟩
  · exact .inl ⟨_, rfl, by omega⟩
  · exact .inl ⟨_, rfl, by omega⟩
theorem num118_x (n : Nat) (w : World) (h : n ≤ 1000000) : Calls Tryz.prog 118 #[.int .i64 n] w fun e w' => e = .returned (.agg #[.int .i64 1, .int .u64 (n : Nat), .int .i64 0, .string eS, .bool false]) ∧ Ext [] w w' := by
  refine (num118_any n w h).mono ?_
  rintro e w' ⟨rfl, rfl⟩
  exact ⟨rfl, (Ext.refl [] w).alloc _⟩
theorem num74_x (n : Nat) (w : World) (h : n ≤ 1000000) : Calls Tryz.prog 74 #[.int .i64 n] w fun e w' => e = .returned (.agg #[.int .i64 1, .int .u64 (n : Nat), .int .i64 0, .string eS, .bool false]) ∧ Ext [] w w' := by
  refine (num74_any n w h).mono ?_
  rintro e w' ⟨rfl, rfl⟩
  exact ⟨rfl, (Ext.refl [] w).alloc _⟩
def HeldJ (B : Nat) (v0 v1 v2 v3 v4 v5 : Value) (w W : World) : Prop :=
  W.cell? ⟨B, 0, none⟩ = some v0 ∧ W.cell? ⟨B, 1, none⟩ = some v1 ∧ W.cell? ⟨B, 2, none⟩ = some v2 ∧ W.cell? ⟨B, 3, none⟩ = some v3 ∧ W.cell? ⟨B, 4, none⟩ = some v4 ∧ W.cell? ⟨B, 5, none⟩ = some v5 ∧ Ext [] w W
theorem HeldJ.ext {B : Nat} {v0 v1 v2 v3 v4 v5 : Value} {w W W' : World} (h : HeldJ B v0 v1 v2 v3 v4 v5 w W) (hx : Ext [] W W') : HeldJ B v0 v1 v2 v3 v4 v5 w W' := by
  obtain ⟨h0, h1, h2, h3, h4, h5, h6⟩ := h
  exact ⟨hx.cell h0 (by simp), hx.cell h1 (by simp), hx.cell h2 (by simp), hx.cell h3 (by simp), hx.cell h4 (by simp), hx.cell h5 (by simp), h6.trans hx⟩
theorem HeldJ.al {B : Nat} {v0 v1 v2 v3 v4 v5 : Value} {w W : World} {o : Obj} (h : HeldJ B v0 v1 v2 v3 v4 v5 w W) : HeldJ B v0 v1 v2 v3 v4 v5 w (W.alloc o) := h.ext ((Ext.refl [] W).alloc o)
theorem HeldJ.dr {B : Nat} {v0 v1 v2 v3 v4 v5 : Value} {w W : World} (h : HeldJ B v0 v1 v2 v3 v4 v5 w W) : HeldJ B v0 v1 v2 v3 v4 v5 w W.drew := h.ext (Ext.refl [] W).drew
set_option maxRecDepth 100000 in
set_option maxHeartbeats 4000000 in
theorem jrow_any (j : Jb) (w : World) (h : OkJ j) : Calls Tryz.prog 157 #[jV j] w fun e w' => ∃ g v, e = .returned v ∧ Row w' g 93 5 v 7 (clsC (kJ j ++ rJ j)) ∧ w.heap.size ≤ g ∧ g < w'.heap.size ∧ Ext [] w w' := by
  obtain ⟨id, pr, body, st, tries, who, till⟩ := j
  obtain ⟨h1, h2, h3, h4, h5, h6, h7, h8⟩ := h
  simp only at h1 h2 h3 h4 h5 h6 h7 h8
  have hx0 : Ext [] w (w.alloc (.cells #[.int .i64 (id : Nat), .int .i64 (pr : Nat), .string body, .int .i64 (st : Nat), .int .i64 (tries : Nat), .int .i64 (who : Nat), .int .i64 (till : Nat)] 80)) := (Ext.refl [] w).alloc _
  have hB := heap_alloc_new w (.cells #[.int .i64 (id : Nat), .int .i64 (pr : Nat), .string body, .int .i64 (st : Nat), .int .i64 (tries : Nat), .int .i64 (who : Nat), .int .i64 (till : Nat)] 80)
  obtain ⟨q, hq⟩ : ∃ q : Nat, q = ordJ ⟨id, pr, body, st, tries, who, till⟩ := ⟨_, rfl⟩
  have hq1 : st = 1 → (9 : Int) - (pr : Int) = (q : Int) := by rintro rfl; rw [hq]; simp [ordJ]; omega
  have hq2 : st ≠ 1 → q = till := by intro hne; rw [hq]; simp [ordJ, hne]
  have hqm : q ≤ 1000000 := by rw [hq]; unfold ordJ; split <;> simp only <;> omega
  have hk : kJ ⟨id, pr, body, st, tries, who, till⟩ ++ rJ ⟨id, pr, body, st, tries, who, till⟩ = [cU st, cU q, cU id, cU pr, cT body, cU tries, cU who] := by simp only [kJ, rJ, ← hq]; rfl
  rw [hk]
  have HQ := Lib.hid hq; clear hq hk
  have n1 := fun W => num118_x st W (by omega)
  have n2 := fun W => num118_x q W (by omega)
  have n3 := fun W => num118_x id W (by omega)
  have n4 := fun W => num118_x pr W (by omega)
  have n5 := fun W => num118_x tries W (by omega)
  have n6 := fun W => num118_x who W (by omega)
  show Calls Tryz.prog 157 #[.agg #[.int .i64 (id : Nat), .int .i64 (pr : Nat), .string body, .int .i64 (st : Nat), .int .i64 (tries : Nat), .int .i64 (who : Nat), .int .i64 (till : Nat)]] w _
  rcases h4 with rfl | rfl | rfl
  · have hq1 := hq1 rfl
    clear hq2
    clear h8
    go_enter Tryz.func157, Tryz.ntmps157
    go_wp2_with fail
    have hpt : HeldJ w.heap.size (.int .i64 (id : Nat)) (.int .i64 (pr : Nat)) (.string body) (.int .i64 1) (.int .i64 (tries : Nat)) (.int .i64 (who : Nat)) (w.alloc (.cells #[.int .i64 (id : Nat), .int .i64 (pr : Nat), .string body, .int .i64 1, .int .i64 (tries : Nat), .int .i64 (who : Nat), .int .i64 (till : Nat)] 80)) (w.alloc (.cells #[.int .i64 (id : Nat), .int .i64 (pr : Nat), .string body, .int .i64 1, .int .i64 (tries : Nat), .int .i64 (who : Nat), .int .i64 (till : Nat)] 80)) :=
      ⟨cell_of_row _ _ 0 _ _ _ hB, cell_of_row _ _ 1 _ _ _ hB, cell_of_row _ _ 2 _ _ _ hB, cell_of_row _ _ 3 _ _ _ hB, cell_of_row _ _ 4 _ _ _ hB, cell_of_row _ _ 5 _ _ _ hB, Ext.refl _ _⟩
    go_region_held3 (fun W => W.cell? ⟨w.heap.size, 0, none⟩ = some (.int .i64 (id : Nat)) ∧ W.cell? ⟨w.heap.size, 1, none⟩ = some (.int .i64 (pr : Nat)) ∧ W.cell? ⟨w.heap.size, 2, none⟩ = some (.string body) ∧ W.cell? ⟨w.heap.size, 3, none⟩ = some (.int .i64 1) ∧ W.cell? ⟨w.heap.size, 4, none⟩ = some (.int .i64 (tries : Nat)) ∧ W.cell? ⟨w.heap.size, 5, none⟩ = some (.int .i64 (who : Nat)) ∧ Ext [] (w.alloc (.cells #[.int .i64 (id : Nat), .int .i64 (pr : Nat), .string body, .int .i64 1, .int .i64 (tries : Nat), .int .i64 (who : Nat), .int .i64 (till : Nat)] 80)) W)
      (first | exact HeldJ.dr hpt | exact HeldJ.al (by assumption) | exact HeldJ.ext (by assumption) hxn)
      (first
        | (go_at_call_of 118 (Value.int .i64 1); refine (n1 _).mono ?_; rintro e w' ⟨rfl, hxn⟩)
        | (go_at_call_of 118 (Value.int .i64 (q : Int)); refine (n2 _).mono ?_; rintro e w' ⟨rfl, hxn⟩)
        | (go_at_call_of 118 (Value.int .i64 (id : Int)); refine (n3 _).mono ?_; rintro e w' ⟨rfl, hxn⟩)
        | (go_at_call_of 118 (Value.int .i64 (pr : Int)); refine (n4 _).mono ?_; rintro e w' ⟨rfl, hxn⟩)
        | (go_at_call_of 118 (Value.int .i64 (tries : Int)); refine (n5 _).mono ?_; rintro e w' ⟨rfl, hxn⟩)
        | (go_at_call_of 118 (Value.int .i64 (who : Int)); refine (n6 _).mono ?_; rintro e w' ⟨rfl, hxn⟩))
    rename_i hHeld
    have hS := hHeld.2.2.2.2.2.2
    clear hHeld
    rename World => w9
    have hsz := hS.size
    simp only [World.size_alloc] at hsz
    have hrow := Row.new w9 93 5 #[.int .i64 1, .int .u64 1, .int .i64 0, .string eS, .bool false, .int .i64 1, .int .u64 (q : Int), .int .i64 0, .string eS, .bool false, .int .i64 1, .int .u64 (id : Int), .int .i64 0, .string eS, .bool false, .int .i64 1, .int .u64 (pr : Int), .int .i64 0, .string eS, .bool false, .int .i64 3, .int .u64 0, .int .i64 0, .string body, .bool false, .int .i64 1, .int .u64 (tries : Int), .int .i64 0, .string eS, .bool false, .int .i64 1, .int .u64 (who : Int), .int .i64 0, .string eS, .bool false] 7 7 (by omega) (by simp [maxLen]) rfl
    go_wp2_with fail
    go_ret
    exact ⟨w9.heap.size, _, ret1 rfl, hrow, by omega, by simp, hx0.trans hS⟩
  · obtain rfl := hq2 (by omega)
    clear hq1
    clear h8
    go_enter Tryz.func157, Tryz.ntmps157
    go_wp2_with fail
    have hpt : HeldJ w.heap.size (.int .i64 (id : Nat)) (.int .i64 (pr : Nat)) (.string body) (.int .i64 2) (.int .i64 (tries : Nat)) (.int .i64 (who : Nat)) (w.alloc (.cells #[.int .i64 (id : Nat), .int .i64 (pr : Nat), .string body, .int .i64 2, .int .i64 (tries : Nat), .int .i64 (who : Nat), .int .i64 (q : Nat)] 80)) (w.alloc (.cells #[.int .i64 (id : Nat), .int .i64 (pr : Nat), .string body, .int .i64 2, .int .i64 (tries : Nat), .int .i64 (who : Nat), .int .i64 (q : Nat)] 80)) :=
      ⟨cell_of_row _ _ 0 _ _ _ hB, cell_of_row _ _ 1 _ _ _ hB, cell_of_row _ _ 2 _ _ _ hB, cell_of_row _ _ 3 _ _ _ hB, cell_of_row _ _ 4 _ _ _ hB, cell_of_row _ _ 5 _ _ _ hB, Ext.refl _ _⟩
    go_region_held3 (fun W => W.cell? ⟨w.heap.size, 0, none⟩ = some (.int .i64 (id : Nat)) ∧ W.cell? ⟨w.heap.size, 1, none⟩ = some (.int .i64 (pr : Nat)) ∧ W.cell? ⟨w.heap.size, 2, none⟩ = some (.string body) ∧ W.cell? ⟨w.heap.size, 3, none⟩ = some (.int .i64 2) ∧ W.cell? ⟨w.heap.size, 4, none⟩ = some (.int .i64 (tries : Nat)) ∧ W.cell? ⟨w.heap.size, 5, none⟩ = some (.int .i64 (who : Nat)) ∧ Ext [] (w.alloc (.cells #[.int .i64 (id : Nat), .int .i64 (pr : Nat), .string body, .int .i64 2, .int .i64 (tries : Nat), .int .i64 (who : Nat), .int .i64 (q : Nat)] 80)) W)
      (first | exact HeldJ.dr hpt | exact HeldJ.al (by assumption) | exact HeldJ.ext (by assumption) hxn)
      (first
        | (go_at_call_of 118 (Value.int .i64 2); refine (n1 _).mono ?_; rintro e w' ⟨rfl, hxn⟩)
        | (go_at_call_of 118 (Value.int .i64 (q : Int)); refine (n2 _).mono ?_; rintro e w' ⟨rfl, hxn⟩)
        | (go_at_call_of 118 (Value.int .i64 (id : Int)); refine (n3 _).mono ?_; rintro e w' ⟨rfl, hxn⟩)
        | (go_at_call_of 118 (Value.int .i64 (pr : Int)); refine (n4 _).mono ?_; rintro e w' ⟨rfl, hxn⟩)
        | (go_at_call_of 118 (Value.int .i64 (tries : Int)); refine (n5 _).mono ?_; rintro e w' ⟨rfl, hxn⟩)
        | (go_at_call_of 118 (Value.int .i64 (who : Int)); refine (n6 _).mono ?_; rintro e w' ⟨rfl, hxn⟩))
    rename_i hHeld
    have hS := hHeld.2.2.2.2.2.2
    clear hHeld
    rename World => w9
    have hsz := hS.size
    simp only [World.size_alloc] at hsz
    have hrow := Row.new w9 93 5 #[.int .i64 1, .int .u64 2, .int .i64 0, .string eS, .bool false, .int .i64 1, .int .u64 (q : Int), .int .i64 0, .string eS, .bool false, .int .i64 1, .int .u64 (id : Int), .int .i64 0, .string eS, .bool false, .int .i64 1, .int .u64 (pr : Int), .int .i64 0, .string eS, .bool false, .int .i64 3, .int .u64 0, .int .i64 0, .string body, .bool false, .int .i64 1, .int .u64 (tries : Int), .int .i64 0, .string eS, .bool false, .int .i64 1, .int .u64 (who : Int), .int .i64 0, .string eS, .bool false] 7 7 (by omega) (by simp [maxLen]) rfl
    go_wp2_with fail
    go_ret
    exact ⟨w9.heap.size, _, ret1 rfl, hrow, by omega, by simp, hx0.trans hS⟩
  · have hq2 := hq2 (by omega)
    have h8 := h8 (by omega)
    subst h8
    subst hq2
    clear hq1
    clear h8
    go_enter Tryz.func157, Tryz.ntmps157
    go_wp2_with fail
    have hpt : HeldJ w.heap.size (.int .i64 (id : Nat)) (.int .i64 (pr : Nat)) (.string body) (.int .i64 3) (.int .i64 (tries : Nat)) (.int .i64 (who : Nat)) (w.alloc (.cells #[.int .i64 (id : Nat), .int .i64 (pr : Nat), .string body, .int .i64 3, .int .i64 (tries : Nat), .int .i64 (who : Nat), .int .i64 0] 80)) (w.alloc (.cells #[.int .i64 (id : Nat), .int .i64 (pr : Nat), .string body, .int .i64 3, .int .i64 (tries : Nat), .int .i64 (who : Nat), .int .i64 0] 80)) :=
      ⟨cell_of_row _ _ 0 _ _ _ hB, cell_of_row _ _ 1 _ _ _ hB, cell_of_row _ _ 2 _ _ _ hB, cell_of_row _ _ 3 _ _ _ hB, cell_of_row _ _ 4 _ _ _ hB, cell_of_row _ _ 5 _ _ _ hB, Ext.refl _ _⟩
    go_region_held3 (fun W => W.cell? ⟨w.heap.size, 0, none⟩ = some (.int .i64 (id : Nat)) ∧ W.cell? ⟨w.heap.size, 1, none⟩ = some (.int .i64 (pr : Nat)) ∧ W.cell? ⟨w.heap.size, 2, none⟩ = some (.string body) ∧ W.cell? ⟨w.heap.size, 3, none⟩ = some (.int .i64 3) ∧ W.cell? ⟨w.heap.size, 4, none⟩ = some (.int .i64 (tries : Nat)) ∧ W.cell? ⟨w.heap.size, 5, none⟩ = some (.int .i64 (who : Nat)) ∧ Ext [] (w.alloc (.cells #[.int .i64 (id : Nat), .int .i64 (pr : Nat), .string body, .int .i64 3, .int .i64 (tries : Nat), .int .i64 (who : Nat), .int .i64 0] 80)) W)
      (first | exact HeldJ.dr hpt | exact HeldJ.al (by assumption) | exact HeldJ.ext (by assumption) hxn)
      (first
        | (go_at_call_of 118 (Value.int .i64 3); refine (n1 _).mono ?_; rintro e w' ⟨rfl, hxn⟩)
        | (go_at_call_of 118 (Value.int .i64 0); refine (n2 _).mono ?_; rintro e w' ⟨rfl, hxn⟩)
        | (go_at_call_of 118 (Value.int .i64 (id : Int)); refine (n3 _).mono ?_; rintro e w' ⟨rfl, hxn⟩)
        | (go_at_call_of 118 (Value.int .i64 (pr : Int)); refine (n4 _).mono ?_; rintro e w' ⟨rfl, hxn⟩)
        | (go_at_call_of 118 (Value.int .i64 (tries : Int)); refine (n5 _).mono ?_; rintro e w' ⟨rfl, hxn⟩)
        | (go_at_call_of 118 (Value.int .i64 (who : Int)); refine (n6 _).mono ?_; rintro e w' ⟨rfl, hxn⟩))
    rename_i hHeld
    have hS := hHeld.2.2.2.2.2.2
    clear hHeld
    rename World => w9
    have hsz := hS.size
    simp only [World.size_alloc] at hsz
    have hrow := Row.new w9 93 5 #[.int .i64 1, .int .u64 3, .int .i64 0, .string eS, .bool false, .int .i64 1, .int .u64 0, .int .i64 0, .string eS, .bool false, .int .i64 1, .int .u64 (id : Int), .int .i64 0, .string eS, .bool false, .int .i64 1, .int .u64 (pr : Int), .int .i64 0, .string eS, .bool false, .int .i64 3, .int .u64 0, .int .i64 0, .string body, .bool false, .int .i64 1, .int .u64 (tries : Int), .int .i64 0, .string eS, .bool false, .int .i64 1, .int .u64 (who : Int), .int .i64 0, .string eS, .bool false] 7 7 (by omega) (by simp [maxLen]) rfl
    go_wp2_with fail
    go_ret
    exact ⟨w9.heap.size, _, ret1 rfl, hrow, by omega, by simp, hx0.trans hS⟩
end Go.Proofs.YtfadbmfkidiaoaaGreatDoor
