/- A number given. -/
import Derived.Test.YtfadbmfkidiaoaaGreatDoorE4
namespace Go.Proofs.YtfadbmfkidiaoaaGreatDoor
open Go.RowKit Go Go.MapKept

/-- a block less its first number -/
def less (x n : Nat) : Option (Nat × Nat) := if n - 1 = 0 then none else some (x + 1, n - 1)
theorem Gv.lt {w : World} {bg r size : Nat} {F : Lf} (h : Gv w bg r size F) : bg < w.heap.size ∧ r < w.heap.size := by
  obtain ⟨hb, L, hm, _⟩ := h; exact ⟨lt_of_block hb, hm.lt⟩

set_option maxRecDepth 100000 in
set_option maxHeartbeats 1000000 in
/-- from what is left -/
theorem giveLeft (bg r size : Nat) (F : Lf) (b g : Nat) (f : Bool → Option Nat) (k : Bool) (x n : Nat) (w : World) (h : Gv w bg r size F) (hm : Mdl w b g (mpF f)) (hT : Tab w) (hf : Sm f) (hs : 1 ≤ size)
    (hk : F k = some (x, n)) (hn1 : 1 ≤ n) (hn9 : n ≤ 9) (hx : x < 100000) :
    Calls Tryz.prog 12 #[.pointer (some ⟨bg, 0, none⟩), .pointer (some ⟨b, 0, none⟩), .string (nm k)] w fun e w' => e = .returned (.tuple #[.int .i64 x, .int .i64 0]) ∧ Gv w' bg r size (upd F k (less x n)) ∧ Ext [r] w w' := by
  have hne := h.ne
  obtain ⟨hbl, hrl⟩ := h.lt
  have hno := gvNone bg r size F w h hs
  have hnx := next_any b g f k w hm hT hf
  have hlf : lf F k = (x, n) := by unfold lf; rw [hk]; rfl
  have hz : ((n : Int) == 0) = false := by rw [beq_eq_false_iff_ne]; omega
  have hlk := fun w (h : Gv w bg r size F) => h.lookup k
  rw [hlf] at hlk
  simp only at hlk
  have hst := fun w (h : Gv w bg r size F) => gvSet bg r size F k (x + 1) (n - 1) w h
  have e1 : ((x + 1 : Nat) : Int) = (x : Int) + 1 := by omega
  have e2 : ((n - 1 : Nat) : Int) = (n : Int) - 1 := by omega
  rw [e1, e2] at hst
  change ∀ w, Gv w bg r size F → Calls Tryz.prog 46 _ w fun e w' => _ ∧ Gv w' bg r size (upd F k (less x n)) ∧ _ at hst
  generalize less x n = y at *
  generalize nx f k = nn at *
  generalize hKK : nm k = K at *
  clear e1 e2 hlf
  go_enter Tryz.func12, Tryz.ntmps12
  go_wp2_with fail
  refine hno.mono ?_
  rintro e w1 ⟨rfl, rfl⟩
  go_wp2_with fail
  refine hnx.mono ?_
  rintro e w1 ⟨rfl, hx1⟩
  have h1 := h.ext hx1 (by simp) (by simp)
  obtain ⟨c0, c1⟩ := cell96 h1
  have hl1 := hlk w1 h1
  have hs1 := hx1.size
  have hxa : Ext [] w1 (w1.alloc (.cells #[.int .i64 x, .int .i64 n] 43)) := (Ext.refl [] w1).alloc _
  have h2 := h1.ext hxa (by simp) (by simp)
  have hb := heap_alloc_new w1 (.cells #[.int .i64 x, .int .i64 n] 43)
  have hs2 := hst _ h2
  clear hno hnx hlk hst
  have HK := Lib.hid hk; clear hk
  go_wp2_with fail
  refine hs2.mono ?_
  rintro e w3 ⟨⟨v, rfl⟩, hg3, hx3⟩
  have hb3 := hx3.keep hb (by simp; omega)
  have d0 : w3.cell? ⟨w1.heap.size, 0, none⟩ = some (.int .i64 x) := cell_of_row _ _ 0 _ _ _ hb3
  go_wp2_with fail
  go_ret2
  exact ⟨rfl, hg3, ((hx1.mono (by simp)).trans (hxa.mono (by simp))).trans hx3⟩

set_option maxRecDepth 100000 in
set_option maxHeartbeats 1000000 in
/-- from a block that is taken -/
theorem giveTake (bg r size : Nat) (F : Lf) (b g : Nat) (f : Bool → Option Nat) (k : Bool) (w : World) (h : Gv w bg r size F) (hm : Mdl w b g (mpF f)) (hT : Tab w) (hf : Sm f) (hs : 1 ≤ size) (hs9 : size ≤ 9)
    (hk : F k = none) (hsm : nx f k + size < 100000) (hd : bg ≠ b ∧ bg ≠ g ∧ r ≠ b ∧ r ≠ g) :
    Calls Tryz.prog 12 #[.pointer (some ⟨bg, 0, none⟩), .pointer (some ⟨b, 0, none⟩), .string (nm k)] w fun e w' => e = .returned (.tuple #[.int .i64 (nx f k : Nat), .int .i64 0]) ∧ Gv w' bg r size (upd F k (less (nx f k) size)) ∧
      ∃ g', Mdl w' b g' (mpF (upd f k (some (nx f k + size)))) ∧ (g' = g ∨ w.heap.size ≤ g') ∧ Ext [b, g, r] w w' := by
  have hne := h.ne
  obtain ⟨hbl, hrl⟩ := h.lt
  have hgl := hm.lt
  have hbbl : b < w.heap.size := by obtain ⟨⟨v, hb, _⟩, _⟩ := hm; exact lt_of_block hb
  have hno := gvNone bg r size F w h hs
  have hnx := next_any b g f k w hm hT hf
  have hlf : lf F k = (0, 0) := by unfold lf; rw [hk]; rfl
  have hlk := fun w (h : Gv w bg r size F) => h.lookup k
  rw [hlf] at hlk
  change ∀ w, Gv w bg r size F → (Instr.lookup 94 (.map (some r)) (.string (nm k)) false).run Tryz.prog w = .ok (.agg #[.int .i64 0, .int .i64 0]) w at hlk
  have hst := fun w (h : Gv w bg r size F) => gvSet bg r size F k (nx f k + 1) (size - 1) w h
  have htk := fun w (hm : Mdl w b g (mpF f)) (hT : Tab w) => idsTake b g f k size w hm hT hf hs hs9 hsm
  have e1 : ((nx f k + 1 : Nat) : Int) = (nx f k : Int) + 1 := by omega
  have e2 : ((size - 1 : Nat) : Int) = (size : Int) - 1 := by omega
  rw [e1, e2] at hst
  change ∀ w, Gv w bg r size F → Calls Tryz.prog 46 _ w fun e w' => _ ∧ Gv w' bg r size (upd F k (less (nx f k) size)) ∧ _ at hst
  have hnx9 : nx f k < 100000 := by omega
  generalize less (nx f k) size = y at *
  generalize mpF (upd f k (some (nx f k + size))) = l2 at *
  generalize nx f k = nn at *
  generalize hKK : nm k = K at *
  clear e1 e2 hlf
  go_enter Tryz.func12, Tryz.ntmps12
  go_wp2_with fail
  refine hno.mono ?_
  rintro e w1 ⟨rfl, rfl⟩
  go_wp2_with fail
  refine hnx.mono ?_
  rintro e w1 ⟨rfl, hx1⟩
  have h1 := h.ext hx1 (by simp) (by simp)
  obtain ⟨c0, c1⟩ := cell96 h1
  have hl1 := hlk w1 h1
  have hs1 := hx1.size
  have hxa : Ext [] w1 (w1.alloc (.cells #[.int .i64 0, .int .i64 0] 43)) := (Ext.refl [] w1).alloc _
  have h2 := h1.ext hxa (by simp) (by simp)
  have hx02 := hx1.trans hxa
  obtain ⟨c0', c1'⟩ := cell96 h2
  have hb := heap_alloc_new w1 (.cells #[.int .i64 0, .int .i64 0] 43)
  have ht2 := htk _ (hm.ext hx02 (by simp) (by simp)) (hT.ext hx02 (by simp))
  clear hno hnx hlk htk
  have HK := Lib.hid hk; clear hk
  go_wp2_with fail
  refine ht2.mono ?_
  rintro e w3 ⟨rfl, g3, hm3, hg3, hx3⟩
  have hnb : w1.heap.size ∉ [b, g] := by simp; omega
  have hb3 := hx3.keep hb hnb
  have d0 : w3.cell? ⟨w1.heap.size, 0, none⟩ = some (.int .i64 0) := cell_of_row _ _ 0 _ _ _ hb3
  have d1 : w3.cell? ⟨w1.heap.size, 1, none⟩ = some (.int .i64 0) := cell_of_row _ _ 1 _ _ _ hb3
  have f0 : w3.frozen? ⟨w1.heap.size, 0, none⟩ = false := frozen_of_row _ _ 0 _ _ hb3
  have f1 : w3.frozen? ⟨w1.heap.size, 1, none⟩ = false := frozen_of_row _ _ 1 _ _ hb3
  have hb4 := cells2 (x := .int .i64 nn) (y := .int .i64 size) hb3
  have hx4 : Ext [w1.heap.size] w3 ((w3.setCell ⟨w1.heap.size, 0, none⟩ (.int .i64 nn)).setCell ⟨w1.heap.size, 1, none⟩ (.int .i64 size)) := ((Ext.refl _ w3).setCell (.inl (by simp)) _).setCell (.inl (by simp)) _
  have g0 := cell_of_row _ w1.heap.size 0 _ _ _ hb4
  have g1 := cell_of_row _ w1.heap.size 1 _ _ _ hb4
  have h3 := h2.ext hx3 (by simp; omega) (by simp; omega)
  have h4 := h3.ext hx4 (by simp; omega) (by simp; omega)
  have s3 := hx3.size
  simp only [World.size_alloc] at s3 hg3
  have hm4 := hm3.ext hx4 (by simp; omega) (by simp; omega)
  have hs4 := hst _ h4
  have hx5 : Ext [b, g] w ((w3.setCell ⟨w1.heap.size, 0, none⟩ (.int .i64 nn)).setCell ⟨w1.heap.size, 1, none⟩ (.int .i64 size)) := ((hx02.mono (by simp)).trans hx3).step hx4 (by simp; omega)
  clear ht2 hst
  go_wp2_with fail
  refine hs4.mono ?_
  rintro e w5 ⟨⟨v, rfl⟩, hg5, hx6⟩
  have hb5 := hx6.keep hb4 (by simp; omega)
  have k0 : w5.cell? ⟨w1.heap.size, 0, none⟩ = some (.int .i64 nn) := cell_of_row _ _ 0 _ _ _ hb5
  go_wp2_with fail
  go_ret2
  exact ⟨rfl, hg5, g3, hm4.ext hx6 (by simp; omega) (by simp; omega), by omega, (hx5.mono (by simp)).trans (hx6.mono (by simp))⟩
end Go.Proofs.YtfadbmfkidiaoaaGreatDoor
