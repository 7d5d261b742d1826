/- Numbers taken from a map. -/
import Derived.Test.YtfadbmfkidiaoaaGreatDoorE1
import Derived.Laws.ResultCell
namespace Go.Proofs.YtfadbmfkidiaoaaGreatDoor
open Go.RowKit Go

def blk (x n : Nat) : Value := .agg #[.int .i64 x, .int .i64 n]

theorem cells2 {W : World} {B : Nat} {a b x y : Value} {t : Nat} (hb : W.heap[B]? = some (.cells #[a, b] t (0, 0))) :
    ((W.setCell ⟨B, 0, none⟩ x).setCell ⟨B, 1, none⟩ y).heap[B]? = some (.cells #[x, y] t (0, 0)) := by
  have h1 := heap_setCell_same W B 0 _ t x hb
  have h2 := heap_setCell_same _ B 1 _ t y h1
  exact h2
theorem run_results45 (W : World) (tmps : Array Value) (B : Nat) (x y e : Value) (h6 : tmps.getD 6 undef = .pointer (some ⟨B, 0, none⟩)) (h7 : tmps.getD 7 undef = e)
    (c0 : W.cell? ⟨B, 0, none⟩ = some x) (c1 : W.cell? ⟨B, 1, none⟩ = some y) :
    (results Tryz.f45 tmps).run Tryz.prog W = .ok (.tuple #[.agg #[x, y], e]) W := by
  rw [results_cell_tmp (fn := Tryz.f45) (p := 6) (u := 7) (ty := 43) (by kernel_rfl), h6, h7]
  go_simp

set_option maxRecDepth 100000 in
set_option maxHeartbeats 1000000 in
theorem idsTake (b g : Nat) (f : Bool → Option Nat) (k : Bool) (n : Nat) (w : World) (hm : Mdl w b g (mpF f)) (hT : Tab w) (hf : Sm f) (h1 : 1 ≤ n) (h9 : n ≤ 9) (hsm : nx f k + n < 100000) :
    Calls Tryz.prog 45 #[.pointer (some ⟨b, 0, none⟩), .string (nm k), .int .i64 n] w fun e w' => e = .returned (.tuple #[.agg #[.int .i64 (nx f k : Nat), .int .i64 n], .int .i64 0]) ∧ ∃ g', Mdl w' b g' (mpF (upd f k (some (nx f k + n)))) ∧ (g' = g ∨ w.heap.size ≤ g') ∧ Ext [b, g] w w' := by
  have hx0 : Ext [] w (w.alloc (.cells #[.int .i64 0, .int .i64 0] 43)) := (Ext.refl [] w).alloc _
  have hm0 := hm.ext hx0 (by simp) (by simp)
  have hT0 := hT.ext hx0 (by simp)
  have hnx := next_any b g f k _ hm0 hT0 hf
  have hb0 := heap_alloc_new w (.cells #[.int .i64 0, .int .i64 0] 43)
  have hbl : b < w.heap.size := by obtain ⟨⟨v, hb, _⟩, _⟩ := hm; exact lt_of_block hb
  have hgl := hm.lt
  have hit := fun w (hT : Tab w) => itoa_any (nx f k + n) w (by omega) hT
  have hpa := fun w (hm : Mdl w b g (mpF f)) => put_any b g (mpF f) (nm k) (itoaS (nx f k + n)) w hm (by have := mpF_len f; omega) (mpF_srt f) (by rw [nm_size]; omega) (by rw [nm_size]; omega) (by have := itoaS_size (nx f k + n) (by omega); omega)
  rw [mpF_put] at hpa
  generalize mpF (upd f k (some (nx f k + n))) = l2 at *
  generalize hnn : nx f k = x at *
  generalize nm k = K at *
  generalize hS : itoaS (x + n) = S at *
  clear hm0
  go_enter Tryz.func45, Tryz.ntmps45
  go_wp2_with fail
  refine hnx.mono ?_
  rintro e w1 ⟨rfl, hx1⟩
  have hx01 := hx0.trans hx1
  have hi := hit w1 (hT.ext hx01 (by simp))
  have hcast : ((x + n : Nat) : Int) = (x : Int) + n := by omega
  rw [hcast] at hi
  clear hnx hit
  go_wp2_with fail
  refine hi.mono ?_
  rintro e w2 ⟨rfl, hx2⟩
  have hx02 := hx01.trans hx2
  have hp := hpa w2 (hm.ext hx02 (by simp) (by simp))
  clear hpa hi hcast
  go_wp2_with fail
  refine hp.mono ?_
  rintro e w3 ⟨rfl, g3, hm3, hg3, hx3⟩
  have hnb : w.heap.size ∉ [b, g] := by simp; omega
  have hb3 : w3.heap[w.heap.size]? = some (.cells #[.int .i64 0, .int .i64 0] 43 (0, 0)) := hx3.keep (hx2.keep (hx1.keep hb0 (by simp)) (by simp)) hnb
  have c0 : w3.cell? ⟨w.heap.size, 0, none⟩ = some (.int .i64 0) := cell_of_row w3 _ 0 _ _ _ hb3
  have c1 : w3.cell? ⟨w.heap.size, 1, none⟩ = some (.int .i64 0) := cell_of_row w3 _ 1 _ _ _ hb3
  have f0 : w3.frozen? ⟨w.heap.size, 0, none⟩ = false := frozen_of_row w3 _ 0 _ _ hb3
  have f1 : w3.frozen? ⟨w.heap.size, 1, none⟩ = false := frozen_of_row w3 _ 1 _ _ hb3
  have s1 := hx1.size
  have s2 := hx2.size
  simp only [World.size_alloc] at s1
  clear hp
  go_wp2_with fail
  have hb4 := cells2 (x := .int .i64 x) (y := .int .i64 n) hb3
  have hx4 : Ext [w.heap.size] w3 ((w3.setCell ⟨w.heap.size, 0, none⟩ (.int .i64 x)).setCell ⟨w.heap.size, 1, none⟩ (.int .i64 n)) := ((Ext.refl _ w3).setCell (.inl (by simp)) _).setCell (.inl (by simp)) _
  have d0 := cell_of_row _ w.heap.size 0 _ _ _ hb4
  have d1 := cell_of_row _ w.heap.size 1 _ _ _ hb4
  have hm4 := hm3.ext hx4 (by simp; omega) (by simp; omega)
  refine bodyPost_ret (run_results45 _ _ w.heap.size _ _ _ rfl rfl d0 d1) rfl ?_
  exact ⟨rfl, g3, hm4, by omega, ((hx02.mono (by simp)).trans hx3).step hx4 (by simp)⟩
end Go.Proofs.YtfadbmfkidiaoaaGreatDoor
