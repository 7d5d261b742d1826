/- A strings.Builder of one's own. -/
import Derived.Test.YtfadbmfkidiaoaaGreatDoorB9
import Derived.Lib.Builder
namespace Go.Proofs.YtfadbmfkidiaoaaGreatDoor
open Go.RowKit Go

structure Bld (w : World) (b g : Nat) (L : List UInt8) : Prop where
  blk : ∃ p v, (p = .pointer none ∨ p = .pointer (some ⟨b, 0, none⟩)) ∧ w.heap[b]? = some (.cells #[p, v] 189 (0, 0)) ∧ Row w g 5 1 v L.length (bcs L)
  ne : g ≠ b

theorem bldFacts (b : Nat) (p v : Value) (w : World) (hb : w.heap[b]? = some (.cells #[p, v] 189 (0, 0))) :
    (convert 187 260 (.pointer (some ⟨b, 0, none⟩))).run Tryz.prog w = .ok (.pointer (some ⟨b, 0, none⟩)) w ∧
    (convert 260 187 (.pointer (some ⟨b, 0, none⟩))).run Tryz.prog w = .ok (.pointer (some ⟨b, 0, none⟩)) w ∧
    (binOp .neq 187 (.pointer (some ⟨b, 0, none⟩)) (.pointer (some ⟨b, 0, none⟩))).run Tryz.prog w = .ok (.bool false) w := by
  have h : (Tryz.prog.info? 189).map (fun i => (i.zero, i.size, i.bytes)) = some (some (.agg #[.pointer none, .slice none 0 0]), 2, 32) := by kernel_rfl
  obtain ⟨j, hj, _, hjs, _⟩ := info_parts h
  have hsh : w.shape? b = some (189, 2) := by simp [World.shape?, hb]
  refine ⟨Lib.run_to_unsafe w ⟨b, 0, none⟩ Tryz.underlying187 Tryz.underlying260 hj (by rw [hjs]; decide) hsh (Nat.zero_lt_succ 1),
    Lib.run_from_unsafe w ⟨b, 0, none⟩ Tryz.underlying260 Tryz.underlying187 hj hsh (by kernel_rfl), Lib.run_neq_ptr_same w _ Tryz.underlying187 hj⟩

set_option maxRecDepth 100000 in
set_option maxHeartbeats 800000 in
theorem copyCheck_any (b : Nat) (p v : Value) (w : World) (hp : p = .pointer none ∨ p = .pointer (some ⟨b, 0, none⟩)) (hb : w.heap[b]? = some (.cells #[p, v] 189 (0, 0))) :
    Calls Tryz.prog 145 #[.pointer (some ⟨b, 0, none⟩)] w fun e w' => e = .returned (.tuple #[]) ∧ w'.heap[b]? = some (.cells #[.pointer (some ⟨b, 0, none⟩), v] 189 (0, 0)) ∧ Ext [b] w w' := by
  have c0 : w.cell? ⟨b, 0, none⟩ = some p := cell_of_row w b 0 _ _ _ hb
  have f0 : w.frozen? ⟨b, 0, none⟩ = false := frozen_of_row w b 0 _ _ hb
  obtain ⟨h1, h2, h3⟩ := bldFacts b p v w hb
  rcases hp with rfl | rfl
  · have hse := Lib.run_noEscape (P := Tryz.prog)
    have hb2 := heap_setCell_same w b 0 #[.pointer none, v] 189 (.pointer (some ⟨b, 0, none⟩)) hb
    have hx : Ext [b] w (w.setCell ⟨b, 0, none⟩ (.pointer (some ⟨b, 0, none⟩))) := (Ext.refl [b] w).setCell (.inl (by simp)) _
    have HB := Lib.hid hb2; clear hb2 hb
    go_enter Tryz.func145, Tryz.ntmps145
    go_wp2_with fail
    rw [run_callFunc_extern Tryz.func187 (by kernel_rfl) (by kernel_rfl) (by kernel_rfl) (e := Extern.AbiNoEscape.same) (by kernel_rfl)]
    rw [Lib.run_noEscape]
    simp only [Result.andThen]
    rw [Oper.upon_value]
    go_wp2_with fail
    go_end0
    exact ⟨rfl, HB.out, hx⟩
  · go_enter Tryz.func145, Tryz.ntmps145
    go_wp2_with fail
    go_end0
    exact ⟨rfl, hb, Ext.refl _ _⟩

theorem bld_store {w w1 w3 : World} {b g g3 c3 m : Nat} {v : Value} {L M : List UInt8} (hx1 : Ext [b] w w1) (hb3 : w3.heap[b]? = some (.cells #[.pointer (some ⟨b, 0, none⟩), v] 189 (0, 0))) (hx3 : Ext [g] w1 w3) (hne : g ≠ b) (hbl : b < w1.heap.size) (hg3 : g3 = g ∨ w1.heap.size ≤ g3)
    (hr3 : Row w3 g3 5 1 (.slice (some ⟨g3, 0, none⟩) m c3) m (bcs L ++ bcs M)) :
    Bld (w3.setCell ⟨b, 1, none⟩ (.slice (some ⟨g3, 0, none⟩) m c3)) b g3 (L ++ M) ∧ (g3 = g ∨ w.heap.size ≤ g3) ∧ Ext [b, g] w (w3.setCell ⟨b, 1, none⟩ (.slice (some ⟨g3, 0, none⟩) m c3)) := by
  have s1 := hx1.size
  have hxe : Ext [b] w3 (w3.setCell ⟨b, 1, none⟩ (.slice (some ⟨g3, 0, none⟩) m c3)) := (Ext.refl [b] w3).setCell (.inl (by simp)) _
  have hm : (L ++ M).length = m := by
    have := hr3.vw.len; rw [← bcs_append, bcs_len] at this; omega
  refine ⟨⟨⟨_, _, .inr rfl, heap_setCell_same w3 b 1 _ 189 _ hb3, ?_⟩, by omega⟩, by omega, ((hx1.mono (by simp)).trans (hx3.mono (by simp))).trans (hxe.mono (by simp))⟩
  rw [hm, bcs_append]
  exact hr3.ext hxe (by simp; omega)

set_option maxRecDepth 100000 in
set_option maxHeartbeats 800000 in
theorem writeByte_any (b g : Nat) (L : List UInt8) (c : UInt8) (w : World) (h : Bld w b g L) (hn : L.length ≤ 1000000) :
    Calls Tryz.prog 146 #[.pointer (some ⟨b, 0, none⟩), .int .u8 (c.toNat : Int)] w fun e w' => e = .returned .nilIface ∧ ∃ g', Bld w' b g' (L ++ [c]) ∧ (g' = g ∨ w.heap.size ≤ g') ∧ Ext [b, g] w w' := by
  obtain ⟨⟨p, v, hp, hb, hr⟩, hne⟩ := h
  go_enter Tryz.func146, Tryz.ntmps146
  go_wp2_with fail
  refine (copyCheck_any b p v w hp hb).mono ?_
  rintro e w1 ⟨rfl, hb1, hx1⟩
  have hr1 := hr.ext hx1 (by simpa using hne)
  have hc1 : w1.cell? ⟨b, 1, none⟩ = some v := cell_of_row w1 b 1 _ _ _ hb1
  obtain ⟨A, cc, rfl, _, _⟩ := hr.form
  have hr2 := hr1.ext ((Ext.refl [] w1).alloc (.cells #[.int .u8 (c.toNat : Int)] 5)) (by simp)
  have hn1 := lit_new w1 #[.int .u8 (c.toNat : Int)] [c] 1 rfl rfl (by omega)
  have hbl := lt_of_block hb1
  have hnm : ¬ b ∈ [g] := by simpa using Ne.symm hne
  go_wp2_with (with_reducible refine wpList_append T104 rfl (.tmp 11) (.tmp 13) rfl rfl rfl hr2 hn1.vw (bcs_one _) (by omega) (by omega) ?_; rintro g3 A3 c3 w3 hr3 hx3 hg3 hA3 _ _; obtain rfl := hA3 (by omega); have hb3 := colKeep hb1 hnm hx3; have hc3 := cell_of_row w3 b 1 _ _ _ hb3; have hf3 := frozen_of_row w3 b 1 _ _ hb3)
  go_ret
  have hx13 : Ext [g] w1 w3 := ((Ext.refl [g] w1).alloc _).trans hx3
  simp only [World.size_alloc] at hg3
  exact ⟨rfl, g3, bld_store hx1 hb3 hx13 hne hbl (by omega) hr3⟩

set_option maxRecDepth 100000 in
set_option maxHeartbeats 800000 in
theorem writeString_any (b g : Nat) (L : List UInt8) (s : ByteArray) (w : World) (h : Bld w b g L) (hn : L.length ≤ 1000000) (hs : s.size ≤ 1000000) (h0 : 0 < s.size) :
    Calls Tryz.prog 104 #[.pointer (some ⟨b, 0, none⟩), .string s] w fun e w' => e = .returned (.tuple #[.int .i64 s.size, .nilIface]) ∧ ∃ g', Bld w' b g' (L ++ bl s) ∧ (g' = g ∨ w.heap.size ≤ g') ∧ Ext [b, g] w w' := by
  obtain ⟨⟨p, v, hp, hb, hr⟩, hne⟩ := h
  go_enter Tryz.func104, Tryz.ntmps104
  go_wp2_with fail
  refine (copyCheck_any b p v w hp hb).mono ?_
  rintro e w1 ⟨rfl, hb1, hx1⟩
  have hr1 := hr.ext hx1 (by simpa using hne)
  have hc1 : w1.cell? ⟨b, 1, none⟩ = some v := cell_of_row w1 b 1 _ _ _ hb1
  obtain ⟨A, cc, rfl, _, _⟩ := hr.form
  have hbl := lt_of_block hb1
  have hnm : ¬ b ∈ [g] := by simpa using Ne.symm hne
  go_wp2_with (with_reducible refine wpList_append_str T104 9 Tryz.underlying9 rfl (.tmp 12) (.tmp 13) rfl rfl rfl hr1 (by omega) ?_; rintro g3 A3 c3 w3 hr3 hx3 hg3 hA3 _; obtain rfl := hA3 (by omega); have hb3 := hx3.keep hb1 hnm; have hc3 := cell_of_row w3 b 1 _ _ _ hb3; have hf3 := frozen_of_row w3 b 1 _ _ hb3)
  go_ret2
  exact ⟨rfl, g3, bld_store hx1 hb3 hx3 hne hbl (by omega) hr3⟩
end Go.Proofs.YtfadbmfkidiaoaaGreatDoor
