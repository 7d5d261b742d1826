/- Bytes whose pieces belong together: what a piece is. -/
import Derived.Test.YtfadbmfkidiaoaaGreatDoorH1
namespace Go.Proofs.YtfadbmfkidiaoaaGreatDoor
open Go.RowKit Go

theorem numB2 (a : Nat) (h : a < 65536) : numB [UInt8.ofNat (a / 256), UInt8.ofNat a] = a := by
  simp [numB, numS]; omega
theorem numB4 (a : Nat) (h : a < 4294967296) : numB (fourB a) = a := by
  simp [numB, numS, fourB]; omega

/-- s[:hi], its address as it was -/
theorem slice_h {P : Program} {t e sz by_ : Nat} (T : SlT P t e sz by_) (g o n c hi : Nat) {y : Int} (hy : y = (hi : Int)) (hhi : hi ≤ c) (w : World) :
    (Instr.slice t (.slice (some ⟨g, o, none⟩) n c) none (some (.int .i64 y)) none).run P w = .ok (.slice (some ⟨g, o, none⟩) hi c) w := by
  subst hy
  obtain ⟨ht, ⟨i, z, hi', hz, hsz, hby, hzs⟩, h0⟩ := T
  have he : P.elem t = e := by simp [Program.elem, ht]
  rw [run_slice_h w t (some ⟨g, o, none⟩) n c (by rw [he]; exact ht) .i64 hi (by omega) (by omega), he]
  simp [sizeOf, typeInfo, hi', hsz, sliced, addr_add]

theorem pieceFacts {W : World} {gi o n c : Nat} {H T : List UInt8} {i N : Nat} (hv : Vw W gi 5 1 (.slice (some ⟨gi, o, none⟩) n c) n (bcs (H ++ [UInt8.ofNat (i / 256), UInt8.ofNat i, UInt8.ofNat (N / 256), UInt8.ofNat N] ++ T)))
    (hH : H.length = 4) (hi : i < 65536) (hN : N < 65536) :
    n = 8 + T.length ∧ n ≤ c ∧ c ≤ 9223372036854775807 ∧ ∃ A46 A68 A8 : Option Addr,
      (∀ w : World, (Instr.slice 104 (.slice (some ⟨gi, o, none⟩) n c) (some (.int .i64 4)) (some (.int .i64 6)) none).run Tryz.prog w = .ok (.slice A46 2 (c - 4)) w) ∧
      (∀ w : World, (Instr.slice 104 (.slice (some ⟨gi, o, none⟩) n c) (some (.int .i64 6)) (some (.int .i64 8)) none).run Tryz.prog w = .ok (.slice A68 2 (c - 6)) w) ∧
      (∀ w : World, (Instr.slice 104 (.slice (some ⟨gi, o, none⟩) n c) none (some (.int .i64 4)) none).run Tryz.prog w = .ok (.slice (some ⟨gi, o, none⟩) 4 c) w) ∧
      (∀ w : World, (Instr.slice 104 (.slice (some ⟨gi, o, none⟩) n c) (some (.int .i64 8)) none none).run Tryz.prog w = .ok (.slice A8 T.length (c - 8)) w) ∧
      (∀ j, Calls Tryz.prog 100 #[.slice A46 2 (c - 4)] (W.drewN j) fun e w' => e = .returned (.int .u32 i) ∧ w' = W.drewN j) ∧
      (∀ j, Calls Tryz.prog 100 #[.slice A68 2 (c - 6)] (W.drewN j) fun e w' => e = .returned (.int .u32 N) ∧ w' = W.drewN j) ∧
      (∀ j, Calls Tryz.prog 100 #[.slice (some ⟨gi, o, none⟩) 4 c] (W.drewN j) fun e w' => e = .returned (.int .u32 (numB H)) ∧ w' = W.drewN j) ∧
      Vw W gi 5 1 (.slice A8 T.length (c - 8)) T.length (bcs T) := by
  have hn := hv.blen
  simp only [List.length_append, List.length_cons, List.length_nil, hH] at hn
  have hc1 : n ≤ c := by cases hv with | at_ _ h _ _ _ => exact h
  have hc2 : c ≤ maxLen := by cases hv with | at_ _ _ h _ _ => exact h
  obtain ⟨A46, a1, a2, a3⟩ := slice_lh T104 (some ⟨gi, o, none⟩) n c 4 6 (z := 4) (y := 6) rfl rfl (by omega) (by omega)
  obtain ⟨A68, b1, b2, b3⟩ := slice_lh T104 (some ⟨gi, o, none⟩) n c 6 8 (z := 6) (y := 8) rfl rfl (by omega) (by omega)
  obtain ⟨A8, d1, d2, d3⟩ := slice_l T104 (some ⟨gi, o, none⟩) n c 8 (z := 8) rfl (by omega)
  have v46 := hv.mid 4 6 (by omega) (by omega) a2 a3
  have v68 := hv.mid 6 8 (by omega) (by omega) b2 b3
  have v04 := hv.to_ 4 (by omega)
  have v8 := hv.tail 8 (by omega) d2 d3
  simp only [bcs_drop, bcs_take] at v46 v68 v04 v8
  have e46 : ((H ++ [UInt8.ofNat (i / 256), UInt8.ofNat i, UInt8.ofNat (N / 256), UInt8.ofNat N] ++ T).drop (4 * 1)).take ((6 - 4) * 1) = [UInt8.ofNat (i / 256), UInt8.ofNat i] := by
    rw [List.append_assoc, List.drop_left' (by omega)]; rfl
  have e68 : ((H ++ [UInt8.ofNat (i / 256), UInt8.ofNat i, UInt8.ofNat (N / 256), UInt8.ofNat N] ++ T).drop (6 * 1)).take ((8 - 6) * 1) = [UInt8.ofNat (N / 256), UInt8.ofNat N] := by
    rw [show 6 * 1 = 4 + 2 by rfl, ← List.drop_drop, List.append_assoc, List.drop_left' (by omega)]; rfl
  have e04 : (H ++ [UInt8.ofNat (i / 256), UInt8.ofNat i, UInt8.ofNat (N / 256), UInt8.ofNat N] ++ T).take (4 * 1) = H := by
    rw [List.append_assoc, List.take_left' (by omega)]
  have e8 : (H ++ [UInt8.ofNat (i / 256), UInt8.ofNat i, UInt8.ofNat (N / 256), UInt8.ofNat N] ++ T).drop (8 * 1) = T := List.drop_left' (by simp; omega)
  have e9 : n - 8 = T.length := by omega
  rw [e9] at d1 v8
  rw [e46] at v46; rw [e68] at v68; rw [e04] at v04; rw [e8] at v8
  refine ⟨by omega, hc1, by simp only [maxLen] at hc2; omega, A46, A68, A8, a1, b1, slice_h T104 gi o n c 4 rfl (by omega), d1, fun j => ?_, fun j => ?_, fun j => ?_, v8⟩
  · have := number_any gi _ 2 _ (W.drewN j) (v46.ext ((Ext.refl [] W).drewN j) (by simp)) (by omega)
    rw [numB2 i hi] at this
    exact this.mono fun e w h => ⟨h.1, h.2.symm⟩
  · have := number_any gi _ 2 _ (W.drewN j) (v68.ext ((Ext.refl [] W).drewN j) (by simp)) (by omega)
    rw [numB2 N hN] at this
    exact this.mono fun e w h => ⟨h.1, h.2.symm⟩
  · exact (number_any gi _ 4 _ (W.drewN j) (v04.ext ((Ext.refl [] W).drewN j) (by simp)) (by omega)).mono fun e w h => ⟨h.1, h.2.symm⟩
end Go.Proofs.YtfadbmfkidiaoaaGreatDoor
