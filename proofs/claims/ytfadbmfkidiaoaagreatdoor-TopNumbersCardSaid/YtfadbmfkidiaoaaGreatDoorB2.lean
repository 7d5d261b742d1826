/- Bytes, second part: a string taken off; how much two strings have in common. -/
import Derived.Test.YtfadbmfkidiaoaaGreatDoorB1
namespace Go.Proofs.YtfadbmfkidiaoaaGreatDoor
open Go.RowKit Go

set_option maxHeartbeats 800000 in
theorem take_any (g : Nat) (v : Value) (n : Nat) (b : UInt8) (r : List UInt8) (w : World) (hv : Vw w g 5 1 v n (bcs (b :: r))) (hb : b.toNat ≤ r.length) :
    Calls Tryz.prog 102 #[v] w fun e w' => ∃ v', e = .returned (.tuple #[.string ⟨(r.take b.toNat).toArray⟩, v', .bool true]) ∧ Vw w' g 5 1 v' (r.length - b.toNat) (bcs (r.drop b.toNat)) ∧ Ext [] w w' := by
  have hn := hv.blen
  have hmx := hv.lenMax
  rw [List.length_cons] at hn
  rcases hv.split with ⟨rfl, rfl, h0⟩ | ⟨o, c, rfl, hnc, hcm, _⟩
  · omega
  have hcm' : c ≤ 9223372036854775807 := by simp only [maxLen] at hcm; omega
  have h0 := hv.byte 0 (by omega)
  simp only [Nat.add_zero] at h0
  have hb0 : bAt (b :: r) 0 = (b.toNat : Int) := by simp [bAt]
  rw [hb0] at h0
  clear hb0
  have hbl := b.toNat_lt
  have hlen : ((n : Int) == 0) = false := by simp; omega
  have hle : decide ((n : Int) ≤ (b.toNat : Int)) = false := by simp; omega
  obtain ⟨A1, hs1, hs2, hs3⟩ := slice_l T104 (some ⟨g, o, none⟩) n c (1 + b.toNat) (z := 1 + (b.toNat : Int)) (by omega) (by omega)
  have hv2 := hv.tail (1 + b.toNat) (by omega) hs2 hs3
  rw [bcs_drop, Nat.mul_one] at hv2
  clear hs2 hs3
  obtain ⟨A2, ht1, ht2, ht3⟩ := slice_lh T104 (some ⟨g, o, none⟩) n c 1 (1 + b.toNat) (z := 1) (y := 1 + (b.toNat : Int)) rfl (by omega) (by omega) (by omega)
  have hv1 := hv.mid 1 (1 + b.toNat) (by omega) (by omega) ht2 ht3
  clear ht2 ht3
  rw [bcs_drop, bcs_take] at hv1
  have e1 : (b :: r).drop (1 * 1) = r := rfl
  have e2 : (1 + b.toNat - 1) * 1 = b.toNat := by omega
  have e3 : 1 + b.toNat - 1 = b.toNat := by omega
  rw [e1, e2, e3] at hv1
  rw [e3] at ht1
  have hcv : ∀ k, (convert 104 9 (.slice A2 b.toNat (c - 1))).run Tryz.prog (w.drewN k) = .ok (.string ⟨(r.take b.toNat).toArray⟩) (w.drewN k) := fun k => run_str (hv1.ext ((Ext.refl [] w).drewN k) (by simp))
  have e4 : (b :: r).drop (1 + b.toNat) = r.drop b.toNat := by rw [Nat.add_comm]; rfl
  have e5 : n - (1 + b.toNat) = r.length - b.toNat := by omega
  rw [e4, e5] at hv2
  rw [e5] at hs1
  clear e1 e2 e3 e4 e5 hv1
  have w1 : IntKind.i64.wrap (1 + (b.toNat : Int)) = 1 + (b.toNat : Int) := IntWalk.i64_in _ (by omega)
  generalize hS : (⟨(r.take b.toNat).toArray⟩ : ByteArray) = S at *
  have HV := Lib.hid hv2; clear hv2 hv
  go_enter Tryz.func102, Tryz.ntmps102
  go_wp2_with fail
  go_quiet (fail)
  clear hcv hs1 ht1
  go_wp2
  go_ret3
  exact ⟨_, rfl, HV.out.ext ((Ext.refl [] w).drewN _) (by simp), (Ext.refl [] w).drewN _⟩
end Go.Proofs.YtfadbmfkidiaoaaGreatDoor
