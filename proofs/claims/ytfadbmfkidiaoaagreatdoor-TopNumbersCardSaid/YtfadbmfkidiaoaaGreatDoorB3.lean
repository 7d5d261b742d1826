/- How much two strings have in common; bytes copied. -/
import Derived.Test.YtfadbmfkidiaoaaGreatDoorB2
namespace Go.Proofs.YtfadbmfkidiaoaaGreatDoor
open Go.RowKit Go

def cpl : List UInt8 → List UInt8 → Nat
  | a :: x, b :: y => if a = b then cpl x y + 1 else 0
  | _, _ => 0
theorem cpl_le1 : ∀ a b, cpl a b ≤ a.length
  | [], _ => by simp [cpl]
  | _ :: _, [] => by simp [cpl]
  | a :: x, b :: y => by have := cpl_le1 x y; unfold cpl; split <;> simp; omega
theorem cpl_le2 : ∀ a b, cpl a b ≤ b.length
  | [], _ => by simp [cpl]
  | _ :: _, [] => by simp [cpl]
  | a :: x, b :: y => by have := cpl_le2 x y; unfold cpl; split <;> simp; omega
theorem cpl_take : ∀ a b : List UInt8, a.take (cpl a b) = b.take (cpl a b)
  | [], _ => by simp [cpl]
  | _ :: _, [] => by simp [cpl]
  | a :: x, b :: y => by
    have := cpl_take x y
    unfold cpl; split
    · next h => subst h; simp [this]
    · simp
theorem cpl_step : ∀ (a b : List UInt8) (i : Nat), i ≤ cpl a b → (h1 : i < a.length) → (h2 : i < b.length) → (i < cpl a b ↔ a[i] = b[i])
  | [], _, _, _, h1, _ => by simp at h1
  | _ :: _, [], _, _, _, h2 => by simp at h2
  | a :: x, b :: y, 0, _, _, _ => by unfold cpl; split <;> simp_all
  | a :: x, b :: y, i + 1, h, h1, h2 => by
    unfold cpl at h ⊢
    split at h
    · next e => 
      have := cpl_step x y i (by omega) (by simpa using h1) (by simpa using h2)
      simp [e, this]
    · omega

def bl (s : ByteArray) : List UInt8 := s.data.toList
def cpS (a b : ByteArray) : Nat := cpl (bl a) (bl b)
theorem bl_len (s : ByteArray) : (bl s).length = s.size := by simp [bl]
theorem cpS_le1 (a b : ByteArray) : cpS a b ≤ a.size := by have := cpl_le1 (bl a) (bl b); rw [bl_len] at this; exact this
theorem cpS_le2 (a b : ByteArray) : cpS a b ≤ b.size := by have := cpl_le2 (bl a) (bl b); rw [bl_len] at this; exact this
/-- a byte of a string -/
def sB (s : ByteArray) (i : Nat) : Int := bAt (bl s) i
theorem cpS_step (a b : ByteArray) (i : Nat) (h : i ≤ cpS a b) (h1 : i < a.size) (h2 : i < b.size) : i < cpS a b ↔ sB a i = sB b i := by
  have h1' : i < (bl a).length := by rw [bl_len]; exact h1
  have h2' : i < (bl b).length := by rw [bl_len]; exact h2
  unfold cpS
  rw [cpl_step (bl a) (bl b) i h h1' h2']
  unfold sB bAt
  rw [List.getD_eq_getElem?_getD, List.getD_eq_getElem?_getD, List.getElem?_eq_getElem h1', List.getElem?_eq_getElem h2']
  simp only [Option.getD_some]
  constructor
  · intro e; rw [e]
  · intro e; exact UInt8.toNat_inj.1 (by omega)
theorem sB_range (s : ByteArray) (i : Nat) : 0 ≤ sB s i ∧ sB s i < 256 := bAt_range _ _

theorem run_index (P : Program) (w : World) (t : Nat) (ht : P.underlying t = some .string) (s : ByteArray) (i : Nat) (hi : i < s.size) : (Instr.index t (.string s) (.int .i64 (i : Int))).run P w = .ok (.int .u8 (sB s i)) w := by
  rw [run_index_string w t s .i64 i ht, dif_pos (by omega)]
  have h2 : i < s.data.toList.length := by simpa using hi
  have : (s[(i : Int).toNat]'(by omega)) = s.data.toList[i] := by simp [ByteArray.getElem_eq_getElem_data]
  rw [this]
  unfold sB bAt bl
  rw [List.getD_eq_getElem?_getD, List.getElem?_eq_getElem h2]
  rfl

set_option maxHeartbeats 800000 in
theorem prefix_any (a b : ByteArray) (w : World) (h : a.size ≤ 1000) :
    Calls Tryz.prog 95 #[.string a, .string b] w fun e w' => e = .returned (.int .i64 (cpS a b)) ∧ Ext [] w w' := by
  go_enter Tryz.func95, Tryz.ntmps95
  go_wp2_with fail
  go_loopw [5] (fun iv w' => ∃ i : Nat, i ≤ cpS a b ∧ iv = .int .i64 i ∧ Ext [] w w') (fun iv _ => a.size - (intOf iv).toNat)
  case atStart => exact ⟨0, by omega, rfl, Ext.refl _ _⟩
  case round =>
    obtain ⟨i, hi, rfl, hx⟩ := hrel
    have hle1 := cpS_le1 a b
    have hle2 := cpS_le2 a b
    have hst := cpS_step a b i hi
    by_cases h1 : i < a.size
    · have hd1 : decide ((i : Int) < a.size) = true := by simp; omega
      by_cases h2 : i < b.size
      · have hd2 : decide ((i : Int) < b.size) = true := by simp; omega
        have hst := hst h1 h2
        have r1 := fun w => run_index Tryz.prog w 9 Tryz.underlying9 a i h1
        have r2 := fun w => run_index Tryz.prog w 9 Tryz.underlying9 b i h2
        by_cases h3 : sB a i = sB b i
        · have hd3 : (sB a i == sB b i) = true := by simp [h3]
          have hlt := hst.2 h3
          clear hst
          go_wp2_with fail
          go_quiet (fail)
          go_wp2_with fail
          go_roundw
          case rel => exact ⟨i + 1, by omega, by go_num, hx.drewN _⟩
          case measure => simp [intOf]; omega
        · have hd3 : (sB a i == sB b i) = false := by simp [h3]
          have hlt := Lib.hid (show i = cpS a b by have := mt hst.1 h3; omega)
          clear hst
          go_wp2_with fail
          go_quiet (fail)
          go_wp2_with fail
          go_ret
          exact ⟨ret1 (vi (by rw [hlt.out])), hx.drewN _⟩
      · have hd2 : decide ((i : Int) < b.size) = false := by simp; omega
        clear hst
        go_wp2_with fail
        go_quiet (fail)
        go_wp2_with fail
        go_ret
        exact ⟨ret1 (vi (by omega)), hx.drewN _⟩
    · have hd1 : decide ((i : Int) < a.size) = false := by simp; omega
      clear hst
      go_wp2_with fail
      go_quiet (fail)
      go_wp2_with fail
      go_ret
      exact ⟨ret1 (vi (by omega)), hx.drewN _⟩
end Go.Proofs.YtfadbmfkidiaoaaGreatDoor
