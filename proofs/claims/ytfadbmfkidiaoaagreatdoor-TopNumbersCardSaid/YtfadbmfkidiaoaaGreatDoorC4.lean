/- Two hexadecimal digits read. -/
import Derived.Test.YtfadbmfkidiaoaaGreatDoorC3
namespace Go.Proofs.YtfadbmfkidiaoaaGreatDoor
open Go.RowKit Go

theorem hexU_dec : ∀ a, a < 16 → ((hexU a).toNat = if a < 10 then 48 + a else 87 + a) := by decide

set_option maxHeartbeats 400000 in
theorem lower_any (c : Nat) (w : World) (h1 : 97 ≤ c) (h2 : c ≤ 102) :
    Calls Tryz.prog 213 #[.int .u8 c] w fun e w' => e = .returned (.int .u8 c) ∧ w = w' := by
  obtain rfl | rfl | rfl | rfl | rfl | rfl : c = 97 ∨ c = 98 ∨ c = 99 ∨ c = 100 ∨ c = 101 ∨ c = 102 := by omega
  all_goals (
    go_enter Tryz.func213, Tryz.ntmps213
    go_wp2_with fail
    go_ret
    exact ⟨rfl, rfl⟩)

def pv (a b : Nat) : Nat → Nat
  | 0 => 0
  | 1 => a
  | _ => 16 * a + b
def dg (a b : Nat) : Nat → Nat
  | 0 => a
  | _ => b
theorem pv_step (a b i : Nat) (hi : i < 2) : pv a b (i + 1) = 16 * pv a b i + dg a b i := by
  match i, hi with
  | 0, _ => simp [pv, dg]
  | 1, _ => simp [pv, dg]
theorem pv_lt (a b : Nat) (ha : a < 16) (hb : b < 16) (i : Nat) (hi : i < 2) : pv a b i < 16 ∧ dg a b i < 16 := by
  match i, hi with
  | 0, _ => simp [pv, dg]; omega
  | 1, _ => simp [pv, dg]; omega
set_option maxRecDepth 1000000 in
set_option maxHeartbeats 2000000 in
theorem parse2i (a b : Nat) (w : World) (ha : a < 16) (hb : b < 16) :
    Calls Tryz.prog 190 #[.string ⟨#[hexU a, hexU b]⟩, .int .i64 16, .int .i64 8] w fun e w' => e = .returned (.tuple #[.int .u64 (16 * a + b : Nat), .nilIface]) ∧ Ext [] w w' := by
  obtain ⟨S, hS⟩ : ∃ S : ByteArray, S = ⟨#[hexU a, hexU b]⟩ := ⟨_, rfl⟩
  have hs2 : S.size = 2 := by rw [hS]; rfl
  have hne := str_ne (s := S) (by omega)
  obtain ⟨c', W1, hcv, hv, hx1⟩ := conv_str S w (by omega)
  have hby : ∀ i, i < 2 → W1.cell? ⟨w.heap.size, i, none⟩ = some (.int .u8 ((hexU (dg a b i)).toNat : Int)) := by
    intro i hi
    have := hv.byte i (by omega)
    rw [Nat.zero_add] at this
    rw [this]
    congr 2
    rw [hS]
    match i, hi with
    | 0, _ => rfl
    | 1, _ => rfl
  rw [← hS]
  have HS := Lib.hid hS; clear hS
  rw [hs2] at hcv
  clear hv
  go_enter Tryz.func190, Tryz.ntmps190
  go_wp2_with fail
  go_loopw [12, 13, 101] (fun fv nv iv wl => ∃ i : Nat, iv = .int .i64 i ∧ i ≤ 2 ∧ fv = .bool false ∧ nv = .int .u64 (pv a b i : Nat) ∧ wl = W1) (fun _ _ iv _ => 2 - (intOf iv).toNat)
  case atStart => exact ⟨0, rfl, by omega, rfl, rfl, rfl⟩
  case round =>
    obtain ⟨i, rfl, hi, rfl, rfl, rfl⟩ := hrel
    by_cases hlt : i < 2
    · have hc := hby i hlt
      have hst := pv_step a b i hlt
      obtain ⟨hp16, hd16⟩ := pv_lt a b ha hb i hlt
      have hdec := hexU_dec (dg a b i) hd16
      have HST := Lib.hid hst; clear hst
      generalize dg a b i = d at *
      generalize pv a b i = n at *
      clear hby
      have hcut : ((1152921504606846976 : Int) ≤ (n : Int)) = False := by rw [eq_iff_iff, iff_false]; omega
      have hcut2 : ((n : Int) ≥ (1152921504606846976 : Int)) = False := by rw [eq_iff_iff, iff_false]; omega
      have hcut3 : decide ((n : Int) ≥ (1152921504606846976 : Int)) = false := by rw [decide_eq_false_iff_not]; omega
      have hcut4 : decide ((1152921504606846976 : Int) ≤ (n : Int)) = false := by rw [decide_eq_false_iff_not]; omega
      by_cases h10 : d < 10
      · rw [if_pos h10] at hdec
        rw [hdec] at hc
        clear hdec hcv HS
        go_wp2_with fail
        go_roundw
        case rel => exact ⟨i + 1, by go_num, by omega, rfl, vi (by rw [HST.out]; omega), by trivial⟩
        case measure => simp [intOf]; omega
      · rw [if_neg h10] at hdec
        rw [hdec] at hc
        clear hdec hcv HS
        have hlo := fun w => lower_any (87 + d) w (by omega) (by omega)
        go_wp2_with (go_at_call 213; refine (hlo _).mono ?_; rintro e w' ⟨rfl, rfl⟩)
        go_roundw
        case rel => exact ⟨i + 1, by go_num, by omega, rfl, vi (by rw [HST.out]; omega), by trivial⟩
        case measure => simp [intOf]; omega
    · obtain rfl : i = 2 := by omega
      go_wp2_with fail
      go_ret2
      exact ⟨ret2 rfl rfl, hx1⟩

set_option maxHeartbeats 800000 in
theorem parse2 (a b : Nat) (w : World) (ha : a < 16) (hb : b < 16) :
    Calls Tryz.prog 151 #[.string ⟨#[hexU a, hexU b]⟩, .int .i64 16, .int .i64 8] w fun e w' => e = .returned (.tuple #[.int .u64 (16 * a + b : Nat), .nilIface]) ∧ Ext [] w w' := by
  have h := fun w => parse2i a b w ha hb
  generalize (⟨#[hexU a, hexU b]⟩ : ByteArray) = S at *
  generalize 16 * a + b = n at *
  go_enter Tryz.func151, Tryz.ntmps151
  go_wp2_with fail
  refine (h _).mono ?_
  rintro e w1 ⟨rfl, hx⟩
  go_wp2_with fail
  go_ret2
  exact ⟨rfl, hx⟩
end Go.Proofs.YtfadbmfkidiaoaaGreatDoor
