/- The lines of a text, one by one. -/
import Derived.Test.YtfadbmfkidiaoaaGreatDoorC6
namespace Go.Proofs.YtfadbmfkidiaoaaGreatDoor
open Go.RowKit Go

theorem lines_any (s : ByteArray) (w : World) :
    Calls Tryz.prog 108 #[.string s] w fun e w' => e = .returned (.func (.func 147) #[] #[.pointer (some ⟨w.heap.size, 0, none⟩)]) ∧ w' = w.alloc (.cells #[.string s] 9) := by
  go_enter Tryz.func108, Tryz.ntmps108
  go_wp2_with fail
  go_ret
  exact ⟨rfl, rfl⟩

attribute [local go_sem] Oper.semAt_some
set_option maxRecDepth 100000 in
set_option maxHeartbeats 1600000 in
theorem lines_it (m l b1 : Nat) (N : Nat) (x : Nat → ByteArray) (rest : Nat → ByteArray) (R Y : Nat → World → Prop)
    (hrest : ∀ k, k < N → rest k = x k ++ ⟨#[10]⟩ ++ rest (k + 1)) (hend : rest N = ByteArray.empty) (hno : ∀ k, k < N → (10 : UInt8) ∉ bl (x k)) (hsz : ∀ k, (rest k).size ≤ 1000000)
    (hb : ∀ k W, R k W → W.heap[b1]? = some (.cells #[.string (rest k)] 9 (0, 0)))
    (hd : ∀ k W, k < N → R k W → Y k (W.setCell ⟨b1, 0, none⟩ (.string (rest (k + 1)))).drew)
    (hY : ∀ k W, k < N → Y k W → YieldAt Fence.wide (m - 1) Tryz.prog l #[.string (x k ++ ⟨#[10]⟩)] W fun e W' => e = .returned (.bool true) ∧ R (k + 1) W')
    (W : World) (h0 : R 0 W) :
    CallsIn Fence.wide m Tryz.prog 147 #[.func (.yield l) #[] #[], .pointer (some ⟨b1, 0, none⟩)] W fun e W' => (∃ v, e = .returned v) ∧ R N W' := by
  refine callsIn_of_wp Tryz.func147 rfl trivial ?_ rfl
  simp only [Tryz.ntmps147, List.size_toArray, List.length_cons, List.length_nil, Nat.reduceAdd, Nat.reduceSub, Array.replicate_succ, Array.replicate_zero, List.push_toArray, List.append_toArray, List.nil_append, List.cons_append]
  gi_wp2_with fail
  gi_loopw [4] (fun iv wr => ∃ (k : Nat), k ≤ N ∧ R k wr) (fun _ wr => match wr.cell? ⟨b1, 0, none⟩ with | some (.string s) => s.size | _ => 0)
  case atStart => exact ⟨0, by omega, h0⟩
  case round =>
    obtain ⟨k, hk, hr⟩ := hrel
    have hbk := hb k _ hr
    have hc := cell_of_one hbk
    have hf := frozen_of_one hbk
    by_cases hlt : k < N
    · have hrs := hrest k hlt
      have hxs : (rest k).size = (x k).size + 1 + (rest (k + 1)).size := by rw [hrs]; simp [ByteArray.size_append]; rfl
      have hz := hsz k
      have hgt : 0 < (rest k).size := by omega
      have hidx := Tryz.strings_IndexByte (rest k) 10 wr
      have e : (rest k).data.toList = bl (x k) ++ 10 :: bl (rest (k + 1)) := by
        show bl _ = _
        rw [hrs, bl_append, bl_append, List.append_assoc]; rfl
      have e10 : ((10 : Int).toNat).toUInt8 = (10 : UInt8) := rfl
      rw [e, e10, indexByte_at _ _ _ (hno k hlt), bl_len] at hidx
      obtain ⟨s1, s2⟩ := cut_slices (x k) (rest (k + 1)) 10
      rw [← hrs] at s1 s2
      obtain ⟨K1, hK1, _, hr1⟩ := str_to Tryz.prog 9 Tryz.underlying9 (rest k) ((x k).size + 1) .i64 (by omega)
      obtain ⟨K2, hK2, _, hr2⟩ := str_from Tryz.prog 9 Tryz.underlying9 (rest k) ((x k).size + 1) (by omega)
      have hK1' : K1 = x k ++ ⟨#[10]⟩ := by
        rw [hK1]
        apply ba_ext
        show bl _ = bl _
        have e2 : bl (rest k) = (bl (x k) ++ [10]) ++ bl (rest (k + 1)) := by show (rest k).data.toList = _; rw [e]; simp
        rw [extract_take, e2, List.drop_zero, Nat.sub_zero, bl_append]
        exact List.take_left' (by simp [bl_len])
      have hK2' : K2 = rest (k + 1) := by rw [hK2]; exact s2
      rw [hK1'] at hr1
      rw [hK2'] at hr2
      have hcast : (((x k).size + 1 : Nat) : Int) = ((x k).size : Int) + 1 := by omega
      rw [hcast] at hr1 hr2
      clear hK1 hK2 hK1' hK2' hcast s1 s2 e e10
      obtain ⟨fn, tmps, assign, body, hy, hRd⟩ := hY k _ hlt (hd k wr hlt hr)
      have hxk : (x k).size ≤ 1000000 := by omega
      have HXS := Lib.hid hxs
      clear hxs hrs hz
      generalize hst : rest k = S at *
      generalize hst1 : rest (k + 1) = S1 at *
      generalize hxx : (x k).size = xs at *
      gi_wp2_with fail
      refine ⟨trivial, fun h => (by simp [Fence.wide] at h), (callsIn_wide.2 hidx).mono ?_⟩
      rintro e w' ⟨rfl, rfl⟩
      gi_wp2_with fail
      gi_region
      gi_wp2_with fail
      refine ⟨fun h => (by simp [Fence.wide] at h), hRd.mono ?_⟩
      rintro e W3 ⟨rfl, hr3⟩
      have hc3 := cell_of_one (hb _ _ hr3)
      gi_wp2_with fail
      go_roundw
      case rel => exact ⟨k + 1, by omega, hr3⟩
      case measure =>
        rw [hc3, hc]
        simp only [hst1]
        have := HXS.out
        omega
    · obtain rfl : k = N := by omega
      rw [hend] at hc
      gi_wp2_with fail
      go_end0
      exact ⟨⟨_, rfl⟩, hr⟩
end Go.Proofs.YtfadbmfkidiaoaaGreatDoor
