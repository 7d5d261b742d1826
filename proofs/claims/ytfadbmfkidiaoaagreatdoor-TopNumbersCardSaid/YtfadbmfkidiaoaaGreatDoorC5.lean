/- Hexadecimal digits read back. -/
import Derived.Test.YtfadbmfkidiaoaaGreatDoorC4
namespace Go.Proofs.YtfadbmfkidiaoaaGreatDoor
open Go.RowKit Go

theorem hexL_at : ∀ (L : List UInt8) (j : Nat), (h : j < L.length) → ((hexL L).drop (2 * j)).take 2 = hexC L[j]
  | [], _, h => by simp at h
  | c :: L, 0, _ => by simp [hexL, hexC]
  | c :: L, j + 1, h => by
    have := hexL_at L j (by simpa using h)
    simp only [List.getElem_cons_succ]
    rw [← this]
    have e : hexL (c :: L) = hexC c ++ hexL L := by simp [hexL]
    rw [e, show 2 * (j + 1) = 2 + 2 * j by omega, ← List.drop_drop, List.drop_left' (by simp [hexC])]
theorem str_mid (P : Program) (t : Nat) (ht : P.underlying t = some .string) (s : ByteArray) (i j : Nat) (y z : Int) (hy : y = i) (hz : z = j) (hij : i ≤ j) (hj : j ≤ s.size) (w : World) :
    (Instr.slice t (.string s) (some (.int .i64 y)) (some (.int .i64 z)) none).run P w = .ok (.string (s.extract i j)) w := by
  subst hy; subst hz
  rw [run_slice_string w t s .i64 .i64 i j ht (by omega) (by omega) (by omega)]
  simp
theorem extract_take (s : ByteArray) (i j : Nat) : (bl (s.extract i j)) = ((bl s).drop i).take (j - i) := by
  simp [bl]

set_option maxRecDepth 100000 in
set_option maxHeartbeats 1000000 in
theorem unhexed_any (t : ByteArray) (w : World) (ht : t.size ≤ 1000) :
    Calls Tryz.prog 111 #[.string (hexed t)] w fun e w' => e = .returned (.string t) ∧ Ext [] w w' := by
  by_cases h0 : t.size = 0
  · have he : t = ByteArray.empty := by
      apply ba_ext
      exact List.eq_nil_of_length_eq_zero (by simpa using h0)
    have hh : hexed t = ⟨#[45]⟩ := by unfold hexed; rw [if_pos h0]
    rw [hh, he]
    have hcn := run_convert_bytes_nil (P := Tryz.prog) w 104 5 Tryz.underlying104 Tryz.underlying5 0 0 9 Tryz.underlying9
    go_enter Tryz.func111, Tryz.ntmps111
    go_wp2_with fail
    go_loop [3, 4] (fun bv iv => bv = .slice none 0 0 ∧ iv = .int .i64 0) (fun _ _ => 0)
    case atStart => exact ⟨rfl, rfl⟩
    case round =>
      obtain ⟨rfl, rfl⟩ := hrel
      go_wp2_with fail
      go_ret
      exact ⟨rfl, Ext.refl _ _⟩
  · have hh : hexed t = ⟨(hexL (bl t)).toArray⟩ := by unfold hexed; rw [if_neg h0]
    have hsz : (hexed t).size = 2 * t.size := by
      rw [hh]; show (hexL (bl t)).toArray.size = _; rw [List.size_toArray, hexL_len, bl_len]
    have hsl : ∀ j, (hj : j < t.size) → ∃ c : UInt8, c = (bl t).getD j 0 ∧ ∀ w : World, (Instr.slice 9 (.string (hexed t)) (some (.int .i64 ((2 * j : Nat) : Int))) (some (.int .i64 (((2 * j : Nat) : Int) + 2))) none).run Tryz.prog w = .ok (.string ⟨#[hexU (c.toNat / 16), hexU (c.toNat % 16)]⟩) w := by
      intro j hj
      have hjl : j < (bl t).length := by rw [bl_len]; exact hj
      refine ⟨_, rfl, fun w => ?_⟩
      rw [str_mid Tryz.prog 9 Tryz.underlying9 (hexed t) (2 * j) (2 * j + 2) _ _ rfl (by omega) (by omega) (by omega) w]
      congr 2
      apply ba_ext
      show bl ((hexed t).extract (2 * j) (2 * j + 2)) = _
      rw [extract_take, show 2 * j + 2 - 2 * j = 2 by omega]
      have : bl (hexed t) = hexL (bl t) := by rw [hh]; simp [bl]
      rw [this, hexL_at _ j hjl]
      simp [hexC, hjl]
    generalize hexed t = S at *
    clear hh
    go_enter Tryz.func111, Tryz.ntmps111
    go_wp2_with fail
    go_loopw [3, 4] (fun bv iv wl => ∃ (j gb : Nat) (A : Option Addr) (c' : Nat), iv = .int .i64 ((2 * j : Nat) : Int) ∧ j ≤ t.size ∧ bv = .slice A j c' ∧ Row wl gb 5 1 (.slice A j c') j (bcs ((bl t).take j)) ∧ w.heap.size ≤ gb ∧ Ext [] w wl) (fun _ iv _ => 2 * t.size - (intOf iv).toNat)
    case atStart => exact ⟨0, w.heap.size, none, 0, rfl, by omega, rfl, .nil, Nat.le_refl _, Ext.refl _ _⟩
    case round =>
      obtain ⟨j, gb, A, c', rfl, hj, rfl, hr, hgb, hx⟩ := hrel
      by_cases hlt : j < t.size
      · obtain ⟨c, hc, hs⟩ := hsl j hlt
        have HC := Lib.hid hc
        have hcl := c.toNat_lt
        have hp := fun w => parse2 (c.toNat / 16) (c.toNat % 16) w (by omega) (by omega)
        have e16 : 16 * (c.toNat / 16) + c.toNat % 16 = c.toNat := Nat.div_add_mod _ _
        rw [e16] at hp
        clear hsl hc e16
        generalize (⟨#[hexU (c.toNat / 16), hexU (c.toNat % 16)]⟩ : ByteArray) = K at *
        generalize hi2 : 2 * j = i at *
        have HI := Lib.hid hi2
        go_wp2_with fail
        refine (hp _).mono ?_
        rintro e w1 ⟨rfl, hx1⟩
        have hr1 := fun o => (hr.ext hx1 (by simp)).ext ((Ext.refl [] w1).alloc o) (by simp)
        have hn1 := lit_new w1 #[.int .u8 (c.toNat : Int)] [c] 1 rfl rfl (by omega)
        clear hp hs
        go_wp2_with (with_reducible refine wpList_append T104 rfl (.tmp 23) (.tmp 26) rfl rfl rfl (hr1 _) hn1.vw (bcs_one _) (by omega) (by omega) ?_; rintro g3 A3 c3 w3 hr3 hx3 hg3 hA3 _ _; obtain rfl := hA3 (by omega))
        have hxa : Ext [gb] wr w3 := (((hx1.mono (by simp) : Ext [gb] wr w1)).alloc _).trans hx3
        simp only [World.size_alloc] at hg3
        have hs1 := hx1.size
        have hsw := hx.size
        go_roundw
        case rel =>
          refine ⟨j + 1, g3, _, c3, by go_num, by omega, rfl, ?_, by omega, hx.step hxa (by simp; omega)⟩
          have hjl : j < (bl t).length := by rw [bl_len]; exact hlt
          have e : (bl t).take (j + 1) = (bl t).take j ++ [c] := by
            rw [List.take_add_one, HC.out, List.getElem?_eq_getElem hjl]; simp [hjl]
          rw [e, bcs_append]
          exact hr3
        case measure => simp [intOf]; omega
      · obtain rfl : j = t.size := by omega
        rw [List.take_of_length_le (by rw [bl_len]; exact Nat.le_refl _)] at hr
        have hcv := run_str hr.vw
        rw [mk_bl] at hcv
        clear hsl
        go_wp2_with fail
        go_ret
        exact ⟨rfl, hx⟩
end Go.Proofs.YtfadbmfkidiaoaaGreatDoor
