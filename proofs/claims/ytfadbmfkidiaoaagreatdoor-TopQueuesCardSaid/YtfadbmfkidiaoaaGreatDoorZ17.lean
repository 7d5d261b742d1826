/- Hexadecimal digits read back. A line cut at its sign; its end taken off; the lines of a text. The lines of a text, one by one. -/
import Derived.Test.YtfadbmfkidiaoaaGreatDoorZ16
namespace Go.Proofs.YtfadbmfkidiaoaaGreatDoor
open Go.RowKit Go

theorem hexL_at : ∀ (L : List UInt8) (j : Nat), (h : j < L.length) → ((hexL L).drop (2 * j)).take 2 = hexC L[j]
  | [], _, h => by simp at h
  | c :: L, 0, _ => by simp [hexL, hexC]
  | c :: L, j + 1, h => by
    have := hexL_at L j (by simpa using h)
    simp only [List.getElem_cons_succ]
    rw [← this]
    have e : hexL (c :: L) = hexC c ++ hexL L := by simp [hexL]
    rw [e, show 2 * (j + 1) = 2 + 2 * j by omega, ← List.drop_drop, List.drop_left' (by simp [hexC])]
theorem str_mid (P : Program) (t : Nat) (ht : P.underlying t = some .string) (s : ByteArray) (i j : Nat) (y z : Int) (hy : y = i) (hz : z = j) (hij : i ≤ j) (hj : j ≤ s.size) (w : World) :
    (Instr.slice t (.string s) (some (.int .i64 y)) (some (.int .i64 z)) none).run P w = .ok (.string (s.extract i j)) w := by
  subst hy; subst hz
  rw [run_slice_string w t s .i64 .i64 i j ht (by omega) (by omega) (by omega)]
  simp
theorem extract_take (s : ByteArray) (i j : Nat) : (bl (s.extract i j)) = ((bl s).drop i).take (j - i) := by
  simp [bl]

set_option maxRecDepth 100000 in
set_option maxHeartbeats 1000000 in
theorem unhexed_any (t : ByteArray) (w : World) (ht : t.size ≤ 1000) :
    Calls Tryz.prog 111 #[.string (hexed t)] w fun e w' => e = .returned (.string t) ∧ Ext [] w w' := by
  by_cases h0 : t.size = 0
  · have he : t = ByteArray.empty := by
      apply ba_ext
      exact List.eq_nil_of_length_eq_zero (by simpa using h0)
    have hh : hexed t = ⟨#[45]⟩ := by unfold hexed; rw [if_pos h0]
    rw [hh, he]
    have hcn := run_convert_bytes_nil (P := Tryz.prog) w 104 5 Tryz.underlying104 Tryz.underlying5 0 0 9 Tryz.underlying9
    go_enter Tryz.func111, Tryz.ntmps111
    go_wp2_with fail
    go_loop [3, 4] (fun bv iv => bv = .slice none 0 0 ∧ iv = .int .i64 0) (fun _ _ => 0)
    case atStart => exact ⟨rfl, rfl⟩
    case round =>
      obtain ⟨rfl, rfl⟩ := hrel
      go_wp2_with fail
      go_ret
      exact ⟨rfl, Ext.refl _ _⟩
  · have hh : hexed t = ⟨(hexL (bl t)).toArray⟩ := by unfold hexed; rw [if_neg h0]
    have hsz : (hexed t).size = 2 * t.size := by
      rw [hh]; show (hexL (bl t)).toArray.size = _; rw [List.size_toArray, hexL_len, bl_len]
    have hsl : ∀ j, (hj : j < t.size) → ∃ c : UInt8, c = (bl t).getD j 0 ∧ ∀ w : World, (Instr.slice 9 (.string (hexed t)) (some (.int .i64 ((2 * j : Nat) : Int))) (some (.int .i64 (((2 * j : Nat) : Int) + 2))) none).run Tryz.prog w = .ok (.string ⟨#[hexU (c.toNat / 16), hexU (c.toNat % 16)]⟩) w := by
      intro j hj
      have hjl : j < (bl t).length := by rw [bl_len]; exact hj
      refine ⟨_, rfl, fun w => ?_⟩
      rw [str_mid Tryz.prog 9 Tryz.underlying9 (hexed t) (2 * j) (2 * j + 2) _ _ rfl (by omega) (by omega) (by omega) w]
      congr 2
      apply ba_ext
      show bl ((hexed t).extract (2 * j) (2 * j + 2)) = _
      rw [extract_take, show 2 * j + 2 - 2 * j = 2 by omega]
      have : bl (hexed t) = hexL (bl t) := by rw [hh]; simp [bl]
      rw [this, hexL_at _ j hjl]
      simp [hexC, hjl]
    generalize hexed t = S at *
    clear hh
    go_enter Tryz.func111, Tryz.ntmps111
    go_wp2_with fail
    go_loopw [3, 4] (fun bv iv wl => ∃ (j gb : Nat) (A : Option Addr) (c' : Nat), iv = .int .i64 ((2 * j : Nat) : Int) ∧ j ≤ t.size ∧ bv = .slice A j c' ∧ Row wl gb 5 1 (.slice A j c') j (bcs ((bl t).take j)) ∧ w.heap.size ≤ gb ∧ Ext [] w wl) (fun _ iv _ => 2 * t.size - (intOf iv).toNat)
    case atStart => exact ⟨0, w.heap.size, none, 0, rfl, by omega, rfl, .nil, Nat.le_refl _, Ext.refl _ _⟩
    case round =>
      obtain ⟨j, gb, A, c', rfl, hj, rfl, hr, hgb, hx⟩ := hrel
      by_cases hlt : j < t.size
      · obtain ⟨c, hc, hs⟩ := hsl j hlt
        have HC := Lib.hid hc
        have hcl := c.toNat_lt
        have hp := fun w => parse2 (c.toNat / 16) (c.toNat % 16) w (by omega) (by omega)
        have e16 : 16 * (c.toNat / 16) + c.toNat % 16 = c.toNat := Nat.div_add_mod _ _
        rw [e16] at hp
        clear hsl hc e16
        generalize (⟨#[hexU (c.toNat / 16), hexU (c.toNat % 16)]⟩ : ByteArray) = K at *
        generalize hi2 : 2 * j = i at *
        have HI := Lib.hid hi2
        go_wp2_with fail
        refine (hp _).mono ?_
        rintro e w1 ⟨rfl, hx1⟩
        have hr1 := fun o => (hr.ext hx1 (by simp)).ext ((Ext.refl [] w1).alloc o) (by simp)
        have hn1 := lit_new w1 #[.int .u8 (c.toNat : Int)] [c] 1 rfl rfl (by omega)
        clear hp hs
        go_wp2_with (with_reducible refine wpList_append T104 rfl (.tmp 23) (.tmp 26) rfl rfl rfl (hr1 _) hn1.vw (bcs_one _) (by omega) (by omega) ?_; rintro g3 A3 c3 w3 hr3 hx3 hg3 hA3 _ _; obtain rfl := hA3 (by omega))
        have hxa : Ext [gb] wr w3 := (((hx1.mono (by simp) : Ext [gb] wr w1)).alloc _).trans hx3
        simp only [World.size_alloc] at hg3
        have hs1 := hx1.size
        have hsw := hx.size
        go_roundw
        case rel =>
          refine ⟨j + 1, g3, _, c3, by go_num, by omega, rfl, ?_, by omega, hx.step hxa (by simp; omega)⟩
          have hjl : j < (bl t).length := by rw [bl_len]; exact hlt
          have e : (bl t).take (j + 1) = (bl t).take j ++ [c] := by
            rw [List.take_add_one, HC.out, List.getElem?_eq_getElem hjl]; simp [hjl]
          rw [e, bcs_append]
          exact hr3
        case measure => simp [intOf]; omega
      · obtain rfl : j = t.size := by omega
        rw [List.take_of_length_le (by rw [bl_len]; exact Nat.le_refl _)] at hr
        have hcv := run_str hr.vw
        rw [mk_bl] at hcv
        clear hsl
        go_wp2_with fail
        go_ret
        exact ⟨rfl, hx⟩
end Go.Proofs.YtfadbmfkidiaoaaGreatDoor

namespace Go.Proofs.YtfadbmfkidiaoaaGreatDoor
open Go.RowKit Go

theorem indexByte_at : ∀ (x y : List UInt8) (c : UInt8), c ∉ x → Lib.indexByte (x ++ c :: y) c = x.length
  | [], y, c, _ => by simp [Lib.indexByte]
  | a :: x, y, c, h => by
    have h1 : a ≠ c := fun e => h (by simp [e])
    have ih := indexByte_at x y c (fun hm => h (by simp [hm]))
    have hb : (a == c) = false := by simpa using h1
    have h2 : ((x.length : Int) == -1) = false := by rw [beq_eq_false_iff_ne]; omega
    simp only [List.cons_append, Lib.indexByte, hb, ih, h2, List.length_cons]
    simp

theorem bl_append (a b : ByteArray) : bl (a ++ b) = bl a ++ bl b := by simp [bl]
theorem cut_slices (x y : ByteArray) (c : UInt8) :
    (x ++ ⟨#[c]⟩ ++ y).extract 0 x.size = x ∧ (x ++ ⟨#[c]⟩ ++ y).extract (x.size + 1) (x ++ ⟨#[c]⟩ ++ y).size = y := by
  have e : bl (x ++ ⟨#[c]⟩ ++ y) = bl x ++ c :: bl y := by rw [bl_append, bl_append, List.append_assoc]; rfl
  have hs : (x ++ ⟨#[c]⟩ ++ y).size = x.size + 1 + y.size := by simp [ByteArray.size_append]; rfl
  constructor
  · apply ba_ext
    show bl _ = bl _
    rw [extract_take, e, List.drop_zero, Nat.sub_zero, List.take_left' (bl_len x)]
  · apply ba_ext
    show bl _ = bl _
    rw [extract_take, e, hs, ← List.drop_drop, List.drop_left' (bl_len x), show x.size + 1 + y.size - (x.size + 1) = y.size by omega]
    exact List.take_of_length_le (by simp [bl_len])

set_option maxRecDepth 100000 in
set_option maxHeartbeats 1000000 in
theorem cut_eq (x y : ByteArray) (c : UInt8) (w : World) (hx : c ∉ bl x) (h1 : x.size ≤ 1000) (h2 : y.size ≤ 1000) :
    Calls Tryz.prog 149 #[.string (x ++ ⟨#[c]⟩ ++ y), .string ⟨#[c]⟩] w fun e w' => e = .returned (.tuple #[.string x, .string y, .bool true]) ∧ Ext [] w w' := by
  have hi := fun w => Tryz.stringslite_Index_one (x ++ ⟨#[c]⟩ ++ y) c w
  have e : (x ++ ⟨#[c]⟩ ++ y).data.toList = bl x ++ c :: bl y := by
    show bl _ = _
    rw [bl_append, bl_append, List.append_assoc]; rfl
  rw [e, indexByte_at _ _ _ hx, bl_len] at hi
  obtain ⟨s1, s2⟩ := cut_slices x y c
  have hs : (x ++ ⟨#[c]⟩ ++ y).size = x.size + 1 + y.size := by simp [ByteArray.size_append]; rfl
  generalize (x ++ ⟨#[c]⟩ ++ y) = S at *
  obtain ⟨K1, hK1, _, hr1⟩ := str_to Tryz.prog 9 Tryz.underlying9 S x.size .i64 (by omega)
  obtain ⟨K2, hK2, _, hr2⟩ := str_from Tryz.prog 9 Tryz.underlying9 S (x.size + 1) (by omega)
  rw [s1] at hK1
  rw [s2] at hK2
  rw [hK1] at hr1
  rw [hK2] at hr2
  clear hK1 hK2
  have hcast : ((x.size + 1 : Nat) : Int) = (x.size : Int) + 1 := by omega
  rw [hcast] at hr2
  have hc1 : (⟨#[c]⟩ : ByteArray).size = 1 := rfl
  generalize (⟨#[c]⟩ : ByteArray) = C at *
  clear e s1 s2 hx hcast
  go_enter Tryz.func149, Tryz.ntmps149
  go_wp2_with fail
  refine (hi _).mono ?_
  rintro e w1 ⟨rfl, rfl⟩
  go_wp2_with fail
  go_quiet (fail)
  go_wp2_with fail
  go_ret3
  exact ⟨rfl, (Ext.refl [] _).drewN _⟩

set_option maxHeartbeats 800000 in
theorem Cut_eq (x y : ByteArray) (c : UInt8) (w : World) (hx : c ∉ bl x) (h1 : x.size ≤ 1000) (h2 : y.size ≤ 1000) :
    Calls Tryz.prog 109 #[.string (x ++ ⟨#[c]⟩ ++ y), .string ⟨#[c]⟩] w fun e w' => e = .returned (.tuple #[.string x, .string y, .bool true]) ∧ Ext [] w w' := by
  have h := fun w => cut_eq x y c w hx h1 h2
  generalize (x ++ ⟨#[c]⟩ ++ y) = S at *
  generalize (⟨#[c]⟩ : ByteArray) = C at *
  go_enter Tryz.func109, Tryz.ntmps109
  go_wp2_with fail
  refine (h _).mono ?_
  rintro e w1 ⟨rfl, hx⟩
  go_wp2_with fail
  go_ret3
  exact ⟨rfl, hx⟩

/-- TrimSuffix of a line -/
theorem trim_line (x : ByteArray) (c : UInt8) (w : World) (h1 : x.size ≤ 1000) :
    Calls Tryz.prog 110 #[.string (x ++ ⟨#[c]⟩), .string ⟨#[c]⟩] w fun e w' => e = .returned (.string x) ∧ w = w' := by
  have h := Tryz.strings_TrimSuffix (x ++ ⟨#[c]⟩) ⟨#[c]⟩ w (by simp [ByteArray.size_append]; have : (⟨#[c]⟩ : ByteArray).size = 1 := rfl; omega)
  have e : Lib.trimSuffix (x ++ ⟨#[c]⟩).data.toList [c] = bl x := by
    have e1 : (x ++ ⟨#[c]⟩).data.toList = bl x ++ [c] := by show bl _ = _; rw [bl_append]; rfl
    rw [e1]
    unfold Lib.trimSuffix Lib.hasSuffix
    simp
  refine h.mono ?_
  rintro e' w' ⟨rfl, rfl⟩
  refine ⟨ret1 (vs ?_), rfl⟩
  show (⟨(Lib.trimSuffix (x ++ ⟨#[c]⟩).data.toList [c]).toArray⟩ : ByteArray) = x
  rw [e, mk_bl]
end Go.Proofs.YtfadbmfkidiaoaaGreatDoor

namespace Go.Proofs.YtfadbmfkidiaoaaGreatDoor
open Go.RowKit Go

theorem lines_any (s : ByteArray) (w : World) :
    Calls Tryz.prog 108 #[.string s] w fun e w' => e = .returned (.func (.func 147) #[] #[.pointer (some ⟨w.heap.size, 0, none⟩)]) ∧ w' = w.alloc (.cells #[.string s] 9) := by
  go_enter Tryz.func108, Tryz.ntmps108
  go_wp2_with fail
  go_ret
  exact ⟨rfl, rfl⟩

attribute [local go_sem] Oper.semAt_some
set_option maxRecDepth 100000 in
set_option maxHeartbeats 1600000 in
theorem lines_it (m l b1 : Nat) (N : Nat) (x : Nat → ByteArray) (rest : Nat → ByteArray) (R Y : Nat → World → Prop)
    (hrest : ∀ k, k < N → rest k = x k ++ ⟨#[10]⟩ ++ rest (k + 1)) (hend : rest N = ByteArray.empty) (hno : ∀ k, k < N → (10 : UInt8) ∉ bl (x k)) (hsz : ∀ k, (rest k).size ≤ 1000000)
    (hb : ∀ k W, R k W → W.heap[b1]? = some (.cells #[.string (rest k)] 9 (0, 0)))
    (hd : ∀ k W, k < N → R k W → Y k (W.setCell ⟨b1, 0, none⟩ (.string (rest (k + 1)))).drew)
    (hY : ∀ k W, k < N → Y k W → YieldAt Fence.wide (m - 1) Tryz.prog l #[.string (x k ++ ⟨#[10]⟩)] W fun e W' => e = .returned (.bool true) ∧ R (k + 1) W')
    (W : World) (h0 : R 0 W) :
    CallsIn Fence.wide m Tryz.prog 147 #[.func (.yield l) #[] #[], .pointer (some ⟨b1, 0, none⟩)] W fun e W' => (∃ v, e = .returned v) ∧ R N W' := by
  refine callsIn_of_wp Tryz.func147 rfl trivial ?_ rfl
  simp only [Tryz.ntmps147, List.size_toArray, List.length_cons, List.length_nil, Nat.reduceAdd, Nat.reduceSub, Array.replicate_succ, Array.replicate_zero, List.push_toArray, List.append_toArray, List.nil_append, List.cons_append]
  gi_wp2_with fail
  gi_loopw [4] (fun iv wr => ∃ (k : Nat), k ≤ N ∧ R k wr) (fun _ wr => match wr.cell? ⟨b1, 0, none⟩ with | some (.string s) => s.size | _ => 0)
  case atStart => exact ⟨0, by omega, h0⟩
  case round =>
    obtain ⟨k, hk, hr⟩ := hrel
    have hbk := hb k _ hr
    have hc := cell_of_one hbk
    have hf := frozen_of_one hbk
    by_cases hlt : k < N
    · have hrs := hrest k hlt
      have hxs : (rest k).size = (x k).size + 1 + (rest (k + 1)).size := by rw [hrs]; simp [ByteArray.size_append]; rfl
      have hz := hsz k
      have hgt : 0 < (rest k).size := by omega
      have hidx := Tryz.strings_IndexByte (rest k) 10 wr
      have e : (rest k).data.toList = bl (x k) ++ 10 :: bl (rest (k + 1)) := by
        show bl _ = _
        rw [hrs, bl_append, bl_append, List.append_assoc]; rfl
      have e10 : ((10 : Int).toNat).toUInt8 = (10 : UInt8) := rfl
      rw [e, e10, indexByte_at _ _ _ (hno k hlt), bl_len] at hidx
      obtain ⟨s1, s2⟩ := cut_slices (x k) (rest (k + 1)) 10
      rw [← hrs] at s1 s2
      obtain ⟨K1, hK1, _, hr1⟩ := str_to Tryz.prog 9 Tryz.underlying9 (rest k) ((x k).size + 1) .i64 (by omega)
      obtain ⟨K2, hK2, _, hr2⟩ := str_from Tryz.prog 9 Tryz.underlying9 (rest k) ((x k).size + 1) (by omega)
      have hK1' : K1 = x k ++ ⟨#[10]⟩ := by
        rw [hK1]
        apply ba_ext
        show bl _ = bl _
        have e2 : bl (rest k) = (bl (x k) ++ [10]) ++ bl (rest (k + 1)) := by show (rest k).data.toList = _; rw [e]; simp
        rw [extract_take, e2, List.drop_zero, Nat.sub_zero, bl_append]
        exact List.take_left' (by simp [bl_len])
      have hK2' : K2 = rest (k + 1) := by rw [hK2]; exact s2
      rw [hK1'] at hr1
      rw [hK2'] at hr2
      have hcast : (((x k).size + 1 : Nat) : Int) = ((x k).size : Int) + 1 := by omega
      rw [hcast] at hr1 hr2
      clear hK1 hK2 hK1' hK2' hcast s1 s2 e e10
      obtain ⟨fn, tmps, assign, body, hy, hRd⟩ := hY k _ hlt (hd k wr hlt hr)
      have hxk : (x k).size ≤ 1000000 := by omega
      have HXS := Lib.hid hxs
      clear hxs hrs hz
      generalize hst : rest k = S at *
      generalize hst1 : rest (k + 1) = S1 at *
      generalize hxx : (x k).size = xs at *
      gi_wp2_with fail
      refine ⟨trivial, fun h => (by simp [Fence.wide] at h), (callsIn_wide.2 hidx).mono ?_⟩
      rintro e w' ⟨rfl, rfl⟩
      gi_wp2_with fail
      gi_region
      gi_wp2_with fail
      refine ⟨fun h => (by simp [Fence.wide] at h), hRd.mono ?_⟩
      rintro e W3 ⟨rfl, hr3⟩
      have hc3 := cell_of_one (hb _ _ hr3)
      gi_wp2_with fail
      go_roundw
      case rel => exact ⟨k + 1, by omega, hr3⟩
      case measure =>
        rw [hc3, hc]
        simp only [hst1]
        have := HXS.out
        omega
    · obtain rfl : k = N := by omega
      rw [hend] at hc
      gi_wp2_with fail
      go_end0
      exact ⟨⟨_, rfl⟩, hr⟩
end Go.Proofs.YtfadbmfkidiaoaaGreatDoor
