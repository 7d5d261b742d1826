/- Bytes read as a map: what one step takes. -/
import Derived.Test.YtfadbmfkidiaoaaGreatDoorB7
namespace Go.Proofs.YtfadbmfkidiaoaaGreatDoor
open Go.RowKit Go
set_option linter.unusedSimpArgs false
set_option linter.unusedVariables false
set_option linter.unusedSectionVars false
set_option linter.unnecessarySimpa false

theorem mk_bl (s : ByteArray) : (⟨(bl s).toArray⟩ : ByteArray) = s := by
  cases s; simp [bl]
theorem take_str (g : Nat) (v : Value) (n : Nat) (s : ByteArray) (r : List UInt8) (w : World) (hs : s.size < 256) (hv : Vw w g 5 1 v n (bcs (UInt8.ofNat s.size :: (bl s ++ r)))) :
    Calls Tryz.prog 102 #[v] w fun e w' => ∃ A c, e = .returned (.tuple #[.string s, .slice A r.length c, .bool true]) ∧ Vw w' g 5 1 (.slice A r.length c) r.length (bcs r) ∧ Ext [] w w' := by
  have e1 : (UInt8.ofNat s.size).toNat = s.size := by simp; omega
  have e2 : (bl s ++ r).take s.size = bl s := List.take_left' (bl_len s)
  have e3 : (bl s ++ r).drop s.size = r := List.drop_left' (bl_len s)
  have e4 : (bl s ++ r).length - s.size = r.length := by rw [List.length_append, bl_len]; omega
  have h := take_any g v n (UInt8.ofNat s.size) (bl s ++ r) w hv (by rw [e1, List.length_append, bl_len]; omega)
  rw [e1, e2, e3, e4, mk_bl] at h
  refine h.mono ?_
  rintro e w' ⟨v', rfl, hv', hx⟩
  obtain ⟨A, c, rfl, _⟩ := hv'.form
  exact ⟨A, c, rfl, hv', hx⟩

theorem str_to (P : Program) (t : Nat) (ht : P.underlying t = some .string) (s : ByteArray) (c : Nat) (k : IntKind) (hc : c ≤ s.size) :
    ∃ K : ByteArray, K = s.extract 0 c ∧ K.size = c ∧ ∀ w : World, (Instr.slice t (.string s) none (some (.int k (c : Int))) none).run P w = .ok (.string K) w := by
  refine ⟨_, rfl, by simp; omega, fun w => ?_⟩
  simp [Instr.slice, Instr.sliceBounds, Instr.sliceBound, asIntOf, run_underlying ht]
  intro h; exfalso; omega

theorem srt_take {l : Pairs} (h : Srt l) (i : Nat) : Srt (l.take i) := List.Pairwise.sublist (List.take_sublist _ _) h
theorem kAt_take {l : Pairs} {i j : Nat} (h : j < i) : kAt (l.take i) j = kAt l j := by
  simp [kAt, List.getD_eq_getElem?_getD, List.getElem?_take, h]
theorem srt_lt {l : Pairs} (h : Srt l) {i j : Nat} (hij : i < j) (hj : j < l.length) : klt (kAt l i) (kAt l j) := by
  rw [kAt_eq l i (by omega), kAt_eq l j hj]
  exact List.pairwise_iff_getElem.1 h i j (by omega) hj hij
theorem rk_take {l : Pairs} (h : Srt l) {i : Nat} (hi : i < l.length) : rk (l.take i) (kAt l i) = i := by
  have hl : (l.take i).length = i := by rw [List.length_take]; omega
  have h1 := rk_le (l.take i) (kAt l i)
  rcases Nat.eq_zero_or_pos i with h0 | h0
  · omega
  · have := rk_gt (srt_take h i) (k := kAt l i) (i := i - 1) (by omega) (by rw [kAt_take (by omega)]; exact srt_lt h (by omega) hi)
    omega
theorem has_take {l : Pairs} (h : Srt l) {i : Nat} (hi : i < l.length) : has (l.take i) (kAt l i) = false := by
  unfold has
  rw [rk_take h hi]
  have hl : (l.take i).length = i := by rw [List.length_take]; omega
  rw [decide_eq_false_iff_not, hl]
  omega
theorem take_snoc {l : Pairs} {i : Nat} (hi : i < l.length) : l.take (i + 1) = l.take i ++ [(kAt l i, vAt l i)] := by
  rw [List.take_add_one, List.getElem?_eq_getElem hi, kAt_eq l i hi, vAt_eq l i hi]; rfl
theorem ins_take {l : Pairs} (h : Srt l) {i : Nat} (hi : i < l.length) : ins (l.take i) (rk (l.take i) (kAt l i)) (kAt l i, vAt l i) = l.take (i + 1) := by
  rw [rk_take h hi, take_snoc hi]
  have hl : (l.take i).length = i := by rw [List.length_take]; omega
  simp [ins, List.take_take]
theorem drop_cons {l : Pairs} {i : Nat} (hi : i < l.length) : l.drop i = (kAt l i, vAt l i) :: l.drop (i + 1) := by
  rw [List.drop_eq_getElem_cons hi, kAt_eq l i hi, vAt_eq l i hi]
/-- a prefix and the rest behind it -/
theorem join_prefix (a k : ByteArray) : a.extract 0 (cpS a k) ++ k.extract (cpS a k) k.size = k := by
  have h1 := cpS_le1 a k
  have h2 := cpS_le2 a k
  apply ba_ext
  rw [ByteArray.data_append, Array.toList_append]
  have e1 : (a.extract 0 (cpS a k)).data.toList = (bl a).take (cpS a k) := by simp [bl]
  have e2 : (k.extract (cpS a k) k.size).data.toList = (bl k).drop (cpS a k) := by
    simp [bl]
    exact List.take_of_length_le (by rw [List.length_drop]; simp)
  rw [e1, e2]
  unfold cpS
  rw [cpl_take]
  exact List.take_append_drop _ _

set_option maxHeartbeats 800000 in
/-- bytes.Equal -/
theorem bytesEqual (g1 g2 : Nat) (v1 v2 : Value) (n1 n2 : Nat) (l1 l2 : List UInt8) (w : World) (h1 : Vw w g1 5 1 v1 n1 (bcs l1)) (h2 : Vw w g2 5 1 v2 n2 (bcs l2)) :
    Calls Tryz.prog 101 #[v1, v2] w fun e w' => e = .returned (.bool (decide (l1 = l2))) ∧ w = w' := by
  have c1 := run_str h1
  have c2 := run_str h2
  have hd : (ByteArray.toList ⟨l1.toArray⟩ == ByteArray.toList ⟨l2.toArray⟩) = decide (l1 = l2) := by
    rw [Bool.eq_iff_iff]
    simp [ByteArray.toList_eq]
  obtain ⟨A1, d1, rfl, _⟩ := h1.form
  obtain ⟨A2, d2, rfl, _⟩ := h2.form
  clear h1 h2
  generalize (⟨l1.toArray⟩ : ByteArray) = s1 at *
  generalize (⟨l2.toArray⟩ : ByteArray) = s2 at *
  have HD := Lib.hid hd; clear hd
  go_enter Tryz.func101, Tryz.ntmps101
  go_wp2_with fail
  go_ret
  exact ⟨ret1 (vb HD.out), rfl⟩
end Go.Proofs.YtfadbmfkidiaoaaGreatDoor
