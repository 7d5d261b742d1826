/- A line cut at its sign; its end taken off; the lines of a text. -/
import Derived.Test.YtfadbmfkidiaoaaGreatDoorC5
namespace Go.Proofs.YtfadbmfkidiaoaaGreatDoor
open Go.RowKit Go

theorem indexByte_at : ∀ (x y : List UInt8) (c : UInt8), c ∉ x → Lib.indexByte (x ++ c :: y) c = x.length
  | [], y, c, _ => by simp [Lib.indexByte]
  | a :: x, y, c, h => by
    have h1 : a ≠ c := fun e => h (by simp [e])
    have ih := indexByte_at x y c (fun hm => h (by simp [hm]))
    have hb : (a == c) = false := by simpa using h1
    have h2 : ((x.length : Int) == -1) = false := by rw [beq_eq_false_iff_ne]; omega
    simp only [List.cons_append, Lib.indexByte, hb, ih, h2, List.length_cons]
    simp

theorem bl_append (a b : ByteArray) : bl (a ++ b) = bl a ++ bl b := by simp [bl]
theorem cut_slices (x y : ByteArray) (c : UInt8) :
    (x ++ ⟨#[c]⟩ ++ y).extract 0 x.size = x ∧ (x ++ ⟨#[c]⟩ ++ y).extract (x.size + 1) (x ++ ⟨#[c]⟩ ++ y).size = y := by
  have e : bl (x ++ ⟨#[c]⟩ ++ y) = bl x ++ c :: bl y := by rw [bl_append, bl_append, List.append_assoc]; rfl
  have hs : (x ++ ⟨#[c]⟩ ++ y).size = x.size + 1 + y.size := by simp [ByteArray.size_append]; rfl
  constructor
  · apply ba_ext
    show bl _ = bl _
    rw [extract_take, e, List.drop_zero, Nat.sub_zero, List.take_left' (bl_len x)]
  · apply ba_ext
    show bl _ = bl _
    rw [extract_take, e, hs, ← List.drop_drop, List.drop_left' (bl_len x), show x.size + 1 + y.size - (x.size + 1) = y.size by omega]
    exact List.take_of_length_le (by simp [bl_len])

set_option maxRecDepth 100000 in
set_option maxHeartbeats 1000000 in
theorem cut_eq (x y : ByteArray) (c : UInt8) (w : World) (hx : c ∉ bl x) (h1 : x.size ≤ 1000) (h2 : y.size ≤ 1000) :
    Calls Tryz.prog 149 #[.string (x ++ ⟨#[c]⟩ ++ y), .string ⟨#[c]⟩] w fun e w' => e = .returned (.tuple #[.string x, .string y, .bool true]) ∧ Ext [] w w' := by
  have hi := fun w => Tryz.stringslite_Index_one (x ++ ⟨#[c]⟩ ++ y) c w
  have e : (x ++ ⟨#[c]⟩ ++ y).data.toList = bl x ++ c :: bl y := by
    show bl _ = _
    rw [bl_append, bl_append, List.append_assoc]; rfl
  rw [e, indexByte_at _ _ _ hx, bl_len] at hi
  obtain ⟨s1, s2⟩ := cut_slices x y c
  have hs : (x ++ ⟨#[c]⟩ ++ y).size = x.size + 1 + y.size := by simp [ByteArray.size_append]; rfl
  generalize (x ++ ⟨#[c]⟩ ++ y) = S at *
  obtain ⟨K1, hK1, _, hr1⟩ := str_to Tryz.prog 9 Tryz.underlying9 S x.size .i64 (by omega)
  obtain ⟨K2, hK2, _, hr2⟩ := str_from Tryz.prog 9 Tryz.underlying9 S (x.size + 1) (by omega)
  rw [s1] at hK1
  rw [s2] at hK2
  rw [hK1] at hr1
  rw [hK2] at hr2
  clear hK1 hK2
  have hcast : ((x.size + 1 : Nat) : Int) = (x.size : Int) + 1 := by omega
  rw [hcast] at hr2
  have hc1 : (⟨#[c]⟩ : ByteArray).size = 1 := rfl
  generalize (⟨#[c]⟩ : ByteArray) = C at *
  clear e s1 s2 hx hcast
  go_enter Tryz.func149, Tryz.ntmps149
  go_wp2_with fail
  refine (hi _).mono ?_
  rintro e w1 ⟨rfl, rfl⟩
  go_wp2_with fail
  go_quiet (fail)
  go_wp2_with fail
  go_ret3
  exact ⟨rfl, (Ext.refl [] _).drewN _⟩

set_option maxHeartbeats 800000 in
theorem Cut_eq (x y : ByteArray) (c : UInt8) (w : World) (hx : c ∉ bl x) (h1 : x.size ≤ 1000) (h2 : y.size ≤ 1000) :
    Calls Tryz.prog 109 #[.string (x ++ ⟨#[c]⟩ ++ y), .string ⟨#[c]⟩] w fun e w' => e = .returned (.tuple #[.string x, .string y, .bool true]) ∧ Ext [] w w' := by
  have h := fun w => cut_eq x y c w hx h1 h2
  generalize (x ++ ⟨#[c]⟩ ++ y) = S at *
  generalize (⟨#[c]⟩ : ByteArray) = C at *
  go_enter Tryz.func109, Tryz.ntmps109
  go_wp2_with fail
  refine (h _).mono ?_
  rintro e w1 ⟨rfl, hx⟩
  go_wp2_with fail
  go_ret3
  exact ⟨rfl, hx⟩

/-- TrimSuffix of a line -/
theorem trim_line (x : ByteArray) (c : UInt8) (w : World) (h1 : x.size ≤ 1000) :
    Calls Tryz.prog 110 #[.string (x ++ ⟨#[c]⟩), .string ⟨#[c]⟩] w fun e w' => e = .returned (.string x) ∧ w = w' := by
  have h := Tryz.strings_TrimSuffix (x ++ ⟨#[c]⟩) ⟨#[c]⟩ w (by simp [ByteArray.size_append]; have : (⟨#[c]⟩ : ByteArray).size = 1 := rfl; omega)
  have e : Lib.trimSuffix (x ++ ⟨#[c]⟩).data.toList [c] = bl x := by
    have e1 : (x ++ ⟨#[c]⟩).data.toList = bl x ++ [c] := by show bl _ = _; rw [bl_append]; rfl
    rw [e1]
    unfold Lib.trimSuffix Lib.hasSuffix
    simp
  refine h.mono ?_
  rintro e' w' ⟨rfl, rfl⟩
  refine ⟨ret1 (vs ?_), rfl⟩
  show (⟨(Lib.trimSuffix (x ++ ⟨#[c]⟩).data.toList [c]).toArray⟩ : ByteArray) = x
  rw [e, mk_bl]
end Go.Proofs.YtfadbmfkidiaoaaGreatDoor
