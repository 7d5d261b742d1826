/- Strings in a slice, sorted. -/
import Derived.Test.YtfadbmfkidiaoaaGreatDoorK2
import Derived.Sort.OwnSorted
namespace Go.Proofs.YtfadbmfkidiaoaaGreatDoor
open Go.RowKit Go

def srtS (xs : List ByteArray) : List ByteArray := ((xs.map bl).mergeSort fun x y => decide (x ≤ y)).map fun l => ⟨l.toArray⟩
theorem srtS_len (xs : List ByteArray) : (srtS xs).length = xs.length := by simp [srtS, List.length_mergeSort]
/-- slices.Sort of a slice of one's own -/
theorem sort_any (g : Nat) (v : Value) (n : Nat) (xs : List ByteArray) (w : World) (hr : Row w g 9 1 v n (scs xs)) (hn : n ≤ 1000) :
    Calls Tryz.prog 89 #[v] w fun e w' => (∃ x, e = .returned x) ∧ Row w' g 9 1 v n (scs (srtS xs)) ∧ Ext [g] w w' := by
  have hl : xs.length = n := by have := hr.len; simp [scs] at this; omega
  rcases hr.split with ⟨rfl, h0, h1⟩ | ⟨c, cur, rfl, hnc, hcm, hb, hs, ht⟩
  · have hx : xs = [] := List.eq_nil_of_length_eq_zero (by omega)
    subst hx
    refine (Tryz.slices_Sort_string_none none 0 w).mono ?_
    rintro e w' ⟨rfl, rfl⟩
    refine ⟨⟨_, rfl⟩, ?_, Ext.refl _ _⟩
    have e : scs (srtS []) = [] := by simp [srtS, scs]
    rw [h0, e]; exact .nil
  · have e0 : (xs.map bl).map encStr = scs xs := by
      rw [List.map_map]
      refine List.map_congr_left (fun s _ => ?_)
      show Value.string ⟨(bl s).toArray⟩ = .string s
      rw [mk_bl]
    have hlen : (xs.map bl).length = n := by simp [hl]
    have hH : Go.Sort.Holds encStr w g 0 (xs.map bl).toArray := holds_of_block hb (by rw [e0, hlen]; simpa using ht)
    have h := Tryz.slices_Sort_string g 0 c (xs.map bl) w hH (lt_of_block hb) (by omega)
    rw [hlen] at h
    refine h.mono ?_
    rintro e w' ⟨rfl, k, os, rfl⟩
    have hr' := ownsRow_sorted (w := w) (base := 0) (n := k) (os := os) (ss := xs.map bl) (ts := (xs.map bl).mergeSort fun x y => decide (x ≤ y)) (by simp [List.length_mergeSort]) (Nat.zero_le _) hb (by omega) hcm hs
    refine ⟨⟨_, rfl⟩, ?_, Ext.of_grown (grownBy_sorted _)⟩
    rw [hlen] at hr'
    obtain ⟨q1, q2⟩ := hr'
    rcases q2 with ⟨q3, _⟩ | ⟨g', c', cur', q3, _, q4, q5, q6, q7, q8⟩
    · cases q3
    · injection q3 with q9 _ q10
      injection q9 with q9
      injection q9 with q9 _ _
      subst q9; subst q10
      have e1 : scs (srtS xs) = ((xs.map bl).mergeSort fun x y => decide (x ≤ y)).map encStr := by simp [scs, srtS, encStr]
      rw [e1]
      exact .at_ cur' q1 q5 q6 q4 q7 q8
end Go.Proofs.YtfadbmfkidiaoaaGreatDoor
