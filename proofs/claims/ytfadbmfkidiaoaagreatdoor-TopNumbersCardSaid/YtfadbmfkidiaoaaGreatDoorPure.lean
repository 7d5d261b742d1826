/- Strings in order, and a plain map as a list of pairs in order of their keys: where a key stands, what putting and deleting does. No program in sight. -/
import Derived.Lib.Bytealg
import Derived.Sort.Walk0
namespace Go.Proofs.YtfadbmfkidiaoaaGreatDoor
open Go
set_option linter.unusedSimpArgs false
set_option linter.unusedVariables false
set_option linter.unusedSectionVars false
set_option linter.unnecessarySimpa false

abbrev Pairs := List (ByteArray × ByteArray)

/-- a before b -/
def klt (a b : ByteArray) : Prop := a.data.toList < b.data.toList
instance (a b : ByteArray) : Decidable (klt a b) := by unfold klt; infer_instance
def cmpS (a b : ByteArray) : Int := Lib.compareBytes a.data.toList b.data.toList

theorem cb_lt : ∀ a b : List UInt8, (Lib.compareBytes a b < 0) ↔ a < b
  | [], [] => by simp [Lib.compareBytes]
  | [], _ :: _ => by simp [Lib.compareBytes]
  | _ :: _, [] => by simp [Lib.compareBytes]
  | a :: x, b :: y => by
    have ih := cb_lt x y
    rw [List.cons_lt_cons_iff]
    unfold Lib.compareBytes
    by_cases h1 : a < b
    · simp [h1]
    · by_cases h2 : b < a
      · have h3 : a ≠ b := fun e => by subst e; exact absurd h2 h1
        simp [h1, h2, h3]
      · have h3 : a = b := by
          have := UInt8.le_antisymm (UInt8.not_lt.1 h2) (UInt8.not_lt.1 h1); exact this
        subst h3
        simp [h1, ih]
theorem cb_eq : ∀ a b : List UInt8, (Lib.compareBytes a b = 0) ↔ a = b
  | [], [] => by simp [Lib.compareBytes]
  | [], _ :: _ => by simp [Lib.compareBytes]
  | _ :: _, [] => by simp [Lib.compareBytes]
  | a :: x, b :: y => by
    have ih := cb_eq x y
    unfold Lib.compareBytes
    by_cases h1 : a < b
    · have h3 : a ≠ b := fun e => by subst e; exact UInt8.lt_irrefl _ h1
      simp [h1, h3]
    · by_cases h2 : b < a
      · have h3 : a ≠ b := fun e => by subst e; exact absurd h2 h1
        simp [h1, h2, h3]
      · have h3 : a = b := by
          have := UInt8.le_antisymm (UInt8.not_lt.1 h2) (UInt8.not_lt.1 h1); exact this
        subst h3
        simp [h1, ih]

theorem cmpS_lt (a b : ByteArray) : cmpS a b < 0 ↔ klt a b := cb_lt _ _
theorem ba_ext {a b : ByteArray} (h : a.data.toList = b.data.toList) : a = b := by
  cases a; cases b; simp only [ByteArray.mk.injEq] at *; exact Array.ext' h
theorem cmpS_eq (a b : ByteArray) : cmpS a b = 0 ↔ a = b :=
  (cb_eq _ _).trans ⟨ba_ext, fun h => by rw [h]⟩
theorem klt_irrefl (a : ByteArray) : ¬ klt a a := by unfold klt; exact List.lt_irrefl _
theorem klt_trans {a b c : ByteArray} (h : klt a b) (k : klt b c) : klt a c := by unfold klt at *; exact List.lt_trans h k
theorem klt_asymm {a b : ByteArray} (h : klt a b) : ¬ klt b a := fun k => klt_irrefl _ (klt_trans h k)
theorem klt_total {a b : ByteArray} (h : ¬ klt a b) (k : a ≠ b) : klt b a := by
  unfold klt at *
  rcases List.le_total a.data.toList b.data.toList with h1 | h1
  · rcases List.le_iff_lt_or_eq.1 h1 with h2 | h2
    · exact absurd h2 h
    · exact absurd (ba_ext h2) k
  · rcases List.le_iff_lt_or_eq.1 h1 with h2 | h2
    · exact h2
    · exact absurd (ba_ext h2.symm) k

def kAt (l : Pairs) (i : Nat) : ByteArray := (l.getD i (ByteArray.empty, ByteArray.empty)).1
def vAt (l : Pairs) (i : Nat) : ByteArray := (l.getD i (ByteArray.empty, ByteArray.empty)).2

/-- in order, no key twice -/
def Srt (l : Pairs) : Prop := l.Pairwise fun p q => klt p.1 q.1

/-- how many keys stand before a key -/
def rk (l : Pairs) (k : ByteArray) : Nat := (l.takeWhile fun p => decide (klt p.1 k)).length
/-- is the key there? -/
def has (l : Pairs) (k : ByteArray) : Bool := decide (rk l k < l.length ∧ kAt l (rk l k) = k)

theorem rk_le (l : Pairs) (k : ByteArray) : rk l k ≤ l.length := by
  unfold rk; exact (List.takeWhile_sublist _).length_le
theorem kAt_eq (l : Pairs) (i : Nat) (h : i < l.length) : kAt l i = (l[i]).1 := by simp [kAt, h]
theorem vAt_eq (l : Pairs) (i : Nat) (h : i < l.length) : vAt l i = (l[i]).2 := by simp [vAt, h]

/-- the key at i is before k: fewer than .. -/
theorem rk_gt {l : Pairs} (hs : Srt l) {k : ByteArray} {i : Nat} (hi : i < l.length) (h : klt (kAt l i) k) : i < rk l k := by
  unfold rk
  induction l generalizing i with
  | nil => simp at hi
  | cons p l ih =>
    have hp := List.pairwise_cons.1 hs
    cases i with
    | zero => simp [kAt] at h; simp [List.takeWhile_cons, h]
    | succ i =>
      have hi' : i < l.length := by simpa using hi
      have hk : kAt (p :: l) (i + 1) = kAt l i := by simp [kAt]
      rw [hk] at h
      have h0 : klt p.1 k := klt_trans (by rw [kAt_eq l i hi']; exact hp.1 _ (List.getElem_mem hi')) h
      have := ih hp.2 hi' h
      simp [List.takeWhile_cons, h0]; omega
theorem rk_ge {l : Pairs} {k : ByteArray} {i : Nat} (h : ¬ klt (kAt l i) k) (hi : i < l.length) : rk l k ≤ i := by
  unfold rk
  induction l generalizing i with
  | nil => simp
  | cons p l ih =>
    cases i with
    | zero => simp [kAt] at h; simp [List.takeWhile_cons, h]
    | succ i =>
      have hk : kAt (p :: l) (i + 1) = kAt l i := by simp [kAt]
      rw [hk] at h
      have := ih h (by simpa using hi)
      by_cases h0 : klt p.1 k
      · simp [List.takeWhile_cons, h0]; omega
      · simp [List.takeWhile_cons, h0]
theorem lt_of_rk {l : Pairs} {k : ByteArray} {i : Nat} (h : i < rk l k) : klt (kAt l i) k := by
  by_cases hi : i < l.length
  · by_cases hk : klt (kAt l i) k
    · exact hk
    · have := rk_ge hk hi; omega
  · have := rk_le l k; omega

end Go.Proofs.YtfadbmfkidiaoaaGreatDoor
