/- Numbers as texts. -/
import Derived.Test.YtfadbmfkidiaoaaGreatDoorH2
namespace Go.Proofs.YtfadbmfkidiaoaaGreatDoor
open Go.RowKit Go

def itoaS (n : Nat) : ByteArray := ⟨(Lib.decDigits n).toArray⟩
theorem decFrom_append : ∀ (l : List UInt8) (acc m : Nat) (b : UInt8) (d : Nat), Lib.decFrom acc l = some m → Lib.digitVal b = some d → Lib.decFrom acc (l ++ [b]) = some (m * 10 + d)
  | [], acc, m, b, d, h, hd => by
    simp only [Lib.decFrom, Option.some.injEq] at h
    subst h
    simp [Lib.decFrom, hd]
  | a :: l, acc, m, b, d, h, hd => by
    simp only [Lib.decFrom, List.cons_append] at h ⊢
    cases ha : Lib.digitVal a with
    | none => rw [ha] at h; cases h
    | some x => rw [ha] at h; exact decFrom_append l _ m b d h hd
theorem digit_ok (i : Nat) (h : i < 10) : Lib.digitVal (UInt8.ofNat (48 + i)) = some i := by
  have : ∀ i, i < 10 → Lib.digitVal (UInt8.ofNat (48 + i)) = some i := by decide
  exact this i h
theorem decFrom_digits (n : Nat) : Lib.decFrom 0 (Lib.decDigits n) = some n := by
  induction n using Nat.strongRecOn with
  | ind n ih =>
    rw [Lib.decDigits]
    split
    · next h =>
      simp only [Lib.decFrom, digit_ok n h, Nat.zero_mul, Nat.zero_add]
    · next h =>
      have := decFrom_append _ _ _ _ _ (ih (n / 10) (by omega)) (digit_ok (n % 10) (by omega))
      rw [this]
      congr 1; omega
theorem digits_head (n : Nat) : ∃ b r, Lib.decDigits n = b :: r ∧ b ≠ 45 ∧ b ≠ 43 := by
  induction n using Nat.strongRecOn with
  | ind n ih =>
    rw [Lib.decDigits]
    split
    · next h =>
      have : ∀ i, i < 10 → UInt8.ofNat (48 + i) ≠ 45 ∧ UInt8.ofNat (48 + i) ≠ 43 := by decide
      exact ⟨_, [], rfl, this n h⟩
    · next h =>
      obtain ⟨b, r, h1, h2⟩ := ih (n / 10) (by omega)
      exact ⟨b, r ++ [_], by rw [h1]; rfl, h2⟩
theorem atoi_digits (n : Nat) : Lib.atoi (Lib.decDigits n) = some (n : Int) := by
  obtain ⟨b, r, h1, h2, h3⟩ := digits_head n
  have h4 := decFrom_digits n
  rw [h1] at h4 ⊢
  have e1 : (b == 45) = false := by simpa using h2
  have e2 : (b == 43) = false := by simpa using h3
  simp [Lib.atoi, e1, e2, Lib.decNat, h4]
theorem digits_len (n k : Nat) (h : n < 10 ^ (k + 1)) : (Lib.decDigits n).length ≤ k + 1 := by
  induction k generalizing n with
  | zero => rw [Lib.decDigits, dif_pos (by simpa using h)]; simp
  | succ k ih =>
    rw [Lib.decDigits]
    split
    · simp
    · have := ih (n / 10) (by rw [Nat.pow_succ] at h; omega)
      simp; omega
theorem itoaS_size (n : Nat) (h : n < 1000000) : (itoaS n).size ≤ 6 := by
  have := digits_len n 5 (by simpa using h)
  show (Lib.decDigits n).toArray.size ≤ 6
  rw [List.size_toArray]; exact this
theorem itoaS_bl (n : Nat) : bl (itoaS n) = Lib.decDigits n := by simp [itoaS, bl]

/-- the table of powers that Itoa reads -/
def Tab (w : World) : Prop := Lib.TabIs Tryz.prog w "internal/strconv.uint64pow10" .u64 Lib.pow10Tab
theorem Tab.ext {S : List Nat} {w w' : World} (h : Tab w) (hx : Ext S w w') (hS : ∀ x ∈ S, 8 ≤ x) : Tab w' := by
  unfold Tab Lib.TabIs at h ⊢
  have hg : Tryz.prog.globalNamed "internal/strconv.uint64pow10" = some 3 := by kernel_rfl
  unfold World.var? at h ⊢
  rw [hg] at h ⊢
  simp only [Option.bind_some] at h ⊢
  have hlt : 3 < w.heap.size := by
    rcases Nat.lt_or_ge 3 w.heap.size with h1 | h1
    · exact h1
    · rw [Array.getElem?_eq_none h1] at h; cases h
  rw [hx.block 3 hlt (fun hm => by have := hS 3 hm; omega)]
  exact h

theorem itoa_any (n : Nat) (w : World) (hn : n < 1000000) (hT : Tab w) :
    Calls Tryz.prog 37 #[.int .i64 n] w fun e w' => e = .returned (.string (itoaS n)) ∧ Ext [] w w' := by
  refine (Tryz.strconv_Itoa n (by omega) (by omega) w hT).mono ?_
  rintro e w' ⟨rfl, k, os, rfl⟩
  refine ⟨ret1 (vs (by rw [Lib.itoa_nonneg]; rfl)), ?_⟩
  refine ⟨rfl, rfl, rfl, by simp [Go.Sort.grow], fun i hi _ => ?_⟩
  show ((w.drewN k).heap ++ os)[i]? = _
  rw [Array.getElem?_append_left (by simpa using hi)]
  rfl
theorem atoi_any (n : Nat) (w : World) (hn : n < 1000000) :
    Calls Tryz.prog 49 #[.string (itoaS n)] w fun e w' => e = .returned (.tuple #[.int .i64 n, .nilIface]) ∧ Ext [] w w' := by
  have hs := itoaS_size n hn
  refine (Tryz.strconv_Atoi (itoaS n) n (by omega) (by show Lib.atoi (bl (itoaS n)) = _; rw [itoaS_bl]; exact atoi_digits n) w).mono ?_
  rintro e w' ⟨rfl, t, rfl⟩
  exact ⟨rfl, Ext.of_below (Lib.bytesWorld_below w 5 t) (Nat.le_refl _)⟩
end Go.Proofs.YtfadbmfkidiaoaaGreatDoor
