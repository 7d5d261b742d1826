/- The next number of a name. -/
import Derived.Test.YtfadbmfkidiaoaaGreatDoorE0
namespace Go.Proofs.YtfadbmfkidiaoaaGreatDoor
open Go.RowKit Go
set_option linter.unusedSimpArgs false
set_option linter.unusedVariables false
set_option linter.unusedSectionVars false
set_option linter.unnecessarySimpa false

def kA : ByteArray := ⟨#[97]⟩
def kB : ByteArray := ⟨#[98]⟩
def nm (k : Bool) : ByteArray := if k then kB else kA
def optP (k : ByteArray) : Option Nat → Pairs
  | none => []
  | some n => [(k, itoaS n)]
/-- the map whose names have these next numbers -/
def mpF (f : Bool → Option Nat) : Pairs := optP kA (f false) ++ optP kB (f true)
def upd {α : Type} (f : Bool → α) (k : Bool) (v : α) : Bool → α := fun j => if j = k then v else f j

theorem kAB : klt kA kB := by decide
theorem kBA : ¬ klt kB kA := by decide
theorem kAA : ¬ klt kA kA := by decide
theorem kBB : ¬ klt kB kB := by decide
theorem kne : kA ≠ kB := by decide
theorem kne' : kB ≠ kA := by decide
theorem mpF_srt (f : Bool → Option Nat) : Srt (mpF f) := by
  unfold mpF Srt
  cases f false <;> cases f true <;> simp [optP, kAB]
theorem mpF_len (f : Bool → Option Nat) : (mpF f).length ≤ 2 := by
  unfold mpF
  cases f false <;> cases f true <;> simp [optP]
theorem mpF_has (f : Bool → Option Nat) (k : Bool) : has (mpF f) (nm k) = (f k).isSome := by
  unfold mpF has rk kAt nm
  cases h1 : f false <;> cases h2 : f true <;> cases k <;> simp [optP, kAB, kBA, kAA, kBB, kne, kne', h1, h2]
theorem mpF_look (f : Bool → Option Nat) (k : Bool) (n : Nat) (h : f k = some n) : look (mpF f) (nm k) = itoaS n := by
  unfold mpF look rk vAt nm
  cases h1 : f false <;> cases h2 : f true <;> cases k <;> simp_all [optP, kAB, kBA, kAA, kBB]
theorem mpF_put (f : Bool → Option Nat) (k : Bool) (n : Nat) : putL (mpF f) (nm k) (itoaS n) = mpF (upd f k (some n)) := by
  unfold putL mpF has rk kAt nm ins upd
  cases h1 : f false <;> cases h2 : f true <;> cases k <;> simp [optP, kAB, kBA, kAA, kBB, kne, kne', h1, h2]
theorem mpF_at (f : Bool → Option Nat) (i : Nat) (hi : i < (mpF f).length) : ∃ k n, f k = some n ∧ kAt (mpF f) i = nm k ∧ vAt (mpF f) i = itoaS n := by
  unfold mpF at hi ⊢
  unfold kAt vAt
  cases h1 : f false <;> cases h2 : f true <;> simp only [h1, h2, optP, List.nil_append, List.append_nil, List.length_nil, List.length_cons, List.cons_append] at hi ⊢
  · omega
  · obtain rfl : i = 0 := by omega
    exact ⟨true, _, h2, rfl, rfl⟩
  · obtain rfl : i = 0 := by omega
    exact ⟨false, _, h1, rfl, rfl⟩
  · obtain rfl | rfl : i = 0 ∨ i = 1 := by omega
    · exact ⟨false, _, h1, rfl, rfl⟩
    · exact ⟨true, _, h2, rfl, rfl⟩
theorem nm_size (k : Bool) : (nm k).size = 1 := by cases k <;> rfl
/-- all next numbers are small -/
def Sm (f : Bool → Option Nat) : Prop := ∀ k n, f k = some n → 1 ≤ n ∧ n < 100000
def nx (f : Bool → Option Nat) (k : Bool) : Nat := (f k).getD 1
theorem Sm.upd {f : Bool → Option Nat} (h : Sm f) (k : Bool) {n : Nat} (h1 : 1 ≤ n) (h2 : n < 100000) : Sm (upd f k (some n)) := by
  intro j m hj
  unfold Go.Proofs.YtfadbmfkidiaoaaGreatDoor.upd at hj
  split at hj
  · cases hj; exact ⟨h1, h2⟩
  · exact h j m hj
theorem Sm.nx {f : Bool → Option Nat} (h : Sm f) (k : Bool) : 1 ≤ nx f k ∧ nx f k < 100000 := by
  unfold Go.Proofs.YtfadbmfkidiaoaaGreatDoor.nx
  cases hk : f k with
  | none => simp
  | some n => exact h k n hk

set_option maxHeartbeats 800000 in
theorem idsCheck (b : Nat) (k : Bool) (w : World) (h8 : 8 ≤ w.heap.size) :
    Calls Tryz.prog 47 #[.pointer (some ⟨b, 0, none⟩), .string (nm k)] w fun e w' => e = .returned (.int .i64 0) ∧ Ext [] w w' := by
  have hx0 : Ext [] w (w.alloc (.cells #[.slice none 0 0] 34)) := (Ext.refl [] w).alloc _
  have hm0 : Mdl (w.alloc (.cells #[.slice none 0 0] 34)) w.heap.size w.heap.size [] := ⟨⟨_, heap_alloc_new w _, .nil⟩, by simp, h8, h8⟩
  have hp := put_any w.heap.size w.heap.size [] (nm k) ⟨#[]⟩ _ hm0 (by simp) .nil (by rw [nm_size]; omega) (by rw [nm_size]; omega) (by show 0 ≤ 40; omega)
  generalize nm k = K at *
  go_enter Tryz.func47, Tryz.ntmps47
  go_wp2_with fail
  refine hp.mono ?_
  rintro e w1 ⟨rfl, g', hm1, hg1, hx1⟩
  go_wp2_with fail
  go_ret
  exact ⟨rfl, hx0.step hx1 (by simp)⟩

set_option maxRecDepth 100000 in
set_option maxHeartbeats 1000000 in
theorem next_any (b g : Nat) (f : Bool → Option Nat) (k : Bool) (w : World) (hm : Mdl w b g (mpF f)) (hT : Tab w) (hf : Sm f) :
    Calls Tryz.prog 13 #[.pointer (some ⟨b, 0, none⟩), .string (nm k)] w fun e w' => e = .returned (.tuple #[.int .i64 (nx f k : Nat), .int .i64 0]) ∧ Ext [] w w' := by
  have h8 : 8 ≤ w.heap.size := by have := hm.lt; have := hm.lo'; omega
  have hsr := mpF_srt f
  have hle := mpF_len f
  have hh := mpF_has f k
  have hs1 := nm_size k
  have hck := fun w h8 => idsCheck b k w h8
  have HS := Lib.hid hsr; clear hsr
  cases hk : f k with
  | none =>
    rw [hk] at hh
    have hnx : nx f k = 1 := by unfold nx; rw [hk]; rfl
    rw [hnx]
    have hgn := fun w (hm : Mdl w b g (mpF f)) => get_no b g (mpF f) (nm k) w hm (by omega) HS.out (by omega) (by omega) hh
    generalize nm k = K at *
    go_enter Tryz.func13, Tryz.ntmps13
    go_wp2_with fail
    refine (hck _ h8).mono ?_
    rintro e w1 ⟨rfl, hx1⟩
    go_wp2_with fail
    refine (hgn _ (hm.ext hx1 (by simp) (by simp))).mono ?_
    rintro e w2 ⟨rfl, hx2⟩
    go_wp2_with fail
    go_ret2
    exact ⟨rfl, hx1.trans hx2⟩
  | some n =>
    rw [hk] at hh
    obtain ⟨hn1, hn2⟩ := hf k n hk
    have hnx : nx f k = n := by unfold nx; rw [hk]; rfl
    rw [hnx]
    have hlk := mpF_look f k n hk
    have hgn := fun w (hm : Mdl w b g (mpF f)) => get_yes b g (mpF f) (nm k) w hm (by omega) HS.out (by omega) (by omega) hh
    rw [hlk] at hgn
    have hat := fun w => atoi_any n w (by omega)
    have hit := fun w (hT : Tab w) => itoa_any n w (by omega) hT
    generalize nm k = K at *
    generalize itoaS n = S at *
    have hneq : (S.toList == S.toList) = true := beq_self_eq_true _
    go_enter Tryz.func13, Tryz.ntmps13
    go_wp2_with fail
    refine (hck _ h8).mono ?_
    rintro e w1 ⟨rfl, hx1⟩
    go_wp2_with fail
    refine (hgn _ (hm.ext hx1 (by simp) (by simp))).mono ?_
    rintro e w2 ⟨rfl, hx2⟩
    go_wp2_with fail
    refine (hat _).mono ?_
    rintro e w3 ⟨rfl, hx3⟩
    have hx13 := (hx1.trans hx2).trans hx3
    have hi := hit w3 (hT.ext hx13 (by simp))
    clear hat hgn hck hit
    go_wp2_with fail
    refine hi.mono ?_
    rintro e w4 ⟨rfl, hx4⟩
    go_wp2_with fail
    go_ret2
    exact ⟨rfl, hx13.trans hx4⟩
end Go.Proofs.YtfadbmfkidiaoaaGreatDoor
