/- Numbers of one name that two givers give: a plain law. -/
import Derived.Test.YtfadbmfkidiaoaaGreatDoorE6
namespace Go.Proofs.YtfadbmfkidiaoaaGreatDoor
open Go

def cnt (c : Option (Nat × Nat)) : Nat := (c.getD (0, 0)).2
/-- f: the next number; c: what the two givers have left; g: what was given; l: how many are lost -/
structure IK (N : Nat) (f : Option Nat) (c : Bool → Option (Nat × Nat)) (g : List Nat) (l : Nat) : Prop where
  f1 : 1 ≤ f.getD 1
  fN : f.getD 1 ≤ N
  bl : ∀ s x n, c s = some (x, n) → 1 ≤ x ∧ 1 ≤ n ∧ n ≤ 9 ∧ x + n ≤ f.getD 1
  dj : ∀ s x n y m, c s = some (x, n) → c (!s) = some (y, m) → x + n ≤ y ∨ y + m ≤ x
  gl : ∀ v, v ∈ g → 1 ≤ v ∧ v < f.getD 1
  gn : ∀ s x n v, c s = some (x, n) → v ∈ g → v < x ∨ x + n ≤ v
  sum : g.length + cnt (c false) + cnt (c true) + l + 1 = f.getD 1

theorem IK.mono {N N' : Nat} {f : Option Nat} {c : Bool → Option (Nat × Nat)} {g : List Nat} {l : Nat} (h : IK N f c g l) (hN : N ≤ N') : IK N' f c g l :=
  { h with fN := Nat.le_trans h.fN hN }
theorem IK.start : IK 1 none (fun _ => none) [] 0 := ⟨by simp, by simp, by simp, by simp, by simp, by simp, by simp [cnt]⟩
theorem upd_same {α : Type} (f : Bool → α) (k : Bool) (v : α) : upd f k v k = v := by simp [upd]
theorem upd_other {α : Type} (f : Bool → α) (k j : Bool) (v : α) (h : j ≠ k) : upd f k v j = f j := by simp [upd, h]
theorem cnt_sum (c : Bool → Option (Nat × Nat)) (s : Bool) (v : Option (Nat × Nat)) :
    cnt (upd c s v false) + cnt (upd c s v true) + cnt (c s) = cnt (c false) + cnt (c true) + cnt v := by
  cases s <;> simp [upd] <;> omega
/-- what a giver has is changed to a part of it (or to nothing) -/
theorem IK.lose {N : Nat} {f : Option Nat} {c : Bool → Option (Nat × Nat)} {g : List Nat} {l : Nat} (h : IK N f c g l) (s : Bool) : IK N f (upd c s none) g (l + cnt (c s)) := by
  have hs := cnt_sum c s none
  have h7 := h.sum
  have hn : cnt none = 0 := rfl
  refine ⟨h.f1, h.fN, ?_, ?_, h.gl, ?_, by omega⟩
  · intro j x n hj
    by_cases e : j = s
    · subst e; simp [upd] at hj
    · rw [upd_other _ _ _ _ e] at hj; exact h.bl j x n hj
  · intro j x n y m hj hk
    by_cases e : j = s
    · subst e; simp [upd] at hj
    · rw [upd_other _ _ _ _ e] at hj
      by_cases e2 : (!j) = s
      · subst e2; simp [upd] at hk
      · rw [upd_other _ _ _ _ e2] at hk; exact h.dj j x n y m hj hk
  · intro j x n v hj hv
    by_cases e : j = s
    · subst e; simp [upd] at hj
    · rw [upd_other _ _ _ _ e] at hj; exact h.gn j x n v hj hv
theorem other_ne {j s : Bool} (e : j ≠ s) : j = !s := by cases j <;> cases s <;> simp_all
/-- a block that is the last that was taken is returned -/
theorem IK.ret {N : Nat} {f : Option Nat} {c : Bool → Option (Nat × Nat)} {g : List Nat} {l : Nat} (h : IK N f c g l) (s : Bool) {x n : Nat} (hc : c s = some (x, n)) (he : x + n = f.getD 1) : IK N (some x) (upd c s none) g l := by
  have hs := cnt_sum c s none
  have h7 := h.sum
  have hn : cnt none = 0 := rfl
  have hcn : cnt (c s) = n := by rw [hc]; rfl
  have hb := h.bl s x n hc
  have hN := h.fN
  have hx : (some x).getD 1 = x := rfl
  refine ⟨by omega, by omega, ?_, ?_, ?_, ?_, by omega⟩
  · intro j y m hj
    by_cases e : j = s
    · subst e; simp [upd] at hj
    · rw [upd_other _ _ _ _ e] at hj
      have e' := other_ne e; subst e'
      have := h.bl _ y m hj
      have := h.dj s x n y m hc hj
      omega
  · intro j y m z k hj hk
    by_cases e : j = s
    · subst e; simp [upd] at hj
    · have e' := other_ne e; subst e'
      rw [Bool.not_not] at hk
      simp [upd] at hk
  · intro v hv
    have := h.gl v hv
    have := h.gn s x n v hc hv
    omega
  · intro j y m v hj hv
    by_cases e : j = s
    · subst e; simp [upd] at hj
    · rw [upd_other _ _ _ _ e] at hj; exact h.gn j y m v hj hv
theorem less_some {x n y m : Nat} (h : less x n = some (y, m)) : n - 1 ≠ 0 ∧ y = x + 1 ∧ m = n - 1 := by
  unfold less at h; split at h
  · cases h
  · next h0 => injection h with h; injection h with h1 h2; exact ⟨h0, h1.symm, h2.symm⟩
theorem less_cnt (x n : Nat) (h : 1 ≤ n) : cnt (less x n) + 1 = n := by
  unfold less; split
  · have : cnt none = 0 := rfl
    omega
  · show n - 1 + 1 = n; omega
/-- a number of a block that is left is given -/
theorem IK.give {N : Nat} {f : Option Nat} {c : Bool → Option (Nat × Nat)} {g : List Nat} {l : Nat} (h : IK N f c g l) (s : Bool) {x n : Nat} (hc : c s = some (x, n)) : IK N f (upd c s (less x n)) (g ++ [x]) l ∧ x ∉ g := by
  have hs := cnt_sum c s (less x n)
  have h7 := h.sum
  have hcn : cnt (c s) = n := by rw [hc]; rfl
  have hb := h.bl s x n hc
  have hl := less_cnt x n hb.2.1
  refine ⟨⟨h.f1, h.fN, ?_, ?_, ?_, ?_, by rw [List.length_append]; simp; omega⟩, fun hx => by have := h.gn s x n x hc hx; omega⟩
  · intro j y m hj
    by_cases e : j = s
    · subst e; rw [upd_same] at hj; have := less_some hj; omega
    · rw [upd_other _ _ _ _ e] at hj; exact h.bl j y m hj
  · intro j y m z k hj hk
    by_cases e : j = s
    · subst e; rw [upd_same] at hj; have h1 := less_some hj
      rw [upd_other _ _ _ _ (by simp)] at hk
      have := h.dj j x n z k hc hk; omega
    · have e' := other_ne e; subst e'
      rw [Bool.not_not, upd_same] at hk; have h1 := less_some hk
      rw [upd_other _ _ _ _ (by simp)] at hj
      have := h.dj s x n y m hc hj; omega
  · intro v hv
    rcases List.mem_append.1 hv with hv | hv
    · exact h.gl v hv
    · simp at hv; omega
  · intro j y m v hj hv
    by_cases e : j = s
    · subst e; rw [upd_same] at hj; have h1 := less_some hj
      rcases List.mem_append.1 hv with hv | hv
      · have := h.gn j x n v hc hv; omega
      · simp at hv; omega
    · rw [upd_other _ _ _ _ e] at hj
      have e' := other_ne e; subst e'
      rcases List.mem_append.1 hv with hv | hv
      · exact h.gn _ y m v hj hv
      · simp at hv
        have := h.dj s x n y m hc hj
        have := h.bl _ y m hj
        omega
/-- a block is taken, and its first number given -/
theorem IK.take {N : Nat} {f : Option Nat} {c : Bool → Option (Nat × Nat)} {g : List Nat} {l : Nat} (h : IK N f c g l) (s : Bool) {n : Nat} (hc : c s = none) (h1 : 1 ≤ n) (h9 : n ≤ 9) :
    IK (N + 9) (some (f.getD 1 + n)) (upd c s (less (f.getD 1) n)) (g ++ [f.getD 1]) l ∧ f.getD 1 ∉ g := by
  have hs := cnt_sum c s (less (f.getD 1) n)
  have h7 := h.sum
  have hN := h.fN
  have hf := h.f1
  have hcn : cnt (c s) = 0 := by rw [hc]; rfl
  have hl := less_cnt (f.getD 1) n h1
  have hx : (some (f.getD 1 + n)).getD 1 = f.getD 1 + n := rfl
  refine ⟨⟨by omega, by omega, ?_, ?_, ?_, ?_, by rw [List.length_append]; simp; omega⟩, fun hx => by have := h.gl _ hx; omega⟩
  · intro j y m hj
    by_cases e : j = s
    · subst e; rw [upd_same] at hj; have := less_some hj; omega
    · rw [upd_other _ _ _ _ e] at hj; have := h.bl j y m hj; omega
  · intro j y m z k hj hk
    by_cases e : j = s
    · subst e; rw [upd_same] at hj; have h1 := less_some hj
      rw [upd_other _ _ _ _ (by simp)] at hk
      have := h.bl _ z k hk; omega
    · have e' := other_ne e; subst e'
      rw [Bool.not_not, upd_same] at hk; have h1 := less_some hk
      rw [upd_other _ _ _ _ (by simp)] at hj
      have := h.bl _ y m hj; omega
  · intro v hv
    rcases List.mem_append.1 hv with hv | hv
    · have := h.gl v hv; omega
    · simp at hv; omega
  · intro j y m v hj hv
    by_cases e : j = s
    · subst e; rw [upd_same] at hj; have h1 := less_some hj
      rcases List.mem_append.1 hv with hv | hv
      · have := h.gl v hv; omega
      · simp at hv; omega
    · rw [upd_other _ _ _ _ e] at hj
      have e' := other_ne e; subst e'
      rcases List.mem_append.1 hv with hv | hv
      · exact h.gn _ y m v hj hv
      · simp at hv
        have := h.bl _ y m hj
        omega
end Go.Proofs.YtfadbmfkidiaoaaGreatDoor
