/- Sorted pairs: put, delete, look, by membership. -/
import Derived.Test.YtfadbmfkidiaoaaGreatDoorZ06
namespace Go.Proofs.YtfadbmfkidiaoaaGreatDoor
open Go.RowKit Go
set_option linter.unusedSimpArgs false
set_option linter.unusedVariables false
set_option linter.unusedSectionVars false
set_option linter.unnecessarySimpa false

theorem rk_consT (p : ByteArray × ByteArray) (l : Pairs) {k : ByteArray} (h : klt p.1 k) : rk (p :: l) k = rk l k + 1 := by
  unfold rk; simp [List.takeWhile_cons, h]
theorem rk_consF (p : ByteArray × ByteArray) (l : Pairs) {k : ByteArray} (h : ¬ klt p.1 k) : rk (p :: l) k = 0 := by
  unfold rk; simp [List.takeWhile_cons, h]
theorem has_consT (p : ByteArray × ByteArray) (l : Pairs) {k : ByteArray} (h : klt p.1 k) : has (p :: l) k = has l k := by
  unfold has; rw [rk_consT p l h]; simp [kAt]
theorem has_consF (p : ByteArray × ByteArray) (l : Pairs) {k : ByteArray} (h : ¬ klt p.1 k) : has (p :: l) k = decide (p.1 = k) := by
  unfold has; rw [rk_consF p l h]; simp [kAt]
theorem put_consT (p : ByteArray × ByteArray) (l : Pairs) {k : ByteArray} (v : ByteArray) (h : klt p.1 k) : putL (p :: l) k v = p :: putL l k v := by
  unfold putL; rw [has_consT p l h, rk_consT p l h]; split <;> simp [ins]
theorem put_consE (p : ByteArray × ByteArray) (l : Pairs) (v : ByteArray) : putL (p :: l) p.1 v = (p.1, v) :: l := by
  unfold putL; rw [has_consF p l (klt_irrefl _), rk_consF p l (klt_irrefl _)]; simp
theorem put_consG (p : ByteArray × ByteArray) (l : Pairs) {k : ByteArray} (v : ByteArray) (h : klt k p.1) : putL (p :: l) k v = (k, v) :: p :: l := by
  have h1 : ¬ klt p.1 k := klt_asymm h
  have h2 : p.1 ≠ k := by rintro rfl; exact klt_irrefl _ h
  unfold putL; rw [has_consF p l h1, rk_consF p l h1]; simp [h2, ins]
theorem srt_c {p : ByteArray × ByteArray} {l : Pairs} (h : Srt (p :: l)) : Srt l ∧ ∀ q ∈ l, klt p.1 q.1 := ⟨(List.pairwise_cons.1 h).2, (List.pairwise_cons.1 h).1⟩
theorem mem_put {l : Pairs} (hs : Srt l) (k v : ByteArray) (p : ByteArray × ByteArray) : p ∈ putL l k v ↔ p = (k, v) ∨ (p ∈ l ∧ p.1 ≠ k) := by
  induction l with
  | nil => simp [putL, has, ins, rk]
  | cons q l ih =>
    obtain ⟨h1, h2⟩ := srt_c hs
    by_cases hlt : klt q.1 k
    · rw [put_consT q l v hlt, List.mem_cons, ih h1, List.mem_cons]
      have hne : q.1 ≠ k := by intro e; rw [e] at hlt; exact klt_irrefl _ hlt
      constructor
      · rintro (rfl | rfl | ⟨h, h'⟩)
        · exact .inr ⟨.inl rfl, hne⟩
        · exact .inl rfl
        · exact .inr ⟨.inr h, h'⟩
      · rintro (rfl | ⟨rfl | h, h'⟩)
        · exact .inr (.inl rfl)
        · exact .inl rfl
        · exact .inr (.inr ⟨h, h'⟩)
    · by_cases he : q.1 = k
      · subst he
        rw [put_consE, List.mem_cons, List.mem_cons]
        have hne : ∀ r ∈ l, r.1 ≠ q.1 := fun r hr e => by have := h2 r hr; rw [e] at this; exact klt_irrefl _ this
        constructor
        · rintro (rfl | h)
          · exact .inl rfl
          · exact .inr ⟨.inr h, hne _ h⟩
        · rintro (rfl | ⟨rfl | h, h'⟩)
          · exact .inl rfl
          · exact absurd rfl h'
          · exact .inr h
      · have hgt := klt_total hlt he
        rw [put_consG q l v hgt, List.mem_cons]
        have hne : ∀ r ∈ q :: l, r.1 ≠ k := fun r hr e => by
          rcases List.mem_cons.1 hr with rfl | hr
          · exact he e
          · have := klt_trans hgt (h2 r hr); rw [e] at this; exact klt_irrefl _ this
        constructor
        · rintro (rfl | h)
          · exact .inl rfl
          · exact .inr ⟨h, hne _ h⟩
        · rintro (rfl | ⟨h, _⟩)
          · exact .inl rfl
          · exact .inr h
theorem srt_put {l : Pairs} (hs : Srt l) (k v : ByteArray) : Srt (putL l k v) := by
  induction l with
  | nil => simp [putL, has, ins, rk, Srt]
  | cons q l ih =>
    obtain ⟨h1, h2⟩ := srt_c hs
    by_cases hlt : klt q.1 k
    · rw [put_consT q l v hlt]
      refine List.pairwise_cons.2 ⟨fun r hr => ?_, ih h1⟩
      rcases (mem_put h1 k v r).1 hr with rfl | ⟨h, _⟩
      · exact hlt
      · exact h2 r h
    · by_cases he : q.1 = k
      · subst he
        rw [put_consE]
        exact List.pairwise_cons.2 ⟨h2, h1⟩
      · have hgt := klt_total hlt he
        rw [put_consG q l v hgt]
        refine List.pairwise_cons.2 ⟨fun r hr => ?_, hs⟩
        rcases List.mem_cons.1 hr with rfl | hr
        · exact hgt
        · exact klt_trans hgt (h2 r hr)
theorem has_mem {l : Pairs} (hs : Srt l) (k : ByteArray) : has l k = true ↔ ∃ v, (k, v) ∈ l := by
  induction l with
  | nil => simp [has]
  | cons q l ih =>
    obtain ⟨h1, h2⟩ := srt_c hs
    by_cases hlt : klt q.1 k
    · rw [has_consT q l hlt, ih h1]
      constructor
      · rintro ⟨v, hv⟩; exact ⟨v, List.mem_cons_of_mem _ hv⟩
      · rintro ⟨v, hv⟩
        rcases List.mem_cons.1 hv with h | h
        · rw [← h] at hlt; exact absurd hlt (klt_irrefl _)
        · exact ⟨v, h⟩
    · rw [has_consF q l hlt, decide_eq_true_eq]
      constructor
      · rintro rfl; exact ⟨q.2, List.mem_cons_self ..⟩
      · rintro ⟨v, hv⟩
        rcases List.mem_cons.1 hv with h | h
        · rw [← h]
        · exact absurd (h2 _ h) hlt
theorem look_mem {l : Pairs} (hs : Srt l) {k v : ByteArray} (h : (k, v) ∈ l) : look l k = v := by
  induction l with
  | nil => cases h
  | cons q l ih =>
    obtain ⟨h1, h2⟩ := srt_c hs
    rcases List.mem_cons.1 h with h | h
    · subst h
      unfold look; rw [rk_consF _ l (klt_irrefl _)]; simp [vAt]
    · have hlt := h2 _ h
      have := ih h1 h
      unfold look at *; rw [rk_consT q l hlt]; simpa [vAt] using this
theorem del_consT (p : ByteArray × ByteArray) (l : Pairs) {k : ByteArray} (h : klt p.1 k) : delL (p :: l) k = p :: delL l k := by
  unfold delL; rw [rk_consT p l h]; simp [delAt]
theorem del_consE (p : ByteArray × ByteArray) (l : Pairs) : delL (p :: l) p.1 = l := by
  unfold delL; rw [rk_consF p l (klt_irrefl _)]; simp [delAt]
theorem mem_del {l : Pairs} (hs : Srt l) {k : ByteArray} (hh : has l k = true) (p : ByteArray × ByteArray) : p ∈ delL l k ↔ p ∈ l ∧ p.1 ≠ k := by
  induction l with
  | nil => simp [has] at hh
  | cons q l ih =>
    obtain ⟨h1, h2⟩ := srt_c hs
    by_cases hlt : klt q.1 k
    · rw [has_consT q l hlt] at hh
      rw [del_consT q l hlt, List.mem_cons, ih h1 hh, List.mem_cons]
      have hne : q.1 ≠ k := by intro e; rw [e] at hlt; exact klt_irrefl _ hlt
      constructor
      · rintro (rfl | ⟨h, h'⟩)
        · exact ⟨.inl rfl, hne⟩
        · exact ⟨.inr h, h'⟩
      · rintro ⟨rfl | h, h'⟩
        · exact .inl rfl
        · exact .inr ⟨h, h'⟩
    · rw [has_consF q l hlt, decide_eq_true_eq] at hh
      subst hh
      rw [del_consE, List.mem_cons]
      have hne : ∀ r ∈ l, r.1 ≠ q.1 := fun r hr e => by have := h2 r hr; rw [e] at this; exact klt_irrefl _ this
      constructor
      · intro h; exact ⟨.inr h, hne _ h⟩
      · rintro ⟨rfl | h, h'⟩
        · exact absurd rfl h'
        · exact h
theorem srt_del {l : Pairs} (hs : Srt l) (k : ByteArray) : Srt (delL l k) := by
  unfold delL delAt
  exact List.Pairwise.sublist (by first | exact List.eraseIdx_sublist _ _ | (rw [← List.eraseIdx_eq_take_drop_succ]; exact List.eraseIdx_sublist _ _)) hs
end Go.Proofs.YtfadbmfkidiaoaaGreatDoor
