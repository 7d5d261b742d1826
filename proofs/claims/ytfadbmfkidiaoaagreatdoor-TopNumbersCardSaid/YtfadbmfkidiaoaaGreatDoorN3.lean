/- What the deeds of two givers do to the state. -/
import Derived.Test.YtfadbmfkidiaoaaGreatDoorN2
namespace Go.Proofs.YtfadbmfkidiaoaaGreatDoor
open Go.RowKit Go
set_option linter.unusedSimpArgs false
set_option linter.unusedVariables false
set_option linter.unusedSectionVars false
set_option linter.unnecessarySimpa false

def IKA (N : Nat) (f : Bool → Option Nat) (L : Bool → Lf) (gv : Bool → List Nat) (lost : Bool → Nat) : Prop := ∀ k, IK N (f k) (fun s => L s k) (gv k) (lost k)
theorem upd_at (L : Bool → Lf) (s : Bool) (F : Lf) (k : Bool) : (fun s' => upd L s F s' k) = upd (fun s' => L s' k) s (F k) := by
  funext j; unfold upd; split <;> rfl
theorem upd_self {α : Type} (c : Bool → α) (s : Bool) : upd c s (c s) = c := by
  funext j; unfold upd; split
  · next h => rw [h]
  · rfl
theorem nx_eq (f : Bool → Option Nat) (k : Bool) : nx f k = (f k).getD 1 := rfl
section
variable {N : Nat} {f : Bool → Option Nat} {L : Bool → Lf} {gv : Bool → List Nat} {lost : Bool → Nat}
theorem IKA.mono {N' : Nat} (h : IKA N f L gv lost) (hN : N ≤ N') : IKA N' f L gv lost := fun k => (h k).mono hN
theorem IKA.lose (h : IKA N f L gv lost) (s : Bool) : IKA N f (upd L s fun _ => none) gv (fun k => lost k + cnt (L s k)) := fun k => by
  rw [upd_at]; exact (h k).lose s
theorem IKA.ret (h : IKA N f L gv lost) (s : Bool) : IKA N (retf (L s) f (rs (L s) f)) (upd L s (retF (L s) (rs (L s) f))) gv lost := fun k => by
  rw [upd_at]
  by_cases hk : k ∈ rs (L s) f
  · obtain ⟨⟨x, n⟩, hy⟩ := rs_some _ _ k hk
    have he : ends (L s) f k = true := (List.mem_filter.1 hk).2
    unfold ends lf at he
    rw [hy] at he
    simp only [Option.isSome_some, Option.getD_some, Bool.true_and, decide_eq_true_eq] at he
    have h1 : retf (L s) f (rs (L s) f) k = some x := by unfold retf lf; rw [if_pos hk, hy]; rfl
    have h2 : retF (L s) (rs (L s) f) k = none := by unfold retF; rw [if_pos hk]
    rw [h1, h2]
    exact (h k).ret s hy he
  · have h1 : retf (L s) f (rs (L s) f) k = f k := by unfold retf; rw [if_neg hk]
    have h2 : retF (L s) (rs (L s) f) k = L s k := by unfold retF; rw [if_neg hk]
    rw [h1, h2]
    have := upd_self (fun s' => L s' k) s
    rw [this]
    exact h k
theorem IKA.give (h : IKA N f L gv lost) (s k : Bool) {x n : Nat} (hk : L s k = some (x, n)) : IKA N f (upd L s (upd (L s) k (less x n))) (upd gv k (gv k ++ [x])) lost ∧ x ∉ gv k := by
  have h1 := (h k).give s hk
  refine ⟨fun j => ?_, h1.2⟩
  rw [upd_at]
  by_cases e : j = k
  · subst e; rw [upd_same, upd_same]; exact h1.1
  · rw [upd_other _ _ _ _ e, upd_other _ _ _ _ e]
    have := upd_self (fun s' => L s' j) s
    rw [this]; exact h j
theorem IKA.take (h : IKA N f L gv lost) (s k : Bool) {n : Nat} (hk : L s k = none) (h1 : 1 ≤ n) (h9 : n ≤ 9) :
    IKA (N + 9) (upd f k (some (nx f k + n))) (upd L s (upd (L s) k (less (nx f k) n))) (upd gv k (gv k ++ [nx f k])) lost ∧ nx f k ∉ gv k := by
  have h2 := (h k).take s hk h1 h9
  refine ⟨fun j => ?_, h2.2⟩
  rw [upd_at]
  by_cases e : j = k
  · subst e; rw [upd_same, upd_same, upd_same]; exact h2.1
  · rw [upd_other _ _ _ _ e, upd_other _ _ _ _ e, upd_other _ _ _ _ e]
    have := upd_self (fun s' => L s' j) s
    rw [this]; exact (h j).mono (by omega)
theorem IKA.sm (h : IKA N f L gv lost) (hN : N < 100000) : Sm f := fun k n hk => by
  have h1 := (h k).f1
  have h2 := (h k).fN
  rw [hk] at h1 h2
  simp only [Option.getD_some] at h1 h2
  omega
theorem IKA.blk (h : IKA N f L gv lost) (s k : Bool) {x n : Nat} (hk : L s k = some (x, n)) : 1 ≤ x ∧ 1 ≤ n ∧ n ≤ 9 ∧ x < N := by
  have := (h k).bl s x n hk
  have := (h k).fN
  omega

variable {w0 w : World} {b gm : Nat} {bg r : Bool → Nat} {gg gl gn : Nat} {gk : Bool → Nat} {v : Bool → Value} {sz : Bool → Nat}
/-- all blocks that the state has are new since w0, and are 8 or more -/
theorem NS.ge (h : NS w0.heap.size w b gm bg r gg gl gn gk v sz f L gv lost) (h8 : 8 ≤ w0.heap.size) (s : Bool) : w0.heap.size ≤ b ∧ w0.heap.size ≤ gm ∧ w0.heap.size ≤ r s := by
  have := h.lo
  simp only [List.mem_cons, List.not_mem_nil, or_false, forall_eq_or_imp, forall_eq] at this
  cases s <;> omega
theorem NS.sep (h : NS w0.heap.size w b gm bg r gg gl gn gk v sz f L gv lost) (s : Bool) : bg s ≠ b ∧ bg s ≠ gm ∧ r s ≠ b ∧ r s ≠ gm := by
  have h1 := h.nd
  have h2 := h.nm
  clear h
  cases s <;> grind

/-- numbers are returned -/
theorem returnAny (h : NS w0.heap.size w b gm bg r gg gl gn gk v sz f L gv lost) (hI : IKA N f L gv lost) (hN : N < 100000) (hs : ∀ s, 1 ≤ sz s) (h8 : 8 ≤ w0.heap.size) (hT : Tab w) (hx : Ext [] w0 w) (s : Bool) :
    Calls Tryz.prog 10 #[.pointer (some ⟨bg s, 0, none⟩), .pointer (some ⟨b, 0, none⟩)] w fun e w' => (∃ n : Nat, e = .returned (.tuple #[.int .i64 n, .int .i64 0])) ∧
      ∃ gm' f' L', NS w0.heap.size w' b gm' bg r gg gl gn gk v sz f' L' gv lost ∧ IKA N f' L' gv lost ∧ Ext [] w0 w' := by
  have hg := h.ge h8 s
  refine (gvReturn (bg s) (r s) (sz s) (L s) b gm f w (h.gvs s) h.mdl hT (hI.sm hN) (hs s) (fun k x n hk => ?_) (h.sep s) (by omega)).mono ?_
  · have := hI.blk s k hk; omega
  · rintro e w' ⟨rfl, hgv, g', hm, hgg, hx2⟩
    exact ⟨⟨_, rfl⟩, g', _, _, h.model s hx2 (by simp) hgv hm hgg, hI.ret s, hx.step hx2 (by simp; omega)⟩
/-- a number is given -/
theorem giveAny (h : NS w0.heap.size w b gm bg r gg gl gn gk v sz f L gv lost) (hI : IKA N f L gv lost) (hN : N < 99000) (hs : ∀ s, 1 ≤ sz s ∧ sz s ≤ 9) (h8 : 8 ≤ w0.heap.size) (hT : Tab w) (hx : Ext [] w0 w) (s k : Bool) :
    Calls Tryz.prog 12 #[.pointer (some ⟨bg s, 0, none⟩), .pointer (some ⟨b, 0, none⟩), .string (nm k)] w fun e w' => ∃ x : Nat, e = .returned (.tuple #[.int .i64 x, .int .i64 0]) ∧
      ∃ gm' f' L', NS w0.heap.size w' b gm' bg r gg gl gn gk v sz f' L' gv lost ∧ IKA (N + 9) f' L' (upd gv k (gv k ++ [x])) lost ∧ x ∉ gv k ∧ x < 100000 ∧ Ext [] w0 w' := by
  have hg := h.ge h8 s
  have hsm := hI.sm (by omega)
  have hsp := h.sep s
  cases hk : L s k with
  | some y =>
    obtain ⟨x, n⟩ := y
    have hb := hI.blk s k hk
    have hgi := hI.give s k hk
    refine (giveLeft (bg s) (r s) (sz s) (L s) b gm f k x n w (h.gvs s) h.mdl hT hsm (hs s).1 hk hb.2.1 hb.2.2.1 (by omega)).mono ?_
    rintro e w' ⟨rfl, hgv, hx2⟩
    have hm : Mdl w' b gm (mpF f) := h.mdl.ext hx2 (by simpa using Ne.symm hsp.2.2.1) (by simpa using Ne.symm hsp.2.2.2)
    exact ⟨x, rfl, gm, f, _, h.model s hx2 (by simp) hgv hm (.inl rfl), hgi.1.mono (by omega), hgi.2, by omega, hx.step hx2 (by simp; omega)⟩
  | none =>
    have hn := (hI k).fN
    have hta := hI.take s k hk (hs s).1 (hs s).2
    have hn1 : nx f k ≤ N := hn
    have hs9 := (hs s).2
    refine (giveTake (bg s) (r s) (sz s) (L s) b gm f k w (h.gvs s) h.mdl hT hsm (hs s).1 hs9 hk (by omega) hsp).mono ?_
    rintro e w' ⟨rfl, hgv, g', hm, hgg, hx2⟩
    exact ⟨nx f k, rfl, g', _, _, h.model s hx2 (by simp) hgv hm hgg, hta.1, hta.2, by omega, hx.step hx2 (by simp; omega)⟩
/-- the map is carried -/
theorem carryAny (h : NS w0.heap.size w b gm bg r gg gl gn gk v sz f L gv lost) (hI : IKA N f L gv lost) (hN : N < 100000) (hx : Ext [] w0 w) (piece : Nat) (hp : 1 ≤ piece ∧ piece ≤ 64) :
    Calls Tryz.prog 11 #[.pointer (some ⟨b, 0, none⟩), .int .i64 piece] w fun e w' => ∃ b', e = .returned (.pointer (some ⟨b', 0, none⟩)) ∧
      ∃ gm', NS w0.heap.size w' b' gm' bg r gg gl gn gk v sz f L gv lost ∧ Ext [] w0 w' := by
  have hl := mpF_len f
  refine (carried_any b gm (mpF f) piece w h.mdl (mpF_srt f) (by omega) (fun i hi => ?_) (fun i hi => ?_) hp.1 (by omega)).mono ?_
  · obtain ⟨k, n, _, e, _⟩ := mpF_at f i hi
    rw [e, nm_size]; omega
  · obtain ⟨k, n, hk, _, e⟩ := mpF_at f i hi
    have := hI.sm hN k n hk
    rw [e]; have := itoaS_size n (by omega); omega
  · rintro e w' ⟨b', g', rfl, hm, h1, h2, hx2⟩
    exact ⟨b', rfl, g', h.carry hx2 hm h1 h2, hx.trans hx2⟩
/-- all that is left is lost -/
theorem loseAny (h : NS w0.heap.size w b gm bg r gg gl gn gk v sz f L gv lost) (hs : ∀ s, 1 ≤ sz s) (h8 : 8 ≤ w0.heap.size) (hx : Ext [] w0 w) (s : Bool) :
    Calls Tryz.prog 9 #[.pointer (some ⟨bg s, 0, none⟩)] w fun e w' => (∃ v, e = .returned v) ∧ NS w0.heap.size w' b gm bg r gg gl gn gk v sz f (upd L s fun _ => none) gv lost ∧ Ext [] w0 w' := by
  have hg := h.ge h8 s
  have hsp := h.sep s
  refine (gvLose (bg s) (r s) (sz s) (L s) w (h.gvs s) (hs s)).mono ?_
  rintro e w' ⟨hv, hgv, hx2⟩
  have hm : Mdl w' b gm (mpF f) := h.mdl.ext hx2 (by simpa using Ne.symm hsp.2.2.1) (by simpa using Ne.symm hsp.2.2.2)
  exact ⟨hv, h.model s hx2 (by simp) hgv hm (.inl rfl), hx.step hx2 (by simp; omega)⟩
end
end Go.Proofs.YtfadbmfkidiaoaaGreatDoor
