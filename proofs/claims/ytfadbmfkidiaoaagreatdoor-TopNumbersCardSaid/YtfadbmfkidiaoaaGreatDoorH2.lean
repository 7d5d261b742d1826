/- Maps in memory, second part: what is taken out. -/
import Derived.Test.YtfadbmfkidiaoaaGreatDoorD1
namespace Go.Proofs.YtfadbmfkidiaoaaGreatDoor
open Go.RowKit Go Go.MapKept
set_option linter.unusedSimpArgs false
set_option linter.unusedVariables false
set_option linter.unusedSectionVars false
set_option linter.unnecessarySimpa false

section
variable {P : Program} {w : World} {mt kt e r : Nat} {d : TypeDesc} {L : List (Value × Value)} (hm : P.underlying mt = some (.map kt e)) (hd : P.underlying kt = some d) (h : Mp w d r L)
include hm hd h

theorem Mp.delete_no {k : Value} (t2 ty : Nat) (hk : IsKey d k) (hn : ∀ p ∈ L, p.1 ≠ k) :
    ∃ w', (Builtin.delete_ #[mt, t2] ty #[.map (some r), k]).run P w = .ok (.tuple #[]) w' ∧ Mp w' d r L ∧ Ext [r] w w' := by
  obtain ⟨⟨es, clock, hb, hl, hs1, hs2⟩, h2, h3⟩ := h
  have hkeys : ∀ x ∈ es.toList, IsKey d x.key := fun x hx => h2 (x.key, x.val) (by rw [← hl]; exact List.mem_map.2 ⟨x, hx, rfl⟩)
  rcases findNow_spec hk es.toList 0 hkeys with ⟨h4, _⟩ | ⟨j, x, _, h5, h6⟩
  · have hf := Go.MapKept.run_findKey (w := w) hd h4
    refine ⟨{ w with heap := w.heap.setIfInBounds r (.map es clock) }, ?_, ⟨⟨es, clock, (heap_set hb).1, hl, hs1, hs2⟩, h2, h3⟩, (Ext.refl [r] w).heap_setBlock (.inl (by simp)) _⟩
    simp [Builtin.delete_, run_underlying hm, Go.MapKept.run_getObj_map hb, Go.MapKept.run_checkKey hd hk _ 9999, hf, Result.andThen, Go.MapKept.run_setObj_map _ hb]
  · exact absurd h6 (hn (x.key, x.val) (by rw [← hl]; exact List.mem_map.2 ⟨x, List.mem_of_getElem? h5, rfl⟩))
theorem Mp.delete_at {k v0 : Value} {j : Nat} (t2 ty : Nat) (hk : IsKey d k) (hn : L[j]? = some (k, v0)) :
    ∃ w', (Builtin.delete_ #[mt, t2] ty #[.map (some r), k]).run P w = .ok (.tuple #[]) w' ∧ Mp w' d r (L.eraseIdx j) ∧ Ext [r] w w' := by
  obtain ⟨⟨es, clock, hb, hl, hs1, hs2⟩, h2, h3⟩ := h
  have hkeys : ∀ x ∈ es.toList, IsKey d x.key := fun x hx => h2 (x.key, x.val) (by rw [← hl]; exact List.mem_map.2 ⟨x, hx, rfl⟩)
  rcases findNow_spec hk es.toList 0 hkeys with ⟨h4, h5⟩ | ⟨j', x, h4, h5, h6⟩
  · have hmem : (k, v0) ∈ L := List.mem_of_getElem? hn
    rw [← hl] at hmem
    obtain ⟨x, hx, he⟩ := List.mem_map.1 hmem
    exact absurd (Prod.mk.inj he).1 (h5 x hx)
  · have hjj : j' = j := by
      have hx : L[j']? = some (x.key, x.val) := by rw [← hl, List.getElem?_map, h5]; rfl
      rw [h6] at hx
      exact uniq h3 hx hn rfl
    subst hjj
    have hf := Go.MapKept.run_findKey (w := w) hd h4
    rw [Nat.zero_add] at hf
    have hjl : j' < es.size := by have := (List.getElem?_eq_some_iff.1 h5).1; simpa using this
    have hel : (es.eraseIdxIfInBounds j').toList = es.toList.eraseIdx j' := by simp [Array.eraseIdxIfInBounds, hjl]
    refine ⟨{ w with heap := w.heap.setIfInBounds r (.map (es.eraseIdxIfInBounds j') clock) }, ?_, ⟨⟨_, _, (heap_set hb).1, ?_, ?_, ?_⟩, ?_, ?_⟩, (Ext.refl [r] w).heap_setBlock (.inl (by simp)) _⟩
    · simp [Builtin.delete_, run_underlying hm, Go.MapKept.run_getObj_map hb, Go.MapKept.run_checkKey hd hk _ 9999, hf, Result.andThen, Go.MapKept.run_setObj_map _ hb]
    · rw [← hl, hel]; simp [List.eraseIdx_eq_take_drop_succ]
    · intro x hx
      rw [hel] at hx
      exact hs1 x (List.mem_of_mem_eraseIdx hx)
    · rw [hel]
      exact List.Nodup.sublist (List.Sublist.map _ (List.eraseIdx_sublist _ _)) hs2
    · exact fun p hp => h2 p (List.mem_of_mem_eraseIdx hp)
    · exact List.Pairwise.sublist (List.eraseIdx_sublist _ _) h3
theorem Mp.clear (ty : Nat) : ∃ w', (Builtin.clear_ #[mt] ty #[.map (some r)]).run P w = .ok (.tuple #[]) w' ∧ Mp w' d r [] ∧ Ext [r] w w' := by
  obtain ⟨⟨es, clock, hb, hl, hs1, hs2⟩, h2, h3⟩ := h
  refine ⟨{ w with heap := w.heap.setIfInBounds r (.map #[] clock) }, ?_, ⟨⟨_, _, (heap_set hb).1, rfl, by simp, by simp⟩, by simp, .nil⟩, (Ext.refl [r] w).heap_setBlock (.inl (by simp)) _⟩
  simp [Builtin.clear_, run_underlying hm, Go.MapKept.run_getObj_map hb, Result.andThen, Go.MapKept.run_setObj_map _ hb]
end
end Go.Proofs.YtfadbmfkidiaoaaGreatDoor
