/- A giver in memory. -/
import Derived.Test.YtfadbmfkidiaoaaGreatDoorE2
namespace Go.Proofs.YtfadbmfkidiaoaaGreatDoor
open Go.RowKit Go Go.MapKept
set_option linter.unusedSimpArgs false
set_option linter.unusedVariables false
set_option linter.unusedSectionVars false
set_option linter.unnecessarySimpa false

def ent (k : Bool) (x : Nat × Nat) : Value × Value := (.string (nm k), blk x.1 x.2)
abbrev Lf := Bool → Option (Nat × Nat)
def GL (L : List (Value × Value)) (F : Lf) : Prop := (∀ p ∈ L, ∃ k x, F k = some x ∧ p = ent k x) ∧ (∀ k x, F k = some x → ent k x ∈ L)
theorem nm_inj {j k : Bool} (h : nm j = nm k) : j = k := by
  cases j <;> cases k <;> first | rfl | (exact absurd h (by decide))
theorem ent_key {j k : Bool} {x y : Nat × Nat} (h : (ent j x).1 = (ent k y).1) : j = k := by
  unfold ent at h; injection h with h; exact nm_inj h
theorem gl_none {L : List (Value × Value)} {F : Lf} {k : Bool} (h : GL L F) (hk : F k = none) : ∀ p ∈ L, p.1 ≠ .string (nm k) := by
  intro p hp he
  obtain ⟨j, x, hj, rfl⟩ := h.1 p hp
  have : j = k := ent_key (x := x) (y := (0, 0)) he
  subst this; rw [hk] at hj; cases hj
theorem gl_new {L : List (Value × Value)} {F : Lf} {k : Bool} (h : GL L F) (x : Nat × Nat) (hk : F k = none) : GL (L ++ [ent k x]) (upd F k (some x)) := by
  refine ⟨fun p hp => ?_, fun j y hj => ?_⟩
  · rcases List.mem_append.1 hp with hp | hp
    · obtain ⟨j, y, hj, rfl⟩ := h.1 p hp
      have hne : j ≠ k := fun e => by subst e; rw [hk] at hj; cases hj
      exact ⟨j, y, by simp [upd, hne, hj], rfl⟩
    · simp at hp; exact ⟨k, x, by simp [upd], hp⟩
  · unfold upd at hj
    split at hj
    · next e => subst e; cases hj; simp
    · exact List.mem_append_left _ (h.2 j y hj)
theorem gl_old {L : List (Value × Value)} {F : Lf} {k : Bool} (h : GL L F) (hd : L.Pairwise fun p q => p.1 ≠ q.1) {i : Nat} {x0 : Nat × Nat} (x : Nat × Nat) (hi : L[i]? = some (ent k x0)) : GL (L.set i (ent k x)) (upd F k (some x)) := by
  have hil : i < L.length := (List.getElem?_eq_some_iff.1 hi).1
  refine ⟨fun p hp => ?_, fun j y hj => ?_⟩
  · obtain ⟨n, hn⟩ := List.getElem?_of_mem hp
    rw [List.getElem?_set] at hn
    split at hn
    · next e =>
      subst e
      simp only [hil, if_true, Option.some.injEq] at hn
      exact ⟨k, x, by simp [upd], hn.symm⟩
    · next e =>
      obtain ⟨j, y, hj, rfl⟩ := h.1 p (List.mem_of_getElem? hn)
      have hne : j ≠ k := fun ej => by subst ej; exact e (uniq hd hi hn rfl)
      exact ⟨j, y, by simp [upd, hne, hj], rfl⟩
  · unfold upd at hj
    split at hj
    · next e => subst e; cases hj; exact List.mem_set hil _
    · next e =>
      obtain ⟨n, hn⟩ := List.getElem?_of_mem (h.2 j y hj)
      have hne : i ≠ n := fun ei => by subst ei; rw [hi] at hn; exact e (ent_key (congrArg Prod.fst (Option.some.inj hn))).symm
      exact List.mem_of_getElem? (i := n) (by rw [List.getElem?_set, if_neg hne]; exact hn)
theorem gl_del {L : List (Value × Value)} {F : Lf} {k : Bool} (h : GL L F) (hd : L.Pairwise fun p q => p.1 ≠ q.1) {i : Nat} {x0 : Nat × Nat} (hi : L[i]? = some (ent k x0)) : GL (L.eraseIdx i) (upd F k none) := by
  have hil : i < L.length := (List.getElem?_eq_some_iff.1 hi).1
  refine ⟨fun p hp => ?_, fun j y hj => ?_⟩
  · obtain ⟨j, y, hj, rfl⟩ := h.1 p (List.mem_of_mem_eraseIdx hp)
    have hne : j ≠ k := fun ej => by
      subst ej
      rw [List.mem_eraseIdx_iff_getElem?] at hp
      obtain ⟨n, hn1, hn2⟩ := hp
      exact hn1 (uniq hd hn2 hi rfl)
    exact ⟨j, y, by simp [upd, hne, hj], rfl⟩
  · unfold upd at hj
    split at hj
    · cases hj
    · next e =>
      obtain ⟨n, hn⟩ := List.getElem?_of_mem (h.2 j y hj)
      rw [List.mem_eraseIdx_iff_getElem?]
      exact ⟨n, fun en => by subst en; rw [hi] at hn; exact e (ent_key (congrArg Prod.fst (Option.some.inj hn))).symm, hn⟩

structure Gv (w : World) (bg r size : Nat) (F : Lf) : Prop where
  blk : w.heap[bg]? = some (.cells #[.int .i64 size, .map (some r)] 96 (0, 0))
  mp : ∃ L, Mp w .string r L ∧ GL L F
theorem Gv.ext {w w' : World} {bg r size : Nat} {F : Lf} {S : List Nat} (h : Gv w bg r size F) (hx : Ext S w w') (h1 : bg ∉ S) (h2 : r ∉ S) : Gv w' bg r size F := by
  obtain ⟨h3, L, h4, h5⟩ := h
  exact ⟨hx.keep h3 h1, L, h4.ext hx h2, h5⟩
theorem zero43 (w : World) : (zeroValue 43).run Tryz.prog w = .ok (blk 0 0) w := by
  have h : (Tryz.prog.info? 43).map (fun i => (i.zero, i.size, i.bytes)) = some (some (.agg #[.int .i64 0, .int .i64 0]), 2, 16) := by kernel_rfl
  obtain ⟨i, hi, hz, _, _⟩ := info_parts h
  simp [zeroValue, typeInfo, hi, hz, Go.Proofs.YtfadbmfkidiaoaaGreatDoor.blk]
def lf (F : Lf) (k : Bool) : Nat × Nat := (F k).getD (0, 0)
theorem keyOk (k : Bool) : IsKey .string (.string (nm k)) := trivial
theorem Gv.lookup {w : World} {bg r size : Nat} {F : Lf} (h : Gv w bg r size F) (k : Bool) :
    (Instr.lookup 94 (.map (some r)) (.string (nm k)) false).run Tryz.prog w = .ok (.agg #[.int .i64 (lf F k).1, .int .i64 (lf F k).2]) w := by
  obtain ⟨_, L, hm, hg⟩ := h
  cases hk : F k with
  | none =>
    have := hm.lookup_no (P := Tryz.prog) Tryz.underlying94 Tryz.underlying9 (zero43 w) (keyOk k) (gl_none hg hk) false
    unfold lf; rw [hk]; exact this
  | some x =>
    have := hm.lookup_yes (P := Tryz.prog) Tryz.underlying94 Tryz.underlying9 (keyOk k) (hg.2 k x hk) false
    unfold lf; rw [hk]; exact this
theorem Gv.put {w : World} {bg r size : Nat} {F : Lf} (h : Gv w bg r size F) (hne : bg ≠ r) (k : Bool) (x : Nat × Nat) :
    ∃ w', (Instr.mapUpdate 94 (.map (some r)) (.string (nm k)) (.agg #[.int .i64 x.1, .int .i64 x.2])).run Tryz.prog w = .ok () w' ∧ Gv w' bg r size (upd F k (some x)) ∧ Ext [r] w w' := by
  obtain ⟨hb, L, hm, hg⟩ := h
  cases hk : F k with
  | none =>
    obtain ⟨w', h1, h2, h3⟩ := hm.update_new (P := Tryz.prog) (v := Go.Proofs.YtfadbmfkidiaoaaGreatDoor.blk x.1 x.2) Tryz.underlying94 Tryz.underlying9 (keyOk k) (gl_none hg hk)
    exact ⟨w', h1, ⟨h3.keep hb (by simpa using hne), _, h2, gl_new hg x hk⟩, h3⟩
  | some x0 =>
    obtain ⟨i, hi⟩ := List.getElem?_of_mem (hg.2 k x0 hk)
    obtain ⟨w', h1, h2, h3⟩ := hm.update_old (P := Tryz.prog) (v := Go.Proofs.YtfadbmfkidiaoaaGreatDoor.blk x.1 x.2) Tryz.underlying94 Tryz.underlying9 (keyOk k) hi
    exact ⟨w', h1, ⟨h3.keep hb (by simpa using hne), _, h2, gl_old hg hm.dist x hi⟩, h3⟩
theorem Gv.del {w : World} {bg r size : Nat} {F : Lf} (h : Gv w bg r size F) (hne : bg ≠ r) (k : Bool) (ty : Nat) :
    ∃ w', (Builtin.delete_ #[94, 9] ty #[.map (some r), .string (nm k)]).run Tryz.prog w = .ok (.tuple #[]) w' ∧ Gv w' bg r size (upd F k none) ∧ Ext [r] w w' := by
  obtain ⟨hb, L, hm, hg⟩ := h
  cases hk : F k with
  | none =>
    obtain ⟨w', h1, h2, h3⟩ := hm.delete_no (P := Tryz.prog) Tryz.underlying94 Tryz.underlying9 9 ty (keyOk k) (gl_none hg hk)
    refine ⟨w', h1, ⟨h3.keep hb (by simpa using hne), _, h2, ?_⟩, h3⟩
    have : upd F k none = F := by funext j; unfold upd; split; (next e => rw [e, hk]); rfl
    rw [this]; exact hg
  | some x0 =>
    obtain ⟨i, hi⟩ := List.getElem?_of_mem (hg.2 k x0 hk)
    obtain ⟨w', h1, h2, h3⟩ := hm.delete_at (P := Tryz.prog) Tryz.underlying94 Tryz.underlying9 9 ty (keyOk k) hi
    exact ⟨w', h1, ⟨h3.keep hb (by simpa using hne), _, h2, gl_del hg hm.dist hi⟩, h3⟩
theorem Gv.ne {w : World} {bg r size : Nat} {F : Lf} (h : Gv w bg r size F) : bg ≠ r := by
  obtain ⟨hb, L, ⟨⟨es, c, hr, _⟩, _⟩, _⟩ := h
  intro e; subst e; rw [hb] at hr; cases hr
end Go.Proofs.YtfadbmfkidiaoaaGreatDoor
