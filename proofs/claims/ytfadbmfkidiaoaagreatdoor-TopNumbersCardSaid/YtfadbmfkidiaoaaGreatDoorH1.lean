/- Maps in memory. -/
import Derived.Test.YtfadbmfkidiaoaaGreatDoorB5
import Derived.MapKept
import Derived.WideLaws
import Derived.WideMake
namespace Go.Proofs.YtfadbmfkidiaoaaGreatDoor
open Go.RowKit Go Go.MapKept
set_option linter.unusedSimpArgs false
set_option linter.unusedVariables false
set_option linter.unusedSectionVars false
set_option linter.unnecessarySimpa false

/-- block r is a map whose entries are L, in the order in which they came -/
structure Mp (w : World) (d : TypeDesc) (r : Nat) (L : List (Value × Value)) : Prop where
  blk : ∃ es clock, w.heap[r]? = some (.map es clock) ∧ es.toList.map (fun e => (e.key, e.val)) = L ∧ (∀ x ∈ es.toList, x.born < clock) ∧ (es.toList.map (·.born)).Nodup
  keys : ∀ p ∈ L, IsKey d p.1
  dist : L.Pairwise fun p q => p.1 ≠ q.1

theorem Mp.ext {w w' : World} {d : TypeDesc} {r : Nat} {L : List (Value × Value)} {S : List Nat} (h : Mp w d r L) (hx : Ext S w w') (hr : r ∉ S) : Mp w' d r L := by
  obtain ⟨⟨es, clock, hb, hl⟩, h2, h3⟩ := h
  exact ⟨⟨es, clock, hx.keep hb hr, hl⟩, h2, h3⟩
theorem Mp.lt {w : World} {d : TypeDesc} {r : Nat} {L : List (Value × Value)} (h : Mp w d r L) : r < w.heap.size := by
  obtain ⟨⟨es, clock, hb, hl⟩, _⟩ := h; exact lt_of_block hb
theorem Mp.new (w : World) (d : TypeDesc) : Mp (w.alloc (.map #[] 0)) d w.heap.size [] :=
  ⟨⟨#[], 0, heap_alloc_new w _, rfl, by simp, by simp⟩, by simp, .nil⟩

theorem sameBits_key {d : TypeDesc} {k : Value} (h : IsKey d k) : Instr.sameBits 10000 k k = true := by
  cases d <;> cases k <;> simp_all [IsKey, Instr.sameBits]
  next s => cases s; exact beq_self_eq_true (α := Array UInt8) _
theorem run_stays {P : Program} {w : World} {d : TypeDesc} {k : Value} (h : IsKey d k) : (Instr.keyThatStays k k).run P w = .ok k w := by
  simp [Instr.keyThatStays, sameBits_key h]

theorem uniq {L : List (Value × Value)} (h3 : L.Pairwise fun p q => p.1 ≠ q.1) {i j : Nat} {a b : Value × Value} (h1 : L[i]? = some a) (h2 : L[j]? = some b) (h : a.1 = b.1) : i = j := by
  obtain ⟨q1, q2⟩ := List.getElem?_eq_some_iff.1 h1
  obtain ⟨r1, r2⟩ := List.getElem?_eq_some_iff.1 h2
  rcases Nat.lt_trichotomy i j with hlt | he | hgt
  · have := List.pairwise_iff_getElem.1 h3 i j q1 r1 hlt; rw [q2, r2] at this; exact absurd h this
  · exact he
  · have := List.pairwise_iff_getElem.1 h3 j i r1 q1 hgt; rw [q2, r2] at this; exact absurd h.symm this

section
variable {P : Program} {w : World} {mt kt e r : Nat} {d : TypeDesc} {L : List (Value × Value)} (hm : P.underlying mt = some (.map kt e)) (hd : P.underlying kt = some d) (h : Mp w d r L)
include hm hd h

theorem Mp.lookup_no {k z : Value} (hz : (zeroValue e).run P w = .ok z w) (hk : IsKey d k) (hn : ∀ p ∈ L, p.1 ≠ k) (ok : Bool) :
    (Instr.lookup mt (.map (some r)) k ok).run P w = .ok (if ok then .tuple #[z, .bool false] else z) w := by
  obtain ⟨⟨es, clock, hb, hl, hs1, hs2⟩, h2, h3⟩ := h
  have hkeys : ∀ x ∈ es.toList, IsKey d x.key := fun x hx => h2 (x.key, x.val) (by rw [← hl]; exact List.mem_map.2 ⟨x, hx, rfl⟩)
  rcases findNow_spec hk es.toList 0 hkeys with ⟨h4, _⟩ | ⟨j, x, _, h5, h6⟩
  · have := Go.MapKept.run_findKey (w := w) hd h4
    simp [Instr.lookup, run_underlying hm, Go.MapKept.run_getObj_map hb, Go.MapKept.run_checkKey hd hk _ 9999, this, Result.andThen, hz]
  · exact absurd h6 (hn (x.key, x.val) (by rw [← hl]; exact List.mem_map.2 ⟨x, List.mem_of_getElem? h5, rfl⟩))
theorem Mp.lookup_yes {k v : Value} (hk : IsKey d k) (hn : (k, v) ∈ L) (ok : Bool) :
    (Instr.lookup mt (.map (some r)) k ok).run P w = .ok (if ok then .tuple #[v, .bool true] else v) w := by
  obtain ⟨⟨es, clock, hb, hl, hs1, hs2⟩, h2, h3⟩ := h
  have hkeys : ∀ x ∈ es.toList, IsKey d x.key := fun x hx => h2 (x.key, x.val) (by rw [← hl]; exact List.mem_map.2 ⟨x, hx, rfl⟩)
  have hone : ∀ x ∈ es.toList, x.key = k → x.val = v := by
    intro x hx hxk
    have hx' : (x.key, x.val) ∈ L := by rw [← hl]; exact List.mem_map.2 ⟨x, hx, rfl⟩
    obtain ⟨i1, hi1⟩ := List.getElem?_of_mem hx'
    obtain ⟨i2, hi2⟩ := List.getElem?_of_mem hn
    have := uniq h3 hi1 hi2 hxk
    subst this
    rw [hi1] at hi2
    exact (Prod.mk.inj (Option.some.inj hi2)).2
  rcases findNow_spec hk es.toList 0 hkeys with ⟨h4, h5⟩ | ⟨j, x, h4, h5, h6⟩
  · rw [← hl] at hn
    obtain ⟨x, hx, he⟩ := List.mem_map.1 hn
    exact absurd (Prod.mk.inj he).1 (h5 x hx)
  · have := Go.MapKept.run_findKey (w := w) hd h4
    simp [Instr.lookup, run_underlying hm, Go.MapKept.run_getObj_map hb, Go.MapKept.run_checkKey hd hk _ 9999, this, Result.andThen, hone x (List.mem_of_getElem? h5) h6]
theorem Mp.update_new {k v : Value} (hk : IsKey d k) (hn : ∀ p ∈ L, p.1 ≠ k) :
    ∃ w', (Instr.mapUpdate mt (.map (some r)) k v).run P w = .ok () w' ∧ Mp w' d r (L ++ [(k, v)]) ∧ Ext [r] w w' := by
  obtain ⟨⟨es, clock, hb, hl, hs1, hs2⟩, h2, h3⟩ := h
  have hkeys : ∀ x ∈ es.toList, IsKey d x.key := fun x hx => h2 (x.key, x.val) (by rw [← hl]; exact List.mem_map.2 ⟨x, hx, rfl⟩)
  rcases findNow_spec hk es.toList 0 hkeys with ⟨h4, _⟩ | ⟨j, x, _, h5, h6⟩
  · have hf := Go.MapKept.run_findKey (w := w) hd h4
    refine ⟨{ w with heap := w.heap.setIfInBounds r (.map (es.push { key := k, val := v, born := clock }) (clock + 1)) }, ?_, ⟨⟨_, _, (heap_set hb).1, ?_, ?_, ?_⟩, ?_, ?_⟩, (Ext.refl [r] w).heap_setBlock (.inl (by simp)) _⟩
    · simp [Instr.mapUpdate, run_underlying hm, Go.MapKept.run_getObj_map hb, Go.MapKept.run_checkKey hd hk _ 9999, hf, Result.andThen, Go.MapKept.run_setObj_map _ hb]
    · simp [hl]
    · intro x hx
      rw [Array.toList_push] at hx
      rcases List.mem_append.1 hx with hx | hx
      · have := hs1 x hx; omega
      · simp at hx; rw [hx]; show clock < clock + 1; omega
    · rw [Array.toList_push, List.map_append, List.nodup_append]
      refine ⟨hs2, by simp, ?_⟩
      intro a ha b hb2
      simp at hb2
      obtain ⟨x, hx, rfl⟩ := List.mem_map.1 ha
      have := hs1 x hx
      omega
    · intro p hp
      rcases List.mem_append.1 hp with hp | hp
      · exact h2 p hp
      · simp at hp; rw [hp]; exact hk
    · rw [List.pairwise_append]
      refine ⟨h3, by simp, ?_⟩
      intro a ha b hb
      simp at hb; rw [hb]; exact hn a ha
  · exact absurd h6 (hn (x.key, x.val) (by rw [← hl]; exact List.mem_map.2 ⟨x, List.mem_of_getElem? h5, rfl⟩))
theorem Mp.update_old {k v v0 : Value} {j : Nat} (hk : IsKey d k) (hn : L[j]? = some (k, v0)) :
    ∃ w', (Instr.mapUpdate mt (.map (some r)) k v).run P w = .ok () w' ∧ Mp w' d r (L.set j (k, v)) ∧ Ext [r] w w' := by
  obtain ⟨⟨es, clock, hb, hl, hs1, hs2⟩, h2, h3⟩ := h
  have hkeys : ∀ x ∈ es.toList, IsKey d x.key := fun x hx => h2 (x.key, x.val) (by rw [← hl]; exact List.mem_map.2 ⟨x, hx, rfl⟩)
  rcases findNow_spec hk es.toList 0 hkeys with ⟨h4, h5⟩ | ⟨j', x, h4, h5, h6⟩
  · have hmem : (k, v0) ∈ L := List.mem_of_getElem? hn
    rw [← hl] at hmem
    obtain ⟨x, hx, he⟩ := List.mem_map.1 hmem
    exact absurd (Prod.mk.inj he).1 (h5 x hx)
  · have hjj : j' = j := by
      have hx : L[j']? = some (x.key, x.val) := by rw [← hl, List.getElem?_map, h5]; rfl
      rw [h6] at hx
      exact uniq h3 hx hn rfl
    subst hjj
    have hf := Go.MapKept.run_findKey (w := w) hd h4
    rw [Nat.zero_add] at hf
    have hes : es[j']? = some x := by rw [← Array.getElem?_toList]; exact h5
    have hst := run_stays (P := P) (w := w) hk
    have hborn : ((es.modify j' fun e => { e with key := k, val := v }).toList.map (·.born)) = es.toList.map (·.born) := by
      refine List.ext_getElem? (fun i => ?_)
      rw [List.getElem?_map, List.getElem?_map, Array.getElem?_toList, Array.getElem?_toList, Array.getElem?_modify]
      split
      · cases es[i]? <;> rfl
      · rfl
    refine ⟨{ w with heap := w.heap.setIfInBounds r (.map (es.modify j' fun e => { e with key := k, val := v }) clock) }, ?_, ⟨⟨_, _, (heap_set hb).1, ?_, ?_, ?_⟩, ?_, ?_⟩, (Ext.refl [r] w).heap_setBlock (.inl (by simp)) _⟩
    · simp [Instr.mapUpdate, run_underlying hm, Go.MapKept.run_getObj_map hb, Go.MapKept.run_checkKey hd hk _ 9999, hf, Result.andThen, Go.MapKept.run_setObj_map _ hb, hes, h6, hst]
    · rw [← hl]
      refine List.ext_getElem? (fun i => ?_)
      rw [List.getElem?_map, Array.getElem?_toList, Array.getElem?_modify, List.getElem?_set, List.getElem?_map, Array.getElem?_toList]
      by_cases hij : j' = i
      · subst hij; simp [hes]
        exact (Array.getElem?_eq_some_iff.1 hes).1
      · simp [hij]
    · intro y hy
      rw [← hborn] at hs2
      have hyb : y.born ∈ es.toList.map (·.born) := by rw [← hborn]; exact List.mem_map.2 ⟨y, hy, rfl⟩
      obtain ⟨z, hz, hzb⟩ := List.mem_map.1 hyb
      rw [← hzb]; exact hs1 z hz
    · rw [hborn]; exact hs2
    · intro p hp
      rcases List.mem_or_eq_of_mem_set hp with hp | hp
      · exact h2 p hp
      · rw [hp]; exact hk
    · have e : (L.set j' (k, v)).map Prod.fst = L.map Prod.fst := by
        rw [List.map_set]
        refine List.ext_getElem? (fun i => ?_)
        rw [List.getElem?_set]
        split
        · next h => subst h; split <;> simp_all
        · rfl
      have h3' : (L.map Prod.fst).Pairwise (· ≠ ·) := List.pairwise_map.2 h3
      rw [← e] at h3'
      exact List.pairwise_map.1 h3'
theorem Mp.len (ty : TypeId) : (Builtin.len_ #[mt] ty #[.map (some r)]).run P w = .ok (goInt L.length) w := by
  obtain ⟨⟨es, clock, hb, hl, hs1, hs2⟩, h2, h3⟩ := h
  have : es.size = L.length := by rw [← hl]; simp
  have hmk : P.underlying mt = some (.map (P.mapKeyOf mt) (P.mapElemOf mt)) := by simp [Program.mapKeyOf, Program.mapElemOf, hm]
  rw [run_len_map (w := w) mt ty r es clock hmk hb, this]
end
end Go.Proofs.YtfadbmfkidiaoaaGreatDoor
