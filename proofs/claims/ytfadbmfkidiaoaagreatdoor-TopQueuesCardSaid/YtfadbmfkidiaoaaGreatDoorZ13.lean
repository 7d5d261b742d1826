/- Maps in memory. Bytes whose pieces belong together: what a piece is. -/
import Derived.Test.YtfadbmfkidiaoaaGreatDoorZ12
import Derived.MapKept
import Derived.WideLaws
import Derived.WideMake
namespace Go.Proofs.YtfadbmfkidiaoaaGreatDoor
open Go.RowKit Go Go.MapKept
set_option linter.unusedSimpArgs false
set_option linter.unusedVariables false
set_option linter.unusedSectionVars false
set_option linter.unnecessarySimpa false

/-- block r is a map whose entries are L, in the order in which they came -/
structure Mp (w : World) (d : TypeDesc) (r : Nat) (L : List (Value × Value)) : Prop where
  blk : ∃ es clock, w.heap[r]? = some (.map es clock) ∧ es.toList.map (fun e => (e.key, e.val)) = L ∧ (∀ x ∈ es.toList, x.born < clock) ∧ (es.toList.map (·.born)).Nodup
  keys : ∀ p ∈ L, IsKey d p.1
  dist : L.Pairwise fun p q => p.1 ≠ q.1

theorem Mp.ext {w w' : World} {d : TypeDesc} {r : Nat} {L : List (Value × Value)} {S : List Nat} (h : Mp w d r L) (hx : Ext S w w') (hr : r ∉ S) : Mp w' d r L := by
  obtain ⟨⟨es, clock, hb, hl⟩, h2, h3⟩ := h
  exact ⟨⟨es, clock, hx.keep hb hr, hl⟩, h2, h3⟩
theorem Mp.lt {w : World} {d : TypeDesc} {r : Nat} {L : List (Value × Value)} (h : Mp w d r L) : r < w.heap.size := by
  obtain ⟨⟨es, clock, hb, hl⟩, _⟩ := h; exact lt_of_block hb
theorem Mp.new (w : World) (d : TypeDesc) : Mp (w.alloc (.map #[] 0)) d w.heap.size [] :=
  ⟨⟨#[], 0, heap_alloc_new w _, rfl, by simp, by simp⟩, by simp, .nil⟩

theorem sameBits_key {d : TypeDesc} {k : Value} (h : IsKey d k) : Instr.sameBits 10000 k k = true := by
  cases d <;> cases k <;> simp_all [IsKey, Instr.sameBits]
  next s => cases s; exact beq_self_eq_true (α := Array UInt8) _
theorem run_stays {P : Program} {w : World} {d : TypeDesc} {k : Value} (h : IsKey d k) : (Instr.keyThatStays k k).run P w = .ok k w := by
  simp [Instr.keyThatStays, sameBits_key h]

theorem uniq {L : List (Value × Value)} (h3 : L.Pairwise fun p q => p.1 ≠ q.1) {i j : Nat} {a b : Value × Value} (h1 : L[i]? = some a) (h2 : L[j]? = some b) (h : a.1 = b.1) : i = j := by
  obtain ⟨q1, q2⟩ := List.getElem?_eq_some_iff.1 h1
  obtain ⟨r1, r2⟩ := List.getElem?_eq_some_iff.1 h2
  rcases Nat.lt_trichotomy i j with hlt | he | hgt
  · have := List.pairwise_iff_getElem.1 h3 i j q1 r1 hlt; rw [q2, r2] at this; exact absurd h this
  · exact he
  · have := List.pairwise_iff_getElem.1 h3 j i r1 q1 hgt; rw [q2, r2] at this; exact absurd h.symm this

section
variable {P : Program} {w : World} {mt kt e r : Nat} {d : TypeDesc} {L : List (Value × Value)} (hm : P.underlying mt = some (.map kt e)) (hd : P.underlying kt = some d) (h : Mp w d r L)
include hm hd h

theorem Mp.lookup_no {k z : Value} (hz : (zeroValue e).run P w = .ok z w) (hk : IsKey d k) (hn : ∀ p ∈ L, p.1 ≠ k) (ok : Bool) :
    (Instr.lookup mt (.map (some r)) k ok).run P w = .ok (if ok then .tuple #[z, .bool false] else z) w := by
  obtain ⟨⟨es, clock, hb, hl, hs1, hs2⟩, h2, h3⟩ := h
  have hkeys : ∀ x ∈ es.toList, IsKey d x.key := fun x hx => h2 (x.key, x.val) (by rw [← hl]; exact List.mem_map.2 ⟨x, hx, rfl⟩)
  rcases findNow_spec hk es.toList 0 hkeys with ⟨h4, _⟩ | ⟨j, x, _, h5, h6⟩
  · have := Go.MapKept.run_findKey (w := w) hd h4
    simp [Instr.lookup, run_underlying hm, Go.MapKept.run_getObj_map hb, Go.MapKept.run_checkKey hd hk _ 9999, this, Result.andThen, hz]
  · exact absurd h6 (hn (x.key, x.val) (by rw [← hl]; exact List.mem_map.2 ⟨x, List.mem_of_getElem? h5, rfl⟩))
theorem Mp.lookup_yes {k v : Value} (hk : IsKey d k) (hn : (k, v) ∈ L) (ok : Bool) :
    (Instr.lookup mt (.map (some r)) k ok).run P w = .ok (if ok then .tuple #[v, .bool true] else v) w := by
  obtain ⟨⟨es, clock, hb, hl, hs1, hs2⟩, h2, h3⟩ := h
  have hkeys : ∀ x ∈ es.toList, IsKey d x.key := fun x hx => h2 (x.key, x.val) (by rw [← hl]; exact List.mem_map.2 ⟨x, hx, rfl⟩)
  have hone : ∀ x ∈ es.toList, x.key = k → x.val = v := by
    intro x hx hxk
    have hx' : (x.key, x.val) ∈ L := by rw [← hl]; exact List.mem_map.2 ⟨x, hx, rfl⟩
    obtain ⟨i1, hi1⟩ := List.getElem?_of_mem hx'
    obtain ⟨i2, hi2⟩ := List.getElem?_of_mem hn
    have := uniq h3 hi1 hi2 hxk
    subst this
    rw [hi1] at hi2
    exact (Prod.mk.inj (Option.some.inj hi2)).2
  rcases findNow_spec hk es.toList 0 hkeys with ⟨h4, h5⟩ | ⟨j, x, h4, h5, h6⟩
  · rw [← hl] at hn
    obtain ⟨x, hx, he⟩ := List.mem_map.1 hn
    exact absurd (Prod.mk.inj he).1 (h5 x hx)
  · have := Go.MapKept.run_findKey (w := w) hd h4
    simp [Instr.lookup, run_underlying hm, Go.MapKept.run_getObj_map hb, Go.MapKept.run_checkKey hd hk _ 9999, this, Result.andThen, hone x (List.mem_of_getElem? h5) h6]
theorem Mp.update_new {k v : Value} (hk : IsKey d k) (hn : ∀ p ∈ L, p.1 ≠ k) :
    ∃ w', (Instr.mapUpdate mt (.map (some r)) k v).run P w = .ok () w' ∧ Mp w' d r (L ++ [(k, v)]) ∧ Ext [r] w w' := by
  obtain ⟨⟨es, clock, hb, hl, hs1, hs2⟩, h2, h3⟩ := h
  have hkeys : ∀ x ∈ es.toList, IsKey d x.key := fun x hx => h2 (x.key, x.val) (by rw [← hl]; exact List.mem_map.2 ⟨x, hx, rfl⟩)
  rcases findNow_spec hk es.toList 0 hkeys with ⟨h4, _⟩ | ⟨j, x, _, h5, h6⟩
  · have hf := Go.MapKept.run_findKey (w := w) hd h4
    refine ⟨{ w with heap := w.heap.setIfInBounds r (.map (es.push { key := k, val := v, born := clock }) (clock + 1)) }, ?_, ⟨⟨_, _, (heap_set hb).1, ?_, ?_, ?_⟩, ?_, ?_⟩, (Ext.refl [r] w).heap_setBlock (.inl (by simp)) _⟩
    · simp [Instr.mapUpdate, run_underlying hm, Go.MapKept.run_getObj_map hb, Go.MapKept.run_checkKey hd hk _ 9999, hf, Result.andThen, Go.MapKept.run_setObj_map _ hb]
    · simp [hl]
    · intro x hx
      rw [Array.toList_push] at hx
      rcases List.mem_append.1 hx with hx | hx
      · have := hs1 x hx; omega
      · simp at hx; rw [hx]; show clock < clock + 1; omega
    · rw [Array.toList_push, List.map_append, List.nodup_append]
      refine ⟨hs2, by simp, ?_⟩
      intro a ha b hb2
      simp at hb2
      obtain ⟨x, hx, rfl⟩ := List.mem_map.1 ha
      have := hs1 x hx
      omega
    · intro p hp
      rcases List.mem_append.1 hp with hp | hp
      · exact h2 p hp
      · simp at hp; rw [hp]; exact hk
    · rw [List.pairwise_append]
      refine ⟨h3, by simp, ?_⟩
      intro a ha b hb
      simp at hb; rw [hb]; exact hn a ha
  · exact absurd h6 (hn (x.key, x.val) (by rw [← hl]; exact List.mem_map.2 ⟨x, List.mem_of_getElem? h5, rfl⟩))
theorem Mp.update_old {k v v0 : Value} {j : Nat} (hk : IsKey d k) (hn : L[j]? = some (k, v0)) :
    ∃ w', (Instr.mapUpdate mt (.map (some r)) k v).run P w = .ok () w' ∧ Mp w' d r (L.set j (k, v)) ∧ Ext [r] w w' := by
  obtain ⟨⟨es, clock, hb, hl, hs1, hs2⟩, h2, h3⟩ := h
  have hkeys : ∀ x ∈ es.toList, IsKey d x.key := fun x hx => h2 (x.key, x.val) (by rw [← hl]; exact List.mem_map.2 ⟨x, hx, rfl⟩)
  rcases findNow_spec hk es.toList 0 hkeys with ⟨h4, h5⟩ | ⟨j', x, h4, h5, h6⟩
  · have hmem : (k, v0) ∈ L := List.mem_of_getElem? hn
    rw [← hl] at hmem
    obtain ⟨x, hx, he⟩ := List.mem_map.1 hmem
    exact absurd (Prod.mk.inj he).1 (h5 x hx)
  · have hjj : j' = j := by
      have hx : L[j']? = some (x.key, x.val) := by rw [← hl, List.getElem?_map, h5]; rfl
      rw [h6] at hx
      exact uniq h3 hx hn rfl
    subst hjj
    have hf := Go.MapKept.run_findKey (w := w) hd h4
    rw [Nat.zero_add] at hf
    have hes : es[j']? = some x := by rw [← Array.getElem?_toList]; exact h5
    have hst := run_stays (P := P) (w := w) hk
    have hborn : ((es.modify j' fun e => { e with key := k, val := v }).toList.map (·.born)) = es.toList.map (·.born) := by
      refine List.ext_getElem? (fun i => ?_)
      rw [List.getElem?_map, List.getElem?_map, Array.getElem?_toList, Array.getElem?_toList, Array.getElem?_modify]
      split
      · cases es[i]? <;> rfl
      · rfl
    refine ⟨{ w with heap := w.heap.setIfInBounds r (.map (es.modify j' fun e => { e with key := k, val := v }) clock) }, ?_, ⟨⟨_, _, (heap_set hb).1, ?_, ?_, ?_⟩, ?_, ?_⟩, (Ext.refl [r] w).heap_setBlock (.inl (by simp)) _⟩
    · simp [Instr.mapUpdate, run_underlying hm, Go.MapKept.run_getObj_map hb, Go.MapKept.run_checkKey hd hk _ 9999, hf, Result.andThen, Go.MapKept.run_setObj_map _ hb, hes, h6, hst]
    · rw [← hl]
      refine List.ext_getElem? (fun i => ?_)
      rw [List.getElem?_map, Array.getElem?_toList, Array.getElem?_modify, List.getElem?_set, List.getElem?_map, Array.getElem?_toList]
      by_cases hij : j' = i
      · subst hij; simp [hes]
        exact (Array.getElem?_eq_some_iff.1 hes).1
      · simp [hij]
    · intro y hy
      rw [← hborn] at hs2
      have hyb : y.born ∈ es.toList.map (·.born) := by rw [← hborn]; exact List.mem_map.2 ⟨y, hy, rfl⟩
      obtain ⟨z, hz, hzb⟩ := List.mem_map.1 hyb
      rw [← hzb]; exact hs1 z hz
    · rw [hborn]; exact hs2
    · intro p hp
      rcases List.mem_or_eq_of_mem_set hp with hp | hp
      · exact h2 p hp
      · rw [hp]; exact hk
    · have e : (L.set j' (k, v)).map Prod.fst = L.map Prod.fst := by
        rw [List.map_set]
        refine List.ext_getElem? (fun i => ?_)
        rw [List.getElem?_set]
        split
        · next h => subst h; split <;> simp_all
        · rfl
      have h3' : (L.map Prod.fst).Pairwise (· ≠ ·) := List.pairwise_map.2 h3
      rw [← e] at h3'
      exact List.pairwise_map.1 h3'
theorem Mp.len (ty : TypeId) : (Builtin.len_ #[mt] ty #[.map (some r)]).run P w = .ok (goInt L.length) w := by
  obtain ⟨⟨es, clock, hb, hl, hs1, hs2⟩, h2, h3⟩ := h
  have : es.size = L.length := by rw [← hl]; simp
  have hmk : P.underlying mt = some (.map (P.mapKeyOf mt) (P.mapElemOf mt)) := by simp [Program.mapKeyOf, Program.mapElemOf, hm]
  rw [run_len_map (w := w) mt ty r es clock hmk hb, this]
end
end Go.Proofs.YtfadbmfkidiaoaaGreatDoor

namespace Go.Proofs.YtfadbmfkidiaoaaGreatDoor
open Go.RowKit Go

theorem numB2 (a : Nat) (h : a < 65536) : numB [UInt8.ofNat (a / 256), UInt8.ofNat a] = a := by
  simp [numB, numS]; omega
theorem numB4 (a : Nat) (h : a < 4294967296) : numB (fourB a) = a := by
  simp [numB, numS, fourB]; omega

/-- s[:hi], its address as it was -/
theorem slice_h {P : Program} {t e sz by_ : Nat} (T : SlT P t e sz by_) (g o n c hi : Nat) {y : Int} (hy : y = (hi : Int)) (hhi : hi ≤ c) (w : World) :
    (Instr.slice t (.slice (some ⟨g, o, none⟩) n c) none (some (.int .i64 y)) none).run P w = .ok (.slice (some ⟨g, o, none⟩) hi c) w := by
  subst hy
  obtain ⟨ht, ⟨i, z, hi', hz, hsz, hby, hzs⟩, h0⟩ := T
  have he : P.elem t = e := by simp [Program.elem, ht]
  rw [run_slice_h w t (some ⟨g, o, none⟩) n c (by rw [he]; exact ht) .i64 hi (by omega) (by omega), he]
  simp [sizeOf, typeInfo, hi', hsz, sliced, addr_add]

theorem pieceFacts {W : World} {gi o n c : Nat} {H T : List UInt8} {i N : Nat} (hv : Vw W gi 5 1 (.slice (some ⟨gi, o, none⟩) n c) n (bcs (H ++ [UInt8.ofNat (i / 256), UInt8.ofNat i, UInt8.ofNat (N / 256), UInt8.ofNat N] ++ T)))
    (hH : H.length = 4) (hi : i < 65536) (hN : N < 65536) :
    n = 8 + T.length ∧ n ≤ c ∧ c ≤ 9223372036854775807 ∧ ∃ A46 A68 A8 : Option Addr,
      (∀ w : World, (Instr.slice 104 (.slice (some ⟨gi, o, none⟩) n c) (some (.int .i64 4)) (some (.int .i64 6)) none).run Tryz.prog w = .ok (.slice A46 2 (c - 4)) w) ∧
      (∀ w : World, (Instr.slice 104 (.slice (some ⟨gi, o, none⟩) n c) (some (.int .i64 6)) (some (.int .i64 8)) none).run Tryz.prog w = .ok (.slice A68 2 (c - 6)) w) ∧
      (∀ w : World, (Instr.slice 104 (.slice (some ⟨gi, o, none⟩) n c) none (some (.int .i64 4)) none).run Tryz.prog w = .ok (.slice (some ⟨gi, o, none⟩) 4 c) w) ∧
      (∀ w : World, (Instr.slice 104 (.slice (some ⟨gi, o, none⟩) n c) (some (.int .i64 8)) none none).run Tryz.prog w = .ok (.slice A8 T.length (c - 8)) w) ∧
      (∀ j, Calls Tryz.prog 100 #[.slice A46 2 (c - 4)] (W.drewN j) fun e w' => e = .returned (.int .u32 i) ∧ w' = W.drewN j) ∧
      (∀ j, Calls Tryz.prog 100 #[.slice A68 2 (c - 6)] (W.drewN j) fun e w' => e = .returned (.int .u32 N) ∧ w' = W.drewN j) ∧
      (∀ j, Calls Tryz.prog 100 #[.slice (some ⟨gi, o, none⟩) 4 c] (W.drewN j) fun e w' => e = .returned (.int .u32 (numB H)) ∧ w' = W.drewN j) ∧
      Vw W gi 5 1 (.slice A8 T.length (c - 8)) T.length (bcs T) := by
  have hn := hv.blen
  simp only [List.length_append, List.length_cons, List.length_nil, hH] at hn
  have hc1 : n ≤ c := by cases hv with | at_ _ h _ _ _ => exact h
  have hc2 : c ≤ maxLen := by cases hv with | at_ _ _ h _ _ => exact h
  obtain ⟨A46, a1, a2, a3⟩ := slice_lh T104 (some ⟨gi, o, none⟩) n c 4 6 (z := 4) (y := 6) rfl rfl (by omega) (by omega)
  obtain ⟨A68, b1, b2, b3⟩ := slice_lh T104 (some ⟨gi, o, none⟩) n c 6 8 (z := 6) (y := 8) rfl rfl (by omega) (by omega)
  obtain ⟨A8, d1, d2, d3⟩ := slice_l T104 (some ⟨gi, o, none⟩) n c 8 (z := 8) rfl (by omega)
  have v46 := hv.mid 4 6 (by omega) (by omega) a2 a3
  have v68 := hv.mid 6 8 (by omega) (by omega) b2 b3
  have v04 := hv.to_ 4 (by omega)
  have v8 := hv.tail 8 (by omega) d2 d3
  simp only [bcs_drop, bcs_take] at v46 v68 v04 v8
  have e46 : ((H ++ [UInt8.ofNat (i / 256), UInt8.ofNat i, UInt8.ofNat (N / 256), UInt8.ofNat N] ++ T).drop (4 * 1)).take ((6 - 4) * 1) = [UInt8.ofNat (i / 256), UInt8.ofNat i] := by
    rw [List.append_assoc, List.drop_left' (by omega)]; rfl
  have e68 : ((H ++ [UInt8.ofNat (i / 256), UInt8.ofNat i, UInt8.ofNat (N / 256), UInt8.ofNat N] ++ T).drop (6 * 1)).take ((8 - 6) * 1) = [UInt8.ofNat (N / 256), UInt8.ofNat N] := by
    rw [show 6 * 1 = 4 + 2 by rfl, ← List.drop_drop, List.append_assoc, List.drop_left' (by omega)]; rfl
  have e04 : (H ++ [UInt8.ofNat (i / 256), UInt8.ofNat i, UInt8.ofNat (N / 256), UInt8.ofNat N] ++ T).take (4 * 1) = H := by
    rw [List.append_assoc, List.take_left' (by omega)]
  have e8 : (H ++ [UInt8.ofNat (i / 256), UInt8.ofNat i, UInt8.ofNat (N / 256), UInt8.ofNat N] ++ T).drop (8 * 1) = T := List.drop_left' (by simp; omega)
  have e9 : n - 8 = T.length := by omega
  rw [e9] at d1 v8
  rw [e46] at v46; rw [e68] at v68; rw [e04] at v04; rw [e8] at v8
  refine ⟨by omega, hc1, by simp only [maxLen] at hc2; omega, A46, A68, A8, a1, b1, slice_h T104 gi o n c 4 rfl (by omega), d1, fun j => ?_, fun j => ?_, fun j => ?_, v8⟩
  · have := number_any gi _ 2 _ (W.drewN j) (v46.ext ((Ext.refl [] W).drewN j) (by simp)) (by omega)
    rw [numB2 i hi] at this
    exact this.mono fun e w h => ⟨h.1, h.2.symm⟩
  · have := number_any gi _ 2 _ (W.drewN j) (v68.ext ((Ext.refl [] W).drewN j) (by simp)) (by omega)
    rw [numB2 N hN] at this
    exact this.mono fun e w h => ⟨h.1, h.2.symm⟩
  · exact (number_any gi _ 4 _ (W.drewN j) (v04.ext ((Ext.refl [] W).drewN j) (by simp)) (by omega)).mono fun e w h => ⟨h.1, h.2.symm⟩
end Go.Proofs.YtfadbmfkidiaoaaGreatDoor
