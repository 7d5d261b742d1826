/- The names of a map, one by one, in whatever order. -/
import Derived.Test.YtfadbmfkidiaoaaGreatDoorR3
import Derived.Test.YtfadbmfkidiaoaaGreatDoorB5
import Derived.Maps.RangeRun
import Derived.MapKept
namespace Go.Proofs.YtfadbmfkidiaoaaGreatDoor
open Go.RowKit Go Go.MapKept

theorem keys_any (r : Nat) (w : World) :
    Calls Tryz.prog 35 #[.map (some r)] w fun e w' => e = .returned (.func (.func 90) #[] #[.pointer (some ⟨w.heap.size, 0, none⟩)]) ∧ w' = w.alloc (.cells #[.map (some r)] 94) := by
  go_enter Tryz.func35, Tryz.ntmps35
  go_wp2_with fail
  go_ret
  exact ⟨rfl, rfl⟩

theorem nodup_of_map {α β : Type} (f : α → β) {l : List α} (h : (l.map f).Nodup) : l.Nodup :=
  (List.pairwise_map.1 h).imp fun hne e => hne (congrArg f e)
theorem map_inj_of {α β : Type} (f : α → β) : ∀ {l : List α} {x y : α}, (l.map f).Nodup → x ∈ l → y ∈ l → f x = f y → x = y
  | [], _, _, _, hx, _, _ => by simp at hx
  | a :: l, x, y, h, hx, hy, he => by
    rw [List.map_cons, List.nodup_cons] at h
    rcases List.mem_cons.1 hx with rfl | hx'
    · rcases List.mem_cons.1 hy with rfl | hy'
      · rfl
      · exact absurd (List.mem_map.2 ⟨y, hy', he.symm⟩) h.1
    · rcases List.mem_cons.1 hy with rfl | hy'
      · exact absurd (List.mem_map.2 ⟨x, hx', he⟩) h.1
      · exact map_inj_of f h.2 hx' hy' he
theorem nodup_len : ∀ {l m : List Nat}, l.Nodup → (∀ x ∈ l, x ∈ m) → l.length ≤ m.length
  | [], _, _, _ => by simp
  | a :: l, m, h, hm => by
    rw [List.nodup_cons] at h
    have ha := hm a (by simp)
    have := nodup_len (l := l) (m := m.erase a) h.2 (fun x hx => (List.mem_erase_of_ne (fun e => by subst e; exact h.1 hx)).2 (hm x (by simp [hx])))
    rw [List.length_erase_of_mem ha] at this
    have hp := List.length_pos_of_mem ha
    simp only [List.length_cons]; omega
def strKey (e : MapEntry) : ByteArray := match e.key with | .string s => s | _ => ByteArray.empty

attribute [local go_sem] Oper.semAt_some
set_option maxRecDepth 100000 in
set_option maxHeartbeats 1600000 in
theorem keys_it (m l D b1 r : Nat) (es : Array MapEntry) (clock : Nat) (R : List ByteArray → World → Prop)
    (hold : ∀ x ∈ es.toList, x.born < clock) (hnd : (es.toList.map (·.born)).Nodup) (hkey : ∀ x ∈ es.toList, x.key = .string (strKey x))
    (hb : ∀ pre W, R pre W → W.cell? ⟨b1, 0, none⟩ = some (.map (some r)) ∧ W.heap[r]? = some (.map es clock) ∧ D ≤ W.heap.size)
    (hRa : ∀ pre W o, R pre W → R pre (W.alloc o)) (hRd : ∀ pre W, R pre W → R pre W.drew)
    (hRs : ∀ pre W it a s n c o', R pre W → D ≤ it → W.heap[it]? = some (.mapIter a s n c) → R pre (W.putObj it o'))
    (hY : ∀ pre x W, pre.length < es.size → R pre W → YieldAt Fence.wide (m - 1) Tryz.prog l #[.string x] W fun e W' => e = .returned (.bool true) ∧ R (pre ++ [x]) W' ∧ KeptB D W W')
    (W : World) (h0 : R [] W) :
    CallsIn Fence.wide m Tryz.prog 90 #[.func (.yield l) #[] #[], .pointer (some ⟨b1, 0, none⟩)] W fun e W' => (∃ v, e = .returned v) ∧ ∃ xs, xs.Perm (es.toList.map strKey) ∧ R xs W' := by
  obtain ⟨c0, hr0, hD0⟩ := hb _ _ h0
  have hrun : (Instr.range 94 (.map (some r))).run Tryz.prog W = .ok (.pointer (some ⟨W.heap.size, 0, none⟩)) (W.alloc (.mapIter (some r) clock #[] clock)) := by
    simp [Instr.range, run_underlying Tryz.underlying94, Go.MapKept.run_getObj_map hr0, Result.andThen]
  refine callsIn_of_wp Tryz.func90 rfl trivial ?_ rfl
  simp only [Tryz.ntmps90, List.size_toArray, List.length_cons, List.length_nil, Nat.reduceAdd, Nat.reduceSub, Array.replicate_succ, Array.replicate_zero, List.push_toArray, List.append_toArray, List.nil_append, List.cons_append]
  gi_wp2_with fail
  generalize hit : W.heap.size = it at *
  gi_loopw [3] (fun _ wr => ∃ (done : List MapEntry) (seen : Array Nat), R (done.map strKey) wr ∧ wr.heap[it]? = some (.mapIter (some r) clock seen clock) ∧ seen.toList = done.map (·.born) ∧ (∀ x ∈ done, x ∈ es.toList) ∧ (done.map (·.born)).Nodup ∧ done.length ≤ es.size) (fun _ wr => match wr.heap[it]? with | some (.mapIter _ _ seen _) => es.size - seen.size | _ => 0)
  case atStart =>
    exact ⟨[], #[], hRa _ _ _ h0, by rw [← hit]; exact heap_alloc_new W _, rfl, by simp, by simp, by simp⟩
  case round =>
    obtain ⟨done, seen, hr, hi, hsn, hin, hdn, hdl⟩ := hrel
    obtain ⟨c1, hmr, hDs⟩ := hb _ _ hr
    rcases Go.run_next_at (P := Tryz.prog) wr 0 it r clock clock seen es clock hi hmr hold (Nat.le_refl _) with ⟨hl0, hrn⟩ | ⟨e, he, w1, hw1, hrn⟩
    · gi_wp2_with fail
      go_end0
      refine ⟨⟨_, rfl⟩, done.map strKey, ?_, hr⟩
      have hnd1 : done.Nodup := nodup_of_map _ hdn
      have hnd2 : es.toList.Nodup := nodup_of_map _ hnd
      refine List.Perm.map _ ((List.perm_ext_iff_of_nodup hnd1 hnd2).2 fun x => ⟨hin x, fun hx => ?_⟩)
      have hx2 : ¬ (x ∈ (leftOf es seen).toList) := by
        have h0 : (leftOf es seen).toList = [] := List.eq_nil_of_length_eq_zero (by rw [Array.length_toList]; exact hl0)
        rw [h0]; simp
      have hsx : x.born ∈ seen.toList := by
        by_cases hc : x.born ∈ seen.toList
        · exact hc
        · exfalso
          apply hx2
          unfold leftOf
          rw [Array.toList_filter, List.mem_filter]
          refine ⟨hx, ?_⟩
          simpa using hc
      rw [hsn] at hsx
      obtain ⟨y, hy, hyb⟩ := List.mem_map.1 hsx
      have hxy : y = x := map_inj_of _ hnd (hin y hy) hx hyb
      rw [← hxy]; exact hy
    · have hel : e ∈ es.toList ∧ e.born ∉ seen.toList := by
        unfold leftOf at he
        rw [Array.toList_filter, List.mem_filter] at he
        refine ⟨he.1, ?_⟩
        have := he.2
        simpa using this
      have hr1 : R (done.map strKey) w1 := by rcases hw1 with rfl | rfl; exact hr; exact hRd _ _ hr
      have hi1 : w1.heap[it]? = some (.mapIter (some r) clock seen clock) := by rcases hw1 with rfl | rfl; exact hi; exact hi
      have hm1 : w1.heap[r]? = some (.map es clock) := by rcases hw1 with rfl | rfl; exact hmr; exact hmr
      have hne : r ≠ it := fun e => by subst e; rw [hmr] at hi; cases hi
      have hr2 : R (done.map strKey) (w1.putObj it (.mapIter (some r) clock (seen.push e.born) clock)) := hRs _ _ _ _ _ _ _ _ hr1 hD0 hi1
      have hw2 : Go.ChangeMaps.setBlock w1 it (.mapIter (some r) clock (seen.push e.born) clock) = w1.putObj it (.mapIter (some r) clock (seen.push e.born) clock) := rfl
      rw [hw2] at hrn
      have hi2 : (w1.putObj it (.mapIter (some r) clock (seen.push e.born) clock)).heap[it]? = some (.mapIter (some r) clock (seen.push e.born) clock) := World.putObj_heap_same (Array.getElem?_eq_some_iff.1 hi1).1
      have hm2 : (w1.putObj it (.mapIter (some r) clock (seen.push e.born) clock)).heap[r]? = some (.map es clock) := (World.putObj_heap_other hne).trans hm1
      generalize w1.putObj it (.mapIter (some r) clock (seen.push e.born) clock) = W2 at *
      have hen := Go.run_entry_at (P := Tryz.prog) W2 it r clock seen es clock e hi2 hm2 hel.1 hnd
      rw [hkey e hel.1] at hrn hen
      have hlt : done.length < es.size := by
        have h1 : (e.born :: done.map (·.born)).Nodup := List.nodup_cons.2 ⟨by rw [← hsn]; exact hel.2, hdn⟩
        have h2 := nodup_len h1 (m := es.toList.map (·.born)) (fun x hx => by
          rcases List.mem_cons.1 hx with rfl | hx
          · exact List.mem_map.2 ⟨e, hel.1, rfl⟩
          · obtain ⟨y, hy, rfl⟩ := List.mem_map.1 hx
            exact List.mem_map.2 ⟨y, hin y hy, rfl⟩)
        simp only [List.length_cons, List.length_map, Array.length_toList] at h2
        omega
      obtain ⟨fn, tmps, assign, body, hy, hRd'⟩ := hY (done.map strKey) (strKey e) W2 (by simpa using hlt) hr2
      have HX := Lib.hid hel
      gi_wp2_with fail
      refine ⟨fun h => (by simp [Fence.wide] at h), hRd'.mono ?_⟩
      rintro x W3 ⟨rfl, hr3, hk3⟩
      have hi3 := hk3 it _ hD0 hi2 rfl
      gi_wp2_with fail
      go_roundw
      case rel =>
        refine ⟨done ++ [e], seen.push e.born, by rw [List.map_append]; exact hr3, hi3, by simp [hsn], ?_, ?_, by simp; omega⟩
        · intro y hy
          rcases List.mem_append.1 hy with h | h
          · exact hin y h
          · simp at h; rw [h]; exact HX.out.1
        · rw [List.map_append, List.nodup_append]
          refine ⟨hdn, by simp, ?_⟩
          intro a ha b hb' hab
          simp at hb'
          rw [← hsn] at ha
          exact HX.out.2 (by rw [← hb', ← hab]; exact ha)
      case measure =>
        rw [hi3, hi]
        have : seen.size = done.length := by have := congrArg List.length hsn; simpa using this
        simp; omega
end Go.Proofs.YtfadbmfkidiaoaaGreatDoor
