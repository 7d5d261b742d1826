/- The names that a giver has numbers of, in order. -/
import Derived.Test.YtfadbmfkidiaoaaGreatDoorK3
namespace Go.Proofs.YtfadbmfkidiaoaaGreatDoor
open Go.RowKit Go Go.MapKept

def namesOf (F : Lf) : List ByteArray := (if (F false).isSome then [kA] else []) ++ (if (F true).isSome then [kB] else [])
theorem srt_ab : srtS [kA, kB] = [kA, kB] ∧ srtS [kB, kA] = [kA, kB] ∧ srtS [kA] = [kA] ∧ srtS [kB] = [kB] ∧ srtS [] = [] := by
  refine ⟨?_, ?_, ?_, ?_, ?_⟩ <;> simp [srtS, List.mergeSort, List.MergeSort.Internal.splitInTwo, List.merge, kA, kB, bl]
  · rw [if_pos (by decide)]; rfl
  · rw [if_neg (by decide)]; rfl
theorem perm_names {F : Lf} {ns xs : List ByteArray} (hn : ns.Nodup) (h1 : ∀ s ∈ ns, ∃ k, (F k).isSome ∧ s = nm k) (h2 : ∀ k, (F k).isSome → nm k ∈ ns) (hp : xs.Perm ns) : srtS xs = namesOf F := by
  have hperm : ns.Perm (namesOf F) := by
    refine (List.perm_ext_iff_of_nodup hn ?_).2 fun s => ⟨fun hs => ?_, fun hs => ?_⟩
    · unfold namesOf; cases (F false).isSome <;> cases (F true).isSome <;> decide
    · obtain ⟨k, hk, rfl⟩ := h1 s hs
      unfold namesOf; cases k <;> simp [nm, hk]
    · unfold namesOf at hs
      rcases List.mem_append.1 hs with h | h
      · split at h
        · next hk => simp at h; rw [h]; exact h2 false hk
        · simp at h
      · split at h
        · next hk => simp at h; rw [h]; exact h2 true hk
        · simp at h
  have hp := hp.trans hperm
  obtain ⟨a1, a2, a3, a4, a5⟩ := srt_ab
  unfold namesOf at hp ⊢
  cases h3 : (F false).isSome <;> cases h4 : (F true).isSome <;> simp only [h3, h4, if_true, Bool.false_eq_true, if_false, List.nil_append, List.append_nil, List.cons_append] at hp ⊢
  · rw [hp.eq_nil]; exact a5
  · rw [List.perm_singleton.1 hp]; exact a4
  · rw [List.perm_singleton.1 hp]; exact a3
  · have hl := hp.length_eq
    match xs, hl, hp with
    | [x, y], _, hp =>
      have hx : x ∈ [kA, kB] := hp.mem_iff.1 (by simp)
      have hy : y ∈ [kA, kB] := hp.mem_iff.1 (by simp)
      have hnd : [x, y].Nodup := hp.nodup_iff.2 (by decide)
      simp only [List.mem_cons, List.not_mem_nil, or_false] at hx hy
      rcases hx with rfl | rfl <;> rcases hy with rfl | rfl
      · simp at hnd
      · exact a1
      · exact a2
      · simp at hnd

set_option maxHeartbeats 800000 in
theorem collectKeys (b1 r : Nat) (es : Array MapEntry) (clock : Nat) (w : World) (hold : ∀ x ∈ es.toList, x.born < clock) (hnd : (es.toList.map (·.born)).Nodup) (hkey : ∀ x ∈ es.toList, x.key = .string (strKey x)) (hsz : es.size ≤ 1000)
    (hb1 : w.cell? ⟨b1, 0, none⟩ = some (.map (some r))) (hr : w.heap[r]? = some (.map es clock)) :
    Calls Tryz.prog 34 #[.func (.func 90) #[] #[.pointer (some ⟨b1, 0, none⟩)]] w fun e w' => ∃ g' v' xs, e = .returned v' ∧ xs.Perm (es.toList.map strKey) ∧ Row w' g' 9 1 v' xs.length (scs (srtS xs)) ∧ w.heap.size ≤ g' ∧ Ext [] w w' := by
  have h := appendKeys b1 r es clock w hold hnd hkey hsz hb1 hr
  have h88 : Calls Tryz.prog 88 #[.func (.func 90) #[] #[.pointer (some ⟨b1, 0, none⟩)]] w fun e w' => ∃ g' v' xs, e = .returned v' ∧ xs.Perm (es.toList.map strKey) ∧ Row w' g' 9 1 v' xs.length (scs xs) ∧ w.heap.size ≤ g' ∧ Ext [] w w' := by
    go_enter Tryz.func88, Tryz.ntmps88
    go_wp2_with fail
    refine h.mono ?_
    rintro e w1 ⟨g', v', xs, rfl, hp, hr1, hg, hx⟩
    obtain ⟨A, c', rfl, _, _⟩ := hr1.form
    generalize hxl : xs.length = n at *
    have HX := Lib.hid hxl; clear hxl
    go_wp2_with fail
    go_ret
    exact ⟨g', _, xs, rfl, hp, by rw [HX.out]; exact hr1, hg, hx⟩
  clear h
  go_enter Tryz.func34, Tryz.ntmps34
  go_wp2_with fail
  refine h88.mono ?_
  rintro e w1 ⟨g', v', xs, rfl, hp, hr1, hg, hx⟩
  obtain ⟨A, c', rfl, _, _⟩ := hr1.form
  have hxs : xs.length ≤ 1000 := by rw [hp.length_eq]; simpa using hsz
  have hs := sort_any g' _ _ xs w1 hr1 hxs
  generalize hxl : xs.length = n at *
  have HX := Lib.hid hxl; clear hxl
  clear h88
  go_wp2_with fail
  refine hs.mono ?_
  rintro e w2 ⟨⟨v, rfl⟩, hr2, hx2⟩
  go_wp2_with fail
  go_ret
  exact ⟨g', _, xs, rfl, hp, by rw [HX.out]; exact hr2, hg, hx.step hx2 (by simp; omega)⟩
end Go.Proofs.YtfadbmfkidiaoaaGreatDoor
