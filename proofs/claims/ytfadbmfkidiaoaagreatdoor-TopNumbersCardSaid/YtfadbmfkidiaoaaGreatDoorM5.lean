/- The plain map of the program, fifth part: a pair put to a place; Put, Insert. -/
import Derived.Test.YtfadbmfkidiaoaaGreatDoorM4
import Derived.Deep.RegionLaw
namespace Go.Proofs.YtfadbmfkidiaoaaGreatDoor
open Go.RowKit Go
set_option linter.unusedSimpArgs false
set_option linter.unusedVariables false
set_option linter.unusedSectionVars false
set_option linter.unnecessarySimpa false

/-- slices.Insert of one pair, which lies in a block of its own -/
theorem insert_any (g gx : Nat) (s : Value) (i : Nat) (l : Pairs) (p : ByteArray × ByteArray) (w : World) (hr : Row w g 77 2 s l.length (pcs l)) (hn : l.length ≤ 1000000) (hi : i ≤ l.length) (hgx : gx ≠ g)
    (hgb : w.heap[gx]? = some (.cells #[.string p.1, .string p.2] 77 (0, 0))) :
    Calls Tryz.prog 141 #[s, .int .i64 i, .slice (some ⟨gx, 0, none⟩) 1 1] w fun e w' => ∃ g' v', e = .returned v' ∧ Row w' g' 77 2 v' (l.length + 1) (pcs (ins l i p)) ∧ (g' = g ∨ w.heap.size ≤ g') ∧ Ext [g] w w' := by
  have hv : Vw w gx 77 2 (.slice (some ⟨gx, 0, none⟩) 1 1) 1 (pcs [p]) := by
    have := Vw.of_block (c := 1) (sz := 2) hgb rfl (by simp [maxLen]) 0 1 (by omega)
    simpa [pcs] using this
  rcases Nat.lt_or_ge i l.length with h | h
  · rcases hr.split with ⟨rfl, h0, _⟩ | ⟨c, cur, rfl, hnc, hcm, _⟩
    · omega
    · rcases Nat.lt_or_ge c (l.length + 1) with h2 | h2
      · exact insert_grow g gx c i l p w hr hv hn h h2
      · exact insert_room g gx c i l p w hr hv hn h h2 hgx hgb
  · obtain rfl : i = l.length := by omega
    have := insert_end g gx s l p w hr hv hn
    rwa [show ins l l.length p = l ++ [p] by simp [ins]]

theorem ins_len (l : Pairs) (i : Nat) (p : ByteArray × ByteArray) : (ins l i p).length = l.length + 1 := by
  simp [ins]; omega

theorem mdl_store {w1 : World} {b g' n c : Nat} {l' : Pairs} {x : Value} (hb : w1.heap[b]? = some (.cells #[x] 34 (0, 0))) (hr : Row w1 g' 77 2 (.slice (some ⟨g', 0, none⟩) n c) n (pcs l')) (hne : g' ≠ b) (h8 : 8 ≤ b) (h8' : 8 ≤ g') (hn : l'.length = n) :
    Mdl (w1.setCell ⟨b, 0, none⟩ (.slice (some ⟨g', 0, none⟩) n c)) b g' l' := by
  obtain ⟨cur, hc, _⟩ := hr.grown
  have hx : Ext [b] w1 (w1.setCell ⟨b, 0, none⟩ (.slice (some ⟨g', 0, none⟩) n c)) := (Ext.refl [b] w1).setCell (.inl (by simp)) _
  subst hn
  exact ⟨⟨_, one_setCell hb, hr.ext hx (by simpa using hne)⟩, Nat.lt_of_lt_of_le (lt_of_block hc) hx.size, h8, h8'⟩

theorem pcs_set (l : Pairs) (i : Nat) (p : ByteArray × ByteArray) : ((pcs l).set (i * 2) (.string p.1)).set (i * 2 + 1) (.string p.2) = pcs (l.set i p) := by
  induction l generalizing i with
  | nil => simp [pcs]
  | cons q l ih =>
    cases i with
    | zero => simp [pcs]
    | succ i =>
      have := ih i
      simp only [pcs, List.flatMap_cons, List.set_cons_succ, List.cons_append, List.nil_append, show (i + 1) * 2 = i * 2 + 1 + 1 by omega] at this ⊢
      rw [this]

/-- a pair written into a block of pairs -/
theorem row_set {W : World} {g c : Nat} {cur : Array Value} {l : Pairs} (hb : W.heap[g]? = some (.cells cur 77 (0, 0))) (hs : cur.size = c * 2) (hn : l.length ≤ c) (hc : c ≤ maxLen) (ht : cur.toList.take (l.length * 2) = pcs l) (i : Nat) (p : ByteArray × ByteArray) :
    Row ((W.setCell ⟨g, i * 2, none⟩ (.string p.1)).setCell ⟨g, i * 2 + 1, none⟩ (.string p.2)) g 77 2 (.slice (some ⟨g, 0, none⟩) l.length c) l.length (pcs (l.set i p)) := by
  have h1 := heap_setCell_same W g (i * 2) cur 77 (.string p.1) hb
  have h2 := heap_setCell_same _ g (i * 2 + 1) _ 77 (.string p.2) h1
  refine .at_ _ (by rw [pcs_len]; simp) hn hc h2 (by simp [hs]) ?_
  rw [Array.toList_setIfInBounds, Array.toList_setIfInBounds, List.take_set, List.take_set, ht, pcs_set]

def SetPost (b g : Nat) (l' : Pairs) (w : World) (e : Ending) (w' : World) : Prop :=
  e = .returned (.int .i64 0) ∧ ∃ g', Mdl w' b g' l' ∧ (g' = g ∨ w.heap.size ≤ g') ∧ Ext [b, g] w w'

set_option maxRecDepth 100000 in
set_option maxHeartbeats 1600000 in
/-- a new pair -/
theorem set_new (b g : Nat) (l : Pairs) (i : Nat) (p : ByteArray × ByteArray) (w : World) (hm : Mdl w b g l) (hn : l.length < 20000) (hi : i ≤ l.length) :
    Calls Tryz.prog 92 #[.pointer (some ⟨b, 0, none⟩), .int .i64 i, .bool false, .agg #[.string p.1, .string p.2]] w (SetPost b g (ins l i p) w) := by
  have h8 := hm.lo
  have h8' := hm.lo'
  obtain ⟨v, gi, hb, hr, hgb, hgx, hgg⟩ := hm.other (w.heap.size + 1) (by omega)
  clear hm
  obtain ⟨A, c, rfl, hA, hc⟩ := hr.form
  clear hA
  have hc0 := cell_of_one hb
  have hbl := lt_of_block hb
  have hfull : ((l.length : Int) == 20000) = false := by simp; omega
  obtain ⟨W1, hW1⟩ : ∃ W1, ((w.alloc (.cells #[.string p.1, .string p.2] 77)).alloc (.cells #[.string p.1, .string p.2] 77)).drew = W1 := ⟨_, rfl⟩
  have hx0 : Ext [] w W1 := by rw [← hW1]; exact (((Ext.refl [] w).alloc _).alloc _).drew
  have hr1 := hr.ext hx0 (by simp)
  have hb1 := hx0.keep hb (by simp)
  have hgx1 : W1.heap[w.heap.size + 1]? = some (.cells #[.string p.1, .string p.2] 77 (0, 0)) := by
    rw [← hW1, heap_drew]; exact heap_alloc2_new w _ _
  have hins := insert_any gi (w.heap.size + 1) _ i l p W1 hr1 (by omega) hi (Ne.symm hgx) hgx1
  have hsz := hx0.size
  rw [← hW1] at hins
  clear hgx1
  have HI := Lib.hid hins; clear hins
  have HW := Lib.hid hW1; clear hW1
  clear hr1
  go_enter Tryz.func92, Tryz.ntmps92
  go_wp2_with fail
  go_region_with (go_at_call 141; refine HI.out.mono ?_; rintro e w1 ⟨g', v', rfl, hr2, hg, hx⟩; obtain ⟨A', c', rfl, hA', _⟩ := hr2.form; obtain rfl := hA' (by omega); clear hA'; rw [HW.out] at hx hg; have hb2 := hx.keep hb1 (by simpa using Ne.symm hgb); have hc2 := cell_of_one hb2; have hf2 := free_of_one hb2)
  all_goals
    go_wp2
    go_ret
    refine ⟨rfl, g', mdl_store hb2 hr2 (by omega) h8 (by omega) (by rw [ins_len]), by omega, ?_⟩
    refine ((hx0.mono (by simp)).step hx ?_).setCell (.inl (by simp)) _
    intro x hx'
    simp only [List.mem_singleton] at hx'
    subst hx'
    rcases hgg with h | h
    · exact .inl (by simp [h])
    · exact .inr h

set_option maxRecDepth 100000 in
set_option maxHeartbeats 1600000 in
/-- another value for a key that is there -/
theorem set_old (b g : Nat) (l : Pairs) (i : Nat) (p : ByteArray × ByteArray) (w : World) (hm : Mdl w b g l) (hi : i < l.length) (hn : l.length ≤ 1000000) :
    Calls Tryz.prog 92 #[.pointer (some ⟨b, 0, none⟩), .int .i64 i, .bool true, .agg #[.string p.1, .string p.2]] w (SetPost b g (l.set i p) w) := by
  obtain ⟨⟨v, hb, hr⟩, hlt, h8, h8'⟩ := hm
  rcases hr.split with ⟨rfl, h0, _⟩ | ⟨c, cur, rfl, hnc, hcm, hcur, hs, htk⟩
  · omega
  obtain ⟨W1, hW1⟩ : ∃ W1, w.alloc (.cells #[.string p.1, .string p.2] 77) = W1 := ⟨_, rfl⟩
  have hx0 : Ext [] w W1 := by rw [← hW1]; exact (Ext.refl [] w).alloc _
  have hbl := lt_of_block hb
  have hsz : w.heap.size < W1.heap.size := by rw [← hW1]; simp
  have hcx := cell_of_row W1 w.heap.size 0 #[.string p.1, .string p.2] 77 (0, 0) (by rw [← hW1]; exact heap_alloc_new w _)
  have hcy := cell_of_row W1 w.heap.size 1 #[.string p.1, .string p.2] 77 (0, 0) (by rw [← hW1]; exact heap_alloc_new w _)
  simp at hcx hcy
  have hb := hx0.keep hb (by simp)
  have hcur := hx0.keep hcur (by simp)
  have hr := hr.ext hx0 (by simp)
  have hc0 := cell_of_one hb
  obtain ⟨h1, h2⟩ := hr.vw.pair i hi
  simp only [Nat.zero_add] at h1 h2
  have hf1 : W1.frozen? ⟨g, i * 2, none⟩ = false := frozen_of_row W1 g _ cur 77 hcur
  have hf2 : W1.frozen? ⟨g, i * 2 + 1, none⟩ = false := frozen_of_row W1 g _ cur 77 hcur
  have HW := Lib.hid hW1; clear hW1
  go_enter Tryz.func92, Tryz.ntmps92
  go_wp2_with fail
  rw [HW.out]
  go_still_tail 6, (by kernel_rfl)
  change wpList _ _ _ _ _ W1.drew
  go_wp2
  go_ret
  have hE : Ext [g] W1 ((W1.setCell ⟨g, i * 2, none⟩ (.string p.1)).setCell ⟨g, i * 2 + 1, none⟩ (.string p.2)).drew := (((Ext.refl [g] W1).setCell (.inl (by simp)) _).setCell (.inl (by simp)) _).drew
  have hgb : b ≠ g := by rintro rfl; rw [hb] at hcur; cases hcur
  refine ⟨rfl, g, ⟨⟨_, hE.keep hb (by simpa using hgb), ?_⟩, ?_, h8, h8'⟩, .inl rfl, (hx0.mono (by simp)).step hE (by simp)⟩
  · have := row_set hcur hs hnc hcm htk i p
    rw [List.length_set]
    exact this.ext ((Ext.refl [] _).drew) (by simp)
  · exact Nat.lt_of_lt_of_le (lt_of_block hcur) hE.size
end Go.Proofs.YtfadbmfkidiaoaaGreatDoor
