/- Deeds with a queue: taken, back, Back, Revive. Deeds with a queue: back, Back, Revive, Finish. Deeds with a queue: Back, Revive, Finish. Deeds with a queue: Finish. -/
import Derived.Test.YtfadbmfkidiaoaaGreatDoorZ31
namespace Go.Proofs.YtfadbmfkidiaoaaGreatDoor
open Go.RowKit Go Go.MapKept
set_option linter.unusedSimpArgs false
set_option linter.unusedVariables false
set_option linter.unusedSectionVars false
set_option linter.unnecessarySimpa false

set_option maxRecDepth 100000 in
set_option maxHeartbeats 800000 in
theorem run_results_j {fn : Func} {p q : Tmp} (h : fn.results = #[.cell p 80, .tmp q]) (W : World) (tmps : Array Value) (B : Nat) (v0 v1 v2 v3 v4 v5 v6 x : Value) (h2 : tmps.getD p undef = .pointer (some ⟨B, 0, none⟩)) (h5 : tmps.getD q undef = x)
    (hb : W.heap[B]? = some (.cells #[v0, v1, v2, v3, v4, v5, v6] 80 (0, 0))) : (results fn tmps).run Tryz.prog W = .ok (.tuple #[.agg #[v0, v1, v2, v3, v4, v5, v6], x]) W := by
  obtain ⟨⟨c0, c1, c2, c3, c4, c5, c6⟩, _⟩ := cells7 hb
  rw [results_c2 h, h2, h5]
  go_simp
/-- what taken gives -/
def TakenPost (G : Nat → Option Jb) (who id : Nat) (e : Ending) : Prop :=
  (∃ c : Int, c ≠ 0 ∧ e = .returned (.tuple #[.agg #[.int .i64 0, .int .i64 0, .string ⟨#[]⟩, .int .i64 0, .int .i64 0, .int .i64 0, .int .i64 0], .int .i64 c])) ∨
  ∃ j, G id = some j ∧ e = .returned (.tuple #[.agg #[.int .i64 (j.id : Nat), .int .i64 (j.pr : Nat), .string j.body, .int .i64 (j.st : Nat), .int .i64 (j.tries : Nat), .int .i64 (j.who : Nat), .int .i64 (j.till : Nat)], .int .i64 0])
set_option maxRecDepth 100000 in
set_option maxHeartbeats 1600000 in
theorem taken_any (b bm g r : Nat) (G : Nat → Option Jb) (n last now who id : Nat) (w : World) (h : Qx w b bm g r G n last now) (hn : n ≤ 1000) (hM : MxL w) (h8 : 8 ≤ w.heap.size) (hw1 : 1 ≤ who) (hw2 : who ≤ 1000) (hok : ∀ i j, G i = some j → OkJ j) :
    Calls Tryz.prog 119 #[.pointer (some ⟨b, 0, none⟩), .int .i64 (who : Nat), .int .i64 (id : Nat)] w fun e w' => TakenPost G who id e ∧ Ext [] w w' := by
  have hx0 : Ext [] w (w.alloc (.cells #[.int .i64 0, .int .i64 0, .string ⟨#[]⟩, .int .i64 0, .int .i64 0, .int .i64 0, .int .i64 0] 80)) := (Ext.refl [] w).alloc _
  have hb := heap_alloc_new w (.cells #[.int .i64 0, .int .i64 0, .string ⟨#[]⟩, .int .i64 0, .int .i64 0, .int .i64 0, .int .i64 0] 80)
  have h0 := h.ext0 hx0
  have hno := qnone_x h0
  have hget := get_x h0 hn (hM.ext hx0 (by simp)) (by simp; omega) id
  have hw3 : ((who : Int) < 1) = False := by simp; omega
  have hw4 : ((1000 : Int) < who) = False := by simp; omega
  clear h h0 hM
  go_enter Tryz.func119, Tryz.ntmps119
  go_wp2_with fail
  refine hno.mono ?_
  rintro e w1 ⟨rfl, rfl⟩
  clear hno
  go_wp2_with fail
  refine hget.mono ?_
  rintro e w1 ⟨⟨hG, rfl⟩ | ⟨j, hG, rfl⟩, hx1⟩
  · have hb1 := hx1.keep hb (by simp)
    have hx2 : Ext [] w w1 := hx0.trans hx1
    have hb2 := ((Ext.refl [] w1).alloc (.cells #[.int .i64 0, .int .i64 0, .string ⟨#[]⟩, .int .i64 0, .int .i64 0, .int .i64 0, .int .i64 0] 80)).keep hb1 (by simp)
    obtain ⟨⟨a0, a1, a2, a3, a4, a5, a6⟩, e0, e1, e2, e3, e4, e5, e6⟩ := cells7 hb2
    clear hget
    go_wp2_with fail
    have h5 := setCells7 (a' := .int .i64 0) (b' := .int .i64 0) (c' := .string ⟨#[]⟩) (d' := .int .i64 0) (e' := .int .i64 0) (f' := .int .i64 0) (g' := .int .i64 0) hb2
    refine bodyPost_ret (run_results_j (fn := Tryz.f119) (p := 6) (q := 7) (by kernel_rfl) _ _ w.heap.size _ _ _ _ _ _ _ _ rfl rfl h5) rfl ?_
    exact ⟨.inl ⟨9, by decide, rfl⟩, (hx2.alloc _).set7 (.inr (Nat.le_refl _)) _ _ _ _ _ _ _⟩
  · have hoj := hok _ _ hG
    have hst := hoj.st
    obtain ⟨jid, pr, body, st, tries, jwho, till⟩ := j
    simp only at hst ⊢
    have hb1 := hx1.keep hb (by simp)
    have hx2 : Ext [] w w1 := hx0.trans hx1
    clear hget
    by_cases h1 : st = 2
    · subst h1
      have hb2 := ((Ext.refl [] w1).alloc (.cells #[.int .i64 (jid : Nat), .int .i64 (pr : Nat), .string body, .int .i64 2, .int .i64 (tries : Nat), .int .i64 (jwho : Nat), .int .i64 (till : Nat)] 80)).keep hb1 (by simp)
      have hb3 := heap_alloc_new w1 (.cells #[.int .i64 (jid : Nat), .int .i64 (pr : Nat), .string body, .int .i64 2, .int .i64 (tries : Nat), .int .i64 (jwho : Nat), .int .i64 (till : Nat)] 80)
      obtain ⟨⟨a0, a1, a2, a3, a4, a5, a6⟩, e0, e1, e2, e3, e4, e5, e6⟩ := cells7 hb2
      obtain ⟨⟨k0, k1, k2, k3, k4, k5, k6⟩, _⟩ := cells7 hb3
      by_cases h2 : jwho = who
      · subst h2
        go_wp2_with fail
        have h5 := setCells7 (a' := .int .i64 jid) (b' := .int .i64 pr) (c' := .string body) (d' := .int .i64 2) (e' := .int .i64 tries) (f' := .int .i64 jwho) (g' := .int .i64 till) hb2
        refine bodyPost_ret (run_results_j (fn := Tryz.f119) (p := 6) (q := 7) (by kernel_rfl) _ _ w.heap.size _ _ _ _ _ _ _ _ rfl rfl h5) rfl ?_
        exact ⟨.inr ⟨_, hG, rfl⟩, (hx2.alloc _).set7 (.inr (Nat.le_refl _)) _ _ _ _ _ _ _⟩
      · have h2' : ((jwho : Int) == who) = false := by rw [beq_eq_false_iff_ne]; omega
        go_wp2_with fail
        have h5 := setCells7 (a' := .int .i64 0) (b' := .int .i64 0) (c' := .string ⟨#[]⟩) (d' := .int .i64 0) (e' := .int .i64 0) (f' := .int .i64 0) (g' := .int .i64 0) hb2
        refine bodyPost_ret (run_results_j (fn := Tryz.f119) (p := 6) (q := 7) (by kernel_rfl) _ _ w.heap.size _ _ _ _ _ _ _ _ rfl rfl h5) rfl ?_
        exact ⟨.inl ⟨8, by decide, rfl⟩, (hx2.alloc _).set7 (.inr (Nat.le_refl _)) _ _ _ _ _ _ _⟩
    · have hb2 := ((Ext.refl [] w1).alloc (.cells #[.int .i64 (jid : Nat), .int .i64 (pr : Nat), .string body, .int .i64 (st : Nat), .int .i64 (tries : Nat), .int .i64 (jwho : Nat), .int .i64 (till : Nat)] 80)).keep hb1 (by simp)
      have hb3 := heap_alloc_new w1 (.cells #[.int .i64 (jid : Nat), .int .i64 (pr : Nat), .string body, .int .i64 (st : Nat), .int .i64 (tries : Nat), .int .i64 (jwho : Nat), .int .i64 (till : Nat)] 80)
      obtain ⟨⟨a0, a1, a2, a3, a4, a5, a6⟩, e0, e1, e2, e3, e4, e5, e6⟩ := cells7 hb2
      obtain ⟨⟨k0, k1, k2, k3, k4, k5, k6⟩, _⟩ := cells7 hb3
      have h1' : ((st : Int) == 2) = false := by rw [beq_eq_false_iff_ne]; omega
      go_wp2_with fail
      have h5 := setCells7 (a' := .int .i64 0) (b' := .int .i64 0) (c' := .string ⟨#[]⟩) (d' := .int .i64 0) (e' := .int .i64 0) (f' := .int .i64 0) (g' := .int .i64 0) hb2
      refine bodyPost_ret (run_results_j (fn := Tryz.f119) (p := 6) (q := 7) (by kernel_rfl) _ _ w.heap.size _ _ _ _ _ _ _ _ rfl rfl h5) rfl ?_
      exact ⟨.inl ⟨8, by decide, rfl⟩, (hx2.alloc _).set7 (.inr (Nat.le_refl _)) _ _ _ _ _ _ _⟩
end Go.Proofs.YtfadbmfkidiaoaaGreatDoor

namespace Go.Proofs.YtfadbmfkidiaoaaGreatDoor
open Go.RowKit Go Go.MapKept
set_option linter.unusedSimpArgs false
set_option linter.unusedVariables false
set_option linter.unusedSectionVars false
set_option linter.unnecessarySimpa false

def backJ (j : Jb) : Jb := ⟨j.id, j.pr, j.body, if 2 ≤ j.tries then 3 else 1, j.tries, 0, 0⟩
theorem backJ_ok {j : Jb} (h : OkJ j) : OkJ (backJ j) := by
  obtain ⟨h1, h2, h3, h4, h5, h6, h7, h8⟩ := h
  refine ⟨h1, h2, h3, ?_, h5, by simp [backJ], by simp [backJ], fun _ => rfl⟩
  simp only [backJ]; split <;> simp
set_option maxRecDepth 100000 in
set_option maxHeartbeats 1600000 in
theorem back_any (b bm g r : Nat) (G : Nat → Option Jb) (n last now : Nat) (w : World) (h : Qx w b bm g r G n last now) (hn : n ≤ 1000) (hM : MxL w) (h8 : 8 ≤ w.heap.size) (j : Jb) (hok : OkJ j) (hG : (G j.id).isSome = true) :
    Calls Tryz.prog 121 #[.pointer (some ⟨b, 0, none⟩), .agg #[.int .i64 (j.id : Nat), .int .i64 (j.pr : Nat), .string j.body, .int .i64 (j.st : Nat), .int .i64 (j.tries : Nat), .int .i64 (j.who : Nat), .int .i64 (j.till : Nat)]] w fun e w' => e = .returned (.int .i64 0) ∧ QPost b bm g r w (updG G j.id (some (backJ j))) n last now w' := by
  have hx0 : Ext [] w (w.alloc (.cells #[.int .i64 (j.id : Nat), .int .i64 (j.pr : Nat), .string j.body, .int .i64 (j.st : Nat), .int .i64 (j.tries : Nat), .int .i64 (j.who : Nat), .int .i64 (j.till : Nat)] 80)) := (Ext.refl [] w).alloc _
  have hb := heap_alloc_new w (.cells #[.int .i64 (j.id : Nat), .int .i64 (j.pr : Nat), .string j.body, .int .i64 (j.st : Nat), .int .i64 (j.tries : Nat), .int .i64 (j.who : Nat), .int .i64 (j.till : Nat)] 80)
  obtain ⟨_, e0, e1, e2, e3, e4, e5, e6⟩ := cells7 hb
  obtain ⟨⟨a0, a1, a2, a3, a4, a5, a6⟩, _⟩ := cells7 hb
  have hx3 : Ext [] w (w.alloc (.cells #[.int .i64 (j.id : Nat), .int .i64 (j.pr : Nat), .string j.body, .int .i64 1, .int .i64 (j.tries : Nat), .int .i64 0, .int .i64 0] 80)) := (Ext.refl [] w).alloc _
  have hb3 := heap_alloc_new w (.cells #[.int .i64 (j.id : Nat), .int .i64 (j.pr : Nat), .string j.body, .int .i64 1, .int .i64 (j.tries : Nat), .int .i64 0, .int .i64 0] 80)
  obtain ⟨W3, hW3⟩ : ∃ W3, W3 = w.alloc (.cells #[.int .i64 (j.id : Nat), .int .i64 (j.pr : Nat), .string j.body, .int .i64 1, .int .i64 (j.tries : Nat), .int .i64 0, .int .i64 0] 80) := ⟨_, rfl⟩
  rw [← hW3] at hx3 hb3
  have hset := fun W hx (hq : Qx W b bm g r G n last now) (st : Int) (hst : st = ((backJ j).st : Nat)) => set_x hq hn (hM.ext (hx : Ext [] w W) (by simp)) (by have := hx.size; omega) (backJ j) (backJ_ok hok) j.id j.pr st j.tries 0 0 rfl rfl hst rfl rfl rfl
  have hG' : (G (backJ j).id).isSome = true := hG
  simp only [hG', if_true] at hset
  have hq3 := h.ext0 hx3
  obtain ⟨_, _, c2, _⟩ := hq3.cells.1
  have hbd : (backJ j).body = j.body := rfl
  have hbi : (backJ j).id = j.id := rfl
  have hbs : (backJ j).st = if 2 ≤ j.tries then 3 else 1 := rfl
  rw [hbd, hbi] at hset
  rw [hbs] at hset
  have HB := Lib.hid (rfl : backJ j = backJ j)
  generalize backJ j = bj at *
  obtain ⟨jid, pr, body, st, tries, jwho, till⟩ := j
  simp only at hset hG ⊢
  simp only at hW3 hb hb3 a0 a1 a2 a3 a4 a5 a6 hx0
  obtain ⟨⟨k0, k1, k2, k3, k4, k5, k6⟩, f0, f1, f2, f3, f4, f5, f6⟩ := cells7 hb3
  by_cases ht : 2 ≤ tries
  · simp only [if_pos ht] at hset
    go_enter Tryz.func121, Tryz.ntmps121
    go_wp2_with fail
    rw [← hW3]
    clear hW3
    go_quiet (fail)
    have hxq : Ext [] W3 (W3.drewN nq) := Ext.drewN (Ext.refl [] W3) nq
    have hb4 := heap_setCell_same (W3.drewN nq) w.heap.size 3 _ 80 (.int .i64 3) (hxq.keep hb3 (by simp))
    have hx4 : Ext [] w ((W3.drewN nq).setCell ⟨w.heap.size, 3, none⟩ (.int .i64 3)) := (hx3.trans hxq).setCell (.inr (Nat.le_refl _)) _
    obtain ⟨⟨m0, m1, m2, m3, m4, m5, m6⟩, _⟩ := cells7 hb4
    have hs4 := hset _ hx4 (h.ext0 hx4) 3 (by simp)
    go_wp2_with fail
    refine hs4.mono ?_
    rintro e w9 ⟨rfl, hq9⟩
    go_wp2_with fail
    go_ret
    exact ⟨rfl, QPost.from hx4 hq9⟩
  · simp only [if_neg ht] at hset
    go_enter Tryz.func121, Tryz.ntmps121
    go_wp2_with fail
    rw [← hW3]
    clear hW3
    go_quiet (fail)
    have hxq : Ext [] w (W3.drewN nq) := Ext.drewN hx3 nq
    have hs4 := hset _ hxq (h.ext0 hxq) 1 (by simp)
    go_wp2_with fail
    refine hs4.mono ?_
    rintro e w9 ⟨rfl, hq9⟩
    go_wp2_with fail
    go_ret
    exact ⟨rfl, QPost.from hxq hq9⟩
end Go.Proofs.YtfadbmfkidiaoaaGreatDoor

namespace Go.Proofs.YtfadbmfkidiaoaaGreatDoor
open Go.RowKit Go Go.MapKept
set_option linter.unusedSimpArgs false
set_option linter.unusedVariables false
set_option linter.unusedSectionVars false
set_option linter.unnecessarySimpa false

theorem ne_lit {c : Int} (h : c ≠ 0) : (c == 0) = false := by rw [beq_eq_false_iff_ne]; exact h
set_option maxRecDepth 100000 in
set_option maxHeartbeats 1600000 in
theorem qback_any (b bm g r : Nat) (G : Nat → Option Jb) (n last now k who id : Nat) (w : World) (h : Qx w b bm g r G n last now) (hB : Bd G last now k) (hk : k ≤ 30) (hn : n ≤ 1000) (hM : MxL w) (h8 : 8 ≤ w.heap.size) (hw1 : 1 ≤ who) (hw2 : who ≤ 3) :
    Calls Tryz.prog 56 #[.pointer (some ⟨b, 0, none⟩), .int .i64 (who : Nat), .int .i64 (id : Nat)] w fun e w' => ∃ v, e = .returned v ∧ DPost b bm g r w k n n w' := by
  have htk := taken_any b bm g r G n last now who id w h hn hM h8 hw1 (by omega) (fun i j hj => (hB.job i j hj).1)
  go_enter Tryz.func56, Tryz.ntmps56
  go_wp2_with fail
  refine htk.mono ?_
  rintro e w1 ⟨⟨c, hc, rfl⟩ | ⟨j, hG, rfl⟩, hx1⟩
  · have hc' := ne_lit hc
    clear htk
    go_wp2_with fail
    go_ret
    exact ⟨_, rfl, _, _, _, _, QPost.more (QPost.refl h) (hx1.alloc _), hB.more (by have := hB.nowL; omega), Nat.le_refl _, Nat.le_refl _⟩
  · clear htk
    have hx2 : Ext [] w (w1.alloc (.cells #[.int .i64 (j.id : Nat), .int .i64 (j.pr : Nat), .string j.body, .int .i64 (j.st : Nat), .int .i64 (j.tries : Nat), .int .i64 (j.who : Nat), .int .i64 (j.till : Nat)] 80)) := hx1.alloc _
    obtain ⟨q1, q2, q3, q4, q5, q6⟩ := hB.job id j hG
    have hbk := back_any b bm g r G n last now _ (h.ext0 hx2) hn (hM.ext hx2 (by simp)) (by have := hx2.size; omega) j q1 (by rw [q2, hG]; rfl)
    have Q2 := Lib.hid q2; clear q2
    obtain ⟨⟨a0, a1, a2, a3, a4, a5, a6⟩, _⟩ := cells7 (heap_alloc_new w1 (.cells #[.int .i64 (j.id : Nat), .int .i64 (j.pr : Nat), .string j.body, .int .i64 (j.st : Nat), .int .i64 (j.tries : Nat), .int .i64 (j.who : Nat), .int .i64 (j.till : Nat)] 80))
    go_wp2_with fail
    refine hbk.mono ?_
    rintro e w3 ⟨rfl, hq⟩
    go_wp2_with fail
    go_ret
    refine ⟨_, rfl, _, _, _, _, QPost.from hx2 hq, (hB.more (by have := hB.nowL; omega)).upd (Nat.le_refl _) (by have := hB.lastL; omega) (backJ j) (backJ_ok q1) (by show j.id ≤ last; have := Q2.out; omega) (by show j.tries ≤ _; omega) (by show 0 ≤ 3; omega) (by show 0 ≤ _; omega), Nat.le_refl _, Nat.le_refl _⟩
set_option maxRecDepth 100000 in
set_option maxHeartbeats 1600000 in
theorem qrevive_any (b bm g r : Nat) (G : Nat → Option Jb) (n last now k id : Nat) (w : World) (h : Qx w b bm g r G n last now) (hB : Bd G last now k) (hk : k ≤ 30) (hn : n ≤ 1000) (hM : MxL w) (h8 : 8 ≤ w.heap.size) :
    Calls Tryz.prog 59 #[.pointer (some ⟨b, 0, none⟩), .int .i64 (id : Nat)] w fun e w' => ∃ v, e = .returned v ∧ DPost b bm g r w k n n w' := by
  have hget := get_x h hn hM h8 id
  go_enter Tryz.func59, Tryz.ntmps59
  go_wp2_with fail
  refine hget.mono ?_
  rintro e w1 ⟨⟨hG, rfl⟩ | ⟨j, hG, rfl⟩, hx1⟩
  · clear hget
    go_wp2_with fail
    go_ret
    exact ⟨_, rfl, _, _, _, _, QPost.more (QPost.refl h) (hx1.alloc _), hB.more (by have := hB.nowL; omega), Nat.le_refl _, Nat.le_refl _⟩
  · clear hget
    obtain ⟨q1, q2, q3, q4, q5, q6⟩ := hB.job id j hG
    obtain ⟨jid, pr, body, st, tries, jwho, till⟩ := j
    simp only at q2 q3 q4 q5 q6 ⊢
    by_cases h3 : st = 3
    · subst h3
      have hx2 : Ext [] w (w1.alloc (.cells #[.int .i64 (jid : Nat), .int .i64 (pr : Nat), .string body, .int .i64 1, .int .i64 0, .int .i64 (jwho : Nat), .int .i64 (till : Nat)] 80)) := hx1.alloc _
      have ok2 : OkJ ⟨jid, pr, body, 1, 0, jwho, till⟩ := ⟨q1.id, q1.pr, q1.body, .inl rfl, by simp, q1.who, q1.till, fun _ => q1.free (by simp)⟩
      have hset := set_x (h.ext0 hx2) hn (hM.ext hx2 (by simp)) (by have := hx2.size; omega) ⟨jid, pr, body, 1, 0, jwho, till⟩ ok2 jid pr 1 0 jwho till rfl rfl rfl rfl rfl rfl
      have hGs : (G jid).isSome = true := by rw [q2, hG]; rfl
      simp only [hGs, if_true] at hset
      have Q2 := Lib.hid q2; clear q2
      obtain ⟨⟨a0, a1, a2, a3, a4, a5, a6⟩, _⟩ := cells7 (heap_alloc_new w1 (.cells #[.int .i64 (jid : Nat), .int .i64 (pr : Nat), .string body, .int .i64 1, .int .i64 0, .int .i64 (jwho : Nat), .int .i64 (till : Nat)] 80))
      obtain ⟨⟨b0, b1, b2, b3, b4, b5, b6⟩, e0, e1, e2, e3, e4, e5, e6⟩ := cells7 (heap_alloc_new w1 (.cells #[.int .i64 (jid : Nat), .int .i64 (pr : Nat), .string body, .int .i64 3, .int .i64 (tries : Nat), .int .i64 (jwho : Nat), .int .i64 (till : Nat)] 80))
      go_wp2_with fail
      refine hset.mono ?_
      rintro e w3 ⟨rfl, hq⟩
      go_wp2_with fail
      go_ret
      exact ⟨_, rfl, _, _, _, _, QPost.from hx2 hq, (hB.more (by have := hB.nowL; omega)).upd (Nat.le_refl _) (by have := hB.lastL; omega) _ ok2 (by show jid ≤ last; have := Q2.out; omega) (by show 0 ≤ _; omega) (by show jwho ≤ 3; omega) (by show till ≤ _; omega), Nat.le_refl _, Nat.le_refl _⟩
    · clear q2
      have h3' : ((st : Int) == 3) = false := by rw [beq_eq_false_iff_ne]; omega
      obtain ⟨⟨b0, b1, b2, b3, b4, b5, b6⟩, e0, e1, e2, e3, e4, e5, e6⟩ := cells7 (heap_alloc_new w1 (.cells #[.int .i64 (jid : Nat), .int .i64 (pr : Nat), .string body, .int .i64 (st : Nat), .int .i64 (tries : Nat), .int .i64 (jwho : Nat), .int .i64 (till : Nat)] 80))
      go_wp2_with fail
      go_ret
      exact ⟨_, rfl, _, _, _, _, QPost.more (QPost.refl h) (hx1.alloc _), hB.more (by have := hB.nowL; omega), Nat.le_refl _, Nat.le_refl _⟩
end Go.Proofs.YtfadbmfkidiaoaaGreatDoor

namespace Go.Proofs.YtfadbmfkidiaoaaGreatDoor
open Go.RowKit Go Go.MapKept
set_option linter.unusedSimpArgs false
set_option linter.unusedVariables false
set_option linter.unusedSectionVars false
set_option linter.unnecessarySimpa false

theorem Qu.look_val {w : World} {b bm g r : Nat} {L : Pairs} {F : Nat → Option ByteArray} {last now : Nat} (h : Qu w b bm g r L F last now) {i : Nat} {k : ByteArray} (hk : F i = some k) :
    (Instr.lookup 126 (.map (some r)) (.int .i64 (i : Nat)) false).run Tryz.prog w = .ok (.string k) w := by
  obtain ⟨_, _, ⟨M, hM, hK⟩, _⟩ := h
  have := hM.lookup_yes (P := Tryz.prog) (mt := 126) (kt := 3) (e := 9) Tryz.underlying126 Tryz.underlying3 (k := .int .i64 (i : Nat)) (v := .string k) rfl (hK.2 i k hk) false
  simpa using this
set_option maxRecDepth 100000 in
set_option maxHeartbeats 1600000 in
theorem qfinish_any (b bm g r : Nat) (G : Nat → Option Jb) (n last now k who id : Nat) (w : World) (h : Qx w b bm g r G n last now) (hB : Bd G last now k) (hk : k ≤ 30) (hn : n ≤ 1000) (hM : MxL w) (h8 : 8 ≤ w.heap.size) (hw1 : 1 ≤ who) (hw2 : who ≤ 3) :
    Calls Tryz.prog 55 #[.pointer (some ⟨b, 0, none⟩), .int .i64 (who : Nat), .int .i64 (id : Nat)] w fun e w' => ∃ v, e = .returned v ∧ DPost b bm g r w k 0 n w' := by
  have htk := taken_any b bm g r G n last now who id w h hn hM h8 hw1 (by omega) (fun i j hj => (hB.job i j hj).1)
  go_enter Tryz.func55, Tryz.ntmps55
  go_wp2_with fail
  refine htk.mono ?_
  rintro e w1 ⟨⟨c, hc, rfl⟩ | ⟨j, hG, rfl⟩, hx1⟩
  · have hc' := ne_lit hc
    clear htk
    go_wp2_with fail
    go_ret
    exact ⟨_, rfl, _, _, _, _, QPost.more (QPost.refl h) (hx1.alloc _), hB.more (by have := hB.nowL; omega), Nat.zero_le _, Nat.le_refl _⟩
  · clear htk
    have hok := (hB.job id j hG).1
    have hks := keyJ_size hok
    have hx2 : Ext [] w (w1.alloc (.cells #[.int .i64 (j.id : Nat), .int .i64 (j.pr : Nat), .string j.body, .int .i64 (j.st : Nat), .int .i64 (j.tries : Nat), .int .i64 (j.who : Nat), .int .i64 (j.till : Nat)] 80)) := hx1.alloc _
    have h2 := h.ext0 hx2
    go_wp2_with fail
    generalize (w1.alloc (.cells #[.int .i64 (j.id : Nat), .int .i64 (j.pr : Nat), .string j.body, .int .i64 (j.st : Nat), .int .i64 (j.tries : Nat), .int .i64 (j.who : Nat), .int .i64 (j.till : Nat)] 80)) = W2 at *
    have hlt := h2.lt
    obtain ⟨⟨a0, a1, _⟩, _⟩ := h2.cells
    obtain ⟨L, q1, q2, q3⟩ := h2
    have hlk := (q1.ext (Ext.refl [] W2).drew (by simp) (by simp) (by simp) (by simp)).look_val (i := id) (k := keyJ j) (by simp [FG, hG])
    have hdl := fun W (hx : Ext [] W2 W) => delete_yes bm g L (keyJ j) W (q1.mdl.ext hx (by simp) (by simp)) (by omega) q2.srt hks.1 hks.2 (q2.has hG)
    obtain ⟨M, hM2, hK2⟩ := q1.mp
    have hKd := fun M' => hK2.del (M' := M') id
    have hblk := q1.blk
    have hnd := q1.nd
    have hlo := q1.lo
    have hlo2 := q1.lo'
    have hdel := q2.del hG
    have hlen := delL_len (q2.has hG)
    have HD := Lib.hid hdel
    have HQ := Lib.hid q3
    clear q1 q2 q3 hK2 hdel
    go_region_with ((go_at_call 120; refine (hdl _ (by first | exact (Ext.refl [] _).drew | exact Ext.refl [] _ | exact Ext.drewN (Ext.refl [] _) _)).mono ?_; rintro e w3 ⟨rfl, hm3, hx3⟩))
    all_goals (
      have hx23 : Ext [bm, g] W2 w3 := (Ext.mono ((Ext.refl [] W2).drew) (by simp)).trans hx3
      have hb3 := hx23.keep hblk (by simp; omega)
      have hM3 := hM2.ext hx23 (by simp; omega)
      obtain ⟨w5, M5, hup1, hm5, hmm5, hxu⟩ := Mp.del (P := Tryz.prog) (mt := 126) (kt := 3) (e := 9) Tryz.underlying126 Tryz.underlying3 hM3 (k := .int .i64 (id : Nat)) 3 0 rfl
      have HK := Lib.hid (hKd M5 hmm5)
      have d1 : w3.cell? ⟨b, 1, none⟩ = some (.map (some r)) := cell_of_row _ _ 1 _ _ _ hb3
      clear hdl hKd hlk a0 a1 hmm5
      go_wp2_with fail
      go_ret
      have e1 : Ext [b, bm, g, r] w W2 := hx2.mono (by simp)
      have e2 : Ext [b, bm, g, r] W2 w3 := hx23.mono (by first | simp | (intro x hx; simp at hx ⊢; omega))
      have e3 : Ext [b, bm, g, r] w3 w5 := hxu.mono (by first | simp | (intro x hx; simp at hx ⊢; omega))
      refine ⟨_, rfl, _, _, _, _, ⟨g, ⟨_, ⟨hxu.keep hb3 (by simp; omega), hm3.ext hxu (by simp; omega) (by simp; omega), ⟨_, hm5, HK.out⟩, hnd, hlo, hlo2⟩, HD.out, rfl⟩, .inl rfl, (e1.trans e2).trans e3⟩, (hB.more (by have := hB.nowL; omega)).del, Nat.zero_le _, by have := HQ.out; omega⟩)
end Go.Proofs.YtfadbmfkidiaoaaGreatDoor
