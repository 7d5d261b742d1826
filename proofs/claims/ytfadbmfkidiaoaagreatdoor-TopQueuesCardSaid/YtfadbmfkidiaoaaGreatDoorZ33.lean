/- Deeds with a queue: the jobs of a state; Jobs; Take. Deeds with a queue: Take. Deeds with a queue: Pass; a deed. -/
import Derived.Test.YtfadbmfkidiaoaaGreatDoorZ32
namespace Go.Proofs.YtfadbmfkidiaoaaGreatDoor
open Go.RowKit Go Go.MapKept
set_option linter.unusedSimpArgs false
set_option linter.unusedVariables false
set_option linter.unusedSectionVars false
set_option linter.unnecessarySimpa false

theorem uB_1 : uB 1 = [1, 1] := by simp [uB, dgB, dgR]
theorem uB_2 : uB 2 = [1, 2] := by simp [uB, dgB, dgR]
theorem in1_x {W0 : World} {b bm g r : Nat} {G : Nat → Option Jb} {n last now : Nat} (h : Qx W0 b bm g r G n last now) (hn : n ≤ 1000) (hM : MxL W0) (h8 : 8 ≤ W0.heap.size) (s : Nat) (hs : s = 1 ∨ s = 2) :
    Calls Tryz.prog 66 #[.pointer (some ⟨b, 0, none⟩), .slice (some ⟨W0.heap.size, 0, none⟩) 1 1] (W0.alloc (.cells #[.int .i64 1, .int .u64 (s : Nat), .int .i64 0, .string eS, .bool false] 93)) fun e w' =>
      ∃ g' v' ms, e = .returned v' ∧ Row w' g' 80 7 v' ms.length (jcs ms) ∧ (∀ j ∈ ms, OkJ j ∧ G j.id = some j) ∧ ms.length ≤ n ∧ W0.heap.size ≤ g' ∧ Ext [] W0 w' := by
  have hx : Ext [] W0 (W0.alloc (.cells #[.int .i64 1, .int .u64 (s : Nat), .int .i64 0, .string eS, .bool false] 93)) := (Ext.refl [] W0).alloc _
  have hr := Row.new W0 93 5 #[.int .i64 1, .int .u64 (s : Nat), .int .i64 0, .string eS, .bool false] 1 1 (by omega) (by simp [maxLen]) rfl
  have h1 := h.ext0 hx
  obtain ⟨L, q1, q2, q3⟩ := h1
  obtain ⟨js, hj⟩ := q2.list
  have hok : OkCs [cU s] := by
    intro c hc
    simp only [List.mem_singleton] at hc
    exact .inl ⟨s, hc, by omega⟩
  have hP : ∃ (P : List UInt8) (bb : UInt8), UInt8.ofNat 1 :: csB [cU s] = P ++ [bb] ∧ bb.toNat < 255 := by
    rcases hs with rfl | rfl
    · exact ⟨[1, 1], 1, by simp [csB, clB_u, uB_1], by decide⟩
    · exact ⟨[1, 1], 2, by simp [csB, clB_u, uB_2], by decide⟩
  obtain ⟨P, bb, hP1, hP2⟩ := hP
  have hlen : (csB [cU s]).length ≤ 23 := by
    have := uB_len (n := s) (k := 1) (by omega)
    simp only [csB, List.flatMap_cons, List.flatMap_nil, List.append_nil, clB_u]; omega
  refine (in_any b bm g r G last now _ L q1 js hj (by omega) (hM.ext hx (by simp)) (by have := hx.size; omega) W0.heap.size _ [cU s] rfl (by simp) hr.vw hok (by simp) hlen P bb hP1 hP2 _ rfl).mono ?_
  rintro e w' ⟨g', v', rfl, hr', hg', hx'⟩
  refine ⟨g', v', _, rfl, hr', fun j hj' => hj.ok j ((List.mem_filter.1 hj').1), ?_, ?_, hx.trans hx'⟩
  · refine Nat.le_trans (List.length_filter_le _ _) ?_
    have := congrArg List.length hj.eq
    rw [List.length_map] at this; omega
  · simp only [World.size_alloc] at hg'; omega
set_option maxRecDepth 100000 in
set_option maxHeartbeats 1600000 in
theorem jobs_any (b bm g r : Nat) (G : Nat → Option Jb) (last now : Nat) (w : World) (L : Pairs) (h : Qu w b bm g r L (FG G) last now) (js : List Jb) (hj : JLs L G js) (hn : L.length ≤ 1000) (hM : MxL w) (h8 : 8 ≤ w.heap.size) :
    Calls Tryz.prog 20 #[.pointer (some ⟨b, 0, none⟩)] w fun e w' => ∃ g' v', e = .returned v' ∧ Row w' g' 80 7 v' js.length (jcs js) ∧ w.heap.size ≤ g' ∧ Ext [] w w' := by
  have hno := qnone_any _ _ _ _ _ _ _ _ _ h
  have hin := in_any b bm g r G last now w L h js hj hn hM h8 0 (.slice none 0 0) [] rfl (by simp) .nil (fun c hc => by cases hc) (by omega) (by simp [csB]) [] 1 rfl (by decide) _ rfl
  have hf : js.filter (fun j => selK (keyB 1 []) ⟨([] ++ [(1 : UInt8) + 1]).toArray⟩ (keyJ j)) = js := by
    rw [List.filter_eq_self]
    intro j hj
    rw [sel_byte (keyJ_bl j) (n := 1) (m := 2) (by rw [keyB_bl]; rfl) rfl rfl]; rfl
  rw [hf] at hin
  go_enter Tryz.func20, Tryz.ntmps20
  go_wp2_with fail
  refine hno.mono ?_
  rintro e w1 ⟨rfl, rfl⟩
  clear hno
  go_wp2_with fail
  refine hin.mono ?_
  rintro e w1 ⟨g', v', rfl, hr', hg', hx'⟩
  go_wp2_with fail
  go_ret
  exact ⟨g', v', rfl, hr', hg', hx'⟩
end Go.Proofs.YtfadbmfkidiaoaaGreatDoor

namespace Go.Proofs.YtfadbmfkidiaoaaGreatDoor
open Go.RowKit Go Go.MapKept
set_option linter.unusedSimpArgs false
set_option linter.unusedVariables false
set_option linter.unusedSectionVars false
set_option linter.unnecessarySimpa false

theorem drew_heapQ (W : World) : W.drew.heap = W.heap := rfl
theorem take4_new {W : World} {B : Nat} {a b c d e f g x3 x5 x6 x4 : Value} (hb : W.heap[B]? = some (.cells #[a, b, c, d, e, f, g] 80 (0, 0))) :
    ∃ W3, W3 = ((((W.setCell ⟨B, 3, none⟩ x3).setCell ⟨B, 5, none⟩ x5).setCell ⟨B, 6, none⟩ x6).setCell ⟨B, 4, none⟩ x4).drew ∧ W3.heap[B]? = some (.cells #[a, b, c, x3, x4, x5, x6] 80 (0, 0)) ∧ Ext [B] W W3 := by
  have h1 := heap_setCell_same W B 3 _ 80 x3 hb
  have h2 := heap_setCell_same (W.setCell ⟨B, 3, none⟩ x3) B 5 _ 80 x5 h1
  have h3 := heap_setCell_same ((W.setCell ⟨B, 3, none⟩ x3).setCell ⟨B, 5, none⟩ x5) B 6 _ 80 x6 h2
  have h4 := heap_setCell_same (((W.setCell ⟨B, 3, none⟩ x3).setCell ⟨B, 5, none⟩ x5).setCell ⟨B, 6, none⟩ x6) B 4 _ 80 x4 h3
  have hx : Ext [B] W ((((W.setCell ⟨B, 3, none⟩ x3).setCell ⟨B, 5, none⟩ x5).setCell ⟨B, 6, none⟩ x6).setCell ⟨B, 4, none⟩ x4) := ((((Ext.refl [B] W).setCell (.inl List.mem_cons_self) _).setCell (.inl List.mem_cons_self) _).setCell (.inl List.mem_cons_self) _).setCell (.inl List.mem_cons_self) _
  refine ⟨_, rfl, ?_, hx.drew⟩
  rw [drew_heapQ]; exact h4
set_option maxRecDepth 100000 in
set_option maxHeartbeats 3200000 in
theorem qtake_any (b bm g r : Nat) (G : Nat → Option Jb) (n last now k who ticks : Nat) (w : World) (h : Qx w b bm g r G n last now) (hB : Bd G last now k) (hk : k ≤ 30) (hn : n ≤ 1000) (hM : MxL w) (h8 : 8 ≤ w.heap.size) (hw1 : 1 ≤ who) (hw2 : who ≤ 3) (ht1 : 1 ≤ ticks) (ht2 : ticks ≤ 256) :
    Calls Tryz.prog 54 #[.pointer (some ⟨b, 0, none⟩), .int .i64 (who : Nat), .int .i64 (ticks : Nat)] w fun e w' => ∃ v, e = .returned v ∧ DPost b bm g r w k n n w' := by
  have hnow := hB.nowL
  have hx0 : Ext [] w (w.alloc (.cells #[.int .i64 0, .int .i64 0, .string ⟨#[]⟩, .int .i64 0, .int .i64 0, .int .i64 0, .int .i64 0] 80)) := (Ext.refl [] w).alloc _
  have hb := heap_alloc_new w (.cells #[.int .i64 0, .int .i64 0, .string ⟨#[]⟩, .int .i64 0, .int .i64 0, .int .i64 0, .int .i64 0] 80)
  have h0 := h.ext0 hx0
  have hno := qnone_x h0
  obtain ⟨⟨_, _, _, _, c4⟩, _⟩ := h0.cells
  have hw3 : ((who : Int) < 1) = False := by simp; omega
  have hw4 : ((1000 : Int) < who) = False := by simp; omega
  have hw5 : ((ticks : Int) < 1) = False := by simp; omega
  have hw6 : ((1099511627776 : Int) - now < ticks) = False := by simp; omega
  go_enter Tryz.func54, Tryz.ntmps54
  go_wp2_with fail
  refine hno.mono ?_
  rintro e w1 ⟨rfl, rfl⟩
  clear hno
  go_wp2_with fail
  refine (num118_x 1 _ (by omega)).mono ?_
  rintro e w1 ⟨rfl, hx1⟩
  have hx01 := hx0.trans hx1
  have hin := in1_x (h.ext0 hx01) hn (hM.ext hx01 (by simp)) (by have := hx01.size; omega) 1 (.inl rfl)
  have hb1 := hx1.keep hb (by simp)
  go_wp2_with fail
  refine hin.mono ?_
  rintro e w2 ⟨g2, v2, ms, rfl, hr2, hms, hml, hg2, hx2⟩
  clear hin c4
  have hx02 := hx01.trans hx2
  have hb2 := hx2.keep hb1 (by simp)
  obtain ⟨A2, c2, rfl, hA2, hc2⟩ := hr2.form
  obtain ⟨⟨a0, a1, a2, a3, a4, a5, a6⟩, e0, e1, e2, e3, e4, e5, e6⟩ := cells7 hb2
  cases ms with
  | nil =>
    rw [List.length_nil] at *
    go_wp2_with fail
    have h5 := setCells7 (a' := .int .i64 0) (b' := .int .i64 0) (c' := .string ⟨#[]⟩) (d' := .int .i64 0) (e' := .int .i64 0) (f' := .int .i64 0) (g' := .int .i64 0) hb2
    refine bodyPost_ret (run_results_j (fn := Tryz.f54) (p := 6) (q := 7) (by kernel_rfl) _ _ w.heap.size _ _ _ _ _ _ _ _ rfl rfl h5) rfl ?_
    exact ⟨_, rfl, _, _, _, _, QPost.more (QPost.refl h) (hx02.set7 (.inr (Nat.le_refl _)) _ _ _ _ _ _ _), hB.more (by omega), Nat.le_refl _, Nat.le_refl _⟩
  | cons j ms =>
    rw [List.length_cons] at *
    obtain rfl := hA2 (by omega)
    have hv2 := hr2.vw
    obtain ⟨hok, hG⟩ := hms j (List.mem_cons_self ..)
    obtain ⟨q1, q2, q3, q4, q5, q6⟩ := hB.job _ j hG
    obtain ⟨jid, pr, body, st, tries, jwho, till⟩ := j
    simp only at q2 q3 q4 q5 q6 hG
    have hcs : ∀ i v, (jC ⟨jid, pr, body, st, tries, jwho, till⟩)[i]? = some v → w2.cell? ⟨g2, i, none⟩ = some v := by
      intro i v hi
      cases hv2 with
      | at_ hl hn' hc' hcell hty =>
        have := hcell i v (by
          show (jC _ ++ jcs ms)[i]? = some v
          rw [List.getElem?_append_left (List.getElem?_eq_some_iff.1 hi).1]; exact hi)
        rwa [Nat.zero_add] at this
    have p0 := hcs 0 _ rfl
    have p1 := hcs 1 _ rfl
    have p2 := hcs 2 _ rfl
    have p3 := hcs 3 _ rfl
    have p4 := hcs 4 _ rfl
    have p5 := hcs 5 _ rfl
    have p6 := hcs 6 _ rfl
    clear hcs hv2 hr2 hms q2
    have hnb := heap_alloc_new w2 (.cells #[.int .i64 (jid : Nat), .int .i64 (pr : Nat), .string body, .int .i64 (st : Nat), .int .i64 (tries : Nat), .int .i64 (jwho : Nat), .int .i64 (till : Nat)] 80)
    have hx3 : Ext [] w2 (w2.alloc (.cells #[.int .i64 (jid : Nat), .int .i64 (pr : Nat), .string body, .int .i64 (st : Nat), .int .i64 (tries : Nat), .int .i64 (jwho : Nat), .int .i64 (till : Nat)] 80)) := (Ext.refl [] w2).alloc _
    go_wp2_with fail
    generalize (w2.alloc (.cells #[.int .i64 (jid : Nat), .int .i64 (pr : Nat), .string body, .int .i64 (st : Nat), .int .i64 (tries : Nat), .int .i64 (jwho : Nat), .int .i64 (till : Nat)] 80)) = W3 at *
    have hx03 := hx02.trans hx3
    have h3 := h.ext0 hx03
    obtain ⟨⟨_, _, _, _, c4⟩, _⟩ := h3.cells
    clear a0 a1 a2 a3 a4 a5 a6 e0 e1 e2 e3 e4 e5 e6
    obtain ⟨⟨a0, a1, a2, a3, a4, a5, a6⟩, e0, e1, e2, e3, e4, e5, e6⟩ := cells7 hnb
    obtain ⟨W4, hW4, hb4, hx4⟩ := take4_new (x3 := .int .i64 2) (x5 := .int .i64 (who : Nat)) (x6 := .int .i64 ((now : Int) + ticks)) (x4 := .int .i64 ((tries : Int) + 1)) hnb
    have s1 : IntKind.i64.wrap ((now : Int) + ticks) = (now : Int) + ticks := IntWalk.i64_in _ (by omega)
    have s2 : IntKind.i64.wrap ((tries : Int) + 1) = (tries : Int) + 1 := IntWalk.i64_in _ (by omega)
    go_region
    rw [← hW4]
    clear hW4 s1 s2 c4 a0 a1 a2 a3 a4 a5 a6 e0 e1 e2 e3 e4 e5 e6
    have hz2 := hx02.size
    have hx04 : Ext [] w W4 := hx03.step hx4 (by simp; omega)
    obtain ⟨⟨a0, a1, a2, a3, a4, a5, a6⟩, _⟩ := cells7 hb4
    have ok2 : OkJ ⟨jid, pr, body, 2, tries + 1, who, now + ticks⟩ := ⟨hok.id, hok.pr, hok.body, .inr (.inl rfl), by simp only; omega, by simp only; omega, by simp only; omega, fun hne => absurd rfl hne⟩
    have hset := set_x (h.ext0 hx04) hn (hM.ext hx04 (by simp)) (by have := hx04.size; omega) ⟨jid, pr, body, 2, tries + 1, who, now + ticks⟩ ok2 jid pr 2 ((tries : Int) + 1) who ((now : Int) + ticks) rfl rfl rfl (by simp) rfl (by simp)
    simp only [hG, Option.isSome_some, if_true] at hset
    have hlt := h.lt
    go_wp2_with fail
    refine hset.mono ?_
    rintro e w5 ⟨rfl, hq⟩
    clear hset
    obtain ⟨g5, hq5, hg5, hx5⟩ := hq
    have hz4 := hx04.size
    have hb5 := hx5.keep hb4 (by simp; omega)
    have hbb : w5.heap[w.heap.size]? = some (.cells #[.int .i64 0, .int .i64 0, .string ⟨#[]⟩, .int .i64 0, .int .i64 0, .int .i64 0, .int .i64 0] 80 (0, 0)) := by
      have k2 := hx3.keep hb2 (by simp)
      have k3 := hx4.keep k2 (by simp; have := hx0.size; have := hx1.size; have := hx2.size; simp only [World.size_alloc] at *; omega)
      exact hx5.keep k3 (by simp; omega)
    clear a0 a1 a2 a3 a4 a5 a6
    obtain ⟨⟨a0, a1, a2, a3, a4, a5, a6⟩, _⟩ := cells7 hb5
    obtain ⟨⟨d0, d1, d2, d3, d4, d5, d6⟩, e0, e1, e2, e3, e4, e5, e6⟩ := cells7 hbb
    go_wp2_with fail
    have h5 := setCells7 (a' := .int .i64 jid) (b' := .int .i64 pr) (c' := .string body) (d' := .int .i64 2) (e' := .int .i64 ((tries : Int) + 1)) (f' := .int .i64 who) (g' := .int .i64 ((now : Int) + ticks)) hbb
    refine bodyPost_ret (run_results_j (fn := Tryz.f54) (p := 6) (q := 7) (by kernel_rfl) _ _ w.heap.size _ _ _ _ _ _ _ _ rfl rfl h5) rfl ?_
    have hx6 : Ext [b, bm, g, r] w (World.set7 w5 w.heap.size (.int .i64 jid) (.int .i64 pr) (.string body) (.int .i64 2) (.int .i64 ((tries : Int) + 1)) (.int .i64 who) (.int .i64 ((now : Int) + ticks))) := ((hx04.mono (by simp)).trans hx5).set7 (.inr (Nat.le_refl _)) _ _ _ _ _ _ _
    have hx7 : Ext [w.heap.size] w5 (World.set7 w5 w.heap.size (.int .i64 jid) (.int .i64 pr) (.string body) (.int .i64 2) (.int .i64 ((tries : Int) + 1)) (.int .i64 who) (.int .i64 ((now : Int) + ticks))) := (Ext.refl [w.heap.size] w5).set7 (.inl List.mem_cons_self) _ _ _ _ _ _ _
    have hx0s : w.heap.size < W4.heap.size := by
      have := hx0.size; have := hx1.size; have := hx2.size; have := hx3.size; have := hx4.size; simp only [World.size_alloc] at *; omega
    refine ⟨_, rfl, _, _, _, _, ⟨g5, hq5.ext hx7 (by simp; omega) (by simp; omega) (by simp; omega) (by simp; omega), by omega, hx6⟩, (hB.more (by omega)).upd (Nat.le_refl _) (by have := hB.lastL; omega) _ ok2 (by show jid ≤ last; omega) (by show tries + 1 ≤ _; omega) (by show who ≤ 3; omega) (by show now + ticks ≤ _; omega), Nat.le_refl _, Nat.le_refl _⟩
end Go.Proofs.YtfadbmfkidiaoaaGreatDoor

namespace Go.Proofs.YtfadbmfkidiaoaaGreatDoor
open Go.RowKit Go Go.MapKept
set_option linter.unusedSimpArgs false
set_option linter.unusedVariables false
set_option linter.unusedSectionVars false
set_option linter.unnecessarySimpa false

def PaRel (w5 : World) (b bm g r n last tick k : Nat) (ms : List Jb) (iv : Value) (wl : World) : Prop :=
  ∃ (i : Nat) (G1 : Nat → Option Jb), iv = .int .i64 i ∧ i ≤ ms.length ∧ QPost b bm g r w5 G1 n last tick wl ∧ Bd G1 last tick (k + 1) ∧ ∀ j ∈ ms, (G1 j.id).isSome = true
theorem Vw.jb {w : World} {g o n c : Nat} {l : List Jb} (h : Vw w g 80 7 (.slice (some ⟨g, o, none⟩) n c) n (jcs l)) (i : Nat) (hi : i < n) (hl : l.length = n) :
    w.cell? ⟨g, o + i * 7, none⟩ = some (.int .i64 ((l[i]'(by omega)).id : Nat)) ∧ w.cell? ⟨g, o + i * 7 + 1, none⟩ = some (.int .i64 ((l[i]'(by omega)).pr : Nat)) ∧ w.cell? ⟨g, o + i * 7 + 2, none⟩ = some (.string (l[i]'(by omega)).body) ∧ w.cell? ⟨g, o + i * 7 + 3, none⟩ = some (.int .i64 ((l[i]'(by omega)).st : Nat)) ∧ w.cell? ⟨g, o + i * 7 + 4, none⟩ = some (.int .i64 ((l[i]'(by omega)).tries : Nat)) ∧ w.cell? ⟨g, o + i * 7 + 5, none⟩ = some (.int .i64 ((l[i]'(by omega)).who : Nat)) ∧ w.cell? ⟨g, o + i * 7 + 6, none⟩ = some (.int .i64 ((l[i]'(by omega)).till : Nat)) := by
  have := Vw.fm jC 7 jC_len h hl i hi
  exact ⟨this 0 (by omega) _ rfl, this 1 (by omega) _ rfl, this 2 (by omega) _ rfl, this 3 (by omega) _ rfl, this 4 (by omega) _ rfl, this 5 (by omega) _ rfl, this 6 (by omega) _ rfl⟩
set_option maxRecDepth 100000 in
set_option maxHeartbeats 3200000 in
theorem qpass_any (b bm g r : Nat) (G : Nat → Option Jb) (n last now k tick : Nat) (w : World) (h : Qx w b bm g r G n last now) (hB : Bd G last now k) (hk : k ≤ 30) (hn : n ≤ 1000) (hM : MxL w) (h8 : 8 ≤ w.heap.size) (ht1 : now ≤ tick) (ht2 : tick ≤ now + 255) :
    Calls Tryz.prog 57 #[.pointer (some ⟨b, 0, none⟩), .int .i64 (tick : Nat)] w fun e w' => ∃ v, e = .returned v ∧ DPost b bm g r w k n n w' := by
  have hnow := hB.nowL
  have hno := qnone_x h
  obtain ⟨⟨_, _, _, _, c4⟩, _, _, _, _, f4⟩ := h.cells
  obtain ⟨hq1, hx1⟩ := h.setNow tick
  have hlt := h.lt
  have hw3 : ((tick : Int) < 0) = False := by simp
  have hw4 : ((1099511627776 : Int) < tick) = False := by simp; omega
  have hw5 : ((tick : Int) < now) = False := by simp; omega
  have hM1 := hM.ext hx1 (by simp; omega)
  have hz1 := hx1.size
  go_enter Tryz.func57, Tryz.ntmps57
  go_wp2_with fail
  refine hno.mono ?_
  rintro e w1 ⟨rfl, rfl⟩
  clear hno
  go_wp2_with fail
  generalize w.setCell ⟨b, 4, none⟩ (.int .i64 (tick : Nat)) = W1 at *
  clear c4 f4
  refine (num118_x 2 _ (by omega)).mono ?_
  rintro e w2 ⟨rfl, hx2⟩
  have hin := in1_x (hq1.ext0 hx2) hn (hM1.ext hx2 (by simp)) (by have := hx2.size; omega) 2 (.inr rfl)
  go_wp2_with fail
  refine hin.mono ?_
  rintro e w3 ⟨g3, v3, ms, rfl, hr3, hms, hml, hg3, hx3⟩
  clear hin
  have hx13 := hx2.trans hx3
  have hq3 := hq1.ext0 hx13
  have hM3 := hM1.ext hx13 (by simp)
  have hz3 := hx13.size
  have hz2 := hx2.size
  have hBm : Bd G last tick (k + 1) := hB.more (by omega)
  obtain ⟨A3, c3, rfl, _, _⟩ := hr3.form
  have hv3 := Lib.hid hr3.vw
  have hg3lt : ms ≠ [] → g3 < w3.heap.size := fun h => hr3.blt (List.length_pos_iff.2 h)
  have hx03 : Ext [b] w w3 := hx1.trans0 hx13
  clear hr3
  generalize hN : ms.length = N at *
  have HN := Lib.hid hN; clear hN
  have hfin : ∀ (G1 : Nat → Option Jb) (wl : World), QPost b bm g r w3 G1 n last tick wl → Bd G1 last tick (k + 1) → DPost b bm g r w k n n wl := fun G1 wl q1 q2 =>
    ⟨_, _, _, _, QPost.step (.inl rfl) (hx03.mono (by simp)) q1, q2, Nat.le_refl _, Nat.le_refl _⟩
  go_wp2_with fail
  go_loopw [34] (PaRel w3 b bm g r n last tick k ms) (fun iv _ => N - (intOf iv).toNat)
  case atStart => exact ⟨0, G, rfl, Nat.zero_le _, QPost.refl hq3, hBm, fun j hj => by rw [(hms j hj).2]; rfl⟩
  case round =>
    obtain ⟨i, G1, rfl, hi, hQ, hB1, hsome⟩ := hrel
    rw [HN.out] at hi
    by_cases hlt' : i < N
    · have hne : ms ≠ [] := by intro e; have := HN.out; rw [e] at this; simp at this; omega
      have hg3b := hg3lt hne
      obtain ⟨g1, hq4, hg1, hx4⟩ := hQ
      have hv4 := hv3.out.ext hx4 (by simp; omega)
      obtain ⟨o, rfl⟩ := hv4.headU (by omega)
      obtain ⟨p0, p1, p2, p3, p4, p5, p6⟩ := hv4.jb i hlt' HN.out
      have hil : i < ms.length := by have := HN.out; omega
      have hj := hms _ (List.getElem_mem hil)
      have hsm := hsome _ (List.getElem_mem hil)
      have hQ : QPost b bm g r w3 G1 n last tick wr := ⟨g1, hq4, hg1, hx4⟩
      have hup : ∀ (x : Jb) (j' : Jb), j' ∈ ms → (updG G1 x.id (some (backJ x)) j'.id).isSome = true := fun x j' hj' => by
        unfold updG; split
        · rfl
        · exact hsome j' hj'
      have hid : G1 (ms[i]'hil).id ≠ none → (ms[i]'hil).id ≤ last := fun hh => by
        cases hc : G1 (ms[i]'hil).id with
        | none => exact absurd hc hh
        | some x => exact (hB1.job _ x hc).2.2.1
      have hid := hid (by intro e; rw [e] at hsm; cases hsm)
      have hbt : (ms[i]'hil).tries ≤ k := (hB.job _ _ hj.2).2.2.2.1
      generalize (ms[i]'hil) = J at *
      have hjo := hj.1
      clear hj hv4
      have hnb := heap_alloc_new wr (.cells #[.int .i64 (J.id : Nat), .int .i64 (J.pr : Nat), .string J.body, .int .i64 (J.st : Nat), .int .i64 (J.tries : Nat), .int .i64 (J.who : Nat), .int .i64 (J.till : Nat)] 80)
      have hx5 : Ext [] wr (wr.alloc (.cells #[.int .i64 (J.id : Nat), .int .i64 (J.pr : Nat), .string J.body, .int .i64 (J.st : Nat), .int .i64 (J.tries : Nat), .int .i64 (J.who : Nat), .int .i64 (J.till : Nat)] 80)) := (Ext.refl [] wr).alloc _
      have hltq := hq4.lt
      have hbk := back_any b bm g1 r G1 n last tick _ (hq4.ext0 hx5) hn ((hM3.ext hx4 (by simp; omega)).ext hx5 (by simp)) (by have := hx5.size; have := hx4.size; omega) J hjo hsm
      obtain ⟨⟨a0, a1, a2, a3, a4, a5, a6⟩, _⟩ := cells7 hnb
      have H5 := Lib.hid hx5; clear hx5
      by_cases hgt : (tick : Int) < J.till
      · clear hbk
        go_wp2_with fail
        go_ret
        exact ⟨_, rfl, hfin _ _ (hQ.more H5.out) hB1⟩
      · go_wp2_with fail
        refine hbk.mono ?_
        rintro e w6 ⟨rfl, hq6⟩
        clear hbk
        go_wp2_with fail
        refine ⟨?rel, ?measure⟩
        case rel =>
          refine ⟨i + 1, _, by go_num, by have := HN.out; omega, QPost.step hg1 hx4 (QPost.from H5.out hq6), hB1.upd (Nat.le_refl _) (by have := hB1.lastL; omega) (backJ J) (backJ_ok hjo) (by show J.id ≤ last; omega) (by show J.tries ≤ _; omega) (by show 0 ≤ 3; omega) (by show 0 ≤ _; omega), hup J⟩
        case measure => simp [intOf]; omega
    · go_wp2_with fail
      go_ret
      exact ⟨_, rfl, hfin _ _ hQ hB1⟩
end Go.Proofs.YtfadbmfkidiaoaaGreatDoor
