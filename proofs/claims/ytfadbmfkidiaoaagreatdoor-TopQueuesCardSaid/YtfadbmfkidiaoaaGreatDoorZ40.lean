/- Two lists of changes gone over together. -/
import Derived.Test.YtfadbmfkidiaoaaGreatDoorZ39
namespace Go.Proofs.YtfadbmfkidiaoaaGreatDoor
open Go.RowKit Go
set_option linter.unusedSimpArgs false
set_option linter.unusedVariables false
set_option linter.unusedSectionVars false
set_option linter.unnecessarySimpa false

/-- t is what is left of a list of changes -/
def VT (ga : Nat) (va : Value) (a : List Chg) (t : Value) (a' : List Chg) : Prop := ∃ A c, t = .slice A a'.length c ∧ ∀ W, Vw W ga 138 5 va a.length (ccs a) → Vw W ga 138 5 (.slice A a'.length c) a'.length (ccs a')
theorem VT.start {ga : Nat} {A : Option Addr} {c : Nat} {a : List Chg} : VT ga (.slice A a.length c) a (.slice A a.length c) a := ⟨A, c, rfl, fun _ h => h⟩
theorem VT.nil_ {ga : Nat} {va : Value} {a : List Chg} {t : Value} (h : VT ga va a t []) : ∃ A c, t = .slice A 0 c := by
  obtain ⟨A, c, h, _⟩ := h; exact ⟨A, c, h⟩
theorem c5 {W : World} {B t : Nat} {a b c d e : Value} (hb : W.heap[B]? = some (.cells #[a, b, c, d, e] t (0, 0))) :
    (W.cell? ⟨B, 0, none⟩ = some a ∧ W.cell? ⟨B, 1, none⟩ = some b ∧ W.cell? ⟨B, 2, none⟩ = some c ∧ W.cell? ⟨B, 3, none⟩ = some d ∧ W.cell? ⟨B, 4, none⟩ = some e) ∧
    W.frozen? ⟨B, 0, none⟩ = false ∧ W.frozen? ⟨B, 1, none⟩ = false ∧ W.frozen? ⟨B, 2, none⟩ = false ∧ W.frozen? ⟨B, 3, none⟩ = false ∧ W.frozen? ⟨B, 4, none⟩ = false :=
  ⟨⟨cell_of_row _ _ 0 _ _ _ hb, cell_of_row _ _ 1 _ _ _ hb, cell_of_row _ _ 2 _ _ _ hb, cell_of_row _ _ 3 _ _ _ hb, cell_of_row _ _ 4 _ _ _ hb⟩,
    frozen_of_row _ _ 0 _ _ hb, frozen_of_row _ _ 1 _ _ hb, frozen_of_row _ _ 2 _ _ hb, frozen_of_row _ _ 3 _ _ hb, frozen_of_row _ _ 4 _ _ hb⟩
def World.put5 (W : World) (B : Nat) (a b c d e : Value) : World := ((((W.setCell ⟨B, 0, none⟩ a).setCell ⟨B, 1, none⟩ b).setCell ⟨B, 2, none⟩ c).setCell ⟨B, 3, none⟩ d).setCell ⟨B, 4, none⟩ e
theorem put5_heap {W : World} {B t : Nat} {a b c d e a' b' c' d' e' : Value} (hb : W.heap[B]? = some (.cells #[a, b, c, d, e] t (0, 0))) :
    (World.put5 W B a' b' c' d' e').heap[B]? = some (.cells #[a', b', c', d', e'] t (0, 0)) := by
  have h0 : (W.setCell ⟨B, 0, none⟩ a').heap[B]? = some (.cells #[a', b, c, d, e] t (0, 0)) := heap_setCell_same W B 0 _ t a' hb
  have h1 : ((W.setCell ⟨B, 0, none⟩ a').setCell ⟨B, 1, none⟩ b').heap[B]? = some (.cells #[a', b', c, d, e] t (0, 0)) := heap_setCell_same (W.setCell ⟨B, 0, none⟩ a') B 1 _ t b' h0
  have h2 : (((W.setCell ⟨B, 0, none⟩ a').setCell ⟨B, 1, none⟩ b').setCell ⟨B, 2, none⟩ c').heap[B]? = some (.cells #[a', b', c', d, e] t (0, 0)) := heap_setCell_same ((W.setCell ⟨B, 0, none⟩ a').setCell ⟨B, 1, none⟩ b') B 2 _ t c' h1
  have h3 : ((((W.setCell ⟨B, 0, none⟩ a').setCell ⟨B, 1, none⟩ b').setCell ⟨B, 2, none⟩ c').setCell ⟨B, 3, none⟩ d').heap[B]? = some (.cells #[a', b', c', d', e] t (0, 0)) := heap_setCell_same (((W.setCell ⟨B, 0, none⟩ a').setCell ⟨B, 1, none⟩ b').setCell ⟨B, 2, none⟩ c') B 3 _ t d' h2
  exact heap_setCell_same ((((W.setCell ⟨B, 0, none⟩ a').setCell ⟨B, 1, none⟩ b').setCell ⟨B, 2, none⟩ c').setCell ⟨B, 3, none⟩ d') B 4 _ t e' h3
theorem put5_ext {S : List Nat} {A W : World} {B : Nat} (h : Ext S A W) (hB : B ∈ S ∨ A.heap.size ≤ B) (a b c d e : Value) : Ext S A (World.put5 W B a b c d e) :=
  ((((h.setCell hB a).setCell hB b).setCell hB c).setCell hB d).setCell hB e
theorem drew_heap (W : World) : W.drew.heap = W.heap := rfl
theorem put5_new {W : World} {B t : Nat} {a b c d e a' b' c' d' e' : Value} (hb : W.heap[B]? = some (.cells #[a, b, c, d, e] t (0, 0))) :
    ∃ W3, W3 = (World.setCell (World.setCell (World.setCell (World.setCell (World.setCell W ⟨B, 0, none⟩ a') ⟨B, 1, none⟩ b') ⟨B, 2, none⟩ c') ⟨B, 3, none⟩ d') ⟨B, 4, none⟩ e').drew ∧ W3.heap[B]? = some (.cells #[a', b', c', d', e'] t (0, 0)) ∧ Ext [B] W W3 := by
  have h1 := put5_heap (a' := a') (b' := b') (c' := c') (d' := d') (e' := e') hb
  have h2 := put5_ext (S := [B]) (A := W) (W := W) (B := B) (Ext.refl _ _) (.inl List.mem_cons_self) a' b' c' d' e'
  unfold World.put5 at h1 h2
  refine ⟨_, rfl, ?_, h2.drew⟩
  rw [drew_heap]; exact h1
theorem Vw.chg0 {w : World} {g o m c : Nat} {x : Chg} {l : List Chg} (h : Vw w g 138 5 (.slice (some ⟨g, o, none⟩) m c) m (ccs (x :: l))) :
    w.cell? ⟨g, o, none⟩ = some (.string x.key) ∧ w.cell? ⟨g, o + 1, none⟩ = some (.bool x.was) ∧ w.cell? ⟨g, o + 2, none⟩ = some (.bool x.is) ∧ w.cell? ⟨g, o + 3, none⟩ = some (.string x.before) ∧ w.cell? ⟨g, o + 4, none⟩ = some (.string x.after) := by
  cases h with
  | at_ hl hn hc hcell hty => exact ⟨hcell 0 _ rfl, hcell 1 _ rfl, hcell 2 _ rfl, hcell 3 _ rfl, hcell 4 _ rfl⟩
theorem VT.tail {ga : Nat} {va : Value} {a : List Chg} {x : Chg} {a' : List Chg} {t : Value} (h : VT ga va a t (x :: a')) {W : World} (hW : Vw W ga 138 5 va a.length (ccs a)) :
    ∃ o c A' , t = .slice (some ⟨ga, o, none⟩) (a'.length + 1) c ∧ a'.length + 1 ≤ c ∧ (∀ w : World, (Instr.slice 61 t (some (.int .i64 1)) none none).run Tryz.prog w = .ok (.slice A' a'.length (c - 1)) w) ∧ VT ga va a (.slice A' a'.length (c - 1)) a' ∧
      W.cell? ⟨ga, o, none⟩ = some (.string x.key) ∧ W.cell? ⟨ga, o + 1, none⟩ = some (.bool x.was) ∧ W.cell? ⟨ga, o + 2, none⟩ = some (.bool x.is) ∧ W.cell? ⟨ga, o + 3, none⟩ = some (.string x.before) ∧ W.cell? ⟨ga, o + 4, none⟩ = some (.string x.after) := by
  obtain ⟨A, c, rfl, h⟩ := h
  have h0 := h W hW
  rw [List.length_cons] at *
  obtain ⟨o, rfl⟩ := h0.headU (by omega)
  obtain ⟨A', h1, h2, h3⟩ := slice_l T61 (some ⟨ga, o, none⟩) (a'.length + 1) c 1 (z := 1) rfl (by omega)
  refine ⟨o, c, A', rfl, by cases h0 with | at_ _ hn _ _ _ => exact hn, fun w => by have := h1 w; rwa [Nat.add_sub_cancel] at this, ⟨A', c - 1, rfl, fun W' hW' => ?_⟩, h0.chg0⟩
  have := (h W' hW').tail 1 (by omega) h2 h3
  rw [Nat.add_sub_cancel] at this
  exact this
theorem twoNew {wr W1 : World} (hx1 : Ext [] wr W1) : ∃ W2, W2 = (W1.alloc (.cells #[.string ⟨#[]⟩, .bool false, .bool false, .string ⟨#[]⟩, .string ⟨#[]⟩] 138)).alloc (.cells #[.string ⟨#[]⟩, .bool false, .bool false, .string ⟨#[]⟩, .string ⟨#[]⟩] 138) ∧ Ext [] wr W2 ∧
    W2.heap[W1.heap.size]? = some (.cells #[.string ⟨#[]⟩, .bool false, .bool false, .string ⟨#[]⟩, .string ⟨#[]⟩] 138 (0, 0)) ∧ W2.heap[W1.heap.size + 1]? = some (.cells #[.string ⟨#[]⟩, .bool false, .bool false, .string ⟨#[]⟩, .string ⟨#[]⟩] 138 (0, 0)) ∧ wr.heap.size ≤ W1.heap.size := by
  have h8 := heap_alloc_new W1 (.cells #[.string ⟨#[]⟩, .bool false, .bool false, .string ⟨#[]⟩, .string ⟨#[]⟩] 138)
  have hxa : Ext [] W1 (W1.alloc (.cells #[.string ⟨#[]⟩, .bool false, .bool false, .string ⟨#[]⟩, .string ⟨#[]⟩] 138)) := (Ext.refl [] _).alloc _
  have h9 := heap_alloc_new (W1.alloc (.cells #[.string ⟨#[]⟩, .bool false, .bool false, .string ⟨#[]⟩, .string ⟨#[]⟩] 138)) (.cells #[.string ⟨#[]⟩, .bool false, .bool false, .string ⟨#[]⟩, .string ⟨#[]⟩] 138)
  have hxb : Ext [] (W1.alloc (.cells #[.string ⟨#[]⟩, .bool false, .bool false, .string ⟨#[]⟩, .string ⟨#[]⟩] 138)) ((W1.alloc (.cells #[.string ⟨#[]⟩, .bool false, .bool false, .string ⟨#[]⟩, .string ⟨#[]⟩] 138)).alloc (.cells #[.string ⟨#[]⟩, .bool false, .bool false, .string ⟨#[]⟩, .string ⟨#[]⟩] 138)) := (Ext.refl [] _).alloc _
  simp only [World.size_alloc] at h9
  exact ⟨_, rfl, (hx1.trans hxa).trans hxb, hxb.keep h8 (by simp), h9, hx1.size⟩
/-- how far both is -/
def BoRel (ga gb : Nat) (va vb : Value) (a b : List Chg) (R : List Ev → World → Prop) (t0 t1 : Value) (wl : World) : Prop :=
  ∃ a' b' evs, VT ga va a t0 a' ∧ VT gb vb b t1 b' ∧ bothL a b = evs ++ bothL a' b' ∧ R evs wl
def lenS : Value → Nat
  | .slice _ n _ => n
  | _ => 0
set_option maxRecDepth 100000 in
set_option maxHeartbeats 8000000 in
theorem both62_any (a b : List Chg) (ga gb : Nat) (va vb p : Value) (R : List Ev → World → Prop) (w : World) (hgb : gb < w.heap.size) (hz : ∀ evs W, R evs W → w.heap.size ≤ W.heap.size)
    (hRA : ∀ evs W W', R evs W → Ext [] W W' → Vw W' ga 138 5 va a.length (ccs a)) (hRB : ∀ evs W W', R evs W → Ext [] W W' → Vw W' gb 138 5 vb b.length (ccs b))
    (hst : ∀ evs e rest W W', bothL a b = evs ++ e :: rest → R evs W → Ext [] W W' → Calls Tryz.prog 62 #[cgV e.x, cgV e.y, .bool e.a, .bool e.b, p] W' fun r w' => r = .returned (.tuple #[]) ∧ R (evs ++ [e]) w')
    (h0 : R [] w) : Calls Tryz.prog 60 #[va, vb, .func (.func 62) #[] #[p]] w fun r w' => r = .returned (.tuple #[]) ∧ R (bothL a b) w' := by
  have hva := hRA [] w w h0 (Ext.refl _ _)
  have hvb := hRB [] w w h0 (Ext.refl _ _)
  obtain ⟨Aa, ca, rfl, _⟩ := hva.form
  obtain ⟨Ab, cb, rfl, _⟩ := hvb.form
  have ha0 : VT ga (.slice Aa a.length ca) a (.slice Aa a.length ca) a := VT.start
  have hb0 : VT gb (.slice Ab b.length cb) b (.slice Ab b.length cb) b := VT.start
  generalize hva' : Value.slice Aa a.length ca = va at *
  generalize hvb' : Value.slice Ab b.length cb = vb at *
  clear hva hvb
  go_enter Tryz.func60, Tryz.ntmps60
  go_wp2_with fail
  go_loopw [0, 1] (BoRel ga gb va vb a b R) (fun t0 t1 _ => lenS t0 + lenS t1)
  case atStart => exact ⟨a, b, [], ha0, hb0, rfl, h0⟩
  case round =>
    obtain ⟨a', b', evs, hA, hB, hev, hR⟩ := hrel
    have hgb : gb < wr.heap.size := by have := hz _ _ hR; omega
    clear h0 ha0 hb0 hva' hvb' hz
    cases a' with
    | nil =>
      obtain ⟨A, c, rfl⟩ := hA.nil_
      cases b' with
      | nil =>
        obtain ⟨B, d, rfl⟩ := hB.nil_
        go_wp2_with fail
        go_end0
        refine ⟨rfl, ?_⟩
        rw [hev, bothL_nil_left, List.map_nil, List.append_nil]; exact hR
      | cons y b' =>
        obtain ⟨o, c, A', rfl, hc, hsl, hTb, cy0, cy1, cy2, cy3, cy4⟩ := hB.tail (hRB evs _ _ hR (Ext.refl _ _))
        have hev' : bothL a b = evs ++ ⟨zC, y, false, true⟩ :: bothL [] b' := by rw [hev, bothL_nil_left, bothL_nil_left]; rfl
        go_wp2_with fail
        go_quiet (fail)
        go_wp2_with fail
        go_quiet (fail)
        generalize hW1 : World.drewN (World.drewN wr _) _ = W1
        have hx1 : Ext [] wr W1 := by rw [← hW1]; exact Ext.drewN (Ext.drewN (Ext.refl [] wr) _) _
        clear hW1
        obtain ⟨W2, hW2, hx2, h8, h9, hz1⟩ := twoNew hx1
        obtain ⟨⟨p0, p1, p2, p3, p4⟩, e0, e1, e2, e3, e4⟩ := c5 h8
        obtain ⟨⟨r0, r1, r2, r3, r4⟩, f0, f1, f2, f3, f4⟩ := c5 h9
        have dy0 := hx2.cell cy0 (by simp)
        have dy1 := hx2.cell cy1 (by simp)
        have dy2 := hx2.cell cy2 (by simp)
        have dy3 := hx2.cell cy3 (by simp)
        have dy4 := hx2.cell cy4 (by simp)
        go_wp2_with fail
        rw [← hW2]
        clear hW2
        obtain ⟨W3, hW3, hn3, hxx3⟩ := put5_new (a' := .string y.key) (b' := .bool y.was) (c' := .bool y.is) (d' := .string y.before) (e' := .string y.after) h9
        go_region
        rw [← hW3]
        have h93 : W3.heap[W1.heap.size + 1]? = some (.cells #[.string y.key, .bool y.was, .bool y.is, .string y.before, .string y.after] 138 (0, 0)) := hn3
        have h83 := hxx3.keep h8 (by simp)
        have hx3 : Ext [] wr W3 := hx2.step hxx3 (by simp; omega)
        clear hW3 p0 p1 p2 p3 p4 r0 r1 r2 r3 r4 e0 e1 e2 e3 e4 f0 f1 f2 f3 f4
        obtain ⟨⟨p0, p1, p2, p3, p4⟩, e0, e1, e2, e3, e4⟩ := c5 h83
        obtain ⟨⟨r0, r1, r2, r3, r4⟩, f0, f1, f2, f3, f4⟩ := c5 h93
        go_wp2_with fail
        have hcall := hst evs ⟨zC, y, false, true⟩ _ _ W3 hev' hR hx3
        replace hcall : Calls Tryz.prog 62 #[.agg #[.string ⟨#[]⟩, .bool false, .bool false, .string ⟨#[]⟩, .string ⟨#[]⟩], .agg #[.string y.key, .bool y.was, .bool y.is, .string y.before, .string y.after], .bool false, .bool true, p] W3 fun r w' => r = .returned (.tuple #[]) ∧ R (evs ++ [⟨zC, y, false, true⟩]) w' := hcall
        refine hcall.mono ?_
        rintro e w9 ⟨rfl, hR9⟩
        go_wp2_with fail
        refine ⟨?rel, ?measure⟩
        case rel => exact ⟨[], b', evs ++ [⟨zC, y, false, true⟩], hA, hTb, by rw [hev']; simp, hR9⟩
        case measure => simp [lenS]
    | cons x a' =>
      obtain ⟨o, c, A', rfl, hc, hsl, hTa, cx0, cx1, cx2, cx3, cx4⟩ := hA.tail (hRA evs _ _ hR (Ext.refl _ _))
      cases b' with
      | nil =>
        obtain ⟨B, d, rfl⟩ := hB.nil_
        have hev' : bothL a b = evs ++ ⟨x, zC, true, false⟩ :: bothL a' [] := by rw [hev, bothL_nil_right, bothL_nil_right]; rfl
        go_wp2_with fail
        go_quiet (fail)
        go_wp2_with fail
        go_quiet (fail)
        generalize hW1 : World.drewN (World.drewN wr _) _ = W1
        have hx1 : Ext [] wr W1 := by rw [← hW1]; exact Ext.drewN (Ext.drewN (Ext.refl [] wr) _) _
        clear hW1
        obtain ⟨W2, hW2, hx2, h8, h9, hz1⟩ := twoNew hx1
        obtain ⟨⟨p0, p1, p2, p3, p4⟩, e0, e1, e2, e3, e4⟩ := c5 h8
        obtain ⟨⟨r0, r1, r2, r3, r4⟩, f0, f1, f2, f3, f4⟩ := c5 h9
        have dx0 := hx2.cell cx0 (by simp)
        have dx1 := hx2.cell cx1 (by simp)
        have dx2 := hx2.cell cx2 (by simp)
        have dx3 := hx2.cell cx3 (by simp)
        have dx4 := hx2.cell cx4 (by simp)
        go_wp2_with fail
        rw [← hW2]
        clear hW2
        obtain ⟨W3, hW3, hn3, hxx3⟩ := put5_new (a' := .string x.key) (b' := .bool x.was) (c' := .bool x.is) (d' := .string x.before) (e' := .string x.after) h8
        go_region
        rw [← hW3]
        have h83 : W3.heap[W1.heap.size]? = some (.cells #[.string x.key, .bool x.was, .bool x.is, .string x.before, .string x.after] 138 (0, 0)) := hn3
        have h93 := hxx3.keep h9 (by simp)
        have hx3 : Ext [] wr W3 := hx2.step hxx3 (by simp; omega)
        clear hW3 p0 p1 p2 p3 p4 r0 r1 r2 r3 r4 e0 e1 e2 e3 e4 f0 f1 f2 f3 f4
        obtain ⟨⟨p0, p1, p2, p3, p4⟩, e0, e1, e2, e3, e4⟩ := c5 h83
        obtain ⟨⟨r0, r1, r2, r3, r4⟩, f0, f1, f2, f3, f4⟩ := c5 h93
        go_wp2_with fail
        have hcall := hst evs ⟨x, zC, true, false⟩ _ _ W3 hev' hR hx3
        replace hcall : Calls Tryz.prog 62 #[.agg #[.string x.key, .bool x.was, .bool x.is, .string x.before, .string x.after], .agg #[.string ⟨#[]⟩, .bool false, .bool false, .string ⟨#[]⟩, .string ⟨#[]⟩], .bool true, .bool false, p] W3 fun r w' => r = .returned (.tuple #[]) ∧ R (evs ++ [⟨x, zC, true, false⟩]) w' := hcall
        refine hcall.mono ?_
        rintro e w9 ⟨rfl, hR9⟩
        go_wp2_with fail
        refine ⟨?rel, ?measure⟩
        case rel => exact ⟨a', [], evs ++ [⟨x, zC, true, false⟩], hTa, hB, by rw [hev']; simp, hR9⟩
        case measure => simp [lenS]
      | cons y b' =>
        obtain ⟨ob, cb', B', rfl, hcb, hslb, hTb, cy0, cy1, cy2, cy3, cy4⟩ := hB.tail (hRB evs _ _ hR (Ext.refl _ _))
        have q1 := bless x.key y.key
        have q2 := bless y.key x.key
        by_cases g1 : klt x.key y.key
        · have g2 := klt_asymm g1
          have g3 : (x.key.toList == y.key.toList) = false := by
            rw [beq_eq_false_iff_ne]; intro h; rw [Lib.toList_data, Lib.toList_data] at h; rw [ba_ext h] at g1; exact klt_irrefl _ g1
          have g4 : (y.key.toList == x.key.toList) = false := by
            rw [beq_eq_false_iff_ne] at g3 ⊢; exact fun h => g3 h.symm
          simp only [g1, g2, decide_true, decide_false] at q1 q2
          have G1 := Lib.hid g1
          clear g1 g2
          have hev' : bothL a b = evs ++ ⟨x, zC, true, false⟩ :: bothL a' (y :: b') := by rw [hev, bothL_lt _ _ _ _ G1.out]
          go_wp2_with fail
          go_quiet (fail)
          go_wp2_with fail
          go_quiet (fail)
          generalize hW1 : World.drewN (World.drewN wr _) _ = W1
          have hx1 : Ext [] wr W1 := by rw [← hW1]; exact Ext.drewN (Ext.drewN (Ext.refl [] wr) _) _
          clear hW1
          obtain ⟨W2, hW2, hx2, h8, h9, hz1⟩ := twoNew hx1
          obtain ⟨⟨p0, p1, p2, p3, p4⟩, e0, e1, e2, e3, e4⟩ := c5 h8
          obtain ⟨⟨r0, r1, r2, r3, r4⟩, f0, f1, f2, f3, f4⟩ := c5 h9
          have dx0 := hx2.cell cx0 (by simp)
          have dx1 := hx2.cell cx1 (by simp)
          have dx2 := hx2.cell cx2 (by simp)
          have dx3 := hx2.cell cx3 (by simp)
          have dx4 := hx2.cell cx4 (by simp)
          go_wp2_with fail
          rw [← hW2]
          clear hW2
          obtain ⟨W3, hW3, hn3, hxx3⟩ := put5_new (a' := .string x.key) (b' := .bool x.was) (c' := .bool x.is) (d' := .string x.before) (e' := .string x.after) h8
          go_region
          rw [← hW3]
          have h83 : W3.heap[W1.heap.size]? = some (.cells #[.string x.key, .bool x.was, .bool x.is, .string x.before, .string x.after] 138 (0, 0)) := hn3
          have h93 := hxx3.keep h9 (by simp)
          have hx3 : Ext [] wr W3 := hx2.step hxx3 (by simp; omega)
          clear hW3 p0 p1 p2 p3 p4 r0 r1 r2 r3 r4 e0 e1 e2 e3 e4 f0 f1 f2 f3 f4
          obtain ⟨⟨p0, p1, p2, p3, p4⟩, e0, e1, e2, e3, e4⟩ := c5 h83
          obtain ⟨⟨r0, r1, r2, r3, r4⟩, f0, f1, f2, f3, f4⟩ := c5 h93
          go_wp2_with fail
          have hcall := hst evs ⟨x, zC, true, false⟩ _ _ W3 hev' hR hx3
          replace hcall : Calls Tryz.prog 62 #[.agg #[.string x.key, .bool x.was, .bool x.is, .string x.before, .string x.after], .agg #[.string ⟨#[]⟩, .bool false, .bool false, .string ⟨#[]⟩, .string ⟨#[]⟩], .bool true, .bool false, p] W3 fun r w' => r = .returned (.tuple #[]) ∧ R (evs ++ [⟨x, zC, true, false⟩]) w' := hcall
          refine hcall.mono ?_
          rintro e w9 ⟨rfl, hR9⟩
          go_wp2_with fail
          refine ⟨?rel, ?measure⟩
          case rel => exact ⟨a', (y :: b'), evs ++ [⟨x, zC, true, false⟩], hTa, hB, by rw [hev']; simp, hR9⟩
          case measure => simp [lenS]
        · by_cases g2 : klt y.key x.key
          · have g3 : (x.key.toList == y.key.toList) = false := by
              rw [beq_eq_false_iff_ne]; intro h; rw [Lib.toList_data, Lib.toList_data] at h; rw [ba_ext h] at g2; exact klt_irrefl _ g2
            have g4 : (y.key.toList == x.key.toList) = false := by
              rw [beq_eq_false_iff_ne] at g3 ⊢; exact fun h => g3 h.symm
            simp only [g1, g2, decide_true, decide_false] at q1 q2
            have G1 := Lib.hid g2
            clear g1 g2
            have hev' : bothL a b = evs ++ ⟨zC, y, false, true⟩ :: bothL (x :: a') b' := by rw [hev, bothL_gt _ _ _ _ G1.out]
            go_wp2_with fail
            go_quiet (fail)
            go_wp2_with fail
            go_quiet (fail)
            generalize hW1 : World.drewN (World.drewN wr _) _ = W1
            have hx1 : Ext [] wr W1 := by rw [← hW1]; exact Ext.drewN (Ext.drewN (Ext.refl [] wr) _) _
            clear hW1
            obtain ⟨W2, hW2, hx2, h8, h9, hz1⟩ := twoNew hx1
            obtain ⟨⟨p0, p1, p2, p3, p4⟩, e0, e1, e2, e3, e4⟩ := c5 h8
            obtain ⟨⟨r0, r1, r2, r3, r4⟩, f0, f1, f2, f3, f4⟩ := c5 h9
            have dy0 := hx2.cell cy0 (by simp)
            have dy1 := hx2.cell cy1 (by simp)
            have dy2 := hx2.cell cy2 (by simp)
            have dy3 := hx2.cell cy3 (by simp)
            have dy4 := hx2.cell cy4 (by simp)
            go_wp2_with fail
            rw [← hW2]
            clear hW2
            obtain ⟨W3, hW3, hn3, hxx3⟩ := put5_new (a' := .string y.key) (b' := .bool y.was) (c' := .bool y.is) (d' := .string y.before) (e' := .string y.after) h9
            go_region
            rw [← hW3]
            have h93 : W3.heap[W1.heap.size + 1]? = some (.cells #[.string y.key, .bool y.was, .bool y.is, .string y.before, .string y.after] 138 (0, 0)) := hn3
            have h83 := hxx3.keep h8 (by simp)
            have hx3 : Ext [] wr W3 := hx2.step hxx3 (by simp; omega)
            clear hW3 p0 p1 p2 p3 p4 r0 r1 r2 r3 r4 e0 e1 e2 e3 e4 f0 f1 f2 f3 f4
            obtain ⟨⟨p0, p1, p2, p3, p4⟩, e0, e1, e2, e3, e4⟩ := c5 h83
            obtain ⟨⟨r0, r1, r2, r3, r4⟩, f0, f1, f2, f3, f4⟩ := c5 h93
            go_wp2_with fail
            have hcall := hst evs ⟨zC, y, false, true⟩ _ _ W3 hev' hR hx3
            replace hcall : Calls Tryz.prog 62 #[.agg #[.string ⟨#[]⟩, .bool false, .bool false, .string ⟨#[]⟩, .string ⟨#[]⟩], .agg #[.string y.key, .bool y.was, .bool y.is, .string y.before, .string y.after], .bool false, .bool true, p] W3 fun r w' => r = .returned (.tuple #[]) ∧ R (evs ++ [⟨zC, y, false, true⟩]) w' := hcall
            refine hcall.mono ?_
            rintro e w9 ⟨rfl, hR9⟩
            go_wp2_with fail
            refine ⟨?rel, ?measure⟩
            case rel => exact ⟨(x :: a'), b', evs ++ [⟨zC, y, false, true⟩], hA, hTb, by rw [hev']; simp, hR9⟩
            case measure => simp [lenS]
          · have hk : x.key = y.key := by
              by_cases e : x.key = y.key
              · exact e
              · exact absurd (klt_total g1 e) g2
            have g3 : (x.key.toList == y.key.toList) = true := by rw [hk]; simp
            have g4 : (y.key.toList == x.key.toList) = true := by rw [hk]; simp
            simp only [g1, g2, decide_false] at q1 q2
            have G1 := Lib.hid hk
            clear g1 g2 hk
            have hev' : bothL a b = evs ++ ⟨x, y, true, true⟩ :: bothL a' b' := by rw [hev, bothL_eq _ _ _ _ G1.out]
            go_wp2_with fail
            go_quiet (fail)
            go_wp2_with fail
            go_quiet (fail)
            generalize hW1 : World.drewN (World.drewN wr _) _ = W1
            have hx1 : Ext [] wr W1 := by rw [← hW1]; exact Ext.drewN (Ext.drewN (Ext.refl [] wr) _) _
            clear hW1
            obtain ⟨W2, hW2, hx2, h8, h9, hz1⟩ := twoNew hx1
            obtain ⟨⟨p0, p1, p2, p3, p4⟩, e0, e1, e2, e3, e4⟩ := c5 h8
            obtain ⟨⟨r0, r1, r2, r3, r4⟩, f0, f1, f2, f3, f4⟩ := c5 h9
            have dx0 := hx2.cell cx0 (by simp)
            have dx1 := hx2.cell cx1 (by simp)
            have dx2 := hx2.cell cx2 (by simp)
            have dx3 := hx2.cell cx3 (by simp)
            have dx4 := hx2.cell cx4 (by simp)
            have dy0 := hx2.cell cy0 (by simp)
            have dy1 := hx2.cell cy1 (by simp)
            have dy2 := hx2.cell cy2 (by simp)
            have dy3 := hx2.cell cy3 (by simp)
            have dy4 := hx2.cell cy4 (by simp)
            go_wp2_with fail
            rw [← hW2]
            clear hW2
            obtain ⟨W3, hW3, hn3, hxx3⟩ := put5_new (a' := .string x.key) (b' := .bool x.was) (c' := .bool x.is) (d' := .string x.before) (e' := .string x.after) h8
            go_region
            rw [← hW3]
            have h83 : W3.heap[W1.heap.size]? = some (.cells #[.string x.key, .bool x.was, .bool x.is, .string x.before, .string x.after] 138 (0, 0)) := hn3
            have h93 := hxx3.keep h9 (by simp)
            have hx3 : Ext [] wr W3 := hx2.step hxx3 (by simp; omega)
            clear hW3 p0 p1 p2 p3 p4 r0 r1 r2 r3 r4 e0 e1 e2 e3 e4 f0 f1 f2 f3 f4
            obtain ⟨⟨p0, p1, p2, p3, p4⟩, e0, e1, e2, e3, e4⟩ := c5 h83
            obtain ⟨⟨r0, r1, r2, r3, r4⟩, f0, f1, f2, f3, f4⟩ := c5 h93
            have hne : ∀ k, (⟨gb, k, none⟩ : Addr).block ∉ [W1.heap.size] := by intro k; simp; have := hgb; omega
            have g0 := hxx3.cell dy0 (hne _)
            have g1 := hxx3.cell dy1 (hne _)
            have g2 := hxx3.cell dy2 (hne _)
            have g3 := hxx3.cell dy3 (hne _)
            have g4 := hxx3.cell dy4 (hne _)
            clear dy0 dy1 dy2 dy3 dy4
            go_wp2_with fail
            obtain ⟨W4, hW4, hn4, hxx4⟩ := put5_new (a' := .string y.key) (b' := .bool y.was) (c' := .bool y.is) (d' := .string y.before) (e' := .string y.after) h93
            go_region
            rw [← hW4]
            have h94 : W4.heap[W1.heap.size + 1]? = some (.cells #[.string y.key, .bool y.was, .bool y.is, .string y.before, .string y.after] 138 (0, 0)) := hn4
            have h84 := hxx4.keep h83 (by simp)
            have hx4 : Ext [] wr W4 := hx3.step hxx4 (by simp; omega)
            clear hW4 p0 p1 p2 p3 p4 r0 r1 r2 r3 r4 e0 e1 e2 e3 e4 f0 f1 f2 f3 f4
            obtain ⟨⟨p0, p1, p2, p3, p4⟩, e0, e1, e2, e3, e4⟩ := c5 h84
            obtain ⟨⟨r0, r1, r2, r3, r4⟩, f0, f1, f2, f3, f4⟩ := c5 h94
            go_wp2_with fail
            have hcall := hst evs ⟨x, y, true, true⟩ _ _ W4 hev' hR hx4
            replace hcall : Calls Tryz.prog 62 #[.agg #[.string x.key, .bool x.was, .bool x.is, .string x.before, .string x.after], .agg #[.string y.key, .bool y.was, .bool y.is, .string y.before, .string y.after], .bool true, .bool true, p] W4 fun r w' => r = .returned (.tuple #[]) ∧ R (evs ++ [⟨x, y, true, true⟩]) w' := hcall
            refine hcall.mono ?_
            rintro e w9 ⟨rfl, hR9⟩
            go_wp2_with fail
            refine ⟨?rel, ?measure⟩
            case rel => exact ⟨a', b', evs ++ [⟨x, y, true, true⟩], hTa, hTb, by rw [hev']; simp, hR9⟩
            case measure => simp [lenS]; omega
end Go.Proofs.YtfadbmfkidiaoaaGreatDoor
