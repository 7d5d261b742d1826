/- Two lists of changes gone over together: a function with two captured cells. Valid deltas. -/
import Derived.Test.YtfadbmfkidiaoaaGreatDoorZ40
namespace Go.Proofs.YtfadbmfkidiaoaaGreatDoor
open Go.RowKit Go
set_option linter.unusedSimpArgs false
set_option linter.unusedVariables false
set_option linter.unusedSectionVars false
set_option linter.unnecessarySimpa false

set_option maxRecDepth 100000 in
set_option maxHeartbeats 8000000 in
theorem both65_any (a b : List Chg) (ga gb : Nat) (va vb p q : Value) (R : List Ev → World → Prop) (w : World) (hgb : gb < w.heap.size) (hz : ∀ evs W, R evs W → w.heap.size ≤ W.heap.size)
    (hRA : ∀ evs W W', R evs W → Ext [] W W' → Vw W' ga 138 5 va a.length (ccs a)) (hRB : ∀ evs W W', R evs W → Ext [] W W' → Vw W' gb 138 5 vb b.length (ccs b))
    (hst : ∀ evs e rest W W', bothL a b = evs ++ e :: rest → R evs W → Ext [] W W' → Calls Tryz.prog 65 #[cgV e.x, cgV e.y, .bool e.a, .bool e.b, p, q] W' fun r w' => r = .returned (.tuple #[]) ∧ R (evs ++ [e]) w')
    (h0 : R [] w) : Calls Tryz.prog 60 #[va, vb, .func (.func 65) #[] #[p, q]] w fun r w' => r = .returned (.tuple #[]) ∧ R (bothL a b) w' := by
  have hva := hRA [] w w h0 (Ext.refl _ _)
  have hvb := hRB [] w w h0 (Ext.refl _ _)
  obtain ⟨Aa, ca, rfl, _⟩ := hva.form
  obtain ⟨Ab, cb, rfl, _⟩ := hvb.form
  have ha0 : VT ga (.slice Aa a.length ca) a (.slice Aa a.length ca) a := VT.start
  have hb0 : VT gb (.slice Ab b.length cb) b (.slice Ab b.length cb) b := VT.start
  generalize hva' : Value.slice Aa a.length ca = va at *
  generalize hvb' : Value.slice Ab b.length cb = vb at *
  clear hva hvb
  go_enter Tryz.func60, Tryz.ntmps60
  go_wp2_with fail
  go_loopw [0, 1] (BoRel ga gb va vb a b R) (fun t0 t1 _ => lenS t0 + lenS t1)
  case atStart => exact ⟨a, b, [], ha0, hb0, rfl, h0⟩
  case round =>
    obtain ⟨a', b', evs, hA, hB, hev, hR⟩ := hrel
    have hgb : gb < wr.heap.size := by have := hz _ _ hR; omega
    clear h0 ha0 hb0 hva' hvb' hz
    cases a' with
    | nil =>
      obtain ⟨A, c, rfl⟩ := hA.nil_
      cases b' with
      | nil =>
        obtain ⟨B, d, rfl⟩ := hB.nil_
        go_wp2_with fail
        go_end0
        refine ⟨rfl, ?_⟩
        rw [hev, bothL_nil_left, List.map_nil, List.append_nil]; exact hR
      | cons y b' =>
        obtain ⟨o, c, A', rfl, hc, hsl, hTb, cy0, cy1, cy2, cy3, cy4⟩ := hB.tail (hRB evs _ _ hR (Ext.refl _ _))
        have hev' : bothL a b = evs ++ ⟨zC, y, false, true⟩ :: bothL [] b' := by rw [hev, bothL_nil_left, bothL_nil_left]; rfl
        go_wp2_with fail
        go_quiet (fail)
        go_wp2_with fail
        go_quiet (fail)
        generalize hW1 : World.drewN (World.drewN wr _) _ = W1
        have hx1 : Ext [] wr W1 := by rw [← hW1]; exact Ext.drewN (Ext.drewN (Ext.refl [] wr) _) _
        clear hW1
        obtain ⟨W2, hW2, hx2, h8, h9, hz1⟩ := twoNew hx1
        obtain ⟨⟨p0, p1, p2, p3, p4⟩, e0, e1, e2, e3, e4⟩ := c5 h8
        obtain ⟨⟨r0, r1, r2, r3, r4⟩, f0, f1, f2, f3, f4⟩ := c5 h9
        have dy0 := hx2.cell cy0 (by simp)
        have dy1 := hx2.cell cy1 (by simp)
        have dy2 := hx2.cell cy2 (by simp)
        have dy3 := hx2.cell cy3 (by simp)
        have dy4 := hx2.cell cy4 (by simp)
        go_wp2_with fail
        rw [← hW2]
        clear hW2
        obtain ⟨W3, hW3, hn3, hxx3⟩ := put5_new (a' := .string y.key) (b' := .bool y.was) (c' := .bool y.is) (d' := .string y.before) (e' := .string y.after) h9
        go_region
        rw [← hW3]
        have h93 : W3.heap[W1.heap.size + 1]? = some (.cells #[.string y.key, .bool y.was, .bool y.is, .string y.before, .string y.after] 138 (0, 0)) := hn3
        have h83 := hxx3.keep h8 (by simp)
        have hx3 : Ext [] wr W3 := hx2.step hxx3 (by simp; omega)
        clear hW3 p0 p1 p2 p3 p4 r0 r1 r2 r3 r4 e0 e1 e2 e3 e4 f0 f1 f2 f3 f4
        obtain ⟨⟨p0, p1, p2, p3, p4⟩, e0, e1, e2, e3, e4⟩ := c5 h83
        obtain ⟨⟨r0, r1, r2, r3, r4⟩, f0, f1, f2, f3, f4⟩ := c5 h93
        go_wp2_with fail
        have hcall := hst evs ⟨zC, y, false, true⟩ _ _ W3 hev' hR hx3
        replace hcall : Calls Tryz.prog 65 #[.agg #[.string ⟨#[]⟩, .bool false, .bool false, .string ⟨#[]⟩, .string ⟨#[]⟩], .agg #[.string y.key, .bool y.was, .bool y.is, .string y.before, .string y.after], .bool false, .bool true, p, q] W3 fun r w' => r = .returned (.tuple #[]) ∧ R (evs ++ [⟨zC, y, false, true⟩]) w' := hcall
        refine hcall.mono ?_
        rintro e w9 ⟨rfl, hR9⟩
        go_wp2_with fail
        refine ⟨?rel, ?measure⟩
        case rel => exact ⟨[], b', evs ++ [⟨zC, y, false, true⟩], hA, hTb, by rw [hev']; simp, hR9⟩
        case measure => simp [lenS]
    | cons x a' =>
      obtain ⟨o, c, A', rfl, hc, hsl, hTa, cx0, cx1, cx2, cx3, cx4⟩ := hA.tail (hRA evs _ _ hR (Ext.refl _ _))
      cases b' with
      | nil =>
        obtain ⟨B, d, rfl⟩ := hB.nil_
        have hev' : bothL a b = evs ++ ⟨x, zC, true, false⟩ :: bothL a' [] := by rw [hev, bothL_nil_right, bothL_nil_right]; rfl
        go_wp2_with fail
        go_quiet (fail)
        go_wp2_with fail
        go_quiet (fail)
        generalize hW1 : World.drewN (World.drewN wr _) _ = W1
        have hx1 : Ext [] wr W1 := by rw [← hW1]; exact Ext.drewN (Ext.drewN (Ext.refl [] wr) _) _
        clear hW1
        obtain ⟨W2, hW2, hx2, h8, h9, hz1⟩ := twoNew hx1
        obtain ⟨⟨p0, p1, p2, p3, p4⟩, e0, e1, e2, e3, e4⟩ := c5 h8
        obtain ⟨⟨r0, r1, r2, r3, r4⟩, f0, f1, f2, f3, f4⟩ := c5 h9
        have dx0 := hx2.cell cx0 (by simp)
        have dx1 := hx2.cell cx1 (by simp)
        have dx2 := hx2.cell cx2 (by simp)
        have dx3 := hx2.cell cx3 (by simp)
        have dx4 := hx2.cell cx4 (by simp)
        go_wp2_with fail
        rw [← hW2]
        clear hW2
        obtain ⟨W3, hW3, hn3, hxx3⟩ := put5_new (a' := .string x.key) (b' := .bool x.was) (c' := .bool x.is) (d' := .string x.before) (e' := .string x.after) h8
        go_region
        rw [← hW3]
        have h83 : W3.heap[W1.heap.size]? = some (.cells #[.string x.key, .bool x.was, .bool x.is, .string x.before, .string x.after] 138 (0, 0)) := hn3
        have h93 := hxx3.keep h9 (by simp)
        have hx3 : Ext [] wr W3 := hx2.step hxx3 (by simp; omega)
        clear hW3 p0 p1 p2 p3 p4 r0 r1 r2 r3 r4 e0 e1 e2 e3 e4 f0 f1 f2 f3 f4
        obtain ⟨⟨p0, p1, p2, p3, p4⟩, e0, e1, e2, e3, e4⟩ := c5 h83
        obtain ⟨⟨r0, r1, r2, r3, r4⟩, f0, f1, f2, f3, f4⟩ := c5 h93
        go_wp2_with fail
        have hcall := hst evs ⟨x, zC, true, false⟩ _ _ W3 hev' hR hx3
        replace hcall : Calls Tryz.prog 65 #[.agg #[.string x.key, .bool x.was, .bool x.is, .string x.before, .string x.after], .agg #[.string ⟨#[]⟩, .bool false, .bool false, .string ⟨#[]⟩, .string ⟨#[]⟩], .bool true, .bool false, p, q] W3 fun r w' => r = .returned (.tuple #[]) ∧ R (evs ++ [⟨x, zC, true, false⟩]) w' := hcall
        refine hcall.mono ?_
        rintro e w9 ⟨rfl, hR9⟩
        go_wp2_with fail
        refine ⟨?rel, ?measure⟩
        case rel => exact ⟨a', [], evs ++ [⟨x, zC, true, false⟩], hTa, hB, by rw [hev']; simp, hR9⟩
        case measure => simp [lenS]
      | cons y b' =>
        obtain ⟨ob, cb', B', rfl, hcb, hslb, hTb, cy0, cy1, cy2, cy3, cy4⟩ := hB.tail (hRB evs _ _ hR (Ext.refl _ _))
        have q1 := bless x.key y.key
        have q2 := bless y.key x.key
        by_cases g1 : klt x.key y.key
        · have g2 := klt_asymm g1
          have g3 : (x.key.toList == y.key.toList) = false := by
            rw [beq_eq_false_iff_ne]; intro h; rw [Lib.toList_data, Lib.toList_data] at h; rw [ba_ext h] at g1; exact klt_irrefl _ g1
          have g4 : (y.key.toList == x.key.toList) = false := by
            rw [beq_eq_false_iff_ne] at g3 ⊢; exact fun h => g3 h.symm
          simp only [g1, g2, decide_true, decide_false] at q1 q2
          have G1 := Lib.hid g1
          clear g1 g2
          have hev' : bothL a b = evs ++ ⟨x, zC, true, false⟩ :: bothL a' (y :: b') := by rw [hev, bothL_lt _ _ _ _ G1.out]
          go_wp2_with fail
          go_quiet (fail)
          go_wp2_with fail
          go_quiet (fail)
          generalize hW1 : World.drewN (World.drewN wr _) _ = W1
          have hx1 : Ext [] wr W1 := by rw [← hW1]; exact Ext.drewN (Ext.drewN (Ext.refl [] wr) _) _
          clear hW1
          obtain ⟨W2, hW2, hx2, h8, h9, hz1⟩ := twoNew hx1
          obtain ⟨⟨p0, p1, p2, p3, p4⟩, e0, e1, e2, e3, e4⟩ := c5 h8
          obtain ⟨⟨r0, r1, r2, r3, r4⟩, f0, f1, f2, f3, f4⟩ := c5 h9
          have dx0 := hx2.cell cx0 (by simp)
          have dx1 := hx2.cell cx1 (by simp)
          have dx2 := hx2.cell cx2 (by simp)
          have dx3 := hx2.cell cx3 (by simp)
          have dx4 := hx2.cell cx4 (by simp)
          go_wp2_with fail
          rw [← hW2]
          clear hW2
          obtain ⟨W3, hW3, hn3, hxx3⟩ := put5_new (a' := .string x.key) (b' := .bool x.was) (c' := .bool x.is) (d' := .string x.before) (e' := .string x.after) h8
          go_region
          rw [← hW3]
          have h83 : W3.heap[W1.heap.size]? = some (.cells #[.string x.key, .bool x.was, .bool x.is, .string x.before, .string x.after] 138 (0, 0)) := hn3
          have h93 := hxx3.keep h9 (by simp)
          have hx3 : Ext [] wr W3 := hx2.step hxx3 (by simp; omega)
          clear hW3 p0 p1 p2 p3 p4 r0 r1 r2 r3 r4 e0 e1 e2 e3 e4 f0 f1 f2 f3 f4
          obtain ⟨⟨p0, p1, p2, p3, p4⟩, e0, e1, e2, e3, e4⟩ := c5 h83
          obtain ⟨⟨r0, r1, r2, r3, r4⟩, f0, f1, f2, f3, f4⟩ := c5 h93
          go_wp2_with fail
          have hcall := hst evs ⟨x, zC, true, false⟩ _ _ W3 hev' hR hx3
          replace hcall : Calls Tryz.prog 65 #[.agg #[.string x.key, .bool x.was, .bool x.is, .string x.before, .string x.after], .agg #[.string ⟨#[]⟩, .bool false, .bool false, .string ⟨#[]⟩, .string ⟨#[]⟩], .bool true, .bool false, p, q] W3 fun r w' => r = .returned (.tuple #[]) ∧ R (evs ++ [⟨x, zC, true, false⟩]) w' := hcall
          refine hcall.mono ?_
          rintro e w9 ⟨rfl, hR9⟩
          go_wp2_with fail
          refine ⟨?rel, ?measure⟩
          case rel => exact ⟨a', (y :: b'), evs ++ [⟨x, zC, true, false⟩], hTa, hB, by rw [hev']; simp, hR9⟩
          case measure => simp [lenS]
        · by_cases g2 : klt y.key x.key
          · have g3 : (x.key.toList == y.key.toList) = false := by
              rw [beq_eq_false_iff_ne]; intro h; rw [Lib.toList_data, Lib.toList_data] at h; rw [ba_ext h] at g2; exact klt_irrefl _ g2
            have g4 : (y.key.toList == x.key.toList) = false := by
              rw [beq_eq_false_iff_ne] at g3 ⊢; exact fun h => g3 h.symm
            simp only [g1, g2, decide_true, decide_false] at q1 q2
            have G1 := Lib.hid g2
            clear g1 g2
            have hev' : bothL a b = evs ++ ⟨zC, y, false, true⟩ :: bothL (x :: a') b' := by rw [hev, bothL_gt _ _ _ _ G1.out]
            go_wp2_with fail
            go_quiet (fail)
            go_wp2_with fail
            go_quiet (fail)
            generalize hW1 : World.drewN (World.drewN wr _) _ = W1
            have hx1 : Ext [] wr W1 := by rw [← hW1]; exact Ext.drewN (Ext.drewN (Ext.refl [] wr) _) _
            clear hW1
            obtain ⟨W2, hW2, hx2, h8, h9, hz1⟩ := twoNew hx1
            obtain ⟨⟨p0, p1, p2, p3, p4⟩, e0, e1, e2, e3, e4⟩ := c5 h8
            obtain ⟨⟨r0, r1, r2, r3, r4⟩, f0, f1, f2, f3, f4⟩ := c5 h9
            have dy0 := hx2.cell cy0 (by simp)
            have dy1 := hx2.cell cy1 (by simp)
            have dy2 := hx2.cell cy2 (by simp)
            have dy3 := hx2.cell cy3 (by simp)
            have dy4 := hx2.cell cy4 (by simp)
            go_wp2_with fail
            rw [← hW2]
            clear hW2
            obtain ⟨W3, hW3, hn3, hxx3⟩ := put5_new (a' := .string y.key) (b' := .bool y.was) (c' := .bool y.is) (d' := .string y.before) (e' := .string y.after) h9
            go_region
            rw [← hW3]
            have h93 : W3.heap[W1.heap.size + 1]? = some (.cells #[.string y.key, .bool y.was, .bool y.is, .string y.before, .string y.after] 138 (0, 0)) := hn3
            have h83 := hxx3.keep h8 (by simp)
            have hx3 : Ext [] wr W3 := hx2.step hxx3 (by simp; omega)
            clear hW3 p0 p1 p2 p3 p4 r0 r1 r2 r3 r4 e0 e1 e2 e3 e4 f0 f1 f2 f3 f4
            obtain ⟨⟨p0, p1, p2, p3, p4⟩, e0, e1, e2, e3, e4⟩ := c5 h83
            obtain ⟨⟨r0, r1, r2, r3, r4⟩, f0, f1, f2, f3, f4⟩ := c5 h93
            go_wp2_with fail
            have hcall := hst evs ⟨zC, y, false, true⟩ _ _ W3 hev' hR hx3
            replace hcall : Calls Tryz.prog 65 #[.agg #[.string ⟨#[]⟩, .bool false, .bool false, .string ⟨#[]⟩, .string ⟨#[]⟩], .agg #[.string y.key, .bool y.was, .bool y.is, .string y.before, .string y.after], .bool false, .bool true, p, q] W3 fun r w' => r = .returned (.tuple #[]) ∧ R (evs ++ [⟨zC, y, false, true⟩]) w' := hcall
            refine hcall.mono ?_
            rintro e w9 ⟨rfl, hR9⟩
            go_wp2_with fail
            refine ⟨?rel, ?measure⟩
            case rel => exact ⟨(x :: a'), b', evs ++ [⟨zC, y, false, true⟩], hA, hTb, by rw [hev']; simp, hR9⟩
            case measure => simp [lenS]
          · have hk : x.key = y.key := by
              by_cases e : x.key = y.key
              · exact e
              · exact absurd (klt_total g1 e) g2
            have g3 : (x.key.toList == y.key.toList) = true := by rw [hk]; simp
            have g4 : (y.key.toList == x.key.toList) = true := by rw [hk]; simp
            simp only [g1, g2, decide_false] at q1 q2
            have G1 := Lib.hid hk
            clear g1 g2 hk
            have hev' : bothL a b = evs ++ ⟨x, y, true, true⟩ :: bothL a' b' := by rw [hev, bothL_eq _ _ _ _ G1.out]
            go_wp2_with fail
            go_quiet (fail)
            go_wp2_with fail
            go_quiet (fail)
            generalize hW1 : World.drewN (World.drewN wr _) _ = W1
            have hx1 : Ext [] wr W1 := by rw [← hW1]; exact Ext.drewN (Ext.drewN (Ext.refl [] wr) _) _
            clear hW1
            obtain ⟨W2, hW2, hx2, h8, h9, hz1⟩ := twoNew hx1
            obtain ⟨⟨p0, p1, p2, p3, p4⟩, e0, e1, e2, e3, e4⟩ := c5 h8
            obtain ⟨⟨r0, r1, r2, r3, r4⟩, f0, f1, f2, f3, f4⟩ := c5 h9
            have dx0 := hx2.cell cx0 (by simp)
            have dx1 := hx2.cell cx1 (by simp)
            have dx2 := hx2.cell cx2 (by simp)
            have dx3 := hx2.cell cx3 (by simp)
            have dx4 := hx2.cell cx4 (by simp)
            have dy0 := hx2.cell cy0 (by simp)
            have dy1 := hx2.cell cy1 (by simp)
            have dy2 := hx2.cell cy2 (by simp)
            have dy3 := hx2.cell cy3 (by simp)
            have dy4 := hx2.cell cy4 (by simp)
            go_wp2_with fail
            rw [← hW2]
            clear hW2
            obtain ⟨W3, hW3, hn3, hxx3⟩ := put5_new (a' := .string x.key) (b' := .bool x.was) (c' := .bool x.is) (d' := .string x.before) (e' := .string x.after) h8
            go_region
            rw [← hW3]
            have h83 : W3.heap[W1.heap.size]? = some (.cells #[.string x.key, .bool x.was, .bool x.is, .string x.before, .string x.after] 138 (0, 0)) := hn3
            have h93 := hxx3.keep h9 (by simp)
            have hx3 : Ext [] wr W3 := hx2.step hxx3 (by simp; omega)
            clear hW3 p0 p1 p2 p3 p4 r0 r1 r2 r3 r4 e0 e1 e2 e3 e4 f0 f1 f2 f3 f4
            obtain ⟨⟨p0, p1, p2, p3, p4⟩, e0, e1, e2, e3, e4⟩ := c5 h83
            obtain ⟨⟨r0, r1, r2, r3, r4⟩, f0, f1, f2, f3, f4⟩ := c5 h93
            have hne : ∀ k, (⟨gb, k, none⟩ : Addr).block ∉ [W1.heap.size] := by intro k; simp; have := hgb; omega
            have g0 := hxx3.cell dy0 (hne _)
            have g1 := hxx3.cell dy1 (hne _)
            have g2 := hxx3.cell dy2 (hne _)
            have g3 := hxx3.cell dy3 (hne _)
            have g4 := hxx3.cell dy4 (hne _)
            clear dy0 dy1 dy2 dy3 dy4
            go_wp2_with fail
            obtain ⟨W4, hW4, hn4, hxx4⟩ := put5_new (a' := .string y.key) (b' := .bool y.was) (c' := .bool y.is) (d' := .string y.before) (e' := .string y.after) h93
            go_region
            rw [← hW4]
            have h94 : W4.heap[W1.heap.size + 1]? = some (.cells #[.string y.key, .bool y.was, .bool y.is, .string y.before, .string y.after] 138 (0, 0)) := hn4
            have h84 := hxx4.keep h83 (by simp)
            have hx4 : Ext [] wr W4 := hx3.step hxx4 (by simp; omega)
            clear hW4 p0 p1 p2 p3 p4 r0 r1 r2 r3 r4 e0 e1 e2 e3 e4 f0 f1 f2 f3 f4
            obtain ⟨⟨p0, p1, p2, p3, p4⟩, e0, e1, e2, e3, e4⟩ := c5 h84
            obtain ⟨⟨r0, r1, r2, r3, r4⟩, f0, f1, f2, f3, f4⟩ := c5 h94
            go_wp2_with fail
            have hcall := hst evs ⟨x, y, true, true⟩ _ _ W4 hev' hR hx4
            replace hcall : Calls Tryz.prog 65 #[.agg #[.string x.key, .bool x.was, .bool x.is, .string x.before, .string x.after], .agg #[.string y.key, .bool y.was, .bool y.is, .string y.before, .string y.after], .bool true, .bool true, p, q] W4 fun r w' => r = .returned (.tuple #[]) ∧ R (evs ++ [⟨x, y, true, true⟩]) w' := hcall
            refine hcall.mono ?_
            rintro e w9 ⟨rfl, hR9⟩
            go_wp2_with fail
            refine ⟨?rel, ?measure⟩
            case rel => exact ⟨a', b', evs ++ [⟨x, y, true, true⟩], hTa, hTb, by rw [hev']; simp, hR9⟩
            case measure => simp [lenS]; omega
end Go.Proofs.YtfadbmfkidiaoaaGreatDoor

namespace Go.Proofs.YtfadbmfkidiaoaaGreatDoor
open Go.RowKit Go
set_option linter.unusedSimpArgs false
set_option linter.unusedVariables false
set_option linter.unusedSectionVars false
set_option linter.unnecessarySimpa false

theorem beq_ba (a b : ByteArray) : (a.toList == b.toList) = decide (a = b) := by
  rw [Bool.eq_iff_iff, beq_iff_eq, decide_eq_true_eq, Lib.toList_data, Lib.toList_data]
  exact ⟨ba_ext, fun h => by rw [h]⟩
set_option maxRecDepth 100000 in
set_option maxHeartbeats 1600000 in
theorem same_any (c : Chg) (w : World) :
    Calls Tryz.prog 63 #[.agg #[.string c.key, .bool c.was, .bool c.is, .string c.before, .string c.after]] w fun e w' => e = .returned (.bool (sameC c)) ∧ Ext [] w w' := by
  have hx : Ext [] w (w.alloc (.cells #[.string c.key, .bool c.was, .bool c.is, .string c.before, .string c.after] 138)) := (Ext.refl [] w).alloc _
  have hq := beq_ba c.before c.after
  unfold sameC
  obtain ⟨key, was, is, before, after⟩ := c
  simp only at hq hx ⊢
  cases was <;> cases is
  all_goals (
    go_enter Tryz.func63, Tryz.ntmps63
    go_wp2_with fail
    go_ret
    first
      | exact ⟨rfl, hx⟩
      | exact ⟨ret1 (vb (by rw [hq]; simp)), hx⟩)
set_option maxRecDepth 100000 in
set_option maxHeartbeats 1600000 in
theorem allowed_any (k v : ByteArray) (w : World) (h8 : 8 ≤ w.heap.size) (hk1 : 1 ≤ k.size) (hk2 : k.size ≤ 24) (hv : v.size ≤ 40) :
    Calls Tryz.prog 122 #[.string k, .string v] w fun e w' => e = .returned (.bool true) ∧ Ext [] w w' := by
  obtain ⟨g', hm, hg⟩ := mdl_new (w := w) (g := w.heap.size) (v := .slice none 0 0) (l := []) .nil h8 h8
  obtain rfl : g' = w.heap.size := by rcases hg with h | h <;> exact h
  have hx : Ext [] w (w.alloc (.cells #[.slice none 0 0] 34)) := (Ext.refl [] w).alloc _
  have hput := put_any _ _ [] k v _ hm (by simp) (by simp [Srt]) hk1 hk2 hv
  go_enter Tryz.func122, Tryz.ntmps122
  go_wp2_with fail
  refine hput.mono ?_
  rintro e w1 ⟨rfl, g1, _, _, hx1⟩
  go_wp2_with fail
  go_ret
  exact ⟨rfl, hx.step hx1 (by simp)⟩
end Go.Proofs.YtfadbmfkidiaoaaGreatDoor
