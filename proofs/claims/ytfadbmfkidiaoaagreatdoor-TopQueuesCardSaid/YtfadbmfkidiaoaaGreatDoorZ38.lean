/- An index made. -/
import Derived.Test.YtfadbmfkidiaoaaGreatDoorZ37
import Derived.Deep.DeepCutAuto
namespace Go.Proofs.YtfadbmfkidiaoaaGreatDoor
open Go.RowKit Go Go.MapKept
set_option linter.unusedSimpArgs false
set_option linter.unusedVariables false
set_option linter.unusedSectionVars false
set_option linter.unnecessarySimpa false

def MaCut (w W0 : World) (a : Value) (wx : World) : Prop := ∃ b bm gk gr ck cr, a = .pointer (some ⟨b, 0, none⟩) ∧ wx.heap[b]? = some (.cells #[.int .i64 1, .slice (some ⟨gk, 0, none⟩) 3 ck, .slice (some ⟨gr, 0, none⟩) 4 cr, .slice none 0 0, .pointer (some ⟨bm, 0, none⟩)] 155 (0, 0)) ∧ wx.heap[bm]? = some (.cells #[.slice none 0 0] 34 (0, 0)) ∧
  Vw wx gk 52 1 (.slice (some ⟨gk, 0, none⟩) 3 ck) 3 (nts [1, 1, 1]) ∧ Vw wx gr 52 1 (.slice (some ⟨gr, 0, none⟩) 4 cr) 4 (nts [1, 3, 1, 1]) ∧ b ≠ gk ∧ b ≠ gr ∧ b ≠ bm ∧ w.heap.size ≤ b ∧ w.heap.size ≤ bm ∧ (w.heap.size ≤ gk ∧ w.heap.size ≤ gr) ∧ gk < wx.heap.size ∧ gr < wx.heap.size ∧ Ext [] W0 wx
def Held3c (B : Nat) (v0 v1 v2 : Value) (w W : World) : Prop := W.cell? ⟨B, 0, none⟩ = some v0 ∧ W.cell? ⟨B, 1, none⟩ = some v1 ∧ W.cell? ⟨B, 2, none⟩ = some v2 ∧ Ext [] w W
theorem Held3c.ext {B : Nat} {v0 v1 v2 : Value} {w W W' : World} (h : Held3c B v0 v1 v2 w W) (hx : Ext [] W W') : Held3c B v0 v1 v2 w W' := by
  obtain ⟨h0, h1, h2, h3⟩ := h
  exact ⟨hx.cell h0 (by simp), hx.cell h1 (by simp), hx.cell h2 (by simp), h3.trans hx⟩
theorem Held3c.al {B : Nat} {v0 v1 v2 : Value} {w W : World} {o : Obj} (h : Held3c B v0 v1 v2 w W) : Held3c B v0 v1 v2 w (W.alloc o) := h.ext ((Ext.refl [] W).alloc o)
theorem conj3' {p0 p1 p2 : Prop} {w W : World} (h : p0 ∧ p1 ∧ p2 ∧ Ext [] w W) : Ext [] w W := h.2.2.2
theorem T129 : SlT Tryz.prog 129 60 3 40 := slT_mk (z := .agg #[.int .i64 0, .slice none 0 0, .bool false]) Tryz.underlying129 (by kernel_rfl) rfl (by omega)
theorem Held3t.ext {B : Nat} {v0 v1 v2 : Value} {W W' : World} {S : List Nat} (h : W.cell? ⟨B, 0, none⟩ = some v0 ∧ W.cell? ⟨B, 1, none⟩ = some v1 ∧ W.cell? ⟨B, 2, none⟩ = some v2) (hx : Ext S W W') (hS : B ∉ S) : W'.cell? ⟨B, 0, none⟩ = some v0 ∧ W'.cell? ⟨B, 1, none⟩ = some v1 ∧ W'.cell? ⟨B, 2, none⟩ = some v2 :=
  ⟨hx.cell h.1 hS, hx.cell h.2.1 hS, hx.cell h.2.2 hS⟩
def MadePost (w : World) (e : Ending) (w' : World) : Prop := ∃ b bm g vk vr vx vc gk' gr' gx' gc', e = .returned (.tuple #[.pointer (some ⟨b, 0, none⟩), .int .i64 0]) ∧ Bs w' b bm g vk vr vx vc gk' gr' gx' gc' [] ∧ w.heap.size ≤ b ∧ b < w'.heap.size ∧ (w.heap.size ≤ bm ∧ w.heap.size ≤ g ∧ w.heap.size ≤ gk' ∧ w.heap.size ≤ gr' ∧ w.heap.size ≤ gx' ∧ w.heap.size ≤ gc') ∧ Ext [] w w'
theorem zero4 (w : World) : (zeroValue 4).run Tryz.prog w = .ok (.bool false) w := by
  have h : Tryz.t4.zero = some (.bool false) := by kernel_rfl
  simp [zeroValue, h]
def SeRel (W3 : World) (u : Nat) (iv : Value) (wl : World) : Prop := ∃ k : Nat, iv = .int .i64 k ∧ k ≤ 1 ∧ (k = 0 → wl = W3) ∧ Ext [u] W3 wl
/-- how far the indexes are made -/
def MaRel (w wm : World) (b bm gk gr ck cr u : Nat) (iv : Value) (wl : World) : Prop := ∃ (i gx2 gc2 cx2 cc2 : Nat) (A : Option Addr), iv = .int .i64 i ∧ i ≤ 1 ∧ (i = 0 → A = none ∧ cx2 = 0 ∧ wl = wm) ∧ wl.heap[b]? = some (.cells #[.int .i64 1, .slice (some ⟨gk, 0, none⟩) 3 ck, .slice (some ⟨gr, 0, none⟩) 4 cr, .slice A i cx2, .pointer (some ⟨bm, 0, none⟩)] 155 (0, 0)) ∧
  (i = 1 → Vw wl gx2 60 3 (.slice A i cx2) 1 [.int .i64 2, .slice (some ⟨gc2, 0, none⟩) 1 cc2, .bool false] ∧ Vw wl gc2 3 1 (.slice (some ⟨gc2, 0, none⟩) 1 cc2) 1 [.int .i64 6] ∧ gx2 < wl.heap.size ∧ gc2 < wl.heap.size ∧ b ≠ gx2 ∧ b ≠ gc2 ∧ wm.heap.size ≤ gx2 ∧ wm.heap.size ≤ gc2) ∧ Ext [b, u] wm wl
set_option maxRecDepth 100000 in
set_option maxHeartbeats 8000000 in
theorem made_any (gk gr gx gc ok or_ ox oc ck cr cx cc : Nat) (w : World) (hk : Vw w gk 52 1 (.slice (some ⟨gk, ok, none⟩) 3 ck) 3 (nts [1, 1, 1])) (hr : Vw w gr 52 1 (.slice (some ⟨gr, or_, none⟩) 4 cr) 4 (nts [1, 3, 1, 1])) (hxx : Vw w gx 60 3 (.slice (some ⟨gx, ox, none⟩) 1 cx) 1 [.int .i64 2, .slice (some ⟨gc, oc, none⟩) 1 cc, .bool false])
    (hc : Vw w gc 3 1 (.slice (some ⟨gc, oc, none⟩) 1 cc) 1 [.int .i64 6]) (hlt : gk < w.heap.size ∧ gr < w.heap.size ∧ gx < w.heap.size ∧ gc < w.heap.size) (h8 : 8 ≤ w.heap.size) :
    Calls Tryz.prog 50 #[.agg #[.int .i64 1, .slice (some ⟨gk, ok, none⟩) 3 ck, .slice (some ⟨gr, or_, none⟩) 4 cr], .slice (some ⟨gx, ox, none⟩) 1 cx] w (MadePost w) := by
  have hx0 : Ext [] w (w.alloc (.cells #[.int .i64 1, .slice (some ⟨gk, ok, none⟩) 3 ck, .slice (some ⟨gr, or_, none⟩) 4 cr] 55)) := (Ext.refl [] w).alloc _
  have hnb := heap_alloc_new w (.cells #[.int .i64 1, .slice (some ⟨gk, ok, none⟩) 3 ck, .slice (some ⟨gr, or_, none⟩) 4 cr] 55)
  have hz0 : (w.alloc (.cells #[.int .i64 1, .slice (some ⟨gk, ok, none⟩) 3 ck, .slice (some ⟨gr, or_, none⟩) 4 cr] 55)).heap.size = w.heap.size + 1 := by simp
  obtain ⟨W0, hW0⟩ : ∃ W0, W0 = (w.alloc (.cells #[.int .i64 1, .slice (some ⟨gk, ok, none⟩) 3 ck, .slice (some ⟨gr, or_, none⟩) 4 cr] 55)) := ⟨_, rfl⟩
  rw [← hW0] at hx0 hnb hz0
  have hval := valid_any 1 3 4 gk gr _ _ _ _ W0 (hk.ext hx0 (by simp)) (hr.ext hx0 (by simp)) (by omega) (by omega) (by omega) (by omega) (by simp [Kd]) (by simp [Kd])
  go_enter Tryz.func50, Tryz.ntmps50
  go_wp2_with fail
  rw [← hW0]
  clear hW0
  refine hval.mono ?_
  rintro e w1 ⟨rfl, hx1⟩
  clear hval
  have hx01 := hx0.trans hx1
  obtain ⟨⟨t0, t1, t2⟩, _⟩ := cells3 (hx1.keep hnb (by simp))
  have hck := fun W (hx : Ext [] w1 W) => cloneKind gk ok 3 ck _ W ((hk.ext hx01 (by simp)).ext hx (by simp)) (by omega) (by omega)
  have hcr := fun W (hx : Ext [] w1 W) => cloneKind gr or_ 4 cr _ W ((hr.ext hx01 (by simp)).ext hx (by simp)) (by omega) (by omega)
  have hpt : Held3c w.heap.size (.int .i64 1) (.slice (some ⟨gk, ok, none⟩) 3 ck) (.slice (some ⟨gr, or_, none⟩) 4 cr) w1 w1 := ⟨t0, t1, t2, Ext.refl _ _⟩
  go_upto_region 3 with fail
  go_cut [6] (fun a wx => MaCut w w1 a wx)
  case first =>
    go_region_held3 (fun W => W.cell? ⟨w.heap.size, 0, none⟩ = some (.int .i64 1) ∧ W.cell? ⟨w.heap.size, 1, none⟩ = some (.slice (some ⟨gk, ok, none⟩) 3 ck) ∧ W.cell? ⟨w.heap.size, 2, none⟩ = some (.slice (some ⟨gr, or_, none⟩) 4 cr) ∧ Ext [] w1 W)
      (first | exact Held3c.ext hpt (Ext.refl [] w1).drew | exact Held3c.al (by assumption) | exact Held3c.ext (by assumption) hxn)
      (first
        | (go_at_call 114; with_reducible refine (hck _ (conj3' (by assumption))).mono ?_; rintro e wa ⟨g5, c5', rfl, hr5, hg5, hxn⟩; have hxA := hxn)
        | (go_at_call 114; with_reducible refine (hcr _ (conj3' (by assumption))).mono ?_; rintro e wb ⟨g6, c6', rfl, hr6, hg6, hxn⟩; have hxB := hxn))
    · go_wp2_with fail
      go_meet
      case rel =>
        have z1 := hx01.size
        have za := hxA.size
        have zb := hxB.size
        have hd : w1.drew.heap.size = w1.heap.size := rfl
        have hl5 := hr5.blt (by omega)
        have hl6 := hr6.blt (by omega)
        have hy1 : Ext [] wb (wb.alloc (.cells #[.slice none 0 0] 34)) := (Ext.refl [] _).alloc _
        have hbm := heap_alloc_new wb (.cells #[.slice none 0 0] 34)
        have hy2 : Ext [] (wb.alloc (.cells #[.slice none 0 0] 34)) ((wb.alloc (.cells #[.slice none 0 0] 34)).alloc (.cells #[.int .i64 1, .slice (some ⟨g5, 0, none⟩) 3 c5', .slice (some ⟨g6, 0, none⟩) 4 c6', .slice none 0 0, .pointer (some ⟨wb.heap.size, 0, none⟩)] 155)) := (Ext.refl [] _).alloc _
        have hbb := heap_alloc_new (wb.alloc (.cells #[.slice none 0 0] 34)) (.cells #[.int .i64 1, .slice (some ⟨g5, 0, none⟩) 3 c5', .slice (some ⟨g6, 0, none⟩) 4 c6', .slice none 0 0, .pointer (some ⟨wb.heap.size, 0, none⟩)] 155)
        simp only [World.size_alloc] at hbb
        exact ⟨wb.heap.size + 1, wb.heap.size, g5, g6, c5', c6', rfl, hbb, hy2.keep hbm (by simp), ((hr5.ext hxB (by simp)).ext (hy1.trans hy2) (by simp)).vw, (hr6.ext (hy1.trans hy2) (by simp)).vw, by omega, by omega, by omega, by omega, by omega, ⟨by omega, by omega⟩, by simp; omega, by simp; omega, (((Ext.refl [] w1).drew.trans hxA).trans hxB).trans (hy1.trans hy2)⟩
    · go_wp2_with fail
      go_meet
      case rel =>
        have z1 := hx01.size
        have za := hxA.size
        have zb := hxB.size
        have hd : w1.drew.heap.size = w1.heap.size := rfl
        have hl5 := hr5.blt (by omega)
        have hl6 := hr6.blt (by omega)
        have hy1 : Ext [] wa (wa.alloc (.cells #[.slice none 0 0] 34)) := (Ext.refl [] _).alloc _
        have hbm := heap_alloc_new wa (.cells #[.slice none 0 0] 34)
        have hy2 : Ext [] wb (wb.alloc (.cells #[.int .i64 1, .slice (some ⟨g5, 0, none⟩) 3 c5', .slice (some ⟨g6, 0, none⟩) 4 c6', .slice none 0 0, .pointer (some ⟨wa.heap.size, 0, none⟩)] 155)) := (Ext.refl [] _).alloc _
        have hbb := heap_alloc_new wb (.cells #[.int .i64 1, .slice (some ⟨g5, 0, none⟩) 3 c5', .slice (some ⟨g6, 0, none⟩) 4 c6', .slice none 0 0, .pointer (some ⟨wa.heap.size, 0, none⟩)] 155)
        simp only [World.size_alloc] at zb hg6
        exact ⟨wb.heap.size, wa.heap.size, g5, g6, c5', c6', rfl, hbb, hy2.keep (hxB.keep hbm (by simp)) (by simp), (hr5.ext ((hy1.trans hxB).trans hy2) (by simp)).vw, (hr6.ext hy2 (by simp)).vw, by omega, by omega, by omega, by omega, by omega, ⟨by omega, by omega⟩, by simp; omega, by simp; omega, (((Ext.refl [] w1).drew.trans hxA).trans hy1).trans (hxB.trans hy2)⟩
    · go_wp2_with fail
      go_meet
      case rel =>
        have z1 := hx01.size
        have za := hxA.size
        have zb := hxB.size
        have hl5 := hr5.blt (by omega)
        have hl6 := hr6.blt (by omega)
        have hy1 : Ext [] w1 (w1.alloc (.cells #[.slice none 0 0] 34)).drew := ((Ext.refl [] _).alloc _).drew
        have hbm : (w1.alloc (.cells #[.slice none 0 0] 34)).drew.heap[w1.heap.size]? = some (.cells #[.slice none 0 0] 34 (0, 0)) := heap_alloc_new w1 (.cells #[.slice none 0 0] 34)
        have hd : (w1.alloc (.cells #[.slice none 0 0] 34)).drew.heap.size = w1.heap.size + 1 := World.size_alloc ..
        have hy2 : Ext [] wb (wb.alloc (.cells #[.int .i64 1, .slice (some ⟨g5, 0, none⟩) 3 c5', .slice (some ⟨g6, 0, none⟩) 4 c6', .slice none 0 0, .pointer (some ⟨w1.heap.size, 0, none⟩)] 155)) := (Ext.refl [] _).alloc _
        have hbb := heap_alloc_new wb (.cells #[.int .i64 1, .slice (some ⟨g5, 0, none⟩) 3 c5', .slice (some ⟨g6, 0, none⟩) 4 c6', .slice none 0 0, .pointer (some ⟨w1.heap.size, 0, none⟩)] 155)
        exact ⟨wb.heap.size, w1.heap.size, g5, g6, c5', c6', rfl, hbb, hy2.keep (hxB.keep (hxA.keep hbm (by simp)) (by simp)) (by simp), (hr5.ext (hxB.trans hy2) (by simp)).vw, (hr6.ext hy2 (by simp)).vw, by omega, by omega, by omega, by omega, by omega, ⟨by omega, by omega⟩, by simp; omega, by simp; omega, (hy1.trans hxA).trans (hxB.trans hy2)⟩
  case rest =>
    obtain ⟨b, bm, gk2, gr2, ck2, cr2, rfl, hbb, hbm, hk2, hr2, n1, n2, n3, l1, l2, ⟨l5, l6⟩, l3, l4, hx2⟩ := hcut
    have hmm := @run_makeMap Tryz.prog
    have hx02 := hx01.trans hx2
    have s0 := hx2.cell t0 (by simp)
    have s1 := hx2.cell t1 (by simp)
    have s2 := hx2.cell t2 (by simp)
    clear hnb t0 t1 t2
    have hxm : Ext [] wc (wc.alloc (.map #[] 0)) := (Ext.refl [] _).alloc _
    have hM0 := Mp.new wc (.int .i64)
    replace s0 := hxm.cell s0 (by simp)
    replace s1 := hxm.cell s1 (by simp)
    replace s2 := hxm.cell s2 (by simp)
    obtain ⟨wm, M1, hup, hM1, hmem1, hxu⟩ := Mp.upd (P := Tryz.prog) (mt := 200) (kt := 3) (e := 4) (v := .bool true) Tryz.underlying200 Tryz.underlying3 hM0 (k := .int .i64 1) rfl
    go_wp2_with fail
    have hb1 := lt_of_block hbb
    have hb2 := lt_of_block hbm
    have hxcm : Ext [] wc wm := hxm.step hxu (by simp)
    have hzcm := hxcm.size
    have hbbm := hxcm.keep hbb (by simp)
    have hxwm : Ext [] w wm := hx02.trans hxcm
    go_loopw [40] (MaRel w wm b bm gk2 gr2 ck2 cr2 wc.heap.size) (fun iv _ => 1 - (intOf iv).toNat)
    case atStart => exact ⟨0, 0, 0, 0, 0, none, rfl, Nat.zero_le _, fun _ => ⟨rfl, rfl, rfl⟩, hbbm, fun h => absurd h (by omega), Ext.refl _ _⟩
    case round =>
      obtain ⟨i, gx2, gc2, cx2, cc2, A, rfl, hi, hA0, hbr, hv1, hxr⟩ := hrel
      rcases (show i = 0 ∨ i = 1 by omega) with rfl | rfl
      · obtain ⟨rfl, rfl, hwr⟩ := hA0 rfl
        subst hwr
        clear hA0 hv1 hxr
        have hlu : w.heap.size ≤ wc.heap.size := hx02.size
        have hkw := hk.ext hxwm (by simp)
        have hrw := hr.ext hxwm (by simp)
        have hcw := hc.ext hxwm (by simp)
        obtain ⟨x0, x1, x2⟩ := (hxx.ext hxwm (by simp)).x3
        have hws : w.heap.size < wc.heap.size := by have := hx1.size; have := hx2.size; omega
        replace s0 := hxu.cell s0 (by simp; omega)
        replace s1 := hxu.cell s1 (by simp; omega)
        replace s2 := hxu.cell s2 (by simp; omega)
        have hxa : Ext [] wr (wr.alloc (.cells #[.int .i64 2, .slice (some ⟨gc, oc, none⟩) 1 cc, .bool false] 60)) := (Ext.refl [] _).alloc _
        have hn9 := heap_alloc_new wr (.cells #[.int .i64 2, .slice (some ⟨gc, oc, none⟩) 1 cc, .bool false] 60)
        have hxs : Ext [] (wr.alloc (.cells #[.int .i64 2, .slice (some ⟨gc, oc, none⟩) 1 cc, .bool false] 60)) ((wr.alloc (.cells #[.int .i64 2, .slice (some ⟨gc, oc, none⟩) 1 cc, .bool false] 60)).alloc (.map #[] 0)) := (Ext.refl [] _).alloc _
        have hMs := Mp.new (wr.alloc (.cells #[.int .i64 2, .slice (some ⟨gc, oc, none⟩) 1 cc, .bool false] 60)) (.int .i64)
        have hn9s := hxs.keep hn9 (by simp)
        obtain ⟨⟨y0, y1, y2⟩, _⟩ := cells3 hn9s
        have hxW : Ext [] wr ((wr.alloc (.cells #[.int .i64 2, .slice (some ⟨gc, oc, none⟩) 1 cc, .bool false] 60)).alloc (.map #[] 0)) := hxa.trans hxs
        have hu2 : (wr.alloc (.cells #[.int .i64 2, .slice (some ⟨gc, oc, none⟩) 1 cc, .bool false] 60)).heap.size = wr.heap.size + 1 := by simp
        rw [hu2] at hMs
        obtain ⟨W3, hW3⟩ : ∃ W3, W3 = ((wr.alloc (.cells #[.int .i64 2, .slice (some ⟨gc, oc, none⟩) 1 cc, .bool false] 60)).alloc (.map #[] 0)) := ⟨_, rfl⟩
        rw [← hW3] at hMs hn9s hxW
        clear y0 y1 y2 hxs hxa hn9
        go_wp2_with fail
        rw [← hW3]
        clear hW3
        have hzW := hxW.size
        go_loopw [48] (SeRel W3 (wr.heap.size + 1)) (fun iv _ => 1 - (intOf iv).toNat)
        case atStart => exact ⟨0, rfl, Nat.zero_le _, fun _ => rfl, Ext.refl _ _⟩
        case round =>
          rename World => w4
          obtain ⟨k, rfl, hk1, hk0, hx4⟩ := hrel
          rcases (show k = 0 ∨ k = 1 by omega) with rfl | rfl
          · have h40 := hk0 rfl
            subst h40
            have y6 : w4.cell? ⟨gc, oc, none⟩ = some (.int .i64 6) := by
              cases hcw.ext hxW (by simp) with
              | at_ hl hn' hc' hcell hty => exact hcell 0 _ rfl
            have hki := kinds_any gk gr _ _ w4 (hkw.ext hxW (by simp)) (hrw.ext hxW (by simp))
            have p0 := hxW.cell s0 (by simp)
            have p1 := hxW.cell s1 (by simp)
            have p2 := hxW.cell s2 (by simp)
            clear s0 s1 s2 x0 x1 x2
            go_wp2_with fail
            refine hki.mono ?_
            rintro e w5 ⟨g5, c5', rfl, hr5, hg5, hx5⟩
            clear hki
            have hM5 := hMs.ext hx5 (by simp)
            have hlk := hM5.lookup_no (P := Tryz.prog) (mt := 200) (kt := 3) (e := 4) Tryz.underlying200 Tryz.underlying3 (k := .int .i64 6) (z := .bool false) (zero4 w5) rfl (by simp) false
            obtain ⟨w6, M6, hup6, hM6, _, hx6⟩ := Mp.upd (P := Tryz.prog) (mt := 200) (kt := 3) (e := 4) (v := .bool true) Tryz.underlying200 Tryz.underlying3 hM5 (k := .int .i64 6) rfl
            go_wp2_with fail
            (refine ⟨?_, ?measureava⟩; (repeat apply Exists.intro); refine ⟨?relava, ?eqqava⟩; case' eqqava => first | rfl | (and_intros <;> rfl))
            case relava => exact ⟨1, by go_num, Nat.le_refl _, fun h => absurd h (by omega), (hx5.mono (by simp)).trans hx6⟩
            case measureava => simp [intOf]
          · clear hk0
            have hn94 := hx4.keep hn9s (by simp)
            obtain ⟨⟨y0, y1, y2⟩, _⟩ := cells3 hn94
            have hM4 := (hM1.ext hxW (by simp)).ext hx4 (by simp; omega)
            have hxw4 : Ext [] wr w4 := hxW.step hx4 (by simp)
            have p0 := hxw4.cell s0 (by simp)
            have p1 := hxw4.cell s1 (by simp)
            have p2 := hxw4.cell s2 (by simp)
            have hlk := hM4.lookup_no (P := Tryz.prog) (mt := 200) (kt := 3) (e := 4) Tryz.underlying200 Tryz.underlying3 (k := .int .i64 2) (z := .bool false) (zero4 w4) rfl (by
              intro p hp he
              rcases (hmem1 p).1 hp with rfl | ⟨hp, _⟩
              · cases he
              · cases hp) false
            have htab := tableOf2_any gk gr gc _ _ _ w4 (hkw.ext hxw4 (by simp)) (hrw.ext hxw4 (by simp)) (hcw.ext hxw4 (by simp)) (by have := hxw4.size; omega) (by have := hxw4.size; omega) (by have := hxw4.size; omega)
            clear s0 s1 s2 x0 x1 x2
            go_wp2_with fail
            refine htab.mono ?_
            rintro e w5 ⟨A5, c5', gq, rfl, hv5, hq1, hq2, hx5⟩
            clear htab
            have hval2 := valid_any 2 4 0 gq 0 _ (.slice none 0 0) _ [] w5 hv5 .nil (by omega) (by omega) (by omega) (by omega) (by simp [Kd]) (by simp [Kd])
            go_wp2_with fail
            refine hval2.mono ?_
            rintro e w6 ⟨rfl, hx6⟩
            clear hval2
            have hx46 := hx5.trans hx6
            have hM6 := hM4.ext hx46 (by simp)
            obtain ⟨w7, M7, hup7, hM7, _, hx7⟩ := Mp.upd (P := Tryz.prog) (mt := 200) (kt := 3) (e := 4) (v := .bool true) Tryz.underlying200 Tryz.underlying3 hM6 (k := .int .i64 2) rfl
            have hn96 := hx46.keep hn94 (by simp)
            clear y0 y1 y2
            obtain ⟨⟨y0, y1, y2⟩, _⟩ := cells3 hn96
            go_wp2_with fail
            have hx4r : Ext [] wr w6 := hxw4.trans hx46
            have hzu := hxu.size
            simp only [World.size_alloc] at hzu
            have hn97 := hx7.keep hn96 (by simp; omega)
            have hb7 := hx7.keep (hx4r.keep hbr (by simp)) (by simp; omega)
            have hdr : Ext [] w7 w7.drew := (Ext.refl [] w7).drew
            clear y0 y1 y2 p0 p1 p2
            obtain ⟨⟨y0, y1, y2⟩, _⟩ := cells3 hn97
            obtain ⟨⟨_, _, _, z3, _⟩, _⟩ := cells5 hb7
            have hc7 := (((hcw.ext hx4r (by simp)).ext hx7 (by simp; omega)).ext hdr (by simp))
            have hcl := cloneInt gc oc cc w7.drew hc7
            have hpt := Held3t.ext ⟨y0, y1, y2⟩ hdr (by simp)
            have hzz : b < w7.heap.size := lt_of_block hb7
            have hz7 := hx7.size
            have hz6 := hx4r.size
            have hbB : wr.heap.size ≠ b := by
              have := lt_of_block hbr
              omega
            have hrB : wr.heap.size < w7.drew.heap.size := by
              have := lt_of_block hn97
              show _ < w7.heap.size
              omega
            clear hlk y0 y1 y2
            refine wp_region_held_drew (S := fun W => W.cell? ⟨wr.heap.size, 0, none⟩ = some (.int .i64 2) ∧ W.cell? ⟨wr.heap.size, 1, none⟩ = some (.slice (some ⟨gc, oc, none⟩) 1 cc) ∧ W.cell? ⟨wr.heap.size, 2, none⟩ = some (.bool false)) (by kernel_rfl) hpt (fun hHeld => ?_)
            refine wpAnyH_take (i := 0) (v := ?_) rfl (by kernel_rfl) (by kernel_rfl) (by kernel_rfl) (fun _ _ _ h => h) (Or.inl ⟨by kernel_rfl, ?_⟩) hHeld ?_
            rotate_left
            · (intro w hSw; (try dsimp only at hSw); go_simp; try with_reducible rfl)
            try simp only [Act.put, List.setIfInBounds_toArray, List.set_cons_zero, List.set_cons_succ]
            refine wpAnyH_take (i := 1) (v := ?_) rfl (by kernel_rfl) (by kernel_rfl) (by kernel_rfl) (fun _ _ _ h => h) (Or.inl ⟨by kernel_rfl, ?_⟩) hHeld ?_
            rotate_left
            · (intro w hSw; (try dsimp only at hSw); go_simp; try with_reducible rfl)
            try simp only [Act.put, List.setIfInBounds_toArray, List.set_cons_zero, List.set_cons_succ]
            refine wpAnyH_take (i := 2) (v := ?_) rfl (by kernel_rfl) (by kernel_rfl) (by kernel_rfl) (fun _ _ _ h => h) (Or.inl ⟨by kernel_rfl, ?_⟩) hHeld ?_
            rotate_left
            · (intro w hSw; (try dsimp only at hSw); go_simp; try with_reducible rfl)
            try simp only [Act.put, List.setIfInBounds_toArray, List.set_cons_zero, List.set_cons_succ]
            refine wpAnyH_take (i := 3) (v := ?_) rfl (by kernel_rfl) (by kernel_rfl) (by kernel_rfl) (fun _ _ _ h => h) (Or.inl ⟨by kernel_rfl, ?_⟩) hHeld ?_
            rotate_left
            · (intro w hSw; (try dsimp only at hSw); go_simp; try with_reducible rfl)
            try simp only [Act.put, List.setIfInBounds_toArray, List.set_cons_zero, List.set_cons_succ]
            refine wpAnyH_take (i := 5) (v := ?_) rfl (by kernel_rfl) (by kernel_rfl) (by kernel_rfl) (fun _ _ _ h => h) (Or.inl ⟨by kernel_rfl, ?_⟩) hHeld ?_
            rotate_left
            · (intro w hSw; (try dsimp only at hSw); go_simp; try with_reducible rfl)
            try simp only [Act.put, List.setIfInBounds_toArray, List.set_cons_zero, List.set_cons_succ]
            refine wpAnyH_take (i := 6) (v := ?_) rfl (by kernel_rfl) (by kernel_rfl) (by kernel_rfl) (fun _ _ _ h => h) (Or.inl ⟨by kernel_rfl, ?_⟩) hHeld ?_
            rotate_left
            · (intro w hSw; (try dsimp only at hSw); go_simp; try with_reducible rfl)
            try simp only [Act.put, List.setIfInBounds_toArray, List.set_cons_zero, List.set_cons_succ]
            refine wpAnyH_take (i := 7) (v := ?_) rfl (by kernel_rfl) (by kernel_rfl) (by kernel_rfl) (fun _ _ _ h => h) (Or.inl ⟨by kernel_rfl, ?_⟩) hHeld ?_
            rotate_left
            · (intro w hSw; (try dsimp only at hSw); go_simp; try with_reducible rfl)
            try simp only [Act.put, List.setIfInBounds_toArray, List.set_cons_zero, List.set_cons_succ]
            refine wpAnyH_take (i := 8) (v := ?_) rfl (by kernel_rfl) (by kernel_rfl) (by kernel_rfl) (fun _ _ _ h => h) (Or.inl ⟨by kernel_rfl, ?_⟩) hHeld ?_
            rotate_left
            · (intro w hSw; (try dsimp only at hSw); go_simp; try with_reducible rfl)
            try simp only [Act.put, List.setIfInBounds_toArray, List.set_cons_zero, List.set_cons_succ]
            refine wpAnyH_take (i := 10) (v := ?_) rfl (by kernel_rfl) (by kernel_rfl) (by kernel_rfl) (fun _ _ _ h => h) (Or.inl ⟨by kernel_rfl, ?_⟩) hHeld ?_
            rotate_left
            · (intro w hSw; (try dsimp only at hSw); go_simp; try with_reducible rfl)
            try simp only [Act.put, List.setIfInBounds_toArray, List.set_cons_zero, List.set_cons_succ]
            refine wpAnyH_take (i := 11) (v := ?_) rfl (by kernel_rfl) (by kernel_rfl) (by kernel_rfl) (fun _ _ _ h => h) (Or.inl ⟨by kernel_rfl, ?_⟩) hHeld ?_
            rotate_left
            · (intro w hSw; (try dsimp only at hSw); go_simp; try with_reducible rfl)
            try simp only [Act.put, List.setIfInBounds_toArray, List.set_cons_zero, List.set_cons_succ]
            refine wpAnyH_ready (rs := [4, 9]) (by kernel_rfl) (by simp) ?_
            refine AllReadyH.cons rfl (fun K hK => ?_) (AllReadyH.cons rfl (fun K hK => ?_) AllReadyH.nil)
            · go_simp
              refine hK.out _ _ hHeld (fun hHeld2 => ?_)
              clear hK K hHeld
              have hHeld := hHeld2
              clear hHeld2
              try simp only [Act.put, List.setIfInBounds_toArray, List.set_cons_zero, List.set_cons_succ]
              refine wpAnyH_ready (rs := [9]) (by kernel_rfl) (by simp) ?_
              refine AllReadyH.cons rfl (fun K hK => ?_) AllReadyH.nil
              go_simp
              go_at_call 116
              with_reducible refine hcl.mono ?_
              rintro e w8 ⟨g8, c8, rfl, hr8, hg8, hxn⟩
              have hb8 := hxn.keep (hdr.keep hb7 (by simp)) (by simp)
              have hz8 := hxn.size
              have hal1 : Ext [] w8 (w8.alloc (.cells #[.int .i64 2, .slice (some ⟨g8, 0, none⟩) 1 c8, .bool false] 60)) := (Ext.refl [] w8).alloc _
              have a3 : w8.cell? ⟨b, 3, none⟩ = some (.slice none 0 0) := hxn.cell (hdr.cell z3 (by simp)) (by simp)
              have a3' := hal1.cell a3 (by simp)
              have hra : Row (w8.alloc (.cells #[.int .i64 2, .slice (some ⟨g8, 0, none⟩) 1 c8, .bool false] 60)) (w8.heap.size + 1) 60 3 (.slice none 0 0) 0 [] := .nil
              have hn := Row.new w8 60 3 #[.int .i64 2, .slice (some ⟨g8, 0, none⟩) 1 c8, .bool false] 1 1 (by omega) (by simp [maxLen]) rfl
              have hone : ∀ u ∈ [Value.int .i64 2, .slice (some ⟨g8, 0, none⟩) 1 c8, .bool false], u.oneCell' = true := by
                intro u hu
                simp only [List.mem_cons, List.not_mem_nil, or_false] at hu
                rcases hu with rfl | rfl | rfl <;> rfl
              try go_wp2_with fail
              refine hK.out _ _ (Held3t.ext hHeld hxn (by simp)) (fun hHeld2 => ?_)
              clear hK K hHeld
              have hHeld := hHeld2
              clear hHeld2
              try simp only [Act.put, List.setIfInBounds_toArray, List.set_cons_zero, List.set_cons_succ]
              refine wpAnyH_take (i := 12) (v := ?_) rfl (by kernel_rfl) (by kernel_rfl) (by kernel_rfl) (fun _ _ _ h => h) (Or.inl ⟨by kernel_rfl, ?_⟩) hHeld ?_
              rotate_left
              · (intro w hSw; (try dsimp only at hSw); go_simp; try with_reducible rfl)
              try simp only [Act.put, List.setIfInBounds_toArray, List.set_cons_zero, List.set_cons_succ]
              refine wpAnyH_ready (rs := [13]) (by kernel_rfl) (by simp) ?_
              refine AllReadyH.cons rfl (fun K hK => ?_) AllReadyH.nil
              go_simp
              refine hK.out _ _ (Held3t.ext hHeld hal1 (by simp)) (fun hHeld2 => ?_)
              clear hK K hHeld
              have hHeld := hHeld2
              clear hHeld2
              try simp only [Act.put, List.setIfInBounds_toArray, List.set_cons_zero, List.set_cons_succ]
              refine wpAnyH_ready (rs := [14]) (by kernel_rfl) (by simp) ?_
              refine AllReadyH.cons rfl (fun K hK => ?_) AllReadyH.nil
              with_reducible refine step_append T129 rfl (.tmp 99) (.tmp 108) rfl rfl rfl hra hn.vw hone (by omega) (by omega) ?_
              rintro g9 A9 c9 w9 hr9 hx9 hg9 hA9 _
              obtain rfl := hA9 (by omega)
              simp only [Nat.zero_add, List.nil_append] at hr9
              have hb9 := hx9.keep (hal1.keep hb8 (by simp)) (by simp; omega)
              obtain ⟨_, _, _, _, f3, _⟩ := cells5 hb9
              obtain ⟨⟨_, _, _, k3, _⟩, _⟩ := cells5 hb9
              simp only [Nat.zero_add]
              refine hK.out _ _ (Held3t.ext hHeld hx9 (by simp; omega)) (fun hHeld2 => ?_)
              clear hK K hHeld
              have hHeld := hHeld2
              clear hHeld2
              try simp only [Act.put, List.setIfInBounds_toArray, List.set_cons_zero, List.set_cons_succ]
              refine wpAnyH_take (i := 15) (v := ?_) rfl (by kernel_rfl) (by kernel_rfl) (by kernel_rfl) (fun _ _ _ h => h) (Or.inl ⟨by kernel_rfl, ?_⟩) hHeld ?_
              rotate_left
              · (intro w hSw; (try dsimp only at hSw); go_simp; try with_reducible rfl)
              try simp only [Act.put, List.setIfInBounds_toArray, List.set_cons_zero, List.set_cons_succ]
              refine wpAnyH_take (i := 16) (v := ?_) rfl (by kernel_rfl) (by kernel_rfl) (by kernel_rfl) (fun _ _ _ h => h) (Or.inl ⟨by kernel_rfl, ?_⟩) hHeld ?_
              rotate_left
              · (intro w hSw; (try dsimp only at hSw); go_simp; try with_reducible rfl)
              try simp only [Act.put, List.setIfInBounds_toArray, List.set_cons_zero, List.set_cons_succ]
              refine wpAnyH_ready (rs := [17]) (by kernel_rfl) (by simp) ?_
              refine AllReadyH.cons rfl (fun K hK => ?_) AllReadyH.nil
              go_simp
              refine hK.out _ _ (Held3t.ext hHeld ((Ext.refl [b] w9).setCell (.inl (by simp)) _) (by simp; omega)) (fun hHeld2 => ?_)
              clear hK K hHeld
              have hHeld := hHeld2
              clear hHeld2
              try simp only [Act.put, List.setIfInBounds_toArray, List.set_cons_zero, List.set_cons_succ]
              refine wpAnyH_done (by kernel_rfl) ?_ _
              try simp only [Act.put, List.setIfInBounds_toArray, List.set_cons_zero, List.set_cons_succ]
              have hg8' := hr8.blt (by omega)
              have hg9' := hr9.blt (by omega)
              have hz9 := hx9.size
              simp only [World.size_alloc] at hg9 hz9
              have hzd : w7.drew.heap.size = w7.heap.size := rfl
              have hxe : Ext [b] w9 (w9.setCell ⟨b, 3, none⟩ (.slice (some ⟨g9, 0, none⟩) 1 c9)) := (Ext.refl [b] w9).setCell (.inl (by simp)) _
              have hfb := heap_setCell_same w9 b 3 _ 155 (.slice (some ⟨g9, 0, none⟩) 1 c9) hb9
              have f1 := hr9.vw.ext hxe (by simp; omega)
              have f2 := (((hr8.vw.ext hal1 (by simp)).ext hx9 (by simp; omega)).ext hxe (by simp; omega))
              have f3 : Ext [b, wc.heap.size] wr w9 := ((((hx4r.mono (by simp)).step hx7 (by simp)).trans (hdr.mono (by simp))).trans (hxn.mono (by simp))).step (hal1.step hx9 (by simp)) (by simp)
              have hz := hxe.size
              go_wp2_with fail
              refine ⟨?rel, ?measure⟩
              case rel =>
                refine ⟨1, g9, g8, c9, c8, some ⟨g9, 0, none⟩, by go_num, Nat.le_refl _, fun h => absurd h (by omega), hfb, fun _ => ⟨f1, f2, by omega, by omega, by omega, by omega, by omega, by omega⟩, f3.step hxe (by simp)⟩
              case measure => simp [intOf]
            · go_simp
              go_at_call 116
              with_reducible refine hcl.mono ?_
              rintro e w8 ⟨g8, c8, rfl, hr8, hg8, hxn⟩
              have hb8 := hxn.keep (hdr.keep hb7 (by simp)) (by simp)
              have hz8 := hxn.size
              have hal1 : Ext [] w8 (w8.alloc (.cells #[.int .i64 2, .slice (some ⟨g8, 0, none⟩) 1 c8, .bool false] 60)) := (Ext.refl [] w8).alloc _
              have a3 : w8.cell? ⟨b, 3, none⟩ = some (.slice none 0 0) := hxn.cell (hdr.cell z3 (by simp)) (by simp)
              have a3' := hal1.cell a3 (by simp)
              have hra : Row (w8.alloc (.cells #[.int .i64 2, .slice (some ⟨g8, 0, none⟩) 1 c8, .bool false] 60)) (w8.heap.size + 1) 60 3 (.slice none 0 0) 0 [] := .nil
              have hn := Row.new w8 60 3 #[.int .i64 2, .slice (some ⟨g8, 0, none⟩) 1 c8, .bool false] 1 1 (by omega) (by simp [maxLen]) rfl
              have hone : ∀ u ∈ [Value.int .i64 2, .slice (some ⟨g8, 0, none⟩) 1 c8, .bool false], u.oneCell' = true := by
                intro u hu
                simp only [List.mem_cons, List.not_mem_nil, or_false] at hu
                rcases hu with rfl | rfl | rfl <;> rfl
              try go_wp2_with fail
              refine hK.out _ _ (Held3t.ext hHeld hxn (by simp)) (fun hHeld2 => ?_)
              clear hK K hHeld
              have hHeld := hHeld2
              clear hHeld2
              try simp only [Act.put, List.setIfInBounds_toArray, List.set_cons_zero, List.set_cons_succ]
              refine wpAnyH_take (i := 12) (v := ?_) rfl (by kernel_rfl) (by kernel_rfl) (by kernel_rfl) (fun _ _ _ h => h) (Or.inl ⟨by kernel_rfl, ?_⟩) hHeld ?_
              rotate_left
              · (intro w hSw; (try dsimp only at hSw); go_simp; try with_reducible rfl)
              try simp only [Act.put, List.setIfInBounds_toArray, List.set_cons_zero, List.set_cons_succ]
              refine wpAnyH_ready (rs := [4, 13]) (by kernel_rfl) (by simp) ?_
              refine AllReadyH.cons rfl (fun K hK => ?_) (AllReadyH.cons rfl (fun K hK => ?_) AllReadyH.nil)
              · go_simp
                refine hK.out _ _ hHeld (fun hHeld2 => ?_)
                clear hK K hHeld
                have hHeld := hHeld2
                clear hHeld2
                try simp only [Act.put, List.setIfInBounds_toArray, List.set_cons_zero, List.set_cons_succ]
                refine wpAnyH_ready (rs := [13]) (by kernel_rfl) (by simp) ?_
                refine AllReadyH.cons rfl (fun K hK => ?_) AllReadyH.nil
                go_simp
                refine hK.out _ _ (Held3t.ext hHeld hal1 (by simp)) (fun hHeld2 => ?_)
                clear hK K hHeld
                have hHeld := hHeld2
                clear hHeld2
                try simp only [Act.put, List.setIfInBounds_toArray, List.set_cons_zero, List.set_cons_succ]
                refine wpAnyH_ready (rs := [14]) (by kernel_rfl) (by simp) ?_
                refine AllReadyH.cons rfl (fun K hK => ?_) AllReadyH.nil
                with_reducible refine step_append T129 rfl (.tmp 99) (.tmp 108) rfl rfl rfl hra hn.vw hone (by omega) (by omega) ?_
                rintro g9 A9 c9 w9 hr9 hx9 hg9 hA9 _
                obtain rfl := hA9 (by omega)
                simp only [Nat.zero_add, List.nil_append] at hr9
                have hb9 := hx9.keep (hal1.keep hb8 (by simp)) (by simp; omega)
                obtain ⟨_, _, _, _, f3, _⟩ := cells5 hb9
                obtain ⟨⟨_, _, _, k3, _⟩, _⟩ := cells5 hb9
                simp only [Nat.zero_add]
                refine hK.out _ _ (Held3t.ext hHeld hx9 (by simp; omega)) (fun hHeld2 => ?_)
                clear hK K hHeld
                have hHeld := hHeld2
                clear hHeld2
                try simp only [Act.put, List.setIfInBounds_toArray, List.set_cons_zero, List.set_cons_succ]
                refine wpAnyH_take (i := 15) (v := ?_) rfl (by kernel_rfl) (by kernel_rfl) (by kernel_rfl) (fun _ _ _ h => h) (Or.inl ⟨by kernel_rfl, ?_⟩) hHeld ?_
                rotate_left
                · (intro w hSw; (try dsimp only at hSw); go_simp; try with_reducible rfl)
                try simp only [Act.put, List.setIfInBounds_toArray, List.set_cons_zero, List.set_cons_succ]
                refine wpAnyH_take (i := 16) (v := ?_) rfl (by kernel_rfl) (by kernel_rfl) (by kernel_rfl) (fun _ _ _ h => h) (Or.inl ⟨by kernel_rfl, ?_⟩) hHeld ?_
                rotate_left
                · (intro w hSw; (try dsimp only at hSw); go_simp; try with_reducible rfl)
                try simp only [Act.put, List.setIfInBounds_toArray, List.set_cons_zero, List.set_cons_succ]
                refine wpAnyH_ready (rs := [17]) (by kernel_rfl) (by simp) ?_
                refine AllReadyH.cons rfl (fun K hK => ?_) AllReadyH.nil
                go_simp
                refine hK.out _ _ (Held3t.ext hHeld ((Ext.refl [b] w9).setCell (.inl (by simp)) _) (by simp; omega)) (fun hHeld2 => ?_)
                clear hK K hHeld
                have hHeld := hHeld2
                clear hHeld2
                try simp only [Act.put, List.setIfInBounds_toArray, List.set_cons_zero, List.set_cons_succ]
                refine wpAnyH_done (by kernel_rfl) ?_ _
                try simp only [Act.put, List.setIfInBounds_toArray, List.set_cons_zero, List.set_cons_succ]
                have hg8' := hr8.blt (by omega)
                have hg9' := hr9.blt (by omega)
                have hz9 := hx9.size
                simp only [World.size_alloc] at hg9 hz9
                have hzd : w7.drew.heap.size = w7.heap.size := rfl
                have hxe : Ext [b] w9 (w9.setCell ⟨b, 3, none⟩ (.slice (some ⟨g9, 0, none⟩) 1 c9)) := (Ext.refl [b] w9).setCell (.inl (by simp)) _
                have hfb := heap_setCell_same w9 b 3 _ 155 (.slice (some ⟨g9, 0, none⟩) 1 c9) hb9
                have f1 := hr9.vw.ext hxe (by simp; omega)
                have f2 := (((hr8.vw.ext hal1 (by simp)).ext hx9 (by simp; omega)).ext hxe (by simp; omega))
                have f3 : Ext [b, wc.heap.size] wr w9 := ((((hx4r.mono (by simp)).step hx7 (by simp)).trans (hdr.mono (by simp))).trans (hxn.mono (by simp))).step (hal1.step hx9 (by simp)) (by simp)
                have hz := hxe.size
                go_wp2_with fail
                refine ⟨?rel, ?measure⟩
                case rel =>
                  refine ⟨1, g9, g8, c9, c8, some ⟨g9, 0, none⟩, by go_num, Nat.le_refl _, fun h => absurd h (by omega), hfb, fun _ => ⟨f1, f2, by omega, by omega, by omega, by omega, by omega, by omega⟩, f3.step hxe (by simp)⟩
                case measure => simp [intOf]
              · go_simp
                refine hK.out _ _ (Held3t.ext hHeld hal1 (by simp)) (fun hHeld2 => ?_)
                clear hK K hHeld
                have hHeld := hHeld2
                clear hHeld2
                try simp only [Act.put, List.setIfInBounds_toArray, List.set_cons_zero, List.set_cons_succ]
                refine wpAnyH_ready (rs := [4]) (by kernel_rfl) (by simp) ?_
                refine AllReadyH.cons rfl (fun K hK => ?_) AllReadyH.nil
                go_simp
                refine hK.out _ _ hHeld (fun hHeld2 => ?_)
                clear hK K hHeld
                have hHeld := hHeld2
                clear hHeld2
                try simp only [Act.put, List.setIfInBounds_toArray, List.set_cons_zero, List.set_cons_succ]
                refine wpAnyH_ready (rs := [14]) (by kernel_rfl) (by simp) ?_
                refine AllReadyH.cons rfl (fun K hK => ?_) AllReadyH.nil
                with_reducible refine step_append T129 rfl (.tmp 99) (.tmp 108) rfl rfl rfl hra hn.vw hone (by omega) (by omega) ?_
                rintro g9 A9 c9 w9 hr9 hx9 hg9 hA9 _
                obtain rfl := hA9 (by omega)
                simp only [Nat.zero_add, List.nil_append] at hr9
                have hb9 := hx9.keep (hal1.keep hb8 (by simp)) (by simp; omega)
                obtain ⟨_, _, _, _, f3, _⟩ := cells5 hb9
                obtain ⟨⟨_, _, _, k3, _⟩, _⟩ := cells5 hb9
                simp only [Nat.zero_add]
                refine hK.out _ _ (Held3t.ext hHeld hx9 (by simp; omega)) (fun hHeld2 => ?_)
                clear hK K hHeld
                have hHeld := hHeld2
                clear hHeld2
                try simp only [Act.put, List.setIfInBounds_toArray, List.set_cons_zero, List.set_cons_succ]
                refine wpAnyH_take (i := 15) (v := ?_) rfl (by kernel_rfl) (by kernel_rfl) (by kernel_rfl) (fun _ _ _ h => h) (Or.inl ⟨by kernel_rfl, ?_⟩) hHeld ?_
                rotate_left
                · (intro w hSw; (try dsimp only at hSw); go_simp; try with_reducible rfl)
                try simp only [Act.put, List.setIfInBounds_toArray, List.set_cons_zero, List.set_cons_succ]
                refine wpAnyH_take (i := 16) (v := ?_) rfl (by kernel_rfl) (by kernel_rfl) (by kernel_rfl) (fun _ _ _ h => h) (Or.inl ⟨by kernel_rfl, ?_⟩) hHeld ?_
                rotate_left
                · (intro w hSw; (try dsimp only at hSw); go_simp; try with_reducible rfl)
                try simp only [Act.put, List.setIfInBounds_toArray, List.set_cons_zero, List.set_cons_succ]
                refine wpAnyH_ready (rs := [17]) (by kernel_rfl) (by simp) ?_
                refine AllReadyH.cons rfl (fun K hK => ?_) AllReadyH.nil
                go_simp
                refine hK.out _ _ (Held3t.ext hHeld ((Ext.refl [b] w9).setCell (.inl (by simp)) _) (by simp; omega)) (fun hHeld2 => ?_)
                clear hK K hHeld
                have hHeld := hHeld2
                clear hHeld2
                try simp only [Act.put, List.setIfInBounds_toArray, List.set_cons_zero, List.set_cons_succ]
                refine wpAnyH_done (by kernel_rfl) ?_ _
                try simp only [Act.put, List.setIfInBounds_toArray, List.set_cons_zero, List.set_cons_succ]
                have hg8' := hr8.blt (by omega)
                have hg9' := hr9.blt (by omega)
                have hz9 := hx9.size
                simp only [World.size_alloc] at hg9 hz9
                have hzd : w7.drew.heap.size = w7.heap.size := rfl
                have hxe : Ext [b] w9 (w9.setCell ⟨b, 3, none⟩ (.slice (some ⟨g9, 0, none⟩) 1 c9)) := (Ext.refl [b] w9).setCell (.inl (by simp)) _
                have hfb := heap_setCell_same w9 b 3 _ 155 (.slice (some ⟨g9, 0, none⟩) 1 c9) hb9
                have f1 := hr9.vw.ext hxe (by simp; omega)
                have f2 := (((hr8.vw.ext hal1 (by simp)).ext hx9 (by simp; omega)).ext hxe (by simp; omega))
                have f3 : Ext [b, wc.heap.size] wr w9 := ((((hx4r.mono (by simp)).step hx7 (by simp)).trans (hdr.mono (by simp))).trans (hxn.mono (by simp))).step (hal1.step hx9 (by simp)) (by simp)
                have hz := hxe.size
                go_wp2_with fail
                refine ⟨?rel, ?measure⟩
                case rel =>
                  refine ⟨1, g9, g8, c9, c8, some ⟨g9, 0, none⟩, by go_num, Nat.le_refl _, fun h => absurd h (by omega), hfb, fun _ => ⟨f1, f2, by omega, by omega, by omega, by omega, by omega, by omega⟩, f3.step hxe (by simp)⟩
                case measure => simp [intOf]
      · obtain ⟨v1, v2, v3, v4, v5, v6, v7, v8⟩ := hv1 rfl
        clear s0 s1 s2
        go_wp2_with fail
        go_ret2
        have hlu : w.heap.size ≤ wc.heap.size := hx02.size
        have hzr := hxr.size
        have hzm := hxwm.size
        have hxf : Ext [] w wr := hxwm.step hxr (by simp; omega)
        have hbmr := hxr.keep (hxcm.keep hbm (by simp)) (by simp; omega)
        have hmd : Mdl wr bm bm [] := ⟨⟨_, hbmr, .nil⟩, by omega, by omega, by omega⟩
        exact ⟨b, bm, bm, _, _, _, _, gk2, gr2, gx2, gc2, rfl, ⟨hbr, (hk2.ext hxcm (by simp)).ext hxr (by simp; omega), (hr2.ext hxcm (by simp)).ext hxr (by simp; omega), v1, v2, hmd, by omega, by omega, by omega⟩, l1, by omega, by omega, hxf⟩
end Go.Proofs.YtfadbmfkidiaoaaGreatDoor
