/- Two deltas together. Lists of changes and of rows held against each other. -/
import Derived.Test.YtfadbmfkidiaoaaGreatDoorZ44
namespace Go.Proofs.YtfadbmfkidiaoaaGreatDoor
open Go.RowKit Go
set_option linter.unusedSimpArgs false
set_option linter.unusedVariables false
set_option linter.unusedSectionVars false
set_option linter.unnecessarySimpa false

def TogR (w2 : World) (po pq : Nat) (evs : List Ev) (W : World) : Prop := ∃ go, OutC W po go (evs.filterMap togStep) ∧ w2.heap.size ≤ go ∧ W.heap[pq]? = some (.cells #[.bool true] 4 (0, 0)) ∧ Ext [po] w2 W
set_option maxRecDepth 100000 in
set_option maxHeartbeats 1600000 in
theorem together_any (a b : List Chg) (ga gb : Nat) (va vb : Value) (w : World) (hva : Vw w ga 138 5 va a.length (ccs a)) (hvb : Vw w gb 138 5 vb b.length (ccs b)) (hga : ga < w.heap.size) (hgb : gb < w.heap.size) (ha : VldL a) (hb : VldL b)
    (hbad : ∀ e ∈ bothL a b, togBad e = false) (hna : a.length ≤ 400) (hnb : b.length ≤ 800) (h8 : 8 ≤ w.heap.size) :
    Calls Tryz.prog 19 #[va, vb] w fun e w' => ∃ g' v', e = .returned (.tuple #[v', .int .i64 0]) ∧ Row w' g' 138 5 v' (togL a b).length (ccs (togL a b)) ∧ w.heap.size ≤ g' ∧ Ext [] w w' := by
  have hv1 := valid61_any a ga va w hva ha (by omega) h8
  have hv2 := fun W (hx : Ext [] w W) => valid61_any b gb vb W (hvb.ext hx (by simp)) hb (by omega) (by have := hx.size; omega)
  have HB := Lib.hid hbad
  clear ha hb hbad
  go_enter Tryz.func19, Tryz.ntmps19
  go_wp2_with fail
  refine hv1.mono ?_
  rintro e w1 ⟨rfl, hx1⟩
  clear hv1
  go_wp2_with fail
  refine (hv2 w1 hx1).mono ?_
  rintro e w2 ⟨rfl, hx2⟩
  clear hv2
  have hx02 := hx1.trans hx2
  have hz02 := hx02.size
  have hp := heap_alloc_new w2 (.cells #[.slice none 0 0] 61)
  have hxa : Ext [] w2 (w2.alloc (.cells #[.slice none 0 0] 61)) := (Ext.refl [] _).alloc _
  have hq := heap_alloc_new (w2.alloc (.cells #[.slice none 0 0] 61)) (.cells #[.bool true] 4)
  have hxb : Ext [] (w2.alloc (.cells #[.slice none 0 0] 61)) ((w2.alloc (.cells #[.slice none 0 0] 61)).alloc (.cells #[.bool true] 4)) := (Ext.refl [] _).alloc _
  have hp' := hxb.keep hp (by simp)
  have hz3 : ((w2.alloc (.cells #[.slice none 0 0] 61)).alloc (.cells #[.bool true] 4)).heap.size = w2.heap.size + 2 := by simp
  have hx03 := (hx02.trans hxa).trans hxb
  simp only [World.size_alloc] at hq
  obtain ⟨W3, hW3⟩ : ∃ W3, W3 = ((w2.alloc (.cells #[.slice none 0 0] 61)).alloc (.cells #[.bool true] 4)) := ⟨_, rfl⟩
  rw [← hW3] at hq hp' hz3 hx03
  clear hxa hxb hp
  have hva3 := hva.ext hx03 (by simp)
  have hvb3 := hvb.ext hx03 (by simp)
  have hR0 : TogR W3 w2.heap.size (w2.heap.size + 1) [] W3 := ⟨W3.heap.size, ⟨⟨none, 0, hp', .nil⟩, by omega⟩, Nat.le_refl _, hq, Ext.refl _ _⟩
  have hka : ∀ evs W W', TogR W3 w2.heap.size (w2.heap.size + 1) evs W → Ext [] W W' → Vw W' ga 138 5 va a.length (ccs a) := by
    rintro evs W W' ⟨go, _, _, _, hx⟩ hx'
    exact (hva3.ext hx (by simp; omega)).ext hx' (by simp)
  have hkb : ∀ evs W W', TogR W3 w2.heap.size (w2.heap.size + 1) evs W → Ext [] W W' → Vw W' gb 138 5 vb b.length (ccs b) := by
    rintro evs W W' ⟨go, _, _, _, hx⟩ hx'
    exact (hvb3.ext hx (by simp; omega)).ext hx' (by simp)
  have hbl := bothL_len a b
  have hboth := both65_any a b ga gb va vb (.pointer (some ⟨w2.heap.size, 0, none⟩)) (.pointer (some ⟨w2.heap.size + 1, 0, none⟩)) (TogR W3 w2.heap.size (w2.heap.size + 1)) W3 (by omega) (fun evs W h => by obtain ⟨_, _, _, _, hx⟩ := h; exact hx.size) hka hkb (by
    rintro evs ⟨x, y, a', b'⟩ rest W W' hev ⟨go, ho, hgo, hqq, hx⟩ hx'
    have hzW := hx.size
    have hzW' := hx'.size
    have hlo : (evs.filterMap togStep).length ≤ 1400 := by
      have h1 := List.length_filterMap_le togStep evs
      have h2 := congrArg List.length hev
      rw [List.length_append, List.length_cons] at h2
      omega
    have hnb : togBad ⟨x, y, a', b'⟩ = false := HB.out _ (by rw [hev]; simp)
    refine (tog1_any x y a' b' w2.heap.size (w2.heap.size + 1) go (evs.filterMap togStep) W' (ho.ext hx' (by simp) (by simp)) (by omega) hlo hnb).mono ?_
    rintro r w' ⟨rfl, go', ho', hgo', hx''⟩
    refine ⟨rfl, go', ?_, by omega, hx''.keep (hx'.keep hqq (by simp)) (by simp; omega), (hx.trans0 hx').step hx'' (by simp; omega)⟩
    rw [List.filterMap_append]
    have : List.filterMap togStep [(⟨x, y, a', b'⟩ : Ev)] = (togStep ⟨x, y, a', b'⟩).toList := by cases h : togStep ⟨x, y, a', b'⟩ <;> simp [List.filterMap_cons, h]
    rw [this]; exact ho') hR0
  have hdl : (bothL a b).filterMap togStep = togL a b := rfl
  have hdn : (togL a b).length ≤ a.length + b.length := Nat.le_trans (List.length_filterMap_le togStep _) hbl
  clear hka hkb hR0
  go_wp2_with fail
  rw [← hW3]
  clear hW3
  refine hboth.mono ?_
  rintro e w5 ⟨rfl, go, ho, hgo, hqq, hx5⟩
  rw [hdl] at ho
  obtain ⟨⟨A5, c5', q1, q2⟩, q3⟩ := ho
  have p5 : w5.cell? ⟨w2.heap.size, 0, none⟩ = some (.slice A5 (togL a b).length c5') := cell_of_row _ _ 0 _ _ _ q1
  have p6 : w5.cell? ⟨w2.heap.size + 1, 0, none⟩ = some (.bool true) := cell_of_row _ _ 0 _ _ _ hqq
  have hx05 : Ext [] w w5 := hx03.step hx5 (by simp; omega)
  clear hboth
  generalize hN : (togL a b).length = N at *
  have HN := Lib.hid hN; clear hN
  go_wp2_with fail
  go_ret2
  exact ⟨go, _, rfl, by rw [HN.out]; exact q2, by omega, hx05⟩
end Go.Proofs.YtfadbmfkidiaoaaGreatDoor

namespace Go.Proofs.YtfadbmfkidiaoaaGreatDoor
open Go.RowKit Go Go.MapKept
set_option linter.unusedSimpArgs false
set_option linter.unusedVariables false
set_option linter.unusedSectionVars false
set_option linter.unnecessarySimpa false

theorem neq_ch (k b a : ByteArray) (x y : Bool) (w : World) : (binOp .neq 138 (.agg #[.string k, .bool x, .bool y, .string b, .string a]) (.agg #[.string k, .bool x, .bool y, .string b, .string a])).run Tryz.prog w = .ok (.bool false) w := by
  go_simp
set_option maxRecDepth 100000 in
set_option maxHeartbeats 1600000 in
theorem changesAre_any (ga gb : Nat) (va vb : Value) (n : Nat) (l : List Chg) (w : World) (ha : Vw w ga 138 5 va n (ccs l)) (hb : Vw w gb 138 5 vb n (ccs l)) (hl : l.length = n) :
    Calls Tryz.prog 21 #[va, vb] w fun e w' => e = .returned (.bool true) ∧ Ext [] w w' := by
  have hmx := ha.lenMax
  obtain ⟨Aa, ca, rfl, _⟩ := ha.form
  obtain ⟨Ab, cb, rfl, _⟩ := hb.form
  have HL := Lib.hid hl; clear hl
  go_enter Tryz.func21, Tryz.ntmps21
  go_wp2_with fail
  go_loopw [5] (fun iv wl => ∃ i : Nat, iv = .int .i64 i ∧ i ≤ n ∧ Ext [] w wl) (fun iv _ => n - (intOf iv).toNat)
  case atStart => exact ⟨0, rfl, Nat.zero_le _, Ext.refl _ _⟩
  case round =>
    obtain ⟨i, rfl, hi, hx⟩ := hrel
    by_cases hlt : i < n
    · obtain ⟨oa, rfl⟩ := ha.headU (by omega)
      obtain ⟨ob, rfl⟩ := hb.headU (by omega)
      obtain ⟨d0, d1, d2, d3, d4⟩ := (ha.ext hx (by simp)).chg i hlt HL.out
      obtain ⟨e0, e1, e2, e3, e4⟩ := (hb.ext hx (by simp)).chg i hlt HL.out
      have hil : i < l.length := by have := HL.out; omega
      have hne := fun w => neq_ch (l[i]'hil).key (l[i]'hil).before (l[i]'hil).after (l[i]'hil).was (l[i]'hil).is w
      generalize (l[i]'hil) = cc at *
      obtain ⟨k, x, y, bb, aa⟩ := cc
      simp only at d0 d1 d2 d3 d4 e0 e1 e2 e3 e4 hne
      clear ha hb
      go_wp2_with fail
      go_quiet (fail)
      clear hne
      go_wp2
      refine ⟨?rel, ?measure⟩
      case rel => exact ⟨i + 1, by go_num, by omega, hx.drewN _⟩
      case measure => simp [intOf]; omega
    · clear ha hb
      go_wp2_with fail
      go_ret
      exact ⟨rfl, hx⟩
theorem Vw.one {w : World} {g o n c : Nat} {vs : List Value} (h : Vw w g 73 1 (.slice (some ⟨g, o, none⟩) n c) n vs) (i : Nat) (v : Value) (hi : vs[i]? = some v) : w.cell? ⟨g, o + i, none⟩ = some v := by
  cases h with
  | at_ hl hn hc hcell hty => exact hcell i v hi
set_option maxRecDepth 100000 in
set_option maxHeartbeats 1600000 in
theorem rowsSame_any (ga gb B1 q1 B2 q2 : Nat) (va vb : Value) (js : List Jb) (vs1 vs2 : List Value) (w : World) (ha : Vw w ga 73 1 va js.length vs1) (hb : Vw w gb 73 1 vb js.length vs2) (h1 : RwL w B1 q1 vs1 js) (h2 : RwL w B2 q2 vs2 js) :
    Calls Tryz.prog 30 #[va, vb] w fun e w' => e = .returned (.bool true) ∧ Ext [] w w' := by
  have hmx := ha.lenMax
  obtain ⟨Aa, ca, rfl, _⟩ := ha.form
  obtain ⟨Ab, cb, rfl, _⟩ := hb.form
  generalize hN : js.length = n at *
  have HN := Lib.hid hN; clear hN
  go_enter Tryz.func30, Tryz.ntmps30
  go_wp2_with fail
  go_loopw [5] (fun iv wl => ∃ i : Nat, iv = .int .i64 i ∧ i ≤ n ∧ Ext [] w wl) (fun iv _ => n - (intOf iv).toNat)
  case atStart => exact ⟨0, rfl, Nat.zero_le _, Ext.refl _ _⟩
  case round =>
    obtain ⟨i, rfl, hi, hx⟩ := hrel
    by_cases hlt : i < n
    · obtain ⟨oa, rfl⟩ := ha.headU (by omega)
      obtain ⟨ob, rfl⟩ := hb.headU (by omega)
      have hil : i < js.length := by have := HN.out; omega
      obtain ⟨v1, g1, hv1, _, _, _, hr1⟩ := h1.at_ i hil
      obtain ⟨v2, g2, hv2, _, _, _, hr2⟩ := h2.at_ i hil
      have d1 := (ha.ext hx (by simp)).one i v1 hv1
      have d2 := (hb.ext hx (by simp)).one i v2 hv2
      have heq := fun W (hxx : Ext [] wr W) => equal_any g1 g2 v1 v2 7 _ W ((hr1.ext hx (by simp)).ext hxx (by simp)) ((hr2.ext hx (by simp)).ext hxx (by simp))
      clear ha hb h1 h2 hr1 hr2 hv1 hv2
      go_wp2_with fail
      go_region_held3 (fun W => W.cell? ⟨ga, oa + i, none⟩ = some v1 ∧ W.cell? ⟨gb, ob + i, none⟩ = some v2 ∧ Ext [] wr W)
        (first | exact heldR0 d1 d2 | exact heldR1 (by assumption) hxn)
        (first
          | (go_at_call 26; refine (heq _ (heldR_x (by assumption))).mono ?_; rintro e w5 ⟨rfl, hxn⟩))
      rename_i hHeld
      have hS := heldR_x hHeld
      clear hHeld heq d1 d2
      go_wp2_with fail
      refine ⟨?rel, ?measure⟩
      case rel => exact ⟨i + 1, by go_num, by omega, hx.trans hS⟩
      case measure => simp [intOf]; omega
    · clear ha hb
      go_wp2_with fail
      go_ret
      exact ⟨rfl, hx⟩
end Go.Proofs.YtfadbmfkidiaoaaGreatDoor
