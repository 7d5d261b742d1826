/- The plain map of the program, sixth part: Put and Insert, Pairs and Copy. -/
import Derived.Test.YtfadbmfkidiaoaaGreatDoorM5
namespace Go.Proofs.YtfadbmfkidiaoaaGreatDoor
open Go.RowKit Go

def putL (l : Pairs) (k v : ByteArray) : Pairs := if has l k then l.set (rk l k) (k, v) else ins l (rk l k) (k, v)

/-- what a step before a SetPost adds -/
theorem SetPost.from {b g : Nat} {l' : Pairs} {w w1 w' : World} {e : Ending} (hx : Ext [] w w1) (h : SetPost b g l' w1 e w') : SetPost b g l' w e w' := by
  obtain ⟨rfl, g', hm, hg, hx2⟩ := h
  exact ⟨rfl, g', hm, hg.imp id (fun h => Nat.le_trans hx.size h), (hx.mono (by simp)).trans hx2⟩

theorem Vw.new1 (w : World) (v : ByteArray) : Vw (w.alloc (.cells #[.string v] 9)) w.heap.size 9 1 (.slice (some ⟨w.heap.size, 0, none⟩) 1 1) 1 (scs [v]) := by
  have := (Row.new w 9 1 #[.string v] 1 1 (Nat.le_refl _) (by simp [maxLen]) rfl).vw
  simpa [scs] using this

theorem one40 {v : ByteArray} (hv : v.size ≤ 40) : ∀ i, i < 1 → (sAt [v] i).size ≤ 40 := by
  intro i hi
  have : i = 0 := by omega
  subst this
  simpa [sAt] using hv

set_option maxRecDepth 100000 in
set_option maxHeartbeats 800000 in
theorem put_any (b g : Nat) (l : Pairs) (k v : ByteArray) (w : World) (hm : Mdl w b g l) (hn : l.length < 20000) (hs : Srt l) (hk1 : 1 ≤ k.size) (hk2 : k.size ≤ 24) (hv : v.size ≤ 40) :
    Calls Tryz.prog 36 #[.pointer (some ⟨b, 0, none⟩), .string k, .string v] w (SetPost b g (putL l k v) w) := by
  have HS := Lib.hid hs; clear hs
  have hrk := rk_le l k
  have hm1 := hm.ext ((Ext.refl [] w).alloc (.cells #[.string v] 9)) (by simp) (by simp)
  have hvw := Vw.new1 w v
  go_enter Tryz.func36, Tryz.ntmps36
  go_wp2_with fail
  refine (at_ok b g l k _ _ 1 [v] _ hm1 (by omega) HS.out hk1 hk2 hvw (one40 hv)).mono ?_
  rintro e w1 ⟨rfl, hx⟩
  have hx1 : Ext [] w w1 := ((Ext.refl [] w).alloc _).trans hx
  have hm2 := hm.ext hx1 (by simp) (by simp)
  clear hm1 hvw hx
  cases hh : has l k with
  | true =>
    have hin : rk l k < l.length := by simp [has] at hh; exact hh.1
    have HE := Lib.hid hh; clear hh
    go_wp2_with fail
    refine (set_old b g l _ (k, v) _ hm2 hin (by omega)).mono ?_
    intro e w2 hp
    have hpp := SetPost.from hx1 hp
    obtain ⟨rfl, _⟩ := hp
    go_wp2
    go_ret
    rw [putL, HE.out]
    exact hpp
  | false =>
    have HE := Lib.hid hh; clear hh
    go_wp2_with fail
    refine (set_new b g l _ (k, v) _ hm2 hn hrk).mono ?_
    intro e w2 hp
    have hpp := SetPost.from hx1 hp
    obtain ⟨rfl, _⟩ := hp
    go_wp2
    go_ret
    rw [putL, HE.out]
    exact hpp

set_option maxRecDepth 100000 in
set_option maxHeartbeats 800000 in
/-- Insert of a key that isn't there -/
theorem insert_new (b g : Nat) (l : Pairs) (k v : ByteArray) (w : World) (hm : Mdl w b g l) (hn : l.length < 20000) (hs : Srt l) (hk1 : 1 ≤ k.size) (hk2 : k.size ≤ 24) (hv : v.size ≤ 40) (hh : has l k = false) :
    Calls Tryz.prog 103 #[.pointer (some ⟨b, 0, none⟩), .string k, .string v] w (SetPost b g (ins l (rk l k) (k, v)) w) := by
  have HS := Lib.hid hs; clear hs
  have hrk := rk_le l k
  have hm1 := hm.ext ((Ext.refl [] w).alloc (.cells #[.string v] 9)) (by simp) (by simp)
  have hvw := Vw.new1 w v
  go_enter Tryz.func103, Tryz.ntmps103
  go_wp2_with fail
  refine (at_ok b g l k _ _ 1 [v] _ hm1 (by omega) HS.out hk1 hk2 hvw (one40 hv)).mono ?_
  rintro e w1 ⟨rfl, hx⟩
  have hx1 : Ext [] w w1 := ((Ext.refl [] w).alloc _).trans hx
  have hm2 := hm.ext hx1 (by simp) (by simp)
  clear hm1 hvw hx
  go_wp2_with fail
  refine (set_new b g l _ (k, v) _ hm2 hn hrk).mono ?_
  intro e w2 hp
  have hpp := SetPost.from hx1 hp
  obtain ⟨rfl, _⟩ := hp
  go_wp2
  go_ret
  exact hpp

/-- a copy of the pairs -/
theorem pairs_any (b g : Nat) (l : Pairs) (w : World) (hm : Mdl w b g l) (hn : l.length ≤ 1000000) :
    Calls Tryz.prog 23 #[.pointer (some ⟨b, 0, none⟩)] w fun e w' => ∃ g' v', e = .returned v' ∧ Row w' g' 77 2 v' l.length (pcs l) ∧ w.heap.size ≤ g' ∧ Ext [] w w' := by
  obtain ⟨⟨v, hb, hr⟩, _, _, _⟩ := hm
  have hc := cell_of_one hb
  obtain ⟨A, c, rfl, _, _⟩ := hr.form
  have hv := hr.vw
  clear hr hb
  go_enter Tryz.func23, Tryz.ntmps23
  go_wp2_with fail
  refine (clonePairs g _ _ l _ hv hn).mono ?_
  rintro e w1 ⟨g', v', rfl, hr, hg, hx⟩
  go_wp2
  go_ret
  exact ⟨g', _, rfl, hr, hg, hx⟩

def Copied (l : Pairs) (w : World) (e : Ending) (w' : World) : Prop :=
  ∃ b' g', e = .returned (.pointer (some ⟨b', 0, none⟩)) ∧ Mdl w' b' g' l ∧ w.heap.size ≤ b' ∧ w.heap.size ≤ g' ∧ Ext [] w w'

/-- a new map round a row of pairs -/
theorem mdl_new {w : World} {g : Nat} {v : Value} {l : Pairs} (hr : Row w g 77 2 v l.length (pcs l)) (h8 : 8 ≤ g) (h8' : 8 ≤ w.heap.size) :
    ∃ g', Mdl (w.alloc (.cells #[v] 34)) w.heap.size g' l ∧ (g' = g ∨ g' = w.heap.size) := by
  have hx : Ext [] w (w.alloc (.cells #[v] 34)) := (Ext.refl [] w).alloc _
  rcases hr.split with ⟨rfl, h2, h3⟩ | ⟨c, cur, h1, h2, h3, h4, _⟩
  · exact ⟨w.heap.size, ⟨⟨_, heap_alloc_new w _, by rw [h2, h3]; exact .nil⟩, by simp, h8', h8'⟩, .inr rfl⟩
  · exact ⟨g, ⟨⟨_, heap_alloc_new w _, hr.ext hx (by simp)⟩, Nat.lt_of_lt_of_le (lt_of_block h4) hx.size, h8', h8⟩, .inl rfl⟩

theorem copy_any (b g : Nat) (l : Pairs) (w : World) (hm : Mdl w b g l) (hn : l.length ≤ 1000000) :
    Calls Tryz.prog 52 #[.pointer (some ⟨b, 0, none⟩)] w (Copied l w) := by
  have h8 := hm.lo
  obtain ⟨⟨v, hb, hr⟩, _, _, _⟩ := hm
  have hc := cell_of_one hb
  have hbl := lt_of_block hb
  obtain ⟨A, c, rfl, _, _⟩ := hr.form
  have hv := hr.vw
  clear hr hb
  go_enter Tryz.func52, Tryz.ntmps52
  go_wp2_with fail
  refine (clonePairs g _ _ l _ hv hn).mono ?_
  rintro e w1 ⟨g', v', rfl, hr, hg, hx⟩
  obtain ⟨A', c', rfl, _, _⟩ := hr.form
  have hsz := hx.size
  obtain ⟨g2, hm2, hg2⟩ := mdl_new hr (by omega) (by omega)
  go_wp2
  go_ret
  exact ⟨_, g2, rfl, hm2, hsz, by omega, hx.alloc _⟩

theorem pair_eq (a b c d : ByteArray) : (a.toList == c.toList && b.toList == d.toList) = decide ((a, b) = (c, d)) := by
  rw [Bool.eq_iff_iff]
  simp only [Bool.and_eq_true, beq_iff_eq, decide_eq_true_eq, Prod.mk.injEq, ByteArray.toList_eq]
  exact ⟨fun ⟨h1, h2⟩ => ⟨ba_ext h1, ba_ext h2⟩, fun ⟨h1, h2⟩ => by rw [h1, h2]; exact ⟨rfl, rfl⟩⟩

theorem pairs_ext {l1 l2 : Pairs} (hl : l1.length = l2.length) (h : ∀ k, k < l1.length → kAt l1 k = kAt l2 k ∧ vAt l1 k = vAt l2 k) : l1 = l2 := by
  refine List.ext_getElem hl (fun k h1 h2 => ?_)
  have := h k h1
  rw [kAt_eq _ _ h1, kAt_eq _ _ h2, vAt_eq _ _ h1, vAt_eq _ _ h2] at this
  exact Prod.ext this.1 this.2
theorem run_equalIn_pair (d : Nat) (w : World) (x0 y0 x1 y1 : ByteArray) :
    (Op.equalIn (d + 2) 77 (.agg #[.string x0, .string x1]) (.agg #[.string y0, .string y1])).run Tryz.prog w = .ok (decide ((x0, x1) = (y0, y1))) w := by
  rw [← pair_eq]
  go_simp
  by_cases h1 : x0.toList = y0.toList <;> by_cases h2 : x1.toList = y1.toList <;> simp [h1, h2]
theorem run_neq_pair (w : World) (a b c d : ByteArray) : (binOp .neq 77 (.agg #[.string a, .string b]) (.agg #[.string c, .string d])).run Tryz.prog w = .ok (.bool (!decide ((a, b) = (c, d)))) w := by
  rw [run_neq_struct, run_equalIn_pair 9998]; rfl
theorem run_eql_pair (w : World) (a b c d : ByteArray) : (binOp .eql 77 (.agg #[.string a, .string b]) (.agg #[.string c, .string d])).run Tryz.prog w = .ok (.bool (decide ((a, b) = (c, d)))) w := by
  rw [run_eql_struct, run_equalIn_pair 9998]; rfl

set_option maxRecDepth 100000 in
set_option maxHeartbeats 800000 in
/-- slices.Equal of pairs -/
theorem equalPairs (g1 g2 : Nat) (v1 v2 : Value) (l1 l2 : Pairs) (w : World) (h1 : Vw w g1 77 2 v1 l1.length (pcs l1)) (h2 : Vw w g2 77 2 v2 l2.length (pcs l2)) :
    Calls Tryz.prog 107 #[v1, v2] w fun e w' => e = .returned (.bool (decide (l1 = l2))) ∧ Ext [] w w' := by
  have hmx := h1.lenMax
  by_cases hl : l1.length = l2.length
  · have heq : ((l1.length : Int) != (l2.length : Int)) = false := by simp; omega
    by_cases h00 : l1.length = 0
    · have e1 : l1 = [] := List.eq_nil_of_length_eq_zero h00
      have e2 : l2 = [] := List.eq_nil_of_length_eq_zero (by omega)
      subst e1; subst e2
      obtain ⟨A1, c1, rfl, _⟩ := h1.form
      obtain ⟨A2, c2, rfl, _⟩ := h2.form
      clear h1 h2 heq hl hmx h00
      go_enter Tryz.func107, Tryz.ntmps107
      go_wp2_with fail
      go_loop [13] (fun iv => iv = .int .i64 0) (fun _ => 0)
      case atStart => exact rfl
      case round =>
        obtain rfl := hrel
        go_wp2
        go_ret
        exact ⟨rfl, Ext.refl _ _⟩
    · rcases h1.split with ⟨rfl, h0, h0'⟩ | ⟨o1, c1, rfl, hnc1, hcm1, _⟩
      · omega
      rcases h2.split with ⟨rfl, h0, h0'⟩ | ⟨o2, c2, rfl, hnc2, hcm2, _⟩
      · omega
      have HL := Lib.hid hl; clear hl
      go_enter Tryz.func107, Tryz.ntmps107
      go_wp2_with fail
      go_loopw [13] (fun iv wr => ∃ i : Nat, i ≤ l1.length ∧ iv = .int .i64 i ∧ Ext [] w wr ∧ (∀ k, k < i → kAt l1 k = kAt l2 k ∧ vAt l1 k = vAt l2 k)) (fun iv _ => l1.length - (intOf iv).toNat)
      case atStart => exact ⟨0, by omega, rfl, Ext.refl _ _, by omega⟩
      case round =>
        obtain ⟨i, hi, rfl, hx, hall⟩ := hrel
        by_cases hlt : i < l1.length
        · obtain ⟨a1, a2⟩ := (h1.ext hx (by simp)).pair i hlt
          obtain ⟨b1, b2⟩ := (h2.ext hx (by simp)).pair i (by have := HL.out; omega)
          have hlt2 : i < l2.length := by have := HL.out; omega
          have hneq := fun w => run_neq_pair w (kAt l1 i) (vAt l1 i) (kAt l2 i) (vAt l2 i)
          have HA := Lib.hid hall; clear hall
          clear h1 h2
          by_cases hpq : (kAt l1 i, vAt l1 i) = (kAt l2 i, vAt l2 i)
          · have hd : decide ((kAt l1 i, vAt l1 i) = (kAt l2 i, vAt l2 i)) = true := by simpa using hpq
            rw [hd] at hneq
            have HP := Lib.hid hpq; clear hpq hd
            go_wp2_with fail
            go_quiet (fail)
            clear hneq
            go_wp2
            go_roundw
            case rel =>
              refine ⟨i + 1, by omega, by go_num, hx.drewN _, fun k hk => ?_⟩
              rcases Nat.lt_or_ge k i with h | h
              · exact HA.out k h
              · obtain rfl : k = i := by omega
                have := HP.out
                simpa using this
            case measure => simp [intOf]; omega
          · have hd : decide ((kAt l1 i, vAt l1 i) = (kAt l2 i, vAt l2 i)) = false := by simpa using hpq
            rw [hd] at hneq
            have HP := Lib.hid hpq; clear hpq hd
            go_wp2_with fail
            go_quiet (fail)
            clear hneq
            go_wp2
            go_ret
            refine ⟨ret1 (vb ?_), hx.drewN _⟩
            symm
            simp only [decide_eq_false_iff_not]
            rintro rfl
            exact HP.out rfl
        · have HA := Lib.hid hall; clear hall
          clear h1 h2
          go_wp2
          go_ret
          refine ⟨ret1 (vb ?_), hx⟩
          symm
          simp only [decide_eq_true_eq]
          exact pairs_ext HL.out (fun k hk => HA.out k (by omega))
  · have hne : ((l1.length : Int) != (l2.length : Int)) = true := by simp; omega
    have hd : decide (l1 = l2) = false := by simp; intro h; exact hl (by rw [h])
    obtain ⟨A1, c1, rfl, _⟩ := h1.form
    obtain ⟨A2, c2, rfl, _⟩ := h2.form
    clear h1 h2
    go_enter Tryz.func107, Tryz.ntmps107
    go_wp2_with fail
    go_ret
    exact ⟨ret1 (by rw [hd]; rfl), Ext.refl _ _⟩
end Go.Proofs.YtfadbmfkidiaoaaGreatDoor
