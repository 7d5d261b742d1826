/- The plain map of the program, sixth part: Put and Insert, Pairs and Copy. The plain map of the program, seventh part: two maps compared; a key deleted. -/
import Derived.Test.YtfadbmfkidiaoaaGreatDoorZ05
namespace Go.Proofs.YtfadbmfkidiaoaaGreatDoor
open Go.RowKit Go

def putL (l : Pairs) (k v : ByteArray) : Pairs := if has l k then l.set (rk l k) (k, v) else ins l (rk l k) (k, v)

/-- what a step before a SetPost adds -/
theorem SetPost.from {b g : Nat} {l' : Pairs} {w w1 w' : World} {e : Ending} (hx : Ext [] w w1) (h : SetPost b g l' w1 e w') : SetPost b g l' w e w' := by
  obtain ⟨rfl, g', hm, hg, hx2⟩ := h
  exact ⟨rfl, g', hm, hg.imp id (fun h => Nat.le_trans hx.size h), (hx.mono (by simp)).trans hx2⟩

theorem Vw.new1 (w : World) (v : ByteArray) : Vw (w.alloc (.cells #[.string v] 9)) w.heap.size 9 1 (.slice (some ⟨w.heap.size, 0, none⟩) 1 1) 1 (scs [v]) := by
  have := (Row.new w 9 1 #[.string v] 1 1 (Nat.le_refl _) (by simp [maxLen]) rfl).vw
  simpa [scs] using this

theorem one40 {v : ByteArray} (hv : v.size ≤ 40) : ∀ i, i < 1 → (sAt [v] i).size ≤ 40 := by
  intro i hi
  have : i = 0 := by omega
  subst this
  simpa [sAt] using hv

set_option maxRecDepth 100000 in
set_option maxHeartbeats 800000 in
theorem put_any (b g : Nat) (l : Pairs) (k v : ByteArray) (w : World) (hm : Mdl w b g l) (hn : l.length < 20000) (hs : Srt l) (hk1 : 1 ≤ k.size) (hk2 : k.size ≤ 24) (hv : v.size ≤ 40) :
    Calls Tryz.prog 36 #[.pointer (some ⟨b, 0, none⟩), .string k, .string v] w (SetPost b g (putL l k v) w) := by
  have HS := Lib.hid hs; clear hs
  have hrk := rk_le l k
  have hm1 := hm.ext ((Ext.refl [] w).alloc (.cells #[.string v] 9)) (by simp) (by simp)
  have hvw := Vw.new1 w v
  go_enter Tryz.func36, Tryz.ntmps36
  go_wp2_with fail
  refine (at_ok b g l k _ _ 1 [v] _ hm1 (by omega) HS.out hk1 hk2 hvw (one40 hv)).mono ?_
  rintro e w1 ⟨rfl, hx⟩
  have hx1 : Ext [] w w1 := ((Ext.refl [] w).alloc _).trans hx
  have hm2 := hm.ext hx1 (by simp) (by simp)
  clear hm1 hvw hx
  cases hh : has l k with
  | true =>
    have hin : rk l k < l.length := by simp [has] at hh; exact hh.1
    have HE := Lib.hid hh; clear hh
    go_wp2_with fail
    refine (set_old b g l _ (k, v) _ hm2 hin (by omega)).mono ?_
    intro e w2 hp
    have hpp := SetPost.from hx1 hp
    obtain ⟨rfl, _⟩ := hp
    go_wp2
    go_ret
    rw [putL, HE.out]
    exact hpp
  | false =>
    have HE := Lib.hid hh; clear hh
    go_wp2_with fail
    refine (set_new b g l _ (k, v) _ hm2 hn hrk).mono ?_
    intro e w2 hp
    have hpp := SetPost.from hx1 hp
    obtain ⟨rfl, _⟩ := hp
    go_wp2
    go_ret
    rw [putL, HE.out]
    exact hpp

set_option maxRecDepth 100000 in
set_option maxHeartbeats 800000 in
/-- Insert of a key that isn't there -/
theorem insert_new (b g : Nat) (l : Pairs) (k v : ByteArray) (w : World) (hm : Mdl w b g l) (hn : l.length < 20000) (hs : Srt l) (hk1 : 1 ≤ k.size) (hk2 : k.size ≤ 24) (hv : v.size ≤ 40) (hh : has l k = false) :
    Calls Tryz.prog 103 #[.pointer (some ⟨b, 0, none⟩), .string k, .string v] w (SetPost b g (ins l (rk l k) (k, v)) w) := by
  have HS := Lib.hid hs; clear hs
  have hrk := rk_le l k
  have hm1 := hm.ext ((Ext.refl [] w).alloc (.cells #[.string v] 9)) (by simp) (by simp)
  have hvw := Vw.new1 w v
  go_enter Tryz.func103, Tryz.ntmps103
  go_wp2_with fail
  refine (at_ok b g l k _ _ 1 [v] _ hm1 (by omega) HS.out hk1 hk2 hvw (one40 hv)).mono ?_
  rintro e w1 ⟨rfl, hx⟩
  have hx1 : Ext [] w w1 := ((Ext.refl [] w).alloc _).trans hx
  have hm2 := hm.ext hx1 (by simp) (by simp)
  clear hm1 hvw hx
  go_wp2_with fail
  refine (set_new b g l _ (k, v) _ hm2 hn hrk).mono ?_
  intro e w2 hp
  have hpp := SetPost.from hx1 hp
  obtain ⟨rfl, _⟩ := hp
  go_wp2
  go_ret
  exact hpp

/-- a copy of the pairs -/
theorem pairs_any (b g : Nat) (l : Pairs) (w : World) (hm : Mdl w b g l) (hn : l.length ≤ 1000000) :
    Calls Tryz.prog 23 #[.pointer (some ⟨b, 0, none⟩)] w fun e w' => ∃ g' v', e = .returned v' ∧ Row w' g' 77 2 v' l.length (pcs l) ∧ w.heap.size ≤ g' ∧ Ext [] w w' := by
  obtain ⟨⟨v, hb, hr⟩, _, _, _⟩ := hm
  have hc := cell_of_one hb
  obtain ⟨A, c, rfl, _, _⟩ := hr.form
  have hv := hr.vw
  clear hr hb
  go_enter Tryz.func23, Tryz.ntmps23
  go_wp2_with fail
  refine (clonePairs g _ _ l _ hv hn).mono ?_
  rintro e w1 ⟨g', v', rfl, hr, hg, hx⟩
  go_wp2
  go_ret
  exact ⟨g', _, rfl, hr, hg, hx⟩

def Copied (l : Pairs) (w : World) (e : Ending) (w' : World) : Prop :=
  ∃ b' g', e = .returned (.pointer (some ⟨b', 0, none⟩)) ∧ Mdl w' b' g' l ∧ w.heap.size ≤ b' ∧ w.heap.size ≤ g' ∧ Ext [] w w'

/-- a new map round a row of pairs -/
theorem mdl_new {w : World} {g : Nat} {v : Value} {l : Pairs} (hr : Row w g 77 2 v l.length (pcs l)) (h8 : 8 ≤ g) (h8' : 8 ≤ w.heap.size) :
    ∃ g', Mdl (w.alloc (.cells #[v] 34)) w.heap.size g' l ∧ (g' = g ∨ g' = w.heap.size) := by
  have hx : Ext [] w (w.alloc (.cells #[v] 34)) := (Ext.refl [] w).alloc _
  rcases hr.split with ⟨rfl, h2, h3⟩ | ⟨c, cur, h1, h2, h3, h4, _⟩
  · exact ⟨w.heap.size, ⟨⟨_, heap_alloc_new w _, by rw [h2, h3]; exact .nil⟩, by simp, h8', h8'⟩, .inr rfl⟩
  · exact ⟨g, ⟨⟨_, heap_alloc_new w _, hr.ext hx (by simp)⟩, Nat.lt_of_lt_of_le (lt_of_block h4) hx.size, h8', h8⟩, .inl rfl⟩

theorem copy_any (b g : Nat) (l : Pairs) (w : World) (hm : Mdl w b g l) (hn : l.length ≤ 1000000) :
    Calls Tryz.prog 52 #[.pointer (some ⟨b, 0, none⟩)] w (Copied l w) := by
  have h8 := hm.lo
  obtain ⟨⟨v, hb, hr⟩, _, _, _⟩ := hm
  have hc := cell_of_one hb
  have hbl := lt_of_block hb
  obtain ⟨A, c, rfl, _, _⟩ := hr.form
  have hv := hr.vw
  clear hr hb
  go_enter Tryz.func52, Tryz.ntmps52
  go_wp2_with fail
  refine (clonePairs g _ _ l _ hv hn).mono ?_
  rintro e w1 ⟨g', v', rfl, hr, hg, hx⟩
  obtain ⟨A', c', rfl, _, _⟩ := hr.form
  have hsz := hx.size
  obtain ⟨g2, hm2, hg2⟩ := mdl_new hr (by omega) (by omega)
  go_wp2
  go_ret
  exact ⟨_, g2, rfl, hm2, hsz, by omega, hx.alloc _⟩

theorem pair_eq (a b c d : ByteArray) : (a.toList == c.toList && b.toList == d.toList) = decide ((a, b) = (c, d)) := by
  rw [Bool.eq_iff_iff]
  simp only [Bool.and_eq_true, beq_iff_eq, decide_eq_true_eq, Prod.mk.injEq, ByteArray.toList_eq]
  exact ⟨fun ⟨h1, h2⟩ => ⟨ba_ext h1, ba_ext h2⟩, fun ⟨h1, h2⟩ => by rw [h1, h2]; exact ⟨rfl, rfl⟩⟩

theorem pairs_ext {l1 l2 : Pairs} (hl : l1.length = l2.length) (h : ∀ k, k < l1.length → kAt l1 k = kAt l2 k ∧ vAt l1 k = vAt l2 k) : l1 = l2 := by
  refine List.ext_getElem hl (fun k h1 h2 => ?_)
  have := h k h1
  rw [kAt_eq _ _ h1, kAt_eq _ _ h2, vAt_eq _ _ h1, vAt_eq _ _ h2] at this
  exact Prod.ext this.1 this.2
theorem run_equalIn_pair (d : Nat) (w : World) (x0 y0 x1 y1 : ByteArray) :
    (Op.equalIn (d + 2) 77 (.agg #[.string x0, .string x1]) (.agg #[.string y0, .string y1])).run Tryz.prog w = .ok (decide ((x0, x1) = (y0, y1))) w := by
  rw [← pair_eq]
  go_simp
  by_cases h1 : x0.toList = y0.toList <;> by_cases h2 : x1.toList = y1.toList <;> simp [h1, h2]
theorem run_neq_pair (w : World) (a b c d : ByteArray) : (binOp .neq 77 (.agg #[.string a, .string b]) (.agg #[.string c, .string d])).run Tryz.prog w = .ok (.bool (!decide ((a, b) = (c, d)))) w := by
  rw [run_neq_struct, run_equalIn_pair 9998]; rfl
theorem run_eql_pair (w : World) (a b c d : ByteArray) : (binOp .eql 77 (.agg #[.string a, .string b]) (.agg #[.string c, .string d])).run Tryz.prog w = .ok (.bool (decide ((a, b) = (c, d)))) w := by
  rw [run_eql_struct, run_equalIn_pair 9998]; rfl

set_option maxRecDepth 100000 in
set_option maxHeartbeats 800000 in
/-- slices.Equal of pairs -/
theorem equalPairs (g1 g2 : Nat) (v1 v2 : Value) (l1 l2 : Pairs) (w : World) (h1 : Vw w g1 77 2 v1 l1.length (pcs l1)) (h2 : Vw w g2 77 2 v2 l2.length (pcs l2)) :
    Calls Tryz.prog 107 #[v1, v2] w fun e w' => e = .returned (.bool (decide (l1 = l2))) ∧ Ext [] w w' := by
  have hmx := h1.lenMax
  by_cases hl : l1.length = l2.length
  · have heq : ((l1.length : Int) != (l2.length : Int)) = false := by simp; omega
    by_cases h00 : l1.length = 0
    · have e1 : l1 = [] := List.eq_nil_of_length_eq_zero h00
      have e2 : l2 = [] := List.eq_nil_of_length_eq_zero (by omega)
      subst e1; subst e2
      obtain ⟨A1, c1, rfl, _⟩ := h1.form
      obtain ⟨A2, c2, rfl, _⟩ := h2.form
      clear h1 h2 heq hl hmx h00
      go_enter Tryz.func107, Tryz.ntmps107
      go_wp2_with fail
      go_loop [13] (fun iv => iv = .int .i64 0) (fun _ => 0)
      case atStart => exact rfl
      case round =>
        obtain rfl := hrel
        go_wp2
        go_ret
        exact ⟨rfl, Ext.refl _ _⟩
    · rcases h1.split with ⟨rfl, h0, h0'⟩ | ⟨o1, c1, rfl, hnc1, hcm1, _⟩
      · omega
      rcases h2.split with ⟨rfl, h0, h0'⟩ | ⟨o2, c2, rfl, hnc2, hcm2, _⟩
      · omega
      have HL := Lib.hid hl; clear hl
      go_enter Tryz.func107, Tryz.ntmps107
      go_wp2_with fail
      go_loopw [13] (fun iv wr => ∃ i : Nat, i ≤ l1.length ∧ iv = .int .i64 i ∧ Ext [] w wr ∧ (∀ k, k < i → kAt l1 k = kAt l2 k ∧ vAt l1 k = vAt l2 k)) (fun iv _ => l1.length - (intOf iv).toNat)
      case atStart => exact ⟨0, by omega, rfl, Ext.refl _ _, by omega⟩
      case round =>
        obtain ⟨i, hi, rfl, hx, hall⟩ := hrel
        by_cases hlt : i < l1.length
        · obtain ⟨a1, a2⟩ := (h1.ext hx (by simp)).pair i hlt
          obtain ⟨b1, b2⟩ := (h2.ext hx (by simp)).pair i (by have := HL.out; omega)
          have hlt2 : i < l2.length := by have := HL.out; omega
          have hneq := fun w => run_neq_pair w (kAt l1 i) (vAt l1 i) (kAt l2 i) (vAt l2 i)
          have HA := Lib.hid hall; clear hall
          clear h1 h2
          by_cases hpq : (kAt l1 i, vAt l1 i) = (kAt l2 i, vAt l2 i)
          · have hd : decide ((kAt l1 i, vAt l1 i) = (kAt l2 i, vAt l2 i)) = true := by simpa using hpq
            rw [hd] at hneq
            have HP := Lib.hid hpq; clear hpq hd
            go_wp2_with fail
            go_quiet (fail)
            clear hneq
            go_wp2
            go_roundw
            case rel =>
              refine ⟨i + 1, by omega, by go_num, hx.drewN _, fun k hk => ?_⟩
              rcases Nat.lt_or_ge k i with h | h
              · exact HA.out k h
              · obtain rfl : k = i := by omega
                have := HP.out
                simpa using this
            case measure => simp [intOf]; omega
          · have hd : decide ((kAt l1 i, vAt l1 i) = (kAt l2 i, vAt l2 i)) = false := by simpa using hpq
            rw [hd] at hneq
            have HP := Lib.hid hpq; clear hpq hd
            go_wp2_with fail
            go_quiet (fail)
            clear hneq
            go_wp2
            go_ret
            refine ⟨ret1 (vb ?_), hx.drewN _⟩
            symm
            simp only [decide_eq_false_iff_not]
            rintro rfl
            exact HP.out rfl
        · have HA := Lib.hid hall; clear hall
          clear h1 h2
          go_wp2
          go_ret
          refine ⟨ret1 (vb ?_), hx⟩
          symm
          simp only [decide_eq_true_eq]
          exact pairs_ext HL.out (fun k hk => HA.out k (by omega))
  · have hne : ((l1.length : Int) != (l2.length : Int)) = true := by simp; omega
    have hd : decide (l1 = l2) = false := by simp; intro h; exact hl (by rw [h])
    obtain ⟨A1, c1, rfl, _⟩ := h1.form
    obtain ⟨A2, c2, rfl, _⟩ := h2.form
    clear h1 h2
    go_enter Tryz.func107, Tryz.ntmps107
    go_wp2_with fail
    go_ret
    exact ⟨ret1 (by rw [hd]; rfl), Ext.refl _ _⟩
end Go.Proofs.YtfadbmfkidiaoaaGreatDoor

namespace Go.Proofs.YtfadbmfkidiaoaaGreatDoor
open Go.RowKit Go

set_option maxRecDepth 100000 in
set_option maxHeartbeats 800000 in
/-- model.Equal -/
theorem modelEqual (b1 g1 b2 g2 : Nat) (l1 l2 : Pairs) (w : World) (h1 : Mdl w b1 g1 l1) (h2 : Mdl w b2 g2 l2) (hn1 : l1.length ≤ 1000000) (hn2 : l2.length ≤ 1000000) :
    Calls Tryz.prog 43 #[.pointer (some ⟨b1, 0, none⟩), .pointer (some ⟨b2, 0, none⟩)] w fun e w' => e = .returned (.bool (decide (l1 = l2))) ∧ Ext [] w w' := by
  by_cases hl : l1.length = l2.length
  · have hne : ((l1.length : Int) != (l2.length : Int)) = false := by simp; omega
    have HL := Lib.hid hl; clear hl
    go_enter Tryz.func43, Tryz.ntmps43
    go_wp2_with fail
    refine (len_any b1 g1 l1 _ h1).mono ?_
    rintro e w1 ⟨rfl, rfl⟩
    go_wp2_with fail
    refine (len_any b2 g2 l2 _ h2).mono ?_
    rintro e w1 ⟨rfl, rfl⟩
    go_wp2_with fail
    refine (pairs_any b1 g1 l1 _ h1 hn1).mono ?_
    rintro e w1 ⟨g3, v3, rfl, hr3, hg3, hx3⟩
    go_wp2_with fail
    refine (pairs_any b2 g2 l2 _ (h2.ext hx3 (by simp) (by simp)) hn2).mono ?_
    rintro e w2 ⟨g4, v4, rfl, hr4, hg4, hx4⟩
    go_wp2_with fail
    refine (equalPairs g3 g4 _ _ l1 l2 _ (hr3.vw.ext hx4 (by simp)) hr4.vw).mono ?_
    rintro e w3 ⟨rfl, hx5⟩
    go_wp2
    go_ret
    exact ⟨rfl, (hx3.trans hx4).trans hx5⟩
  · have hne : ((l1.length : Int) != (l2.length : Int)) = true := by simp; omega
    have hd : decide (l1 = l2) = false := by simp; intro h; exact hl (by rw [h])
    have HD := Lib.hid hd; clear hd
    go_enter Tryz.func43, Tryz.ntmps43
    go_wp2_with fail
    refine (len_any b1 g1 l1 _ h1).mono ?_
    rintro e w1 ⟨rfl, rfl⟩
    go_wp2_with fail
    refine (len_any b2 g2 l2 _ h2).mono ?_
    rintro e w1 ⟨rfl, rfl⟩
    go_wp2_with fail
    go_ret
    exact ⟨ret1 (by rw [HD.out]; rfl), Ext.refl _ _⟩

theorem zero77 : ∀ z, (Tryz.prog.info? 77).bind (·.zero) = some z → ∀ u ∈ z.cells.toList, u.oneCell' = true := by
  have h : (Tryz.prog.info? 77).bind (·.zero) = some (.agg #[.string ⟨#[]⟩, .string ⟨#[]⟩]) := by kernel_rfl
  intro z hz u hu
  rw [h] at hz
  cases hz
  simp [Value.cells] at hu
  subst hu
  rfl
def delAt (l : Pairs) (i : Nat) : Pairs := l.take i ++ l.drop (i + 1)
theorem delAt_len (l : Pairs) (i : Nat) (h : i < l.length) : (delAt l i).length = l.length - 1 := by simp [delAt]; omega

set_option maxRecDepth 100000 in
set_option maxHeartbeats 1600000 in
/-- slices.Delete of one pair -/
theorem deletePair (g c i : Nat) (l : Pairs) (w : World) (hr : Row w g 77 2 (.slice (some ⟨g, 0, none⟩) l.length c) l.length (pcs l)) (hi : i < l.length) (hn : l.length ≤ 1000000) {j : Int} (hj : j = (i : Int) + 1) :
    Calls Tryz.prog 158 #[.slice (some ⟨g, 0, none⟩) l.length c, .int .i64 i, .int .i64 j] w fun e w' => e = .returned (.slice (some ⟨g, 0, none⟩) (l.length - 1) c) ∧ Row w' g 77 2 (.slice (some ⟨g, 0, none⟩) (l.length - 1) c) (l.length - 1) (pcs (delAt l i)) ∧ Ext [g] w w' := by
  subst hj
  obtain ⟨cur, hb, hs, hnc, hcm, hcur⟩ := hr.grown
  have hne : ((i : Int) == (i : Int) + 1) = false := by simp; omega
  have hvd := Vw.of_block hb hs hcm (i + 1) (l.length - (i + 1)) (by omega)
  have hys : (cur.toList.drop ((i + 1) * 2)).take ((l.length - (i + 1)) * 2) = pcs (l.drop (i + 1)) := by
    rw [← pcs_drop, ← hcur, List.drop_take]
    congr 1; omega
  rw [hys] at hvd
  clear hys
  obtain ⟨A1, hs1, hs2, hs3⟩ := slice_l T32 (some ⟨g, 0, none⟩) l.length c (i + 1) (z := (i : Int) + 1) (by omega) (by omega)
  have hvd2 := hr.vw.tail (i + 1) (by omega) hs2 hs3
  rw [pcs_drop] at hvd2
  clear hs2 hs3 hvd hr
  have e1 : ((i : Int) + 1).toNat = i + 1 := by omega
  have e2 : (0 : Int) ≤ (i : Int) + 1 := by omega
  have e4 : i ≤ c := by omega
  have e5 : i + 1 ≤ l.length := by omega
  have e6 : (i : Int) + 1 ≤ (l.length : Int) := by omega
  go_enter Tryz.func158, Tryz.ntmps158
  go_wp2_with fail
  go_still_tail 6, (by kernel_rfl)
  change wpList _ _ _ _ _ w.drew
  have hb' : w.drew.heap[g]? = some (.cells cur 77) := hb
  refine wpList_append_in T32 rfl (.tmp 22) (.tmp 25) rfl rfl rfl hb' (hvd2.ext ((Ext.refl [] w).drew) (by simp)) (pcs_one _) (by omega) (by omega) (l.length - 1) (by omega) ?_
  rintro w2 cur2 hb2 hcur2 hx2
  have hcl : cur.toList.length = cur.size := Array.length_toList
  have hs2 : cur2.size = c * 2 := by
    have := congrArg List.length hcur2
    simp [pcs_len] at this
    omega
  have ht2 : cur2.toList.take ((l.length - 1) * 2) = pcs (delAt l i) := by
    have hl3 : cur.toList.take (i * 2) = pcs (l.take i) := by
      rw [← pcs_take, ← hcur, List.take_take, Nat.min_eq_left (by omega)]
    rw [hcur2, hl3, ← pcs_append, show l.take i ++ l.drop (i + 1) = delAt l i from rfl]
    exact List.take_left' (by rw [pcs_len, delAt_len l i hi])
  clear hs1 hvd2
  have e7 : ((l.length - 1 : Nat) : Int) ≤ (l.length : Int) := by omega
  have e8 : ¬ c = l.length - 1 := by omega
  have e9 : l.length - 1 ≤ l.length := by omega
  have e10 : l.length ≤ c := by omega
  have e11 : l.length - (l.length - 1) = 1 := by omega
  go_wp2_with (with_reducible refine wpList_clear T32 rfl (.tmp 31) rfl rfl hb2 (by omega) zero77 ?_; rintro w3 cur3 hb3 hcur3 hsz3 hx3)
  go_ret
  have hE : Ext [g] w w3 := (((Ext.refl [g] w).drew).trans hx2).trans hx3
  refine ⟨rfl, ?_, hE⟩
  refine .at_ cur3 (by rw [pcs_len, delAt_len l i hi]) (by omega) hcm hb3 (by omega) ?_
  rw [hcur3, ht2]

/-- the list without a key -/
def delL (l : Pairs) (k : ByteArray) : Pairs := delAt l (rk l k)
def DelPost (b g : Nat) (v : ByteArray) (l' : Pairs) (w : World) (e : Ending) (w' : World) : Prop :=
  e = .returned (.tuple #[.string v, .int .i64 0]) ∧ Mdl w' b g l' ∧ Ext [b, g] w w'

set_option maxRecDepth 100000 in
set_option maxHeartbeats 1600000 in
/-- Delete of a key that is there -/
theorem delete_yes (b g : Nat) (l : Pairs) (k : ByteArray) (w : World) (hm : Mdl w b g l) (hn : l.length ≤ 1000000) (hs : Srt l) (hk1 : 1 ≤ k.size) (hk2 : k.size ≤ 24) (hh : has l k = true) :
    Calls Tryz.prog 120 #[.pointer (some ⟨b, 0, none⟩), .string k] w (DelPost b g (look l k) (delL l k) w) := by
  have hin : rk l k < l.length := by simp [has] at hh; exact hh.1
  have HS := Lib.hid hs; clear hs
  have HH := Lib.hid hh; clear hh
  go_enter Tryz.func120, Tryz.ntmps120
  go_wp2_with fail
  refine (get_yes b g l k _ hm (by omega) HS.out hk1 hk2 HH.out).mono ?_
  rintro e w1 ⟨rfl, hx1⟩
  have hm1 := hm.ext hx1 (by simp) (by simp)
  go_wp2_with fail
  refine (place_any b g l k _ hm1 (by omega) HS.out).mono ?_
  rintro e w2 ⟨rfl, hx2⟩
  have hm2 := hm1.ext hx2 (by simp) (by simp)
  have h8 := hm2.lo
  have h8' := hm2.lo'
  obtain ⟨⟨v, hb, hr⟩, hlt, _, _⟩ := hm2
  rcases hr.split with ⟨rfl, h0, _⟩ | ⟨c, cur, rfl, hnc, hcm, hcur, _⟩
  · omega
  have hgb : b ≠ g := by rintro rfl; rw [hb] at hcur; cases hcur
  have hc0 := cell_of_one hb
  go_wp2_with fail
  refine (deletePair g c _ l _ hr hin hn rfl).mono ?_
  rintro e w3 ⟨rfl, hr3, hx3⟩
  have hb3 := hx3.keep hb (by simpa using hgb)
  have hc3 := cell_of_one hb3
  have hf3 := free_of_one hb3
  go_wp2_with fail
  go_ret2
  refine ⟨rfl, mdl_store hb3 hr3 (Ne.symm hgb) h8 h8' (delAt_len l _ hin), ?_⟩
  exact ((((Ext.refl [b, g] w).trans0 hx1).trans0 hx2).step hx3 (by simp)).setCell (.inl (by simp)) _

set_option maxHeartbeats 800000 in
theorem delete_no (b g : Nat) (l : Pairs) (k : ByteArray) (w : World) (hm : Mdl w b g l) (hn : l.length ≤ 1000000) (hs : Srt l) (hk1 : 1 ≤ k.size) (hk2 : k.size ≤ 24) (hh : has l k = false) :
    Calls Tryz.prog 120 #[.pointer (some ⟨b, 0, none⟩), .string k] w fun e w' => e = .returned (.tuple #[.string ⟨#[]⟩, .int .i64 9]) ∧ Ext [] w w' := by
  have HS := Lib.hid hs; clear hs
  have HH := Lib.hid hh; clear hh
  go_enter Tryz.func120, Tryz.ntmps120
  go_wp2_with fail
  refine (get_no b g l k _ hm (by omega) HS.out hk1 hk2 HH.out).mono ?_
  rintro e w1 ⟨rfl, hx1⟩
  go_wp2_with fail
  go_ret2
  exact ⟨rfl, hx1⟩
end Go.Proofs.YtfadbmfkidiaoaaGreatDoor
