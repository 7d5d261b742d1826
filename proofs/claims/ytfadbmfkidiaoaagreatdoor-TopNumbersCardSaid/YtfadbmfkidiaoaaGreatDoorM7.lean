/- The plain map of the program, seventh part: two maps compared; a key deleted. -/
import Derived.Test.YtfadbmfkidiaoaaGreatDoorM6
namespace Go.Proofs.YtfadbmfkidiaoaaGreatDoor
open Go.RowKit Go

set_option maxRecDepth 100000 in
set_option maxHeartbeats 800000 in
/-- model.Equal -/
theorem modelEqual (b1 g1 b2 g2 : Nat) (l1 l2 : Pairs) (w : World) (h1 : Mdl w b1 g1 l1) (h2 : Mdl w b2 g2 l2) (hn1 : l1.length ≤ 1000000) (hn2 : l2.length ≤ 1000000) :
    Calls Tryz.prog 43 #[.pointer (some ⟨b1, 0, none⟩), .pointer (some ⟨b2, 0, none⟩)] w fun e w' => e = .returned (.bool (decide (l1 = l2))) ∧ Ext [] w w' := by
  by_cases hl : l1.length = l2.length
  · have hne : ((l1.length : Int) != (l2.length : Int)) = false := by simp; omega
    have HL := Lib.hid hl; clear hl
    go_enter Tryz.func43, Tryz.ntmps43
    go_wp2_with fail
    refine (len_any b1 g1 l1 _ h1).mono ?_
    rintro e w1 ⟨rfl, rfl⟩
    go_wp2_with fail
    refine (len_any b2 g2 l2 _ h2).mono ?_
    rintro e w1 ⟨rfl, rfl⟩
    go_wp2_with fail
    refine (pairs_any b1 g1 l1 _ h1 hn1).mono ?_
    rintro e w1 ⟨g3, v3, rfl, hr3, hg3, hx3⟩
    go_wp2_with fail
    refine (pairs_any b2 g2 l2 _ (h2.ext hx3 (by simp) (by simp)) hn2).mono ?_
    rintro e w2 ⟨g4, v4, rfl, hr4, hg4, hx4⟩
    go_wp2_with fail
    refine (equalPairs g3 g4 _ _ l1 l2 _ (hr3.vw.ext hx4 (by simp)) hr4.vw).mono ?_
    rintro e w3 ⟨rfl, hx5⟩
    go_wp2
    go_ret
    exact ⟨rfl, (hx3.trans hx4).trans hx5⟩
  · have hne : ((l1.length : Int) != (l2.length : Int)) = true := by simp; omega
    have hd : decide (l1 = l2) = false := by simp; intro h; exact hl (by rw [h])
    have HD := Lib.hid hd; clear hd
    go_enter Tryz.func43, Tryz.ntmps43
    go_wp2_with fail
    refine (len_any b1 g1 l1 _ h1).mono ?_
    rintro e w1 ⟨rfl, rfl⟩
    go_wp2_with fail
    refine (len_any b2 g2 l2 _ h2).mono ?_
    rintro e w1 ⟨rfl, rfl⟩
    go_wp2_with fail
    go_ret
    exact ⟨ret1 (by rw [HD.out]; rfl), Ext.refl _ _⟩

theorem zero77 : ∀ z, (Tryz.prog.info? 77).bind (·.zero) = some z → ∀ u ∈ z.cells.toList, u.oneCell' = true := by
  have h : (Tryz.prog.info? 77).bind (·.zero) = some (.agg #[.string ⟨#[]⟩, .string ⟨#[]⟩]) := by kernel_rfl
  intro z hz u hu
  rw [h] at hz
  cases hz
  simp [Value.cells] at hu
  subst hu
  rfl
def delAt (l : Pairs) (i : Nat) : Pairs := l.take i ++ l.drop (i + 1)
theorem delAt_len (l : Pairs) (i : Nat) (h : i < l.length) : (delAt l i).length = l.length - 1 := by simp [delAt]; omega

set_option maxRecDepth 100000 in
set_option maxHeartbeats 1600000 in
/-- slices.Delete of one pair -/
theorem deletePair (g c i : Nat) (l : Pairs) (w : World) (hr : Row w g 77 2 (.slice (some ⟨g, 0, none⟩) l.length c) l.length (pcs l)) (hi : i < l.length) (hn : l.length ≤ 1000000) {j : Int} (hj : j = (i : Int) + 1) :
    Calls Tryz.prog 158 #[.slice (some ⟨g, 0, none⟩) l.length c, .int .i64 i, .int .i64 j] w fun e w' => e = .returned (.slice (some ⟨g, 0, none⟩) (l.length - 1) c) ∧ Row w' g 77 2 (.slice (some ⟨g, 0, none⟩) (l.length - 1) c) (l.length - 1) (pcs (delAt l i)) ∧ Ext [g] w w' := by
  subst hj
  obtain ⟨cur, hb, hs, hnc, hcm, hcur⟩ := hr.grown
  have hne : ((i : Int) == (i : Int) + 1) = false := by simp; omega
  have hvd := Vw.of_block hb hs hcm (i + 1) (l.length - (i + 1)) (by omega)
  have hys : (cur.toList.drop ((i + 1) * 2)).take ((l.length - (i + 1)) * 2) = pcs (l.drop (i + 1)) := by
    rw [← pcs_drop, ← hcur, List.drop_take]
    congr 1; omega
  rw [hys] at hvd
  clear hys
  obtain ⟨A1, hs1, hs2, hs3⟩ := slice_l T32 (some ⟨g, 0, none⟩) l.length c (i + 1) (z := (i : Int) + 1) (by omega) (by omega)
  have hvd2 := hr.vw.tail (i + 1) (by omega) hs2 hs3
  rw [pcs_drop] at hvd2
  clear hs2 hs3 hvd hr
  have e1 : ((i : Int) + 1).toNat = i + 1 := by omega
  have e2 : (0 : Int) ≤ (i : Int) + 1 := by omega
  have e4 : i ≤ c := by omega
  have e5 : i + 1 ≤ l.length := by omega
  have e6 : (i : Int) + 1 ≤ (l.length : Int) := by omega
  go_enter Tryz.func158, Tryz.ntmps158
  go_wp2_with fail
  go_still_tail 6, (by kernel_rfl)
  change wpList _ _ _ _ _ w.drew
  have hb' : w.drew.heap[g]? = some (.cells cur 77) := hb
  refine wpList_append_in T32 rfl (.tmp 22) (.tmp 25) rfl rfl rfl hb' (hvd2.ext ((Ext.refl [] w).drew) (by simp)) (pcs_one _) (by omega) (by omega) (l.length - 1) (by omega) ?_
  rintro w2 cur2 hb2 hcur2 hx2
  have hcl : cur.toList.length = cur.size := Array.length_toList
  have hs2 : cur2.size = c * 2 := by
    have := congrArg List.length hcur2
    simp [pcs_len] at this
    omega
  have ht2 : cur2.toList.take ((l.length - 1) * 2) = pcs (delAt l i) := by
    have hl3 : cur.toList.take (i * 2) = pcs (l.take i) := by
      rw [← pcs_take, ← hcur, List.take_take, Nat.min_eq_left (by omega)]
    rw [hcur2, hl3, ← pcs_append, show l.take i ++ l.drop (i + 1) = delAt l i from rfl]
    exact List.take_left' (by rw [pcs_len, delAt_len l i hi])
  clear hs1 hvd2
  have e7 : ((l.length - 1 : Nat) : Int) ≤ (l.length : Int) := by omega
  have e8 : ¬ c = l.length - 1 := by omega
  have e9 : l.length - 1 ≤ l.length := by omega
  have e10 : l.length ≤ c := by omega
  have e11 : l.length - (l.length - 1) = 1 := by omega
  go_wp2_with (with_reducible refine wpList_clear T32 rfl (.tmp 31) rfl rfl hb2 (by omega) zero77 ?_; rintro w3 cur3 hb3 hcur3 hsz3 hx3)
  go_ret
  have hE : Ext [g] w w3 := (((Ext.refl [g] w).drew).trans hx2).trans hx3
  refine ⟨rfl, ?_, hE⟩
  refine .at_ cur3 (by rw [pcs_len, delAt_len l i hi]) (by omega) hcm hb3 (by omega) ?_
  rw [hcur3, ht2]

/-- the list without a key -/
def delL (l : Pairs) (k : ByteArray) : Pairs := delAt l (rk l k)
def DelPost (b g : Nat) (v : ByteArray) (l' : Pairs) (w : World) (e : Ending) (w' : World) : Prop :=
  e = .returned (.tuple #[.string v, .int .i64 0]) ∧ Mdl w' b g l' ∧ Ext [b, g] w w'

set_option maxRecDepth 100000 in
set_option maxHeartbeats 1600000 in
/-- Delete of a key that is there -/
theorem delete_yes (b g : Nat) (l : Pairs) (k : ByteArray) (w : World) (hm : Mdl w b g l) (hn : l.length ≤ 1000000) (hs : Srt l) (hk1 : 1 ≤ k.size) (hk2 : k.size ≤ 24) (hh : has l k = true) :
    Calls Tryz.prog 120 #[.pointer (some ⟨b, 0, none⟩), .string k] w (DelPost b g (look l k) (delL l k) w) := by
  have hin : rk l k < l.length := by simp [has] at hh; exact hh.1
  have HS := Lib.hid hs; clear hs
  have HH := Lib.hid hh; clear hh
  go_enter Tryz.func120, Tryz.ntmps120
  go_wp2_with fail
  refine (get_yes b g l k _ hm (by omega) HS.out hk1 hk2 HH.out).mono ?_
  rintro e w1 ⟨rfl, hx1⟩
  have hm1 := hm.ext hx1 (by simp) (by simp)
  go_wp2_with fail
  refine (place_any b g l k _ hm1 (by omega) HS.out).mono ?_
  rintro e w2 ⟨rfl, hx2⟩
  have hm2 := hm1.ext hx2 (by simp) (by simp)
  have h8 := hm2.lo
  have h8' := hm2.lo'
  obtain ⟨⟨v, hb, hr⟩, hlt, _, _⟩ := hm2
  rcases hr.split with ⟨rfl, h0, _⟩ | ⟨c, cur, rfl, hnc, hcm, hcur, _⟩
  · omega
  have hgb : b ≠ g := by rintro rfl; rw [hb] at hcur; cases hcur
  have hc0 := cell_of_one hb
  go_wp2_with fail
  refine (deletePair g c _ l _ hr hin hn rfl).mono ?_
  rintro e w3 ⟨rfl, hr3, hx3⟩
  have hb3 := hx3.keep hb (by simpa using hgb)
  have hc3 := cell_of_one hb3
  have hf3 := free_of_one hb3
  go_wp2_with fail
  go_ret2
  refine ⟨rfl, mdl_store hb3 hr3 (Ne.symm hgb) h8 h8' (delAt_len l _ hin), ?_⟩
  exact ((((Ext.refl [b, g] w).trans0 hx1).trans0 hx2).step hx3 (by simp)).setCell (.inl (by simp)) _

set_option maxHeartbeats 800000 in
theorem delete_no (b g : Nat) (l : Pairs) (k : ByteArray) (w : World) (hm : Mdl w b g l) (hn : l.length ≤ 1000000) (hs : Srt l) (hk1 : 1 ≤ k.size) (hk2 : k.size ≤ 24) (hh : has l k = false) :
    Calls Tryz.prog 120 #[.pointer (some ⟨b, 0, none⟩), .string k] w fun e w' => e = .returned (.tuple #[.string ⟨#[]⟩, .int .i64 9]) ∧ Ext [] w w' := by
  have HS := Lib.hid hs; clear hs
  have HH := Lib.hid hh; clear hh
  go_enter Tryz.func120, Tryz.ntmps120
  go_wp2_with fail
  refine (get_no b g l k _ hm (by omega) HS.out hk1 hk2 HH.out).mono ?_
  rintro e w1 ⟨rfl, hx1⟩
  go_wp2_with fail
  go_ret2
  exact ⟨rfl, hx1⟩
end Go.Proofs.YtfadbmfkidiaoaaGreatDoor
