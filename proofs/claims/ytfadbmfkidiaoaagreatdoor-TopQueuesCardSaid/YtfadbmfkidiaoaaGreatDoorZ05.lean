/- The plain map of the program, fourth part: slices.Insert of one pair. The plain map of the program, fifth part: a pair put to a place; Put, Insert. -/
import Derived.Test.YtfadbmfkidiaoaaGreatDoorZ04
import Derived.Lib.Overlaps
import Derived.Deep.RegionLaw
namespace Go.Proofs.YtfadbmfkidiaoaaGreatDoor
open Go.RowKit Go

def ins (l : Pairs) (i : Nat) (p : ByteArray × ByteArray) : Pairs := l.take i ++ p :: l.drop i

set_option maxHeartbeats 800000 in
/-- slices.Insert of a pair at the end -/
theorem insert_end (g gx : Nat) (s : Value) (l : Pairs) (p : ByteArray × ByteArray) (w : World) (hr : Row w g 77 2 s l.length (pcs l)) (hv : Vw w gx 77 2 (.slice (some ⟨gx, 0, none⟩) 1 1) 1 (pcs [p])) (hn : l.length ≤ 1000000) :
    Calls Tryz.prog 141 #[s, .int .i64 l.length, .slice (some ⟨gx, 0, none⟩) 1 1] w fun e w' => ∃ g' v', e = .returned v' ∧ Row w' g' 77 2 v' (l.length + 1) (pcs (l ++ [p])) ∧ (g' = g ∨ w.heap.size ≤ g') ∧ Ext [g] w w' := by
  obtain ⟨A, c, rfl, hA, hc⟩ := hr.form
  obtain ⟨A1, hs1, _, _⟩ := slice_l T32 A l.length c l.length rfl (Nat.le_refl _)
  go_enter Tryz.func141, Tryz.ntmps141
  go_wp2_with (with_reducible refine wpList_append T32 rfl (.tmp 23) (.tmp 24) rfl rfl rfl hr hv (pcs_one _) (by omega) (by omega) ?_; rintro g' A' c' w1 hr2 hx hg hA' _ _; obtain rfl := hA' (by omega))
  go_ret
  exact ⟨g', _, rfl, by rw [pcs_append]; exact hr2, hg, hx⟩

theorem Row.grown {w : World} {g e sz n c : Nat} {cs : List Value} (h : Row w g e sz (.slice (some ⟨g, 0, none⟩) n c) n cs) : ∃ cur, w.heap[g]? = some (.cells cur e (0, 0)) ∧ cur.size = c * sz ∧ n ≤ c ∧ c ≤ maxLen ∧ cur.toList.take (n * sz) = cs := by
  cases h with
  | at_ cur hl hn hc hb hs ht => exact ⟨cur, hb, hs, hn, hc, ht⟩
theorem pcs_oneT (l : Pairs) (k : Nat) : ∀ u ∈ (pcs l).take k, u.oneCell' = true := fun u hu => pcs_one l u (List.mem_of_mem_take hu)
theorem pcs_take (l : Pairs) (i : Nat) : (pcs l).take (i * 2) = pcs (l.take i) := by
  induction l generalizing i with
  | nil => simp [pcs]
  | cons p l ih =>
    cases i with
    | zero => simp [pcs]
    | succ i => have := ih i; simp only [pcs, List.flatMap_cons, List.take_succ_cons, List.cons_append, List.nil_append, show (i + 1) * 2 = i * 2 + 1 + 1 by omega] at this ⊢; rw [this]
theorem pcs_drop (l : Pairs) (i : Nat) : (pcs l).drop (i * 2) = pcs (l.drop i) := by
  induction l generalizing i with
  | nil => simp [pcs]
  | cons p l ih =>
    cases i with
    | zero => simp
    | succ i => have := ih i; simp only [pcs, List.flatMap_cons, List.drop_succ_cons, List.cons_append, List.nil_append, show (i + 1) * 2 = i * 2 + 1 + 1 by omega] at this ⊢; rw [this]

/-- what two copies make of a block -/
theorem two_copies (X : List Value) (a b c : List Value) (i k n : Nat) (hX : i + b.length + c.length ≤ X.length) (ha : X.take i = a) (hb : b.length = k) (hc : c.length = n) :
    (((X.take (i + k) ++ c ++ X.drop (i + k + n)).take i ++ b ++ (X.take (i + k) ++ c ++ X.drop (i + k + n)).drop (i + k)).take (i + k + n)) = a ++ b ++ c := by
  have h1 : (X.take (i + k) ++ c ++ X.drop (i + k + n)).take i = a := by
    rw [List.append_assoc, List.take_append_of_le_length (by rw [List.length_take]; omega), List.take_take, Nat.min_eq_left (by omega), ha]
  have h2 : (X.take (i + k) ++ c ++ X.drop (i + k + n)).drop (i + k) = c ++ X.drop (i + k + n) := by
    rw [List.append_assoc]
    have : (X.take (i + k)).length = i + k := by rw [List.length_take]; omega
    exact List.drop_left' this
  have hal : a.length = i := by rw [← ha, List.length_take]; omega
  rw [h1, h2, ← List.append_assoc]
  exact List.take_left' (by simp; omega)
theorem two_copies' (X : List Value) (a b c : List Value) (i k n : Nat) (hX : i + b.length + c.length ≤ X.length) (ha : X.take i = a) (hb : b.length = k) (hc : c.length = n) :
    (((X.take i ++ b ++ X.drop (i + k)).take (i + k) ++ c ++ (X.take i ++ b ++ X.drop (i + k)).drop (i + k + n)).take (i + k + n)) = a ++ b ++ c := by
  have hal : a.length = i := by rw [← ha, List.length_take]; omega
  have h1 : (X.take i ++ b ++ X.drop (i + k)).take (i + k) = a ++ b := by
    rw [ha]; exact List.take_left' (by simp; omega)
  rw [h1]
  exact List.take_left' (by simp; omega)

theorem pcs_ins (l : Pairs) (i : Nat) (p : ByteArray × ByteArray) : pcs (ins l i p) = pcs (l.take i) ++ pcs [p] ++ pcs (l.drop i) := by
  simp [ins, pcs]
theorem ins_cells {l : Pairs} {i : Nat} {p : ByteArray × ByteArray} {cur cur2 cur3 : Array Value} {zs : List Value} (hi : i < l.length)
    (hcur : cur.toList.take ((l.length + 1) * 2) = pcs (l.take i) ++ zs) (hz : zs.length = (l.length + 1 - i) * 2)
    (hcur2 : cur2.toList = cur.toList.take (i * 2) ++ (pcs [p]).take (1 * 2) ++ cur.toList.drop (i * 2 + 1 * 2))
    (hcur3 : cur3.toList = cur2.toList.take ((i + 1) * 2) ++ (pcs (l.drop i)).take ((l.length - i) * 2) ++ cur2.toList.drop ((i + 1) * 2 + (l.length - i) * 2)) :
    cur3.toList.take ((l.length + 1) * 2) = pcs (ins l i p) := by
  have hl1 : (pcs [p]).length = 2 := by simp [pcs]
  have hl2 : (pcs (l.drop i)).length = (l.length - i) * 2 := by rw [pcs_len, List.length_drop]
  have hlen : (pcs (l.take i) ++ zs).length = (l.length + 1) * 2 := by rw [List.length_append, pcs_len, List.length_take, hz]; omega
  have hX : (l.length + 1) * 2 ≤ cur.toList.length := by
    have := congrArg List.length hcur
    rw [List.length_take, hlen] at this; omega
  have ha : cur.toList.take (i * 2) = pcs (l.take i) := by
    have h1 : (cur.toList.take ((l.length + 1) * 2)).take (i * 2) = cur.toList.take (i * 2) := by rw [List.take_take, Nat.min_eq_left (by omega)]
    rw [← h1, hcur]
    exact List.take_left' (by rw [pcs_len, List.length_take]; omega)
  have h := two_copies' cur.toList (pcs (l.take i)) (pcs [p]) (pcs (l.drop i)) (i * 2) 2 ((l.length - i) * 2) (by rw [hl1, hl2]; omega) ha hl1 hl2
  rw [pcs_ins, ← h, hcur3, hcur2]
  have e1 : (pcs [p]).take (1 * 2) = pcs [p] := List.take_of_length_le (by omega)
  have e2 : (pcs (l.drop i)).take ((l.length - i) * 2) = pcs (l.drop i) := List.take_of_length_le (by omega)
  rw [e1, e2, show (i + 1) * 2 = i * 2 + 2 by omega, show i * 2 + 1 * 2 = i * 2 + 2 by omega, show (l.length + 1) * 2 = i * 2 + 2 + (l.length - i) * 2 by omega]
theorem ins_cells2 {l : Pairs} {i : Nat} {p : ByteArray × ByteArray} {cur cur2 cur3 : Array Value} (hi : i < l.length) (hs : (l.length + 1) * 2 ≤ cur.size)
    (hcur : cur.toList.take (l.length * 2) = pcs l)
    (hcur2 : cur2.toList = cur.toList.take ((i + 1) * 2) ++ pcs (l.drop i) ++ cur.toList.drop ((i + 1) * 2 + (l.length - i) * 2))
    (hcur3 : cur3.toList = cur2.toList.take (i * 2) ++ (pcs [p]).take (1 * 2) ++ cur2.toList.drop (i * 2 + 1 * 2)) :
    cur3.toList.take ((l.length + 1) * 2) = pcs (ins l i p) := by
  have hl1 : (pcs [p]).length = 2 := by simp [pcs]
  have hl2 : (pcs (l.drop i)).length = (l.length - i) * 2 := by rw [pcs_len, List.length_drop]
  have ha : cur.toList.take (i * 2) = pcs (l.take i) := by
    have h1 : (cur.toList.take (l.length * 2)).take (i * 2) = cur.toList.take (i * 2) := by rw [List.take_take, Nat.min_eq_left (by omega)]
    rw [← h1, hcur, pcs_take]
  have h := two_copies cur.toList (pcs (l.take i)) (pcs [p]) (pcs (l.drop i)) (i * 2) 2 ((l.length - i) * 2) (by have hcl : cur.toList.length = cur.size := Array.length_toList; rw [hl1, hl2]; omega) ha hl1 hl2
  rw [pcs_ins, ← h, hcur3, hcur2]
  have e1 : (pcs [p]).take (1 * 2) = pcs [p] := List.take_of_length_le (by omega)
  rw [e1, show (i + 1) * 2 = i * 2 + 2 by omega, show i * 2 + 1 * 2 = i * 2 + 2 by omega, show (l.length + 1) * 2 = i * 2 + 2 + (l.length - i) * 2 by omega]

set_option maxRecDepth 100000 in
set_option maxHeartbeats 1600000 in
/-- slices.Insert of a pair in the middle, no room -/
theorem insert_grow (g gx : Nat) (c i : Nat) (l : Pairs) (p : ByteArray × ByteArray) (w : World) (hr : Row w g 77 2 (.slice (some ⟨g, 0, none⟩) l.length c) l.length (pcs l)) (hv : Vw w gx 77 2 (.slice (some ⟨gx, 0, none⟩) 1 1) 1 (pcs [p])) (hn : l.length ≤ 1000000)
    (hi : i < l.length) (hc : c < l.length + 1) :
    Calls Tryz.prog 141 #[.slice (some ⟨g, 0, none⟩) l.length c, .int .i64 i, .slice (some ⟨gx, 0, none⟩) 1 1] w fun e w' => ∃ g' v', e = .returned v' ∧ Row w' g' 77 2 v' (l.length + 1) (pcs (ins l i p)) ∧ (g' = g ∨ w.heap.size ≤ g') ∧ Ext [g] w w' := by
  have hne : ((i : Int) == (l.length : Int)) = false := by simp; omega
  have hgt : decide ((c : Int) < l.length + 1) = true := by simp; omega
  have hlc : l.length ≤ c := by cases hr with | at_ _ _ h _ _ _ _ => exact h
  have hci : ¬ c = i := by omega
  have hvi := hr.vw.to_ i (by omega)
  rw [pcs_take] at hvi
  go_enter Tryz.func141, Tryz.ntmps141
  go_wp2_with (first | (with_reducible refine wpList_append_make T32 3 Tryz.underlying3 rfl (.tmp 34) (.tmp 39) rfl (l.length + 1 - i) (l.length + 1) (by omega) rfl rfl (by omega) hvi (by omega) (by omega) (by omega) ?_; rintro c' zs w1 hz hr1 hx1; obtain ⟨cur, hb, hs, hcc, hcm, hcur⟩ := hr1.grown) | (with_reducible refine wpList_copy T32 rfl (.tmp 43) (.tmp 44) rfl rfl rfl hb (hv.ext hx1 (by simp)) (pcs_oneT _ _) (k := 1) (by omega) (by omega) ?_; rintro w2 cur2 hb2 hcur2 hx2))
  have hc1 : ¬ c' = i + 1 := by omega
  have hvd := hr.vw.from_ i (by omega)
  rw [pcs_drop, Nat.zero_add] at hvd
  have hvd2 := (hvd.ext hx1 (by simp)).ext hx2 (by have := hr.grown; obtain ⟨cur0, hb0, _⟩ := this; have := lt_of_block hb0; simp; omega)
  have e1 : ((i : Int) + 1).toNat = i + 1 := by omega
  have e2 : (0 : Int) ≤ (i : Int) + 1 := by omega
  have e3 : i ≤ l.length := by omega
  have e0 : IntKind.i64.wrap ((i : Int) + 1) = (i : Int) + 1 := IntWalk.i64_in _ (by omega)
  go_still_tail 8, (by kernel_rfl)
  change wpList _ _ _ _ _ w2.drew
  clear e0
  have hb2' : w2.drew.heap[w.heap.size]? = some (.cells cur2 77) := hb2
  have hvd3 := hvd2.ext ((Ext.refl [] w2).drew) (by simp)
  have hcs2 : cur2.size = c' * 2 := by
    have := congrArg List.length hcur2
    simp [pcs] at this
    omega
  refine wpList_copy T32 rfl (.tmp 50) (.tmp 53) rfl rfl rfl hb2' hvd3 (pcs_oneT _ _) (k := l.length - i) (by omega) (by omega) ?_
  rintro w3 cur3 hb3 hcur3 hx3
  go_wp2
  go_ret
  refine ⟨w.heap.size, _, rfl, ?_, .inr (Nat.le_refl _), ?_⟩
  · refine .at_ cur3 (by rw [pcs_len]; simp [ins]; omega) hcc hcm hb3 ?_ ?_
    · have := congrArg List.length hcur3
      simp [pcs_len] at this
      omega
    · exact ins_cells hi hcur hz hcur2 hcur3
  · exact ((((Ext.refl [g] w).trans0 hx1).step hx2 (by simp)).drew).step hx3 (by simp)

set_option maxRecDepth 100000 in
set_option maxHeartbeats 1600000 in
/-- slices.Insert of a pair in the middle, where there is room -/
theorem insert_room (g gx : Nat) (c i : Nat) (l : Pairs) (p : ByteArray × ByteArray) (w : World) (hr : Row w g 77 2 (.slice (some ⟨g, 0, none⟩) l.length c) l.length (pcs l)) (hv : Vw w gx 77 2 (.slice (some ⟨gx, 0, none⟩) 1 1) 1 (pcs [p])) (hn : l.length ≤ 1000000)
    (hi : i < l.length) (hc : l.length + 1 ≤ c) (hgx : gx ≠ g) (hgb : w.heap[gx]? = some (.cells #[.string p.1, .string p.2] 77 (0, 0))) :
    Calls Tryz.prog 141 #[.slice (some ⟨g, 0, none⟩) l.length c, .int .i64 i, .slice (some ⟨gx, 0, none⟩) 1 1] w fun e w' => ∃ g' v', e = .returned v' ∧ Row w' g' 77 2 v' (l.length + 1) (pcs (ins l i p)) ∧ (g' = g ∨ w.heap.size ≤ g') ∧ Ext [g] w w' := by
  obtain ⟨cur, hb, hs, _, hcm, hcur⟩ := hr.grown
  have hne : ((i : Int) == (l.length : Int)) = false := by simp; omega
  have hgt : decide ((c : Int) < l.length + 1) = false := by simp; omega
  have hci : ¬ c = i := by omega
  have hci1 : ¬ c = i + 1 := by omega
  have hvd := Vw.of_block hb hs hcm i (l.length + 1 - i) (by omega)
  have hys : ((cur.toList.drop (i * 2)).take ((l.length + 1 - i) * 2)).take ((l.length - i) * 2) = pcs (l.drop i) := by
    rw [List.take_take, Nat.min_eq_left (by omega), ← pcs_drop, ← hcur, List.drop_take]
    congr 1; omega
  have hov : ∀ lb cb, (callFunc 181 #[.slice (some ⟨gx, 0, none⟩) 1 1, .slice (some ⟨g, (i + 1) * 2, none⟩) lb cb]).run Tryz.prog w = .ok (.value (.bool false)) w := fun lb cb => by
    rw [run_callFunc_extern Tryz.func181 (by kernel_rfl) (by kernel_rfl) (by kernel_rfl) (e := Extern.SlicesOverlaps.overlaps #[32, 32] #[4]) (by kernel_rfl),
      Lib.run_overlaps_apart w 32 4 77 Tryz.underlying32 2 (fun w => by obtain ⟨_, ⟨j, z, hj, _, hj2, _⟩, _⟩ := T32; simp [sizeOf, typeInfo, hj, hj2]) ⟨gx, 0, none⟩ ⟨g, (i + 1) * 2, none⟩ 1 1 lb cb hgx 77 77 2 cur.size (by simp [World.shape?, hgb]) (by simp [World.shape?, hb]) (by omega)
      (by simp [World.frozen?, hgb]) (by simp [World.frozen?, hgb])]
    rfl
  have e1 : ((i : Int) + 1).toNat = i + 1 := by omega
  have e2 : (0 : Int) ≤ (i : Int) + 1 := by omega
  have e3 : i ≤ l.length := by omega
  have e4 : i ≤ l.length + 1 := by omega
  have e5 : (i : Int) ≤ (l.length : Int) + 1 := by omega
  have HY := Lib.hid hys; clear hys
  clear hr
  go_enter Tryz.func141, Tryz.ntmps141
  go_wp2_with fail
  have e0 : IntKind.i64.wrap ((i : Int) + 1) = (i : Int) + 1 := IntWalk.i64_in _ (by omega)
  go_still_tail 8, (by kernel_rfl)
  change wpList _ _ _ _ _ w.drew
  clear e0
  have hb' : w.drew.heap[g]? = some (.cells cur 77) := hb
  have hvd3 := hvd.ext ((Ext.refl [] w).drew) (by simp)
  refine wpList_copy T32 rfl (.tmp 73) (.tmp 76) rfl rfl rfl hb' hvd3 (by rw [HY.out]; exact pcs_one _) (k := l.length - i) (by omega) (by omega) ?_
  rintro w2 cur2 hb2 hcur2 hx2
  rw [HY.out] at hcur2
  have hcs2 : cur2.size = c * 2 := by
    have := congrArg List.length hcur2
    simp [pcs_len] at this
    omega
  have hv2 := (hv.ext ((Ext.refl [] w).drew) (by simp)).ext hx2 (by simpa using hgx)
  go_wp2_with (with_reducible refine wpList_copy T32 rfl (.tmp 80) (.tmp 81) rfl rfl rfl hb2 hv2 (pcs_oneT _ _) (k := 1) (by omega) (by omega) ?_; rintro w3 cur3 hb3 hcur3 hx3)
  go_ret
  refine ⟨g, _, rfl, ?_, .inl rfl, ?_⟩
  · refine .at_ cur3 (by rw [pcs_len]; simp [ins]; omega) hc hcm hb3 ?_ ?_
    · have := congrArg List.length hcur3
      simp [pcs_len] at this
      omega
    · exact ins_cells2 hi (by omega) hcur hcur2 hcur3
  · exact (((Ext.refl [g] w).drew).step hx2 (by simp)).step hx3 (by simp)
end Go.Proofs.YtfadbmfkidiaoaaGreatDoor

namespace Go.Proofs.YtfadbmfkidiaoaaGreatDoor
open Go.RowKit Go
set_option linter.unusedSimpArgs false
set_option linter.unusedVariables false
set_option linter.unusedSectionVars false
set_option linter.unnecessarySimpa false

/-- slices.Insert of one pair, which lies in a block of its own -/
theorem insert_any (g gx : Nat) (s : Value) (i : Nat) (l : Pairs) (p : ByteArray × ByteArray) (w : World) (hr : Row w g 77 2 s l.length (pcs l)) (hn : l.length ≤ 1000000) (hi : i ≤ l.length) (hgx : gx ≠ g)
    (hgb : w.heap[gx]? = some (.cells #[.string p.1, .string p.2] 77 (0, 0))) :
    Calls Tryz.prog 141 #[s, .int .i64 i, .slice (some ⟨gx, 0, none⟩) 1 1] w fun e w' => ∃ g' v', e = .returned v' ∧ Row w' g' 77 2 v' (l.length + 1) (pcs (ins l i p)) ∧ (g' = g ∨ w.heap.size ≤ g') ∧ Ext [g] w w' := by
  have hv : Vw w gx 77 2 (.slice (some ⟨gx, 0, none⟩) 1 1) 1 (pcs [p]) := by
    have := Vw.of_block (c := 1) (sz := 2) hgb rfl (by simp [maxLen]) 0 1 (by omega)
    simpa [pcs] using this
  rcases Nat.lt_or_ge i l.length with h | h
  · rcases hr.split with ⟨rfl, h0, _⟩ | ⟨c, cur, rfl, hnc, hcm, _⟩
    · omega
    · rcases Nat.lt_or_ge c (l.length + 1) with h2 | h2
      · exact insert_grow g gx c i l p w hr hv hn h h2
      · exact insert_room g gx c i l p w hr hv hn h h2 hgx hgb
  · obtain rfl : i = l.length := by omega
    have := insert_end g gx s l p w hr hv hn
    rwa [show ins l l.length p = l ++ [p] by simp [ins]]

theorem ins_len (l : Pairs) (i : Nat) (p : ByteArray × ByteArray) : (ins l i p).length = l.length + 1 := by
  simp [ins]; omega

theorem mdl_store {w1 : World} {b g' n c : Nat} {l' : Pairs} {x : Value} (hb : w1.heap[b]? = some (.cells #[x] 34 (0, 0))) (hr : Row w1 g' 77 2 (.slice (some ⟨g', 0, none⟩) n c) n (pcs l')) (hne : g' ≠ b) (h8 : 8 ≤ b) (h8' : 8 ≤ g') (hn : l'.length = n) :
    Mdl (w1.setCell ⟨b, 0, none⟩ (.slice (some ⟨g', 0, none⟩) n c)) b g' l' := by
  obtain ⟨cur, hc, _⟩ := hr.grown
  have hx : Ext [b] w1 (w1.setCell ⟨b, 0, none⟩ (.slice (some ⟨g', 0, none⟩) n c)) := (Ext.refl [b] w1).setCell (.inl (by simp)) _
  subst hn
  exact ⟨⟨_, one_setCell hb, hr.ext hx (by simpa using hne)⟩, Nat.lt_of_lt_of_le (lt_of_block hc) hx.size, h8, h8'⟩

theorem pcs_set (l : Pairs) (i : Nat) (p : ByteArray × ByteArray) : ((pcs l).set (i * 2) (.string p.1)).set (i * 2 + 1) (.string p.2) = pcs (l.set i p) := by
  induction l generalizing i with
  | nil => simp [pcs]
  | cons q l ih =>
    cases i with
    | zero => simp [pcs]
    | succ i =>
      have := ih i
      simp only [pcs, List.flatMap_cons, List.set_cons_succ, List.cons_append, List.nil_append, show (i + 1) * 2 = i * 2 + 1 + 1 by omega] at this ⊢
      rw [this]

/-- a pair written into a block of pairs -/
theorem row_set {W : World} {g c : Nat} {cur : Array Value} {l : Pairs} (hb : W.heap[g]? = some (.cells cur 77 (0, 0))) (hs : cur.size = c * 2) (hn : l.length ≤ c) (hc : c ≤ maxLen) (ht : cur.toList.take (l.length * 2) = pcs l) (i : Nat) (p : ByteArray × ByteArray) :
    Row ((W.setCell ⟨g, i * 2, none⟩ (.string p.1)).setCell ⟨g, i * 2 + 1, none⟩ (.string p.2)) g 77 2 (.slice (some ⟨g, 0, none⟩) l.length c) l.length (pcs (l.set i p)) := by
  have h1 := heap_setCell_same W g (i * 2) cur 77 (.string p.1) hb
  have h2 := heap_setCell_same _ g (i * 2 + 1) _ 77 (.string p.2) h1
  refine .at_ _ (by rw [pcs_len]; simp) hn hc h2 (by simp [hs]) ?_
  rw [Array.toList_setIfInBounds, Array.toList_setIfInBounds, List.take_set, List.take_set, ht, pcs_set]

def SetPost (b g : Nat) (l' : Pairs) (w : World) (e : Ending) (w' : World) : Prop :=
  e = .returned (.int .i64 0) ∧ ∃ g', Mdl w' b g' l' ∧ (g' = g ∨ w.heap.size ≤ g') ∧ Ext [b, g] w w'

set_option maxRecDepth 100000 in
set_option maxHeartbeats 1600000 in
/-- a new pair -/
theorem set_new (b g : Nat) (l : Pairs) (i : Nat) (p : ByteArray × ByteArray) (w : World) (hm : Mdl w b g l) (hn : l.length < 20000) (hi : i ≤ l.length) :
    Calls Tryz.prog 92 #[.pointer (some ⟨b, 0, none⟩), .int .i64 i, .bool false, .agg #[.string p.1, .string p.2]] w (SetPost b g (ins l i p) w) := by
  have h8 := hm.lo
  have h8' := hm.lo'
  obtain ⟨v, gi, hb, hr, hgb, hgx, hgg⟩ := hm.other (w.heap.size + 1) (by omega)
  clear hm
  obtain ⟨A, c, rfl, hA, hc⟩ := hr.form
  clear hA
  have hc0 := cell_of_one hb
  have hbl := lt_of_block hb
  have hfull : ((l.length : Int) == 20000) = false := by simp; omega
  obtain ⟨W1, hW1⟩ : ∃ W1, ((w.alloc (.cells #[.string p.1, .string p.2] 77)).alloc (.cells #[.string p.1, .string p.2] 77)).drew = W1 := ⟨_, rfl⟩
  have hx0 : Ext [] w W1 := by rw [← hW1]; exact (((Ext.refl [] w).alloc _).alloc _).drew
  have hr1 := hr.ext hx0 (by simp)
  have hb1 := hx0.keep hb (by simp)
  have hgx1 : W1.heap[w.heap.size + 1]? = some (.cells #[.string p.1, .string p.2] 77 (0, 0)) := by
    rw [← hW1, heap_drew]; exact heap_alloc2_new w _ _
  have hins := insert_any gi (w.heap.size + 1) _ i l p W1 hr1 (by omega) hi (Ne.symm hgx) hgx1
  have hsz := hx0.size
  rw [← hW1] at hins
  clear hgx1
  have HI := Lib.hid hins; clear hins
  have HW := Lib.hid hW1; clear hW1
  clear hr1
  go_enter Tryz.func92, Tryz.ntmps92
  go_wp2_with fail
  go_region_with (go_at_call 141; refine HI.out.mono ?_; rintro e w1 ⟨g', v', rfl, hr2, hg, hx⟩; obtain ⟨A', c', rfl, hA', _⟩ := hr2.form; obtain rfl := hA' (by omega); clear hA'; rw [HW.out] at hx hg; have hb2 := hx.keep hb1 (by simpa using Ne.symm hgb); have hc2 := cell_of_one hb2; have hf2 := free_of_one hb2)
  all_goals
    go_wp2
    go_ret
    refine ⟨rfl, g', mdl_store hb2 hr2 (by omega) h8 (by omega) (by rw [ins_len]), by omega, ?_⟩
    refine ((hx0.mono (by simp)).step hx ?_).setCell (.inl (by simp)) _
    intro x hx'
    simp only [List.mem_singleton] at hx'
    subst hx'
    rcases hgg with h | h
    · exact .inl (by simp [h])
    · exact .inr h

set_option maxRecDepth 100000 in
set_option maxHeartbeats 1600000 in
/-- another value for a key that is there -/
theorem set_old (b g : Nat) (l : Pairs) (i : Nat) (p : ByteArray × ByteArray) (w : World) (hm : Mdl w b g l) (hi : i < l.length) (hn : l.length ≤ 1000000) :
    Calls Tryz.prog 92 #[.pointer (some ⟨b, 0, none⟩), .int .i64 i, .bool true, .agg #[.string p.1, .string p.2]] w (SetPost b g (l.set i p) w) := by
  obtain ⟨⟨v, hb, hr⟩, hlt, h8, h8'⟩ := hm
  rcases hr.split with ⟨rfl, h0, _⟩ | ⟨c, cur, rfl, hnc, hcm, hcur, hs, htk⟩
  · omega
  obtain ⟨W1, hW1⟩ : ∃ W1, w.alloc (.cells #[.string p.1, .string p.2] 77) = W1 := ⟨_, rfl⟩
  have hx0 : Ext [] w W1 := by rw [← hW1]; exact (Ext.refl [] w).alloc _
  have hbl := lt_of_block hb
  have hsz : w.heap.size < W1.heap.size := by rw [← hW1]; simp
  have hcx := cell_of_row W1 w.heap.size 0 #[.string p.1, .string p.2] 77 (0, 0) (by rw [← hW1]; exact heap_alloc_new w _)
  have hcy := cell_of_row W1 w.heap.size 1 #[.string p.1, .string p.2] 77 (0, 0) (by rw [← hW1]; exact heap_alloc_new w _)
  simp at hcx hcy
  have hb := hx0.keep hb (by simp)
  have hcur := hx0.keep hcur (by simp)
  have hr := hr.ext hx0 (by simp)
  have hc0 := cell_of_one hb
  obtain ⟨h1, h2⟩ := hr.vw.pair i hi
  simp only [Nat.zero_add] at h1 h2
  have hf1 : W1.frozen? ⟨g, i * 2, none⟩ = false := frozen_of_row W1 g _ cur 77 hcur
  have hf2 : W1.frozen? ⟨g, i * 2 + 1, none⟩ = false := frozen_of_row W1 g _ cur 77 hcur
  have HW := Lib.hid hW1; clear hW1
  go_enter Tryz.func92, Tryz.ntmps92
  go_wp2_with fail
  rw [HW.out]
  go_still_tail 6, (by kernel_rfl)
  change wpList _ _ _ _ _ W1.drew
  go_wp2
  go_ret
  have hE : Ext [g] W1 ((W1.setCell ⟨g, i * 2, none⟩ (.string p.1)).setCell ⟨g, i * 2 + 1, none⟩ (.string p.2)).drew := (((Ext.refl [g] W1).setCell (.inl (by simp)) _).setCell (.inl (by simp)) _).drew
  have hgb : b ≠ g := by rintro rfl; rw [hb] at hcur; cases hcur
  refine ⟨rfl, g, ⟨⟨_, hE.keep hb (by simpa using hgb), ?_⟩, ?_, h8, h8'⟩, .inl rfl, (hx0.mono (by simp)).step hE (by simp)⟩
  · have := row_set hcur hs hnc hcm htk i p
    rw [List.length_set]
    exact this.ext ((Ext.refl [] _).drew) (by simp)
  · exact Nat.lt_of_lt_of_le (lt_of_block hcur) hE.size
end Go.Proofs.YtfadbmfkidiaoaaGreatDoor
