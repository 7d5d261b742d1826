/- The plain map of the program, first part: keys compared, a place searched, a key and its values checked. The plain map of the program, second part: a map in memory, where a key is. The plain map of the program, third part: reading it, copying it, comparing two. -/
import Derived.Test.YtfadbmfkidiaoaaGreatDoorZ02
namespace Go.Proofs.YtfadbmfkidiaoaaGreatDoor
open Go.RowKit Go

def pcs (l : Pairs) : List Value := l.flatMap fun p => [.string p.1, .string p.2]
theorem pcs_len (l : Pairs) : (pcs l).length = l.length * 2 := by
  unfold pcs; induction l with
  | nil => rfl
  | cons p l ih => simp [ih]; omega
theorem pcs_append (l m : Pairs) : pcs (l ++ m) = pcs l ++ pcs m := by simp [pcs]
theorem pcs_get (l : Pairs) (i : Nat) (h : i < l.length) : (pcs l)[i * 2]? = some (.string (kAt l i)) ∧ (pcs l)[i * 2 + 1]? = some (.string (vAt l i)) := by
  induction l generalizing i with
  | nil => simp at h
  | cons p l ih =>
    cases i with
    | zero => simp [pcs, kAt, vAt]
    | succ i =>
      have := ih i (by simpa using h)
      have e1 : (i + 1) * 2 = i * 2 + 1 + 1 := by omega
      have e2 : (i + 1) * 2 + 1 = i * 2 + 1 + 1 + 1 := by omega
      simp only [e1, pcs, List.flatMap_cons, List.cons_append, List.getElem?_cons_succ, List.nil_append]
      exact ⟨by rw [show kAt (p :: l) (i + 1) = kAt l i by simp [kAt]]; exact this.1, by rw [show vAt (p :: l) (i + 1) = vAt l i by simp [vAt]]; exact this.2⟩
theorem pcs_one (l : Pairs) : ∀ u ∈ pcs l, u.oneCell' = true := by
  intro u hu
  simp only [pcs, List.mem_flatMap] at hu
  obtain ⟨p, _, hp⟩ := hu
  simp at hp
  rcases hp with rfl | rfl <;> rfl

/-- the cells of a list of pairs that is read -/
theorem Vw.pair {w : World} {g o n c : Nat} {l : Pairs} (h : Vw w g 77 2 (.slice (some ⟨g, o, none⟩) n c) n (pcs l)) (i : Nat) (hi : i < n) :
    w.cell? ⟨g, o + i * 2, none⟩ = some (.string (kAt l i)) ∧ w.cell? ⟨g, o + i * 2 + 1, none⟩ = some (.string (vAt l i)) := by
  cases h with
  | at_ hl hn hc hcell hty =>
    have hi' : i < l.length := by rw [pcs_len] at hl; omega
    have := pcs_get l i hi'
    exact ⟨hcell _ _ this.1, by rw [Nat.add_assoc]; exact hcell _ _ this.2⟩
theorem Vw.plen {w : World} {g : Nat} {v : Value} {n : Nat} {l : Pairs} (h : Vw w g 77 2 v n (pcs l)) : l.length = n := by
  have := h.len; rw [pcs_len] at this; omega

theorem cmp_any (a b : ByteArray) (w : World) :
    Calls Tryz.prog 206 #[.string a, .string b] w fun e w' => e = .returned (.int .i64 (cmpS a b)) ∧ w = w' :=
  (Tryz.strings_Compare a b w).mono fun _ _ ⟨h, k⟩ => ⟨h, k.symm⟩
theorem keysCompare (a b : ByteArray) (w : World) :
    Calls Tryz.prog 180 #[.string a, .string b] w fun e w' => e = .returned (.int .i64 (cmpS a b)) ∧ w = w' := by
  go_enter Tryz.func180, Tryz.ntmps180
  go_wp2_with (go_at_call 206; refine (cmp_any _ _ _).mono ?_; rintro e w' ⟨rfl, rfl⟩)
  go_ret
  exact ⟨rfl, rfl⟩
theorem place1 (k v key : ByteArray) (w : World) :
    Calls Tryz.prog 179 #[.agg #[.string k, .string v], .string key] w fun e w' => e = .returned (.int .i64 (cmpS k key)) ∧ Ext [] w w' := by
  go_enter Tryz.func179, Tryz.ntmps179
  go_wp2_with (go_at_call 180; refine (keysCompare _ _ _).mono ?_; rintro e w' ⟨rfl, rfl⟩)
  go_ret
  exact ⟨rfl, (Ext.refl _ _).alloc _⟩

set_option maxHeartbeats 400000 in
theorem bsearch (g : Nat) (v : Value) (n : Nat) (l : Pairs) (key : ByteArray) (w : World) (hv : Vw w g 77 2 v n (pcs l)) (hn : n ≤ 4611686018427387903) (hs : Srt l) :
    Calls Tryz.prog 178 #[v, .string key, .func (.func 179) #[] #[]] w fun e w' => e = .returned (.tuple #[.int .i64 (rk l key), .bool (has l key)]) ∧ Ext [] w w' := by
  have hlen := hv.plen
  have hrk := rk_le l key
  have HS := Lib.hid hs; clear hs
  rcases hv.split with ⟨rfl, rfl, _⟩ | ⟨o, c, rfl, hnc, hcm, _⟩
  · have hl0 : l = [] := List.eq_nil_of_length_eq_zero hlen
    subst hl0
    clear hv hlen hrk
    go_enter Tryz.func178, Tryz.ntmps178
    go_wp2_with fail
    go_loopw [9, 10] (fun iv jv wr => iv = .int .i64 0 ∧ jv = .int .i64 0 ∧ Ext [] w wr) (fun _ _ _ => 0)
    case atStart => exact ⟨rfl, rfl, Ext.refl _ _⟩
    case round =>
      obtain ⟨rfl, rfl, hx⟩ := hrel
      go_wp2
      go_ret2
      exact ⟨by simp [rk, has], hx⟩
  · go_enter Tryz.func178, Tryz.ntmps178
    go_wp2_with fail
    go_loopw [9, 10] (fun iv jv wr => ∃ i j : Nat, i ≤ rk l key ∧ rk l key ≤ j ∧ j ≤ n ∧ iv = .int .i64 i ∧ jv = .int .i64 j ∧ Ext [] w wr) (fun iv jv _ => (intOf jv).toNat - (intOf iv).toNat)
    case atStart => exact ⟨0, n, by omega, by omega, by omega, rfl, rfl, Ext.refl _ _⟩
    case round =>
      obtain ⟨i, j, hij, hjn, hf, rfl, rfl, hx⟩ := hrel
      have hvr := hv.ext hx (by simp)
      by_cases hlt : i < j
      · obtain ⟨h1, h2⟩ := hvr.pair ((i + j) / 2) (by omega)
        clear hvr
        go_wp2_with fail
        refine (place1 _ _ _ _).mono ?_
        rintro e w1 ⟨rfl, hx1⟩
        clear h1 h2
        go_wp2_with fail
        · have h : cmpS (kAt l ((i + j) / 2)) key < 0 := by assumption
          have := rk_gt HS.out (i := (i + j) / 2) (by omega) ((cmpS_lt _ _).1 h)
          go_roundw
          case rel => exact ⟨(i + j) / 2 + 1, j, by omega, by omega, by omega, by go_num, rfl, hx.trans hx1⟩
          case measure => simp [intOf]; omega
        · have h : 0 ≤ cmpS (kAt l ((i + j) / 2)) key := by assumption
          have := rk_ge (l := l) (k := key) (i := (i + j) / 2) (fun hk => by have := (cmpS_lt _ _).2 hk; omega) (by omega)
          go_roundw
          case rel => exact ⟨i, (i + j) / 2, by omega, by omega, by omega, rfl, by go_num, hx.trans hx1⟩
          case measure => simp [intOf]; omega
      · obtain rfl : i = rk l key := by omega
        by_cases hin : rk l key < n
        · obtain ⟨h1, h2⟩ := hvr.pair (rk l key) hin
          clear hvr
          go_wp2_with fail
          refine (place1 _ _ _ _).mono ?_
          rintro e w1 ⟨rfl, hx1⟩
          clear h1 h2
          go_wp2_with fail
          go_ret2
          refine ⟨ret2 rfl (vb ?_), hx.trans hx1⟩
          rw [Bool.eq_iff_iff]
          simp only [beq_iff_eq, has, decide_eq_true_eq, cmpS_eq]
          exact ⟨fun h => ⟨by omega, h⟩, fun h => h.2⟩
        · go_wp2_with fail
          go_ret2
          refine ⟨ret2 rfl (vb ?_), hx⟩
          rw [eq_comm]
          simp only [has, decide_eq_false_iff_not]
          omega
end Go.Proofs.YtfadbmfkidiaoaaGreatDoor

namespace Go.Proofs.YtfadbmfkidiaoaaGreatDoor
open Go.RowKit Go

def scs (l : List ByteArray) : List Value := l.map Value.string
def sAt (l : List ByteArray) (i : Nat) : ByteArray := l.getD i ByteArray.empty

theorem Vw.str {w : World} {g o n c : Nat} {l : List ByteArray} (h : Vw w g 9 1 (.slice (some ⟨g, o, none⟩) n c) n (scs l)) (i : Nat) (hi : i < n) :
    w.cell? ⟨g, o + i, none⟩ = some (.string (sAt l i)) := by
  cases h with
  | at_ hl hn hc hcell hty =>
    have hi' : i < l.length := by simp [scs] at hl; omega
    exact hcell _ _ (by simp [scs, sAt, hi'])
theorem Vw.slen {w : World} {g : Nat} {v : Value} {n : Nat} {l : List ByteArray} (h : Vw w g 9 1 v n (scs l)) : l.length = n := by
  have := h.len; simp [scs] at this; omega

/-- A map in memory: block b holds the slice of its pairs, which lie in block g. -/
structure Mdl (w : World) (b g : Nat) (l : Pairs) : Prop where
  blk : ∃ v, w.heap[b]? = some (.cells #[v] 34 (0, 0)) ∧ Row w g 77 2 v l.length (pcs l)
  lt : g < w.heap.size
  lo : 8 ≤ b
  lo' : 8 ≤ g

theorem Mdl.ext {w w' : World} {b g : Nat} {l : Pairs} {S : List Nat} (h : Mdl w b g l) (hx : Ext S w w') (h1 : b ∉ S) (h2 : g ∉ S) : Mdl w' b g l := by
  obtain ⟨⟨v, hb, hr⟩, h3, h4, h5⟩ := h
  exact ⟨⟨v, hx.keep hb h1, hr.ext hx h2⟩, Nat.lt_of_lt_of_le h3 hx.size, h4, h5⟩

/-- another name for the block of its pairs, where that is none: fresh, not b, not x -/
theorem Mdl.other {w : World} {b g : Nat} {l : Pairs} (h : Mdl w b g l) (x : Nat) (hx : w.heap.size ≤ x) : ∃ v gi, w.heap[b]? = some (.cells #[v] 34 (0, 0)) ∧ Row w gi 77 2 v l.length (pcs l) ∧ gi ≠ b ∧ gi ≠ x ∧ (gi = g ∨ w.heap.size ≤ gi) := by
  obtain ⟨⟨v, hb, hr⟩, h3, h4, h5⟩ := h
  have hbl := lt_of_block hb
  rcases hr.split with ⟨rfl, h0, h1⟩ | ⟨c, cur, rfl, hnc, hcm, hg, _⟩
  · exact ⟨_, x + 1, hb, by rw [h1, h0]; exact .nil, by omega, by omega, .inr (by omega)⟩
  · refine ⟨_, g, hb, hr, fun e => ?_, by omega, .inl rfl⟩
    subst e
    rw [hb] at hg
    cases hg

set_option maxHeartbeats 400000 in
theorem place_any (b g : Nat) (l : Pairs) (key : ByteArray) (w : World) (hm : Mdl w b g l) (hn : l.length ≤ 4611686018427387903) (hs : Srt l) :
    Calls Tryz.prog 140 #[.pointer (some ⟨b, 0, none⟩), .string key] w fun e w' => e = .returned (.tuple #[.int .i64 (rk l key), .bool (has l key)]) ∧ Ext [] w w' := by
  obtain ⟨⟨v, hb, hr⟩, h3, h4, h5⟩ := hm
  have hc := cell_of_one hb
  have hv := hr.vw
  clear hb hr
  have HS := Lib.hid hs; clear hs
  go_enter Tryz.func140, Tryz.ntmps140
  go_wp2_with fail
  refine (bsearch g v _ l key w hv hn HS.out).mono ?_
  rintro e w1 ⟨rfl, hx⟩
  go_wp2_with fail
  go_ret2
  exact ⟨rfl, hx⟩

theorem check1 (v : ByteArray) (w : World) (h : v.size ≤ 40) :
    Calls Tryz.prog 177 #[.string v] w fun e w' => e = .returned (.bool false) ∧ w = w' := by
  go_enter Tryz.func177, Tryz.ntmps177
  go_wp2
  go_ret
  exact ⟨ret1 (vb (by simp; omega)), rfl⟩

set_option maxHeartbeats 400000 in
theorem indexLong (g : Nat) (v : Value) (n : Nat) (l : List ByteArray) (w : World) (hv : Vw w g 9 1 v n (scs l)) (h40 : ∀ i, i < n → (sAt l i).size ≤ 40) :
    Calls Tryz.prog 205 #[v, .func (.func 177) #[] #[]] w fun e w' => e = .returned (.int .i64 (-1)) ∧ w = w' := by
  have hmx := hv.lenMax
  rcases hv.split with ⟨rfl, rfl, _⟩ | ⟨o, c, rfl, hnc, hcm, _⟩
  · clear hv h40
    go_enter Tryz.func205, Tryz.ntmps205
    go_wp2_with fail
    go_loop [8] (fun iv => iv = .int .i64 0) (fun _ => 0)
    case atStart => exact rfl
    case round =>
      obtain rfl := hrel
      go_wp2
      go_ret
      exact ⟨rfl, rfl⟩
  · go_enter Tryz.func205, Tryz.ntmps205
    go_wp2_with fail
    go_loop [8] (fun iv => ∃ i : Nat, i ≤ n ∧ iv = .int .i64 i) (fun iv => n - (intOf iv).toNat)
    case atStart => exact ⟨0, by omega, rfl⟩
    case round =>
      obtain ⟨i, hi, rfl⟩ := hrel
      by_cases hlt : i < n
      · have h1 := hv.str i hlt
        have h2 := h40 i hlt
        clear hv h40
        go_wp2_with (go_at_call 177; refine (check1 _ _ h2).mono ?_; rintro e w' ⟨rfl, rfl⟩)
        go_round
        case rel => exact ⟨i + 1, by omega, by go_num⟩
        case measure => simp [intOf]; omega
      · clear hv h40
        go_wp2
        go_ret
        exact ⟨rfl, rfl⟩

theorem containsLong (g : Nat) (v : Value) (n : Nat) (l : List ByteArray) (w : World) (hv : Vw w g 9 1 v n (scs l)) (h40 : ∀ i, i < n → (sAt l i).size ≤ 40) :
    Calls Tryz.prog 176 #[v, .func (.func 177) #[] #[]] w fun e w' => e = .returned (.bool false) ∧ w = w' := by
  go_enter Tryz.func176, Tryz.ntmps176
  go_wp2_with (go_at_call 205; refine (indexLong g _ n l _ hv h40).mono ?_; rintro e w' ⟨rfl, rfl⟩)
  go_ret
  exact ⟨rfl, rfl⟩

/-- a key and values that are allowed -/
theorem check_ok (key : ByteArray) (g : Nat) (v : Value) (n : Nat) (l : List ByteArray) (w : World) (hk1 : 1 ≤ key.size) (hk2 : key.size ≤ 24) (hv : Vw w g 9 1 v n (scs l)) (h40 : ∀ i, i < n → (sAt l i).size ≤ 40) :
    Calls Tryz.prog 139 #[.string key, v] w fun e w' => e = .returned (.int .i64 0) ∧ w = w' := by
  have hne := str_ne hk1
  have h24 : decide ((24 : Int) < key.size) = false := by simp; omega
  go_enter Tryz.func139, Tryz.ntmps139
  go_wp2_with (go_at_call 176; refine (containsLong g _ n l _ hv h40).mono ?_; rintro e w' ⟨rfl, rfl⟩)
  go_ret
  exact ⟨rfl, rfl⟩

set_option maxHeartbeats 400000 in
/-- where a key is that is allowed -/
theorem at_ok (b g : Nat) (l : Pairs) (key : ByteArray) (g2 : Nat) (v : Value) (n : Nat) (vals : List ByteArray) (w : World) (hm : Mdl w b g l) (hn : l.length ≤ 4611686018427387903) (hs : Srt l)
    (hk1 : 1 ≤ key.size) (hk2 : key.size ≤ 24) (hv : Vw w g2 9 1 v n (scs vals)) (h40 : ∀ i, i < n → (sAt vals i).size ≤ 40) :
    Calls Tryz.prog 91 #[.pointer (some ⟨b, 0, none⟩), .string key, v] w fun e w' => e = .returned (.tuple #[.int .i64 (rk l key), .bool (has l key), .int .i64 0]) ∧ Ext [] w w' := by
  have HS := Lib.hid hs; clear hs
  go_enter Tryz.func91, Tryz.ntmps91
  go_wp2_with fail
  refine (check_ok key g2 v n vals _ hk1 hk2 hv h40).mono ?_
  rintro e w1 ⟨rfl, rfl⟩
  clear hv h40
  go_wp2_with fail
  refine (place_any b g l key _ hm hn HS.out).mono ?_
  rintro e w1 ⟨rfl, hx⟩
  go_wp2_with fail
  go_ret3
  exact ⟨rfl, hx⟩
end Go.Proofs.YtfadbmfkidiaoaaGreatDoor

namespace Go.Proofs.YtfadbmfkidiaoaaGreatDoor
open Go.RowKit Go

def look (l : Pairs) (k : ByteArray) : ByteArray := vAt l (rk l k)

set_option maxHeartbeats 400000 in
theorem get_yes (b g : Nat) (l : Pairs) (key : ByteArray) (w : World) (hm : Mdl w b g l) (hn : l.length ≤ 4611686018427387903) (hs : Srt l)
    (hk1 : 1 ≤ key.size) (hk2 : key.size ≤ 24) (hh : has l key = true) :
    Calls Tryz.prog 48 #[.pointer (some ⟨b, 0, none⟩), .string key] w fun e w' => e = .returned (.tuple #[.string (look l key), .int .i64 0]) ∧ Ext [] w w' := by
  have hin : rk l key < l.length := by simp [has] at hh; exact hh.1
  have HS := Lib.hid hs; clear hs
  go_enter Tryz.func48, Tryz.ntmps48
  go_wp2_with fail
  refine (at_ok b g l key 0 (.slice none 0 0) 0 [] _ hm hn HS.out hk1 hk2 .nil (by omega)).mono ?_
  rintro e w1 ⟨rfl, hx⟩
  obtain ⟨⟨v, hb, hr⟩, _, _, _⟩ := hm.ext hx (by simp) (by simp)
  have hc := cell_of_one hb
  rcases hr.split with ⟨rfl, h0, _⟩ | ⟨c, cur, rfl, hnc, hcm, _⟩
  · omega
  · obtain ⟨h1, h2⟩ := hr.vw.pair (rk l key) hin
    simp only [Nat.zero_add] at h1 h2
    clear hr hb
    go_wp2_with fail
    go_ret2
    exact ⟨rfl, hx⟩

set_option maxHeartbeats 400000 in
theorem get_no (b g : Nat) (l : Pairs) (key : ByteArray) (w : World) (hm : Mdl w b g l) (hn : l.length ≤ 4611686018427387903) (hs : Srt l)
    (hk1 : 1 ≤ key.size) (hk2 : key.size ≤ 24) (hh : has l key = false) :
    Calls Tryz.prog 48 #[.pointer (some ⟨b, 0, none⟩), .string key] w fun e w' => e = .returned (.tuple #[.string ⟨#[]⟩, .int .i64 9]) ∧ Ext [] w w' := by
  have HS := Lib.hid hs; clear hs
  go_enter Tryz.func48, Tryz.ntmps48
  go_wp2_with fail
  refine (at_ok b g l key 0 (.slice none 0 0) 0 [] _ hm hn HS.out hk1 hk2 .nil (by omega)).mono ?_
  rintro e w1 ⟨rfl, hx⟩
  go_wp2_with fail
  go_ret2
  exact ⟨rfl, hx⟩

theorem len_any (b g : Nat) (l : Pairs) (w : World) (hm : Mdl w b g l) :
    Calls Tryz.prog 22 #[.pointer (some ⟨b, 0, none⟩)] w fun e w' => e = .returned (.int .i64 l.length) ∧ w = w' := by
  obtain ⟨⟨v, hb, hr⟩, _, _, _⟩ := hm
  have hc := cell_of_one hb
  obtain ⟨A, c, rfl, _, _⟩ := hr.form
  clear hr hb
  go_enter Tryz.func22, Tryz.ntmps22
  go_wp2_with fail
  go_ret
  exact ⟨rfl, rfl⟩

theorem T32 : SlT Tryz.prog 32 77 2 32 := slT_mk (z := .agg #[.string ⟨#[]⟩, .string ⟨#[]⟩]) Tryz.underlying32 (by kernel_rfl) rfl (by omega)

set_option maxHeartbeats 400000 in
/-- slices.Clone of pairs -/
theorem clonePairs (g : Nat) (v : Value) (n : Nat) (l : Pairs) (w : World) (hv : Vw w g 77 2 v n (pcs l)) (hn : n ≤ 1000000) :
    Calls Tryz.prog 67 #[v] w fun e w' => ∃ g' v', e = .returned v' ∧ Row w' g' 77 2 v' n (pcs l) ∧ w.heap.size ≤ g' ∧ Ext [] w w' := by
  rcases hv.split with ⟨rfl, rfl, h0⟩ | ⟨o, c, rfl, hnc, hcm, _⟩
  · have hnil := fun (w : World) => Lib.run_eql_slice_nil (P := Tryz.prog) w 32
    clear hv
    have H0 := Lib.hid h0; clear h0
    go_enter Tryz.func67, Tryz.ntmps67
    go_wp2_with fail
    go_ret
    refine ⟨w.heap.size, .slice none 0 0, rfl, ?_, Nat.le_refl _, Ext.refl _ _⟩
    rw [H0.out]; exact .nil
  · have hnil := fun (w : World) => Lib.run_eql_slice_nil (P := Tryz.prog) w 32
    have hv1 : Vw (w.alloc (.cells #[] 77)) g 77 2 (.slice (some ⟨g, o, none⟩) n c) n (pcs l) := hv.ext ((Ext.refl [] w).alloc _) (by simp)
    have hr1 := Row.new w 77 2 #[] 0 0 (Nat.le_refl _) (by simp [maxLen]) rfl
    go_enter Tryz.func67, Tryz.ntmps67
    go_wp2_with (at_builtin; refine wpList_append T32 rfl _ _ rfl rfl rfl hr1 hv1 (pcs_one l) (by omega) (by omega) ?_; rintro g' A' c' w1 hr2 hx hg _ _ _)
    go_ret
    simp only [Nat.zero_add, Nat.zero_mul, List.take_zero, List.nil_append] at hr2
    refine ⟨g', _, rfl, hr2, ?_, ((Ext.refl [] w).alloc _).step hx (by simp)⟩
    rcases hg with rfl | hg
    · exact Nat.le_refl _
    · simp at hg; omega
end Go.Proofs.YtfadbmfkidiaoaaGreatDoor
