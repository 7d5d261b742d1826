/- The pieces of bytes. -/
import Derived.Test.YtfadbmfkidiaoaaGreatDoorZ11
namespace Go.Proofs.YtfadbmfkidiaoaaGreatDoor
open Go.RowKit Go
set_option linter.unusedSimpArgs false
set_option linter.unusedVariables false
set_option linter.unusedSectionVars false
set_option linter.unnecessarySimpa false

set_option maxRecDepth 100000 in
/-- slices.Clone of bytes that are there -/
theorem cloneBytes (g o c n : Nat) (l : List UInt8) (w : World) (hv : Vw w g 5 1 (.slice (some ⟨g, o, none⟩) n c) n (bcs l)) (hn : n ≤ 4194304) (h0 : 0 < n) :
    Calls Tryz.prog 99 #[.slice (some ⟨g, o, none⟩) n c] w fun e w' => ∃ g' c', e = .returned (.slice (some ⟨g', 0, none⟩) n c') ∧ Row w' g' 5 1 (.slice (some ⟨g', 0, none⟩) n c') n (bcs l) ∧ w.heap.size ≤ g' ∧ Ext [] w w' := by
  have hn1 := Row.new w 5 1 #[] 0 0 (by omega) (by simp [maxLen]) rfl
  have hv1 := hv.ext ((Ext.refl [] w).alloc (.cells #[] 5)) (by simp)
  have hx1 : Ext [] w (w.alloc (.cells #[] 5)) := (Ext.refl [] w).alloc _
  have hnil := fun (w : World) => Lib.run_eql_slice_nil (P := Tryz.prog) w 104
  go_enter Tryz.func99, Tryz.ntmps99
  go_wp2_with (with_reducible refine wpList_append T104 rfl (.tmp 5) (.tmp 6) rfl rfl rfl hn1 hv1 (bcs_one _) (by omega) (by omega) ?_; rintro g3 A3 c3 w3 hr3 hx3 hg3 hA3 _ _; obtain rfl := hA3 (by omega))
  go_ret
  rw [Nat.zero_add] at hr3
  exact ⟨g3, c3, rfl, by simpa using hr3, by simp at hg3; omega, hx1.step hx3 (by simp)⟩

/-- slices of bytes, each in a block of bytes from lo on -/
def Slcs (w : World) (lo : Nat) (vs : List Value) (L : List (List UInt8)) : Prop :=
  vs.length = L.length ∧ ∀ i, i < L.length → ∃ gi cur fz, lo ≤ gi ∧ w.heap[gi]? = some (.cells cur 5 fz) ∧ Vw w gi 5 1 (vs.getD i undef) (L.getD i []).length (bcs (L.getD i [])) ∧ ∃ o c, vs.getD i undef = .slice (some ⟨gi, o, none⟩) (L.getD i []).length c
theorem Slcs.nil (w : World) (lo : Nat) : Slcs w lo [] [] := ⟨rfl, fun i h => by simp at h⟩
theorem Slcs.ext {w w' : World} {lo : Nat} {vs : List Value} {L : List (List UInt8)} {S : List Nat} (h : Slcs w lo vs L) (hx : Ext S w w') (hS : ∀ x ∈ S, x < lo ∨ w.heap.size ≤ x ∨ ∃ cur e fz, w.heap[x]? = some (.cells cur e fz) ∧ e ≠ 5) : Slcs w' lo vs L := by
  refine ⟨h.1, fun i hi => ?_⟩
  obtain ⟨gi, cur, fz, h1, h2, h3, h4⟩ := h.2 i hi
  have hn : gi ∉ S := fun hm => by
    rcases hS gi hm with h5 | h5 | ⟨cur', e, fz', h5, h6⟩
    · omega
    · have := lt_of_block h2; omega
    · rw [h2] at h5; cases h5; exact h6 rfl
  exact ⟨gi, cur, fz, h1, hx.keep h2 hn, h3.ext hx hn, h4⟩
theorem Slcs.snoc {w : World} {lo g c : Nat} {vs : List Value} {L : List (List UInt8)} (h : Slcs w lo vs L) {p : List UInt8} (hr : Row w g 5 1 (.slice (some ⟨g, 0, none⟩) p.length c) p.length (bcs p)) (hg : lo ≤ g) : Slcs w lo (vs ++ [.slice (some ⟨g, 0, none⟩) p.length c]) (L ++ [p]) := by
  refine ⟨by simp [h.1], fun i hi => ?_⟩
  simp only [List.length_append, List.length_cons, List.length_nil] at hi
  have e1 : ∀ (x : Value), (vs ++ [x]).getD i undef = if i < L.length then vs.getD i undef else x := by
    intro x
    rw [List.getD_eq_getElem?_getD, List.getD_eq_getElem?_getD, List.getElem?_append]
    rw [h.1]
    split
    · rfl
    · have : i - L.length = 0 := by omega
      simp [this]
  have e2 : (L ++ [p]).getD i [] = if i < L.length then L.getD i [] else p := by
    rw [List.getD_eq_getElem?_getD, List.getD_eq_getElem?_getD, List.getElem?_append]
    split
    · rfl
    · have : i - L.length = 0 := by omega
      simp [this]
  rw [e1, e2]
  split
  · next hlt => exact h.2 i hlt
  · cases hr with
    | at_ cur hl h1 h2 hb hs ht =>
      exact ⟨g, cur, _, hg, hb, (Row.at_ cur hl h1 h2 hb hs ht).vw, 0, c, rfl⟩

theorem lit_new (w : World) (vs : Array Value) (L : List UInt8) (n : Nat) (h : bcs L = vs.toList) (hn : L.length = n) (h1 : n ≤ 1000) : Row (w.alloc (.cells vs 5)) w.heap.size 5 1 (.slice (some ⟨w.heap.size, 0, none⟩) n n) n (bcs L) := by
  have := byteNew w L n hn h1
  rw [h, Array.toArray_toList] at this
  rw [h]; exact this
theorem slc_new (w : World) (v : Value) : Row (w.alloc (.cells #[v] 104)) w.heap.size 104 1 (.slice (some ⟨w.heap.size, 0, none⟩) 1 1) 1 [v] := Row.new w 104 1 #[v] 1 1 (by omega) (by simp [maxLen]) rfl
theorem Vw.recap {w : World} {g e sz o n c c' : Nat} {cs : List Value} (h : Vw w g e sz (.slice (some ⟨g, o, none⟩) n c) n cs) (h1 : n ≤ c') (h2 : c' ≤ maxLen) : Vw w g e sz (.slice (some ⟨g, o, none⟩) n c') n cs := by
  cases h with
  | at_ hl _ _ hcell hty => exact .at_ hl h1 h2 hcell hty
theorem Row.kind {W : World} {g e sz : Nat} {v : Value} {n : Nat} {cs : List Value} (h : Row W g e sz v n cs) : ∃ gi, Row W gi e sz v n cs ∧ (gi = g ∨ W.heap.size ≤ gi) ∧ (W.heap.size ≤ gi ∨ ∃ cur fz, W.heap[gi]? = some (.cells cur e fz)) := by
  rcases h.split with ⟨rfl, h0, h1⟩ | ⟨c, cur, h1, _, _, hb, _⟩
  · subst h0; subst h1; exact ⟨W.heap.size, .nil, .inr (Nat.le_refl _), .inl (Nat.le_refl _)⟩
  · exact ⟨g, h, .inl rfl, .inr ⟨_, _, hb⟩⟩
/-- the i-th piece -/
def partL (b : List UInt8) (s i : Nat) : List UInt8 := (b.drop (i * s)).take s
def pieceL (b : List UInt8) (s i : Nat) : List UInt8 := fourB (ckN b) ++ [UInt8.ofNat (i / 256), UInt8.ofNat i, UInt8.ofNat (nCh b.length s / 256), UInt8.ofNat (nCh b.length s)] ++ partL b s i
def piecesL (b : List UInt8) (s k : Nat) : List (List UInt8) := (List.range k).map (pieceL b s)
theorem piecesL_succ (b : List UInt8) (s k : Nat) : piecesL b s (k + 1) = piecesL b s k ++ [pieceL b s k] := by simp [piecesL, List.range_succ]

theorem cutStep {wr w5 w6 w7 w9 : World} {o1 o2 : Obj} {lo g6 g7 go go7 c7 m : Nat} {vs : List Value} {L : List (List UInt8)} {H M T : List UInt8} {gc : Nat}
    (hlo : lo ≤ wr.heap.size) (hgo : lo ≤ go) (hsl : Slcs wr lo vs L)
    (hx5 : Ext [] wr w5) (hgc : wr.heap.size ≤ gc) (hx6 : Ext [gc] (w5.alloc o1) w6) (hg6 : g6 = gc ∨ (w5.alloc o1).heap.size ≤ g6) (hx7 : Ext [g6] w6 w7) (hg7 : g7 = g6 ∨ w6.heap.size ≤ g7)
    (hr7 : Row w7 g7 5 1 (.slice (some ⟨g7, 0, none⟩) m c7) m (bcs H ++ bcs M ++ bcs T)) (hgo7 : go7 = go ∨ (w7.alloc o2).heap.size ≤ go7) (hgk : (w7.alloc o2).heap.size ≤ go7 ∨ ∃ cur fz, (w7.alloc o2).heap[go7]? = some (.cells cur 104 fz)) (hx9 : Ext [go7] (w7.alloc o2) w9) :
    Slcs w9 lo (vs ++ [.slice (some ⟨g7, 0, none⟩) m c7]) (L ++ [H ++ M ++ T]) ∧ Ext [go7] wr w9 ∧ lo ≤ go7 := by
  have s5 := hx5.size
  have s6 := hx6.size
  have s7 := hx7.size
  simp only [World.size_alloc] at s6 hg6
  have x6 : Ext [] wr w6 := (hx5.alloc o1).step hx6 (by simp; omega)
  have x7 : Ext [] wr w7 := x6.step hx7 (by simp; omega)
  have x8 : Ext [] wr (w7.alloc o2) := x7.alloc o2
  have x9 : Ext [go7] wr w9 := (x8.mono (by simp)).trans hx9
  have hm : (H ++ M ++ T).length = m := by
    have := hr7.vw.len; rw [← bcs_append, ← bcs_append, bcs_len] at this; omega
  have hs7 := hsl.ext x7 (by simp)
  have h1 : Slcs w7 lo (vs ++ [.slice (some ⟨g7, 0, none⟩) m c7]) (L ++ [H ++ M ++ T]) := by
    subst hm
    refine hs7.snoc ?_ (by omega)
    rw [bcs_append, bcs_append]; exact hr7
  have s8 : (w7.alloc o2).heap.size = w7.heap.size + 1 := World.size_alloc _ _
  refine ⟨(h1.ext (S := []) ((Ext.refl [] w7).alloc o2) (by simp)).ext hx9 ?_, x9, by omega⟩
  simp only [List.mem_singleton]
  rintro x rfl
  rcases hgk with h | ⟨cur, fz, h⟩
  · exact .inr (.inl h)
  · exact .inr (.inr ⟨cur, 104, fz, h, by decide⟩)
theorem rowAt {wr w5 w6 w7 : World} {o1 o2 : Obj} {g6 go gc : Nat} {v : Value} {n : Nat} {cs : List Value} (h : Row wr go 104 1 v n cs) (hx5 : Ext [] wr w5) (hgc : wr.heap.size ≤ gc) (hx6 : Ext [gc] (w5.alloc o1) w6) (hg6 : g6 = gc ∨ (w5.alloc o1).heap.size ≤ g6) (hx7 : Ext [g6] w6 w7) :
    ∃ gi, Row (w7.alloc o2) gi 104 1 v n cs ∧ (gi = go ∨ (w7.alloc o2).heap.size ≤ gi) ∧ ((w7.alloc o2).heap.size ≤ gi ∨ ∃ cur fz, (w7.alloc o2).heap[gi]? = some (.cells cur 104 fz)) := by
  have s5 := hx5.size
  have s6 := hx6.size
  simp only [World.size_alloc] at s6 hg6
  have x6 : Ext [] wr w6 := (hx5.alloc o1).step hx6 (by simp; omega)
  have x7 : Ext [] wr w7 := x6.step hx7 (by simp; omega)
  exact (h.ext (x7.alloc o2) (by simp)).kind

theorem vwKeep {wr w5 w6 : World} {o1 : Obj} {g gc off e c : Nat} {l : List UInt8} (hv : Vw w5 g 5 1 (.slice (some ⟨g, off, none⟩) e c) e (bcs l)) (hg : g < wr.heap.size ∨ e = 0) (hgc : wr.heap.size ≤ gc) (hx6 : Ext [gc] (w5.alloc o1) w6) : Vw w6 g 5 1 (.slice (some ⟨g, off, none⟩) e c) e (bcs l) := by
  rcases hg with h | h
  · exact (hv.ext ((Ext.refl [] w5).alloc o1) (by simp)).ext hx6 (by simp; omega)
  · subst h
    cases hv with
    | at_ hl hn hc hcell hty =>
      have : bcs l = [] := List.eq_nil_of_length_eq_zero (by simpa using hl)
      rw [this]
      exact .at_ rfl hn hc (by simp) (by omega)
theorem as8 {w : World} {g c : Nat} {A : Option Addr} {l m : List UInt8} (h : Row w g 5 1 (.slice A (4 + 4) c) (4 + 4) (bcs l ++ bcs m)) : Row w g 5 1 (.slice A 8 c) 8 (bcs l ++ bcs m) := h

set_option maxRecDepth 100000 in
set_option maxHeartbeats 3200000 in
theorem cut_any (g o c s : Nat) (b : List UInt8) (w : World) (hv : Vw w g 5 1 (.slice (some ⟨g, o, none⟩) b.length c) b.length (bcs b)) (hn : b.length ≤ 65535) (h0 : 0 < b.length) (hs : 1 ≤ s) (hs2 : s ≤ 65536) :
    Calls Tryz.prog 39 #[.slice (some ⟨g, o, none⟩) b.length c, .int .i64 s] w fun e w' => ∃ g' v' vs, e = .returned (.tuple #[v', .int .i64 0]) ∧ Row w' g' 104 1 v' (nCh b.length s) vs ∧ Slcs w' w.heap.size vs (piecesL b s (nCh b.length s)) ∧ w.heap.size ≤ g' ∧ Ext [] w w' := by
  have hnc : b.length ≤ c := by cases hv with | at_ _ h _ _ _ => exact h
  have hN : nCh b.length s ≤ b.length := by
    have : ¬ b.length < nCh b.length s := fun h => by have := (nCh_lt hs).1 h; have := Nat.le_mul_of_pos_right b.length hs; omega
    omega
  have hN0 : 0 < nCh b.length s := (nCh_lt hs).2 (by omega)
  go_enter Tryz.func39, Tryz.ntmps39
  go_wp2_with fail
  refine (chunk_any _ _ _ _ _ (by omega)).mono ?_
  rintro e w1 ⟨rfl, rfl⟩
  have hx1 : Ext [] w ((w.alloc (.cells #[.slice (some ⟨g, o, none⟩) b.length c] 104)).alloc (.cells #[.int .i64 s] 3)) := ((Ext.refl [] w).alloc _).alloc _
  have hb1 : ((w.alloc (.cells #[.slice (some ⟨g, o, none⟩) b.length c] 104)).alloc (.cells #[.int .i64 s] 3)).cell? ⟨w.heap.size, 0, none⟩ = some (.slice (some ⟨g, o, none⟩) b.length c) := cell_of_one (((Ext.refl [] _).alloc _).keep (heap_alloc_new w _) (by simp))
  have hb2 : ((w.alloc (.cells #[.slice (some ⟨g, o, none⟩) b.length c] 104)).alloc (.cells #[.int .i64 s] 3)).cell? ⟨w.heap.size + 1, 0, none⟩ = some (.int .i64 s) := by
    have := cell_of_one (heap_alloc_new (w.alloc (.cells #[.slice (some ⟨g, o, none⟩) b.length c] 104)) (.cells #[.int .i64 s] 3))
    simpa using this
  generalize ((w.alloc (.cells #[.slice (some ⟨g, o, none⟩) b.length c] 104)).alloc (.cells #[.int .i64 s] 3)) = W1 at *
  go_wp2_with fail
  refine (collectChunks _ _ g o c b.length s _ hs hs2 (by omega) hnc hb1 hb2).mono ?_
  rintro e w2 ⟨gp, vp, rfl, hrp, hgp, hx2⟩
  have hx12 := hx1.trans hx2
  have hsz := hx12.size
  have hsz1 := hx1.size
  obtain ⟨Ap, cp, rfl, hAp, _⟩ := hrp.form
  obtain rfl := hAp hN0
  have hvp := hrp.vw
  have hv2 := hv.ext hx12 (by simp)
  clear hb1 hb2 hrp hx1 hx2
  have hNz : ((nCh b.length s : Int) == 0) = false := by simp; omega
  go_wp2_with fail
  refine (check_any g _ _ b _ hv2).mono ?_
  rintro e w3 ⟨rfl, rfl⟩
  go_wp2_with fail
  refine (four_any (ckN b) _ (ckN_lt b)).mono ?_
  rintro e w3 ⟨rfl, hr4, hx4⟩
  have hvp3 := hvp.ext hx4 (by simp)
  have hv3 := hv2.ext hx4 (by simp)
  have hx13 := hx12.trans hx4
  have hv4 := hr4.vw
  clear hvp hv hv2 hx12
  go_wp2_with fail
  go_loopw [8, 39] (fun ov iv wr => ∃ (i : Nat) (A : Option Addr) (c' go : Nat) (vs : List Value), iv = .int .i64 i ∧ i ≤ nCh b.length s ∧ ov = .slice A i c' ∧ Row wr go 104 1 (.slice A i c') i vs ∧ w3.heap.size ≤ go ∧
    Slcs wr w3.heap.size vs (piecesL b s i) ∧ Ext [] w3 wr) (fun _ iv _ => nCh b.length s - (intOf iv).toNat)
  case atStart => exact ⟨0, none, 0, w3.heap.size, [], rfl, by omega, rfl, .nil, Nat.le_refl _, Slcs.nil _ _, Ext.refl _ _⟩
  case round =>
    obtain ⟨i, A, c', go, vs, rfl, hi, rfl, hro, hgo, hsl, hx⟩ := hrel
    by_cases hlt : i < nCh b.length s
    · have his := (nCh_lt hs).1 hlt
      have hsz0 := hx13.size
      have hszr := hx.size
      obtain ⟨e, he⟩ : ∃ e : Nat, e = min s (b.length - i * s) := ⟨_, rfl⟩
      have hvb := ((hv3.ext hx (by simp)).part (i * s) (i * s + e) (by omega) (by omega))
      have hvb := hvb.recap (c' := e) (by omega) (by simp only [maxLen]; omega)
      have e1 : i * s + e - i * s = e := by omega
      have e2 : ((bcs b).drop (i * s * 1)).take (e * 1) = bcs (partL b s i) := by
        unfold partL
        rw [Nat.mul_one, Nat.mul_one, bcs_drop, bcs_take, he, ← List.length_drop]
        congr 1
        rcases Nat.le_total s (b.drop (i * s)).length with h | h
        · rw [Nat.min_eq_left h]
        · rw [Nat.min_eq_right h, List.take_length, List.take_of_length_le h]
      rw [e1, e2] at hvb
      have hel : e ≤ 65535 := by omega
      have hc : wr.cell? ⟨gp, 0 + i, none⟩ = some (.slice (some ⟨g, o + i * s * 1, none⟩) e e) := by
        have hvr := hvp3.ext hx (by simp)
        cases hvr with
        | at_ hl hn hc hcell hty =>
          refine hcell i _ ?_
          have : chV (.slice (some ⟨g, o, none⟩) b.length c) b.length s i = .slice (some ⟨g, o + i * s * 1, none⟩) e e := by
            simp only [chV, Option.map_some, addr_add, he, Nat.mul_one]
          rw [← this]
          simp [chs, hlt]
      rw [Nat.zero_add] at hc
      clear his he e1 e2
      generalize o + i * s * 1 = off at *
      have hh := hv4.ext hx (by simp)
      have hgp : gp < wr.heap.size := by
        cases hvp3 with
        | at_ _ _ _ _ hty => obtain ⟨cur, fz, hb⟩ := hty hN0; have := lt_of_block hb; omega
      clear hvp3 hv3
      go_wp2_with fail
      refine (cloneBytes _ _ _ _ _ _ hh (by omega) (by omega)).mono ?_
      rintro x w5 ⟨gc, cc, rfl, hrc, hgc, hx5⟩
      have hlit := fun w : World => lit_new w #[.int .u8 ((i : Int) / 256), .int .u8 ((i : Int) % 256), .int .u8 ((nCh b.length s : Int) / 256), .int .u8 ((nCh b.length s : Int) % 256)] [UInt8.ofNat (i / 256), UInt8.ofNat i, UInt8.ofNat (nCh b.length s / 256), UInt8.ofNat (nCh b.length s)] 4 (by
        simp only [bcs, List.map_cons, List.map_nil, u8_of]
        rw [Int.natCast_ediv, Int.natCast_ediv, Int.emod_eq_of_lt (a := (i : Int) / _) (by omega) (by omega), Int.emod_eq_of_lt (a := (nCh b.length s : Int) / _) (by omega) (by omega)]
        rfl) rfl (by omega)
      have HC := Lib.hid hgc; clear hgc
      have hrc1 := fun o => hrc.ext ((Ext.refl [] w5).alloc o) (by simp)
      have hvb5 := hvb.ext hx5 (by simp)
      have hgw : g < wr.heap.size ∨ e = 0 := by
        rcases Nat.eq_zero_or_pos e with h | h
        · exact .inr h
        · cases hvb with | at_ _ _ _ _ hty => obtain ⟨cur, fz, hb⟩ := hty h; exact .inl (lt_of_block hb)
      go_wp2_with (first
        | (with_reducible refine wpList_append T104 rfl (.tmp 45) (.tmp 58) rfl rfl rfl (hrc1 _) (hlit _).vw (bcs_one _) (by omega) (by omega) ?_; rintro g6 A6 c6 w6 hr6 hx6 hg6 hA6 _ _; obtain rfl := hA6 (by omega); have hr6 := as8 hr6; have hvb6 := vwKeep hvb5 hgw HC.out hx6)
        | (with_reducible refine wpList_append T104 rfl (.tmp 61) (.tmp 62) rfl rfl rfl hr6 hvb6 (bcs_one _) (by omega) (by omega) ?_; rintro g7 A7 c7 w7 hr7 hx7 hg7 hA7 _ _; obtain rfl := hA7 (by omega); obtain ⟨go7, hro7, hgo7, hgk7⟩ := rowAt hro hx5 HC.out hx6 hg6 hx7; have HK := Lib.hid hgk7; clear hgk7)
        | (with_reducible refine wpList_append T107 rfl (.tmp 60) (.tmp 64) rfl rfl rfl hro7 (slc_new _ _).vw (by simp [Value.oneCell']) (by omega) (by omega) ?_; rintro g9 A9 c9 w9 hr9 hx9 hg9 hA9 _ _; obtain rfl := hA9 (by omega)))
      obtain ⟨k1, k2, k3⟩ := cutStep hszr hgo hsl hx5 HC.out hx6 hg6 hx7 hg7 (by simpa only [List.append_assoc] using hr7) hgo7 HK.out hx9
      go_roundw
      case rel =>
        refine ⟨i + 1, _, c9, g9, _, by go_num, by omega, rfl, hr9, ?_, ?_, hx.step k2 (by simp; omega)⟩
        · rcases hg9 with rfl | hg9
          · exact k3
          · have := (((Ext.refl [] wr).trans hx5).alloc (.cells #[] 5)).size; have := hx6.size; have := hx7.size; simp at *; omega
        · rw [piecesL_succ]; exact k1
      case measure => simp [intOf]; omega
    · obtain rfl : i = nCh b.length s := by omega
      clear hvp3 hv3
      go_wp2_with fail
      go_ret2
      have hsz3 := hx13.size
      exact ⟨go, _, vs, ret2 rfl rfl, hro, ⟨hsl.1, fun i hi => by obtain ⟨gi, cur, fz, h1, h2⟩ := hsl.2 i hi; exact ⟨gi, cur, fz, by omega, h2⟩⟩, by omega, hx13.trans hx⟩
end Go.Proofs.YtfadbmfkidiaoaaGreatDoor
