/- Rows of cells in memory: their bytes, their kinds. Rows as pairs of bytes. -/
import Derived.Test.YtfadbmfkidiaoaaGreatDoorZ21
import Derived.Deep.RegionHeld3
namespace Go.Proofs.YtfadbmfkidiaoaaGreatDoor
open Go.RowKit Go
set_option linter.unusedSimpArgs false
set_option linter.unusedVariables false
set_option linter.unusedSectionVars false
set_option linter.unnecessarySimpa false

theorem T73 : SlT Tryz.prog 73 93 5 48 := slT_mk (z := .agg #[.int .i64 0, .int .u64 0, .int .i64 0, .string ⟨#[]⟩, .bool false]) Tryz.underlying73 (by kernel_rfl) rfl (by omega)
def clAt (l : List Cl) (i : Nat) : Cl := l.getD i ⟨0, 0, eS⟩
theorem clsC_get (l : List Cl) (i : Nat) (h : i < l.length) : (clsC l)[i * 5]? = some (.int .i64 ((clAt l i).k : Nat)) ∧ (clsC l)[i * 5 + 1]? = some (.int .u64 ((clAt l i).u : Nat)) ∧ (clsC l)[i * 5 + 2]? = some (.int .i64 0) ∧ (clsC l)[i * 5 + 3]? = some (.string (clAt l i).s) ∧ (clsC l)[i * 5 + 4]? = some (.bool false) := by
  induction l generalizing i with
  | nil => simp at h
  | cons p l ih =>
    cases i with
    | zero => simp [clsC, clC, clAt]
    | succ i =>
      have := ih i (by simpa using h)
      have e1 : (i + 1) * 5 = i * 5 + 5 := by omega
      have e2 : clAt (p :: l) (i + 1) = clAt l i := by simp [clAt]
      simp only [e1, e2]
      simp only [clsC, clC, List.flatMap_cons, List.cons_append, List.getElem?_cons_succ, List.nil_append] at this ⊢
      exact this
theorem clsC_app (l m : List Cl) : clsC (l ++ m) = clsC l ++ clsC m := by simp [clsC]
theorem clsC_one (l : List Cl) : ∀ u ∈ clsC l, u.oneCell' = true := by
  intro u hu
  simp only [clsC, List.mem_flatMap] at hu
  obtain ⟨c, _, hc⟩ := hu
  simp only [clC, List.mem_cons, List.not_mem_nil, or_false] at hc
  rcases hc with rfl | rfl | rfl | rfl | rfl <;> rfl
theorem Vw.cllen {w : World} {g : Nat} {v : Value} {n : Nat} {l : List Cl} (h : Vw w g 93 5 v n (clsC l)) : l.length = n := by
  have := h.len; rw [clsC_len] at this; omega
theorem Vw.cl {w : World} {g o n c : Nat} {l : List Cl} (h : Vw w g 93 5 (.slice (some ⟨g, o, none⟩) n c) n (clsC l)) (i : Nat) (hi : i < n) :
    w.cell? ⟨g, o + i * 5, none⟩ = some (.int .i64 ((clAt l i).k : Nat)) ∧ w.cell? ⟨g, o + i * 5 + 1, none⟩ = some (.int .u64 ((clAt l i).u : Nat)) ∧ w.cell? ⟨g, o + i * 5 + 2, none⟩ = some (.int .i64 0) ∧ w.cell? ⟨g, o + i * 5 + 3, none⟩ = some (.string (clAt l i).s) ∧ w.cell? ⟨g, o + i * 5 + 4, none⟩ = some (.bool false) := by
  have hll := h.cllen
  cases h with
  | at_ hl hn hc hcell hty =>
    have hg := clsC_get l i (by omega)
    have ha : ∀ j v, (clsC l)[i * 5 + j]? = some v → w.cell? ⟨g, o + i * 5 + j, none⟩ = some v := fun j v hj => by have := hcell _ _ hj; rwa [← Nat.add_assoc] at this
    exact ⟨hcell _ _ hg.1, ha 1 _ hg.2.1, ha 2 _ hg.2.2.1, ha 3 _ hg.2.2.2.1, ha 4 _ hg.2.2.2.2⟩
def OkCs (l : List Cl) : Prop := ∀ c ∈ l, OkCl c
theorem OkCs.at_ {l : List Cl} (h : OkCs l) {i : Nat} (hi : i < l.length) : OkCl (clAt l i) := by
  unfold clAt; rw [List.getD_eq_getElem?_getD, List.getElem?_eq_getElem hi]; exact h _ (List.getElem_mem hi)
theorem clB_len {c : Cl} (h : OkCl c) : (clB c).length ≤ 202 := by
  rcases h with ⟨n, rfl, hn⟩ | ⟨s, rfl, hs⟩
  · rw [clB_u]; have := uB_len (n := n) (k := 2) (by simpa using hn); omega
  · rw [clB_t]; have := (esc_len (bl s)).2; rw [bl_len] at this; simp [txB]; omega
/-- the bytes of cells -/
def csB (l : List Cl) : List UInt8 := l.flatMap clB
theorem csB_take {l : List Cl} {i : Nat} (h : i < l.length) : csB (l.take (i + 1)) = csB (l.take i) ++ clB (clAt l i) := by
  have e : l.take (i + 1) = l.take i ++ [l[i]] := by rw [List.take_add_one, List.getElem?_eq_getElem h]; rfl
  unfold csB clAt
  rw [e, List.flatMap_append, List.getD_eq_getElem?_getD, List.getElem?_eq_getElem h]
  simp
theorem clB_pos (c : Cl) : 1 ≤ (clB c).length := by
  unfold clB; split <;> simp [uB, txB]
theorem Row.blt {W : World} {g e sz : Nat} {v : Value} {n : Nat} {cs : List Value} (h : Row W g e sz v n cs) (h0 : 0 < n) : g < W.heap.size := by
  rcases h.split with ⟨_, e2, _⟩ | ⟨c, cur, _, _, _, hb, _⟩
  · omega
  · exact lt_of_block hb
theorem csB_len {l : List Cl} (h : OkCs l) : (csB l).length ≤ l.length * 202 := by
  induction l with
  | nil => simp [csB]
  | cons c l ih =>
    have h1 := clB_len (h c (by simp))
    have h2 := ih (fun d hd => h d (by simp [hd]))
    unfold csB at h2 ⊢
    rw [List.flatMap_cons, List.length_append, List.length_cons]; omega

set_option maxRecDepth 100000 in
set_option maxHeartbeats 1600000 in
theorem puts_any (g gl : Nat) (v vl : Value) (n k : Nat) (pre : List UInt8) (l : List Cl) (w : World) (hr : Row w g 5 1 v n (bcs pre)) (hv : Vw w gl 93 5 vl k (clsC l)) (hk : k ≤ 8) (hn : n ≤ 100) (hg : g ≤ w.heap.size) (hne : gl ≠ g) (hgl : gl < w.heap.size) (hok : OkCs l) (hM : MxL w) (h8 : 8 ≤ g) :
    Calls Tryz.prog 131 #[v, vl] w fun e w' => e = .returned (.string ⟨(pre ++ csB l).toArray⟩) ∧ Ext [g] w w' := by
  have hll := hv.cllen
  have hpl : pre.length = n := by have := hr.len; simp [bcs] at this; omega
  obtain ⟨A0, c0, rfl, _, _⟩ := hr.form
  obtain ⟨Al, cl, rfl, _⟩ := hv.form
  have hbl := fun i => csB_len (l := l.take i) (fun c hc => hok c (List.mem_of_mem_take hc))
  have hat := fun i (hi : i < k) => hok.at_ (i := i) (by omega)
  have htk := fun i (hi : i < k) => csB_take (l := l) (i := i) (by omega)
  clear hok
  go_enter Tryz.func131, Tryz.ntmps131
  go_wp2_with fail
  go_loopw [0, 9] (fun sv iv wl => ∃ (i m : Nat) (A : Option Addr) (c' go : Nat), iv = .int .i64 i ∧ i ≤ k ∧ m = n + (csB (l.take i)).length ∧ sv = .slice A m c' ∧ Row wl go 5 1 (.slice A m c') m (bcs (pre ++ csB (l.take i))) ∧ (go = g ∨ w.heap.size ≤ go) ∧ go ≤ wl.heap.size ∧ Ext [g] w wl) (fun _ iv _ => k - (intOf iv).toNat)
  case atStart => exact ⟨0, n, A0, c0, g, rfl, Nat.zero_le _, by simp [csB], rfl, by simpa [csB] using hr, .inl rfl, hg, Ext.refl _ _⟩
  case round =>
    obtain ⟨i, m, A, c', go, rfl, hi, hm, rfl, hro, hgo, hgs, hx⟩ := hrel
    by_cases hlt : i < k
    · obtain ⟨o, rfl⟩ : ∃ o, Al = some ⟨gl, o, none⟩ := by
        rcases hv.split with ⟨_, h0, _⟩ | ⟨o, c', h1, _⟩
        · omega
        · injection h1 with h1 _ _; exact ⟨o, h1⟩
      obtain ⟨d0, d1, d2, d3, d4⟩ := (hv.ext hx (by simpa using hne)).cl i hlt
      have hc := hat i hlt
      have ht := htk i hlt
      have hb1 := hbl i
      rw [List.length_take] at hb1
      have hx0 : ∀ o, Ext [] wr (wr.alloc o) := fun o => (Ext.refl [] wr).alloc o
      have hput := fun o => rput_any (clAt l i) go _ m _ (wr.alloc o) (hro.ext (hx0 o) (by simp)) (by omega) (by simp; omega) hc ((hM.ext hx (by simp; omega)).ext (hx0 o) (by simp))
      generalize clAt l i = cc at *
      obtain ⟨ck, cu, csx⟩ := cc
      simp only at d0 d1 d2 d3 d4
      simp only [clC] at hput
      have HT := Lib.hid ht; clear ht
      have HM := Lib.hid hm; clear hm
      clear hat htk hbl hc
      go_wp2_with fail
      refine (hput _).mono ?_
      rintro e w2 ⟨g2, v2, rfl, hr2, hg2, hx2⟩
      obtain ⟨A2, c2, rfl, _, _⟩ := hr2.form
      clear hput
      go_wp2_with fail
      go_roundw
      case rel =>
        have s1 := hx.size
        have s2 := hx2.size
        simp only [World.size_alloc] at s2 hg2
        refine ⟨i + 1, m + (clB ⟨ck, cu, csx⟩).length, A2, c2, g2, by go_num, by omega, ?_, rfl, ?_, by omega, ?_, ?_⟩
        · rw [HT.out, List.length_append, HM.out]; omega
        · rw [HT.out, ← List.append_assoc]; exact hr2
        · have := hr2.blt (by have := clB_pos ⟨ck, cu, csx⟩; omega)
          omega
        · exact (hx.alloc _).step hx2 (by simp; omega)
      case measure => simp [intOf]; omega
    · obtain rfl : i = k := by omega
      rw [List.take_of_length_le (by omega)] at hro
      have hcv := run_str hro.vw
      clear hat htk hbl hm
      go_wp2_with fail
      go_ret
      exact ⟨rfl, hx⟩

theorem eS_list : eS.toList = [] := by rw [ByteArray.toList_eq]; rfl
set_option maxRecDepth 100000 in
set_option maxHeartbeats 1600000 in
/-- a cell is one of its kind -/
theorem proper_any (c : Cl) (w : World) (hc : OkCl c) :
    Calls Tryz.prog 163 #[.agg #[.int .i64 (c.k : Nat), .int .u64 (c.u : Nat), .int .i64 0, .string c.s, .bool false], .int .i64 (c.k : Nat)] w fun e w' => e = .returned (.bool true) ∧ Ext [] w w' := by
  rcases hc with ⟨x, rfl, hx⟩ | ⟨x, rfl, hx⟩
  · show Calls Tryz.prog 163 #[.agg #[.int .i64 1, .int .u64 (x : Nat), .int .i64 0, .string eS, .bool false], .int .i64 1] w _
    have he := eS_list
    go_enter Tryz.func163, Tryz.ntmps163
    go_wp2_with fail
    go_ret
    exact ⟨rfl, ((Ext.refl [] w).alloc _).alloc _⟩
  · show Calls Tryz.prog 163 #[.agg #[.int .i64 3, .int .u64 0, .int .i64 0, .string x, .bool false], .int .i64 3] w _
    go_enter Tryz.func163, Tryz.ntmps163
    go_wp2_with fail
    go_ret
    exact ⟨rfl, ((Ext.refl [] w).alloc _).alloc _⟩
/-- the kinds of cells -/
def kdsC (l : List Cl) : List Nat := l.map (·.k)
theorem kdsC_at (l : List Cl) (i : Nat) (h : i < l.length) : nAt (kdsC l) i = (clAt l i).k := by
  unfold nAt kdsC clAt
  rw [List.getD_eq_getElem?_getD, List.getElem?_map, List.getD_eq_getElem?_getD, List.getElem?_eq_getElem h]; rfl
set_option maxRecDepth 100000 in
set_option maxHeartbeats 1600000 in
/-- cells are of their kinds -/
theorem are_any (gl gk : Nat) (vl vk : Value) (n : Nat) (l : List Cl) (w : World) (hv : Vw w gl 93 5 vl n (clsC l)) (hk : Vw w gk 52 1 vk n (nts (kdsC l))) (hok : OkCs l) (hgl : gl < w.heap.size) (hgk : gk < w.heap.size) :
    Calls Tryz.prog 130 #[vl, vk] w fun e w' => e = .returned (.bool true) ∧ Ext [] w w' := by
  have hll := hv.cllen
  have hmx := hv.lenMax
  obtain ⟨Al, cl, rfl, _⟩ := hv.form
  obtain ⟨Ak, ck, rfl, _⟩ := hk.form
  have hat := fun i (hi : i < n) => hok.at_ (i := i) (by omega)
  have hka := fun i (hi : i < n) => kdsC_at l i (by omega)
  clear hok
  go_enter Tryz.func130, Tryz.ntmps130
  go_wp2_with fail
  go_loopw [14] (fun iv wl => ∃ i : Nat, iv = .int .i64 i ∧ i ≤ n ∧ Ext [] w wl) (fun iv _ => n - (intOf iv).toNat)
  case atStart => exact ⟨0, rfl, Nat.zero_le _, Ext.refl _ _⟩
  case round =>
    obtain ⟨i, rfl, hi, hx⟩ := hrel
    by_cases hlt : i < n
    · obtain ⟨o, rfl⟩ : ∃ o, Al = some ⟨gl, o, none⟩ := by
        rcases hv.split with ⟨_, h0, _⟩ | ⟨o, c', h1, _⟩
        · omega
        · injection h1 with h1 _ _; exact ⟨o, h1⟩
      obtain ⟨ok, rfl⟩ : ∃ o, Ak = some ⟨gk, o, none⟩ := by
        rcases hk.split with ⟨_, h0, _⟩ | ⟨o, c', h1, _⟩
        · omega
        · injection h1 with h1 _ _; exact ⟨o, h1⟩
      obtain ⟨d0, d1, d2, d3, d4⟩ := (hv.ext hx (by simp)).cl i hlt
      have hkc := (hk.ext hx (by simp)).nt i hlt
      rw [hka i hlt] at hkc
      have hp := fun w => proper_any (clAt l i) w (hat i hlt)
      generalize clAt l i = cc at *
      obtain ⟨ck', cu, csx⟩ := cc
      simp only at d0 d1 d2 d3 d4 hkc hp
      have hgl2 : gl < wr.heap.size := by have := hx.size; omega
      have hgk2 : gk < wr.heap.size := by have := hx.size; omega
      clear hat hka
      go_wp2_with fail
      have hxn : Ext [] wr (wr.alloc (.cells #[.int .i64 (ck' : Nat), .int .u64 (cu : Nat), .int .i64 0, .string csx, .bool false] 93)) := (Ext.refl [] wr).alloc _
      have hkc2 := hxn.cell hkc (by simp)
      go_region_with (go_at_call 163; refine (hp _).mono ?_; rintro e w2 ⟨rfl, hx2⟩)
      all_goals (
        go_wp2_with fail
        go_roundw
        case rel => exact ⟨i + 1, by go_num, by omega, ((hx.trans hxn).drew).trans hx2⟩
        case measure => simp [intOf]; omega)
    · clear hat hka
      go_wp2_with fail
      go_ret
      exact ⟨rfl, hx⟩
end Go.Proofs.YtfadbmfkidiaoaaGreatDoor

namespace Go.Proofs.YtfadbmfkidiaoaaGreatDoor
open Go.RowKit Go
set_option linter.unusedSimpArgs false
set_option linter.unusedVariables false
set_option linter.unusedSectionVars false
set_option linter.unnecessarySimpa false

/-- a table in memory: its number, the kinds of its keys' cells, those of the rest -/
structure Tb (w : World) (v : Value) (num : Nat) (kk kr : List Nat) : Prop where
  val : ∃ vk vr gk gr, v = .agg #[.int .i64 num, vk, vr] ∧ Vw w gk 52 1 vk kk.length (nts kk) ∧ Vw w gr 52 1 vr kr.length (nts kr) ∧ gk < w.heap.size ∧ gr < w.heap.size
  n1 : 1 ≤ num
  n2 : num ≤ 255
  k1 : 1 ≤ kk.length
  k8 : kk.length ≤ 8
  r8 : kr.length ≤ 8
  kk_ : Kd kk
  kr_ : Kd kr
theorem Tb.ext {w w' : World} {v : Value} {num : Nat} {kk kr : List Nat} (h : Tb w v num kk kr) (hx : Ext [] w w') : Tb w' v num kk kr := by
  obtain ⟨⟨vk, vr, gk, gr, h1, h2, h3, h4, h5⟩, h6, h7, h8, h9, h10, h11, h12⟩ := h
  have := hx.size
  exact ⟨⟨vk, vr, gk, gr, h1, h2.ext hx (by simp), h3.ext hx (by simp), by omega, by omega⟩, h6, h7, h8, h9, h10, h11, h12⟩
def keyB (num : Nat) (l : List Cl) : ByteArray := ⟨(UInt8.ofNat num :: csB l).toArray⟩
def valB (l : List Cl) : ByteArray := ⟨(csB l).toArray⟩
theorem keyB_size (num : Nat) (l : List Cl) : (keyB num l).size = 1 + (csB l).length := by
  show (UInt8.ofNat num :: csB l).toArray.size = _
  rw [List.size_toArray, List.length_cons]; omega
theorem valB_size (l : List Cl) : (valB l).size = (csB l).length := by
  show (csB l).toArray.size = _
  rw [List.size_toArray]
theorem kdsC_len (l : List Cl) : (kdsC l).length = l.length := by simp [kdsC]
theorem kdsC_app (l m : List Cl) : kdsC (l ++ m) = kdsC l ++ kdsC m := by simp [kdsC]

theorem heldR0 {w : World} {a b : Addr} {x y : Value} (h1 : w.cell? a = some x) (h2 : w.cell? b = some y) : w.drew.cell? a = some x ∧ w.drew.cell? b = some y ∧ Ext [] w w.drew :=
  ⟨h1, h2, (Ext.refl [] w).drew⟩
theorem heldR1 {w W W' : World} {a b : Addr} {x y : Value} (h : W.cell? a = some x ∧ W.cell? b = some y ∧ Ext [] w W) (hx : Ext [] W W') : W'.cell? a = some x ∧ W'.cell? b = some y ∧ Ext [] w W' :=
  ⟨hx.cell h.1 (by simp), hx.cell h.2.1 (by simp), h.2.2.trans hx⟩
theorem heldR2 {w W : World} {a b : Addr} {x y : Value} {o : Obj} (h : W.cell? a = some x ∧ W.cell? b = some y ∧ Ext [] w W) : (W.alloc o).cell? a = some x ∧ (W.alloc o).cell? b = some y ∧ Ext [] w (W.alloc o) :=
  heldR1 h ((Ext.refl [] W).alloc o)
theorem heldR3 {w W W' : World} {a b : Addr} {x y : Value} {B : Nat} (h : W.cell? a = some x ∧ W.cell? b = some y ∧ Ext [] w W) (hx : Ext [B] W W') (hB : w.heap.size ≤ B) (ha : a.block ≠ B) (hb : b.block ≠ B) : W'.cell? a = some x ∧ W'.cell? b = some y ∧ Ext [] w W' :=
  ⟨hx.cell h.1 (by simpa using ha), hx.cell h.2.1 (by simpa using hb), h.2.2.step hx (by simpa using hB)⟩
theorem heldR_x {w W : World} {A B : Prop} (h : A ∧ B ∧ Ext [] w W) : Ext [] w W := h.2.2
set_option maxRecDepth 100000 in
set_option maxHeartbeats 2000000 in
theorem row_any (num gl : Nat) (vt vl : Value) (lk lr : List Cl) (w : World) (ht : Tb w vt num (kdsC lk) (kdsC lr)) (hv : Vw w gl 93 5 vl (lk.length + lr.length) (clsC (lk ++ lr))) (hok : OkCs (lk ++ lr)) (hgl : gl < w.heap.size)
    (hks : (csB lk).length ≤ 23) (hvs : (csB lr).length ≤ 40) (hM : MxL w) (h8 : 8 ≤ w.heap.size) :
    Calls Tryz.prog 70 #[vt, vl] w fun e w' => e = .returned (.tuple #[.string (keyB num lk), .string (valB lr), .int .i64 0]) ∧ Ext [] w w' := by
  obtain ⟨⟨vk, vr, gk, gr, rfl, hk, hr, hgk, hgr⟩, n1, n2, k1, k8, r8, kk_, kr_⟩ := ht
  rw [kdsC_len] at hk hr k1 k8 r8
  have hx0 : Ext [] w (w.alloc (.cells #[.int .i64 num, vk, vr] 55)) := (Ext.refl [] w).alloc _
  have hB := heap_alloc_new w (.cells #[.int .i64 num, vk, vr] 55)
  have hval := valid_any num _ _ gk gr vk vr _ _ _ (hk.ext hx0 (by simp)) (hr.ext hx0 (by simp)) ⟨n1, n2⟩ k1 k8 r8 kk_ kr_
  obtain ⟨Ak, ck, rfl, _⟩ := hk.form
  obtain ⟨Ar, cr, rfl, _⟩ := hr.form
  obtain ⟨Al, cl, rfl, hlc⟩ := hv.form
  have hokk : OkCs lk := fun c hc => hok c (by simp [hc])
  have hokr : OkCs lr := fun c hc => hok c (by simp [hc])
  have hare := fun g v w => are_any gl g (.slice Al (lk.length + lr.length) cl) v (lk.length + lr.length) (lk ++ lr) w
  have hkb := keyB_size num lk
  have hvb := valB_size lr
  have hkd : keyB num lk = ⟨(UInt8.ofNat num :: csB lk).toArray⟩ := rfl
  have hvd : valB lr = ⟨(csB lr).toArray⟩ := rfl
  have HK := Lib.hid hkd
  have HV := Lib.hid hvd
  clear hkd hvd
  generalize keyB num lk = K at *
  generalize valB lr = V at *
  have hKs : K.size ≤ 24 := by omega
  have hVs : V.size ≤ 40 := by omega
  clear hkb hvb
  generalize hkl : lk.length = nk at *
  generalize hrl : lr.length = nr at *
  have HKL := Lib.hid hkl; clear hkl
  have HRL := Lib.hid hrl; clear hrl
  go_enter Tryz.func70, Tryz.ntmps70
  go_wp2_with fail
  refine hval.mono ?_
  rintro e w1 ⟨rfl, hx1⟩
  have hx01 := hx0.trans hx1
  have hB1 := hx1.keep hB (by simp)
  have b0 : w1.cell? ⟨w.heap.size, 0, none⟩ = some (.int .i64 num) := cell_of_row _ _ 0 _ _ _ hB1
  have b1 : w1.cell? ⟨w.heap.size, 1, none⟩ = some (.slice Ak nk ck) := cell_of_row _ _ 1 _ _ _ hB1
  have b2 : w1.cell? ⟨w.heap.size, 2, none⟩ = some (.slice Ar nr cr) := cell_of_row _ _ 2 _ _ _ hB1
  have hxa : Ext [] w1 (w1.alloc (.cells #[.slice Ak nk ck, .slice Ar nr cr] 53)) := (Ext.refl [] w1).alloc _
  have hC := heap_alloc_new w1 (.cells #[.slice Ak nk ck, .slice Ar nr cr] 53)
  have hxw := hx01.trans hxa
  have hcc := concatKind w1.heap.size gk gr _ _ nk nr _ _ _ (cell_of_row _ _ 0 _ _ _ hC) (cell_of_row _ _ 1 _ _ _ hC) (hk.ext hxw (by simp)) (hr.ext hxw (by simp)) k1 k8 r8
  clear hval
  go_wp2_with fail
  refine hcc.mono ?_
  rintro e w2 ⟨g2, c2, rfl, hr2, hg2, hx2⟩
  have hx02 := hxw.trans hx2
  rw [← kdsC_app] at hr2
  have hv2 := hv.ext hx02 (by simp)
  have hare2 := hare g2 _ w2 hv2 hr2.vw hok (by have := hx02.size; omega) (hr2.blt (by omega))
  clear hcc hare
  go_wp2_with fail
  refine hare2.mono ?_
  rintro e w3 ⟨rfl, hx3⟩
  have hx03 := hx02.trans hx3
  have hB3 := hx3.keep (hx2.keep (hxa.keep hB1 (by simp)) (by simp)) (by simp)
  have b30 : w3.cell? ⟨w.heap.size, 0, none⟩ = some (.int .i64 num) := cell_of_row _ _ 0 _ _ _ hB3
  have b31 : w3.cell? ⟨w.heap.size, 1, none⟩ = some (.slice Ak nk ck) := cell_of_row _ _ 1 _ _ _ hB3
  clear hare2 b0 b1 b2 hv2 hr2
  obtain ⟨o, rfl⟩ : ∃ o, Al = some ⟨gl, o, none⟩ := by
    rcases hv.split with ⟨_, h0, _⟩ | ⟨o, c', h1, _⟩
    · omega
    · injection h1 with h1 _ _; exact ⟨o, h1⟩
  have hs1 := slice_h T73 gl o (nk + nr) cl nk rfl (by omega)
  obtain ⟨A', hs2, hA1, hA2⟩ := slice_l T73 (some ⟨gl, o, none⟩) (nk + nr) cl nk rfl (by omega)
  have hv3 := hv.ext hx03 (by simp)
  have hvk3 := hv3.to_ nk (by omega)
  have hvr3 := hv3.mid nk (nk + nr) (by omega) (Nat.le_refl _) hA1 hA2
  have e1 : (clsC (lk ++ lr)).take (nk * 5) = clsC lk := by
    rw [clsC_app]; exact List.take_left' (by rw [clsC_len, HKL.out])
  have e2 : ((clsC (lk ++ lr)).drop (nk * 5)).take ((nk + nr - nk) * 5) = clsC lr := by
    rw [clsC_app, List.drop_left' (by rw [clsC_len, HKL.out])]
    exact List.take_of_length_le (by rw [clsC_len, HRL.out]; omega)
  have e3 : nk + nr - nk = nr := by omega
  rw [e1] at hvk3
  rw [e2, e3] at hvr3
  rw [e3] at hs2
  clear e1 e2 e3 hv3 hA1 hA2
  have hp2 : ∀ W, Ext [] w3 W → Calls Tryz.prog 131 #[.slice none 0 0, .slice A' nr (cl - nk)] W fun e w' => e = .returned (.string V) ∧ Ext [] W w' := fun W hW => by
    have hsz := hW.size
    have h03 := hx03.size
    refine (puts_any W.heap.size gl (.slice none 0 0) (.slice A' nr (cl - nk)) 0 nr [] lr W .nil (hvr3.ext hW (by simp)) (by omega) (by omega) (Nat.le_refl _) (by omega) (by omega) hokr ((hM.ext hx03 (by simp)).ext hW (by simp)) (by omega)).mono ?_
    rintro e w' ⟨rfl, hx⟩
    exact ⟨by rw [HV.out]; rfl, hx.fresh (by simp)⟩
  have hp1 : Calls Tryz.prog 131 #[.slice (some ⟨w3.heap.size, 0, none⟩) 1 1, .slice (some ⟨gl, o, none⟩) nk cl] (w3.alloc (.cells #[.int .u8 (IntKind.u8.wrap num)] 5)).drew fun e w' => e = .returned (.string K) ∧ Ext [w3.heap.size] (w3.alloc (.cells #[.int .u8 (IntKind.u8.wrap num)] 5)).drew w' := by
    have hW : Ext [] w3 (w3.alloc (.cells #[.int .u8 (IntKind.u8.wrap num)] 5)).drew := ((Ext.refl [] w3).alloc _).drew
    have h03 := hx03.size
    have hrow : Row (w3.alloc (.cells #[.int .u8 (IntKind.u8.wrap num)] 5)).drew w3.heap.size 5 1 (.slice (some ⟨w3.heap.size, 0, none⟩) 1 1) 1 (bcs [UInt8.ofNat num]) := by
      have := Row.new w3 5 1 #[.int .u8 (IntKind.u8.wrap num)] 1 1 (by omega) (by simp [maxLen]) rfl
      have e : (#[Value.int .u8 (IntKind.u8.wrap (num : Int))].toList.take (1 * 1)) = bcs [UInt8.ofNat num] := by
        simp only [bcs, List.map_cons, List.map_nil, u8_of]
        have : ((num : Nat) : Int) % 256 = num := by omega
        rw [this, IntWalk.u8_in _ (by omega)]; rfl
      rw [e] at this
      exact this.ext ((Ext.refl [] _).drew) (by simp)
    refine (puts_any w3.heap.size gl _ (.slice (some ⟨gl, o, none⟩) nk cl) 1 nk [UInt8.ofNat num] lk _ hrow (hvk3.ext hW (by simp)) (by omega) (by omega) (by simp [World.drew]) (by omega) (by simp [World.drew]; omega) hokk ((hM.ext hx03 (by simp)).ext hW (by simp)) (by omega)).mono ?_
    rintro e w' ⟨rfl, hx⟩
    exact ⟨by rw [HK.out]; rfl, hx⟩
  have hne3 : w.heap.size ≠ w3.heap.size := by have := hx02.size; have := hx01.size; have := hx1.size; have := hx2.size; have := hx3.size; simp only [World.size_alloc] at *; omega
  go_wp2_with fail
  go_region_held3 (fun W => W.cell? ⟨w.heap.size, 0, none⟩ = some (.int .i64 num) ∧ W.cell? ⟨w.heap.size, 1, none⟩ = some (.slice Ak nk ck) ∧ Ext [] w3 W)
    (first | exact heldR0 b30 b31 | exact heldR2 (by assumption) | exact heldR1 (by assumption) hxn | exact heldR3 (by assumption) hxn (Nat.le_refl _) hne3 hne3)
    (first
      | (go_at_call_of 131 (Value.slice none 0 0); refine (hp2 _ (heldR_x (by assumption))).mono ?_; rintro e w' ⟨rfl, hxn⟩)
      | (go_at_call 131; refine hp1.mono ?_; rintro e w' ⟨rfl, hxn⟩))
  rename_i hHeld
  have hS := heldR_x hHeld
  clear hHeld
  go_wp2_with fail
  go_ret3
  exact ⟨rfl, hx03.trans hS⟩
end Go.Proofs.YtfadbmfkidiaoaaGreatDoor
