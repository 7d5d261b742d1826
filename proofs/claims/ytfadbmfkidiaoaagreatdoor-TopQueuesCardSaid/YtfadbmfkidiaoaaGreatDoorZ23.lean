/- Cells read from bytes. -/
import Derived.Test.YtfadbmfkidiaoaaGreatDoorZ22
namespace Go.Proofs.YtfadbmfkidiaoaaGreatDoor
open Go.RowKit Go
set_option linter.unusedSimpArgs false
set_option linter.unusedVariables false
set_option linter.unusedSectionVars false
set_option linter.unnecessarySimpa false

theorem numV_take {D : List UInt8} {i : Nat} (h : i < D.length) : numV (D.take (i + 1)) = numV (D.take i) * 256 + (D.getD i 0).toNat := by
  have e : D.take (i + 1) = D.take i ++ [D[i]] := by rw [List.take_add_one, List.getElem?_eq_getElem h]; rfl
  rw [e]
  unfold numV
  rw [List.foldl_append, List.getD_eq_getElem?_getD, List.getElem?_eq_getElem h]
  rfl
theorem bl_to {s K : ByteArray} {n : Nat} (h : K = s.extract 0 n) : bl K = (bl s).take n := by
  subst h; simp [bl, ByteArray.data_extract]
theorem bl_from {s K : ByteArray} {n : Nat} (h : K = s.extract n s.size) : bl K = (bl s).drop n := by
  subst h
  simp only [bl, ByteArray.data_extract, Array.toList_extract]
  rw [List.extract_eq_take_drop]
  exact List.take_of_length_le (by simp)
set_option maxRecDepth 100000 in
theorem or64 (a b : Nat) (hb : b < 256) (h : a * 256 + b < 18446744073709551616) : bits BinOp.or IntKind.u64 ((a : Int) * 256) (b : Int) = ((a * 256 + b : Nat) : Int) := by
  have e0 : ((a : Int) * 256) = ((a * 2 ^ 8 : Nat) : Int) := by omega
  rw [e0]
  show IntKind.u64.wrap ((BitVec.ofInt 64 ((a * 2 ^ 8 : Nat) : Int) ||| BitVec.ofInt 64 (b : Int)).toNat : Int) = _
  have h1 : (BitVec.ofInt 64 ((a * 2 ^ 8 : Nat) : Int)).toNat = a * 2 ^ 8 := by
    rw [BitVec.ofInt_natCast, BitVec.toNat_ofNat]; exact Nat.mod_eq_of_lt (by omega)
  have h2 : (BitVec.ofInt 64 (b : Int)).toNat = b := by
    rw [BitVec.ofInt_natCast, BitVec.toNat_ofNat]; exact Nat.mod_eq_of_lt (by omega)
  have h3 : a * 2 ^ 8 ||| b = a * 2 ^ 8 + b := by
    rw [← Nat.shiftLeft_eq, ← Nat.shiftLeft_add_eq_or_of_lt hb]
  rw [BitVec.toNat_or, h1, h2, h3]
  exact IntWalk.u64_in _ (by omega)
set_option maxRecDepth 100000 in
set_option maxHeartbeats 1600000 in
theorem number2_any (s : ByteArray) (n : Nat) (D r : List UInt8) (w : World) (hs : bl s = D ++ r) (hD : D.length = n) (hn : n ≤ 2) (hsz : s.size ≤ 100000) :
    Calls Tryz.prog 127 #[.string s, .int .i64 n, .bool false] w fun e w' => ∃ R : ByteArray, bl R = r ∧ e = .returned (.tuple #[.int .u64 (numV D : Nat), .string R, .bool true]) ∧ Ext [] w w' := by
  have hss : n ≤ s.size := by rw [← bl_len, hs, List.length_append]; omega
  obtain ⟨K, hK, hKs, hto⟩ := str_to Tryz.prog 9 Tryz.underlying9 s n .i64 hss
  obtain ⟨R, hR, _, hfrom⟩ := str_from Tryz.prog 9 Tryz.underlying9 s n hss
  have hKb : bl K = D := by rw [bl_to hK, hs]; exact List.take_left' hD
  have hRb : bl R = r := by rw [bl_from hR, hs]; exact List.drop_left' hD
  obtain ⟨c1, w1, hcv, hv1, hx1⟩ := conv_str K w (by omega)
  rw [hKs, hKb] at hv1
  rw [hKs] at hcv
  have hbt := fun i (hi : i < n) => numV_take (D := D) (i := i) (by omega)
  have hnl := fun i => numV_lt (D.take i)
  have hfin : numV (D.take n) = numV D := by rw [List.take_of_length_le (by omega)]
  clear hK hR hKb hs hKs
  go_enter Tryz.func127, Tryz.ntmps127
  go_wp2_with fail
  go_loopw [9, 25] (fun ov iv wl => ∃ i : Nat, iv = .int .i64 i ∧ i ≤ n ∧ ov = .int .u64 (numV (D.take i) : Nat) ∧ w1 = wl) (fun _ iv _ => n - (intOf iv).toNat)
  case atStart => exact ⟨0, rfl, Nat.zero_le _, rfl, rfl⟩
  case round =>
    obtain ⟨i, rfl, hi, rfl, rfl⟩ := hrel
    by_cases hlt : i < n
    · have hc := hv1.byte i hlt
      rw [Nat.zero_add] at hc
      have hb1 := hbt i hlt
      have hbr := bAt_range D i
      have hl1 := hnl i
      unfold bAt at hc hbr
      have hN1 : numV (D.take i) < 256 := by
        have h1 : (D.take i).length ≤ 1 := by rw [List.length_take]; omega
        rcases (show (D.take i).length = 0 ∨ (D.take i).length = 1 by omega) with h2 | h2
        · rw [h2] at hl1; omega
        · rw [h2] at hl1; omega
      generalize numV (D.take i) = x at *
      generalize (D.getD i 0).toNat = y at *
      have hor := or64 x y (by omega) (by omega)
      have HB := Lib.hid hb1; clear hb1
      clear hbt hnl hl1 hfin
      go_wp2_with fail
      refine ⟨⟨i + 1, by go_num, by omega, ?_, by trivial⟩, by simp [intOf]; omega⟩
      rw [HB.out]; exact vi (by omega)
    · obtain rfl : i = n := by omega
      rw [hfin]
      clear hbt hnl hfin
      go_wp2_with fail
      go_quiet (fail)
      go_wp2_with fail
      go_ret3
      exact ⟨R, hRb, rfl, hx1.drewN _⟩
theorem cells5 {W : World} {B t : Nat} {a b c d e : Value} (hb : W.heap[B]? = some (.cells #[a, b, c, d, e] t (0, 0))) :
    (W.cell? ⟨B, 0, none⟩ = some a ∧ W.cell? ⟨B, 1, none⟩ = some b ∧ W.cell? ⟨B, 2, none⟩ = some c ∧ W.cell? ⟨B, 3, none⟩ = some d ∧ W.cell? ⟨B, 4, none⟩ = some e) ∧
    W.frozen? ⟨B, 0, none⟩ = false ∧ W.frozen? ⟨B, 1, none⟩ = false ∧ W.frozen? ⟨B, 2, none⟩ = false ∧ W.frozen? ⟨B, 3, none⟩ = false ∧ W.frozen? ⟨B, 4, none⟩ = false :=
  ⟨⟨cell_of_row _ _ 0 _ _ _ hb, cell_of_row _ _ 1 _ _ _ hb, cell_of_row _ _ 2 _ _ _ hb, cell_of_row _ _ 3 _ _ _ hb, cell_of_row _ _ 4 _ _ _ hb⟩,
    frozen_of_row _ _ 0 _ _ hb, frozen_of_row _ _ 1 _ _ hb, frozen_of_row _ _ 2 _ _ hb, frozen_of_row _ _ 3 _ _ hb, frozen_of_row _ _ 4 _ _ hb⟩
theorem setCells5 {W : World} {B t : Nat} {a b c d e a' b' c' d' e' : Value} (hb : W.heap[B]? = some (.cells #[a, b, c, d, e] t (0, 0))) :
    (((((W.setCell ⟨B, 0, none⟩ a').setCell ⟨B, 1, none⟩ b').setCell ⟨B, 2, none⟩ c').setCell ⟨B, 3, none⟩ d').setCell ⟨B, 4, none⟩ e').heap[B]? = some (.cells #[a', b', c', d', e'] t (0, 0)) :=
  heap_setCell_same _ B 4 _ t e' (heap_setCell_same _ B 3 _ t d' (heap_setCell_same _ B 2 _ t c' (heap_setCell_same _ B 1 _ t b' (heap_setCell_same W B 0 _ t a' hb))))
theorem Ext.set5 {S : List Nat} {A W : World} {B : Nat} (h : Ext S A W) (hB : B ∈ S ∨ A.heap.size ≤ B) (a' b' c' d' e' : Value) :
    Ext S A (((((W.setCell ⟨B, 0, none⟩ a').setCell ⟨B, 1, none⟩ b').setCell ⟨B, 2, none⟩ c').setCell ⟨B, 3, none⟩ d').setCell ⟨B, 4, none⟩ e') :=
  ((((h.setCell hB a').setCell hB b').setCell hB c').setCell hB d').setCell hB e'
theorem results_cell2 {fn : Func} {p q r : Tmp} {ty : TypeId} (h : fn.results = #[.cell p ty, .tmp q, .tmp r]) (tmps : Array Value) (P : Program) (w : World) :
    (results fn tmps).run P w = ((asAddr (tmps.getD p undef)).run P w).andThen fun a w₁ => ((loadVar ty a).run P w₁).andThen fun v w₂ => .ok (.tuple #[v, tmps.getD q undef, tmps.getD r undef]) w₂ := by
  simp only [results, h]
  simp [Sem.run_bind, Result.andThen]
theorem run_results69 (W : World) (tmps : Array Value) (B : Nat) (a b c d e x y : Value) (h4 : tmps.getD 4 undef = .pointer (some ⟨B, 0, none⟩)) (h5 : tmps.getD 5 undef = x) (h6 : tmps.getD 6 undef = y)
    (hb : W.heap[B]? = some (.cells #[a, b, c, d, e] 93 (0, 0))) :
    (results Tryz.f69 tmps).run Tryz.prog W = .ok (.tuple #[.agg #[a, b, c, d, e], x, y]) W := by
  have c0 : W.cell? ⟨B, 0, none⟩ = some a := cell_of_row _ _ 0 _ _ _ hb
  have c1 : W.cell? ⟨B, 1, none⟩ = some b := cell_of_row _ _ 1 _ _ _ hb
  have c2 : W.cell? ⟨B, 2, none⟩ = some c := cell_of_row _ _ 2 _ _ _ hb
  have c3 : W.cell? ⟨B, 3, none⟩ = some d := cell_of_row _ _ 3 _ _ _ hb
  have c4 : W.cell? ⟨B, 4, none⟩ = some e := cell_of_row _ _ 4 _ _ _ hb
  rw [results_cell2 (fn := Tryz.f69) (p := 4) (q := 5) (r := 6) (ty := 93) (by kernel_rfl), h4, h5, h6]
  go_simp
set_option maxRecDepth 100000 in
set_option maxHeartbeats 1600000 in
/-- a number taken off -/
theorem take_u (s : ByteArray) (n : Nat) (r : List UInt8) (w : World) (hs : bl s = uB n ++ r) (hn : n < 65536) (hsz : s.size ≤ 100000) :
    Calls Tryz.prog 69 #[.string s, .int .i64 1] w fun e w' => ∃ R : ByteArray, bl R = r ∧ e = .returned (.tuple #[.agg (clC (cU n)).toArray, .string R, .bool true]) ∧ Ext [] w w' := by
  have hd2 : (dgB n).length ≤ 2 := dgB_len (k := 2) (by simpa using hn)
  have hs1 : 1 ≤ s.size := by rw [← bl_len, hs]; simp [uB]
  have hSb : bl (s.extract 1 s.size) = dgB n ++ r := by rw [bl_from rfl, hs]; rfl
  have hSs : (s.extract 1 s.size).size ≤ 100000 := by simp; omega
  have hix := fun w => run_indexK Tryz.prog w 9 Tryz.underlying9 s .i64 0 0 rfl (by omega)
  have h0 : ((bl s).getD 0 0).toNat = (dgB n).length := by
    rw [hs]; simp [uB]; try omega
  rw [h0] at hix
  have hnum := fun w => number2_any (s.extract 1 s.size) (dgB n).length (dgB n) r w hSb rfl hd2 hSs
  rw [numV_dg] at hnum
  have hemp := str_ne hs1
  generalize (dgB n).length = m at *
  clear hs hSb h0 hSs
  have hx0 : Ext [] w ((w.alloc (.cells #[.int .i64 0, .int .u64 0, .int .i64 0, .string ⟨#[]⟩, .bool false] 93)).alloc (.cells #[.int .i64 1, .int .u64 0, .int .i64 0, .string ⟨#[]⟩, .bool false] 93)) := ((Ext.refl [] w).alloc _).alloc _
  have hb4 := heap_alloc_new w (.cells #[.int .i64 0, .int .u64 0, .int .i64 0, .string ⟨#[]⟩, .bool false] 93)
  have hb7 := heap_alloc_new (w.alloc (.cells #[.int .i64 0, .int .u64 0, .int .i64 0, .string ⟨#[]⟩, .bool false] 93)) (.cells #[.int .i64 1, .int .u64 0, .int .i64 0, .string ⟨#[]⟩, .bool false] 93)
  rw [World.size_alloc] at hb7
  have hb4' := ((Ext.refl [] _).alloc (.cells #[.int .i64 1, .int .u64 0, .int .i64 0, .string ⟨#[]⟩, .bool false] 93)).keep hb4 (by simp)
  go_enter Tryz.func69, Tryz.ntmps69
  go_wp2_with fail
  refine (hnum _).mono ?_
  rintro e w1 ⟨R, hR, rfl, hx1⟩
  have k4 := hx1.keep hb4' (by simp)
  have k7 := hx1.keep hb7 (by simp)
  clear hnum hb4 hb4' hb7
  obtain ⟨⟨p0, p1, p2, p3, p4⟩, _, q1, _, _, _⟩ := cells5 k7
  obtain ⟨⟨a0, a1, a2, a3, a4⟩, f0, f1, f2, f3, f4⟩ := cells5 k4
  go_wp2_with fail
  have kk4 := (heap_setCell_other w1 ⟨w.heap.size + 1, 1, none⟩ w.heap.size (.int .u64 n) (by simp)).trans k4
  have h5 := setCells5 (a' := .int .i64 1) (b' := .int .u64 n) (c' := .int .i64 0) (d' := .string ⟨#[]⟩) (e' := .bool false) kk4
  refine bodyPost_ret (run_results69 _ _ w.heap.size _ _ _ _ _ _ _ rfl rfl rfl h5) rfl ?_
  exact ⟨R, hR, rfl, ((hx0.trans hx1).setCell (.inr (by simp)) _).set5 (.inr (Nat.le_refl _)) _ _ _ _ _⟩
set_option maxRecDepth 100000 in
set_option maxHeartbeats 1600000 in
/-- a text taken off -/
theorem take_t (s x : ByteArray) (r : List UInt8) (w : World) (hs : bl s = txB (bl x) ++ r) (hx : x.size ≤ 100) (hsz : s.size ≤ 100000) (hM : MxL w) :
    Calls Tryz.prog 69 #[.string s, .int .i64 3] w fun e w' => ∃ R : ByteArray, bl R = r ∧ e = .returned (.tuple #[.agg (clC (cT x)).toArray, .string R, .bool true]) ∧ Ext [] w w' := by
  have hx0 : Ext [] w ((w.alloc (.cells #[.int .i64 0, .int .u64 0, .int .i64 0, .string ⟨#[]⟩, .bool false] 93)).alloc (.cells #[.int .i64 3, .int .u64 0, .int .i64 0, .string ⟨#[]⟩, .bool false] 93)) := ((Ext.refl [] w).alloc _).alloc _
  have hel : (esc (bl x)).length + 2 ≤ s.size := by rw [← bl_len, hs]; simp [txB]
  have hs1 : 1 ≤ s.size := by omega
  have hix : ∀ W, (Instr.index 9 (.string s) (.int .i64 0)).run Tryz.prog W = .ok (.int .u8 (((bl s).getD 0 0).toNat : Int)) W := fun w => run_indexK Tryz.prog w 9 Tryz.underlying9 s .i64 0 0 rfl (by omega)
  obtain ⟨K, hK, hKs, hto⟩ := str_to Tryz.prog 9 Tryz.underlying9 s (esc (bl x)).length .i64 (by omega)
  obtain ⟨R, hR, _, hfrom⟩ := str_from Tryz.prog 9 Tryz.underlying9 s ((esc (bl x)).length + 2) hel
  have hKb : bl K = esc (bl x) := by rw [bl_to hK, hs]; unfold txB; rw [List.append_assoc]; exact List.take_left' rfl
  have hRb : bl R = r := by rw [bl_from hR, hs]; exact List.drop_left' (by simp [txB])
  have hidx : ∀ W, MxL W → Calls Tryz.prog 128 #[.string s, .string ⟨#[0, 1]⟩] W fun e w' => e = .returned (.int .i64 ((esc (bl x)).length : Nat)) ∧ w' = W := fun W hW => by
    obtain ⟨m, hm⟩ := hW
    refine (Tryz.strings_Index s ⟨#[0, 1]⟩ m W (by omega) hm).mono ?_
    rintro e w' ⟨rfl, h⟩
    refine ⟨?_, h⟩
    have := index_txB (bl x) r
    rw [← hs] at this
    exact ret1 (vi this)
  have hrep := fun W hW => unescape_any K x W hW hx hKb
  have hemp := str_ne hs1
  have hcast : (((esc (bl x)).length + 2 : Nat) : Int) = ((esc (bl x)).length : Int) + 2 := by omega
  rw [hcast] at hfrom
  generalize ((bl s).getD 0 0).toNat = y at *
  generalize (esc (bl x)).length = m at *
  clear hs hK hR hKb hKs hcast
  have hb4 := heap_alloc_new w (.cells #[.int .i64 0, .int .u64 0, .int .i64 0, .string ⟨#[]⟩, .bool false] 93)
  have hb7 := heap_alloc_new (w.alloc (.cells #[.int .i64 0, .int .u64 0, .int .i64 0, .string ⟨#[]⟩, .bool false] 93)) (.cells #[.int .i64 3, .int .u64 0, .int .i64 0, .string ⟨#[]⟩, .bool false] 93)
  rw [World.size_alloc] at hb7
  have hb4' := ((Ext.refl [] _).alloc (.cells #[.int .i64 3, .int .u64 0, .int .i64 0, .string ⟨#[]⟩, .bool false] 93)).keep hb4 (by simp)
  have hi := hidx _ (hM.ext hx0 (by simp))
  have hr2 := hrep _ (hM.ext hx0 (by simp))
  clear hidx hrep
  go_enter Tryz.func69, Tryz.ntmps69
  go_wp2_with fail
  refine hi.mono ?_
  rintro e w1 ⟨rfl, rfl⟩
  clear hi
  go_wp2_with fail
  refine hr2.mono ?_
  rintro e w1 ⟨rfl, hx1⟩
  have k4 := hx1.keep hb4' (by simp)
  have k7 := hx1.keep hb7 (by simp)
  clear hr2 hb4 hb4' hb7
  obtain ⟨⟨p0, p1, p2, p3, p4⟩, _, _, _, q3, _⟩ := cells5 k7
  obtain ⟨⟨a0, a1, a2, a3, a4⟩, f0, f1, f2, f3, f4⟩ := cells5 k4
  go_wp2_with fail
  have kk7 : (w1.setCell ⟨w.heap.size + 1, 3, none⟩ (.string x)).heap[w.heap.size + 1]? = some (.cells #[.int .i64 3, .int .u64 0, .int .i64 0, .string x, .bool false] 93 (0, 0)) := heap_setCell_same w1 (w.heap.size + 1) 3 _ 93 (.string x) k7
  have kk4 := (heap_setCell_other w1 ⟨w.heap.size + 1, 3, none⟩ w.heap.size (.string x) (by simp)).trans k4
  have hx2 : Ext [] w (w1.setCell ⟨w.heap.size + 1, 3, none⟩ (.string x)) := (hx0.trans hx1).setCell (.inr (by simp)) _
  clear p0 p1 p2 p3 p4 q3 a0 a1 a2 a3 a4 f0 f1 f2 f3 f4 k4 k7 hx1
  generalize w1.setCell ⟨w.heap.size + 1, 3, none⟩ (.string x) = W1 at *
  obtain ⟨⟨p0, p1, p2, p3, p4⟩, _, _, _, _, _⟩ := cells5 kk7
  obtain ⟨⟨a0, a1, a2, a3, a4⟩, f0, f1, f2, f3, f4⟩ := cells5 kk4
  have kk4d : W1.drew.heap[w.heap.size]? = some (.cells #[.int .i64 0, .int .u64 0, .int .i64 0, .string ⟨#[]⟩, .bool false] 93 (0, 0)) := kk4
  have h5 := setCells5 (a' := .int .i64 3) (b' := .int .u64 0) (c' := .int .i64 0) (d' := .string x) (e' := .bool false) kk4
  go_region
  all_goals (
    go_wp2_with fail
    refine bodyPost_ret (run_results69 _ _ w.heap.size _ _ _ _ _ _ _ rfl rfl rfl h5) rfl ?_
    exact ⟨R, hRb, rfl, (hx2.set5 (.inr (Nat.le_refl _)) _ _ _ _ _).drew⟩)
/-- a cell taken off -/
theorem rtake_any (c : Cl) (s : ByteArray) (r : List UInt8) (w : World) (hs : bl s = clB c ++ r) (hc : OkCl c) (hsz : s.size ≤ 100000) (hM : MxL w) :
    Calls Tryz.prog 69 #[.string s, .int .i64 (c.k : Nat)] w fun e w' => ∃ R : ByteArray, bl R = r ∧ e = .returned (.tuple #[.agg (clC c).toArray, .string R, .bool true]) ∧ Ext [] w w' := by
  rcases hc with ⟨x, rfl, hx⟩ | ⟨x, rfl, hx⟩
  · exact take_u s x r w hs hx hsz
  · exact take_t s x r w hs hx hsz hM
end Go.Proofs.YtfadbmfkidiaoaaGreatDoor
