/- Spans of rows: from a key to the next. Numbers as cells; the tables; comparing cells. -/
import Derived.Test.YtfadbmfkidiaoaaGreatDoorZ24
namespace Go.Proofs.YtfadbmfkidiaoaaGreatDoor
open Go.RowKit Go
set_option linter.unusedSimpArgs false
set_option linter.unusedVariables false
set_option linter.unusedSectionVars false
set_option linter.unnecessarySimpa false

theorem Vw.setb {w : World} {g n c : Nat} {l : List UInt8} (h : Vw w g 5 1 (.slice (some ⟨g, 0, none⟩) n c) n (bcs l)) (i : Nat) (hi : i < n) (b : UInt8) :
    Vw (w.setCell ⟨g, i, none⟩ (.int .u8 b.toNat)) g 5 1 (.slice (some ⟨g, 0, none⟩) n c) n (bcs (l.set i b)) := by
  cases h with
  | at_ hl hn hc hcell hty =>
    rw [bcs_len] at hl
    refine .at_ (by rw [bcs_len, List.length_set, hl]) hn hc (fun j v hj => ?_) (fun h0 => ?_)
    · rw [Nat.zero_add]
      by_cases hji : i = j
      · subst hji
        have hil : i < l.length := by omega
        have h0 : (bcs l)[i]? = some (.int .u8 ((l[i]).toNat : Int)) := by simp [bcs, hil]
        have h1 := hcell _ _ h0
        rw [Nat.zero_add] at h1
        rw [World.cell?_setCell_same _ _ _ h1]
        simp only [bcs, List.getElem?_map, List.getElem?_set_self hil, Option.map_some] at hj
        exact hj
      · rw [World.cell?_setCell_other _ _ _ _ (fun e => hji (by injection e))]
        simp only [bcs, List.getElem?_map, List.getElem?_set_ne hji] at hj
        have h1 := hcell j v (by simpa [bcs] using hj)
        rwa [Nat.zero_add] at h1
    · obtain ⟨cur, fz, hb⟩ := hty h0
      exact ⟨_, fz, by simp only [World.setCell, Array.getElem?_modify, hb]; rfl⟩
theorem conv_strB (s : ByteArray) (n : Nat) (w : World) (hn : s.size = n) (hs : n ≤ 1000000) :
    ∃ c' w', (convert 9 104 (.string s)).run Tryz.prog w = .ok (.slice (some ⟨w.heap.size, 0, none⟩) n c') w' ∧ Vw w' w.heap.size 5 1 (.slice (some ⟨w.heap.size, 0, none⟩) n c') n (bcs (bl s)) ∧ (∀ i, i < n → w'.frozen? ⟨w.heap.size, i, none⟩ = false) ∧ Ext [] w w' ∧ n ≤ c' := by
  subst hn
  have hge := grownCap_ge w s.size 0 5
  have hle := grownCap_le_maxLen w s.size 0 5 (by simp only [maxLen]; omega)
  have hbk : (w.drew.alloc (Obj.cells (bytesRow s (grownCap w s.size 0 5)) 5 ((bytesRow s (grownCap w s.size 0 5)).size, (bytesRow s (grownCap w s.size 0 5)).size + 1))).heap[w.heap.size]? = some _ := heap_alloc_new w.drew _
  refine ⟨_, _, run_bytes_of_string w 9 104 5 s Tryz.underlying9 Tryz.underlying104 Tryz.underlying5, ?_, (fun i hi => ?_), (Ext.refl [] w).drew.alloc _, hge⟩
  · refine .at_ (by rw [bcs_len, bl_len, Nat.mul_one]) hge hle (fun j v hj => ?_) (fun _ => ⟨_, _, heap_alloc_new w.drew _⟩)
    rw [cell_of_row _ w.heap.size (0 + j) _ 5 _ hbk]
    have hjl : j < s.size := by have := (List.getElem?_eq_some_iff.1 hj).1; rwa [bcs_len, bl_len] at this
    unfold bytesRow
    simp only [bcs, bl] at hj
    rw [Nat.zero_add, Array.getElem?_append_left (by simpa using hjl)]
    simpa [hjl] using hj
  · have hsz : (bytesRow s (grownCap w s.size 0 5)).size = grownCap w s.size 0 5 := by
      have : s.data.size = s.size := rfl
      simp [bytesRow]; omega
    unfold World.frozen?
    simp only [hbk]
    simp; omega
theorem u8_succ (b : UInt8) (h : b.toNat < 255) : (((b + 1 : UInt8).toNat : Nat) : Int) = (b.toNat : Int) + 1 := by
  rw [UInt8.toNat_add]; simp; omega
set_option maxRecDepth 100000 in
set_option maxHeartbeats 2000000 in
theorem span_any (num gl : Nat) (vt vl : Value) (l : List Cl) (kk kr : List Nat) (w : World) (ht : Tb w vt num kk kr) (hl : kdsC l = kk.take l.length) (hle : l.length ≤ kk.length) (hv : Vw w gl 93 5 vl l.length (clsC l)) (hok : OkCs l) (hgl : gl < w.heap.size)
    (hks : (csB l).length ≤ 23) (hM : MxL w) (h8 : 8 ≤ w.heap.size) (P : List UInt8) (b : UInt8) (hP : UInt8.ofNat num :: csB l = P ++ [b]) (hb : b.toNat < 255) :
    Calls Tryz.prog 82 #[vt, vl] w fun e w' => e = .returned (.tuple #[.string (keyB num l), .string ⟨(P ++ [b + 1]).toArray⟩, .int .i64 0]) ∧ Ext [] w w' := by
  obtain ⟨⟨vk, vr, gk, gr, rfl, hk, hr, hgk, hgr⟩, n1, n2, k1, k8, r8, kk_, kr_⟩ := ht
  have hx0 : Ext [] w (w.alloc (.cells #[.int .i64 num, vk, vr] 55)) := (Ext.refl [] w).alloc _
  have hB := heap_alloc_new w (.cells #[.int .i64 num, vk, vr] 55)
  have hval := valid_any num _ _ gk gr vk vr _ _ _ (hk.ext hx0 (by simp)) (hr.ext hx0 (by simp)) ⟨n1, n2⟩ k1 k8 r8 kk_ kr_
  obtain ⟨ok, ck, rfl, hkc⟩ : ∃ ok ck, vk = .slice (some ⟨gk, ok, none⟩) kk.length ck ∧ kk.length ≤ ck := by
    rcases hk.split with ⟨_, h0, _⟩ | ⟨o, c', h1, h2, _⟩
    · omega
    · exact ⟨o, c', h1, h2⟩
  have hs1 := slice_h T53 gk ok kk.length ck l.length rfl (by omega)
  have hkt := hk.to_ l.length hle
  have htk : (nts kk).take (l.length * 1) = nts (kdsC l) := by rw [hl]; simp [nts, List.map_take]
  rw [htk] at hkt
  have hare := fun w h1 h2 h3 h4 => are_any gl gk vl (.slice (some ⟨gk, ok, none⟩) l.length ck) l.length l w h1 h2 hok h3 h4
  have hpu := fun W h1 h2 h3 h4 => heads_any num gl l l.length vl W h1 (by omega) (by omega) h2 hok h3 h4
  obtain ⟨Ar, cr, rfl, _⟩ := hr.form
  obtain ⟨Al, cl, rfl, hlc⟩ := hv.form
  have hKb : bl (keyB num l) = P ++ [b] := by rw [keyB_bl, hP]
  have hkb := keyB_size num l
  have hm : (keyB num l).size = P.length + 1 := by rw [← bl_len, hKb]; simp
  have hm24 : P.length + 1 ≤ 24 := by omega
  have HMS := Lib.hid hm; clear hm hkb
  generalize hKK : keyB num l = K at *
  have HLE := Lib.hid hle
  clear hKK hl htk hle hP
  have hL : l.length ≤ kk.length := HLE.out
  generalize hkl : l.length = nl at *
  generalize hkk : kk.length = nk at *
  clear hkl hkk
  have HKB := Lib.hid hKb; clear hKb
  generalize hpl : P.length = m at *
  have HPL := Lib.hid hpl; clear hpl
  go_enter Tryz.func82, Tryz.ntmps82
  go_wp2_with fail
  refine hval.mono ?_
  rintro e w1 ⟨rfl, hx1⟩
  have hx01 := hx0.trans hx1
  have hB1 := hx1.keep hB (by simp)
  have b0 : w1.cell? ⟨w.heap.size, 0, none⟩ = some (.int .i64 num) := cell_of_row _ _ 0 _ _ _ hB1
  have b1 : w1.cell? ⟨w.heap.size, 1, none⟩ = some (.slice (some ⟨gk, ok, none⟩) nk ck) := cell_of_row _ _ 1 _ _ _ hB1
  have s1 := hx01.size
  have hare1 := hare w1 (hv.ext hx01 (by simp)) (hkt.ext hx01 (by simp)) (by omega) (by omega)
  clear hval hare
  go_wp2_with fail
  refine hare1.mono ?_
  rintro e w3 ⟨rfl, hx3⟩
  have hx03 := hx01.trans hx3
  have s3 := hx03.size
  have b30 : w3.cell? ⟨w.heap.size, 0, none⟩ = some (.int .i64 num) := hx3.cell b0 (by simp)
  have hp := hpu w3 (hv.ext hx03 (by simp)) (by omega) (hM.ext hx03 (by simp)) (by omega)
  clear hare1 hpu b0 b1
  go_wp2_with fail
  refine hp.mono ?_
  rintro e w4 ⟨rfl, hx4⟩
  clear hp
  have hx04 := hx03.trans hx4
  obtain ⟨c5, w5, hcv, hv5, hf5, hx5, hc5⟩ := conv_strB K (m + 1) w4 HMS.out (by omega)
  have hkz : K.size ≤ 24 := by have := HMS.out; omega
  have hlast := hv5.byte m (by omega)
  have hat : bAt (bl K) m = (b.toNat : Int) := by
    rw [HKB.out]
    simp [bAt, ← HPL.out]
  rw [hat, Nat.zero_add] at hlast
  clear hat
  have hfr := hf5 m (by omega)
  have hset := hv5.setb m (by omega) (b + 1)
  have he : ((bl K).set m (b + 1)) = P ++ [b + 1] := by
    rw [HKB.out, ← HPL.out]; simp
  rw [he, u8_succ b hb] at hset
  clear he
  have hstr := fun k => run_str (hset.ext (Ext.drewN (Ext.refl [] _) k) (by simp))
  have hx05 := hx04.trans hx5
  have hx06 : Ext [] w (w5.setCell ⟨w4.heap.size, m, none⟩ (.int .u8 ((b.toNat : Int) + 1))) := hx05.setCell (.inr hx04.size) _
  go_wp2_with fail
  go_loopw [7] (fun sv wl => sv = .slice (some ⟨w4.heap.size, 0, none⟩) (m + 1) c5 ∧ wl = w5) (fun _ _ => 0)
  case atStart => exact ⟨rfl, rfl⟩
  case round =>
    obtain ⟨rfl, hwr⟩ := hrel
    subst hwr
    go_wp2_with fail
    go_quiet (fail)
    go_wp2_with fail
    go_ret3
    exact ⟨rfl, Ext.drewN hx06 _⟩
end Go.Proofs.YtfadbmfkidiaoaaGreatDoor

namespace Go.Proofs.YtfadbmfkidiaoaaGreatDoor
open Go.RowKit Go
set_option linter.unusedSimpArgs false
set_option linter.unusedVariables false
set_option linter.unusedSectionVars false
set_option linter.unnecessarySimpa false

theorem results_c1 {fn : Func} {p : Tmp} {ty : TypeId} (h : fn.results = #[.cell p ty]) (tmps : Array Value) (P : Program) (w : World) :
    (results fn tmps).run P w = ((asAddr (tmps.getD p undef)).run P w).andThen fun a w₁ => (loadVar ty a).run P w₁ := by
  simp only [results, h]
  simp [Sem.run_bind, Result.andThen]
theorem run_results118 (W : World) (tmps : Array Value) (B : Nat) (a b c d e : Value) (h2 : tmps.getD 2 undef = .pointer (some ⟨B, 0, none⟩))
    (hb : W.heap[B]? = some (.cells #[a, b, c, d, e] 93 (0, 0))) : (results Tryz.f118 tmps).run Tryz.prog W = .ok (.agg #[a, b, c, d, e]) W := by
  rw [results_c1 (fn := Tryz.f118) (p := 2) (ty := 93) (by kernel_rfl), h2]
  obtain ⟨⟨c0, c1, c2, c3, c4⟩, _⟩ := cells5 hb
  go_simp
theorem run_results74 (W : World) (tmps : Array Value) (B : Nat) (a b c d e : Value) (h2 : tmps.getD 2 undef = .pointer (some ⟨B, 0, none⟩))
    (hb : W.heap[B]? = some (.cells #[a, b, c, d, e] 93 (0, 0))) : (results Tryz.f74 tmps).run Tryz.prog W = .ok (.agg #[a, b, c, d, e]) W := by
  rw [results_c1 (fn := Tryz.f74) (p := 2) (ty := 93) (by kernel_rfl), h2]
  obtain ⟨⟨c0, c1, c2, c3, c4⟩, _⟩ := cells5 hb
  go_simp
def numC (n : Nat) : Value := .agg #[.int .i64 1, .int .u64 (n : Nat), .int .i64 0, .string eS, .bool false]
set_option maxRecDepth 100000 in
set_option maxHeartbeats 800000 in
theorem num118_any (n : Nat) (w : World) (h : n ≤ 1000000) : Calls Tryz.prog 118 #[.int .i64 n] w fun e w' => e = .returned (numC n) ∧ w' = w.alloc (.cells #[.int .i64 1, .int .u64 (n : Nat), .int .i64 0, .string eS, .bool false] 93) := by
  go_enter Tryz.func118, Tryz.ntmps118
  go_wp2_with fail
  have hb' := heap_alloc_new w (.cells #[.int .i64 1, .int .u64 n, .int .i64 0, .string eS, .bool false] 93)
  refine bodyPost_ret (run_results118 _ _ w.heap.size _ _ _ _ _ rfl hb') rfl ?_
  exact ⟨rfl, rfl⟩
set_option maxRecDepth 100000 in
set_option maxHeartbeats 800000 in
theorem num74_any (n : Nat) (w : World) (h : n ≤ 1000000) : Calls Tryz.prog 74 #[.int .i64 n] w fun e w' => e = .returned (numC n) ∧ w' = w.alloc (.cells #[.int .i64 1, .int .u64 (n : Nat), .int .i64 0, .string eS, .bool false] 93) := by
  go_enter Tryz.func74, Tryz.ntmps74
  go_wp2_with fail
  have hb' := heap_alloc_new w (.cells #[.int .i64 1, .int .u64 n, .int .i64 0, .string eS, .bool false] 93)
  refine bodyPost_ret (run_results74 _ _ w.heap.size _ _ _ _ _ rfl hb') rfl ?_
  exact ⟨rfl, rfl⟩
theorem num_lit (n : Nat) : (numC n) = .agg #[.int .i64 1, .int .u64 (n : Nat), .int .i64 0, .string eS, .bool false] := rfl
set_option maxRecDepth 100000 in
set_option maxHeartbeats 800000 in
theorem isnan_any (x : Nat) (w : World) : Calls Tryz.prog 133 #[.int .u64 x] w fun e w' => e = .returned (.bool false) ∧ w = w' := by
  go_enter Tryz.func133, Tryz.ntmps133
  go_wp2_with fail
  go_ret
  exact ⟨ret1 rfl, rfl⟩
set_option maxRecDepth 100000 in
set_option maxHeartbeats 800000 in
theorem cmpu_any (x y : Nat) (w : World) : Calls Tryz.prog 85 #[.int .u64 x, .int .u64 y] w fun e w' => ∃ z : Int, e = .returned (.int .i64 z) ∧ (x ≤ y → z ≤ 0) ∧ w = w' := by
  have hn := isnan_any
  go_enter Tryz.func85, Tryz.ntmps85
  go_wp2_with fail
  refine (hn _ _).mono ?_
  rintro e w1 ⟨rfl, rfl⟩
  go_wp2_with fail
  refine (hn _ _).mono ?_
  rintro e w1 ⟨rfl, rfl⟩
  by_cases h1 : (x : Int) < (y : Int)
  · go_wp2_with fail
    go_ret
    exact ⟨-1, ret1 rfl, fun _ => by omega, rfl⟩
  · by_cases h2 : (y : Int) < (x : Int)
    · go_wp2_with fail
      go_ret
      exact ⟨1, ret1 rfl, fun _ => by omega, rfl⟩
    · go_wp2_with fail
      go_ret
      exact ⟨0, ret1 rfl, fun _ => by omega, rfl⟩
set_option maxRecDepth 100000 in
set_option maxHeartbeats 800000 in
theorem compare_any (x y : Nat) (w : World) : Calls Tryz.prog 32 #[numC x, numC y] w fun e w' => ∃ z : Int, e = .returned (.int .i64 z) ∧ (x ≤ y → z ≤ 0) ∧ Ext [] w w' := by
  have hc := cmpu_any x y
  rw [num_lit, num_lit]
  go_enter Tryz.func32, Tryz.ntmps32
  go_wp2_with fail
  refine (hc _).mono ?_
  rintro e w1 ⟨z, rfl, hz, rfl⟩
  go_wp2_with fail
  go_ret
  exact ⟨z, ret1 rfl, hz, ((Ext.refl [] _).alloc _).alloc _⟩
set_option maxRecDepth 100000 in
set_option maxHeartbeats 800000 in
theorem run_results71 (W : World) (tmps : Array Value) (B : Nat) (a b c : Value) (h2 : tmps.getD 0 undef = .pointer (some ⟨B, 0, none⟩))
    (hb : W.heap[B]? = some (.cells #[a, b, c] 55 (0, 0))) : (results Tryz.f71 tmps).run Tryz.prog W = .ok (.agg #[a, b, c]) W := by
  have c0 : W.cell? ⟨B, 0, none⟩ = some a := cell_of_row _ _ 0 _ _ _ hb
  have c1 : W.cell? ⟨B, 1, none⟩ = some b := cell_of_row _ _ 1 _ _ _ hb
  have c2 : W.cell? ⟨B, 2, none⟩ = some c := cell_of_row _ _ 2 _ _ _ hb
  rw [results_c1 (fn := Tryz.f71) (p := 0) (ty := 55) (by kernel_rfl), h2]
  go_simp
set_option maxRecDepth 100000 in
set_option maxHeartbeats 800000 in
theorem table_any (w : World) : Calls Tryz.prog 71 #[] w fun e w' => ∃ v, e = .returned v ∧ Tb w' v 1 [1, 1, 1] [1, 3, 1, 1] ∧ Ext [] w w' := by
  go_enter Tryz.func71, Tryz.ntmps71
  go_wp2_with fail
  have hb := heap_alloc_new w (.cells #[.int .i64 1, .slice (some ⟨w.heap.size + 1, 0, none⟩) 3 3, .slice (some ⟨w.heap.size + 1 + 1, 0, none⟩) 4 4] 55)
  generalize hW : w.alloc (.cells #[.int .i64 1, .slice (some ⟨w.heap.size + 1, 0, none⟩) 3 3, .slice (some ⟨w.heap.size + 1 + 1, 0, none⟩) 4 4] 55) = W at *
  have hz : W.heap.size = w.heap.size + 1 := by rw [← hW]; simp
  have hx : Ext [] w W := by rw [← hW]; exact (Ext.refl [] w).alloc _
  clear hW
  have r1 := Row.new W 52 1 #[.int .i64 1, .int .i64 1, .int .i64 1] 3 3 (by omega) (by simp [maxLen]) rfl
  have hxa : Ext [] W (W.alloc (.cells #[.int .i64 1, .int .i64 1, .int .i64 1] 52)) := (Ext.refl [] W).alloc _
  have r2 := Row.new (W.alloc (.cells #[.int .i64 1, .int .i64 1, .int .i64 1] 52)) 52 1 #[.int .i64 1, .int .i64 3, .int .i64 1, .int .i64 1] 4 4 (by omega) (by simp [maxLen]) rfl
  have hxb : Ext [] (W.alloc (.cells #[.int .i64 1, .int .i64 1, .int .i64 1] 52)) ((W.alloc (.cells #[.int .i64 1, .int .i64 1, .int .i64 1] 52)).alloc (.cells #[.int .i64 1, .int .i64 3, .int .i64 1, .int .i64 1] 52)) := (Ext.refl [] _).alloc _
  simp only [World.size_alloc, hz] at r2
  rw [hz] at r1
  refine bodyPost_ret (run_results71 _ _ w.heap.size _ _ _ rfl ((hxa.trans hxb).keep hb (by simp))) rfl ?_
  refine ⟨_, rfl, ⟨⟨_, _, w.heap.size + 1, w.heap.size + 1 + 1, rfl, (r1.ext hxb (by simp)).vw, r2.vw, by simp [hz], by simp [hz]⟩, by omega, by omega, by simp, by simp, by simp, by simp [Kd], by simp [Kd]⟩, (hx.trans hxa).trans hxb⟩
theorem neq_cl (k a : Nat) (c : ByteArray) (w : World) : (binOp .neq 93 (.agg #[.int .i64 (k : Nat), .int .u64 (a : Nat), .int .i64 0, .string c, .bool false]) (.agg #[.int .i64 (k : Nat), .int .u64 (a : Nat), .int .i64 0, .string c, .bool false])).run Tryz.prog w = .ok (.bool false) w := by
  go_simp
theorem Vw.head {w : World} {g e sz n m c : Nat} {A : Option Addr} {cs : List Value} (h : Vw w g e sz (.slice A m c) n cs) (h0 : 0 < n) : ∃ o, A = some ⟨g, o, none⟩ := by
  rcases h.split with ⟨_, h0, _⟩ | ⟨o, c', h1, _⟩
  · omega
  · injection h1 with h1 _ _; exact ⟨o, h1⟩
set_option maxRecDepth 100000 in
set_option maxHeartbeats 1600000 in
theorem eqs_any (ga gb : Nat) (va vb : Value) (n : Nat) (l : List Cl) (w : World) (ha : Vw w ga 93 5 va n (clsC l)) (hb : Vw w gb 93 5 vb n (clsC l)) :
    Calls Tryz.prog 73 #[va, vb] w fun e w' => e = .returned (.bool true) ∧ Ext [] w w' := by
  have hmx := ha.lenMax
  obtain ⟨Aa, ca, rfl, _⟩ := ha.form
  obtain ⟨Ab, cb, rfl, _⟩ := hb.form
  go_enter Tryz.func73, Tryz.ntmps73
  go_wp2_with fail
  go_loopw [13] (fun iv wl => ∃ i : Nat, iv = .int .i64 i ∧ i ≤ n ∧ Ext [] w wl) (fun iv _ => n - (intOf iv).toNat)
  case atStart => exact ⟨0, rfl, Nat.zero_le _, Ext.refl _ _⟩
  case round =>
    obtain ⟨i, rfl, hi, hx⟩ := hrel
    by_cases hlt : i < n
    · obtain ⟨oa, rfl⟩ := ha.head (by omega)
      obtain ⟨ob, rfl⟩ := hb.head (by omega)
      obtain ⟨d0, d1, d2, d3, d4⟩ := (ha.ext hx (by simp)).cl i hlt
      obtain ⟨e0, e1, e2, e3, e4⟩ := (hb.ext hx (by simp)).cl i hlt
      have hne := fun w => neq_cl (clAt l i).k (clAt l i).u (clAt l i).s w
      generalize clAt l i = cc at *
      obtain ⟨ck', cu, csx⟩ := cc
      simp only at d0 d1 d2 d3 d4 e0 e1 e2 e3 e4 hne
      clear ha hb
      go_wp2_with fail
      go_quiet (fail)
      clear hne
      go_wp2
      go_roundw
      case rel => exact ⟨i + 1, by go_num, by omega, hx.drewN _⟩
      case measure => simp [intOf]; omega
    · clear ha hb
      go_wp2_with fail
      go_ret
      exact ⟨rfl, hx⟩
set_option maxRecDepth 100000 in
theorem equal_any (ga gb : Nat) (va vb : Value) (n : Nat) (l : List Cl) (w : World) (ha : Vw w ga 93 5 va n (clsC l)) (hb : Vw w gb 93 5 vb n (clsC l)) :
    Calls Tryz.prog 26 #[va, vb] w fun e w' => e = .returned (.bool true) ∧ Ext [] w w' := by
  have he := eqs_any ga gb va vb n l w ha hb
  go_enter Tryz.func26, Tryz.ntmps26
  go_wp2_with fail
  refine he.mono ?_
  rintro e w1 ⟨rfl, hx⟩
  go_wp2_with fail
  go_ret
  exact ⟨rfl, hx⟩
end Go.Proofs.YtfadbmfkidiaoaaGreatDoor
