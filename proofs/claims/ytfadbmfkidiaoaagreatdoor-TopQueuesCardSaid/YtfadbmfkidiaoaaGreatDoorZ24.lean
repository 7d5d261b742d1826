/- Rows read from pairs of bytes. Keys and spans of rows. -/
import Derived.Test.YtfadbmfkidiaoaaGreatDoorZ23
namespace Go.Proofs.YtfadbmfkidiaoaaGreatDoor
open Go.RowKit Go
set_option linter.unusedSimpArgs false
set_option linter.unusedVariables false
set_option linter.unusedSectionVars false
set_option linter.unnecessarySimpa false

def catC (i : Nat) (a b : List Cl) : List Cl := if i = 0 then [] else if i = 1 then a else a ++ b
theorem csB_drop (l : List Cl) (j : Nat) (h : j < l.length) : csB (l.drop j) = clB (clAt l j) ++ csB (l.drop (j + 1)) := by
  unfold csB clAt
  rw [List.drop_eq_getElem_cons h, List.flatMap_cons, List.getD_eq_getElem?_getD, List.getElem?_eq_getElem h]; rfl
theorem cl_snoc (l : List Cl) (j : Nat) (h : j < l.length) : l.take (j + 1) = l.take j ++ [clAt l j] := by
  unfold clAt
  rw [List.take_add_one, List.getElem?_eq_getElem h, List.getD_eq_getElem?_getD, List.getElem?_eq_getElem h]; rfl
theorem keyB_bl (num : Nat) (l : List Cl) : bl (keyB num l) = UInt8.ofNat num :: csB l := by simp [bl, keyB]
theorem valB_bl (l : List Cl) : bl (valB l) = csB l := by simp [bl, valB]
def RdIn (w2 : World) (ni mi : Nat) (base li : List Cl) (ov sv jv : Value) (wl : World) : Prop := ∃ (j m : Nat) (A : Option Addr) (c' go : Nat) (S : ByteArray), jv = .int .i64 j ∧ j ≤ ni ∧ m = mi + j ∧ sv = .string S ∧ bl S = csB (li.drop j) ∧ ov = .slice A m c' ∧ Row wl go 93 5 (.slice A m c') m (clsC (base ++ li.take j)) ∧ w2.heap.size ≤ go ∧ Ext [] w2 wl
def RdOut (w2 : World) (nk nr : Nat) (lk lr : List Cl) (ov iv : Value) (wl : World) : Prop := ∃ (i : Nat) (A : Option Addr) (c' go : Nat), iv = .int .i64 i ∧ i ≤ 2 ∧ ov = .slice A (catN i nk nr) c' ∧ Row wl go 93 5 (.slice A (catN i nk nr) c') (catN i nk nr) (clsC (catC i lk lr)) ∧ w2.heap.size ≤ go ∧ Ext [] w2 wl
set_option maxRecDepth 100000 in
set_option maxHeartbeats 8000000 in
theorem read_any (num : Nat) (vt : Value) (lk lr : List Cl) (w : World) (ht : Tb w vt num (kdsC lk) (kdsC lr)) (hok : OkCs (lk ++ lr)) (hks : (csB lk).length ≤ 23) (hvs : (csB lr).length ≤ 40) (hM : MxL w) (h8 : 8 ≤ w.heap.size) :
    Calls Tryz.prog 24 #[vt, .string (keyB num lk), .string (valB lr)] w fun e w' => ∃ g' v', e = .returned (.tuple #[v', .int .i64 0]) ∧ Row w' g' 93 5 v' (lk.length + lr.length) (clsC (lk ++ lr)) ∧ w.heap.size ≤ g' ∧ g' < w'.heap.size ∧ Ext [] w w' := by
  have htx := fun W (hx : Ext [] w W) => ht.ext hx
  have hrow := fun W (hx : Ext [] w W) gl vl h1 h2 => row_any num gl vt vl lk lr W (ht.ext hx) h1 hok h2 hks hvs (hM.ext hx (by simp)) (by have := hx.size; omega)
  obtain ⟨⟨vk, vr, gk, gr, rfl, hk, hr, hgk, hgr⟩, n1, n2, k1, k8, r8, kk_, kr_⟩ := ht
  rw [kdsC_len] at hk hr k1 k8 r8
  have hx0 : Ext [] w (w.alloc (.cells #[.int .i64 num, vk, vr] 55)) := (Ext.refl [] w).alloc _
  have hB := heap_alloc_new w (.cells #[.int .i64 num, vk, vr] 55)
  have hval := valid_any num _ _ gk gr vk vr _ _ _ (hk.ext hx0 (by simp)) (hr.ext hx0 (by simp)) ⟨n1, n2⟩ k1 k8 r8 kk_ kr_
  obtain ⟨Ak, ck, rfl, _⟩ := hk.form
  obtain ⟨Ar, cr, rfl, _⟩ := hr.form
  have hokk : OkCs lk := fun c hc => hok c (by simp [hc])
  have hokr : OkCs lr := fun c hc => hok c (by simp [hc])
  have hKs := keyB_size num lk
  have hKb : bl ((keyB num lk).extract 1 (keyB num lk).size) = csB (lk.drop 0) := by rw [bl_from rfl, keyB_bl]; rfl
  have hVb : bl (valB lr) = csB (lr.drop 0) := by rw [valB_bl]; rfl
  have hemp := str_ne (s := keyB num lk) (by omega)
  have hK1 : 1 ≤ (keyB num lk).size := by omega
  clear hKs hok
  generalize keyB num lk = K at *
  generalize valB lr = V at *
  generalize hkl : lk.length = nk at *
  generalize hrl : lr.length = nr at *
  have HKL := Lib.hid hkl; clear hkl
  have HRL := Lib.hid hrl; clear hrl
  go_enter Tryz.func24, Tryz.ntmps24
  go_wp2_with fail
  refine hval.mono ?_
  rintro e w1 ⟨rfl, hx1⟩
  have hx01 := hx0.trans hx1
  have hB1 := hx1.keep hB (by simp)
  clear hval
  go_wp2_with fail
  have hx02' : Ext [] w (w1.alloc (.cells #[.string (K.extract 1 K.size), .string V] 9)) := hx01.alloc _
  have hC := heap_alloc_new w1 (.cells #[.string (K.extract 1 K.size), .string V] 9)
  have hB2 := ((Ext.refl [] w1).alloc (.cells #[.string (K.extract 1 K.size), .string V] 9)).keep hB1 (by simp)
  obtain ⟨w2, hw2⟩ : ∃ w2, w2 = w1.alloc (.cells #[.string (K.extract 1 K.size), .string V] 9) := ⟨_, rfl⟩
  rw [← hw2] at hx02' hC hB2 ⊢
  have hx02 := hx02'
  clear hx02' hw2 hB1 hx01 hx1 hB hx0 hemp
  have hk := hk.ext hx02 (by simp)
  have hr := hr.ext hx02 (by simp)
  go_loopw [8, 29] (RdOut w2 nk nr lk lr) (fun _ iv _ => 2 - (intOf iv).toNat)
  case atStart => unfold RdOut; exact ⟨0, none, 0, w2.heap.size, rfl, Nat.zero_le _, rfl, .nil, Nat.le_refl _, Ext.refl _ _⟩
  case round =>
    obtain ⟨i, A, c', go, rfl, hi, rfl, hro, hgo, hx⟩ := hrel
    have hBw := hx.keep hB2 (by simp)
    have hCw := hx.keep hC (by simp)
    have b0 : wr.cell? ⟨w.heap.size, 0, none⟩ = some (.int .i64 num) := cell_of_row _ _ 0 _ _ _ hBw
    have b1 : wr.cell? ⟨w.heap.size, 1, none⟩ = some (.slice Ak nk ck) := cell_of_row _ _ 1 _ _ _ hBw
    have b2 : wr.cell? ⟨w.heap.size, 2, none⟩ = some (.slice Ar nr cr) := cell_of_row _ _ 2 _ _ _ hBw
    have s0 : wr.cell? ⟨w1.heap.size, 0, none⟩ = some (.string (K.extract 1 K.size)) := cell_of_row _ _ 0 _ _ _ hCw
    have s1 : wr.cell? ⟨w1.heap.size, 1, none⟩ = some (.string V) := cell_of_row _ _ 1 _ _ _ hCw
    clear hBw hCw
    rcases (show i = 0 ∨ i = 1 ∨ i = 2 by omega) with rfl | rfl | rfl
    · have e0 : catN 0 nk nr = 0 := rfl
      have e1 : catC 0 lk lr = ([] : List Cl) := rfl
      rw [e0] at hro ⊢
      rw [e1] at hro
      clear e0 e1
      go_wp2_with fail
      rename World => ws
      have hx2s := hx
      clear hx
      have hxk : Ext [] w2 (ws.alloc (.cells #[.slice Ak nk ck, .slice Ar nr cr] 53)) := hx2s.alloc _
      have hro' := hro.ext ((Ext.refl [] ws).alloc (.cells #[.slice Ak nk ck, .slice Ar nr cr] 53)) (by simp)
      clear hro
      go_loopw [8, 10, 43] (RdIn w2 nk 0 ([] : List Cl) lk) (fun _ _ jv _ => nk - (intOf jv).toNat)
      case atStart => unfold RdIn; exact ⟨0, 0, A, c', go, _, rfl, Nat.zero_le _, rfl, rfl, hKb, rfl, by simpa using hro', hgo, hxk⟩
      case round =>
        clear hro' hxk hx2s hgo
        obtain ⟨j, m, A2, c2, go2, S, rfl, hj, hm, rfl, hS, rfl, hro, hgo, hx⟩ := hrel
        by_cases hjl : j < nk
        · obtain ⟨o, rfl⟩ : ∃ o, Ak = some ⟨gk, o, none⟩ := by
            rcases hk.split with ⟨_, h0, _⟩ | ⟨o, c', h1, _⟩
            · omega
            · injection h1 with h1 _ _; exact ⟨o, h1⟩
          have hkc := (hk.ext hx (by simp)).nt j hjl
          rw [kdsC_at _ _ (by have := HKL.out; omega)] at hkc
          have hdr := csB_drop lk j (by have := HKL.out; omega)
          rw [hdr] at hS
          have hcc := hokk.at_ (i := j) (by have := HKL.out; omega)
          have hSl : S.size ≤ 100000 := by
            have h1 := csB_len (l := lk.drop j) (fun c hc => hokk c (List.mem_of_mem_drop hc))
            rw [hdr, ← hS, bl_len, List.length_drop] at h1
            have := HKL.out
            omega
          have htk := cl_snoc lk j (by have := HKL.out; omega)
          have htake := rtake_any (clAt lk j) S (csB (lk.drop (j + 1))) wr hS hcc hSl ((hM.ext hx02 (by simp)).ext hx (by simp))
          generalize clAt lk j = cc at *
          obtain ⟨ck', cu, csx⟩ := cc
          simp only [clC] at htake hkc
          have HM := Lib.hid hm; clear hm
          have HT := Lib.hid htk; clear htk
          clear hdr hS hcc
          go_wp2_with fail
          refine htake.mono ?_
          rintro e w3 ⟨R, hR, rfl, hx3⟩
          clear htake
          have hro3 := fun o o' => ((hro.ext hx3 (by simp)).ext ((Ext.refl [] w3).alloc o) (by simp)).ext ((Ext.refl [] (w3.alloc o)).alloc o') (by simp)
          have hn1 : ∀ W : World, Row (W.alloc (.cells #[.int .i64 (ck' : Nat), .int .u64 (cu : Nat), .int .i64 0, .string csx, .bool false] 93)) W.heap.size 93 5 (.slice (some ⟨W.heap.size, 0, none⟩) 1 1) 1 (clsC [⟨ck', cu, csx⟩]) := fun W => Row.new W 93 5 #[.int .i64 (ck' : Nat), .int .u64 (cu : Nat), .int .i64 0, .string csx, .bool false] 1 1 (by omega) (by simp [maxLen]) rfl
          have hn2 := hn1 (w3.alloc (.cells #[.int .i64 (ck' : Nat), .int .u64 (cu : Nat), .int .i64 0, .string csx, .bool false] 93))
          simp only [World.size_alloc] at hn2
          have hone := clsC_one [⟨ck', cu, csx⟩]
          have hmb : m ≤ 100 := by have := HM.out; omega
          go_wp2_with ((with_reducible refine wpList_append T73 rfl (.tmp 56) (.tmp 58) rfl rfl rfl (hro3 _ _) hn2.vw hone (by omega) (by omega) ?_); rintro g9 A9 c9 w9 hr9 hx9 hg9 hA9 _ _; obtain rfl := hA9 (by omega))
          have s3 := hx3.size
          have sx := hx.size
          simp only [World.size_alloc] at hg9
          have hxa : Ext [go2] wr w9 := (((hx3.mono (by simp) : Ext [go2] wr w3).alloc _).alloc _).trans hx9
          (refine ⟨?_, ?measureaq9⟩; (repeat apply Exists.intro); refine ⟨?relaq9, ?eqqaq9⟩; case' eqqaq9 => first | rfl | (and_intros <;> rfl))
          case relaq9 =>
            unfold RdIn
            refine ⟨j + 1, m + 1, some ⟨g9, 0, none⟩, c9, g9, R, by go_num, by omega, by have := HM.out; omega, rfl, hR, by simp, ?_, by omega, hx.step hxa (by simp; omega)⟩
            rw [HT.out, ← List.append_assoc, clsC_app]; exact hr9
          case measureaq9 => simp [intOf]; omega
        · obtain rfl : nk = j := by omega
          rw [List.take_of_length_le (by have := HKL.out; omega)] at hro
          have HM := Lib.hid hm
          obtain rfl : m = 0 + nk := hm
          go_wp2_with fail
          refine ⟨?rel, ?measure⟩
          case rel =>
            unfold RdOut
            refine ⟨1, A2, c2, go2, by go_num, by omega, ?_, ?_, hgo, hx⟩
            · simp [catN]
            · have e3 : catN 1 nk nr = 0 + nk := by simp [catN]
              have e4 : catC 1 lk lr = ([] : List Cl) ++ lk := rfl
              rw [e3, e4]; exact hro
          case measure => simp [intOf]
    · have e0 : catN 1 nk nr = nk := rfl
      have e1 : catC 1 lk lr = lk := rfl
      rw [e0] at hro ⊢
      rw [e1] at hro
      clear e0 e1
      go_wp2_with fail
      rename World => ws
      have hx2s := hx
      clear hx
      have hxk : Ext [] w2 (ws.alloc (.cells #[.slice Ak nk ck, .slice Ar nr cr] 53)) := hx2s.alloc _
      have hro' := hro.ext ((Ext.refl [] ws).alloc (.cells #[.slice Ak nk ck, .slice Ar nr cr] 53)) (by simp)
      clear hro
      go_loopw [8, 10, 43] (RdIn w2 nr nk lk lr) (fun _ _ jv _ => nr - (intOf jv).toNat)
      case atStart => unfold RdIn; exact ⟨0, nk, A, c', go, _, rfl, Nat.zero_le _, rfl, rfl, hVb, rfl, by simpa using hro', hgo, hxk⟩
      case round =>
        clear hro' hxk hx2s hgo
        obtain ⟨j, m, A2, c2, go2, S, rfl, hj, hm, rfl, hS, rfl, hro, hgo, hx⟩ := hrel
        by_cases hjl : j < nr
        · obtain ⟨o, rfl⟩ : ∃ o, Ar = some ⟨gr, o, none⟩ := by
            rcases hr.split with ⟨_, h0, _⟩ | ⟨o, c', h1, _⟩
            · omega
            · injection h1 with h1 _ _; exact ⟨o, h1⟩
          have hkc := (hr.ext hx (by simp)).nt j hjl
          rw [kdsC_at _ _ (by have := HRL.out; omega)] at hkc
          have hdr := csB_drop lr j (by have := HRL.out; omega)
          rw [hdr] at hS
          have hcc := hokr.at_ (i := j) (by have := HRL.out; omega)
          have hSl : S.size ≤ 100000 := by
            have h1 := csB_len (l := lr.drop j) (fun c hc => hokr c (List.mem_of_mem_drop hc))
            rw [hdr, ← hS, bl_len, List.length_drop] at h1
            have := HRL.out
            omega
          have htk := cl_snoc lr j (by have := HRL.out; omega)
          have htake := rtake_any (clAt lr j) S (csB (lr.drop (j + 1))) wr hS hcc hSl ((hM.ext hx02 (by simp)).ext hx (by simp))
          generalize clAt lr j = cc at *
          obtain ⟨ck', cu, csx⟩ := cc
          simp only [clC] at htake hkc
          have HM := Lib.hid hm; clear hm
          have HT := Lib.hid htk; clear htk
          clear hdr hS hcc
          go_wp2_with fail
          refine htake.mono ?_
          rintro e w3 ⟨R, hR, rfl, hx3⟩
          clear htake
          have hro3 := fun o o' => ((hro.ext hx3 (by simp)).ext ((Ext.refl [] w3).alloc o) (by simp)).ext ((Ext.refl [] (w3.alloc o)).alloc o') (by simp)
          have hn1 : ∀ W : World, Row (W.alloc (.cells #[.int .i64 (ck' : Nat), .int .u64 (cu : Nat), .int .i64 0, .string csx, .bool false] 93)) W.heap.size 93 5 (.slice (some ⟨W.heap.size, 0, none⟩) 1 1) 1 (clsC [⟨ck', cu, csx⟩]) := fun W => Row.new W 93 5 #[.int .i64 (ck' : Nat), .int .u64 (cu : Nat), .int .i64 0, .string csx, .bool false] 1 1 (by omega) (by simp [maxLen]) rfl
          have hn2 := hn1 (w3.alloc (.cells #[.int .i64 (ck' : Nat), .int .u64 (cu : Nat), .int .i64 0, .string csx, .bool false] 93))
          simp only [World.size_alloc] at hn2
          have hone := clsC_one [⟨ck', cu, csx⟩]
          have hmb : m ≤ 100 := by have := HM.out; omega
          go_wp2_with ((with_reducible refine wpList_append T73 rfl (.tmp 56) (.tmp 58) rfl rfl rfl (hro3 _ _) hn2.vw hone (by omega) (by omega) ?_); rintro g9 A9 c9 w9 hr9 hx9 hg9 hA9 _ _; obtain rfl := hA9 (by omega))
          have s3 := hx3.size
          have sx := hx.size
          simp only [World.size_alloc] at hg9
          have hxa : Ext [go2] wr w9 := (((hx3.mono (by simp) : Ext [go2] wr w3).alloc _).alloc _).trans hx9
          (refine ⟨?_, ?measurebq9⟩; (repeat apply Exists.intro); refine ⟨?relbq9, ?eqqbq9⟩; case' eqqbq9 => first | rfl | (and_intros <;> rfl))
          case relbq9 =>
            unfold RdIn
            refine ⟨j + 1, m + 1, some ⟨g9, 0, none⟩, c9, g9, R, by go_num, by omega, by have := HM.out; omega, rfl, hR, by simp, ?_, by omega, hx.step hxa (by simp; omega)⟩
            rw [HT.out, ← List.append_assoc, clsC_app]; exact hr9
          case measurebq9 => simp [intOf]; omega
        · obtain rfl : nr = j := by omega
          rw [List.take_of_length_le (by have := HRL.out; omega)] at hro
          have HM := Lib.hid hm
          obtain rfl : m = nk + nr := hm
          go_wp2_with fail
          refine ⟨?rel, ?measure⟩
          case rel =>
            unfold RdOut
            refine ⟨2, A2, c2, go2, by go_num, by omega, ?_, ?_, hgo, hx⟩
            · simp [catN]
            · have e3 : catN 2 nk nr = nk + nr := by simp [catN]
              have e4 : catC 2 lk lr = lk ++ lr := rfl
              rw [e3, e4]; exact hro
          case measure => simp [intOf]
    · have e0 : catN 2 nk nr = nk + nr := rfl
      have e1 : catC 2 lk lr = lk ++ lr := rfl
      rw [e0] at hro ⊢
      rw [e1] at hro
      clear e0 e1
      have hgo2 := hro.blt (by omega)
      have hrw := hrow wr (hx02.trans hx) go _ hro.vw hgo2
      go_wp2_with fail
      refine hrw.mono ?_
      rintro e w5 ⟨rfl, hx5⟩
      go_wp2_with fail
      go_ret2
      have z2 := hx02.size
      have z5 := hx5.size
      exact ⟨go, _, rfl, hro.ext hx5 (by simp), by omega, by omega, (hx02.trans hx).trans hx5⟩
end Go.Proofs.YtfadbmfkidiaoaaGreatDoor

namespace Go.Proofs.YtfadbmfkidiaoaaGreatDoor
open Go.RowKit Go
set_option linter.unusedSimpArgs false
set_option linter.unusedVariables false
set_option linter.unusedSectionVars false
set_option linter.unnecessarySimpa false

theorem head_row (W : World) (num : Nat) (h : num ≤ 255) : Row (W.alloc (.cells #[.int .u8 (num : Int)] 5)) W.heap.size 5 1 (.slice (some ⟨W.heap.size, 0, none⟩) 1 1) 1 (bcs [UInt8.ofNat num]) := by
  have := Row.new W 5 1 #[.int .u8 (num : Int)] 1 1 (by omega) (by simp [maxLen]) rfl
  have e : (#[Value.int .u8 ((num : Int))].toList.take (1 * 1)) = bcs [UInt8.ofNat num] := by
    simp only [bcs, List.map_cons, List.map_nil, u8_of]
    have : ((num : Nat) : Int) % 256 = num := by omega
    rw [this]; rfl
  rw [e] at this
  exact this
theorem heads_any (num gl : Nat) (l : List Cl) (n : Nat) (vl : Value) (w : World) (hv : Vw w gl 93 5 vl n (clsC l)) (h : num ≤ 255) (hn : n ≤ 8) (hgl : gl < w.heap.size) (hok : OkCs l) (hM : MxL w) (h8 : 8 ≤ w.heap.size) :
    Calls Tryz.prog 131 #[.slice (some ⟨w.heap.size, 0, none⟩) 1 1, vl] (w.alloc (.cells #[.int .u8 (num : Int)] 5)) fun e w' => e = .returned (.string (keyB num l)) ∧ Ext [] w w' := by
  have hW : Ext [] w (w.alloc (.cells #[.int .u8 (num : Int)] 5)) := (Ext.refl [] w).alloc _
  refine (puts_any w.heap.size gl _ vl 1 n [UInt8.ofNat num] l _ (head_row w num h) (hv.ext hW (by simp)) hn (by omega) (by simp) (by omega) (by simp; omega) hok (hM.ext hW (by simp)) h8).mono ?_
  rintro e w' ⟨rfl, hx⟩
  exact ⟨rfl, hW.step hx (by simp)⟩
set_option maxRecDepth 100000 in
set_option maxHeartbeats 2000000 in
theorem key_any (num gl : Nat) (vt vl : Value) (lk : List Cl) (kr : List Nat) (w : World) (ht : Tb w vt num (kdsC lk) kr) (hv : Vw w gl 93 5 vl lk.length (clsC lk)) (hok : OkCs lk) (hgl : gl < w.heap.size)
    (hks : (csB lk).length ≤ 23) (hM : MxL w) (h8 : 8 ≤ w.heap.size) :
    Calls Tryz.prog 132 #[vt, vl] w fun e w' => e = .returned (.tuple #[.string (keyB num lk), .int .i64 0]) ∧ Ext [] w w' := by
  obtain ⟨⟨vk, vr, gk, gr, rfl, hk, hr, hgk, hgr⟩, n1, n2, k1, k8, r8, kk_, kr_⟩ := ht
  rw [kdsC_len] at hk k1 k8
  have hx0 : Ext [] w (w.alloc (.cells #[.int .i64 num, vk, vr] 55)) := (Ext.refl [] w).alloc _
  have hB := heap_alloc_new w (.cells #[.int .i64 num, vk, vr] 55)
  have hval := valid_any num _ _ gk gr vk vr _ _ _ (hk.ext hx0 (by simp)) (hr.ext hx0 (by simp)) ⟨n1, n2⟩ k1 k8 r8 kk_ kr_
  have hare := fun w h1 h2 h3 h4 => are_any gl gk vl vk lk.length lk w h1 h2 hok h3 h4
  have hpu := fun W h1 h2 h3 h4 => heads_any num gl lk lk.length vl W h1 (by omega) (by omega) h2 hok h3 h4
  obtain ⟨Ak, ck, rfl, _⟩ := hk.form
  obtain ⟨Ar, cr, rfl, _⟩ := hr.form
  obtain ⟨Al, cl, rfl, hlc⟩ := hv.form
  have hkb := keyB_size num lk
  have hKs : (keyB num lk).size ≤ 24 := by omega
  clear hkb
  generalize keyB num lk = K at *
  generalize hkl : lk.length = nk at *
  have HKL := Lib.hid hkl; clear hkl
  go_enter Tryz.func132, Tryz.ntmps132
  go_wp2_with fail
  refine hval.mono ?_
  rintro e w1 ⟨rfl, hx1⟩
  have hx01 := hx0.trans hx1
  have hB1 := hx1.keep hB (by simp)
  have b0 : w1.cell? ⟨w.heap.size, 0, none⟩ = some (.int .i64 num) := cell_of_row _ _ 0 _ _ _ hB1
  have b1 : w1.cell? ⟨w.heap.size, 1, none⟩ = some (.slice Ak nk ck) := cell_of_row _ _ 1 _ _ _ hB1
  have s1 := hx01.size
  have hare1 := hare w1 (hv.ext hx01 (by simp)) (hk.ext hx01 (by simp)) (by omega) (by omega)
  clear hval hare
  go_wp2_with fail
  refine hare1.mono ?_
  rintro e w3 ⟨rfl, hx3⟩
  have hx03 := hx01.trans hx3
  have s3 := hx03.size
  have b30 : w3.cell? ⟨w.heap.size, 0, none⟩ = some (.int .i64 num) := hx3.cell b0 (by simp)
  have hp := hpu w3 (hv.ext hx03 (by simp)) (by omega) (hM.ext hx03 (by simp)) (by omega)
  clear hare1 hpu b0 b1
  go_wp2_with fail
  refine hp.mono ?_
  rintro e w4 ⟨rfl, hx4⟩
  clear hp
  go_wp2_with fail
  go_ret2
  exact ⟨rfl, hx03.trans hx4⟩
end Go.Proofs.YtfadbmfkidiaoaaGreatDoor
