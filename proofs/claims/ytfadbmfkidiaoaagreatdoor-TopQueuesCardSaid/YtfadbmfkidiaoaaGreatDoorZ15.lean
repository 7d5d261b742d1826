/- Bytes read as a map: what one step takes. Bytes read as a map. A strings.Builder of one's own. -/
import Derived.Test.YtfadbmfkidiaoaaGreatDoorZ14
import Derived.Lib.Builder
namespace Go.Proofs.YtfadbmfkidiaoaaGreatDoor
open Go.RowKit Go
set_option linter.unusedSimpArgs false
set_option linter.unusedVariables false
set_option linter.unusedSectionVars false
set_option linter.unnecessarySimpa false

theorem mk_bl (s : ByteArray) : (⟨(bl s).toArray⟩ : ByteArray) = s := by
  cases s; simp [bl]
theorem take_str (g : Nat) (v : Value) (n : Nat) (s : ByteArray) (r : List UInt8) (w : World) (hs : s.size < 256) (hv : Vw w g 5 1 v n (bcs (UInt8.ofNat s.size :: (bl s ++ r)))) :
    Calls Tryz.prog 102 #[v] w fun e w' => ∃ A c, e = .returned (.tuple #[.string s, .slice A r.length c, .bool true]) ∧ Vw w' g 5 1 (.slice A r.length c) r.length (bcs r) ∧ Ext [] w w' := by
  have e1 : (UInt8.ofNat s.size).toNat = s.size := by simp; omega
  have e2 : (bl s ++ r).take s.size = bl s := List.take_left' (bl_len s)
  have e3 : (bl s ++ r).drop s.size = r := List.drop_left' (bl_len s)
  have e4 : (bl s ++ r).length - s.size = r.length := by rw [List.length_append, bl_len]; omega
  have h := take_any g v n (UInt8.ofNat s.size) (bl s ++ r) w hv (by rw [e1, List.length_append, bl_len]; omega)
  rw [e1, e2, e3, e4, mk_bl] at h
  refine h.mono ?_
  rintro e w' ⟨v', rfl, hv', hx⟩
  obtain ⟨A, c, rfl, _⟩ := hv'.form
  exact ⟨A, c, rfl, hv', hx⟩

theorem str_to (P : Program) (t : Nat) (ht : P.underlying t = some .string) (s : ByteArray) (c : Nat) (k : IntKind) (hc : c ≤ s.size) :
    ∃ K : ByteArray, K = s.extract 0 c ∧ K.size = c ∧ ∀ w : World, (Instr.slice t (.string s) none (some (.int k (c : Int))) none).run P w = .ok (.string K) w := by
  refine ⟨_, rfl, by simp; omega, fun w => ?_⟩
  simp [Instr.slice, Instr.sliceBounds, Instr.sliceBound, asIntOf, run_underlying ht]
  intro h; exfalso; omega

theorem srt_take {l : Pairs} (h : Srt l) (i : Nat) : Srt (l.take i) := List.Pairwise.sublist (List.take_sublist _ _) h
theorem kAt_take {l : Pairs} {i j : Nat} (h : j < i) : kAt (l.take i) j = kAt l j := by
  simp [kAt, List.getD_eq_getElem?_getD, List.getElem?_take, h]
theorem srt_lt {l : Pairs} (h : Srt l) {i j : Nat} (hij : i < j) (hj : j < l.length) : klt (kAt l i) (kAt l j) := by
  rw [kAt_eq l i (by omega), kAt_eq l j hj]
  exact List.pairwise_iff_getElem.1 h i j (by omega) hj hij
theorem rk_take {l : Pairs} (h : Srt l) {i : Nat} (hi : i < l.length) : rk (l.take i) (kAt l i) = i := by
  have hl : (l.take i).length = i := by rw [List.length_take]; omega
  have h1 := rk_le (l.take i) (kAt l i)
  rcases Nat.eq_zero_or_pos i with h0 | h0
  · omega
  · have := rk_gt (srt_take h i) (k := kAt l i) (i := i - 1) (by omega) (by rw [kAt_take (by omega)]; exact srt_lt h (by omega) hi)
    omega
theorem has_take {l : Pairs} (h : Srt l) {i : Nat} (hi : i < l.length) : has (l.take i) (kAt l i) = false := by
  unfold has
  rw [rk_take h hi]
  have hl : (l.take i).length = i := by rw [List.length_take]; omega
  rw [decide_eq_false_iff_not, hl]
  omega
theorem take_snoc {l : Pairs} {i : Nat} (hi : i < l.length) : l.take (i + 1) = l.take i ++ [(kAt l i, vAt l i)] := by
  rw [List.take_add_one, List.getElem?_eq_getElem hi, kAt_eq l i hi, vAt_eq l i hi]; rfl
theorem ins_take {l : Pairs} (h : Srt l) {i : Nat} (hi : i < l.length) : ins (l.take i) (rk (l.take i) (kAt l i)) (kAt l i, vAt l i) = l.take (i + 1) := by
  rw [rk_take h hi, take_snoc hi]
  have hl : (l.take i).length = i := by rw [List.length_take]; omega
  simp [ins, List.take_take]
theorem drop_cons {l : Pairs} {i : Nat} (hi : i < l.length) : l.drop i = (kAt l i, vAt l i) :: l.drop (i + 1) := by
  rw [List.drop_eq_getElem_cons hi, kAt_eq l i hi, vAt_eq l i hi]
/-- a prefix and the rest behind it -/
theorem join_prefix (a k : ByteArray) : a.extract 0 (cpS a k) ++ k.extract (cpS a k) k.size = k := by
  have h1 := cpS_le1 a k
  have h2 := cpS_le2 a k
  apply ba_ext
  rw [ByteArray.data_append, Array.toList_append]
  have e1 : (a.extract 0 (cpS a k)).data.toList = (bl a).take (cpS a k) := by simp [bl]
  have e2 : (k.extract (cpS a k) k.size).data.toList = (bl k).drop (cpS a k) := by
    simp [bl]
    exact List.take_of_length_le (by rw [List.length_drop]; simp)
  rw [e1, e2]
  unfold cpS
  rw [cpl_take]
  exact List.take_append_drop _ _

set_option maxHeartbeats 800000 in
/-- bytes.Equal -/
theorem bytesEqual (g1 g2 : Nat) (v1 v2 : Value) (n1 n2 : Nat) (l1 l2 : List UInt8) (w : World) (h1 : Vw w g1 5 1 v1 n1 (bcs l1)) (h2 : Vw w g2 5 1 v2 n2 (bcs l2)) :
    Calls Tryz.prog 101 #[v1, v2] w fun e w' => e = .returned (.bool (decide (l1 = l2))) ∧ w = w' := by
  have c1 := run_str h1
  have c2 := run_str h2
  have hd : (ByteArray.toList ⟨l1.toArray⟩ == ByteArray.toList ⟨l2.toArray⟩) = decide (l1 = l2) := by
    rw [Bool.eq_iff_iff]
    simp [ByteArray.toList_eq]
  obtain ⟨A1, d1, rfl, _⟩ := h1.form
  obtain ⟨A2, d2, rfl, _⟩ := h2.form
  clear h1 h2
  generalize (⟨l1.toArray⟩ : ByteArray) = s1 at *
  generalize (⟨l2.toArray⟩ : ByteArray) = s2 at *
  have HD := Lib.hid hd; clear hd
  go_enter Tryz.func101, Tryz.ntmps101
  go_wp2_with fail
  go_ret
  exact ⟨ret1 (vb HD.out), rfl⟩
end Go.Proofs.YtfadbmfkidiaoaaGreatDoor

namespace Go.Proofs.YtfadbmfkidiaoaaGreatDoor
open Go.RowKit Go

theorem Vw.pos {w : World} {g e sz n c m : Nat} {A : Option Addr} {cs : List Value} (h : Vw w g e sz (.slice A n c) m cs) (h0 : 0 < m) : ∃ o, A = some ⟨g, o, none⟩ ∧ m ≤ c ∧ c ≤ maxLen := by
  cases h with
  | nil => omega
  | at_ _ h1 h2 _ _ => exact ⟨_, rfl, h1, h2⟩
def decR (l : Pairs) (i : Nat) : List UInt8 := encF (lastK ByteArray.empty l i) (l.drop i) ++ fourB (ckN (body l))
def sufK (a k : ByteArray) : ByteArray := k.extract (cpS a k) k.size
theorem sufK_size (a k : ByteArray) : (sufK a k).size = k.size - cpS a k := by simp [sufK]
theorem decR_succ (l : Pairs) (i : Nat) (h : i < l.length) : decR l i = UInt8.ofNat (cpS (lastK ByteArray.empty l i) (kAt l i)) :: (UInt8.ofNat (sufK (lastK ByteArray.empty l i) (kAt l i)).size ::
    (bl (sufK (lastK ByteArray.empty l i) (kAt l i)) ++ (UInt8.ofNat (vAt l i).size :: (bl (vAt l i) ++ decR l (i + 1))))) := by
  unfold decR
  rw [drop_cons h, encF]
  simp only [pairB, lastK, sufK_size]
  simp [sufK]
theorem decR_zero (l : Pairs) : enc l = [84, 76, 1] ++ fourB l.length ++ decR l 0 := by
  unfold enc decR
  rw [lastK, List.drop_zero]
  conv => lhs; arg 1; unfold body
  simp only [List.append_assoc]

set_option maxRecDepth 100000 in
set_option maxHeartbeats 1000000 in
theorem decode_any (g o c : Nat) (l : Pairs) (w : World) (hv : Vw w g 5 1 (.slice (some ⟨g, o, none⟩) (enc l).length c) (enc l).length (bcs (enc l))) (hs : Srt l) (hn : l.length ≤ 400) (hk : ∀ i, i < l.length → 1 ≤ (kAt l i).size ∧ (kAt l i).size ≤ 24) (hv40 : ∀ i, i < l.length → (vAt l i).size ≤ 40) (h8 : 8 ≤ w.heap.size) :
    Calls Tryz.prog 41 #[.slice (some ⟨g, o, none⟩) (enc l).length c] w fun e w' => ∃ b' g', e = .returned (.tuple #[.pointer (some ⟨b', 0, none⟩), .int .i64 0]) ∧ Mdl w' b' g' l ∧ w.heap.size ≤ b' ∧ w.heap.size ≤ g' ∧ Ext [] w w' := by
  have hel := enc_len l (fun i h => (hk i h).2) hv40
  have hlc : (enc l).length ≤ c := by cases hv with | at_ _ h _ _ _ => exact h
  have hcm : c ≤ 9223372036854775807 := by cases hv with | at_ _ _ h _ _ => simpa only [maxLen] using h
  have he11 : 11 ≤ (enc l).length := by simp [enc, body, fourB]
  obtain ⟨A37, a1, a2, a3⟩ := slice_lh T104 (some ⟨g, o, none⟩) (enc l).length c 3 7 (z := 3) (y := 7) rfl rfl (by omega) (by omega)
  obtain ⟨A7, b1, b2, b3⟩ := slice_l T104 (some ⟨g, o, none⟩) (enc l).length c 7 (z := 7) rfl (by omega)
  have v37 := hv.mid 3 7 (by omega) (by omega) a2 a3
  have v7 := hv.tail 7 (by omega) b2 b3
  simp only [bcs_drop, bcs_take] at v37 v7
  have e37 : ((enc l).drop (3 * 1)).take ((7 - 3) * 1) = fourB l.length := by
    rw [decR_zero, List.append_assoc, List.drop_left' (by rfl)]; exact List.take_left' (by rfl)
  have e7 : (enc l).drop (7 * 1) = decR l 0 := by
    rw [decR_zero]; exact List.drop_left' (by rfl)
  have e8 : (enc l).length - 7 = (decR l 0).length := by
    rw [decR_zero]; simp only [List.length_append, fourB, List.length_cons, List.length_nil]; omega
  rw [e37] at v37
  rw [e7, e8] at v7
  rw [e8] at b1
  have hEN := Lib.hid hv
  have hgl : g < w.heap.size := by
    cases hv with | at_ _ _ _ _ hty => obtain ⟨cur, fz, hb⟩ := hty (by omega); exact lt_of_block hb
  clear a2 a3 b2 b3 e37 e7 e8 hv
  generalize hen : (enc l).length = en at *
  have hm0 : Mdl (w.alloc (.cells #[.slice none 0 0] 34)) w.heap.size w.heap.size [] := ⟨⟨_, heap_alloc_new w _, .nil⟩, by simp, h8, h8⟩
  have hx0 : Ext [] w (w.alloc (.cells #[.slice none 0 0] 34)) := (Ext.refl [] w).alloc _
  have v37' := v37.ext hx0 (by simp)
  have v7' := v7.ext hx0 (by simp)
  go_enter Tryz.func41, Tryz.ntmps41
  go_wp2_with fail
  refine (number_any g _ 4 _ _ v37' (by omega)).mono ?_
  rintro e w1 ⟨rfl, rfl⟩
  rw [numB4 _ (by omega)]
  generalize hW : w.alloc (.cells #[.slice none 0 0] 34) = W0 at *
  clear v37 v37' v7 hen
  go_wp2_with fail
  go_loopw [5, 6, 27] (fun rv kv cv wr => ∃ (i : Nat) (A : Option Addr) (c' gm : Nat), cv = .int .u32 i ∧ i ≤ l.length ∧ kv = .string (lastK ByteArray.empty l i) ∧ rv = .slice A (decR l i).length c' ∧ Vw wr g 5 1 (.slice A (decR l i).length c') (decR l i).length (bcs (decR l i)) ∧
    Mdl wr w.heap.size gm (l.take i) ∧ w.heap.size ≤ gm ∧ Ext [] w wr) (fun _ _ cv _ => l.length - (intOf cv).toNat)
  case atStart => exact ⟨0, A7, c - 7, w.heap.size, rfl, by omega, rfl, rfl, v7', hm0, Nat.le_refl _, hx0⟩
  case round =>
    obtain ⟨i, A, c', gm, rfl, hi, rfl, rfl, hvr, hm, hgm, hx⟩ := hrel
    by_cases hlt : i < l.length
    · have hD := decR_succ l i hlt
      obtain ⟨hk1, hk2⟩ := hk i hlt
      have hv2 := hv40 i hlt
      have hins := ins_take hs hlt
      have hhas := has_take hs hlt
      have hst := srt_take hs i
      have hcp1 := cpS_le1 (lastK ByteArray.empty l i) (kAt l i)
      have hcp2 := cpS_le2 (lastK ByteArray.empty l i) (kAt l i)
      have hjp := join_prefix (lastK ByteArray.empty l i) (kAt l i)
      have hss := sufK_size (lastK ByteArray.empty l i) (kAt l i)
      obtain ⟨K0, hK0, hK0s, hsl⟩ := str_to Tryz.prog 9 Tryz.underlying9 (lastK ByteArray.empty l i) (cpS (lastK ByteArray.empty l i) (kAt l i)) .u8 hcp1
      rw [← hK0] at hjp
      change K0 ++ sufK (lastK ByteArray.empty l i) (kAt l i) = kAt l i at hjp
      generalize sufK (lastK ByteArray.empty l i) (kAt l i) = suf at *
      generalize hcpe : cpS (lastK ByteArray.empty l i) (kAt l i) = cp at *
      have hdl : (decR l i).length = 1 + (1 + (suf.size + (1 + ((vAt l i).size + (decR l (i + 1)).length)))) := by
        rw [hD]; simp only [List.length_cons, List.length_append, bl_len]; omega
      obtain ⟨or, rfl, hnr, hcr⟩ := hvr.pos (by omega)
      have hb0 := hvr.byte 0 (by omega)
      rw [Nat.add_zero] at hb0
      have hbv : bAt (decR l i) 0 = (cp : Int) := by rw [hD]; simp [bAt]; omega
      rw [hbv] at hb0
      have hcr' : c' ≤ 9223372036854775807 := by simpa only [maxLen] using hcr
      obtain ⟨A1, c1, c2, c3⟩ := slice_l T104 (some ⟨g, or, none⟩) (decR l i).length c' 1 (z := 1) rfl (by omega)
      have vt := hvr.tail 1 (by omega) c2 c3
      rw [bcs_drop] at vt
      have e4 : (decR l i).drop (1 * 1) = UInt8.ofNat suf.size :: (bl suf ++ (UInt8.ofNat (vAt l i).size :: (bl (vAt l i) ++ decR l (i + 1)))) := by rw [hD]; rfl
      rw [e4] at vt
      have hdz : ((((decR l i).length : Nat) : Int) == 0) = false := by rw [beq_eq_false_iff_ne]; omega
      have hcz : decide ((cp : Int) > ((lastK ByteArray.empty l i).size : Int)) = false := by simp; omega
      have hlen24 := lastK_len l (fun j h => (hk j h).2) i hi
      have HN := Lib.hid hins
      have HS := Lib.hid hst
      have HH := Lib.hid hhas
      have HX := Lib.hid hx
      generalize hkk : kAt l i = k at *
      generalize hvv : vAt l i = v at *
      generalize hlk : lastK ByteArray.empty l i = a at *
      generalize hll : (decR l i).length = dl at *
      have hdp : 1 ≤ dl := by omega
      have hs24 : suf.size ≤ 24 := by omega
      have HD := Lib.hid hdl
      clear hdl hss hll
      clear c2 c3 e4 hbv hvr hD hins hhas hst hk hv40 hK0 hx
      go_wp2_with fail
      refine (take_str g _ _ suf _ _ (by omega) vt).mono ?_
      rintro e w1 ⟨At, ct, rfl, hvt, hx1⟩
      generalize (UInt8.ofNat v.size :: (bl v ++ decR l (i + 1))).length = m1 at hvt ⊢
      go_wp2_with fail
      refine (take_str g _ _ v _ _ (by omega) hvt).mono ?_
      rintro e w2 ⟨Au, cu, rfl, hvu, hx2⟩
      generalize hm2e : (decR l (i + 1)).length = m2 at hvu ⊢
      have HM2 := Lib.hid hm2e; clear hm2e
      have hm2 := (hm.ext hx1 (by simp) (by simp)).ext hx2 (by simp) (by simp)
      have hlt20 : (l.take i).length < 20000 := by rw [List.length_take]; omega
      go_wp2_with (go_at_call 103; refine (insert_new _ gm (l.take i) k v _ hm2 hlt20 HS.out hk1 hk2 hv2 HH.out).mono ?_; rintro e w3 ⟨rfl, gm', hm3, hgm3, hx3⟩)
      have hx12 := hx1.trans hx2
      have hsw := HX.out.size
      have hsw2 := hx12.size
      go_roundw
      case rel =>
        refine ⟨i + 1, Au, cu, gm', by go_num, by omega, by rw [lastK, hkk], by rw [HM2.out], ?_, by rw [← HN.out]; exact hm3, by omega, (HX.out.trans hx12).step hx3 (by simp; omega)⟩
        rw [HM2.out]
        exact hvu.ext hx3 (by simp; omega)
      case measure => simp [intOf]; omega
    · obtain rfl : i = l.length := by omega
      rw [List.take_length] at hm
      have hv0 := hEN.out.ext hx (by simp)
      have hsw := hx.size
      have HX := Lib.hid hx; clear hx hvr
      have hg8 := hm.lo'
      go_wp2_with fail
      refine (encode_any _ gm l _ hm hn (fun i h => (hk i h).2) hv40).mono ?_
      rintro e w1 ⟨ge, ve, rfl, hre, hge, hx1⟩
      obtain ⟨Ae, ce, rfl, _, _⟩ := hre.form
      have hm1 := hm.ext hx1 (by simp) (by simp)
      have hve := hre.vw
      have hv1 := hv0.ext hx1 (by simp)
      clear hre
      generalize (enc l).length = len2 at hve ⊢
      go_wp2_with (go_at_call 101; refine (bytesEqual _ _ _ _ _ _ _ _ _ hve hv1).mono ?_; rintro e w2 ⟨rfl, rfl⟩)
      go_ret2
      exact ⟨_, gm, ret2 rfl rfl, hm1, Nat.le_refl _, hgm, HX.out.trans hx1⟩
end Go.Proofs.YtfadbmfkidiaoaaGreatDoor

namespace Go.Proofs.YtfadbmfkidiaoaaGreatDoor
open Go.RowKit Go

structure Bld (w : World) (b g : Nat) (L : List UInt8) : Prop where
  blk : ∃ p v, (p = .pointer none ∨ p = .pointer (some ⟨b, 0, none⟩)) ∧ w.heap[b]? = some (.cells #[p, v] 189 (0, 0)) ∧ Row w g 5 1 v L.length (bcs L)
  ne : g ≠ b

theorem bldFacts (b : Nat) (p v : Value) (w : World) (hb : w.heap[b]? = some (.cells #[p, v] 189 (0, 0))) :
    (convert 187 260 (.pointer (some ⟨b, 0, none⟩))).run Tryz.prog w = .ok (.pointer (some ⟨b, 0, none⟩)) w ∧
    (convert 260 187 (.pointer (some ⟨b, 0, none⟩))).run Tryz.prog w = .ok (.pointer (some ⟨b, 0, none⟩)) w ∧
    (binOp .neq 187 (.pointer (some ⟨b, 0, none⟩)) (.pointer (some ⟨b, 0, none⟩))).run Tryz.prog w = .ok (.bool false) w := by
  have h : (Tryz.prog.info? 189).map (fun i => (i.zero, i.size, i.bytes)) = some (some (.agg #[.pointer none, .slice none 0 0]), 2, 32) := by kernel_rfl
  obtain ⟨j, hj, _, hjs, _⟩ := info_parts h
  have hsh : w.shape? b = some (189, 2) := by simp [World.shape?, hb]
  refine ⟨Lib.run_to_unsafe w ⟨b, 0, none⟩ Tryz.underlying187 Tryz.underlying260 hj (by rw [hjs]; decide) hsh (Nat.zero_lt_succ 1),
    Lib.run_from_unsafe w ⟨b, 0, none⟩ Tryz.underlying260 Tryz.underlying187 hj hsh (by kernel_rfl), Lib.run_neq_ptr_same w _ Tryz.underlying187 hj⟩

set_option maxRecDepth 100000 in
set_option maxHeartbeats 800000 in
theorem copyCheck_any (b : Nat) (p v : Value) (w : World) (hp : p = .pointer none ∨ p = .pointer (some ⟨b, 0, none⟩)) (hb : w.heap[b]? = some (.cells #[p, v] 189 (0, 0))) :
    Calls Tryz.prog 145 #[.pointer (some ⟨b, 0, none⟩)] w fun e w' => e = .returned (.tuple #[]) ∧ w'.heap[b]? = some (.cells #[.pointer (some ⟨b, 0, none⟩), v] 189 (0, 0)) ∧ Ext [b] w w' := by
  have c0 : w.cell? ⟨b, 0, none⟩ = some p := cell_of_row w b 0 _ _ _ hb
  have f0 : w.frozen? ⟨b, 0, none⟩ = false := frozen_of_row w b 0 _ _ hb
  obtain ⟨h1, h2, h3⟩ := bldFacts b p v w hb
  rcases hp with rfl | rfl
  · have hse := Lib.run_noEscape (P := Tryz.prog)
    have hb2 := heap_setCell_same w b 0 #[.pointer none, v] 189 (.pointer (some ⟨b, 0, none⟩)) hb
    have hx : Ext [b] w (w.setCell ⟨b, 0, none⟩ (.pointer (some ⟨b, 0, none⟩))) := (Ext.refl [b] w).setCell (.inl (by simp)) _
    have HB := Lib.hid hb2; clear hb2 hb
    go_enter Tryz.func145, Tryz.ntmps145
    go_wp2_with fail
    rw [run_callFunc_extern Tryz.func187 (by kernel_rfl) (by kernel_rfl) (by kernel_rfl) (e := Extern.AbiNoEscape.same) (by kernel_rfl)]
    rw [Lib.run_noEscape]
    simp only [Result.andThen]
    rw [Oper.upon_value]
    go_wp2_with fail
    go_end0
    exact ⟨rfl, HB.out, hx⟩
  · go_enter Tryz.func145, Tryz.ntmps145
    go_wp2_with fail
    go_end0
    exact ⟨rfl, hb, Ext.refl _ _⟩

theorem bld_store {w w1 w3 : World} {b g g3 c3 m : Nat} {v : Value} {L M : List UInt8} (hx1 : Ext [b] w w1) (hb3 : w3.heap[b]? = some (.cells #[.pointer (some ⟨b, 0, none⟩), v] 189 (0, 0))) (hx3 : Ext [g] w1 w3) (hne : g ≠ b) (hbl : b < w1.heap.size) (hg3 : g3 = g ∨ w1.heap.size ≤ g3)
    (hr3 : Row w3 g3 5 1 (.slice (some ⟨g3, 0, none⟩) m c3) m (bcs L ++ bcs M)) :
    Bld (w3.setCell ⟨b, 1, none⟩ (.slice (some ⟨g3, 0, none⟩) m c3)) b g3 (L ++ M) ∧ (g3 = g ∨ w.heap.size ≤ g3) ∧ Ext [b, g] w (w3.setCell ⟨b, 1, none⟩ (.slice (some ⟨g3, 0, none⟩) m c3)) := by
  have s1 := hx1.size
  have hxe : Ext [b] w3 (w3.setCell ⟨b, 1, none⟩ (.slice (some ⟨g3, 0, none⟩) m c3)) := (Ext.refl [b] w3).setCell (.inl (by simp)) _
  have hm : (L ++ M).length = m := by
    have := hr3.vw.len; rw [← bcs_append, bcs_len] at this; omega
  refine ⟨⟨⟨_, _, .inr rfl, heap_setCell_same w3 b 1 _ 189 _ hb3, ?_⟩, by omega⟩, by omega, ((hx1.mono (by simp)).trans (hx3.mono (by simp))).trans (hxe.mono (by simp))⟩
  rw [hm, bcs_append]
  exact hr3.ext hxe (by simp; omega)

set_option maxRecDepth 100000 in
set_option maxHeartbeats 800000 in
theorem writeByte_any (b g : Nat) (L : List UInt8) (c : UInt8) (w : World) (h : Bld w b g L) (hn : L.length ≤ 1000000) :
    Calls Tryz.prog 146 #[.pointer (some ⟨b, 0, none⟩), .int .u8 (c.toNat : Int)] w fun e w' => e = .returned .nilIface ∧ ∃ g', Bld w' b g' (L ++ [c]) ∧ (g' = g ∨ w.heap.size ≤ g') ∧ Ext [b, g] w w' := by
  obtain ⟨⟨p, v, hp, hb, hr⟩, hne⟩ := h
  go_enter Tryz.func146, Tryz.ntmps146
  go_wp2_with fail
  refine (copyCheck_any b p v w hp hb).mono ?_
  rintro e w1 ⟨rfl, hb1, hx1⟩
  have hr1 := hr.ext hx1 (by simpa using hne)
  have hc1 : w1.cell? ⟨b, 1, none⟩ = some v := cell_of_row w1 b 1 _ _ _ hb1
  obtain ⟨A, cc, rfl, _, _⟩ := hr.form
  have hr2 := hr1.ext ((Ext.refl [] w1).alloc (.cells #[.int .u8 (c.toNat : Int)] 5)) (by simp)
  have hn1 := lit_new w1 #[.int .u8 (c.toNat : Int)] [c] 1 rfl rfl (by omega)
  have hbl := lt_of_block hb1
  have hnm : ¬ b ∈ [g] := by simpa using Ne.symm hne
  go_wp2_with (with_reducible refine wpList_append T104 rfl (.tmp 11) (.tmp 13) rfl rfl rfl hr2 hn1.vw (bcs_one _) (by omega) (by omega) ?_; rintro g3 A3 c3 w3 hr3 hx3 hg3 hA3 _ _; obtain rfl := hA3 (by omega); have hb3 := colKeep hb1 hnm hx3; have hc3 := cell_of_row w3 b 1 _ _ _ hb3; have hf3 := frozen_of_row w3 b 1 _ _ hb3)
  go_ret
  have hx13 : Ext [g] w1 w3 := ((Ext.refl [g] w1).alloc _).trans hx3
  simp only [World.size_alloc] at hg3
  exact ⟨rfl, g3, bld_store hx1 hb3 hx13 hne hbl (by omega) hr3⟩

set_option maxRecDepth 100000 in
set_option maxHeartbeats 800000 in
theorem writeString_any (b g : Nat) (L : List UInt8) (s : ByteArray) (w : World) (h : Bld w b g L) (hn : L.length ≤ 1000000) (hs : s.size ≤ 1000000) (h0 : 0 < s.size) :
    Calls Tryz.prog 104 #[.pointer (some ⟨b, 0, none⟩), .string s] w fun e w' => e = .returned (.tuple #[.int .i64 s.size, .nilIface]) ∧ ∃ g', Bld w' b g' (L ++ bl s) ∧ (g' = g ∨ w.heap.size ≤ g') ∧ Ext [b, g] w w' := by
  obtain ⟨⟨p, v, hp, hb, hr⟩, hne⟩ := h
  go_enter Tryz.func104, Tryz.ntmps104
  go_wp2_with fail
  refine (copyCheck_any b p v w hp hb).mono ?_
  rintro e w1 ⟨rfl, hb1, hx1⟩
  have hr1 := hr.ext hx1 (by simpa using hne)
  have hc1 : w1.cell? ⟨b, 1, none⟩ = some v := cell_of_row w1 b 1 _ _ _ hb1
  obtain ⟨A, cc, rfl, _, _⟩ := hr.form
  have hbl := lt_of_block hb1
  have hnm : ¬ b ∈ [g] := by simpa using Ne.symm hne
  go_wp2_with (with_reducible refine wpList_append_str T104 9 Tryz.underlying9 rfl (.tmp 12) (.tmp 13) rfl rfl rfl hr1 (by omega) ?_; rintro g3 A3 c3 w3 hr3 hx3 hg3 hA3 _; obtain rfl := hA3 (by omega); have hb3 := hx3.keep hb1 hnm; have hc3 := cell_of_row w3 b 1 _ _ _ hb3; have hf3 := frozen_of_row w3 b 1 _ _ hb3)
  go_ret2
  exact ⟨rfl, g3, bld_store hx1 hb3 hx3 hne hbl (by omega) hr3⟩
end Go.Proofs.YtfadbmfkidiaoaaGreatDoor
