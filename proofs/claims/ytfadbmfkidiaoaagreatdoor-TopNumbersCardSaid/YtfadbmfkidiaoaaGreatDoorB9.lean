/- Bytes read as a map. -/
import Derived.Test.YtfadbmfkidiaoaaGreatDoorB8
namespace Go.Proofs.YtfadbmfkidiaoaaGreatDoor
open Go.RowKit Go

theorem Vw.pos {w : World} {g e sz n c m : Nat} {A : Option Addr} {cs : List Value} (h : Vw w g e sz (.slice A n c) m cs) (h0 : 0 < m) : ∃ o, A = some ⟨g, o, none⟩ ∧ m ≤ c ∧ c ≤ maxLen := by
  cases h with
  | nil => omega
  | at_ _ h1 h2 _ _ => exact ⟨_, rfl, h1, h2⟩
def decR (l : Pairs) (i : Nat) : List UInt8 := encF (lastK ByteArray.empty l i) (l.drop i) ++ fourB (ckN (body l))
def sufK (a k : ByteArray) : ByteArray := k.extract (cpS a k) k.size
theorem sufK_size (a k : ByteArray) : (sufK a k).size = k.size - cpS a k := by simp [sufK]
theorem decR_succ (l : Pairs) (i : Nat) (h : i < l.length) : decR l i = UInt8.ofNat (cpS (lastK ByteArray.empty l i) (kAt l i)) :: (UInt8.ofNat (sufK (lastK ByteArray.empty l i) (kAt l i)).size ::
    (bl (sufK (lastK ByteArray.empty l i) (kAt l i)) ++ (UInt8.ofNat (vAt l i).size :: (bl (vAt l i) ++ decR l (i + 1))))) := by
  unfold decR
  rw [drop_cons h, encF]
  simp only [pairB, lastK, sufK_size]
  simp [sufK]
theorem decR_zero (l : Pairs) : enc l = [84, 76, 1] ++ fourB l.length ++ decR l 0 := by
  unfold enc decR
  rw [lastK, List.drop_zero]
  conv => lhs; arg 1; unfold body
  simp only [List.append_assoc]

set_option maxRecDepth 100000 in
set_option maxHeartbeats 1000000 in
theorem decode_any (g o c : Nat) (l : Pairs) (w : World) (hv : Vw w g 5 1 (.slice (some ⟨g, o, none⟩) (enc l).length c) (enc l).length (bcs (enc l))) (hs : Srt l) (hn : l.length ≤ 400) (hk : ∀ i, i < l.length → 1 ≤ (kAt l i).size ∧ (kAt l i).size ≤ 24) (hv40 : ∀ i, i < l.length → (vAt l i).size ≤ 40) (h8 : 8 ≤ w.heap.size) :
    Calls Tryz.prog 41 #[.slice (some ⟨g, o, none⟩) (enc l).length c] w fun e w' => ∃ b' g', e = .returned (.tuple #[.pointer (some ⟨b', 0, none⟩), .int .i64 0]) ∧ Mdl w' b' g' l ∧ w.heap.size ≤ b' ∧ w.heap.size ≤ g' ∧ Ext [] w w' := by
  have hel := enc_len l (fun i h => (hk i h).2) hv40
  have hlc : (enc l).length ≤ c := by cases hv with | at_ _ h _ _ _ => exact h
  have hcm : c ≤ 9223372036854775807 := by cases hv with | at_ _ _ h _ _ => simpa only [maxLen] using h
  have he11 : 11 ≤ (enc l).length := by simp [enc, body, fourB]
  obtain ⟨A37, a1, a2, a3⟩ := slice_lh T104 (some ⟨g, o, none⟩) (enc l).length c 3 7 (z := 3) (y := 7) rfl rfl (by omega) (by omega)
  obtain ⟨A7, b1, b2, b3⟩ := slice_l T104 (some ⟨g, o, none⟩) (enc l).length c 7 (z := 7) rfl (by omega)
  have v37 := hv.mid 3 7 (by omega) (by omega) a2 a3
  have v7 := hv.tail 7 (by omega) b2 b3
  simp only [bcs_drop, bcs_take] at v37 v7
  have e37 : ((enc l).drop (3 * 1)).take ((7 - 3) * 1) = fourB l.length := by
    rw [decR_zero, List.append_assoc, List.drop_left' (by rfl)]; exact List.take_left' (by rfl)
  have e7 : (enc l).drop (7 * 1) = decR l 0 := by
    rw [decR_zero]; exact List.drop_left' (by rfl)
  have e8 : (enc l).length - 7 = (decR l 0).length := by
    rw [decR_zero]; simp only [List.length_append, fourB, List.length_cons, List.length_nil]; omega
  rw [e37] at v37
  rw [e7, e8] at v7
  rw [e8] at b1
  have hEN := Lib.hid hv
  have hgl : g < w.heap.size := by
    cases hv with | at_ _ _ _ _ hty => obtain ⟨cur, fz, hb⟩ := hty (by omega); exact lt_of_block hb
  clear a2 a3 b2 b3 e37 e7 e8 hv
  generalize hen : (enc l).length = en at *
  have hm0 : Mdl (w.alloc (.cells #[.slice none 0 0] 34)) w.heap.size w.heap.size [] := ⟨⟨_, heap_alloc_new w _, .nil⟩, by simp, h8, h8⟩
  have hx0 : Ext [] w (w.alloc (.cells #[.slice none 0 0] 34)) := (Ext.refl [] w).alloc _
  have v37' := v37.ext hx0 (by simp)
  have v7' := v7.ext hx0 (by simp)
  go_enter Tryz.func41, Tryz.ntmps41
  go_wp2_with fail
  refine (number_any g _ 4 _ _ v37' (by omega)).mono ?_
  rintro e w1 ⟨rfl, rfl⟩
  rw [numB4 _ (by omega)]
  generalize hW : w.alloc (.cells #[.slice none 0 0] 34) = W0 at *
  clear v37 v37' v7 hen
  go_wp2_with fail
  go_loopw [5, 6, 27] (fun rv kv cv wr => ∃ (i : Nat) (A : Option Addr) (c' gm : Nat), cv = .int .u32 i ∧ i ≤ l.length ∧ kv = .string (lastK ByteArray.empty l i) ∧ rv = .slice A (decR l i).length c' ∧ Vw wr g 5 1 (.slice A (decR l i).length c') (decR l i).length (bcs (decR l i)) ∧
    Mdl wr w.heap.size gm (l.take i) ∧ w.heap.size ≤ gm ∧ Ext [] w wr) (fun _ _ cv _ => l.length - (intOf cv).toNat)
  case atStart => exact ⟨0, A7, c - 7, w.heap.size, rfl, by omega, rfl, rfl, v7', hm0, Nat.le_refl _, hx0⟩
  case round =>
    obtain ⟨i, A, c', gm, rfl, hi, rfl, rfl, hvr, hm, hgm, hx⟩ := hrel
    by_cases hlt : i < l.length
    · have hD := decR_succ l i hlt
      obtain ⟨hk1, hk2⟩ := hk i hlt
      have hv2 := hv40 i hlt
      have hins := ins_take hs hlt
      have hhas := has_take hs hlt
      have hst := srt_take hs i
      have hcp1 := cpS_le1 (lastK ByteArray.empty l i) (kAt l i)
      have hcp2 := cpS_le2 (lastK ByteArray.empty l i) (kAt l i)
      have hjp := join_prefix (lastK ByteArray.empty l i) (kAt l i)
      have hss := sufK_size (lastK ByteArray.empty l i) (kAt l i)
      obtain ⟨K0, hK0, hK0s, hsl⟩ := str_to Tryz.prog 9 Tryz.underlying9 (lastK ByteArray.empty l i) (cpS (lastK ByteArray.empty l i) (kAt l i)) .u8 hcp1
      rw [← hK0] at hjp
      change K0 ++ sufK (lastK ByteArray.empty l i) (kAt l i) = kAt l i at hjp
      generalize sufK (lastK ByteArray.empty l i) (kAt l i) = suf at *
      generalize hcpe : cpS (lastK ByteArray.empty l i) (kAt l i) = cp at *
      have hdl : (decR l i).length = 1 + (1 + (suf.size + (1 + ((vAt l i).size + (decR l (i + 1)).length)))) := by
        rw [hD]; simp only [List.length_cons, List.length_append, bl_len]; omega
      obtain ⟨or, rfl, hnr, hcr⟩ := hvr.pos (by omega)
      have hb0 := hvr.byte 0 (by omega)
      rw [Nat.add_zero] at hb0
      have hbv : bAt (decR l i) 0 = (cp : Int) := by rw [hD]; simp [bAt]; omega
      rw [hbv] at hb0
      have hcr' : c' ≤ 9223372036854775807 := by simpa only [maxLen] using hcr
      obtain ⟨A1, c1, c2, c3⟩ := slice_l T104 (some ⟨g, or, none⟩) (decR l i).length c' 1 (z := 1) rfl (by omega)
      have vt := hvr.tail 1 (by omega) c2 c3
      rw [bcs_drop] at vt
      have e4 : (decR l i).drop (1 * 1) = UInt8.ofNat suf.size :: (bl suf ++ (UInt8.ofNat (vAt l i).size :: (bl (vAt l i) ++ decR l (i + 1)))) := by rw [hD]; rfl
      rw [e4] at vt
      have hdz : ((((decR l i).length : Nat) : Int) == 0) = false := by rw [beq_eq_false_iff_ne]; omega
      have hcz : decide ((cp : Int) > ((lastK ByteArray.empty l i).size : Int)) = false := by simp; omega
      have hlen24 := lastK_len l (fun j h => (hk j h).2) i hi
      have HN := Lib.hid hins
      have HS := Lib.hid hst
      have HH := Lib.hid hhas
      have HX := Lib.hid hx
      generalize hkk : kAt l i = k at *
      generalize hvv : vAt l i = v at *
      generalize hlk : lastK ByteArray.empty l i = a at *
      generalize hll : (decR l i).length = dl at *
      have hdp : 1 ≤ dl := by omega
      have hs24 : suf.size ≤ 24 := by omega
      have HD := Lib.hid hdl
      clear hdl hss hll
      clear c2 c3 e4 hbv hvr hD hins hhas hst hk hv40 hK0 hx
      go_wp2_with fail
      refine (take_str g _ _ suf _ _ (by omega) vt).mono ?_
      rintro e w1 ⟨At, ct, rfl, hvt, hx1⟩
      generalize (UInt8.ofNat v.size :: (bl v ++ decR l (i + 1))).length = m1 at hvt ⊢
      go_wp2_with fail
      refine (take_str g _ _ v _ _ (by omega) hvt).mono ?_
      rintro e w2 ⟨Au, cu, rfl, hvu, hx2⟩
      generalize hm2e : (decR l (i + 1)).length = m2 at hvu ⊢
      have HM2 := Lib.hid hm2e; clear hm2e
      have hm2 := (hm.ext hx1 (by simp) (by simp)).ext hx2 (by simp) (by simp)
      have hlt20 : (l.take i).length < 20000 := by rw [List.length_take]; omega
      go_wp2_with (go_at_call 103; refine (insert_new _ gm (l.take i) k v _ hm2 hlt20 HS.out hk1 hk2 hv2 HH.out).mono ?_; rintro e w3 ⟨rfl, gm', hm3, hgm3, hx3⟩)
      have hx12 := hx1.trans hx2
      have hsw := HX.out.size
      have hsw2 := hx12.size
      go_roundw
      case rel =>
        refine ⟨i + 1, Au, cu, gm', by go_num, by omega, by rw [lastK, hkk], by rw [HM2.out], ?_, by rw [← HN.out]; exact hm3, by omega, (HX.out.trans hx12).step hx3 (by simp; omega)⟩
        rw [HM2.out]
        exact hvu.ext hx3 (by simp; omega)
      case measure => simp [intOf]; omega
    · obtain rfl : i = l.length := by omega
      rw [List.take_length] at hm
      have hv0 := hEN.out.ext hx (by simp)
      have hsw := hx.size
      have HX := Lib.hid hx; clear hx hvr
      have hg8 := hm.lo'
      go_wp2_with fail
      refine (encode_any _ gm l _ hm hn (fun i h => (hk i h).2) hv40).mono ?_
      rintro e w1 ⟨ge, ve, rfl, hre, hge, hx1⟩
      obtain ⟨Ae, ce, rfl, _, _⟩ := hre.form
      have hm1 := hm.ext hx1 (by simp) (by simp)
      have hve := hre.vw
      have hv1 := hv0.ext hx1 (by simp)
      clear hre
      generalize (enc l).length = len2 at hve ⊢
      go_wp2_with (go_at_call 101; refine (bytesEqual _ _ _ _ _ _ _ _ _ hve hv1).mono ?_; rintro e w2 ⟨rfl, rfl⟩)
      go_ret2
      exact ⟨_, gm, ret2 rfl rfl, hm1, Nat.le_refl _, hgm, HX.out.trans hx1⟩
end Go.Proofs.YtfadbmfkidiaoaaGreatDoor
