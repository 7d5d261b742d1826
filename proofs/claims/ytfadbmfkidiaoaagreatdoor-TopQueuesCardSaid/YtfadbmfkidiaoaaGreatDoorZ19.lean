/- A map carried through the pieces of a backup and its text. -/
import Derived.Test.YtfadbmfkidiaoaaGreatDoorZ18
namespace Go.Proofs.YtfadbmfkidiaoaaGreatDoor
open Go.RowKit Go

theorem getD_reverse {α : Type} (l : List α) (d : α) (i n : Nat) (hn : l.length = n) (hi : i < n) : l.reverse.getD i d = l.getD (n - 1 - i) d := by
  rw [List.getD_eq_getElem?_getD, List.getD_eq_getElem?_getD, List.getElem?_reverse (by omega), hn]
theorem Slcs.rev {w : World} {lo : Nat} {vs : List Value} {L : List (List UInt8)} (h : Slcs w lo vs L) : Slcs w lo vs.reverse L.reverse := by
  refine ⟨by simp [h.1], fun i hi => ?_⟩
  simp only [List.length_reverse] at hi
  rw [getD_reverse vs undef i L.length h.1 hi, getD_reverse L [] i L.length rfl hi]
  exact h.2 (L.length - 1 - i) (by omega)
theorem Slcs.low {w : World} {lo lo' : Nat} {vs : List Value} {L : List (List UInt8)} (h : Slcs w lo vs L) (hl : lo' ≤ lo) : Slcs w lo' vs L :=
  ⟨h.1, fun i hi => by obtain ⟨gi, cur, fz, h1, h2⟩ := h.2 i hi; exact ⟨gi, cur, fz, by omega, h2⟩⟩
theorem rev_snoc {α : Type} (l : List α) (d : α) (k n : Nat) (hn : l.length = n) (hk : k < n) : l.reverse.take (k + 1) = l.reverse.take k ++ [l.getD (n - 1 - k) d] := by
  have hl : k < l.reverse.length := by simp; omega
  rw [List.take_add_one, List.getElem?_eq_getElem hl]
  have := getD_reverse l d k n hn hk
  rw [List.getD_eq_getElem?_getD, List.getElem?_eq_getElem hl] at this
  rw [← this]; rfl

set_option maxRecDepth 100000 in
set_option maxHeartbeats 2000000 in
theorem carried_any (b g : Nat) (l : Pairs) (s : Nat) (w : World) (hm : Mdl w b g l) (hs : Srt l) (hn : l.length ≤ 400) (hk : ∀ i, i < l.length → 1 ≤ (kAt l i).size ∧ (kAt l i).size ≤ 24) (hv : ∀ i, i < l.length → (vAt l i).size ≤ 40) (hs1 : 1 ≤ s) (hs2 : s ≤ 65536) :
    Calls Tryz.prog 11 #[.pointer (some ⟨b, 0, none⟩), .int .i64 s] w (Copied l w) := by
  have hS := Lib.hid hs; clear hs
  have hel := enc_len l (fun i h => (hk i h).2) hv
  have he11 : 11 ≤ (enc l).length := by simp [enc, body, fourB]
  have h8 : 8 ≤ w.heap.size := by have := hm.lt; have := hm.lo'; omega
  go_enter Tryz.func11, Tryz.ntmps11
  go_wp2_with fail
  refine (encode_any b g l w hm hn (fun i h => (hk i h).2) hv).mono ?_
  rintro e w1 ⟨g1, v1, rfl, hr1, hg1, hx1⟩
  obtain ⟨A1, c1, rfl, hA1, _⟩ := hr1.form
  obtain rfl := hA1 (by omega)
  have hm1 := hm.ext hx1 (by simp) (by simp)
  have hv1 := hr1.vw
  clear hr1
  have hN : nCh (enc l).length s ≤ (enc l).length := by
    have : ¬ (enc l).length < nCh (enc l).length s := fun h => by have := (nCh_lt hs1).1 h; have := Nat.le_mul_of_pos_right (enc l).length hs1; omega
    omega
  have hN0 : 0 < nCh (enc l).length s := (nCh_lt hs1).2 (by omega)
  go_wp2_with fail
  refine (cut_any g1 0 c1 s (enc l) w1 hv1 (by omega) (by omega) hs1 hs2).mono ?_
  rintro e w2 ⟨g2, v2, vs, rfl, hr2, hsl, hg2, hx2⟩
  obtain ⟨A2, c2, rfl, hA2, _⟩ := hr2.form
  obtain rfl := hA2 hN0
  have hm2 := hm1.ext hx2 (by simp) (by simp)
  have hv2 := hr2.vw
  have hx02 := hx1.trans hx2
  have hg2l : g2 < w2.heap.size := by
    cases hr2 with | at_ cur _ _ _ hb _ _ => exact lt_of_block hb
  have hvl : vs.length = nCh (enc l).length s := by have := hr2.len; omega
  have hpl : (piecesL (enc l) s (nCh (enc l).length s)).length = nCh (enc l).length s := by simp [piecesL]
  have h1v : ∀ i, i < nCh (enc l).length s → ∃ A n c, vs.getD i undef = .slice A n c := fun i hi => by
    obtain ⟨gi, cur, fz, _, _, _, o, c, h⟩ := hsl.2 i (by omega)
    exact ⟨_, _, _, h⟩
  generalize hNN : nCh (enc l).length s = N at *
  clear hr2 hv1 hm1 hx1 hx2
  go_wp2_with fail
  go_loopw [8, 9] (fun ov iv wl => ∃ (k : Nat) (A : Option Addr) (c' go : Nat), iv = .int .i64 ((N : Int) - 1 - k) ∧ k ≤ N ∧ ov = .slice A k c' ∧ Row wl go 104 1 (.slice A k c') k (vs.reverse.take k) ∧ w2.heap.size ≤ go ∧ Ext [] w2 wl) (fun _ iv _ => (intOf iv + 1).toNat)
  case atStart => exact ⟨0, none, 0, w2.heap.size, by simp, by omega, rfl, .nil, Nat.le_refl _, Ext.refl _ _⟩
  case round =>
    obtain ⟨k, A, c', go, rfl, hkN, rfl, hro, hgo, hx⟩ := hrel
    by_cases hlt : k < N
    · have hvr := hv2.ext hx (by simp)
      have hz0 : decide ((N : Int) - 1 - k ≥ 0) = true := by simp; omega
      have hcast : (N : Int) - 1 - k = ((N - 1 - k : Nat) : Int) := by omega
      have hc : wr.cell? ⟨g2, N - 1 - k, none⟩ = some (vs.getD (N - 1 - k) undef) := by
        cases hvr with
        | at_ hl _ _ hcell _ =>
          have h := hcell (N - 1 - k) (vs.getD (N - 1 - k) undef) (by
            have : N - 1 - k < vs.length := by omega
            simp [this])
          rwa [Nat.zero_add] at h
      obtain ⟨Ak, nk, ck, hch⟩ := h1v (N - 1 - k) (by omega)
      have hsn := rev_snoc vs undef k N hvl hlt
      rw [hch] at hc hsn
      have HS := Lib.hid hsn
      have hro1 := fun o => hro.ext ((Ext.refl [] wr).alloc o) (by simp)
      clear hvr hsn hch hz0
      rw [hcast]
      have HC := Lib.hid hcast; clear hcast
      generalize hj : N - 1 - k = j at *
      have HJ := Lib.hid hj
      have hjN : j < N := by omega
      clear hj
      go_wp2_with (with_reducible refine wpList_append T107 rfl (.tmp 37) (.tmp 42) rfl rfl rfl (hro1 _) (slc_new _ _).vw (by simp [Value.oneCell']) (by omega) (by omega) ?_; rintro g9 A9 c9 w9 hr9 hx9 hg9 hA9 _ _; obtain rfl := hA9 (by omega))
      have hxa : Ext [go] wr w9 := ((Ext.refl [go] wr).alloc _).trans hx9
      simp only [World.size_alloc] at hg9
      have hsw := hx.size
      go_roundw
      case rel =>
        refine ⟨k + 1, _, c9, g9, vi (by have := HC.out; omega), by omega, rfl, by rw [HS.out]; exact hr9, by omega, hx.step hxa (by simp; omega)⟩
      case measure =>
        have := HC.out
        simp [intOf]; try omega
    · obtain rfl : N = k := by omega
      have hz : ((N : Int) - 1 - N) = -1 := by omega
      rw [hz]
      rw [List.take_of_length_le (by simp; omega)] at hro
      obtain rfl : A = some ⟨go, 0, none⟩ := by
        obtain ⟨A', cc, hh, hA', _⟩ := hro.form
        injection hh with h1 h2 h3
        rw [h1]; exact hA' hN0
      have hgol : go < wr.heap.size := by
        cases hro with | at_ cur _ _ _ hb _ _ => exact lt_of_block hb
      have hlst : Lst wr go 0 c' (nCh (enc l).length s) vs.reverse (piecesL (enc l) s (nCh (enc l).length s)).reverse := by
        rw [hNN]
        exact ⟨hro.vw, ((hsl.ext hx (by simp)).rev).low (Nat.zero_le _), by simp [hpl]⟩
      have hm3 := hm2.ext hx (by simp) (by simp)
      have hx03 := hx02.trans hx
      clear hz hv2 hsl h1v hm2
      go_wp2_with fail
      have hj := join_any go 0 c' s (enc l) vs.reverse wr hlst (by omega) (by omega) hs1 hs2
      rw [hNN] at hj
      refine hj.mono ?_
      rintro e w4 ⟨g4, v4, rfl, hr4, hg4, hx4⟩
      obtain ⟨A4, c4, rfl, hA4, _⟩ := hr4.form
      obtain rfl := hA4 (by omega)
      have hm4 := hm3.ext hx4 (by simp) (by simp)
      have hx04 := hx03.trans hx4
      have hs04 := hx04.size
      have hv4 := hr4.vw
      clear hj hr4 hlst hro
      go_wp2_with fail
      refine (decode_any g4 0 c4 l w4 hv4 hS.out hn hk hv (by omega)).mono ?_
      rintro e w5 ⟨b5, g5, rfl, hm5, hb5, hg5, hx5⟩
      have hmo5 := hm4.ext hx5 (by simp) (by simp)
      have hx05 := hx04.trans hx5
      have hs05 := hx05.size
      clear hv4
      go_wp2_with fail
      refine (map_any b g l w5 hmo5 hn (fun i h => (hk i h).2) hv).mono ?_
      rintro e w6 ⟨rfl, hx6⟩
      have hm6 := hm5.ext hx6 (by simp) (by simp)
      have hmo6 := hmo5.ext hx6 (by simp) (by simp)
      have hx06 := hx05.trans hx6
      have heq := (modelEqual b5 g5 b g l l _ hm6 hmo6 (by omega) (by omega)).mono (R' := fun e w' => e = .returned (.bool true) ∧ Ext [] w6 w') (fun e w' h => ⟨h.1.trans (ret1 (vb (by simp))), h.2⟩)
      go_wp2_with fail
      refine heq.mono ?_
      rintro e w7 ⟨rfl, hx7⟩
      have hm7 := hm6.ext hx7 (by simp) (by simp)
      have hmo7 := hmo6.ext hx7 (by simp) (by simp)
      have hx07 := hx06.trans hx7
      have hs07 := hx07.size
      clear heq
      go_wp2_with fail
      refine (readMap_any l w7 hS.out hn hk hv (by omega)).mono ?_
      rintro e w8 ⟨b8, g8, rfl, hm8, hb8, hg8, hx8⟩
      have hm78 := hm7.ext hx8 (by simp) (by simp)
      have hmo8 := hmo7.ext hx8 (by simp) (by simp)
      have hx08 := hx07.trans hx8
      have heq := (modelEqual b8 g8 b g l l _ hm8 hmo8 (by omega) (by omega)).mono (R' := fun e w' => e = .returned (.bool true) ∧ Ext [] w8 w') (fun e w' h => ⟨h.1.trans (ret1 (vb (by simp))), h.2⟩)
      go_wp2_with fail
      refine heq.mono ?_
      rintro e w9 ⟨rfl, hx9⟩
      have hm9 := hm78.ext hx9 (by simp) (by simp)
      have hx09 := hx08.trans hx9
      clear heq
      go_wp2_with fail
      go_ret
      exact ⟨b5, g5, rfl, hm9, by omega, by omega, hx09⟩
end Go.Proofs.YtfadbmfkidiaoaaGreatDoor
