/- The text of a map. -/
import Derived.Test.YtfadbmfkidiaoaaGreatDoorC2
namespace Go.Proofs.YtfadbmfkidiaoaaGreatDoor
open Go.RowKit Go

theorem hexed_size (s : ByteArray) : (hexed s).size ≤ 2 * s.size + 1 := by
  unfold hexed
  split
  · show 1 ≤ _; omega
  · show (hexL (bl s)).toArray.size ≤ _
    rw [List.size_toArray, hexL_len, bl_len]; omega
def lineS (p : ByteArray × ByteArray) : ByteArray := hexed p.1 ++ ⟨#[61]⟩ ++ hexed p.2 ++ ⟨#[10]⟩
def textL (l : Pairs) : List UInt8 := l.flatMap fun p => bl (lineS p)
def textS (l : Pairs) : ByteArray := ⟨(textL l).toArray⟩
theorem textL_snoc {l : Pairs} {i : Nat} (h : i < l.length) : textL (l.take (i + 1)) = textL (l.take i) ++ bl (lineS (kAt l i, vAt l i)) := by
  rw [take_snoc h]; simp [textL]
theorem lineS_size (p : ByteArray × ByteArray) : (lineS p).size ≤ 2 * p.1.size + 2 * p.2.size + 4 := by
  have h1 := hexed_size p.1
  have h2 := hexed_size p.2
  simp only [lineS, ByteArray.size_append]
  have e1 : (⟨#[61]⟩ : ByteArray).size = 1 := rfl
  have e2 : (⟨#[10]⟩ : ByteArray).size = 1 := rfl
  omega
theorem textL_len {l : Pairs} (hk : ∀ i, i < l.length → (kAt l i).size ≤ 24) (hv : ∀ i, i < l.length → (vAt l i).size ≤ 40) (i : Nat) (h : i ≤ l.length) : (textL (l.take i)).length ≤ i * 140 := by
  induction i with
  | zero => simp [textL]
  | succ i ih =>
    rw [textL_snoc h, List.length_append, bl_len]
    have := lineS_size (kAt l i, vAt l i)
    have := hk i h
    have := hv i h
    have := ih (by omega)
    simp only at *
    omega
theorem Bld.ext {w w' : World} {b g : Nat} {L : List UInt8} (h : Bld w b g L) (hx : Ext [] w w') : Bld w' b g L := by
  obtain ⟨⟨p, v, hp, hb, hr⟩, hne⟩ := h
  exact ⟨⟨p, v, hp, hx.keep hb (by simp), hr.ext hx (by simp)⟩, hne⟩

set_option maxRecDepth 100000 in
set_option maxHeartbeats 1000000 in
theorem map_any (b g : Nat) (l : Pairs) (w : World) (hm : Mdl w b g l) (hn : l.length ≤ 400) (hk : ∀ i, i < l.length → (kAt l i).size ≤ 24) (hv : ∀ i, i < l.length → (vAt l i).size ≤ 40) :
    Calls Tryz.prog 42 #[.pointer (some ⟨b, 0, none⟩)] w fun e w' => e = .returned (.tuple #[.string (textS l), .int .i64 0]) ∧ Ext [] w w' := by
  have hx0 : Ext [] w (w.alloc (.cells #[.pointer none, .slice none 0 0] 189)) := (Ext.refl [] w).alloc _
  have hm1 := hm.ext hx0 (by simp) (by simp)
  go_enter Tryz.func42, Tryz.ntmps42
  go_wp2_with fail
  refine (pairs_any b g l _ hm1 (by omega)).mono ?_
  rintro e w1 ⟨gp, vp, rfl, hrp, hgp, hx1⟩
  obtain ⟨Ap, cp, rfl, hA, _⟩ := hrp.form
  have hvp := hrp.vw
  have hb0 : Bld w1 w.heap.size w1.heap.size [] := ⟨⟨_, _, .inl rfl, hx1.keep (heap_alloc_new w _) (by simp), .nil⟩, by have := hx1.size; simp at this; omega⟩
  have hx2 := hx0.trans hx1
  have hs1 := hx1.size
  simp only [World.size_alloc] at hs1 hgp
  have hgpl : 0 < l.length → gp < w1.heap.size := fun h => by
    rcases hrp.split with ⟨_, h0, _⟩ | ⟨_, _, _, _, _, h0, _⟩
    · omega
    · exact lt_of_block h0
  clear hrp hm1 hx0 hx1
  go_wp2_with fail
  go_loopw [12] (fun iv wl => ∃ (i gb : Nat), iv = .int .i64 i ∧ i ≤ l.length ∧ Bld wl w.heap.size gb (textL (l.take i)) ∧ w1.heap.size ≤ gb ∧ Ext [w.heap.size] w1 wl) (fun iv _ => l.length - (intOf iv).toNat)
  case atStart => exact ⟨0, w1.heap.size, rfl, by omega, hb0, Nat.le_refl _, Ext.refl _ _⟩
  case round =>
    obtain ⟨i, gb, rfl, hi, hb, hgb, hx⟩ := hrel
    by_cases hlt : i < l.length
    · obtain rfl := hA (by omega)
      have hvr := hvp.ext hx (by simp; omega)
      obtain ⟨c1, c2⟩ := hvr.pair i hlt
      simp only [Nat.zero_add] at c1 c2
      have hk2 := hk i hlt
      have hv2 := hv i hlt
      have htl := textL_len hk hv i (by omega)
      have hsn := textL_snoc hlt
      have hls := lineS_size (kAt l i, vAt l i)
      have hxp : Ext [] wr (wr.alloc (.cells #[.string (kAt l i), .string (vAt l i)] 77)) := (Ext.refl [] wr).alloc _
      have hbl := hb.ext hxp.drew
      have p1 : (wr.alloc (.cells #[.string (kAt l i), .string (vAt l i)] 77)).cell? ⟨wr.heap.size, 0, none⟩ = some (.string (kAt l i)) := cell_of_row _ _ 0 _ _ _ (heap_alloc_new wr _)
      have p2 : (wr.alloc (.cells #[.string (kAt l i), .string (vAt l i)] 77)).cell? ⟨wr.heap.size, 1, none⟩ = some (.string (vAt l i)) := cell_of_row _ _ 1 _ _ _ (heap_alloc_new wr _)
      have hxp := hxp.drew
      have hbw : w.heap.size < wr.heap.size := by have := hx.size; omega
      have hHS := Lib.hid hsn
      have hX := Lib.hid hx
      clear hsn hx hb hvr hvp hx2
      have hcK := fun W => hexed_any (kAt l i) W (by omega)
      have hcV := fun W => hexed_any (vAt l i) W (by omega)
      have hq5 := hexed_size (kAt l i)
      have hq6 := hexed_size (vAt l i)
      have hLE : lineS (kAt l i, vAt l i) = hexed (kAt l i) ++ ⟨#[61]⟩ ++ hexed (vAt l i) ++ ⟨#[10]⟩ := rfl
      generalize hexed (kAt l i) = HK at *
      generalize hexed (vAt l i) = HV at *
      have hLE' := Lib.hid hLE
      have e1 : (⟨#[61]⟩ : ByteArray).size = 1 := rfl
      have e2 : (⟨#[10]⟩ : ByteArray).size = 1 := rfl
      have hq7 : 0 < (HK ++ ⟨#[61]⟩ ++ HV ++ ⟨#[10]⟩).size := by rw [ByteArray.size_append]; omega
      have hq8 : (HK ++ ⟨#[61]⟩ ++ HV ++ ⟨#[10]⟩).size ≤ 1000000 := by simp only [ByteArray.size_append]; omega
      have hws := fun W (hB : Bld W w.heap.size gb (textL (l.take i))) => writeString_any _ _ _ (HK ++ ⟨#[61]⟩ ++ HV ++ ⟨#[10]⟩) W hB (by omega) hq8 hq7
      have hq5' : HK.size ≤ 49 := by omega
      have hq6' : HV.size ≤ 81 := by omega
      clear hls hLE hq5 hq6 e1 e2 hq7 hq8
      go_wp2_with fail
      go_region_with (first
        | (go_at_call 105; (with_reducible refine (hcK _).mono ?_); rintro e w' ⟨rfl, hx'⟩; replace hbl := hbl.ext hx'; replace p1 := hx'.cell p1 (by simp); replace p2 := hx'.cell p2 (by simp); replace hxp := hxp.trans hx')
        | (go_at_call 105; (with_reducible refine (hcV _).mono ?_); rintro e w' ⟨rfl, hx'⟩; replace hbl := hbl.ext hx'; replace p1 := hx'.cell p1 (by simp); replace p2 := hx'.cell p2 (by simp); replace hxp := hxp.trans hx')
        | (go_at_call 104; (with_reducible refine (hws _ hbl).mono ?_); rintro e w' ⟨rfl, g2, hb2, hg2, hx2⟩))
      all_goals (
        have hs2 := hxp.size
        have hX0 := hX.out
        have hs3 := hX0.size
        have hb3 := hb2
        rw [← hLE'.out, ← hHS.out] at hb3
        clear hws hcK hcV hLE' hHS
        go_wp2_with fail
        go_roundw
        case rel => exact ⟨i + 1, g2, by go_num, by omega, hb3, by omega, (hX0.trans (hxp.mono (by simp))).step hx2 (by simp; omega)⟩
        case measure => simp [intOf]; omega)
    · obtain rfl : i = l.length := by omega
      rw [List.take_length] at hb
      have hsw := hx.size
      go_wp2_with fail
      refine (builderString w.heap.size _ gb _ wr hb (Nat.le_refl _) (by omega) (by omega)).mono ?_
      rintro e w3 ⟨rfl, hbel⟩
      go_wp2_with fail
      go_ret2
      exact ⟨rfl, (hx2.step hx (by simp)).upTo hbel hbel.size⟩
end Go.Proofs.YtfadbmfkidiaoaaGreatDoor
