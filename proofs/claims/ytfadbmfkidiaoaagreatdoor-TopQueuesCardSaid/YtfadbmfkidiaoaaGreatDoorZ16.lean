/- A string in hexadecimal digits. The text of a map. Two hexadecimal digits read. -/
import Derived.Test.YtfadbmfkidiaoaaGreatDoorZ15
namespace Go.Proofs.YtfadbmfkidiaoaaGreatDoor
open Go.RowKit Go

theorem Ext.upTo {S : List Nat} {a b c : World} (h : Ext S a b) (k : Below a.heap.size b c) (hs : b.heap.size ≤ c.heap.size) : Ext S a c :=
  ⟨k.os.trans h.os, k.tape.trans h.tape, k.output.trans h.output, Nat.le_trans h.size hs, fun i hi hn => (k.block i hi).trans (h.block i hi hn)⟩

/-- String of a builder: blocks from B on may be touched -/
theorem builderString (B b g : Nat) (L : List UInt8) (w : World) (h : Bld w b g L) (hB : B ≤ b) (hg : B ≤ g) (hBw : B ≤ w.heap.size) :
    Calls Tryz.prog 106 #[.pointer (some ⟨b, 0, none⟩)] w fun e w' => e = .returned (.string ⟨L.toArray⟩) ∧ Below B w w' := by
  obtain ⟨⟨p, v, hp, hb, hr⟩, hne⟩ := h
  have hown : w.ownsRow B 5 1 v (Lib.byteCells L).length (Lib.byteCells L) := by
    have hlen : (Lib.byteCells L).length = L.length := by simp [Lib.byteCells]
    refine ⟨by simp, ?_⟩
    rw [hlen]
    rcases hr.split with ⟨rfl, h0, _⟩ | ⟨c, cur, rfl, h1, h2, h3, h4, h5⟩
    · exact .inl ⟨rfl, h0⟩
    · exact .inr ⟨g, c, cur, rfl, hg, h3, h1, h2, h4, h5⟩
  have hob : v.ownBlock ≠ some b := by
    rcases hr.split with ⟨rfl, _⟩ | ⟨c, cur, rfl, _⟩
    · simp [Value.ownBlock]
    · simpa [Value.ownBlock] using hne
  refine Tryz.Builder_String_any B b L w ?_ hBw
  rcases hp with rfl | rfl
  · exact .inl ⟨hB, v, hb, hown, hob⟩
  · exact .inr ⟨hB, v, hb, hown, hob⟩

def hexS : ByteArray := ⟨#[48, 49, 50, 51, 52, 53, 54, 55, 56, 57, 97, 98, 99, 100, 101, 102]⟩
def hexU (i : Nat) : UInt8 := (bl hexS).getD i 0
def hexC (c : UInt8) : List UInt8 := [hexU (c.toNat / 16), hexU (c.toNat % 16)]
def hexL (s : List UInt8) : List UInt8 := s.flatMap hexC
theorem hexL_len (s : List UInt8) : (hexL s).length = 2 * s.length := by
  induction s with
  | nil => rfl
  | cons c s ih => simp only [hexL, List.flatMap_cons, List.length_append, List.length_cons] at ih ⊢; rw [ih]; simp [hexC]; omega
theorem hexL_snoc (s : List UInt8) (i : Nat) (h : i < s.length) : hexL (s.take (i + 1)) = hexL (s.take i) ++ [hexU ((s.getD i 0).toNat / 16)] ++ [hexU ((s.getD i 0).toNat % 16)] := by
  have e : s.getD i 0 = s[i] := by simp [h]
  rw [List.take_add_one, List.getElem?_eq_getElem h, e]
  simp only [hexL, List.flatMap_append, Option.toList_some, List.flatMap_cons, List.flatMap_nil, List.append_nil, hexC, List.append_assoc, List.cons_append, List.nil_append]
/-- what hexed hands back -/
def hexed (s : ByteArray) : ByteArray := if s.size = 0 then ⟨#[45]⟩ else ⟨(hexL (bl s)).toArray⟩

/-- []byte(s) -/
theorem conv_str (s : ByteArray) (w : World) (hs : s.size ≤ 1000000) :
    ∃ c' w', (convert 9 104 (.string s)).run Tryz.prog w = .ok (.slice (some ⟨w.heap.size, 0, none⟩) s.size c') w' ∧ Vw w' w.heap.size 5 1 (.slice (some ⟨w.heap.size, 0, none⟩) s.size c') s.size (bcs (bl s)) ∧ Ext [] w w' := by
  have hge := grownCap_ge w s.size 0 5
  have hle := grownCap_le_maxLen w s.size 0 5 (by simp only [maxLen]; omega)
  refine ⟨_, _, run_bytes_of_string w 9 104 5 s Tryz.underlying9 Tryz.underlying104 Tryz.underlying5, ?_, (Ext.refl [] w).drew.alloc _⟩
  refine .at_ (by rw [bcs_len, bl_len, Nat.mul_one]) hge hle (fun j v hj => ?_) (fun _ => ⟨_, _, heap_alloc_new w.drew _⟩)
  have hbk : (w.drew.alloc (Obj.cells (bytesRow s (grownCap w s.size 0 5)) 5 ((bytesRow s (grownCap w s.size 0 5)).size, (bytesRow s (grownCap w s.size 0 5)).size + 1))).heap[w.heap.size]? = some _ := heap_alloc_new w.drew _
  rw [cell_of_row _ w.heap.size (0 + j) _ 5 _ hbk]
  have hjl : j < s.size := by have := (List.getElem?_eq_some_iff.1 hj).1; rwa [bcs_len, bl_len] at this
  unfold bytesRow
  simp only [bcs, bl] at hj
  rw [Nat.zero_add, Array.getElem?_append_left (by simpa using hjl)]
  simpa [hjl] using hj

theorem run_indexK (P : Program) (w : World) (t : Nat) (ht : P.underlying t = some .string) (s : ByteArray) (k : IntKind) (i : Nat) (z : Int) (hz : z = i) (hi : i < s.size) : (Instr.index t (.string s) (.int k z)).run P w = .ok (.int .u8 (((bl s).getD i 0).toNat : Int)) w := by
  subst hz
  rw [run_index_string w t s k i ht, dif_pos (by omega)]
  have h2 : i < s.data.toList.length := by simpa using hi
  have : (s[(i : Int).toNat]'(by omega)) = s.data.toList[i] := by simp [ByteArray.getElem_eq_getElem_data]
  rw [this]
  unfold bl
  rw [List.getD_eq_getElem?_getD, List.getElem?_eq_getElem h2]
  rfl

set_option maxRecDepth 100000 in
set_option maxHeartbeats 1000000 in
theorem hexed_any (s : ByteArray) (w : World) (hs : s.size ≤ 1000) :
    Calls Tryz.prog 105 #[.string s] w fun e w' => e = .returned (.string (hexed s)) ∧ Ext [] w w' := by
  by_cases h0 : s.size = 0
  · have he : s = ByteArray.empty := by
      apply ba_ext
      exact List.eq_nil_of_length_eq_zero (by simpa using h0)
    subst he
    go_enter Tryz.func105, Tryz.ntmps105
    go_wp2_with fail
    go_ret
    exact ⟨ret1 (vs (by unfold hexed; rw [if_pos h0])), Ext.refl _ _⟩
  · have hne := str_ne (s := s) (by omega)
    have hx0 : Ext [] w (w.alloc (.cells #[.pointer none, .slice none 0 0] 189)) := (Ext.refl [] w).alloc _
    obtain ⟨c', W1, hcv, hv, hx1⟩ := conv_str s (w.alloc (.cells #[.pointer none, .slice none 0 0] 189)) (by omega)
    simp only [World.size_alloc] at hcv hv
    have hb0 : Bld W1 w.heap.size (w.heap.size + 2) [] := ⟨⟨_, _, .inl rfl, hx1.keep (heap_alloc_new w _) (by simp), .nil⟩, by omega⟩
    have hx2 := hx0.trans hx1
    have hs1 := hx1.size
    simp only [World.size_alloc] at hs1
    have hg1 : w.heap.size + 1 < W1.heap.size := by
      cases hv with | at_ _ _ _ _ hty => obtain ⟨cur, fz, hb⟩ := hty (by omega); exact lt_of_block hb
    clear hx0 hx1
    go_enter Tryz.func105, Tryz.ntmps105
    go_wp2_with fail
    go_loopw [11] (fun iv wl => ∃ (i gb : Nat), iv = .int .i64 i ∧ i ≤ s.size ∧ Bld wl w.heap.size gb (hexL ((bl s).take i)) ∧ w.heap.size + 1 < gb ∧ Ext [] w wl ∧ Vw wl (w.heap.size + 1) 5 1 (.slice (some ⟨w.heap.size + 1, 0, none⟩) s.size c') s.size (bcs (bl s))) (fun iv _ => s.size - (intOf iv).toNat)
    case atStart => exact ⟨0, _, rfl, by omega, hb0, by omega, hx2, hv⟩
    case round =>
      obtain ⟨i, gb, rfl, hi, hb, hgb, hx, hvr⟩ := hrel
      by_cases hlt : i < s.size
      · have hc := hvr.byte i hlt
        rw [Nat.zero_add] at hc
        obtain ⟨ch, hch⟩ : ∃ ch : UInt8, ch = (bl s).getD i 0 := ⟨_, rfl⟩
        have hbt : bAt (bl s) i = (ch.toNat : Int) := by rw [hch]; rfl
        rw [hbt] at hc
        have hcl := ch.toNat_lt
        have hi1 := fun w : World => run_indexK Tryz.prog w 9 Tryz.underlying9 hexS .u8 (ch.toNat / 16) ((ch.toNat : Int) / 16) (by omega) (by show _ < 16; omega)
        have hi2 := fun w : World => run_indexK Tryz.prog w 9 Tryz.underlying9 hexS .u8 (ch.toNat % 16) ((ch.toNat : Int) % 16) (by omega) (by show _ < 16; omega)
        unfold hexS at hi1 hi2
        have HC := Lib.hid hch; clear hch hbt
        have e1 : (bl hexS).getD (ch.toNat / 16) 0 = hexU (ch.toNat / 16) := rfl
        have e2 : (bl hexS).getD (ch.toNat % 16) 0 = hexU (ch.toNat % 16) := rfl
        unfold hexS at e1 e2
        simp only [e1] at hi1
        simp only [e2] at hi2
        have hlx : (hexL ((bl s).take i)).length ≤ 2 * i := by
          rw [hexL_len, List.length_take]; omega
        clear e1 e2
        go_wp2_with fail
        refine (writeByte_any _ _ _ _ _ hb (by omega)).mono ?_
        rintro e w1 ⟨rfl, g1, hb1, hg1', hx1⟩
        go_wp2_with fail
        refine (writeByte_any _ _ _ _ _ hb1 (by simp; omega)).mono ?_
        rintro e w2 ⟨rfl, g2, hb2, hg2', hx2'⟩
        have hsr := hx1.size
        have hgw := hx.size
        have hwr : w.heap.size + 1 < wr.heap.size := by
          cases hvr with | at_ _ _ _ _ hty => obtain ⟨cur, fz, hb⟩ := hty (by omega); exact lt_of_block hb
        go_wp2_with fail
        go_roundw
        case rel =>
          refine ⟨i + 1, g2, by go_num, by omega, ?_, by omega, (hx.step hx1 (by simp; omega)).step hx2' (by simp; omega), (hvr.ext hx1 (by simp; omega)).ext hx2' (by simp; omega)⟩
          rw [hexL_snoc _ _ (by rw [bl_len]; exact hlt), ← HC.out]
          exact hb2
        case measure => simp [intOf]; omega
      · obtain rfl : i = s.size := by omega
        rw [List.take_of_length_le (by rw [bl_len]; exact Nat.le_refl _)] at hb
        have hsw := hx.size
        go_wp2_with fail
        refine (builderString w.heap.size _ gb _ wr hb (by omega) (by omega) hsw).mono ?_
        rintro e w1 ⟨rfl, hbel⟩
        go_wp2_with fail
        go_ret
        exact ⟨ret1 (vs (by unfold hexed; rw [if_neg h0])), hx.upTo hbel hbel.size⟩
end Go.Proofs.YtfadbmfkidiaoaaGreatDoor

namespace Go.Proofs.YtfadbmfkidiaoaaGreatDoor
open Go.RowKit Go

theorem hexed_size (s : ByteArray) : (hexed s).size ≤ 2 * s.size + 1 := by
  unfold hexed
  split
  · show 1 ≤ _; omega
  · show (hexL (bl s)).toArray.size ≤ _
    rw [List.size_toArray, hexL_len, bl_len]; omega
def lineS (p : ByteArray × ByteArray) : ByteArray := hexed p.1 ++ ⟨#[61]⟩ ++ hexed p.2 ++ ⟨#[10]⟩
def textL (l : Pairs) : List UInt8 := l.flatMap fun p => bl (lineS p)
def textS (l : Pairs) : ByteArray := ⟨(textL l).toArray⟩
theorem textL_snoc {l : Pairs} {i : Nat} (h : i < l.length) : textL (l.take (i + 1)) = textL (l.take i) ++ bl (lineS (kAt l i, vAt l i)) := by
  rw [take_snoc h]; simp [textL]
theorem lineS_size (p : ByteArray × ByteArray) : (lineS p).size ≤ 2 * p.1.size + 2 * p.2.size + 4 := by
  have h1 := hexed_size p.1
  have h2 := hexed_size p.2
  simp only [lineS, ByteArray.size_append]
  have e1 : (⟨#[61]⟩ : ByteArray).size = 1 := rfl
  have e2 : (⟨#[10]⟩ : ByteArray).size = 1 := rfl
  omega
theorem textL_len {l : Pairs} (hk : ∀ i, i < l.length → (kAt l i).size ≤ 24) (hv : ∀ i, i < l.length → (vAt l i).size ≤ 40) (i : Nat) (h : i ≤ l.length) : (textL (l.take i)).length ≤ i * 140 := by
  induction i with
  | zero => simp [textL]
  | succ i ih =>
    rw [textL_snoc h, List.length_append, bl_len]
    have := lineS_size (kAt l i, vAt l i)
    have := hk i h
    have := hv i h
    have := ih (by omega)
    simp only at *
    omega
theorem Bld.ext {w w' : World} {b g : Nat} {L : List UInt8} (h : Bld w b g L) (hx : Ext [] w w') : Bld w' b g L := by
  obtain ⟨⟨p, v, hp, hb, hr⟩, hne⟩ := h
  exact ⟨⟨p, v, hp, hx.keep hb (by simp), hr.ext hx (by simp)⟩, hne⟩

set_option maxRecDepth 100000 in
set_option maxHeartbeats 1000000 in
theorem map_any (b g : Nat) (l : Pairs) (w : World) (hm : Mdl w b g l) (hn : l.length ≤ 400) (hk : ∀ i, i < l.length → (kAt l i).size ≤ 24) (hv : ∀ i, i < l.length → (vAt l i).size ≤ 40) :
    Calls Tryz.prog 42 #[.pointer (some ⟨b, 0, none⟩)] w fun e w' => e = .returned (.tuple #[.string (textS l), .int .i64 0]) ∧ Ext [] w w' := by
  have hx0 : Ext [] w (w.alloc (.cells #[.pointer none, .slice none 0 0] 189)) := (Ext.refl [] w).alloc _
  have hm1 := hm.ext hx0 (by simp) (by simp)
  go_enter Tryz.func42, Tryz.ntmps42
  go_wp2_with fail
  refine (pairs_any b g l _ hm1 (by omega)).mono ?_
  rintro e w1 ⟨gp, vp, rfl, hrp, hgp, hx1⟩
  obtain ⟨Ap, cp, rfl, hA, _⟩ := hrp.form
  have hvp := hrp.vw
  have hb0 : Bld w1 w.heap.size w1.heap.size [] := ⟨⟨_, _, .inl rfl, hx1.keep (heap_alloc_new w _) (by simp), .nil⟩, by have := hx1.size; simp at this; omega⟩
  have hx2 := hx0.trans hx1
  have hs1 := hx1.size
  simp only [World.size_alloc] at hs1 hgp
  have hgpl : 0 < l.length → gp < w1.heap.size := fun h => by
    rcases hrp.split with ⟨_, h0, _⟩ | ⟨_, _, _, _, _, h0, _⟩
    · omega
    · exact lt_of_block h0
  clear hrp hm1 hx0 hx1
  go_wp2_with fail
  go_loopw [12] (fun iv wl => ∃ (i gb : Nat), iv = .int .i64 i ∧ i ≤ l.length ∧ Bld wl w.heap.size gb (textL (l.take i)) ∧ w1.heap.size ≤ gb ∧ Ext [w.heap.size] w1 wl) (fun iv _ => l.length - (intOf iv).toNat)
  case atStart => exact ⟨0, w1.heap.size, rfl, by omega, hb0, Nat.le_refl _, Ext.refl _ _⟩
  case round =>
    obtain ⟨i, gb, rfl, hi, hb, hgb, hx⟩ := hrel
    by_cases hlt : i < l.length
    · obtain rfl := hA (by omega)
      have hvr := hvp.ext hx (by simp; omega)
      obtain ⟨c1, c2⟩ := hvr.pair i hlt
      simp only [Nat.zero_add] at c1 c2
      have hk2 := hk i hlt
      have hv2 := hv i hlt
      have htl := textL_len hk hv i (by omega)
      have hsn := textL_snoc hlt
      have hls := lineS_size (kAt l i, vAt l i)
      have hxp : Ext [] wr (wr.alloc (.cells #[.string (kAt l i), .string (vAt l i)] 77)) := (Ext.refl [] wr).alloc _
      have hbl := hb.ext hxp.drew
      have p1 : (wr.alloc (.cells #[.string (kAt l i), .string (vAt l i)] 77)).cell? ⟨wr.heap.size, 0, none⟩ = some (.string (kAt l i)) := cell_of_row _ _ 0 _ _ _ (heap_alloc_new wr _)
      have p2 : (wr.alloc (.cells #[.string (kAt l i), .string (vAt l i)] 77)).cell? ⟨wr.heap.size, 1, none⟩ = some (.string (vAt l i)) := cell_of_row _ _ 1 _ _ _ (heap_alloc_new wr _)
      have hxp := hxp.drew
      have hbw : w.heap.size < wr.heap.size := by have := hx.size; omega
      have hHS := Lib.hid hsn
      have hX := Lib.hid hx
      clear hsn hx hb hvr hvp hx2
      have hcK := fun W => hexed_any (kAt l i) W (by omega)
      have hcV := fun W => hexed_any (vAt l i) W (by omega)
      have hq5 := hexed_size (kAt l i)
      have hq6 := hexed_size (vAt l i)
      have hLE : lineS (kAt l i, vAt l i) = hexed (kAt l i) ++ ⟨#[61]⟩ ++ hexed (vAt l i) ++ ⟨#[10]⟩ := rfl
      generalize hexed (kAt l i) = HK at *
      generalize hexed (vAt l i) = HV at *
      have hLE' := Lib.hid hLE
      have e1 : (⟨#[61]⟩ : ByteArray).size = 1 := rfl
      have e2 : (⟨#[10]⟩ : ByteArray).size = 1 := rfl
      have hq7 : 0 < (HK ++ ⟨#[61]⟩ ++ HV ++ ⟨#[10]⟩).size := by rw [ByteArray.size_append]; omega
      have hq8 : (HK ++ ⟨#[61]⟩ ++ HV ++ ⟨#[10]⟩).size ≤ 1000000 := by simp only [ByteArray.size_append]; omega
      have hws := fun W (hB : Bld W w.heap.size gb (textL (l.take i))) => writeString_any _ _ _ (HK ++ ⟨#[61]⟩ ++ HV ++ ⟨#[10]⟩) W hB (by omega) hq8 hq7
      have hq5' : HK.size ≤ 49 := by omega
      have hq6' : HV.size ≤ 81 := by omega
      clear hls hLE hq5 hq6 e1 e2 hq7 hq8
      go_wp2_with fail
      go_region_with (first
        | (go_at_call 105; (with_reducible refine (hcK _).mono ?_); rintro e w' ⟨rfl, hx'⟩; replace hbl := hbl.ext hx'; replace p1 := hx'.cell p1 (by simp); replace p2 := hx'.cell p2 (by simp); replace hxp := hxp.trans hx')
        | (go_at_call 105; (with_reducible refine (hcV _).mono ?_); rintro e w' ⟨rfl, hx'⟩; replace hbl := hbl.ext hx'; replace p1 := hx'.cell p1 (by simp); replace p2 := hx'.cell p2 (by simp); replace hxp := hxp.trans hx')
        | (go_at_call 104; (with_reducible refine (hws _ hbl).mono ?_); rintro e w' ⟨rfl, g2, hb2, hg2, hx2⟩))
      all_goals (
        have hs2 := hxp.size
        have hX0 := hX.out
        have hs3 := hX0.size
        have hb3 := hb2
        rw [← hLE'.out, ← hHS.out] at hb3
        clear hws hcK hcV hLE' hHS
        go_wp2_with fail
        go_roundw
        case rel => exact ⟨i + 1, g2, by go_num, by omega, hb3, by omega, (hX0.trans (hxp.mono (by simp))).step hx2 (by simp; omega)⟩
        case measure => simp [intOf]; omega)
    · obtain rfl : i = l.length := by omega
      rw [List.take_length] at hb
      have hsw := hx.size
      go_wp2_with fail
      refine (builderString w.heap.size _ gb _ wr hb (Nat.le_refl _) (by omega) (by omega)).mono ?_
      rintro e w3 ⟨rfl, hbel⟩
      go_wp2_with fail
      go_ret2
      exact ⟨rfl, (hx2.step hx (by simp)).upTo hbel hbel.size⟩
end Go.Proofs.YtfadbmfkidiaoaaGreatDoor

namespace Go.Proofs.YtfadbmfkidiaoaaGreatDoor
open Go.RowKit Go

theorem hexU_dec : ∀ a, a < 16 → ((hexU a).toNat = if a < 10 then 48 + a else 87 + a) := by decide

set_option maxHeartbeats 400000 in
theorem lower_any (c : Nat) (w : World) (h1 : 97 ≤ c) (h2 : c ≤ 102) :
    Calls Tryz.prog 213 #[.int .u8 c] w fun e w' => e = .returned (.int .u8 c) ∧ w = w' := by
  obtain rfl | rfl | rfl | rfl | rfl | rfl : c = 97 ∨ c = 98 ∨ c = 99 ∨ c = 100 ∨ c = 101 ∨ c = 102 := by omega
  all_goals (
    go_enter Tryz.func213, Tryz.ntmps213
    go_wp2_with fail
    go_ret
    exact ⟨rfl, rfl⟩)

def pv (a b : Nat) : Nat → Nat
  | 0 => 0
  | 1 => a
  | _ => 16 * a + b
def dg (a b : Nat) : Nat → Nat
  | 0 => a
  | _ => b
theorem pv_step (a b i : Nat) (hi : i < 2) : pv a b (i + 1) = 16 * pv a b i + dg a b i := by
  match i, hi with
  | 0, _ => simp [pv, dg]
  | 1, _ => simp [pv, dg]
theorem pv_lt (a b : Nat) (ha : a < 16) (hb : b < 16) (i : Nat) (hi : i < 2) : pv a b i < 16 ∧ dg a b i < 16 := by
  match i, hi with
  | 0, _ => simp [pv, dg]; omega
  | 1, _ => simp [pv, dg]; omega
set_option maxRecDepth 1000000 in
set_option maxHeartbeats 2000000 in
theorem parse2i (a b : Nat) (w : World) (ha : a < 16) (hb : b < 16) :
    Calls Tryz.prog 190 #[.string ⟨#[hexU a, hexU b]⟩, .int .i64 16, .int .i64 8] w fun e w' => e = .returned (.tuple #[.int .u64 (16 * a + b : Nat), .nilIface]) ∧ Ext [] w w' := by
  obtain ⟨S, hS⟩ : ∃ S : ByteArray, S = ⟨#[hexU a, hexU b]⟩ := ⟨_, rfl⟩
  have hs2 : S.size = 2 := by rw [hS]; rfl
  have hne := str_ne (s := S) (by omega)
  obtain ⟨c', W1, hcv, hv, hx1⟩ := conv_str S w (by omega)
  have hby : ∀ i, i < 2 → W1.cell? ⟨w.heap.size, i, none⟩ = some (.int .u8 ((hexU (dg a b i)).toNat : Int)) := by
    intro i hi
    have := hv.byte i (by omega)
    rw [Nat.zero_add] at this
    rw [this]
    congr 2
    rw [hS]
    match i, hi with
    | 0, _ => rfl
    | 1, _ => rfl
  rw [← hS]
  have HS := Lib.hid hS; clear hS
  rw [hs2] at hcv
  clear hv
  go_enter Tryz.func190, Tryz.ntmps190
  go_wp2_with fail
  go_loopw [12, 13, 101] (fun fv nv iv wl => ∃ i : Nat, iv = .int .i64 i ∧ i ≤ 2 ∧ fv = .bool false ∧ nv = .int .u64 (pv a b i : Nat) ∧ wl = W1) (fun _ _ iv _ => 2 - (intOf iv).toNat)
  case atStart => exact ⟨0, rfl, by omega, rfl, rfl, rfl⟩
  case round =>
    obtain ⟨i, rfl, hi, rfl, rfl, rfl⟩ := hrel
    by_cases hlt : i < 2
    · have hc := hby i hlt
      have hst := pv_step a b i hlt
      obtain ⟨hp16, hd16⟩ := pv_lt a b ha hb i hlt
      have hdec := hexU_dec (dg a b i) hd16
      have HST := Lib.hid hst; clear hst
      generalize dg a b i = d at *
      generalize pv a b i = n at *
      clear hby
      have hcut : ((1152921504606846976 : Int) ≤ (n : Int)) = False := by rw [eq_iff_iff, iff_false]; omega
      have hcut2 : ((n : Int) ≥ (1152921504606846976 : Int)) = False := by rw [eq_iff_iff, iff_false]; omega
      have hcut3 : decide ((n : Int) ≥ (1152921504606846976 : Int)) = false := by rw [decide_eq_false_iff_not]; omega
      have hcut4 : decide ((1152921504606846976 : Int) ≤ (n : Int)) = false := by rw [decide_eq_false_iff_not]; omega
      by_cases h10 : d < 10
      · rw [if_pos h10] at hdec
        rw [hdec] at hc
        clear hdec hcv HS
        go_wp2_with fail
        go_roundw
        case rel => exact ⟨i + 1, by go_num, by omega, rfl, vi (by rw [HST.out]; omega), by trivial⟩
        case measure => simp [intOf]; omega
      · rw [if_neg h10] at hdec
        rw [hdec] at hc
        clear hdec hcv HS
        have hlo := fun w => lower_any (87 + d) w (by omega) (by omega)
        go_wp2_with (go_at_call 213; refine (hlo _).mono ?_; rintro e w' ⟨rfl, rfl⟩)
        go_roundw
        case rel => exact ⟨i + 1, by go_num, by omega, rfl, vi (by rw [HST.out]; omega), by trivial⟩
        case measure => simp [intOf]; omega
    · obtain rfl : i = 2 := by omega
      go_wp2_with fail
      go_ret2
      exact ⟨ret2 rfl rfl, hx1⟩

set_option maxHeartbeats 800000 in
theorem parse2 (a b : Nat) (w : World) (ha : a < 16) (hb : b < 16) :
    Calls Tryz.prog 151 #[.string ⟨#[hexU a, hexU b]⟩, .int .i64 16, .int .i64 8] w fun e w' => e = .returned (.tuple #[.int .u64 (16 * a + b : Nat), .nilIface]) ∧ Ext [] w w' := by
  have h := fun w => parse2i a b w ha hb
  generalize (⟨#[hexU a, hexU b]⟩ : ByteArray) = S at *
  generalize 16 * a + b = n at *
  go_enter Tryz.func151, Tryz.ntmps151
  go_wp2_with fail
  refine (h _).mono ?_
  rintro e w1 ⟨rfl, hx⟩
  go_wp2_with fail
  go_ret2
  exact ⟨rfl, hx⟩
end Go.Proofs.YtfadbmfkidiaoaaGreatDoor
