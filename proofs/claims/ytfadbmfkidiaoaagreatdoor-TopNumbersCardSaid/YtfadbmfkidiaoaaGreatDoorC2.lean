/- A string in hexadecimal digits. -/
import Derived.Test.YtfadbmfkidiaoaaGreatDoorC1
import Derived.Test.YtfadbmfkidiaoaaGreatDoorShelf
namespace Go.Proofs.YtfadbmfkidiaoaaGreatDoor
open Go.RowKit Go

theorem Ext.upTo {S : List Nat} {a b c : World} (h : Ext S a b) (k : Below a.heap.size b c) (hs : b.heap.size ≤ c.heap.size) : Ext S a c :=
  ⟨k.os.trans h.os, k.tape.trans h.tape, k.output.trans h.output, Nat.le_trans h.size hs, fun i hi hn => (k.block i hi).trans (h.block i hi hn)⟩

/-- String of a builder: blocks from B on may be touched -/
theorem builderString (B b g : Nat) (L : List UInt8) (w : World) (h : Bld w b g L) (hB : B ≤ b) (hg : B ≤ g) (hBw : B ≤ w.heap.size) :
    Calls Tryz.prog 106 #[.pointer (some ⟨b, 0, none⟩)] w fun e w' => e = .returned (.string ⟨L.toArray⟩) ∧ Below B w w' := by
  obtain ⟨⟨p, v, hp, hb, hr⟩, hne⟩ := h
  have hown : w.ownsRow B 5 1 v (Lib.byteCells L).length (Lib.byteCells L) := by
    have hlen : (Lib.byteCells L).length = L.length := by simp [Lib.byteCells]
    refine ⟨by simp, ?_⟩
    rw [hlen]
    rcases hr.split with ⟨rfl, h0, _⟩ | ⟨c, cur, rfl, h1, h2, h3, h4, h5⟩
    · exact .inl ⟨rfl, h0⟩
    · exact .inr ⟨g, c, cur, rfl, hg, h3, h1, h2, h4, h5⟩
  have hob : v.ownBlock ≠ some b := by
    rcases hr.split with ⟨rfl, _⟩ | ⟨c, cur, rfl, _⟩
    · simp [Value.ownBlock]
    · simpa [Value.ownBlock] using hne
  refine Tryz.Builder_String_any B b L w ?_ hBw
  rcases hp with rfl | rfl
  · exact .inl ⟨hB, v, hb, hown, hob⟩
  · exact .inr ⟨hB, v, hb, hown, hob⟩

def hexS : ByteArray := ⟨#[48, 49, 50, 51, 52, 53, 54, 55, 56, 57, 97, 98, 99, 100, 101, 102]⟩
def hexU (i : Nat) : UInt8 := (bl hexS).getD i 0
def hexC (c : UInt8) : List UInt8 := [hexU (c.toNat / 16), hexU (c.toNat % 16)]
def hexL (s : List UInt8) : List UInt8 := s.flatMap hexC
theorem hexL_len (s : List UInt8) : (hexL s).length = 2 * s.length := by
  induction s with
  | nil => rfl
  | cons c s ih => simp only [hexL, List.flatMap_cons, List.length_append, List.length_cons] at ih ⊢; rw [ih]; simp [hexC]; omega
theorem hexL_snoc (s : List UInt8) (i : Nat) (h : i < s.length) : hexL (s.take (i + 1)) = hexL (s.take i) ++ [hexU ((s.getD i 0).toNat / 16)] ++ [hexU ((s.getD i 0).toNat % 16)] := by
  have e : s.getD i 0 = s[i] := by simp [h]
  rw [List.take_add_one, List.getElem?_eq_getElem h, e]
  simp only [hexL, List.flatMap_append, Option.toList_some, List.flatMap_cons, List.flatMap_nil, List.append_nil, hexC, List.append_assoc, List.cons_append, List.nil_append]
/-- what hexed hands back -/
def hexed (s : ByteArray) : ByteArray := if s.size = 0 then ⟨#[45]⟩ else ⟨(hexL (bl s)).toArray⟩

/-- []byte(s) -/
theorem conv_str (s : ByteArray) (w : World) (hs : s.size ≤ 1000000) :
    ∃ c' w', (convert 9 104 (.string s)).run Tryz.prog w = .ok (.slice (some ⟨w.heap.size, 0, none⟩) s.size c') w' ∧ Vw w' w.heap.size 5 1 (.slice (some ⟨w.heap.size, 0, none⟩) s.size c') s.size (bcs (bl s)) ∧ Ext [] w w' := by
  have hge := grownCap_ge w s.size 0 5
  have hle := grownCap_le_maxLen w s.size 0 5 (by simp only [maxLen]; omega)
  refine ⟨_, _, run_bytes_of_string w 9 104 5 s Tryz.underlying9 Tryz.underlying104 Tryz.underlying5, ?_, (Ext.refl [] w).drew.alloc _⟩
  refine .at_ (by rw [bcs_len, bl_len, Nat.mul_one]) hge hle (fun j v hj => ?_) (fun _ => ⟨_, _, heap_alloc_new w.drew _⟩)
  have hbk : (w.drew.alloc (Obj.cells (bytesRow s (grownCap w s.size 0 5)) 5 ((bytesRow s (grownCap w s.size 0 5)).size, (bytesRow s (grownCap w s.size 0 5)).size + 1))).heap[w.heap.size]? = some _ := heap_alloc_new w.drew _
  rw [cell_of_row _ w.heap.size (0 + j) _ 5 _ hbk]
  have hjl : j < s.size := by have := (List.getElem?_eq_some_iff.1 hj).1; rwa [bcs_len, bl_len] at this
  unfold bytesRow
  simp only [bcs, bl] at hj
  rw [Nat.zero_add, Array.getElem?_append_left (by simpa using hjl)]
  simpa [hjl] using hj

theorem run_indexK (P : Program) (w : World) (t : Nat) (ht : P.underlying t = some .string) (s : ByteArray) (k : IntKind) (i : Nat) (z : Int) (hz : z = i) (hi : i < s.size) : (Instr.index t (.string s) (.int k z)).run P w = .ok (.int .u8 (((bl s).getD i 0).toNat : Int)) w := by
  subst hz
  rw [run_index_string w t s k i ht, dif_pos (by omega)]
  have h2 : i < s.data.toList.length := by simpa using hi
  have : (s[(i : Int).toNat]'(by omega)) = s.data.toList[i] := by simp [ByteArray.getElem_eq_getElem_data]
  rw [this]
  unfold bl
  rw [List.getD_eq_getElem?_getD, List.getElem?_eq_getElem h2]
  rfl

set_option maxRecDepth 100000 in
set_option maxHeartbeats 1000000 in
theorem hexed_any (s : ByteArray) (w : World) (hs : s.size ≤ 1000) :
    Calls Tryz.prog 105 #[.string s] w fun e w' => e = .returned (.string (hexed s)) ∧ Ext [] w w' := by
  by_cases h0 : s.size = 0
  · have he : s = ByteArray.empty := by
      apply ba_ext
      exact List.eq_nil_of_length_eq_zero (by simpa using h0)
    subst he
    go_enter Tryz.func105, Tryz.ntmps105
    go_wp2_with fail
    go_ret
    exact ⟨ret1 (vs (by unfold hexed; rw [if_pos h0])), Ext.refl _ _⟩
  · have hne := str_ne (s := s) (by omega)
    have hx0 : Ext [] w (w.alloc (.cells #[.pointer none, .slice none 0 0] 189)) := (Ext.refl [] w).alloc _
    obtain ⟨c', W1, hcv, hv, hx1⟩ := conv_str s (w.alloc (.cells #[.pointer none, .slice none 0 0] 189)) (by omega)
    simp only [World.size_alloc] at hcv hv
    have hb0 : Bld W1 w.heap.size (w.heap.size + 2) [] := ⟨⟨_, _, .inl rfl, hx1.keep (heap_alloc_new w _) (by simp), .nil⟩, by omega⟩
    have hx2 := hx0.trans hx1
    have hs1 := hx1.size
    simp only [World.size_alloc] at hs1
    have hg1 : w.heap.size + 1 < W1.heap.size := by
      cases hv with | at_ _ _ _ _ hty => obtain ⟨cur, fz, hb⟩ := hty (by omega); exact lt_of_block hb
    clear hx0 hx1
    go_enter Tryz.func105, Tryz.ntmps105
    go_wp2_with fail
    go_loopw [11] (fun iv wl => ∃ (i gb : Nat), iv = .int .i64 i ∧ i ≤ s.size ∧ Bld wl w.heap.size gb (hexL ((bl s).take i)) ∧ w.heap.size + 1 < gb ∧ Ext [] w wl ∧ Vw wl (w.heap.size + 1) 5 1 (.slice (some ⟨w.heap.size + 1, 0, none⟩) s.size c') s.size (bcs (bl s))) (fun iv _ => s.size - (intOf iv).toNat)
    case atStart => exact ⟨0, _, rfl, by omega, hb0, by omega, hx2, hv⟩
    case round =>
      obtain ⟨i, gb, rfl, hi, hb, hgb, hx, hvr⟩ := hrel
      by_cases hlt : i < s.size
      · have hc := hvr.byte i hlt
        rw [Nat.zero_add] at hc
        obtain ⟨ch, hch⟩ : ∃ ch : UInt8, ch = (bl s).getD i 0 := ⟨_, rfl⟩
        have hbt : bAt (bl s) i = (ch.toNat : Int) := by rw [hch]; rfl
        rw [hbt] at hc
        have hcl := ch.toNat_lt
        have hi1 := fun w : World => run_indexK Tryz.prog w 9 Tryz.underlying9 hexS .u8 (ch.toNat / 16) ((ch.toNat : Int) / 16) (by omega) (by show _ < 16; omega)
        have hi2 := fun w : World => run_indexK Tryz.prog w 9 Tryz.underlying9 hexS .u8 (ch.toNat % 16) ((ch.toNat : Int) % 16) (by omega) (by show _ < 16; omega)
        unfold hexS at hi1 hi2
        have HC := Lib.hid hch; clear hch hbt
        have e1 : (bl hexS).getD (ch.toNat / 16) 0 = hexU (ch.toNat / 16) := rfl
        have e2 : (bl hexS).getD (ch.toNat % 16) 0 = hexU (ch.toNat % 16) := rfl
        unfold hexS at e1 e2
        simp only [e1] at hi1
        simp only [e2] at hi2
        have hlx : (hexL ((bl s).take i)).length ≤ 2 * i := by
          rw [hexL_len, List.length_take]; omega
        clear e1 e2
        go_wp2_with fail
        refine (writeByte_any _ _ _ _ _ hb (by omega)).mono ?_
        rintro e w1 ⟨rfl, g1, hb1, hg1', hx1⟩
        go_wp2_with fail
        refine (writeByte_any _ _ _ _ _ hb1 (by simp; omega)).mono ?_
        rintro e w2 ⟨rfl, g2, hb2, hg2', hx2'⟩
        have hsr := hx1.size
        have hgw := hx.size
        have hwr : w.heap.size + 1 < wr.heap.size := by
          cases hvr with | at_ _ _ _ _ hty => obtain ⟨cur, fz, hb⟩ := hty (by omega); exact lt_of_block hb
        go_wp2_with fail
        go_roundw
        case rel =>
          refine ⟨i + 1, g2, by go_num, by omega, ?_, by omega, (hx.step hx1 (by simp; omega)).step hx2' (by simp; omega), (hvr.ext hx1 (by simp; omega)).ext hx2' (by simp; omega)⟩
          rw [hexL_snoc _ _ (by rw [bl_len]; exact hlt), ← HC.out]
          exact hb2
        case measure => simp [intOf]; omega
      · obtain rfl : i = s.size := by omega
        rw [List.take_of_length_le (by rw [bl_len]; exact Nat.le_refl _)] at hb
        have hsw := hx.size
        go_wp2_with fail
        refine (builderString w.heap.size _ gb _ wr hb (by omega) (by omega) hsw).mono ?_
        rintro e w1 ⟨rfl, hbel⟩
        go_wp2_with fail
        go_ret
        exact ⟨ret1 (vs (by unfold hexed; rw [if_neg h0])), hx.upTo hbel hbel.size⟩
end Go.Proofs.YtfadbmfkidiaoaaGreatDoor
