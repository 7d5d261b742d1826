/- An index: a row put, first part. -/
import Derived.Test.YtfadbmfkidiaoaaGreatDoorZ35
namespace Go.Proofs.YtfadbmfkidiaoaaGreatDoor
open Go.RowKit Go Go.MapKept
set_option linter.unusedSimpArgs false
set_option linter.unusedVariables false
set_option linter.unusedSectionVars false
set_option linter.unnecessarySimpa false

theorem conj6' {p0 p1 p2 p3 p4 p5 : Prop} {w W : World} (h : p0 ∧ p1 ∧ p2 ∧ p3 ∧ p4 ∧ p5 ∧ Ext [] w W) : Ext [] w W := h.2.2.2.2.2.2
def Held6 (b B : Nat) (v0 v1 v2 x0 x1 x2 : Value) (w W : World) : Prop :=
  W.cell? ⟨b, 0, none⟩ = some v0 ∧ W.cell? ⟨b, 1, none⟩ = some v1 ∧ W.cell? ⟨b, 2, none⟩ = some v2 ∧ W.cell? ⟨B, 0, none⟩ = some x0 ∧ W.cell? ⟨B, 1, none⟩ = some x1 ∧ W.cell? ⟨B, 2, none⟩ = some x2 ∧ Ext [] w W
theorem Held6.ext {b B : Nat} {v0 v1 v2 x0 x1 x2 : Value} {w W W' : World} (h : Held6 b B v0 v1 v2 x0 x1 x2 w W) (hx : Ext [] W W') : Held6 b B v0 v1 v2 x0 x1 x2 w W' := by
  obtain ⟨h0, h1, h2, h3, h4, h5, h6⟩ := h
  exact ⟨hx.cell h0 (by simp), hx.cell h1 (by simp), hx.cell h2 (by simp), hx.cell h3 (by simp), hx.cell h4 (by simp), hx.cell h5 (by simp), h6.trans hx⟩
theorem Held6.dr {b B : Nat} {v0 v1 v2 x0 x1 x2 : Value} {w W : World} (h : Held6 b B v0 v1 v2 x0 x1 x2 w W) : Held6 b B v0 v1 v2 x0 x1 x2 w W.drew := h.ext (Ext.refl [] W).drew
def PuRel (w2 : World) (K V K2 : ByteArray) (pv iv : Value) (wl : World) : Prop :=
  ∃ (i : Nat) (A : Option Addr) (c' go : Nat), iv = .int .i64 i ∧ i ≤ 1 ∧ pv = .slice A (i + 1) c' ∧ Row wl go 77 2 (.slice A (i + 1) c') (i + 1) (pcs ([(K, V), (K2, eS)].take (i + 1))) ∧ w2.heap.size ≤ go ∧ Ext [] w2 wl
def GeRel (w9 : World) (iv : Value) (wl : World) : Prop := ∃ i : Nat, iv = .int .i64 i ∧ i ≤ 2 ∧ Ext [] w9 wl
def Dn (D : Pairs) (K V K2 : ByteArray) : Nat → Pairs
  | 0 => D
  | 1 => putL D K V
  | _ => putL (putL D K V) K2 eS
def PtRel (w9 : World) (bm2 g2 : Nat) (D : Pairs) (K V K2 : ByteArray) (iv : Value) (wl : World) : Prop :=
  ∃ i gm : Nat, iv = .int .i64 i ∧ i ≤ 2 ∧ Mdl wl bm2 gm (Dn D K V K2 i) ∧ (gm = g2 ∨ w9.heap.size ≤ gm) ∧ Ext [bm2, g2] w9 wl
theorem Vw.x3 {w : World} {g c o : Nat} {a b d : Value} (h : Vw w g 60 3 (.slice (some ⟨g, o, none⟩) 1 c) 1 [a, b, d]) : w.cell? ⟨g, o, none⟩ = some a ∧ w.cell? ⟨g, o + 1, none⟩ = some b ∧ w.cell? ⟨g, o + 2, none⟩ = some d := by
  cases h with
  | at_ hl hn hc hcell hty => exact ⟨hcell 0 _ rfl, hcell 1 _ rfl, hcell 2 _ rfl⟩
theorem Vw.p4 {w : World} {g c o : Nat} {K V K2 V2 : ByteArray} (h : Vw w g 77 2 (.slice (some ⟨g, o, none⟩) 2 c) 2 (pcs [(K, V), (K2, V2)])) : w.cell? ⟨g, o, none⟩ = some (.string K) ∧ w.cell? ⟨g, o + 1, none⟩ = some (.string V) ∧ w.cell? ⟨g, o + 2, none⟩ = some (.string K2) ∧ w.cell? ⟨g, o + 2 + 1, none⟩ = some (.string V2) := by
  cases h with
  | at_ hl hn hc hcell hty => exact ⟨hcell 0 _ rfl, hcell 1 _ rfl, hcell 2 _ rfl, hcell 3 _ rfl⟩
set_option maxRecDepth 100000 in
set_option maxHeartbeats 8000000 in
theorem bPut_any {w : World} {b bm g : Nat} {vk vr vx vc : Value} {gk gr gx gc : Nat} {D : Pairs} (h : Bs w b bm g vk vr vx vc gk gr gx gc D) (js : List Jb) (hD : IX D js) (hn : D.length ≤ 500) (j : Jb) (hok : OkJ j) (hw3 : j.who ≤ 3) (hfr : ∀ i ∈ js, i.id ≠ j.id) (hM : MxL w) (h8 : 8 ≤ w.heap.size) (gl : Nat) (vl : Value) (hv : Vw w gl 93 5 vl 7 (clsC (kJ j ++ rJ j))) (hgl : gl < w.heap.size) :
    Calls Tryz.prog 28 #[.pointer (some ⟨b, 0, none⟩), vl] w fun e w' => e = .returned (.int .i64 0) ∧ ∃ bm' g', Bs w' b bm' g' vk vr vx vc gk gr gx gc (ixPut D j) ∧ Ext [b] w w' := by
  obtain ⟨Ac, cc, rfl, _⟩ := h.c.form
  obtain ⟨Ak, ck, rfl, _⟩ := h.k.form
  obtain ⟨Ar, cr, rfl, _⟩ := h.r.form
  obtain ⟨c0, c1, c2, c3, c4⟩ := h.cells
  have hno := bnone_any h
  have hrow := rowJ j hok gl _ vl w h.tb hv hgl hM h8
  have hks := keyJ_size hok
  have hvs := valJ_size hok
  obtain ⟨n1, n2, n3⟩ := hD.no hok hfr
  have hixl := ixC_len hok hw3 hok.till
  have hks2 : 1 ≤ (ixK j).size ∧ (ixK j).size ≤ 24 := by unfold ixK; rw [keyB_size]; omega
  have hrow2 : ∀ W vt g7 v7, Ext [] w W → Tb W vt 2 [1, 1, 1, 1] [] → Vw W g7 93 5 v7 4 (clsC (ixC j)) → g7 < W.heap.size → Calls Tryz.prog 70 #[vt, v7] W fun e w' => e = .returned (.tuple #[.string (ixK j), .string ⟨#[]⟩, .int .i64 0]) ∧ Ext [] W w' := by
    intro W vt g7 v7 hx ht hv7 hg7
    refine row_any 2 g7 vt v7 (ixC j) [] W ht (by rw [List.append_nil]; exact hv7) ?_ hg7 hixl (by simp [csB]) (hM.ext hx (by simp)) (by have := hx.size; omega)
    intro c hc
    rw [List.append_nil] at hc
    simp only [ixC, List.mem_cons] at hc
    rcases hc with rfl | hc
    · exact .inl ⟨_, rfl, by omega⟩
    · exact hok.cells c (by simp [hc])
  have hHn := Lib.hid (show ixPut D j = Dn D (keyJ j) (valJ j) (ixK j) 2 from rfl)
  have hent := fun W (hx : Ext [] w W) => entry_any gc gl (.slice Ak 3 ck) (.slice Ar 4 cr) (.slice Ac 1 cc) vl j W Ak ck rfl (h.c.ext hx (by simp)) (hv.ext hx (by simp))
  have htab := fun W (hx : Ext [] w W) => tableOf_any gk gr gc (.slice Ak 3 ck) (.slice Ar 4 cr) (.slice Ac 1 cc) W (h.k.ext hx (by simp)) (h.r.ext hx (by simp)) (h.c.ext hx (by simp)) (by have := hx.size; have := h.lt; omega) (by have := hx.size; have := h.lt; omega) (by have := hx.size; have := h.lt; omega)
  have hgetno := fun W (hx : Ext [] w W) => bget_no (h.ext hx) hD.srt (by omega) (keyJ j) hks.1 hks.2 n1
  have hs0 := Lib.hid hD.srt
  have N1 := Lib.hid n1
  have N2 := Lib.hid n2
  clear n1 n2 n3 hfr hixl
  generalize keyJ j = K at *
  generalize valJ j = V at *
  generalize ixK j = K2 at *
  go_enter Tryz.func28, Tryz.ntmps28
  go_wp2_with fail
  refine hno.mono ?_
  rintro e w1 ⟨rfl, rfl⟩
  clear hno
  go_wp2_with fail
  refine hrow.mono ?_
  rintro e w1 ⟨rfl, hx1⟩
  clear hrow
  have h1 := h.ext hx1
  have hz1 := hx1.size
  obtain ⟨d0, d1, d2, d3, d4⟩ := h1.cells
  have hxw := h1.x
  obtain ⟨Ax, cx, rfl, _⟩ := hxw.form
  obtain ⟨ox, rfl⟩ := hxw.headU (by omega)
  have hx2 : Ext [] w1 (w1.alloc (.cells #[.string K, .string V] 77)) := (Ext.refl [] w1).alloc _
  have hrp := Row.new w1 77 2 #[.string K, .string V] 1 1 (by omega) (by simp [maxLen]) rfl
  clear c0 c1 c2 c3 c4
  obtain ⟨e0, e1, e2, e3, e4⟩ := (h1.ext hx2).cells
  go_wp2_with fail
  generalize (w1.alloc (.cells #[.string K, .string V] 77)) = w2 at *
  have hx02 := hx1.trans hx2
  have hz2 := hx02.size
  clear d0 d1 d2 d3 d4
  go_loopw [8, 48] (PuRel w1 K V K2) (fun _ iv _ => 1 - (intOf iv).toNat)
  case atStart => exact ⟨0, _, _, w1.heap.size, rfl, Nat.zero_le _, rfl, hrp, Nat.le_refl _, hx2⟩
  case round =>
    clear e0 e1 e2 e3 e4 hrp hx2 hx02 hz2
    obtain ⟨i, A, c', go, rfl, hi, rfl, hro, hgo, hx⟩ := hrel
    have hr := h1.ext hx
    have hxr := hx1.trans hx
    have hzr := hx.size
    obtain ⟨e0, e1, e2, e3, e4⟩ := hr.cells
    rcases (show i = 0 ∨ i = 1 by omega) with rfl | rfl
    · obtain ⟨x0, x1, x2⟩ := hr.x.x3
      have hnb := heap_alloc_new wr (.cells #[.int .i64 2, .slice Ac 1 cc, .bool false] 60)
      have hxa : Ext [] wr (wr.alloc (.cells #[.int .i64 2, .slice Ac 1 cc, .bool false] 60)) := (Ext.refl [] _).alloc _
      go_wp2_with fail
      obtain ⟨W0, hW0⟩ : ∃ W0, W0 = (wr.alloc (.cells #[.int .i64 2, .slice Ac 1 cc, .bool false] 60)) := ⟨_, rfl⟩
      rw [← hW0] at hnb hxa ⊢
      clear hW0
      obtain ⟨⟨t0, t1, t2⟩, _⟩ := cells3 hnb
      have hpt : Held6 b wr.heap.size (.int .i64 1) (.slice Ak 3 ck) (.slice Ar 4 cr) (.int .i64 2) (.slice Ac 1 cc) (.bool false) W0 W0 := ⟨hxa.cell e0 (by simp), hxa.cell e1 (by simp), hxa.cell e2 (by simp), t0, t1, t2, Ext.refl _ _⟩
      have hxra := hxr.trans hxa
      go_region_held3 (fun W => W.cell? ⟨b, 0, none⟩ = some (.int .i64 1) ∧ W.cell? ⟨b, 1, none⟩ = some (.slice Ak 3 ck) ∧ W.cell? ⟨b, 2, none⟩ = some (.slice Ar 4 cr) ∧ W.cell? ⟨wr.heap.size, 0, none⟩ = some (.int .i64 2) ∧ W.cell? ⟨wr.heap.size, 1, none⟩ = some (.slice Ac 1 cc) ∧ W.cell? ⟨wr.heap.size, 2, none⟩ = some (.bool false) ∧ Ext [] W0 W)
        (first | exact Held6.dr hpt | exact Held6.ext (by assumption) hxn)
        (first
          | (go_at_call 76; refine (htab _ (hxra.trans (conj6' (by assumption)))).mono ?_; rintro e w' ⟨vt, rfl, ht, hxn⟩)
          | (go_at_call 77; refine (hent _ (hxra.trans (conj6' (by assumption)))).mono ?_; rintro e w' ⟨g7, v7, rfl, hr7, hg7, hxn⟩; have ht2 := ht.ext hxn)
          | (go_at_call 70; refine (hrow2 _ _ g7 _ (hxra.trans (conj6' (by assumption))) ht2 hr7.vw (hr7.blt (by omega))).mono ?_; rintro e w' ⟨rfl, hxn⟩))
      rename_i hHeld
      have hS := conj6' hHeld
      clear hHeld
      simp only [Nat.zero_add] at hro
      rename World => w5
      have hx05 := hxa.trans hS
      have hn2 := Row.new w5 77 2 #[.string K2, .string ⟨#[]⟩] 1 1 (by omega) (by simp [maxLen]) rfl
      have hro5 := (hro.ext hx05 (by simp)).ext ((Ext.refl [] w5).alloc (.cells #[.string K2, .string ⟨#[]⟩] 77)) (by simp)
      have hone : ∀ u ∈ [Value.string K2, .string ⟨#[]⟩], u.oneCell' = true := pcs_one [(K2, ⟨#[]⟩)]
      clear hro hr hxn ht ht2 hr7 hnb t0 t1 t2 x0 x1 x2 e0 e1 e2 e3 e4
      go_wp2_with ((with_reducible refine wpList_append T32 rfl (.tmp 73) (.tmp 77) rfl rfl rfl hro5 hn2.vw hone (by omega) (by omega) ?_); rintro g9 A9 c9 w9 hr9 hx9 hg9 hA9 _ _; obtain rfl := hA9 (by omega))
      have hz5 := hx05.size
      simp only [World.size_alloc] at hg9
      have hxa9 : Ext [go] wr w9 := ((hx05.mono (by simp)).alloc _).trans hx9
      refine ⟨?rel, ?measure⟩
      case rel => exact ⟨1, some ⟨g9, 0, none⟩, c9, g9, by go_num, Nat.le_refl _, rfl, hr9, by omega, hx.step hxa9 (by simp; omega)⟩
      case measure => simp [intOf]
    · simp only [Nat.reduceAdd] at hro ⊢
      have hgol := hro.blt (by omega)
      have hvp : Vw wr go 77 2 (.slice A 2 c') 2 (pcs [(K, V), (K2, eS)]) := hro.vw
      obtain ⟨o, rfl⟩ := hvp.headU (by omega)
      have hcp := copy_any bm g D wr hr.mdl (by omega)
      have hgn := hgetno
      clear hgetno hro htab hent hrow2
      go_wp2_with fail
      refine hcp.mono ?_
      rintro e w6 ⟨b2, g2, rfl, hm6, hb2, hg2, hx6⟩
      clear hcp e0 e1 e2 e3 e4
      have hx06 := hxr.trans hx6
      go_wp2_with fail
      refine (hgn w6 hx06).mono ?_
      rintro e w7 ⟨rfl, hx7⟩
      clear hgn
      have hx67 := hx6.trans hx7
      have hm7 := hm6.ext hx7 (by simp) (by simp)
      have hvp7 := hvp.ext hx67 (by simp)
      have hz6 := hx6.size
      have hz7 := hx7.size
      have hltm : b2 < w7.heap.size ∧ g2 < w7.heap.size := by
        obtain ⟨⟨v, hv', _⟩, hlt, _, _⟩ := hm7
        exact ⟨lt_of_block hv', hlt⟩
      go_wp2_with fail
      go_loopw [99] (GeRel w7) (fun iv _ => 2 - (intOf iv).toNat)
      case atStart => exact ⟨0, rfl, Nat.zero_le _, Ext.refl _ _⟩
      case round =>
        rename World => w8
        obtain ⟨i, rfl, hi2, hx8⟩ := hrel
        have hm8 := hm7.ext hx8 (by simp) (by simp)
        obtain ⟨k0, k1, k2, k3⟩ := (hvp7.ext hx8 (by simp)).p4
        rcases (show i = 0 ∨ i = 1 ∨ i = 2 by omega) with rfl | rfl | rfl
        · have hxa : Ext [] w8 (w8.alloc (.cells #[.string K, .string V] 77)) := (Ext.refl [] _).alloc _
          have hgt := get_no b2 g2 D K _ (hm8.ext hxa (by simp) (by simp)) (by omega) hs0.out hks.1 hks.2 N1.out
          go_wp2_with fail
          refine hgt.mono ?_
          rintro e w9 ⟨rfl, hx9⟩
          clear hgt k0 k1 k2 k3
          go_wp2_with fail
          refine ⟨?rel, ?measure⟩
          case rel => exact ⟨1, by go_num, by omega, (hx8.trans hxa).trans hx9⟩
          case measure => simp [intOf]
        · have hxa : Ext [] w8 (w8.alloc (.cells #[.string K2, .string eS] 77)) := (Ext.refl [] _).alloc _
          have hgt := get_no b2 g2 D K2 _ (hm8.ext hxa (by simp) (by simp)) (by omega) hs0.out hks2.1 hks2.2 N2.out
          go_wp2_with fail
          refine hgt.mono ?_
          rintro e w9 ⟨rfl, hx9⟩
          clear hgt k0 k1 k2 k3
          go_wp2_with fail
          refine ⟨?rel, ?measure⟩
          case rel => exact ⟨2, by go_num, by omega, (hx8.trans hxa).trans hx9⟩
          case measure => simp [intOf]
        · have hlen := len_any b2 g2 D w8 hm8
          have hvp8 := hvp7.ext hx8 (by simp)
          have hz8 := hx8.size
          have hlb := lt_of_block h.blk
          have hx08 : Ext [] w w8 := (hx06.trans hx7).trans hx8
          clear k0 k1 k2 k3
          have HL1 := Lib.hid (putL_len (v := V) N1.out)
          have HS1 := Lib.hid (srt_put hs0.out K V)
          go_wp2_with fail
          refine hlen.mono ?_
          rintro e w9 ⟨rfl, rfl⟩
          clear hlen
          go_wp2_with fail
          go_loopw [121] (PtRel w8 b2 g2 D K V K2) (fun iv _ => 2 - (intOf iv).toNat)
          case atStart => exact ⟨0, g2, rfl, Nat.zero_le _, hm8, .inl rfl, Ext.refl _ _⟩
          case round =>
            rename World => w10
            obtain ⟨i, gm, rfl, hi3, hm10, hgm, hx10⟩ := hrel
            have hz10 := hx10.size
            obtain ⟨k0, k1, k2, k3⟩ := (hvp8.ext hx10 (by simp; omega)).p4
            rcases (show i = 0 ∨ i = 1 ∨ i = 2 by omega) with rfl | rfl | rfl
            · have hxa : Ext [] w10 (w10.alloc (.cells #[.string K, .string V] 77)) := (Ext.refl [] _).alloc _
              have hgt := put_any b2 gm D K V _ (hm10.ext hxa (by simp) (by simp)) (by omega) hs0.out hks.1 hks.2 hvs
              go_wp2_with fail
              refine hgt.mono ?_
              rintro e w11 ⟨rfl, g11, hm11, hg11, hx11⟩
              clear hgt k0 k1 k2 k3 hm10
              simp only [World.size_alloc] at hg11
              go_wp2_with fail
              refine ⟨?rel, ?measure⟩
              case rel => exact ⟨1, g11, by go_num, by omega, hm11, by omega, (hx10.trans0 hxa).step hx11 (by simp; omega)⟩
              case measure => simp [intOf]
            · have hxa : Ext [] w10 (w10.alloc (.cells #[.string K2, .string eS] 77)) := (Ext.refl [] _).alloc _
              have hgt := put_any b2 gm (putL D K V) K2 eS _ (hm10.ext hxa (by simp) (by simp)) (by have := HL1.out; omega) HS1.out hks2.1 hks2.2 (by show (0 : Nat) ≤ 40; omega)
              go_wp2_with fail
              refine hgt.mono ?_
              rintro e w11 ⟨rfl, g11, hm11, hg11, hx11⟩
              clear hgt k0 k1 k2 k3 hm10
              simp only [World.size_alloc] at hg11
              go_wp2_with fail
              refine ⟨?rel, ?measure⟩
              case rel => exact ⟨2, g11, by go_num, by omega, hm11, by omega, (hx10.trans0 hxa).step hx11 (by simp; omega)⟩
              case measure => simp [intOf]
            · have hx010 : Ext [] w w10 := hx08.step hx10 (by simp; have := hx06.size; have := hx6.size; have := hx7.size; omega)
              have hbk := hx010.keep h.blk (by simp)
              obtain ⟨⟨_, _, _, _, m4⟩, _, _, _, _, y4⟩ := cells5 hbk
              have hset := heap_setCell_same w10 b 4 _ 155 (.pointer (some ⟨b2, 0, none⟩)) hbk
              have hxs : Ext [b] w10 (w10.setCell ⟨b, 4, none⟩ (.pointer (some ⟨b2, 0, none⟩))) := (Ext.refl [b] w10).setCell (.inl (by simp)) _
              have hne := h.ne
              have hlt := h.lt
              clear k0 k1 k2 k3
              go_wp2_with fail
              go_ret
              have hxf := (hx010.mono (by simp) : Ext [b] w w10).trans hxs
              have hzf := hxf.size
              have hz06 := hx06.size
              refine ⟨rfl, b2, gm, ⟨hset, h.k.ext hxf (by simp; omega), h.r.ext hxf (by simp; omega), h.x.ext hxf (by simp; omega), h.c.ext hxf (by simp; omega), ?_, by omega, by omega, h.lo⟩, hxf⟩
              rw [hHn.out]
              exact hm10.ext hxs (by simp; omega) (by simp; omega)
end Go.Proofs.YtfadbmfkidiaoaaGreatDoor
