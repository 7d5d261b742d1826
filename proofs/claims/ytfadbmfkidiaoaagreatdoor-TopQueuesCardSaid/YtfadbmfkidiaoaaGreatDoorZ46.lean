/- An index: the rows by who has them, first part. -/
import Derived.Test.YtfadbmfkidiaoaaGreatDoorZ45
import Derived.Deep.DeepCutAuto
namespace Go.Proofs.YtfadbmfkidiaoaaGreatDoor
open Go.RowKit Go Go.MapKept
set_option linter.unusedSimpArgs false
set_option linter.unusedVariables false
set_option linter.unusedSectionVars false
set_option linter.unnecessarySimpa false

set_option maxRecDepth 100000 in
set_option maxHeartbeats 800000 in
theorem by1_any (p : Nat) (Ac : Option Addr) (cc : Nat) (w : World) (hp : w.cell? ⟨p, 0, none⟩ = some (.int .i64 2)) :
    Calls Tryz.prog 81 #[.agg #[.int .i64 2, .slice Ac 1 cc, .bool false], .pointer (some ⟨p, 0, none⟩)] w fun e w' => e = .returned (.bool true) ∧ Ext [] w w' := by
  have hx : Ext [] w (w.alloc (.cells #[.int .i64 2, .slice Ac 1 cc, .bool false] 60)) := (Ext.refl [] w).alloc _
  have hp' := hx.cell hp (by simp)
  go_enter Tryz.func81, Tryz.ntmps81
  go_wp2_with fail
  go_ret
  exact ⟨ret1 rfl, hx⟩
set_option maxRecDepth 100000 in
set_option maxHeartbeats 800000 in
theorem indexFn_any (p gx ox cx : Nat) (Ac : Option Addr) (cc : Nat) (w : World) (hp : w.cell? ⟨p, 0, none⟩ = some (.int .i64 2)) (hv : Vw w gx 60 3 (.slice (some ⟨gx, ox, none⟩) 1 cx) 1 [.int .i64 2, .slice Ac 1 cc, .bool false]) :
    Calls Tryz.prog 80 #[.slice (some ⟨gx, ox, none⟩) 1 cx, .func (.func 81) #[] #[.pointer (some ⟨p, 0, none⟩)]] w fun e w' => e = .returned (.int .i64 0) ∧ Ext [] w w' := by
  obtain ⟨x0, x1, x2⟩ := hv.x3
  have h1 := by1_any p Ac cc w hp
  go_enter Tryz.func80, Tryz.ntmps80
  go_wp2_with fail
  go_loopw [8] (fun iv wl => iv = .int .i64 0 ∧ wl = w) (fun _ _ => 0)
  case atStart => exact ⟨rfl, rfl⟩
  case round =>
    obtain ⟨rfl, hwr⟩ := hrel
    subst hwr
    go_wp2_with fail
    refine h1.mono ?_
    rintro e w1 ⟨rfl, hx⟩
    go_wp2_with fail
    go_ret
    exact ⟨rfl, hx⟩
def ByCut (B0 : Nat) (W0 : World) (a : Value) (wx : World) : Prop := ∃ B A4 c4, a = .pointer (some ⟨B, 0, none⟩) ∧ B0 ≤ B ∧ wx.heap[B]? = some (.cells #[.int .i64 2, .slice A4 4 c4, .slice none 0 0] 55 (0, 0)) ∧ Tb wx (.agg #[.int .i64 2, .slice A4 4 c4, .slice none 0 0]) 2 [1, 1, 1, 1] [] ∧ Ext [] W0 wx
theorem readI (j : Jb) (h : OkJ j) (hw : j.who ≤ 3) (vt : Value) (w : World) (ht : Tb w vt 2 [1, 1, 1, 1] []) (hM : MxL w) (h8 : 8 ≤ w.heap.size) :
    Calls Tryz.prog 24 #[vt, .string (ixK j), .string eS] w fun e w' => ∃ g' c', e = .returned (.tuple #[.slice (some ⟨g', 0, none⟩) 4 c', .int .i64 0]) ∧ Row w' g' 93 5 (.slice (some ⟨g', 0, none⟩) 4 c') 4 (clsC (ixC j)) ∧ g' < w'.heap.size ∧ Ext [] w w' := by
  have hok : OkCs (ixC j ++ []) := by
    intro c hc
    rw [List.append_nil] at hc
    simp only [ixC, List.mem_cons] at hc
    rcases hc with rfl | hc
    · exact .inl ⟨_, rfl, by omega⟩
    · exact h.cells c (by simp [hc])
  refine (read_any 2 vt (ixC j) [] w ht hok (ixC_len h hw h.till) (by simp [csB]) hM h8).mono ?_
  rintro e w' ⟨g', v', rfl, hr, _, hg, hx⟩
  rw [List.append_nil] at hr
  have hr4 : Row w' g' 93 5 v' 4 (clsC (ixC j)) := hr
  obtain ⟨A, c, rfl, hA, _⟩ := hr4.form
  obtain rfl := hA (by omega)
  exact ⟨g', c, rfl, hr4, hg, hx⟩
set_option maxRecDepth 100000 in
set_option maxHeartbeats 8000000 in
theorem by_any {w : World} {b bm g : Nat} {vk vr vx vc : Value} {gk gr gx gc : Nat} {D : Pairs} (h : Bs w b bm g vk vr vx vc gk gr gx gc D) (js : List Jb) (hD : IX D js) (hn : D.length ≤ 500) (hM : MxL w) (h8 : 8 ≤ w.heap.size) :
    Calls Tryz.prog 29 #[.pointer (some ⟨b, 0, none⟩), .int .i64 2, .slice none 0 0] w fun e w' => ∃ g' v' vs is, e = .returned (.tuple #[v', .int .i64 0]) ∧ Row w' g' 73 1 v' js.length vs ∧ RwL w' w.heap.size g' vs is ∧ w.heap.size ≤ g' ∧ is.length = js.length ∧ (∀ j ∈ is, j ∈ js) ∧ (is.Pairwise fun i j => i.who ≤ j.who) ∧ Ext [] w w' := by
  obtain ⟨Ac, cc, rfl, _⟩ := h.c.form
  obtain ⟨Ak, ck, rfl, _⟩ := h.k.form
  obtain ⟨Ar, cr, rfl, _⟩ := h.r.form
  obtain ⟨Ax, cx, rfl, _⟩ := h.x.form
  obtain ⟨ox, rfl⟩ := h.x.headU (by omega)
  have hx0 : Ext [] w (w.alloc (.cells #[.int .i64 2] 3)) := (Ext.refl [] w).alloc _
  have hp0 := cell_of_row _ _ 0 _ _ _ (heap_alloc_new w (.cells #[.int .i64 2] 3))
  have hz0 : (w.alloc (.cells #[.int .i64 2] 3)).heap.size = w.heap.size + 1 := by simp
  have h0 := h.ext hx0
  have hno := bnone_any h0
  obtain ⟨c0, c1, c2, c3, c4⟩ := h0.cells
  have hif := indexFn_any w.heap.size gx ox cx Ac cc _ hp0 h0.x
  have htab := fun W (hx : Ext [] w W) => tableOf2_any gk gr gc (.slice Ak 3 ck) (.slice Ar 4 cr) (.slice Ac 1 cc) W (h.k.ext hx (by simp)) (h.r.ext hx (by simp)) (h.c.ext hx (by simp)) (by have := hx.size; have := h.lt; omega) (by have := hx.size; have := h.lt; omega) (by have := hx.size; have := h.lt; omega)
  go_enter Tryz.func29, Tryz.ntmps29
  go_wp2_with fail
  refine hno.mono ?_
  rintro e w1 ⟨rfl, rfl⟩
  clear hno
  go_wp2_with fail
  generalize (w.alloc (.cells #[.int .i64 2] 3)) = w1 at *
  refine hif.mono ?_
  rintro e w2 ⟨rfl, hx2⟩
  clear hif
  have h2 := h0.ext hx2
  have hx02 := hx0.trans hx2
  have hz2 := hx2.size
  obtain ⟨d0, d1, d2, d3, d4⟩ := h2.cells
  obtain ⟨x0, x1, x2⟩ := h2.x.x3
  clear c0 c1 c2 c3 c4
  have hx3 : Ext [] w2 (w2.alloc (.cells #[.int .i64 2, .slice Ac 1 cc, .bool false] 60)) := (Ext.refl [] _).alloc _
  have hnb := heap_alloc_new w2 (.cells #[.int .i64 2, .slice Ac 1 cc, .bool false] 60)
  obtain ⟨W0, hW0⟩ : ∃ W0, W0 = (w2.alloc (.cells #[.int .i64 2, .slice Ac 1 cc, .bool false] 60)) := ⟨_, rfl⟩
  rw [← hW0] at hx3 hnb
  go_upto_region 7 with fail
  rw [← hW0]
  clear hW0
  obtain ⟨⟨t0, t1, t2⟩, _⟩ := cells3 hnb
  have hx03 := hx02.trans hx3
  have hz3 := hx3.size
  have a0 := hx3.drew.cell d0 (by simp)
  have a1 := hx3.drew.cell d1 (by simp)
  have a2 := hx3.drew.cell d2 (by simp)
  have hdr : Ext [] W0 W0.drew := (Ext.refl [] W0).drew
  have b0 := hdr.cell t0 (by simp)
  have b1 := hdr.cell t1 (by simp)
  have b2 := hdr.cell t2 (by simp)
  have hal : Ext [] W0 (W0.alloc (.cells #[.int .i64 0, .slice none 0 0, .slice none 0 0] 55)).drew := ((Ext.refl [] _).alloc _).drew
  have hnal : (W0.alloc (.cells #[.int .i64 0, .slice none 0 0, .slice none 0 0] 55)).drew.heap[W0.heap.size]? = some (.cells #[.int .i64 0, .slice none 0 0, .slice none 0 0] 55 (0, 0)) := heap_alloc_new W0 (.cells #[.int .i64 0, .slice none 0 0, .slice none 0 0] 55)
  have a0' := hal.cell (hx3.cell d0 (by simp)) (by simp)
  have a1' := hal.cell (hx3.cell d1 (by simp)) (by simp)
  have a2' := hal.cell (hx3.cell d2 (by simp)) (by simp)
  have b0' := hal.cell t0 (by simp)
  have b1' := hal.cell t1 (by simp)
  have b2' := hal.cell t2 (by simp)
  have ht1 := htab W0.drew hx03.drew
  have ht2 := htab _ (hx03.trans hal)
  have hzd : W0.drew.heap.size = W0.heap.size := rfl
  clear htab
  go_cut [10] (fun a wx => ByCut (w.heap.size + 1) W0 a wx)
  case first =>
    go_region_with
      (first
        | (go_at_call 76; with_reducible refine ht1.mono ?_; rintro e w5 ⟨A4, c4, gq, rfl, hT, hgq1, hgq2, hx5⟩)
        | (go_at_call 76; with_reducible refine ht2.mono ?_; rintro e w5 ⟨A4, c4, gq, rfl, hT, hgq1, hgq2, hx5⟩; have hn5 := hx5.keep hnal (by simp); obtain ⟨⟨m0, m1, m2⟩, y0, y1, y2⟩ := cells3 hn5))
    all_goals (
      go_wp2_with fail
      go_meet
      case rel =>
        first
          | exact ⟨w5.heap.size, A4, c4, rfl, by have := hx5.size; omega, heap_alloc_new w5 _, tb2_mk (hT.ext ((Ext.refl [] w5).alloc _) (by simp)) (by simp; omega), (hdr.trans hx5).alloc _⟩
          | exact ⟨W0.heap.size, A4, c4, rfl, by omega, put3_heap hn5, by
              have hxs : Ext [W0.heap.size] w5 (((w5.setCell ⟨W0.heap.size, 0, none⟩ (.int .i64 2)).setCell ⟨W0.heap.size, 1, none⟩ (.slice A4 4 c4)).setCell ⟨W0.heap.size, 2, none⟩ (.slice none 0 0)) := (((Ext.refl _ w5).setCell (.inl (by simp)) _).setCell (.inl (by simp)) _).setCell (.inl (by simp)) _
              have hq : gq ≠ W0.heap.size := by
                have : (W0.alloc (.cells #[.int .i64 0, .slice none 0 0, .slice none 0 0] 55)).drew.heap.size = W0.heap.size + 1 := World.size_alloc ..
                omega
              exact tb2_mk (hT.ext hxs (by simpa using hq)) (by have := hxs.size; omega), (((((Ext.refl [] W0).alloc _).drew.trans hx5).setCell (.inr (Nat.le_refl _)) _).setCell (.inr (Nat.le_refl _)) _).setCell (.inr (Nat.le_refl _)) _⟩)
  case rest =>
    obtain ⟨B, A4, c4, rfl, hB, hcb, hT, hx9⟩ := hcut
    clear a0 a1 a2 b0 b1 b2 d0 d1 d2 d3 d4 x0 x1 x2 t0 t1 t2 hal hzd hp0
    have hx0c : Ext [] w wc := hx03.trans hx9
    have hzc := hx0c.size
    have hnc := hx9.keep hnb (by simp)
    obtain ⟨⟨t0, t1, t2⟩, _⟩ := cells3 hnc
    obtain ⟨⟨s0, s1, s2⟩, _⟩ := cells3 hcb
    have hMc := hM.ext hx0c (by simp)
    have hspan := span_any 2 0 _ (.slice none 0 0) [] [1, 1, 1, 1] [] wc hT rfl (by simp) .nil (fun c hc => by cases hc) (by omega) (by simp [csB]) hMc (by omega) [] 2 rfl (by decide)
    have hlo : keyB 2 [] = ⟨#[2]⟩ := ba_ext (by show bl _ = _; rw [keyB_bl]; rfl)
    have hhi : (⟨([] ++ [(2 : UInt8) + 1]).toArray⟩ : ByteArray) = ⟨#[3]⟩ := rfl
    rw [hlo, hhi] at hspan
    have hwi := fun W (hx : Ext [] w W) => within_any bm g D ⟨#[2]⟩ ⟨#[3]⟩ W (h.mdl.ext hx (by simp) (by simp)) (by omega) (str_ne (by show 1 ≤ 1; omega)) _ rfl
    obtain ⟨is, his1, his2, his3, his4⟩ := hD.by_
    rw [his1] at hwi
    have hjl : js.length ≤ 500 := by have := hD.len; omega
    clear hlo hhi his1
    generalize (⟨#[2]⟩ : ByteArray) = lo at *
    generalize (⟨#[3]⟩ : ByteArray) = hi at *
    go_wp2_with fail
    refine hspan.mono ?_
    rintro e w4 ⟨rfl, hx4⟩
    have hx04 := hx0c.trans hx4
    have hwi1 := hwi w4 hx04
    obtain ⟨_, _, _, _, d4⟩ := (h.ext hx04).cells
    clear hspan hwi
    go_wp2_with fail
    refine hwi1.mono ?_
    rintro e w3 ⟨gp, vp, rfl, hrp, hgp, hx5⟩
    clear hwi1
    have hx05 := hx04.trans hx5
    have hz05 := hx05.size
    have hc3 := (hx4.trans hx5).keep hcb (by simp)
    have hT3 := hT.ext (hx4.trans hx5)
    have hn3 := (hx4.trans hx5).keep hnc (by simp)
    rw [List.length_map] at hrp
    obtain ⟨Ap, cp, rfl, _⟩ := hrp.vw.form
    have HPR := Lib.hid hrp.vw
    have HO := Lib.hid hD.ok
    clear hrp s0 s1 s2 t0 t1 t2 hnc hcb hT
    generalize hN : is.length = N at *
    have HN := Lib.hid hN; clear hN
    rw [← his2] at hjl
    have HJ := Lib.hid his2; clear his2
    go_wp2_with fail
    go_loopw [14, 67] (RoRel w3 w.heap.size is) (fun _ iv _ => N - (intOf iv).toNat)
    case atStart => exact ⟨0, none, 0, w3.heap.size, [], rfl, Nat.zero_le _, rfl, .nil, trivial, Nat.le_refl _, Ext.refl _ _⟩
    case round =>
      obtain ⟨i, A, c', go, vs, rfl, hi', rfl, hro, hrw, hgo, hx⟩ := hrel
      rw [HN.out] at hi'
      have hxr := hx05.trans hx
      have hzr := hx.size
      by_cases hlt : i < N
      · have hil : i < is.length := by have := HN.out; omega
        have hvp := HPR.out
        obtain ⟨o, rfl⟩ := hvp.headU (by omega)
        obtain ⟨k0, k1⟩ := (hvp.ext hx (by simp)).pair i hlt
        have e0 : kAt (is.map fun j => (ixK j, eS)) i = ixK (is[i]'hil) := by rw [kAt_eq _ _ (by rw [List.length_map]; omega)]; simp
        have e1 : vAt (is.map fun j => (ixK j, eS)) i = eS := by rw [vAt_eq _ _ (by rw [List.length_map]; omega)]; simp
        rw [e0] at k0
        rw [e1] at k1
        clear e0 e1
        have hJm := his3 _ (List.getElem_mem hil)
        have htk := Lib.hid (show is.take (i + 1) = is.take i ++ [is[i]'hil] by rw [List.take_add_one, List.getElem?_eq_getElem hil]; rfl)
        generalize (is[i]'hil) = J at *
        obtain ⟨hjo, hjw⟩ := HO.out J hJm
        have hxa : Ext [] wr (wr.alloc (.cells #[.string (ixK J), .string eS] 77)) := (Ext.refl [] _).alloc _
        have hxra := hxr.trans hxa
        have hza := hxa.size
        have hc4 := hxa.keep (hx.keep hc3 (by simp)) (by simp)
        have hrd := readI J hjo hjw _ _ ((hT3.ext hx).ext hxa) (hM.ext hxra (by simp)) (by have := hxra.size; omega)
        obtain ⟨⟨s0, s1, s2⟩, _⟩ := cells3 hc4
        generalize ixK J = K at *
        go_wp2_with fail
        refine hrd.mono ?_
        rintro e w6 ⟨g6, c6, rfl, hr6, hg6, hx6⟩
        clear hrd s0 s1 s2 k0 k1
        have hx06 := hxra.trans hx6
        have hn6 := hx6.keep (hxa.keep (hx.keep hn3 (by simp)) (by simp)) (by simp)
        obtain ⟨⟨t0, t1, t2⟩, _⟩ := cells3 hn6
        obtain ⟨A', hs1, hA1, hA2⟩ := slice_l T73 (some ⟨g6, 0, none⟩) 4 c6 1 (z := 1) rfl (by omega)
        have hv6 := hr6.vw.tail 1 (by omega) hA1 hA2
        have hv3 : Vw w6 g6 93 5 (.slice A' 3 (c6 - 1)) 3 (clsC (kJ J)) := hv6
        have hs2 : ∀ w : World, (Instr.slice 73 (.slice (some ⟨g6, 0, none⟩) 4 c6) (some (.int .i64 1)) none none).run Tryz.prog w = .ok (.slice A' 3 (c6 - 1)) w := hs1
        have hgt := bGet_yes (h.ext hx06) js hD (by omega) J hJm (hM.ext hx06 (by simp)) (by have := hx06.size; omega) g6 _ hv3 hg6
        clear hs1 hv6 hA1 hA2
        go_wp2_with fail
        refine hgt.mono ?_
        rintro e w7 ⟨g7, v7, rfl, hr7, hg7, hg7', hx7⟩
        clear hgt t0 t1 t2 hs2
        obtain ⟨A7, c7, rfl, hA7, _⟩ := hr7.form
        obtain rfl := hA7 (by omega)
        have hxr7 : Ext [] wr w7 := (hxa.trans hx6).trans hx7
        have hz7 := hx7.size
        have hz6 := hx6.size
        obtain ⟨go2, hro2, hpk⟩ := hro.pick (w7.heap.size + 1)
        have hro5 := (hro2.ext hxr7 (by simp)).ext ((Ext.refl [] w7).alloc (.cells #[.slice (some ⟨g7, 0, none⟩) 7 c7] 73)) (by simp)
        have hn2 := Row.new w7 73 1 #[.slice (some ⟨g7, 0, none⟩) 7 c7] 1 1 (by omega) (by simp [maxLen]) rfl
        have hone := one_slice hr7.vw
        simp only [World.size_alloc] at hza hz6
        have hrw5 : RwL w7 w.heap.size go2 vs (is.take i) := hrw.ext hxr7 (by simp) (by omega)
        have hrw6 := hrw5.snoc (v := .slice (some ⟨g7, 0, none⟩) 7 c7) (j := J) (g := g7) (by omega) hg7' (by omega) hr7.vw
        clear hrw hro hro2 hr7 hr6
        go_wp2_with ((with_reducible refine wpList_append T72 rfl (.tmp 96) (.tmp 98) rfl rfl rfl hro5 hn2.vw hone (by omega) (by omega) ?_); rintro g9 A9 c9 w9 hr9 hx9 hg9 hA9 _ _; obtain rfl := hA9 (by omega))
        simp only [World.size_alloc] at hg9
        have hx79 : Ext [go2] w7 w9 := ((Ext.refl [go2] w7).alloc _).trans hx9
        have hxf : Ext [] w3 w9 := (hx.trans hxr7).step hx79 (by simp; omega)
        refine ⟨?rel, ?measure⟩
        case rel =>
          refine ⟨i + 1, some ⟨g9, 0, none⟩, c9, g9, vs ++ [.slice (some ⟨g7, 0, none⟩) 7 c7], by go_num, by have := HN.out; omega, rfl, hr9, ?_, by omega, hxf⟩
          rw [htk.out]
          exact hrw6.ext hx79 (by simp) (by omega)
        case measure => simp [intOf]; omega
      · obtain rfl : i = N := by omega
        have e : is.take i = is := List.take_of_length_le (by have := HN.out; omega)
        rw [e] at hrw
        go_wp2_with fail
        go_ret2
        exact ⟨go, _, vs, is, rfl, by rw [← HJ.out]; exact hro, hrw, by omega, by rw [HN.out]; exact HJ.out, his3, his4, hxr⟩
end Go.Proofs.YtfadbmfkidiaoaaGreatDoor
