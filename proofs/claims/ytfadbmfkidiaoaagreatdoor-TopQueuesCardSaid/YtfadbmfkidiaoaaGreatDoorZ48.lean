/- A queue and all that is checked of it: the walk. -/
import Derived.Test.YtfadbmfkidiaoaaGreatDoorZ47
namespace Go.Proofs.YtfadbmfkidiaoaaGreatDoor
open Go.RowKit Go Go.MapKept
set_option linter.unusedSimpArgs false
set_option linter.unusedVariables false
set_option linter.unusedSectionVars false
set_option linter.unnecessarySimpa false

set_option maxRecDepth 100000 in
set_option maxHeartbeats 8000000 in
theorem queued_any (gw : Nat) (v : Value) (n : Nat) (l : List Dd) (s lo : Nat) (w : World) (hv : Dv w gw v n l) (hn : n ≤ 20) (hb : ∀ x ∈ l, x.body.size ≤ 30) (hs1 : 1 ≤ s) (hs2 : s ≤ 64) (hlo : lo ≤ loL l) (hM : MxL w) (h8 : 8 ≤ w.heap.size) (hgw : gw < w.heap.size) :
    Calls Tryz.prog 6 #[v, .int .i64 s, .int .i64 lo] w fun e w' => e = .returned (.bool true) ∧ Ext [] w w' := by
  obtain ⟨A, c, rfl, hnc⟩ := hv.form
  have HL := Lib.hid hv.len
  have hq := qnew_any w h8
  go_enter Tryz.func6, Tryz.ntmps6
  go_wp2_with fail
  refine hq.mono ?_
  rintro e w1 ⟨b, bm, g0, r, rfl, hQ0, lb, lbm, lg, lr, hx1⟩
  clear hq
  have hQ0' : Qu w1 b bm g0 r [] (FG fun _ => none) 0 0 := hQ0
  have hl8 := Qx.lt (G := fun _ => none) ⟨[], hQ0', QJ.nil, rfl⟩
  have z1 := hx1.size
  obtain ⟨W2, hW2, hx2, z2, u1, u2, hT, u3, u4⟩ := world5 w1
  have hnew := new_any _ _ _ _ _ _ _ _ _ _ _ _ W2 u1 u2 u4 u3 (by omega) (by omega)
  have hT0 := cells3 hT
  clear u3 u4
  go_wp2_with fail
  rw [← hW2]
  clear hW2
  refine hnew.mono ?_
  clear hnew
  rintro e w3 ⟨xb, xbm, xg, vk, vr, vx, vc, gk, gr, gx, gc, rfl, hB0, hxlo, hxlt, hxl6, hx3⟩
  have hx23 := hx2.trans hx3
  have hlB := hB0.lt
  have hQ3 := hQ0'.ext hx23 (by simp) (by simp) (by simp) (by simp)
  have z3 := hx3.size
  have hT3 := hx3.keep hT (by simp)
  have uk3 := u1.ext hx3 (by simp)
  have ur3 := u2.ext hx3 (by simp)
  have hx03 := hx1.trans hx23
  clear u1 u2 hT hT0 hQ0 hQ0' hx1 hx2 hx3 hx23
  go_wp2_with fail
  go_loopw [12, 13] (QuRel w3 b bm g0 r l) (fun _ iv _ => n - (intOf iv).toNat)
  case atStart => exact ⟨0, g0, w3.heap.size, 0, 0, 0, 0, [], fun _ => none, none, rfl, Nat.zero_le _, hQ3, QJ.nil, Bd.zero, Nat.le_refl _, Nat.le_refl _, rfl, rfl, .nil, Nat.le_refl _, by omega, .inl rfl, Ext.refl _ _⟩
  case round =>
    obtain ⟨k, g, gwh, last, now, m, c', L, G, A', rfl, hk, hQ, hJ, hB, hLk, hlok, rfl, hm, hro, hgwh, hne, hgg, hx⟩ := hrel
    have HM := Lib.hid hm
    clear hm
    have hzr := hx.size
    have hl8' := Qx.lt ⟨L, hQ, hJ, rfl⟩
    have hMr : MxL wr := (hM.ext hx03 (by simp)).ext hx (by simp; omega)
    have hxwr : Ext [] w wr := hx03.step hx (by simp; omega)
    have hkn : k ≤ n := by have := HL.out; omega
    by_cases hlt : k < n
    · have hkl : k < l.length := by have := HL.out; omega
      obtain ⟨o, cc, hv0, d0, d1, d2, d3, d4⟩ := (hv.ext hxwr (by simp)).at_ k hkl
      obtain ⟨rfl, rfl⟩ : A = some ⟨gw, o, none⟩ ∧ c = cc := by
        injection hv0 with e1 e2 e3
        exact ⟨e1, e3⟩
      clear hv0
      have hok := hv.ok _ (List.getElem_mem hkl)
      have hbd := hb _ (List.getElem_mem hkl)
      have hnx := Lib.hid (loL_next l k hkl)
      have hmap := qmap_any b bm g r L (FG G) last now wr hQ (by omega)
      generalize l[k]'hkl = X at *
      obtain ⟨kd, wo, id', nn, body⟩ := X
      simp only at d0 d1 d2 d3 d4 hbd
      clear hv hb hT3 hB0 uk3 ur3
      go_wp2_with fail
      refine hmap.mono ?_
      rintro e w4 ⟨b1, g1, rfl, hm1, hb1, hg1, hx4⟩
      clear hmap
      have z4 := hx4.size
      have hdone := done_any b bm g r G L.length last now k kd wo id' nn body w4 ⟨L, hQ.ext hx4 (by simp) (by simp) (by simp) (by simp), hJ, rfl⟩ hB (by omega) (by omega) (hMr.ext hx4 (by simp)) (by omega) hok.k hok.w hok.i hok.n (by omega)
      have e0 := hx4.cell d0 (by simp)
      have e1 := hx4.cell d1 (by simp)
      have e2 := hx4.cell d2 (by simp)
      have e3 := hx4.cell d3 (by simp)
      have e4 := hx4.cell d4 (by simp)
      clear d0 d1 d2 d3 d4
      go_wp2_with fail
      refine hdone.mono ?_
      rintro e w5 ⟨rfl, hD⟩
      obtain ⟨G2, n2, last2, now2, ⟨g2, ⟨L2, hQ2, hJ2, hn2⟩, hg2, hx5⟩, hB2, hlo2, hhi2⟩ := hD
      subst hn2
      clear hdone e0 e1 e2 e3 e4
      have z5 := hx5.size
      have hmap2 := qmap_any b bm g2 r L2 (FG G2) last2 now2 w5 hQ2 (by omega)
      go_wp2_with fail
      refine hmap2.mono ?_
      rintro e w6 ⟨b2, gb2, rfl, hm2, hb2, hgb2, hx6⟩
      clear hmap2
      have z6 := hx6.size
      have hm1' := (hm1.ext hx5 (by simp; omega) (by simp; omega)).ext hx6 (by simp) (by simp)
      have hdl := delta_any b1 g1 b2 gb2 L L2 w6 hm1' hm2 (by omega) (by omega) (by omega)
      clear hm1 hm1' hm2
      go_wp2_with fail
      refine hdl.mono ?_
      rintro e w7 ⟨gd, vd, rfl, hrd, hgd, hx7⟩
      clear hdl
      have z7 := hx7.size
      obtain ⟨Ad, cd, rfl, _⟩ := hrd.vw.form
      have hx57 := hx6.trans hx7
      have hro7 := ((hro.ext hx4 (by simp)).ext hx5 (by simp; omega)).ext hx57 (by simp)
      have hml : m = (ofL L).length := by rw [ofL_len]; exact HM.out
      obtain ⟨gA, hva, hgA, _⟩ := hro7.vlt (by omega)
      obtain ⟨gB, hvb, hgB, _⟩ := hrd.vlt (by omega)
      have htd := tog_delta L L2 hJ.srt hJ2.srt
      have htg := together_any (ofL L) (deltaL L L2) gA gB _ _ w7 (hml ▸ hva) hvb hgA hgB (ofL_vld hJ.srt hJ.okP) (delta_vld hJ.srt hJ2.srt hJ.okP hJ2.okP) htd.2 (by rw [ofL_len]; omega) (by have := delta_len L L2; omega) (by omega)
      rw [htd.1] at htg
      rw [← hml] at htg
      clear htd hva hvb hro7 hrd hml
      go_wp2_with fail
      refine htg.mono ?_
      rintro e w8 ⟨gt, vt, rfl, hrt, hgt, hx8⟩
      clear htg
      have hx58 := hx57.trans hx8
      have hQ8 := hQ2.ext hx58 (by simp) (by simp) (by simp) (by simp)
      have hl5 := Qx.lt ⟨L2, hQ2, hJ2, rfl⟩
      obtain ⟨At, ct, rfl, _⟩ := hrt.vw.form
      generalize hN : (ofL L2).length = N2 at *
      have HN := Lib.hid hN
      clear hN
      go_wp2_with fail
      refine ⟨?rel, ?measure⟩
      case rel =>
        refine ⟨k + 1, g2, gt, last2, now2, N2, ct, L2, G2, At, by go_num, by omega, hQ8, hJ2, hB2, by omega, ?_, rfl, ?_, hrt, by omega, by omega, by omega, ((hx.step hx4 (by simp)).step hx5 (by simp; omega)).step hx58 (by simp)⟩
        · rw [hnx.out]
          exact Nat.le_trans (loD_mono hlok _) hlo2
        · rw [← HN.out, ofL_len]
      case measure => simp [intOf]; omega
    · rename World => wS
      obtain rfl : k = n := by omega
      have e : l.take k = l := List.take_of_length_le (by have := HL.out; omega)
      rw [e] at hlok
      clear e hlt hk hkn
      obtain ⟨js, hjs⟩ := hJ.list
      have hLN := hjs.len
      have hmap := qmap_any b bm g r L (FG G) last now wS hQ (by omega)
      have hjb := fun W (hxx : Ext [] wS W) => jobs_any b bm g r G last now W L (hQ.ext hxx (by simp) (by simp) (by simp) (by simp)) js hjs (by omega) (hMr.ext hxx (by simp)) (by have := hxx.size; omega)
      have hTS := hx.keep hT3 (by simp; omega)
      have ukS := uk3.ext hx (by simp; omega)
      have urS := ur3.ext hx (by simp; omega)
      have hBS := hB0.extS hx (by simp; omega) (by simp; omega) (by simp; omega) (by simp; omega) (by simp; omega) (by simp; omega) (by simp; omega)
      clear hT3 uk3 ur3 hB0 hv hb
      generalize hN : js.length = N at *
      have HN := Lib.hid hN
      have HLN := Lib.hid hLN
      obtain rfl : m = N := HM.out.trans hLN
      have hlN : lo ≤ m := by omega
      have hm20 : m ≤ 20 := by omega
      clear hN hLN hlok hlo hLk
      go_wp2_with fail
      refine hmap.mono ?_
      rintro e w4 ⟨b1, g1, rfl, hm1, hb1, hg1, hx4⟩
      have hj4 := hjb w4 hx4
      clear hmap hjb
      go_wp2_with fail
      refine hj4.mono ?_
      rintro e w5 ⟨gl, vl, rfl, hrl, hgl, hx5⟩
      clear hj4
      obtain ⟨Al, cl, rfl, hAl, _⟩ := hrl.form
      have z4 := hx4.size
      have z5 := hx5.size
      have hxn := (Ext.refl [] w5).alloc (.cells #[.slice none 0 0] 34)
      have hmn := mdl_nil w5 (by omega)
      have hm1' := (hm1.ext hx5 (by simp) (by simp)).ext hxn (by simp) (by simp)
      obtain ⟨W6, hW6⟩ : ∃ W6, W6 = w5.alloc (.cells #[.slice none 0 0] 34) := ⟨_, rfl⟩
      rw [← hW6] at hxn hmn hm1'
      have z6 := hxn.size
      have hdl := delta_any w5.heap.size w5.heap.size b1 g1 [] L W6 hmn hm1' (by simp) (by have := HLN.out; omega) (by omega)
      rw [delta_nil_left, ofL_len, HLN.out] at hdl
      clear hm1 hmn
      go_wp2_with fail
      rw [← hW6]
      clear hW6
      refine hdl.mono ?_
      rintro e w7 ⟨gd, vd, rfl, hrd, hgd, hx7⟩
      clear hdl
      obtain ⟨Ad, cd, rfl, _⟩ := hrd.vw.form
      have z7 := hx7.size
      have hsz := hJ.sizes
      have hcar := carried_any b1 g1 L s w7 (hm1'.ext hx7 (by simp) (by simp)) hJ.srt (by have := HLN.out; omega) hsz.1 hsz.2 hs1 (by omega)
      clear hsz hm1'
      go_wp2_with fail
      refine hcar.mono ?_
      rintro e w8 ⟨yb, yg, rfl, hmy, hyb, hyg, hx8⟩
      clear hcar
      have z8 := hx8.size
      have hxS8 : Ext [] wS w8 := (((hx4.trans hx5).trans hxn).trans hx7).trans hx8
      have hca := changesAre_any gd gwh _ _ m (ofL L) w8 (hrd.vw.ext hx8 (by simp)) (hro.vw.ext hxS8 (by simp)) (by rw [ofL_len]; exact HLN.out)
      clear hrd hro
      go_wp2_with fail
      refine hca.mono ?_
      rintro e w9 ⟨rfl, hx9⟩
      clear hca
      have hmy9 := hmy.ext hx9 (by simp) (by simp)
      have hle := len_any yb yg L w9 hmy9
      have hpr := pairs_any yb yg L w9 hmy9 (by have := HLN.out; omega)
      rw [HLN.out] at hle hpr
      clear hmy hmy9
      go_wp2_with fail
      refine hle.mono ?_
      rintro e wz ⟨rfl, rfl⟩
      clear hle
      go_wp2_with fail
      refine hpr.mono ?_
      rintro e wA ⟨gp, vp, rfl, hrp, hgp, hxA⟩
      clear hpr
      obtain ⟨Ap, cp, rfl, _⟩ := hrp.vw.form
      have z9 := hx9.size
      have zA := hxA.size
      have hxSA : Ext [] wS wA := (hxS8.trans hx9).trans hxA
      have hBA := hBS.ext hxSA
      have hTA := hxSA.keep hTS (by simp)
      have ukA := ukS.ext hxSA (by simp)
      have urA := urS.ext hxSA (by simp)
      have hlA := hrl.vw.ext (((hxn.trans hx7).trans hx8).trans (hx9.trans hxA)) (by simp)
      have hQA := hQ.ext hxSA (by simp) (by simp) (by simp) (by simp)
      have hMA := hMr.ext hxSA (by simp)
      have hxwA : Ext [] w wA := hxwr.trans hxSA
      clear hBS hTS ukS urS hrl hQ hMr hxwr hx4 hx5 hxn hx7 hx8 hxS8 hx9 hxA hx hx03 hM
      go_wp2_with fail
      go_loopw [22, 23] (BaRel wA xb vk vr vx vc gk gr gx gc js) (fun _ iv _ => m - (intOf iv).toNat)
      case atStart => exact ⟨0, xbm, xg, wA.heap.size, 0, none, [], [], rfl, Nat.zero_le _, hBA, IX.nil, rfl, .nil, trivial, Nat.le_refl _, Ext.refl _ _⟩
      case round =>
        obtain ⟨i, ybm, yg2, ga, c2, A2, D, vs, rfl, hi, hBs, hIX, rfl, hra, hrw, hga, hxb⟩ := hrel
        have zb := hxb.size
        have him : i ≤ m := by have := HN.out; omega
        have hMr : MxL wr := hMA.ext hxb (by simp; omega)
        by_cases hlt : i < m
        · have hil : i < js.length := by have := HN.out; omega
          have hvp := hrp.vw
          obtain ⟨o, rfl⟩ := hvp.headU (by omega)
          obtain ⟨k0, k1⟩ := (hvp.ext hxb (by simp; omega)).pair i hlt
          have e0 : kAt L i = keyJ (js[i]'hil) := by
            rw [kAt_eq _ _ (by have := HLN.out; omega)]
            simp [hjs.eq]
          have e1 : vAt L i = valJ (js[i]'hil) := by
            rw [vAt_eq _ _ (by have := HLN.out; omega)]
            simp [hjs.eq]
          rw [e0] at k0
          rw [e1] at k1
          clear e0 e1
          obtain ⟨ol, rfl⟩ := hlA.headU (by omega)
          obtain ⟨j0, j1, j2, j3, j4, j5, j6⟩ := (hlA.ext hxb (by simp; omega)).jb i hlt HN.out
          have hfr := hjs.fresh i hil
          obtain ⟨hok, hGJ⟩ := hjs.ok _ (List.getElem_mem hil)
          have hw3 : (js[i]'hil).who ≤ 3 := (hB.job _ _ hGJ).2.2.2.2.1
          have htk := Lib.hid (take_next js i hil)
          generalize (js[i]'hil) = J at *
          obtain ⟨⟨t0, t1, t2⟩, _⟩ := cells3 (hxb.keep hTA (by simp; omega))
          have htb := fun W (hxx : Ext [] wr W) => tb_lit ((ukA.ext hxb (by simp; omega)).ext hxx (by simp)) ((urA.ext hxb (by simp; omega)).ext hxx (by simp)) (by have := hxx.size; omega) (by have := hxx.size; omega)
          have hrd := fun W (hxx : Ext [] wr W) => readJ J hok _ W (htb W hxx) (hMr.ext hxx (by simp)) (by have := hxx.size; omega)
          have hQr := hQA.ext hxb (by simp; omega) (by simp; omega) (by simp; omega) (by simp; omega)
          have hD5 : D.length ≤ 500 := by
            have := hIX.len
            rw [List.length_take] at this
            omega
          generalize keyJ J = K at *
          generalize valJ J = V at *
          have hpt : wr.cell? ⟨w1.heap.size + 2, 0, none⟩ = some (.int .i64 1) ∧ wr.cell? ⟨w1.heap.size + 2, 1, none⟩ = some (.slice (some ⟨w1.heap.size, 0, none⟩) 3 3) ∧ wr.cell? ⟨w1.heap.size + 2, 2, none⟩ = some (.slice (some ⟨w1.heap.size + 1, 0, none⟩) 4 4) ∧ wr.cell? ⟨gp, o + i * 2, none⟩ = some (.string K) ∧ wr.cell? ⟨gp, o + i * 2 + 1, none⟩ = some (.string V) ∧ Ext [] wr wr := ⟨t0, t1, t2, k0, k1, Ext.refl _ _⟩
          clear t0 t1 t2 k0 k1 hvp htb hTA ukA urA hlA hQA hMA hBA hrp
          go_wp2_with fail
          go_region_held3 (fun W => W.cell? ⟨w1.heap.size + 2, 0, none⟩ = some (.int .i64 1) ∧ W.cell? ⟨w1.heap.size + 2, 1, none⟩ = some (.slice (some ⟨w1.heap.size, 0, none⟩) 3 3) ∧ W.cell? ⟨w1.heap.size + 2, 2, none⟩ = some (.slice (some ⟨w1.heap.size + 1, 0, none⟩) 4 4) ∧ W.cell? ⟨gp, o + i * 2, none⟩ = some (.string K) ∧ W.cell? ⟨gp, o + i * 2 + 1, none⟩ = some (.string V) ∧ Ext [] wr W)
            (first | exact held5x hpt (Ext.refl [] wr).drew | exact held5x (by assumption) hxn)
            (first
              | (go_at_call 24; refine (hrd _ (conj5' (by assumption))).mono ?_; rintro e w5 ⟨g5, v5, rfl, hr5, hg5, hg5', hxn⟩))
          rename_i hHeld
          have hS := conj5' hHeld
          clear hHeld hpt hrd
          have zS := hS.size
          have z5d : wr.drew.heap.size = wr.heap.size := rfl
          obtain ⟨A5, c5', rfl, hA5, _⟩ := hr5.form
          obtain rfl := hA5 (by omega)
          have hget := get_x ⟨L, hQr.ext hS (by simp) (by simp) (by simp) (by simp), hJ, HLN.out⟩ (by omega) (hMr.ext hS (by simp)) (by omega) J.id
          have j0' := hS.cell j0 (by simp)
          go_wp2_with fail
          refine hget.mono ?_
          rintro e w6 ⟨hor, hx6⟩
          clear hget j0'
          obtain ⟨jj, hjj, rfl⟩ : ∃ jj, G J.id = some jj ∧ e = .returned (.tuple #[.agg #[.int .i64 (jj.id : Nat), .int .i64 (jj.pr : Nat), .string jj.body, .int .i64 (jj.st : Nat), .int .i64 (jj.tries : Nat), .int .i64 (jj.who : Nat), .int .i64 (jj.till : Nat)], .int .i64 0]) := by
            rcases hor with ⟨h0, _⟩ | h
            · rw [h0] at hGJ; cases hGJ
            · exact h
          obtain rfl : J = jj := Option.some.inj (hGJ.symm.trans hjj)
          clear hor hjj
          have z6 := hx6.size
          obtain ⟨W7, hW7⟩ : ∃ W7, W7 = w6.alloc (.cells #[.int .i64 (J.id : Nat), .int .i64 (J.pr : Nat), .string J.body, .int .i64 (J.st : Nat), .int .i64 (J.tries : Nat), .int .i64 (J.who : Nat), .int .i64 (J.till : Nat)] 80) := ⟨_, rfl⟩
          have hx7 : Ext [] w6 W7 := by rw [hW7]; exact (Ext.refl [] w6).alloc _
          have hn7 := heap_alloc_new w6 (.cells #[.int .i64 (J.id : Nat), .int .i64 (J.pr : Nat), .string J.body, .int .i64 (J.st : Nat), .int .i64 (J.tries : Nat), .int .i64 (J.who : Nat), .int .i64 (J.till : Nat)] 80)
          rw [← hW7] at hn7
          have hxr7 := (hS.trans hx6).trans hx7
          have hh : W7.cell? ⟨w6.heap.size, 0, none⟩ = some (.int .i64 (J.id : Nat)) ∧ W7.cell? ⟨w6.heap.size, 1, none⟩ = some (.int .i64 (J.pr : Nat)) ∧ W7.cell? ⟨w6.heap.size, 2, none⟩ = some (.string J.body) ∧ W7.cell? ⟨w6.heap.size, 3, none⟩ = some (.int .i64 (J.st : Nat)) ∧ W7.cell? ⟨w6.heap.size, 4, none⟩ = some (.int .i64 (J.tries : Nat)) ∧ W7.cell? ⟨w6.heap.size, 5, none⟩ = some (.int .i64 (J.who : Nat)) ∧ W7.cell? ⟨w6.heap.size, 6, none⟩ = some (.int .i64 (J.till : Nat)) ∧ W7.cell? ⟨gl, ol + i * 7, none⟩ = some (.int .i64 (J.id : Nat)) ∧ W7.cell? ⟨gl, ol + i * 7 + 1, none⟩ = some (.int .i64 (J.pr : Nat)) ∧ W7.cell? ⟨gl, ol + i * 7 + 2, none⟩ = some (.string J.body) ∧ W7.cell? ⟨gl, ol + i * 7 + 3, none⟩ = some (.int .i64 (J.st : Nat)) ∧ W7.cell? ⟨gl, ol + i * 7 + 4, none⟩ = some (.int .i64 (J.tries : Nat)) ∧ W7.cell? ⟨gl, ol + i * 7 + 5, none⟩ = some (.int .i64 (J.who : Nat)) ∧ W7.cell? ⟨gl, ol + i * 7 + 6, none⟩ = some (.int .i64 (J.till : Nat)) :=
            ⟨cell_of_row _ _ 0 _ _ _ hn7, cell_of_row _ _ 1 _ _ _ hn7, cell_of_row _ _ 2 _ _ _ hn7, cell_of_row _ _ 3 _ _ _ hn7, cell_of_row _ _ 4 _ _ _ hn7, cell_of_row _ _ 5 _ _ _ hn7, cell_of_row _ _ 6 _ _ _ hn7, hxr7.cell j0 (by simp), hxr7.cell j1 (by simp), hxr7.cell j2 (by simp), hxr7.cell j3 (by simp), hxr7.cell j4 (by simp), hxr7.cell j5 (by simp), hxr7.cell j6 (by simp)⟩
          have hjr : ∀ W, Calls Tryz.prog 27 #[.agg #[.int .i64 (J.id : Nat), .int .i64 (J.pr : Nat), .string J.body, .int .i64 (J.st : Nat), .int .i64 (J.tries : Nat), .int .i64 (J.who : Nat), .int .i64 (J.till : Nat)]] W fun e w' => ∃ g v, e = .returned v ∧ Row w' g 93 5 v 7 (clsC (kJ J ++ rJ J)) ∧ W.heap.size ≤ g ∧ g < w'.heap.size ∧ Ext [] W w' := fun W => jobRow_any J W hok
          have hBs7 := hBs.ext hxr7
          have hr57 := hr5.vw.ext (hx6.trans hx7) (by simp)
          have hM7 := hMr.ext hxr7 (by simp)
          have z7 := hx7.size
          have hd7 : Ext [] W7 W7.drew := (Ext.refl [] W7).drew
          have hlt6 := lt_of_block hn7
          clear j0 j1 j2 j3 j4 j5 j6 hBs hn7
          go_wp2_with fail
          rw [← hW7]
          clear hW7
          go_region_held3 (fun W => W.cell? ⟨w6.heap.size, 0, none⟩ = some (.int .i64 (J.id : Nat)) ∧ W.cell? ⟨w6.heap.size, 1, none⟩ = some (.int .i64 (J.pr : Nat)) ∧ W.cell? ⟨w6.heap.size, 2, none⟩ = some (.string J.body) ∧ W.cell? ⟨w6.heap.size, 3, none⟩ = some (.int .i64 (J.st : Nat)) ∧ W.cell? ⟨w6.heap.size, 4, none⟩ = some (.int .i64 (J.tries : Nat)) ∧ W.cell? ⟨w6.heap.size, 5, none⟩ = some (.int .i64 (J.who : Nat)) ∧ W.cell? ⟨w6.heap.size, 6, none⟩ = some (.int .i64 (J.till : Nat)) ∧ W.cell? ⟨gl, ol + i * 7, none⟩ = some (.int .i64 (J.id : Nat)) ∧ W.cell? ⟨gl, ol + i * 7 + 1, none⟩ = some (.int .i64 (J.pr : Nat)) ∧ W.cell? ⟨gl, ol + i * 7 + 2, none⟩ = some (.string J.body) ∧ W.cell? ⟨gl, ol + i * 7 + 3, none⟩ = some (.int .i64 (J.st : Nat)) ∧ W.cell? ⟨gl, ol + i * 7 + 4, none⟩ = some (.int .i64 (J.tries : Nat)) ∧ W.cell? ⟨gl, ol + i * 7 + 5, none⟩ = some (.int .i64 (J.who : Nat)) ∧ W.cell? ⟨gl, ol + i * 7 + 6, none⟩ = some (.int .i64 (J.till : Nat)))
            (first | exact held14 hh hd7 (by simp) (by simp) | exact held14 (by assumption) hxB (by simp) (by simp) | exact held14 (by assumption) hxC (by simp) (by simp) | exact held14 (by assumption) hxD (by simp; omega) (by simp; omega))
            (first
              | (go_at_call 27; with_reducible refine (hjr _).mono ?_; rintro e wB ⟨gB, vB, rfl, hrB, hgB, hgB', hxB⟩; have hxB7 := hd7.trans hxB; have zB := hxB7.size)
              | (go_at_call 26; refine (equal_any g5 gB _ _ 7 _ wB (hr57.ext hxB7 (by simp)) hrB.vw).mono ?_; rintro e wC ⟨rfl, hxC⟩; have hxC7 := hxB7.trans hxC; have zC := hxC.size)
              | (go_at_call 28; refine (bPut_any (hBs7.ext hxC7) (js.take i) hIX hD5 J hok hw3 hfr (hM7.ext hxC7 (by simp)) (by omega) g5 _ (hr57.ext hxC7 (by simp)) (by omega)).mono ?_; rintro e wD ⟨rfl, bm', g', hBD, hxD⟩))
          rename_i hHeld
          clear hHeld hh hjr hBs7 hrB
          have zD := hxD.size
          have hxrD : Ext [xb] wr wD := ((hxr7.trans hxC7).mono (by simp)).trans hxD
          have hixl : 0 < (ixPut D J).length := by
            have := (hIX.put hok hw3 hfr).len
            rw [List.length_append] at this
            simp only [List.length_singleton] at this
            omega
          obtain ⟨go1, hro1, hpk1⟩ := hra.pick (wD.heap.size + 1)
          obtain ⟨go2, hro2, hpk⟩ := (hro1.ext hxrD (by simp; omega)).pick2 hBD.mdl hixl (wD.heap.size + 1)
          have hmD := hBD.mdl.lt
          have hmD' : bm' < wD.heap.size := by
            obtain ⟨x, hx, _⟩ := hBD.mdl.blk
            exact lt_of_block hx
          have hroD := hro2.ext ((Ext.refl [] wD).alloc (.cells #[.slice (some ⟨g5, 0, none⟩) 7 c5'] 73)) (by simp)
          have hn2 := Row.new wD 73 1 #[.slice (some ⟨g5, 0, none⟩) 7 c5'] 1 1 (by omega) (by simp [maxLen]) rfl
          have hone := one_slice hr5.vw
          have hrwD : RwL wD wA.heap.size go2 vs (js.take i) := hrw.ext hxrD (by simp; omega) (by omega)
          have hrwD2 := hrwD.snoc (v := .slice (some ⟨g5, 0, none⟩) 7 c5') (j := J) (g := g5) (by omega) (by omega) (by omega) ((hr57.ext hxC7 (by simp)).ext hxD (by simp; omega))
          clear hra hrw hro1 hro2 hr5 hr57 hrwD hQr
          go_wp2_with ((with_reducible refine wpList_append T72 rfl (.tmp 189) (.tmp 191) rfl rfl rfl hroD hn2.vw hone (by omega) (by omega) ?_); rintro g9 A9 c9 wE hr9 hxE hg9 hA9 _ _; obtain rfl := hA9 (by omega))
          simp only [World.size_alloc] at hg9
          have hxDE : Ext [go2] wD wE := ((Ext.refl [go2] wD).alloc _).trans hxE
          have hlD := hBD.lt
          have hzE := hxDE.size
          refine ⟨?rel, ?measure⟩
          case rel =>
            refine ⟨i + 1, bm', g', g9, c9, some ⟨g9, 0, none⟩, ixPut D J, vs ++ [.slice (some ⟨g5, 0, none⟩) 7 c5'], by go_num, by have := HN.out; omega, hBD.extS hxDE (by simp; omega) (by simp; omega) (by simp; omega) (by simp; omega) (by simp; omega) (by simp; omega) (by simp; omega), ?_, rfl, hr9, ?_, by omega, (hxb.trans hxrD).step hxDE (by simp; omega)⟩
            · rw [htk.out]
              exact hIX.put hok hw3 hfr
            · rw [htk.out]
              exact hrwD2.ext hxDE (by simp) (by omega)
          case measure => simp [intOf]; omega
        · rename World => wT
          obtain rfl : i = m := by omega
          have e : js.take i = js := List.take_of_length_le (by have := HN.out; omega)
          rw [e] at hIX hrw
          clear e hlt
          have hD5 : D.length ≤ 500 := by
            have := hIX.len
            have := HN.out
            omega
          have hby := by_any hBs js hIX hD5 hMr (by omega)
          have hrows := fun W (hxx : Ext [] wT W) => rows_any (hBs.ext hxx) js hIX (hjs.eq ▸ hJ.srt) hD5 (hMr.ext hxx (by simp)) (by have := hxx.size; omega)
          simp only [HN.out] at hby hrows
          have hxwT : Ext [] w wT := hxwA.step hxb (by simp; omega)
          clear hxwA hTA ukA urA hlA hQA hMA hBA hrp hBs hMr
          go_wp2_with fail
          refine hby.mono ?_
          rintro e wB ⟨gb, vb, vsb, is, rfl, hrb, hwb, hgb, hisl, hmem, hpw, hxB⟩
          obtain ⟨Ab, cb, rfl, hAb, _⟩ := hrb.form
          have hr4 := hrows _ hxB
          clear hby hrows
          go_wp2_with fail
          refine hr4.mono ?_
          rintro e wR ⟨gs, v2, vss, rfl, hrs, hws, hgs, hxR⟩
          have hxTR := hxB.trans hxR
          have zT := hxTR.size
          have zB := hxB.size
          have hsm := rowsSame_any gs ga _ gs _ ga _ _ js vss vs wR (by rw [HN.out]; exact hrs.vw) (by rw [HN.out]; exact hra.vw.ext hxTR (by simp)) hws (hrw.ext hxTR (by simp) (by omega))
          obtain ⟨A2', c2', rfl, _⟩ := hrs.vw.form
          clear hr4 hrs hws hra hrw
          go_wp2_with fail
          refine hsm.mono ?_
          rintro e wY ⟨rfl, hxY⟩
          clear hsm
          have hxBY := hxR.trans hxY
          have hrY := hrb.vw.ext hxBY (by simp)
          have hwY : RwL wY wT.heap.size gb vsb is := hwb.ext hxBY (by simp) (by omega)
          have hxwY : Ext [] w wY := hxwT.trans (hxB.trans hxBY)
          have HIS := Lib.hid hisl
          clear hrb hwb hisl hxBY hxY hxTR hxR hxB hxwT hmem
          go_wp2_with fail
          go_loopw [29] (CoRel wY) (fun iv _ => i - (intOf iv).toNat)
          case atStart => exact ⟨0, rfl, Ext.refl _ _⟩
          case round =>
            obtain ⟨p, rfl, hxc⟩ := hrel
            by_cases hlt : p + 1 < i
            · obtain rfl := hAb (by omega)
              have hp0 : p < is.length := by have := HIS.out; omega
              have hp1 : p + 1 < is.length := by have := HIS.out; omega
              obtain ⟨v0, q0, hv0, _, _, _, hr0⟩ := hwY.at_ p hp0
              obtain ⟨v1, q1, hv1, _, _, _, hr1⟩ := hwY.at_ (p + 1) hp1
              have hle := List.pairwise_iff_getElem.1 hpw p (p + 1) hp0 hp1 (by omega)
              obtain ⟨A0, c0, rfl, _⟩ := hr0.form
              obtain ⟨A1, c1, rfl, _⟩ := hr1.form
              obtain ⟨o0, rfl⟩ := hr0.headU (by omega)
              obtain ⟨o1, rfl⟩ := hr1.headU (by omega)
              have b0 := (hrY.ext hxc (by simp)).one p _ hv0
              have b1 := (hrY.ext hxc (by simp)).one (p + 1) _ hv1
              rw [Nat.zero_add] at b0 b1
              have l0 := hr0.ext hxc (by simp)
              have l1 := hr1.ext hxc (by simp)
              have d0 : wr.cell? ⟨q0, o0 + 30, none⟩ = some (.int .i64 1) := (l0.cl 6 (by omega)).1
              have d1 : wr.cell? ⟨q0, o0 + 30 + 1, none⟩ = some (.int .u64 ((is[p]'hp0).who : Nat)) := (l0.cl 6 (by omega)).2.1
              have d2 : wr.cell? ⟨q0, o0 + 30 + 2, none⟩ = some (.int .i64 0) := (l0.cl 6 (by omega)).2.2.1
              have d3 : wr.cell? ⟨q0, o0 + 30 + 3, none⟩ = some (.string eS) := (l0.cl 6 (by omega)).2.2.2.1
              have d4 : wr.cell? ⟨q0, o0 + 30 + 4, none⟩ = some (.bool false) := (l0.cl 6 (by omega)).2.2.2.2
              have f0 : wr.cell? ⟨q1, o1 + 30, none⟩ = some (.int .i64 1) := (l1.cl 6 (by omega)).1
              have f1 : wr.cell? ⟨q1, o1 + 30 + 1, none⟩ = some (.int .u64 ((is[p + 1]'hp1).who : Nat)) := (l1.cl 6 (by omega)).2.1
              have f2 : wr.cell? ⟨q1, o1 + 30 + 2, none⟩ = some (.int .i64 0) := (l1.cl 6 (by omega)).2.2.1
              have f3 : wr.cell? ⟨q1, o1 + 30 + 3, none⟩ = some (.string eS) := (l1.cl 6 (by omega)).2.2.2.1
              have f4 : wr.cell? ⟨q1, o1 + 30 + 4, none⟩ = some (.bool false) := (l1.cl 6 (by omega)).2.2.2.2
              clear l0 l1 hr0 hr1 hv0 hv1 hwY hrY
              generalize (is[p]'hp0).who = x at *
              generalize (is[p + 1]'hp1).who = y at *
              have hcp : ∀ W, Calls Tryz.prog 32 #[.agg #[.int .i64 1, .int .u64 (x : Nat), .int .i64 0, .string eS, .bool false], .agg #[.int .i64 1, .int .u64 (y : Nat), .int .i64 0, .string eS, .bool false]] W fun e w' => ∃ z : Int, e = .returned (.int .i64 z) ∧ (x ≤ y → z ≤ 0) ∧ Ext [] W w' := fun W => compare_any x y W
              have s0 : IntKind.i64.wrap (((p + 1 : Nat) : Int) - 1) = (p : Int) := by rw [IntWalk.i64_in _ (by omega)]; omega
              have s1 : IntKind.i64.wrap ((p : Int) + 1 - 1) = (p : Int) := by rw [IntWalk.i64_in _ (by omega)]; omega
              have s2 : (p : Int) < i := by omega
              have s4 : (p : Int) + 1 < i := by omega
              have s5 : (0 : Int) ≤ (p : Int) + 1 := by omega
              have s6 : IntKind.i64.wrap ((p : Int) + 1) = (p : Int) + 1 := IntWalk.i64_in _ (by omega)
              have s3 : IntKind.i64.wrap (p : Int) = (p : Int) := IntWalk.i64_in _ (by omega)
              have hh : wr.cell? ⟨gb, p, none⟩ = some (.slice (some ⟨q0, o0, none⟩) 7 c0) ∧ wr.cell? ⟨gb, p + 1, none⟩ = some (.slice (some ⟨q1, o1, none⟩) 7 c1) ∧ wr.cell? ⟨q0, o0 + 30, none⟩ = some (.int .i64 1) ∧ wr.cell? ⟨q0, o0 + 30 + 1, none⟩ = some (.int .u64 (x : Nat)) ∧ wr.cell? ⟨q0, o0 + 30 + 2, none⟩ = some (.int .i64 0) ∧ wr.cell? ⟨q0, o0 + 30 + 3, none⟩ = some (.string eS) ∧ wr.cell? ⟨q0, o0 + 30 + 4, none⟩ = some (.bool false) ∧ wr.cell? ⟨q1, o1 + 30, none⟩ = some (.int .i64 1) ∧ wr.cell? ⟨q1, o1 + 30 + 1, none⟩ = some (.int .u64 (y : Nat)) ∧ wr.cell? ⟨q1, o1 + 30 + 2, none⟩ = some (.int .i64 0) ∧ wr.cell? ⟨q1, o1 + 30 + 3, none⟩ = some (.string eS) ∧ wr.cell? ⟨q1, o1 + 30 + 4, none⟩ = some (.bool false) := ⟨b0, b1, d0, d1, d2, d3, d4, f0, f1, f2, f3, f4⟩
              clear b0 b1 d0 d1 d2 d3 d4 f0 f1 f2 f3 f4
              go_wp2_with fail
              go_region_held3 (fun W => W.cell? ⟨gb, p, none⟩ = some (.slice (some ⟨q0, o0, none⟩) 7 c0) ∧ W.cell? ⟨gb, p + 1, none⟩ = some (.slice (some ⟨q1, o1, none⟩) 7 c1) ∧ W.cell? ⟨q0, o0 + 30, none⟩ = some (.int .i64 1) ∧ W.cell? ⟨q0, o0 + 30 + 1, none⟩ = some (.int .u64 (x : Nat)) ∧ W.cell? ⟨q0, o0 + 30 + 2, none⟩ = some (.int .i64 0) ∧ W.cell? ⟨q0, o0 + 30 + 3, none⟩ = some (.string eS) ∧ W.cell? ⟨q0, o0 + 30 + 4, none⟩ = some (.bool false) ∧ W.cell? ⟨q1, o1 + 30, none⟩ = some (.int .i64 1) ∧ W.cell? ⟨q1, o1 + 30 + 1, none⟩ = some (.int .u64 (y : Nat)) ∧ W.cell? ⟨q1, o1 + 30 + 2, none⟩ = some (.int .i64 0) ∧ W.cell? ⟨q1, o1 + 30 + 3, none⟩ = some (.string eS) ∧ W.cell? ⟨q1, o1 + 30 + 4, none⟩ = some (.bool false))
                (first | exact held12 hh (Ext.refl [] wr).drew | exact held12 (by assumption) hxn)
                (first
                  | (go_at_call 32; with_reducible refine (hcp _).mono ?_; rintro e wZ ⟨z, rfl, hz, hxn⟩; have hz0 := hz hle))
              rename_i hHeld
              clear hHeld hh hcp
              have hxZ : Ext [] wr wZ := ((Ext.refl [] wr).drew).trans hxn
              go_wp2_with fail
              refine ⟨?rel, ?measure⟩
              case rel => exact ⟨p + 1, by go_num, hxc.trans hxZ⟩
              case measure => simp [intOf]; omega
            · clear hrY hwY
              go_wp2_with fail
              go_ret
              exact ⟨rfl, hxwY.trans hxc⟩
end Go.Proofs.YtfadbmfkidiaoaaGreatDoor
