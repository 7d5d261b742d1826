/- Numbers returned: the walk. -/
import Derived.Test.YtfadbmfkidiaoaaGreatDoorE6
namespace Go.Proofs.YtfadbmfkidiaoaaGreatDoor
open Go.RowKit Go Go.MapKept

theorem scs_one (l : List ByteArray) : ∀ u ∈ scs l, u.oneCell' = true := by
  intro u hu; simp only [scs, List.mem_map] at hu; obtain ⟨b, _, rfl⟩ := hu; rfl

theorem field43_0 (a b : Int) (w : World) : (Instr.field 43 (.agg #[.int .i64 a, .int .i64 b]) 0).run Tryz.prog w = .ok (.int .i64 a) w := by kernel_rfl
theorem field43_1 (a b : Int) (w : World) : (Instr.field 43 (.agg #[.int .i64 a, .int .i64 b]) 1).run Tryz.prog w = .ok (.int .i64 b) w := by kernel_rfl
theorem rs_nodup (F : Lf) (f : Bool → Option Nat) : (rs F f).Nodup := (nB_nodup F).sublist List.filter_sublist
theorem rs_some (F : Lf) (f : Bool → Option Nat) : ∀ k ∈ rs F f, ∃ y, F k = some y := fun k hk =>
  Option.isSome_iff_exists.1 ((nB_mem F k).1 (List.mem_filter.1 hk).1)
theorem rs_len (F : Lf) (f : Bool → Option Nat) : (rs F f).length ≤ 2 := Nat.le_trans (List.length_filter_le _ _) (nB_len F)

set_option maxRecDepth 100000 in
set_option maxHeartbeats 2000000 in
theorem gvReturn (bg r size : Nat) (F : Lf) (b g : Nat) (f : Bool → Option Nat) (w : World) (h : Gv w bg r size F) (hm : Mdl w b g (mpF f)) (hT : Tab w) (hf : Sm f) (hs : 1 ≤ size) (hF : ∀ k x n, F k = some (x, n) → 1 ≤ x ∧ x < 100000 ∧ n < 100000) (hd : bg ≠ b ∧ bg ≠ g ∧ r ≠ b ∧ r ≠ g) (h8r : 8 ≤ r) :
    Calls Tryz.prog 10 #[.pointer (some ⟨bg, 0, none⟩), .pointer (some ⟨b, 0, none⟩)] w fun e w' => e = .returned (.tuple #[.int .i64 ((rs F f).length : Nat), .int .i64 0]) ∧ Gv w' bg r size (retF F (rs F f)) ∧
      ∃ g', Mdl w' b g' (mpF (retf F f (rs F f))) ∧ (g' = g ∨ w.heap.size ≤ g') ∧ Ext [b, g, r] w w' := by
  have hne := h.ne
  obtain ⟨hbl, hrl⟩ := h.lt
  have hno := gvNone bg r size F w h hs
  obtain ⟨c0, c1⟩ := cell96 h
  obtain ⟨es, clock, hrb, hs1, hs2, hs3, hs4, hs5⟩ := gv_names h
  go_enter Tryz.func10, Tryz.ntmps10
  go_wp2_with fail
  refine hno.mono ?_
  rintro e w1 ⟨rfl, rfl⟩
  clear hno
  go_wp2_with fail
  refine (keys_any r w).mono ?_
  rintro e w1 ⟨rfl, rfl⟩
  have hx1 : Ext [] w (w.alloc (.cells #[.map (some r)] 94)) := (Ext.refl [] w).alloc _
  have hck := collectKeys w.heap.size r es clock _ hs1 hs2 hs3 hs5 (cell_of_one (heap_alloc_new w _)) (hx1.keep hrb (by simp))
  go_wp2_with fail
  refine hck.mono ?_
  rintro e w2 ⟨gn, vn, xs, rfl, hp, hrn, hgn, hx2⟩
  have hx02 := hx1.trans hx2
  have hnames := hs4 xs hp
  have hln : xs.length = (nB F).length := by rw [← srtS_len xs, hnames, namesOf_eq, List.length_map]
  rw [hnames, namesOf_eq, hln] at hrn
  obtain ⟨An, cn, rfl, hAn, _⟩ := hrn.form
  have hvn := hrn.vw
  have h2 := h.ext hx02 (by simp) (by simp)
  have hm2 := hm.ext hx02 (by simp) (by simp)
  clear hck hp hnames hrn hs4
  go_wp2_with fail
  have hNd := Lib.hid (show ∀ i, (hi : i < (nB F).length) → (F ((nB F).getD i false)).isSome = true by
    intro i hi
    have : (nB F).getD i false ∈ nB F := by rw [List.getD_eq_getElem?_getD, List.getElem?_eq_getElem hi]; exact List.getElem_mem hi
    exact (nB_mem F _).1 this)
  have hNl := nB_len F
  go_loopw [6, 27] (fun ov iv wl => ∃ (i : Nat) (A : Option Addr) (c' go : Nat), iv = .int .i64 i ∧ i ≤ (nB F).length ∧ ov = .slice A (((nB F).take i).filter (ends F f)).length c' ∧
    Row wl go 9 1 (.slice A (((nB F).take i).filter (ends F f)).length c') (((nB F).take i).filter (ends F f)).length (scs ((((nB F).take i).filter (ends F f)).map nm)) ∧ w2.heap.size ≤ go ∧ Ext [] w2 wl) (fun _ iv _ => (nB F).length - (intOf iv).toNat)
  case atStart => exact ⟨0, none, 0, w2.heap.size, rfl, by omega, rfl, .nil, Nat.le_refl _, Ext.refl _ _⟩
  case round =>
    obtain ⟨i, A, c', go, rfl, hi, rfl, hro, hgo, hx⟩ := hrel
    by_cases hlt : i < (nB F).length
    · obtain rfl := hAn (by omega)
      have hc := (hvn.ext hx (by simp)).str i hlt
      rw [Nat.zero_add] at hc
      have hsk : sAt ((nB F).map nm) i = nm ((nB F).getD i false) := by
        unfold sAt
        rw [List.getD_eq_getElem?_getD, List.getD_eq_getElem?_getD, List.getElem?_map, List.getElem?_eq_getElem hlt]; rfl
      rw [hsk] at hc
      have hsome := hNd.out i hlt
      have htk : (nB F).take (i + 1) = (nB F).take i ++ [(nB F).getD i false] := by
        rw [List.take_add_one, List.getElem?_eq_getElem hlt, List.getD_eq_getElem?_getD, List.getElem?_eq_getElem hlt]; rfl
      generalize (nB F).getD i false = k at *
      obtain ⟨y, hy⟩ := Option.isSome_iff_exists.1 hsome
      have hnx := next_any b g f k _ (hm2.ext hx (by simp) (by simp)) ((hT.ext hx02 (by simp)).ext hx (by simp)) hf
      have hml : (((nB F).take i).filter (ends F f)).length ≤ 2 := Nat.le_trans (List.length_filter_le _ _) (by rw [List.length_take]; omega)
      have hgv := h2.ext hx (by simp) (by simp)
      have hends : ends F f k = decide ((lf F k).1 + (lf F k).2 = nx f k) := by unfold ends; rw [hsome]; rfl
      have hF2 := hF k y.1 y.2 hy
      have hlf : lf F k = y := by unfold lf; rw [hy]; rfl
      have hfl : ((nB F).take (i + 1)).filter (ends F f) = ((nB F).take i).filter (ends F f) ++ (if ends F f k then [k] else []) := by
        rw [htk, List.filter_append]; congr 1; cases he : ends F f k <;> simp [he]
      have HFL := Lib.hid hfl
      have HEN := Lib.hid hends
      have hlk := fun w (h : Gv w bg r size F) => h.lookup k
      rw [hlf] at hlk
      generalize hLL : ((nB F).take i).filter (ends F f) = LL at *
      generalize nx f k = nn at *
      generalize hKK : nm k = K at *
      obtain ⟨x, n⟩ := y
      simp only at hF2 hlk
      clear hends hfl htk hsk hsome hlf
      have hyF := Lib.hid hy; clear hy
      go_wp2_with fail
      refine hnx.mono ?_
      rintro e w3 ⟨rfl, hx3⟩
      have hg3 := hgv.ext hx3 (by simp) (by simp)
      obtain ⟨d0, d1⟩ := cell96 hg3
      have hl3 := hlk w3 hg3
      have hro3 := hro.ext hx3 (by simp)
      clear hnx hlk
      by_cases hq : x + n = nn
      · have hz : (((x : Int) + n) == (nn : Int)) = true := by rw [beq_iff_eq]; omega
        have hn1 : ∀ W : World, Row (W.alloc (.cells #[.string K] 9)) W.heap.size 9 1 (.slice (some ⟨W.heap.size, 0, none⟩) 1 1) 1 [.string K] := fun W => Row.new W 9 1 #[.string K] 1 1 (by omega) (by simp [maxLen]) rfl
        have hn2 := hn1 (w3.alloc (.cells #[.int .i64 x, .int .i64 n] 43))
        simp only [World.size_alloc] at hn2
        have hone : ∀ u ∈ [Value.string K], u.oneCell' = true := by simp [Value.oneCell']
        have hb1 : (LL.length + 1) * 16 ≤ 140737488355328 := by omega
        have hb2 : LL.length + 1 ≤ 9223372036854775807 := by omega
        have hro4 := fun o o' => (hro3.ext ((Ext.refl [] w3).alloc o) (by simp)).ext ((Ext.refl [] (w3.alloc o)).alloc o') (by simp)
        have HQ := Lib.hid hq; clear hq
        go_wp2_with (with_reducible refine wpList_append T39 rfl (.tmp 53) (.tmp 55) rfl rfl rfl (hro4 _ _) hn2.vw hone hb1 hb2 ?_; rintro g9 A9 c9 w9 hr9 hx9 hg9 hA9 _ _; obtain rfl := hA9 (by omega))
        have he : ends F f k = true := by rw [HEN.out]; simp only [lf, hyF.out, Option.getD_some, decide_eq_true_eq]; exact HQ.out
        have hfl := HFL.out
        rw [he, if_pos rfl] at hfl
        have hxa : Ext [go] wr w9 := (((hx3.mono (by simp) : Ext [go] wr w3).alloc _).alloc _).trans hx9
        have s3 := hx3.size
        have sw := hx.size
        simp only [World.size_alloc] at hg9
        go_roundw
        case rel =>
          refine ⟨i + 1, _, c9, g9, by go_num, by omega, by rw [hfl, List.length_append]; rfl, ?_, by omega, hx.step hxa (by simp; omega)⟩
          rw [hfl, List.length_append, List.map_append]
          simp only [scs, List.map_append, List.map_cons, List.map_nil, hKK]
          exact hr9
        case measure => simp [intOf]; omega
      · have hz : (((x : Int) + n) == (nn : Int)) = false := by rw [beq_eq_false_iff_ne]; omega
        have HQ := Lib.hid hq; clear hq
        go_wp2_with fail
        have he : ends F f k = false := by rw [HEN.out]; simp only [lf, hyF.out, Option.getD_some, decide_eq_false_iff_not]; exact HQ.out
        have hfl := HFL.out
        rw [he] at hfl
        simp only [Bool.false_eq_true, if_false, List.append_nil] at hfl
        have hxa : Ext [] wr (w3.alloc (.cells #[.int .i64 x, .int .i64 n] 43)) := hx3.alloc _
        go_roundw
        case rel =>
          exact ⟨i + 1, A, c', go, by go_num, by omega, by rw [hfl], by rw [hfl]; exact hro.ext hxa (by simp), hgo, hx.trans hxa⟩
        case measure => simp [intOf]; omega
    · obtain rfl : i = (nB F).length := by omega
      have hLr : ((nB F).take (nB F).length).filter (ends F f) = rs F f := by rw [List.take_of_length_le (Nat.le_refl _)]; rfl
      rw [hLr] at hro ⊢
      have HN := Lib.hid (rs_nodup F f)
      have HS := Lib.hid (rs_some F f)
      have hRl := rs_len F f
      have hA' : 0 < (rs F f).length → A = some ⟨go, 0, none⟩ := by
        obtain ⟨A', cc, hAA, hA', _⟩ := hro.form
        injection hAA with h1 _ _
        rw [h1]; exact hA'
      clear hLr
      have hgol : 0 < (rs F f).length → go < wr.heap.size := by
        intro h0
        rcases hro.split with ⟨_, e2, _⟩ | ⟨c, cur, _, _, _, hb, _⟩
        · omega
        · exact lt_of_block hb
      have HG := Lib.hid hgol; clear hgol
      have hvn2 := hro.vw
      have h3 := h2.ext hx (by simp) (by simp)
      have hm3 := hm2.ext hx (by simp) (by simp)
      have hx03 := hx02.trans hx
      have hT3 := hT.ext hx03 (by simp)
      have hs03 := hx03.size
      have hs02 := hx02.size
      have hbl8 := hm.lo
      have hgl8 := hm.lo'
      have hgl := hm.lt
      have hbbl : b < w.heap.size := by obtain ⟨⟨v, hb, _⟩, _⟩ := hm; exact lt_of_block hb
      generalize hRR : rs F f = R at *
      have HA := Lib.hid hA'; clear hA'
      have HR := Lib.hid hRR
      clear hRR hro hNd hNl hvn hAn
      rename World => ws
      have e0 : retF F ([] : List Bool) = F := by funext j; simp [retF]
      have e1 : retf F f ([] : List Bool) = f := by funext j; simp [retf]
      go_wp2_with fail
      go_loopw [60] (fun iv wl => ∃ (j g' : Nat), iv = .int .i64 j ∧ j ≤ R.length ∧ Gv wl bg r size (retF F (R.take j)) ∧ Mdl wl b g' (mpF (retf F f (R.take j))) ∧ (g' = g ∨ ws.heap.size ≤ g') ∧ Ext [b, g, r] w wl ∧ Vw wl go 9 1 (.slice A R.length c') R.length (scs (R.map nm)) ∧ ws.heap.size ≤ wl.heap.size) (fun iv _ => R.length - (intOf iv).toNat)
      case atStart => exact ⟨0, g, rfl, by omega, by rw [List.take_zero, e0]; exact h3, by rw [List.take_zero, e1]; exact hm3, .inl rfl, hx03.mono (by simp), hvn2, Nat.le_refl _⟩
      case round =>
        obtain ⟨j, g', rfl, hj, hg, hm', hgc, hxw, hv, hsz⟩ := hrel
        by_cases hlt : j < R.length
        · obtain rfl := HA.out (by omega)
          have hgo1 := HG.out (by omega)
          have hc := hv.str j hlt
          rw [Nat.zero_add] at hc
          have hsk : sAt (R.map nm) j = nm (R.getD j false) := by
            unfold sAt
            rw [List.getD_eq_getElem?_getD, List.getD_eq_getElem?_getD, List.getElem?_map, List.getElem?_eq_getElem hlt]; rfl
          rw [hsk] at hc
          have hkm : R.getD j false ∈ R := by rw [List.getD_eq_getElem?_getD, List.getElem?_eq_getElem hlt]; exact List.getElem_mem hlt
          have htk : R.take (j + 1) = R.take j ++ [R.getD j false] := by
            rw [List.take_add_one, List.getElem?_eq_getElem hlt, List.getD_eq_getElem?_getD, List.getElem?_eq_getElem hlt]; rfl
          have hkn : R.getD j false ∉ R.take j := by
            have h1 : (R.take (j + 1)).Nodup := HN.out.sublist (List.take_sublist _ _)
            rw [htk, List.nodup_append] at h1
            exact fun hm => h1.2.2 _ hm _ (by simp) rfl
          generalize R.getD j false = k at *
          obtain ⟨⟨x, n⟩, hy⟩ := HS.out k hkm
          have hlk := hg.lookup k
          have hlf : lf (retF F (R.take j)) k = (x, n) := by unfold lf retF; rw [if_neg hkn, hy]; rfl
          rw [hlf] at hlk
          have hre : retF F (R.take (j + 1)) = upd (retF F (R.take j)) k none := by rw [htk, retF_snoc]
          have hrf : retf F f (R.take (j + 1)) = upd (retf F f (R.take j)) k (some x) := by rw [htk, retf_snoc]; unfold lf; rw [hy]; rfl
          have hF2 := hF k x n hy
          have hit := itoa_any x wr (by omega) (hT.ext hxw (by simp; omega))
          have hpa := fun w (hm : Mdl w b g' (mpF (retf F f (R.take j)))) => put_any b g' (mpF (retf F f (R.take j))) (nm k) (itoaS x) w hm (by have := mpF_len (retf F f (R.take j)); omega) (mpF_srt _) (by rw [nm_size]; omega) (by rw [nm_size]; omega) (by have := itoaS_size x (by omega); omega)
          rw [mpF_put, ← hrf] at hpa
          have hdel := fun w (h : Gv w bg r size (retF F (R.take j))) => h.del hne k 0
          rw [← hre] at hdel
          simp only at hlk
          have hgne : g' ≠ bg ∧ g' ≠ r ∧ g' ≠ go := by omega
          generalize hq1 : retF F (R.take (j + 1)) = F2 at *
          generalize hq2 : mpF (retf F f (R.take (j + 1))) = l2 at *
          have HQ1 := Lib.hid hq1
          have HQ2 := Lib.hid hq2
          clear hq1 hq2
          generalize mpF (retf F f (R.take j)) = l1 at *
          generalize retF F (R.take j) = F1 at *
          generalize itoaS x = S at *
          generalize nm k = K at *
          have HK := Lib.hid hkm
          obtain ⟨c0, c1⟩ := cell96 hg
          clear hsk htk hkn hlf hre hrf hy hkm e0 e1
          have hfd := field43_0 x n
          go_wp2_with fail
          refine hit.mono ?_
          rintro e w3 ⟨rfl, hx3⟩
          have hm4 := hm'.ext hx3 (by simp) (by simp)
          have hg3 := hg.ext hx3 (by simp) (by simp)
          have hp := hpa w3 hm4
          have s3 := hx3.size
          clear hit hpa
          go_wp2_with fail
          refine hp.mono ?_
          rintro e w4 ⟨rfl, g4, hm5, hg4, hx4⟩
          have hg4v := hg3.ext hx4 (by simp; omega) (by simp; omega)
          obtain ⟨w5, hde, hg5, hx5⟩ := hdel w4 hg4v
          obtain ⟨d0, d1⟩ := cell96 hg4v
          have s4 := hx4.size
          have s5 := hx5.size
          clear hp hdel
          go_wp2_with fail
          go_roundw
          case rel =>
            refine ⟨j + 1, g4, by go_num, by omega, ?_, ?_, by omega, ?_, ?_, by omega⟩
            · rw [HQ1.out]; exact hg5
            · rw [HQ2.out]; exact hm5.ext hx5 (by simp; omega) (by simp; omega)
            · exact ((hxw.step hx3 (by simp)).step hx4 (by simp; omega)).step hx5 (by simp)
            · exact ((hv.ext hx3 (by simp)).ext hx4 (by simp; omega)).ext hx5 (by simp; omega)
          case measure => simp [intOf]; omega
        · obtain rfl : j = R.length := by omega
          rw [List.take_of_length_le (Nat.le_refl _)] at hg hm'
          go_wp2_with fail
          go_ret2
          have hR := HR.out
          rw [hR]
          exact ⟨rfl, hg, g', hm', by omega, hxw⟩
end Go.Proofs.YtfadbmfkidiaoaaGreatDoor
