/- A text read as a map. -/
import Derived.Test.YtfadbmfkidiaoaaGreatDoorZ17
namespace Go.Proofs.YtfadbmfkidiaoaaGreatDoor
open Go.RowKit Go

def lineX (p : ByteArray × ByteArray) : ByteArray := hexed p.1 ++ ⟨#[61]⟩ ++ hexed p.2
def lnX (l : Pairs) (k : Nat) : ByteArray := lineX (kAt l k, vAt l k)
def rst (l : Pairs) (k : Nat) : ByteArray := textS (l.drop k)
theorem rst_succ {l : Pairs} {k : Nat} (h : k < l.length) : rst l k = lnX l k ++ ⟨#[10]⟩ ++ rst l (k + 1) := by
  apply ba_ext
  show bl _ = bl _
  rw [bl_append]
  have e : ∀ m, bl (rst l m) = textL (l.drop m) := fun m => by unfold rst textS; simp [bl]
  rw [e, e, drop_cons h]
  simp [textL, lineS, lnX, lineX, bl_append]
theorem rst_end (l : Pairs) : rst l l.length = ByteArray.empty := by
  unfold rst textS; rw [List.drop_length]; rfl
theorem hexU_ok : ∀ i, i < 16 → hexU i ≠ 10 ∧ hexU i ≠ 61 := by decide
theorem hexed_no (s : ByteArray) : (10 : UInt8) ∉ bl (hexed s) ∧ (61 : UInt8) ∉ bl (hexed s) := by
  unfold hexed
  split
  · simp [bl]
  · have hm : ∀ c ∈ hexL (bl s), c ≠ 10 ∧ c ≠ 61 := by
      intro c hc
      simp only [hexL, List.mem_flatMap, hexC, List.mem_cons, List.not_mem_nil, or_false] at hc
      obtain ⟨b, _, rfl | rfl⟩ := hc
      · exact hexU_ok _ (by have := b.toNat_lt; omega)
      · exact hexU_ok _ (by omega)
    have e : bl (⟨(hexL (bl s)).toArray⟩ : ByteArray) = hexL (bl s) := by simp [bl]
    rw [e]
    exact ⟨fun h => (hm _ h).1 rfl, fun h => (hm _ h).2 rfl⟩
theorem lnX_no (l : Pairs) (k : Nat) : (10 : UInt8) ∉ bl (lnX l k) := by
  unfold lnX lineX
  rw [bl_append, bl_append]
  have h1 := (hexed_no (kAt l k)).1
  have h2 := (hexed_no (vAt l k)).1
  have e : bl (⟨#[61]⟩ : ByteArray) = [61] := rfl
  rw [e]
  simp only [List.mem_append, List.mem_singleton, not_or]
  exact ⟨⟨h1, by decide⟩, h2⟩

/-- what lies while the lines are read: s the variable of Lines, m4 that of the map at m -/
structure RM (w : World) (B : Nat) (l : Pairs) (k : Nat) (s : ByteArray) (W : World) : Prop where
  b2 : W.heap[B]? = some (.cells #[.pointer none] 31 (0, 0))
  b3 : W.heap[B + 1]? = some (.cells #[.int .i64 0] 36 (0, 0))
  b4 : W.heap[B + 1 + 1 + 1]? = some (.cells #[.pointer (some ⟨B + 1 + 1, 0, none⟩)] 31 (0, 0))
  b5 : W.heap[B + 1 + 1 + 1 + 1]? = some (.cells #[.string s] 9 (0, 0))
  m : ∃ gm, Mdl W (B + 1 + 1) gm (l.take k) ∧ (gm = B + 1 + 1 ∨ (B + 5 ≤ gm ∧ 0 < k))
  x : Ext [] w W
theorem Mdl.put {W : World} {b g : Nat} {l : Pairs} (h : Mdl W b g l) {r : Nat} {o : Obj} (hr : W.heap[r]? = some o) (ho : o.isCells = false) (o' : Obj) : Mdl (W.putObj r o') b g l := by
  obtain ⟨⟨v, hb, hrw⟩, h1, h2, h3⟩ := h
  exact ⟨⟨v, heap_putObj hb rfl hr ho o', hrw.putObj hr ho o'⟩, by rw [World.putObj_size]; exact h1, h2, h3⟩
theorem RM.put {w W : World} {B : Nat} {l : Pairs} {k : Nat} {s : ByteArray} (h : RM w B l k s W) {r : Nat} {o : Obj} (h0 : w.heap.size ≤ r) (hr : W.heap[r]? = some o) (ho : o.isCells = false) (o' : Obj) : RM w B l k s (W.putObj r o') := by
  obtain ⟨h1, h2, h3, h4, ⟨gm, h5, h6⟩, h7⟩ := h
  exact ⟨heap_putObj h1 rfl hr ho o', heap_putObj h2 rfl hr ho o', heap_putObj h3 rfl hr ho o', heap_putObj h4 rfl hr ho o', ⟨gm, h5.put hr ho o', h6⟩, h7.putObj h0 o'⟩
theorem RM.step {w W W' : World} {B : Nat} {l : Pairs} {k : Nat} {s : ByteArray} (h : RM w B l k s W) (hx : Ext [] W W') : RM w B l k s W' := by
  obtain ⟨h1, h2, h3, h4, ⟨gm, h5, h6⟩, h7⟩ := h
  exact ⟨hx.keep h1 (by simp), hx.keep h2 (by simp), hx.keep h3 (by simp), hx.keep h4 (by simp), ⟨gm, h5.ext hx (by simp) (by simp), h6⟩, h7.trans hx⟩
theorem RM.line {w W : World} {B : Nat} {l : Pairs} {k : Nat} {s : ByteArray} (h : RM w B l k s W) (hB : w.heap.size ≤ B) (s' : ByteArray) : RM w B l k s' (W.setCell ⟨B + 1 + 1 + 1 + 1, 0, none⟩ (.string s')) := by
  obtain ⟨h1, h2, h3, h4, ⟨gm, h5, h6⟩, h7⟩ := h
  have hx : Ext [B + 1 + 1 + 1 + 1] W (W.setCell ⟨B + 1 + 1 + 1 + 1, 0, none⟩ (.string s')) := (Ext.refl _ W).setCell (.inl (by simp)) _
  exact ⟨hx.keep h1 (by simp; try omega), hx.keep h2 (by simp; try omega), hx.keep h3 (by simp; try omega), one_setCell h4, ⟨gm, h5.ext hx (by simp; try omega) (by simp; omega), h6⟩, h7.step hx (by simp; omega)⟩

theorem RM.start (w : World) (l : Pairs) (h8 : 8 ≤ w.heap.size) : RM w w.heap.size l 0 (textS l)
    (((((w.alloc (.cells #[.pointer none] 31)).alloc (.cells #[.int .i64 0] 36)).alloc (.cells #[.slice none 0 0] 34)).alloc (.cells #[.pointer (some ⟨w.heap.size + 1 + 1, 0, none⟩)] 31)).alloc (.cells #[.string (textS l)] 9)) := by
  have k : ∀ (W : World) (o : Obj) {b : Nat} {o' : Obj}, W.heap[b]? = some o' → (W.alloc o).heap[b]? = some o' := fun W o _ _ h => ((Ext.refl [] W).alloc o).keep h (by simp)
  have n : ∀ (W : World) (o : Obj) (b : Nat), b = W.heap.size → (W.alloc o).heap[b]? = some o := fun W o b h => by subst h; exact heap_alloc_new W o
  refine ⟨k _ _ (k _ _ (k _ _ (k _ _ (n _ _ _ rfl)))), k _ _ (k _ _ (k _ _ (n _ _ _ (by simp)))), k _ _ (n _ _ _ (by simp)), n _ _ _ (by simp), ⟨w.heap.size + 1 + 1, ⟨⟨.slice none 0 0, k _ _ (k _ _ (n _ _ _ (by simp))), ?_⟩, by simp, by omega, by omega⟩, .inl rfl⟩, ((((Ext.refl [] w).alloc _).alloc _).alloc _).alloc _ |>.alloc _⟩
  rw [List.take_zero]; exact .nil

theorem results_cells {fn : Func} {p q : Tmp} {t u : TypeId} (h : fn.results = #[.cell p t, .cell q u]) (tmps : Array Value) (P : Program) (w : World) :
    (results fn tmps).run P w =
      ((asAddr (tmps.getD p undef)).run P w).andThen fun a w₁ => ((loadVar t a).run P w₁).andThen fun v w₂ => ((asAddr (tmps.getD q undef)).run P w₂).andThen fun b w₃ => ((loadVar u b).run P w₃).andThen fun v' w₄ => .ok (.tuple #[v, v']) w₄ := by
  simp only [results, h]
  simp [Sem.run_bind, Result.andThen]
theorem run_results44 (W : World) (tmps : Array Value) (B M : Nat) (h2 : tmps.getD 2 undef = .pointer (some ⟨B, 0, none⟩)) (h3 : tmps.getD 3 undef = .pointer (some ⟨B + 1, 0, none⟩))
    (c2 : W.cell? ⟨B, 0, none⟩ = some (.pointer (some ⟨M, 0, none⟩))) (c3 : W.cell? ⟨B + 1, 0, none⟩ = some (.int .i64 0)) :
    (results Tryz.f44 tmps).run Tryz.prog W = .ok (.tuple #[.pointer (some ⟨M, 0, none⟩), .int .i64 0]) W := by
  rw [results_cells (fn := Tryz.f44) (p := 2) (q := 3) (t := 31) (u := 36) (by kernel_rfl), h2, h3]
  go_simp

attribute [local go_sem] Oper.semAt_some
set_option maxRecDepth 100000 in
set_option maxHeartbeats 2000000 in
theorem readMap_any (l : Pairs) (w : World) (hs : Srt l) (hn : l.length ≤ 400) (hk : ∀ i, i < l.length → 1 ≤ (kAt l i).size ∧ (kAt l i).size ≤ 24) (hv : ∀ i, i < l.length → (vAt l i).size ≤ 40) (h8 : 8 ≤ w.heap.size) :
    Calls Tryz.prog 44 #[.string (textS l)] w fun e w' => ∃ b' g', e = .returned (.tuple #[.pointer (some ⟨b', 0, none⟩), .int .i64 0]) ∧ Mdl w' b' g' l ∧ w.heap.size ≤ b' ∧ w.heap.size ≤ g' ∧ Ext [] w w' := by
  have htl : (textS l).size ≤ 1000000 := by
    have := textL_len (fun i h => (hk i h).2) hv l.length (Nat.le_refl _)
    rw [List.take_length] at this
    show (textL l).toArray.size ≤ _
    rw [List.size_toArray]; omega
  refine (callsIn_wide (n := 3)).1 ?_
  refine callsIn_of_wp_marks Tryz.func44 rfl trivial ?_ rfl
  simp only [Tryz.ntmps44, List.size_toArray, List.length_cons, List.length_nil, Nat.reduceAdd, Nat.reduceSub, Array.replicate_succ, Array.replicate_zero, List.push_toArray, List.append_toArray, List.nil_append, List.cons_append]
  gi_wp2_with fail
  refine ⟨trivial, (callsIn_wide.2 (lines_any _ _)).mono ?_⟩
  rintro e w1 ⟨rfl, rfl⟩
  have hRM := RM.start w l h8
  gi_wp2_with fail
  obtain ⟨W0, hW0⟩ : ∃ W0, (((((w.alloc (.cells #[.pointer none] 31)).alloc (.cells #[.int .i64 0] 36)).alloc (.cells #[.slice none 0 0] 34)).alloc (.cells #[.pointer (some ⟨w.heap.size + 1 + 1, 0, none⟩)] 31)).alloc (.cells #[.string (textS l)] 9)) = W0 := ⟨_, rfl⟩
  have hsz0 : W0.heap.size = w.heap.size + 1 + 1 + 1 + 1 + 1 := by rw [← hW0]; simp
  rw [hW0] at hRM ⊢
  have hHS := Lib.hid hs; clear hs
  refine wpIn_range (gf := 147) (lb := #[.pointer (some ⟨w.heap.size + 1 + 1 + 1 + 1, 0, none⟩)]) rfl (enters_of Tryz.func147 (by kernel_rfl) rfl) l.length (fun k => #[.string (lnX l k ++ ⟨#[10]⟩)]) (fun _ => rfl)
    (fun k W => RM w w.heap.size l k (rst l k) W) (fun k W => RM w w.heap.size l k (rst l (k + 1)) W)
    (fun k W r o o' h1 h2 h3 h4 => h4.put (by omega) h2 h3 o') (fun k W r o o' h1 h2 h3 h4 => h4.put (by omega) h2 h3 o')
    (fun o o' => ?start)
    (fun k => { tmps := #[.string (textS l), undef, .pointer (some ⟨w.heap.size, 0, none⟩), .pointer (some ⟨w.heap.size + 1, 0, none⟩), .pointer (some ⟨w.heap.size + 1 + 1 + 1, 0, none⟩), .string (lnX l k ++ ⟨#[10]⟩), undef, undef, undef, undef, undef, undef, .string (textS l), .int .i64 ((textS l).size : Int), .bool (decide ((1048576 : Int) < ((textS l).size : Int))), .agg #[.slice none 0 0], .pointer (some ⟨w.heap.size + 1 + 1, 0, none⟩), .string (textS l), .func (.func 147) #[] #[.pointer (some ⟨w.heap.size + 1 + 1 + 1 + 1, 0, none⟩)], .string (lnX l k ++ ⟨#[10]⟩), undef, undef, undef, undef, undef, undef, undef, undef, undef, undef, undef, undef, undef, undef, undef, undef, undef, undef, undef, undef, undef, undef, undef, undef, undef, undef, undef, undef], defers := [] }) ?hit ?assign ?body ?done
  case start =>
    have := (hRM.step ((Ext.refl [] W0).alloc o)).step ((Ext.refl [] _).alloc o')
    exact this
  case hit =>
    rintro r rec W1 hrc hl h0 hbk hY
    refine (lines_it 2 r (w.heap.size + 1 + 1 + 1 + 1) l.length (lnX l) (rst l) (fun k W => RM w w.heap.size l k (rst l k) W ∧ Book W0.heap.size r rec W) (fun k W => RM w w.heap.size l k (rst l (k + 1)) W ∧ Book W0.heap.size r rec W)
      (fun k hk => rst_succ hk) (rst_end l) (fun k _ => lnX_no l k) ?_ (fun k W h => h.1.b5) ?_ ?_ W1 ⟨h0, hbk⟩).mono ?_
    · intro k
      have h2 : (rst l k).size ≤ (textS l).size := by
        have : textL l = textL (l.take k) ++ textL (l.drop k) := by
          rw [textL, textL, textL, ← List.flatMap_append, List.take_append_drop]
        show (textL (l.drop k)).toArray.size ≤ (textL l).toArray.size
        rw [List.size_toArray, List.size_toArray, this, List.length_append]; omega
      omega
    · rintro k W hk ⟨h1, h2⟩
      refine ⟨(h1.line (Nat.le_refl _) _).step ((Ext.refl [] _).drew), ?_⟩
      have hx : Ext [w.heap.size + 1 + 1 + 1 + 1] W (W.setCell ⟨w.heap.size + 1 + 1 + 1 + 1, 0, none⟩ (.string (rst l (k + 1)))).drew := ((Ext.refl _ W).setCell (.inl (by simp)) _).drew
      exact h2.kept (KeptB.of_ext hx (by simp; omega)) (by omega) hrc
    · rintro k W hk ⟨h1, h2⟩
      exact (hY k W hk h1 h2).mono (fun e w h => ⟨h.1, h.2⟩)
    · rintro e W' ⟨h1, h2⟩
      exact ⟨h1, h2⟩
  case assign =>
    intro r k W K hK
    gi_wp2
    exact hK
  case body =>
    rintro r k W ⟨b2, b3, b4, b5, ⟨gm, hm, hgm⟩, hx⟩ hk2
    have c4 := cell_of_one b4
    obtain ⟨hk1, hk24⟩ := hk k hk2
    have hv40 := hv k hk2
    have q1 := hexed_size (kAt l k)
    have q2 := hexed_size (vAt l k)
    have e61 : (⟨#[61]⟩ : ByteArray).size = 1 := rfl
    have hls : (lnX l k).size ≤ 1000 := by unfold lnX lineX; simp only [ByteArray.size_append]; omega
    have t1 := fun W => trim_line (lnX l k) 10 W hls
    have t2 : ∀ W, Calls Tryz.prog 109 #[.string (lnX l k), .string ⟨#[61]⟩] W fun e w' => e = .returned (.tuple #[.string (hexed (kAt l k)), .string (hexed (vAt l k)), .bool true]) ∧ Ext [] W w' := fun W => Cut_eq (hexed (kAt l k)) (hexed (vAt l k)) 61 W (hexed_no _).2 (by omega) (by omega)
    have t3 := fun W => unhexed_any (kAt l k) W (by omega)
    have t4 := fun W => unhexed_any (vAt l k) W (by omega)
    have hput : putL (l.take k) (kAt l k) (vAt l k) = l.take (k + 1) := by
      unfold putL
      rw [has_take hHS.out hk2]
      simp only [Bool.false_eq_true, if_false]
      exact ins_take hHS.out hk2
    have hlt20 : (l.take k).length < 20000 := by rw [List.length_take]; omega
    have t5 := fun W (hm : Mdl W (w.heap.size + 1 + 1) gm (l.take k)) => put_any _ gm (l.take k) (kAt l k) (vAt l k) W hm hlt20 (srt_take hHS.out k) hk1 hk24 hv40
    have HP := Lib.hid hput
    generalize lnX l k = lx at *
    generalize hexed (kAt l k) = hxk at *
    generalize hexed (vAt l k) = hxv at *
    generalize hkk : kAt l k = ky at *
    generalize hvv : vAt l k = vl at *
    clear hput q1 q2 e61 hls
    gi_wp2_with fail
    refine ⟨trivial, (CallsIn.inRound r (callsIn_wide.2 (t1 W))).mono ?_⟩
    rintro e w1 ⟨rfl, rfl⟩
    gi_wp2_with fail
    refine ⟨trivial, (CallsIn.inRound r (callsIn_wide.2 (t2 W))).mono ?_⟩
    rintro e w1 ⟨rfl, hx1⟩
    have c41 : w1.drew.cell? ⟨w.heap.size + 1 + 1 + 1, 0, none⟩ = some (.pointer (some ⟨w.heap.size + 1 + 1, 0, none⟩)) := hx1.cell c4 (by simp)
    have hmd := hm.ext hx1.drew (by simp) (by simp)
    have hxd := hx1.drew
    have hmix : Tryz.prog.follows .mixedOrders = true := by kernel_rfl
    gi_wp2_with fail
    gi_region_with_o (first
      | (refine ⟨trivial, ?_⟩; gi_at_call 111; (with_reducible refine (CallsIn.inRound r (callsIn_wide.2 (t3 _))).mono ?_); rintro e w' ⟨rfl, hxn⟩; replace hmd := hmd.ext hxn (by simp) (by simp); replace hxd := hxd.trans hxn; replace c41 := hxn.cell c41 (by simp))
      | (refine ⟨trivial, ?_⟩; gi_at_call 111; (with_reducible refine (CallsIn.inRound r (callsIn_wide.2 (t4 _))).mono ?_); rintro e w' ⟨rfl, hxn⟩; replace hmd := hmd.ext hxn (by simp) (by simp); replace hxd := hxd.trans hxn; replace c41 := hxn.cell c41 (by simp))
      | (refine ⟨trivial, ?_⟩; gi_at_call 36; (with_reducible refine (CallsIn.inRound r (callsIn_wide.2 (t5 _ hmd))).mono ?_); rintro e w' ⟨rfl, gm', hm', hgm', hxp⟩))
    all_goals (
      clear t1 t2 t3 t4 t5 c41
      gi_wp2_with fail
      have hxa : Ext [w.heap.size + 1 + 1, gm] W w' := (hxd.mono (by simp)).trans hxp
      have hsd := hxd.size
      have hsw := hx.size
      have hml := hm.lt
      rw [HP.out] at hm'
      have hb5l := lt_of_block b5
      refine ⟨KeptB.of_ext2 hxa ?_, hxa.keep b2 (by simp; omega), hxa.keep b3 (by simp; omega), hxa.keep b4 (by simp; omega), hxa.keep b5 (by simp; omega), ⟨gm', hm', by omega⟩, hx.step hxa (by simp; omega)⟩
      intro y hy
      simp only [List.mem_cons, List.not_mem_nil, or_false] at hy
      rcases hy with rfl | rfl
      · exact .inl (by omega)
      · rcases hgm with h | ⟨_, h⟩
        · exact .inl (by omega)
        · obtain ⟨⟨v, hb, hr⟩, _⟩ := hm
          rcases hr.split with ⟨_, h0, _⟩ | ⟨_, _, _, _, _, h0, _⟩
          · rw [List.length_take] at h0; omega
          · exact .inr (.inr ⟨_, h0, rfl⟩))
  case done =>
    rintro W ⟨b2, b3, b4, b5, ⟨gm, hm, hgm⟩, hx⟩ hD
    rw [List.take_length] at hm
    have c4 := cell_of_one b4
    have hneq : ((textS l).toList == (textS l).toList) = true := beq_self_eq_true _
    gi_wp2_with fail
    refine ⟨trivial, (callsIn_wide.2 (map_any _ gm l W hm hn (fun i h => (hk i h).2) hv)).mono ?_⟩
    rintro e w1 ⟨rfl, hx1⟩
    have c41 := hx1.cell c4 (by simp)
    have hb2 := hx1.keep b2 (by simp)
    have hb3 := hx1.keep b3 (by simp)
    have c2 := cell_of_one hb2
    have f2 := frozen_of_one hb2
    have hx2 : Ext [w.heap.size] w1 (w1.setCell ⟨w.heap.size, 0, none⟩ (.pointer (some ⟨w.heap.size + 1 + 1, 0, none⟩))) := (Ext.refl _ w1).setCell (.inl (by simp)) _
    have hb3' := hx2.keep hb3 (by simp)
    have c3 := cell_of_one hb3'
    have f3 := frozen_of_one hb3'
    gi_wp2_with fail
    have hx3 : Ext [w.heap.size + 1] (w1.setCell ⟨w.heap.size, 0, none⟩ (.pointer (some ⟨w.heap.size + 1 + 1, 0, none⟩))) ((w1.setCell ⟨w.heap.size, 0, none⟩ (.pointer (some ⟨w.heap.size + 1 + 1, 0, none⟩))).setCell ⟨w.heap.size + 1, 0, none⟩ (.int .i64 0)) := (Ext.refl _ _).setCell (.inl (by simp)) _
    have d2 : ((w1.setCell ⟨w.heap.size, 0, none⟩ (.pointer (some ⟨w.heap.size + 1 + 1, 0, none⟩))).setCell ⟨w.heap.size + 1, 0, none⟩ (.int .i64 0)).cell? ⟨w.heap.size, 0, none⟩ = some (.pointer (some ⟨w.heap.size + 1 + 1, 0, none⟩)) := cell_of_one (hx3.keep (one_setCell hb2) (by simp))
    have d3 : ((w1.setCell ⟨w.heap.size, 0, none⟩ (.pointer (some ⟨w.heap.size + 1 + 1, 0, none⟩))).setCell ⟨w.heap.size + 1, 0, none⟩ (.int .i64 0)).cell? ⟨w.heap.size + 1, 0, none⟩ = some (.int .i64 0) := cell_of_one (one_setCell hb3')
    have hx13 : Ext [w.heap.size, w.heap.size + 1] w1 _ := (hx2.mono (by simp)).trans (hx3.mono (by simp))
    have hm3 := (hm.ext hx1 (by simp) (by simp)).ext hx13 (by simp; omega) (by simp; omega)
    have hD3 := hx13.keep (hx1.keep hD (by simp)) (by simp; omega)
    generalize ((w1.setCell ⟨w.heap.size, 0, none⟩ (.pointer (some ⟨w.heap.size + 1 + 1, 0, none⟩))).setCell ⟨w.heap.size + 1, 0, none⟩ (.int .i64 0)) = W3 at *
    rw [hsz0] at hD3
    refine ⟨by simp, .inl ⟨_, _, rfl, run_takeDeferred hD3, ?_⟩⟩
    have hx03 : Ext [] w W3 := (hx.trans hx1).step hx13 (by simp)
    have e2 : (W3.putObj (w.heap.size + 1 + 1 + 1 + 1 + 1) (.deferred none)).cell? ⟨w.heap.size, 0, none⟩ = some (.pointer (some ⟨w.heap.size + 1 + 1, 0, none⟩)) :=
      (World.cell?_of_block (World.putObj_heap_other (by simp; try omega))).trans d2
    have e3 : (W3.putObj (w.heap.size + 1 + 1 + 1 + 1 + 1) (.deferred none)).cell? ⟨w.heap.size + 1, 0, none⟩ = some (.int .i64 0) :=
      (World.cell?_of_block (World.putObj_heap_other (by simp; try omega))).trans d3
    exact ⟨_, run_results44 _ _ w.heap.size (w.heap.size + 1 + 1) rfl rfl e2 e3, _, gm, rfl, hm3.put hD3 rfl _, by omega, by omega, hx03.putObj (by omega) _⟩
end Go.Proofs.YtfadbmfkidiaoaaGreatDoor
