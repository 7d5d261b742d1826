/- The numbers of two givers: the walk. -/
import Derived.Test.YtfadbmfkidiaoaaGreatDoorN3
import Derived.Test.YtfadbmfkidiaoaaGreatDoorN0
import Derived.Deep.RegionHeld3
import Derived.Deep.DeepCutAuto
namespace Go.Proofs.YtfadbmfkidiaoaaGreatDoor
open Go.RowKit Go

theorem T41 : SlT Tryz.prog 41 3 1 8 := slT_mk (z := .int .i64 0) Tryz.underlying41 (by kernel_rfl) rfl (by omega)
theorem held0 {w : World} {a b c : Addr} {x y z : Value} (h1 : w.cell? a = some x) (h2 : w.cell? b = some y) (h3 : w.cell? c = some z) : w.drew.cell? a = some x ∧ w.drew.cell? b = some y ∧ w.drew.cell? c = some z ∧ Ext [] w w.drew :=
  ⟨h1, h2, h3, (Ext.refl [] w).drew⟩
theorem held1 {w W W' : World} {a b c : Addr} {x y z : Value} (h : W.cell? a = some x ∧ W.cell? b = some y ∧ W.cell? c = some z ∧ Ext [] w W) (hx : Ext [] W W') : W'.cell? a = some x ∧ W'.cell? b = some y ∧ W'.cell? c = some z ∧ Ext [] w W' :=
  ⟨hx.cell h.1 (by simp), hx.cell h.2.1 (by simp), hx.cell h.2.2.1 (by simp), h.2.2.2.trans hx⟩
theorem held_x {w W : World} {A B C : Prop} (h : A ∧ B ∧ C ∧ Ext [] w W) : Ext [] w W := h.2.2.2
theorem cond_merge1 {P : Program} {Q : Exit → Act → World → Prop} {a : Act} {w : World} {c : Operand} {x : Code} (t : Bool) (p : Nat) (v : Bool → Value) (hc : a.eval c = .bool t)
    (hx : ∀ Q : Exit → Act → World → Prop, Q .normal (a.put (some p) (v true)) w → x.wp P Q a w) (h0 : a.put (some p) (v false) = a) (h : Q .normal (a.put (some p) (v t)) w) : (Code.cond c x .skip).wp P Q a w :=
  wp_cond hc (by
    cases t
    · rw [h0] at h; exact wp_skip h
    · exact hx Q h)
theorem cond_merge2 {P : Program} {Q : Exit → Act → World → Prop} {a : Act} {w : World} {c : Operand} {x : Code} (t : Bool) (p q : Nat) (v : Bool → Value) (y1 y0 : Value) (hc : a.eval c = .bool t)
    (hx : ∀ Q : Exit → Act → World → Prop, Q .normal ((a.put (some q) y1).put (some p) (v true)) w → x.wp P Q a w) (h0 : (a.put (some q) y0).put (some p) (v false) = a) (h : ∀ y, Q .normal ((a.put (some q) y).put (some p) (v t)) w) : (Code.cond c x .skip).wp P Q a w :=
  wp_cond hc (by
    cases t
    · have := h y0; rw [h0] at this; exact wp_skip this
    · exact hx Q (h y1))
section
variable {base : Nat} {w w' : World} {b gm : Nat} {bg r : Bool → Nat} {gg gl gn : Nat} {gk : Bool → Nat} {v : Bool → Value} {sz : Bool → Nat} {f f' : Bool → Option Nat} {L : Bool → Lf} {gv : Bool → List Nat} {lost : Bool → Nat}
theorem NS.lc (h : NS base w b gm bg r gg gl gn gk v sz f L gv lost) : w.cell? ⟨gl, 0, none⟩ = some (.int .i64 (lost false : Nat)) ∧ w.cell? ⟨gl, 1, none⟩ = some (.int .i64 (lost true : Nat)) ∧ w.frozen? ⟨gl, 0, none⟩ = false ∧ w.frozen? ⟨gl, 1, none⟩ = false :=
  ⟨cell_of_row _ _ 0 _ _ _ h.lt, cell_of_row _ _ 1 _ _ _ h.lt, frozen_of_row _ _ 0 _ _ h.lt, frozen_of_row _ _ 1 _ _ h.lt⟩
theorem NS.addLost (h : NS base w b gm bg r gg gl gn gk v sz f L gv lost) (k : Bool) (m : Nat) : NS base (w.setCell ⟨gl, k.toNat, none⟩ (.int .i64 ((lost k : Nat) + (m : Nat) : Int))) b gm bg r gg gl gn gk v sz f L gv (upd lost k (lost k + m)) := by
  have := h.setLost k (lost k + m)
  rwa [Int.natCast_add] at this
theorem NS.glb (h : NS base w b gm bg r gg gl gn gk v sz f L gv lost) : base ≤ gl := h.lo gl (by simp)
theorem NS.gtk (h : NS base w b gm bg r gg gl gn gk v sz f L gv lost) (k : Bool) : ∃ A c, v k = .slice A (gv k).length c ∧ w.cell? ⟨gg, k.toNat, none⟩ = some (.slice A (gv k).length c) ∧
    ∀ j, j < (gv k).length → A = some ⟨gk k, 0, none⟩ ∧ w.cell? ⟨gk k, j, none⟩ = some (.int .i64 ((gv k).getD j 0 : Nat)) := by
  obtain ⟨A, c, hv, hA, _⟩ := (h.rw k).form
  have hc : w.cell? ⟨gg, k.toNat, none⟩ = some (v k) := by
    have := cell_of_row w gg k.toNat _ _ _ h.gt
    rw [this]; cases k <;> rfl
  refine ⟨A, c, hv, by rw [hc, hv], fun j hj => ⟨hA (by omega), ?_⟩⟩
  have hr := (h.rw k).vw
  rw [hv, hA (by omega)] at hr
  cases hr with
  | at_ _ _ _ hcell _ =>
    have := hcell j _ (by unfold ints; rw [List.getElem?_map, List.getElem?_eq_getElem hj]; rfl)
    rw [Nat.zero_add] at this
    rw [this, List.getD_eq_getElem?_getD, List.getElem?_eq_getElem hj]; rfl
theorem cells41 {W : World} {B : Nat} {x y : Value} {t : Nat} (hb : W.heap[B]? = some (.cells #[x, y] t (0, 0))) :
    W.cell? ⟨B, 0, none⟩ = some x ∧ W.cell? ⟨B, 1, none⟩ = some y ∧ W.frozen? ⟨B, 0, none⟩ = false ∧ W.frozen? ⟨B, 1, none⟩ = false :=
  ⟨cell_of_row _ _ 0 _ _ _ hb, cell_of_row _ _ 1 _ _ _ hb, frozen_of_row _ _ 0 _ _ hb, frozen_of_row _ _ 1 _ _ hb⟩
theorem cells41k {W : World} {B : Nat} {v : Bool → Value} {t : Nat} (hb : W.heap[B]? = some (.cells #[v false, v true] t (0, 0))) (k : Bool) :
    W.cell? ⟨B, k.toNat, none⟩ = some (v k) ∧ W.frozen? ⟨B, k.toNat, none⟩ = false := by
  cases k
  · exact ⟨cell_of_row _ _ 0 _ _ _ hb, frozen_of_row _ _ 0 _ _ hb⟩
  · exact ⟨cell_of_row _ _ 1 _ _ _ hb, frozen_of_row _ _ 1 _ _ hb⟩
theorem Row.glt {W : World} {g e sz : Nat} {v : Value} {n : Nat} {cs : List Value} (h : Row W g e sz v n cs) (h0 : 0 < n) : g < W.heap.size := by
  rcases h.split with ⟨_, e2, _⟩ | ⟨c, cur, _, _, _, hb, _⟩
  · omega
  · exact lt_of_block hb
theorem NS.rm (h : NS base w b gm bg r gg gl gn gk v sz f L gv lost) (k : Bool) : ∃ g0, Row w g0 3 1 (v k) (gv k).length (ints (gv k)) ∧ (g0 = gk k ∨ w.heap.size ≤ g0) ∧ (g0 = gk k → v k ≠ nilS) ∧ gg ≠ g0 ∧ base ≤ g0 ∧ base ≤ gg := by
  obtain ⟨g0, h1, h2, h3⟩ := h.room k
  have hlo := h.lo
  have hhi := h.hi
  have hnk := h.nk k
  simp only [List.mem_cons, List.not_mem_nil, or_false, forall_eq_or_imp, forall_eq, not_or] at hlo hhi hnk
  refine ⟨g0, h1, h2, h3, ?_, ?_, by omega⟩
  · rcases h2 with rfl | h2 <;> omega
  · rcases h2 with rfl | h2
    · cases k <;> omega
    · omega
theorem upd_len {i : Nat} (h : ∀ k, (gv k).length ≤ i) (k : Bool) (x : Nat) : ∀ j, (upd gv k (gv k ++ [x]) j).length ≤ i + 1 := fun j => by
  by_cases e : j = k
  · subst e; rw [upd_same, List.length_append]; have := h j; simp; omega
  · rw [upd_other _ _ _ _ e]; have := h j; omega
theorem upd_lt {i : Nat} (h : ∀ k, ∀ x ∈ gv k, x < i) (k : Bool) (x : Nat) (hx : x < i) : ∀ j, ∀ y ∈ upd gv k (gv k ++ [x]) j, y < i := fun j y hy => by
  by_cases e : j = k
  · subst e; rw [upd_same] at hy
    rcases List.mem_append.1 hy with hy | hy
    · exact h j y hy
    · simp at hy; omega
  · rw [upd_other _ _ _ _ e] at hy; exact h j y hy
theorem lost_eq (m : Bool → Nat) : upd (upd lost false (lost false + m false)) true (lost true + m true) = fun k => lost k + m k := by
  funext k; cases k <;> simp [upd]
theorem getD_mem {l : List Nat} {j : Nat} (hj : j < l.length) : l.getD j 0 ∈ l := by
  rw [List.getD_eq_getElem?_getD, List.getElem?_eq_getElem hj]; exact List.getElem_mem hj
theorem getD_ne {l : List Nat} {x j : Nat} (h : x ∉ l) (hj : j < l.length) : ((l.getD j 0 : Nat) : Int) ≠ x := fun e => h (by
  have : l.getD j 0 = x := by omega
  rw [List.getD_eq_getElem?_getD, List.getElem?_eq_getElem hj] at this
  exact this ▸ List.getElem_mem hj)
end

set_option maxRecDepth 100000 in
set_option maxHeartbeats 40000000 in
theorem numbered_any (gw : Nat) (v : Value) (n : Nat) (l : List Wnt) (size piece : Nat) (w : World) (hv : Wv w gw v n l) (hn : n ≤ 60) (hs : 1 ≤ size ∧ size ≤ 9) (hp : 1 ≤ piece ∧ piece ≤ 64) (hT : Tab w) (h8 : 8 ≤ w.heap.size) (hk8 : ∀ x ∈ l, x.2.2 < 256) :
    Calls Tryz.prog 5 #[v, .int .i64 size, .int .i64 piece] w fun e w' => e = .returned (.bool true) ∧ Ext [] w w' := by
  have hx0 : Ext [] w (w.alloc (.cells #[.slice none 0 0] 34)) := (Ext.refl [] w).alloc _
  have hm0 : Mdl (w.alloc (.cells #[.slice none 0 0] 34)) w.heap.size w.heap.size [] := ⟨⟨_, heap_alloc_new w _, .nil⟩, by simp, h8, h8⟩
  have hn1 := fun w => idsNew size w hs.1 hs.2
  have hn2 := fun w => idsNew (size % 5 + 1) w (by omega) (by omega)
  have hcast : ((size % 5 + 1 : Nat) : Int) = (size : Int) % 5 + 1 := by omega
  rw [hcast] at hn2
  obtain ⟨A, c, rfl, hnc⟩ := hv.form
  clear hcast
  go_enter Tryz.func5, Tryz.ntmps5
  go_wp2_with fail
  refine (hn1 _).mono ?_
  rintro e w1 ⟨bg0, r0, rfl, hg0, h01, h02, h03, h04, hx1⟩
  go_wp2_with fail
  refine (hn2 _).mono ?_
  rintro e w2 ⟨bg1, r1, rfl, hg1, h11, h12, h13, h14, hx2⟩
  clear hn1 hn2
  simp only [World.size_alloc] at h01 h02
  have s1 := hx1.size
  have s2 := hx2.size
  simp only [World.size_alloc] at s1
  have ne0 := hg0.ne
  have ne1 := hg1.ne
  go_wp2_with fail
  have hb2 : ∀ o o' o'' : Obj, Ext [] w2 (((w2.alloc o).alloc o').alloc o'') := fun o o' o'' => (((Ext.refl [] w2).alloc o).alloc o').alloc o''
  obtain ⟨bg, rfl, rfl⟩ : ∃ bg : Bool → Nat, bg0 = bg false ∧ bg1 = bg true := ⟨fun s => if s then bg1 else bg0, rfl, rfl⟩
  obtain ⟨r, rfl, rfl⟩ : ∃ r : Bool → Nat, r0 = r false ∧ r1 = r true := ⟨fun s => if s then r1 else r0, rfl, rfl⟩
  obtain ⟨sz, hsz0, hsz1⟩ : ∃ sz : Bool → Nat, sz false = size ∧ sz true = size % 5 + 1 := ⟨fun s => if s then size % 5 + 1 else size, rfl, rfl⟩
  rw [← hsz0] at hg0
  rw [← hsz1] at hg1
  have hszs : ∀ s, 1 ≤ sz s ∧ sz s ≤ 9 := by intro s; cases s <;> omega
  have hns : NS w.heap.size (((w2.alloc (.cells #[.string kA, .string kB] 9)).alloc (.cells #[.slice none 0 0, .slice none 0 0] 41)).alloc (.cells #[.int .i64 0, .int .i64 0] 3)) w.heap.size w.heap.size bg r
      (w2.heap.size + 1) (w2.heap.size + 1 + 1) w2.heap.size (fun _ => w2.heap.size) (fun _ => nilS) sz (fun _ => none) (fun _ _ => none) (fun _ => []) (fun _ => 0) := by
    refine ⟨?_, ?_, ?_, .inr (.inl rfl), ?_, ?_, ?_, ?_, ?_, ?_, ?_, ?_, fun _ => .inr rfl, ?_, ?_⟩
    · simp; omega
    · simp; omega
    · simp; omega
    · simp; omega
    · simp; omega
    · exact ((hm0.ext hx1 (by simp) (by simp)).ext hx2 (by simp) (by simp)).ext (hb2 _ _ _) (by simp) (by simp)
    · intro s
      cases s
      · exact (hg0.ext hx2 (by simp) (by simp)).ext (hb2 _ _ _) (by simp) (by simp)
      · exact hg1.ext (hb2 _ _ _) (by simp) (by simp)
    · have := heap_alloc_new (w2.alloc (.cells #[.string kA, .string kB] 9)) (.cells #[.slice none 0 0, .slice none 0 0] 41)
      rw [World.size_alloc] at this
      exact ((Ext.refl [] _).alloc _).keep this (by simp)
    · intro k; exact .nil
    · have := heap_alloc_new ((w2.alloc (.cells #[.string kA, .string kB] 9)).alloc (.cells #[.slice none 0 0, .slice none 0 0] 41)) (.cells #[.int .i64 0, .int .i64 0] 3)
      rw [World.size_alloc, World.size_alloc] at this
      exact this
    · simp; omega
    · simp; omega
    · exact (((Ext.refl [] _).alloc _).alloc _).keep (heap_alloc_new w2 _) (by simp)
  have hx3 : Ext [] w (((w2.alloc (.cells #[.string kA, .string kB] 9)).alloc (.cells #[.slice none 0 0, .slice none 0 0] 41)).alloc (.cells #[.int .i64 0, .int .i64 0] 3)) := ((hx0.trans hx1).trans hx2).trans (hb2 _ _ _)
  clear hb2 hx0 hx1 hx2 hm0 hg0 hg1 ne0 ne1 h01 h02 h03 h04 h11 h12 h13 h14
  generalize hgg : w2.heap.size + 1 = gg at *
  generalize hgn : w2.heap.size = gn at *
  clear hgg hgn s1 s2 hsz0 hsz1
  go_loopw [7, 15] (fun mv iv wl => ∃ (i b gm : Nat) (gk : Bool → Nat) (vv : Bool → Value) (f : Bool → Option Nat) (L : Bool → Lf) (gv : Bool → List Nat) (lost : Bool → Nat), mv = .pointer (some ⟨b, 0, none⟩) ∧ iv = .int .i64 i ∧ i ≤ n ∧ NS w.heap.size wl b gm bg r gg (gg + 1) gn gk vv sz f L gv lost ∧ IKA (1 + 9 * i) f L gv lost ∧ (∀ k, (gv k).length ≤ i) ∧ (∀ k, ∀ x ∈ gv k, x < 100000) ∧ Ext [] w wl) (fun _ iv _ => n - (intOf iv).toNat)
  case atStart => exact ⟨0, _, _, _, _, _, _, _, _, rfl, rfl, Nat.zero_le _, hns, fun k => IK.start, by simp, by simp, hx3⟩
  case round =>
    clear hns hx3
    obtain ⟨i, b, gm, gk, vv, f, L, gv, lost, rfl, rfl, hi, hns, hI, hgl, hgx, hx⟩ := hrel
    by_cases hlt : i < n
    · obtain ⟨o, c2, hvv, k0, k1, k2⟩ := (hv.ext hx (by simp)).at_ i hlt
      obtain rfl : A = some ⟨gw, o, none⟩ := by injection hvv
      clear hvv
      have hkd : (wAt l i).2.2 < 256 := by
        have hl : i < l.length := by have := hv.len; omega
        unfold wAt; rw [List.getD_eq_getElem?_getD, List.getElem?_eq_getElem hl]; exact hk8 _ (List.getElem_mem hl)
      generalize wAt l i = y at *
      obtain ⟨sc, ot, kd⟩ := y
      simp only at k0 k1 k2 hkd
      have hN : 1 + 9 * i < 90000 := by omega
      have hTr := hT.ext hx (by simp)
      have hlose := fun W gm f lost (h : NS w.heap.size W b gm bg r gg (gg + 1) gn gk vv sz f L gv lost) hx => loseAny h (fun s => (hszs s).1) h8 hx sc
      have hret := returnAny hns hI (by omega) (fun s => (hszs s).1) h8 hTr hx sc
      have hcar := carryAny hns hI (by omega) hx piece hp
      have hgive := giveAny hns hI (by omega) hszs h8 hTr hx sc ot
      have hnb := hns.nb
      have n0 : wr.cell? ⟨gn, ot.toNat, none⟩ = some (.string (nm ot)) := by rw [cell_of_row _ _ _ _ _ _ hnb]; cases ot <;> rfl
      have hot : ot.toNat < 2 := by cases ot <;> decide
      clear hnb
      have hlo : ∀ k, lost k ≤ 1000 := fun k => by have := (hI k).sum; have := (hI k).fN; omega
      have hcn : ∀ k, (lf (L sc) k).2 ≤ 1000 := fun k => by
        show cnt (L sc k) ≤ 1000
        have h1 := (hI k).sum
        have h2 := (hI k).fN
        cases sc <;> omega
      have hlf := fun W k (h : Gv W (bg sc) (r sc) (sz sc) (L sc)) => gvLeft (bg sc) (r sc) (sz sc) (L sc) k W h (hszs sc).1
      have HI := Lib.hid hI; clear hI
      have hgvf := fun W f gv lost (h : NS w.heap.size W b gm bg r gg (gg + 1) gn gk vv sz f L gv lost) => h.gvs sc
      have hgtk := fun W gm f L (h : NS w.heap.size W b gm bg r gg (gg + 1) gn gk vv sz f L gv lost) => h.gtk ot
      have hroom := fun W gm f L (h : NS w.heap.size W b gm bg r gg (gg + 1) gn gk vv sz f L gv lost) => h.rm ot
      have hpush := fun W gm f L (h : NS w.heap.size W b gm bg r gg (gg + 1) gn gk vv sz f L gv lost) (W' : World) (g0 g9 x : Nat) (v9 : Value) => h.push ot (w' := W') (g0 := g0) (g9 := g9) (x := x) (v9 := v9)
      have hul := fun x => upd_len hgl ot x
      have hux := fun x => upd_lt hgx ot x
      have hgo := hgl ot
      have hlo0 := hlo false
      have hlo1 := hlo true
      have hcn0 := hcn false
      have hcn1 := hcn true
      have hmm : upd (upd lost false (lost false + (lf (L sc) false).2)) true (lost true + (lf (L sc) true).2) = fun k => lost k + cnt (L sc k) := lost_eq (fun k => cnt (L sc k))
      have HIL := Lib.hid (HI.out.lose sc)
      generalize hgs : gv ot = gs at hgive hgtk hroom hpush hul hux hgo
      have hl0 := fun W h => hlf W false h
      have hl1 := fun W h => hlf W true h
      have hfd0 := field43_1 ((lf (L sc) false).1 : Nat) ((lf (L sc) false).2 : Nat)
      have hfd1 := field43_1 ((lf (L sc) true).1 : Nat) ((lf (L sc) true).2 : Nat)
      generalize lf (L sc) false = p0 at hl0 hcn0 hmm hfd0
      generalize lf (L sc) true = p1 at hl1 hcn1 hmm hfd1
      obtain ⟨x0, m0⟩ := p0
      obtain ⟨x1, m1⟩ := p1
      simp only at hl0 hl1 hcn0 hcn1 hmm hfd0 hfd1
      have HM := Lib.hid hmm
      clear hgs hmm hlf hlo hcn
      go_upto_if 69 with fail
      go_cut [16] (fun a wx => a = .pointer (some ⟨bg sc, 0, none⟩) ∧ wr = wx)
      case first =>
        cases sc
        · go_wp2_with fail
          go_meet
          case rel => exact ⟨rfl, rfl⟩
        · go_wp2_with fail
          go_meet
          case rel => exact ⟨rfl, rfl⟩
      case rest =>
        obtain ⟨rfl, rfl⟩ := hcut
        go_upto_if 75 with fail
        go_cut [17] (fun a wx => a = .int .i64 (ot.toNat : Nat) ∧ wr = wx)
        case first =>
          cases ot
          · go_wp2_with fail
            go_meet
            case rel => exact ⟨rfl, rfl⟩
          · go_wp2_with fail
            go_meet
            case rel => exact ⟨rfl, rfl⟩
        case rest =>
        obtain ⟨rfl, rfl⟩ := hcut
        go_wp2_with fail
        · as_aux_lemma =>
            have hnsd := hns.ext0 ((Ext.refl [] wr).drew)
            have l1 := hl0 _ (hgvf _ _ _ _ hnsd)
            have hggb := hnsd.glb
            obtain ⟨c0, c1, f0, f1⟩ := hnsd.lc
            clear hret hgive hcar k0 k1 k2 n0 hgtk hroom hpush hul hux hgo hl0
            go_region_with (go_at_call 8; refine l1.mono ?_; rintro e w3 ⟨rfl, hxa⟩; have hns1 := hnsd.ext0 hxa; obtain ⟨d0, d1, g0, g1⟩ := hns1.lc)
            all_goals (
              have hw2 : IntKind.i64.wrap ((lost false : Nat) + (m0 : Nat) : Int) = (lost false : Nat) + (m0 : Nat) := IntWalk.i64_in _ (by omega)
              rw [hw2]
              clear hw2
              have hns2 := hns1.addLost false m0
              have hx2 : Ext [] w (w3.setCell ⟨gg + 1, 0, none⟩ (.int .i64 ((lost false : Nat) + (m0 : Nat) : Int))) := (hx.drew.trans hxa).setCell (.inr hggb) _
              simp only [Bool.toNat_false] at hns2
              clear c0 c1 f0 f1 d0 d1 g0 g1 l1 hns hnsd hns1 hxa hlo0 hcn0 hfd0
              go_wp2_with fail
              generalize w3.setCell ⟨gg + 1, 0, none⟩ (.int .i64 ((lost false : Nat) + (m0 : Nat) : Int)) = W3 at *
              have hnsd2 := hns2.ext0 ((Ext.refl [] _).drew)
              have l2 := hl1 _ (hgvf _ _ _ _ hnsd2)
              obtain ⟨c0, c1, f0, f1⟩ := hnsd2.lc
              change _ = some (Value.int .i64 (lost true : Nat)) at c1
              clear hl1 hgvf
              go_region_with (go_at_call 8; refine l2.mono ?_; rintro e w4 ⟨rfl, hxb⟩; have hns3 := hnsd2.ext0 hxb; obtain ⟨d0, d1, g0, g1⟩ := hns3.lc; change _ = some (Value.int .i64 (lost true : Nat)) at d1)
              all_goals (
                have hw4 : IntKind.i64.wrap ((lost true : Nat) + (m1 : Nat) : Int) = (lost true : Nat) + (m1 : Nat) := IntWalk.i64_in _ (by omega)
                rw [hw4]
                clear hw4
                have hns4 : NS w.heap.size (w4.setCell ⟨gg + 1, 1, none⟩ (.int .i64 ((lost true : Nat) + (m1 : Nat) : Int))) b gm bg r gg (gg + 1) gn gk vv sz f L gv (upd (upd lost false (lost false + m0)) true (lost true + m1)) := hns3.addLost true m1
                have hx4 : Ext [] w (w4.setCell ⟨gg + 1, 1, none⟩ (.int .i64 ((lost true : Nat) + (m1 : Nat) : Int))) := (hx2.drew.trans hxb).setCell (.inr hggb) _
                rw [HM.out] at hns4
                have hlo5 := hlose _ _ _ _ hns4 hx4
                clear c0 c1 f0 f1 d0 d1 g0 g1 l2 hns2 hnsd2 hns3 hxb hlose hns4 hx4 hlo1 hcn1 hfd1
                go_wp2_with fail
                refine hlo5.mono ?_
                rintro e w5 ⟨⟨v5, rfl⟩, hns5, hx5⟩
                clear hlo5
                go_wp2_with fail
                go_roundw
                case rel => exact ⟨i + 1, b, gm, gk, vv, f, _, gv, _, rfl, by go_num, by omega, hns5, HIL.out.mono (by omega), fun k => Nat.le_trans (hgl k) (by omega), hgx, hx5⟩
                case measure => simp [intOf]; omega))
        · refine hret.mono ?_
          rintro e w3 ⟨⟨q, rfl⟩, gm', f', L', hns', hI', hx'⟩
          clear hret hlose hgive hcar k0 k1 k2 n0 hns
          go_wp2_with fail
          go_roundw
          case rel => exact ⟨i + 1, b, gm', gk, vv, f', L', gv, lost, rfl, by go_num, by omega, hns', hI'.mono (by omega), fun k => Nat.le_trans (hgl k) (by omega), hgx, hx'⟩
          case measure => simp [intOf]; omega
        · refine hcar.mono ?_
          rintro e w3 ⟨b', rfl, gm', hns', hx'⟩
          clear hret hlose hgive hcar k0 k1 k2 n0 hns
          go_wp2_with fail
          go_roundw
          case rel => exact ⟨i + 1, b', gm', gk, vv, f, L, gv, lost, rfl, by go_num, by omega, hns', HI.out.mono (by omega), fun k => Nat.le_trans (hgl k) (by omega), hgx, hx'⟩
          case measure => simp [intOf]; omega
        · refine hcar.mono ?_
          rintro e w3 ⟨b', rfl, gm', hns', hx'⟩
          clear hret hlose hgive hcar k0 k1 k2 n0 hns
          go_wp2_with fail
          go_roundw
          case rel => exact ⟨i + 1, b', gm', gk, vv, f, L, gv, lost, rfl, by go_num, by omega, hns', HI.out.mono (by omega), fun k => Nat.le_trans (hgl k) (by omega), hgx, hx'⟩
          case measure => simp [intOf]; omega
        · as_aux_lemma =>
            refine hgive.mono ?_
            rintro e w3 ⟨x, rfl, gm', f', L', hns', hI', hxn, hx5, hx'⟩
            obtain ⟨A', c', hvv, hc3, hcj⟩ := hgtk _ _ _ _ hns'
            have hns4 := hns'.ext0 ((Ext.refl [] w3).alloc (.cells #[.int .i64 x] 3))
            obtain ⟨g0, hr0, hg0, hgn0, hgg0, hb0, hb1⟩ := hroom _ _ _ _ hns4
            have hgt4 := hns4.gt
            have hps := hpush _ _ _ _ hns4
            clear hret hlose hgive hcar k0 k1 k2 n0 hns hgvf hgtk hroom hpush hcn0 hcn1 hlo0 hlo1 HI hl0 hl1 hfd0 hfd1 hns'
            rw [hvv] at hr0
            have hn1 := Row.new w3 3 1 #[.int .i64 x] 1 1 (by omega) (by simp [maxLen]) rfl
            have HV := Lib.hid hvv; clear hvv
            go_wp2_with fail
            go_loopw [22] (fun jv wl => ∃ j : Nat, jv = .int .i64 j ∧ j ≤ gs.length ∧ wl = w3) (fun jv _ => gs.length - (intOf jv).toNat)
            case atStart => exact ⟨0, rfl, Nat.zero_le _, rfl⟩
            case round =>
              obtain ⟨j, rfl, hj, rfl⟩ := hrel
              by_cases hjl : j < gs.length
              · obtain ⟨rfl, hcc⟩ := hcj j hjl
                have hne := getD_ne hxn hjl
                generalize gs.getD j 0 = yy at *
                have hz : ((yy : Int) == x) = false := by rw [beq_eq_false_iff_ne]; exact hne
                have HNE := Lib.hid hne; clear hne hcj
                go_wp2_with fail
                go_roundw
                case rel => exact ⟨j + 1, by go_num, by omega, by trivial⟩
                case measure => simp [intOf]; omega
              · obtain rfl : j = gs.length := by omega
                have hone : ∀ u ∈ [Value.int .i64 (x : Nat)], u.oneCell' = true := by simp [Value.oneCell']
                have hq1 : (gs.length + 1) * 8 ≤ 140737488355328 := by omega
                have hq2 : gs.length + 1 ≤ 9223372036854775807 := by omega
                have hggm : gg ∉ [g0] := by simpa using hgg0
                clear hcj
                go_wp2_with ((with_reducible refine wpList_append T41 rfl (.tmp 117) (.tmp 119) rfl rfl rfl hr0 hn1.vw hone hq1 hq2 ?_); rintro g9 A9 c9 w9 hr9 hx9 hg9 hA9 _ _; obtain rfl := hA9 (by omega); have hgt9 := hx9.keep hgt4 hggm; obtain ⟨e0, f0⟩ := cells41k hgt9 ot)
                have hl9 := hr9.glt (by omega)
                have hxx := fun k : Nat => ((hx'.alloc _).step hx9 (by simp; omega)).setCell (p := ⟨gg, k, none⟩) (.inr hb1) (.slice (some ⟨g9, 0, none⟩) (gs.length + 1) c9)
                have hps9 := hps w9 g0 g9 x _ hg0 hgn0 hx9 hr9 hg9 hl9
                clear hps hr9 hx9 hgt4 hgt9 e0 f0 hr0 hn1
                go_roundw
                case rel => exact ⟨i + 1, b, gm', _, _, f', L', _, lost, rfl, by go_num, by omega, hps9, hI'.mono (by omega), hul x, hux x hx5, hxx _⟩
                case measure => simp [intOf]; omega
    · obtain rfl : i = n := by omega
      have hTr := hT.ext hx (by simp)
      have hsm := hI.sm (by omega)
      have hq : ∀ k, (gv k).length + (lf (L false) k).2 + (lf (L true) k).2 + lost k + 1 = nx f k ∧ nx f k ≤ 1000 := fun k => by
        have h1 := (hI k).sum
        have h2 := (hI k).fN
        exact ⟨h1, by unfold nx; omega⟩
      have hgb : ∀ k v, v ∈ gv k → 1 ≤ v ∧ v < nx f k := fun k v hv => (hI k).gl v hv
      clear hI hgx
      rename World => ws
      go_wp2_with fail
      go_loopw [23] (fun kv wl => ∃ j : Nat, kv = .int .i64 j ∧ j ≤ 2 ∧ Ext [] ws wl) (fun kv _ => 2 - (intOf kv).toNat)
      case atStart => exact ⟨0, rfl, by omega, Ext.refl _ _⟩
      case round =>
        obtain ⟨j, rfl, hj, hxs⟩ := hrel
        have hns1 := hns.ext0 hxs
        have hxw := hx.trans hxs
        have hTw := hTr.ext hxs (by simp)
        have hnb := hns1.nb
        have n0 : wr.cell? ⟨gn, 0, none⟩ = some (.string kA) := cell_of_row _ _ 0 _ _ _ hnb
        have n1 : wr.cell? ⟨gn, 1, none⟩ = some (.string kB) := cell_of_row _ _ 1 _ _ _ hnb
        have hnx := fun k => next_any b gm f k wr hns1.mdl hTw hsm
        clear hnb
        rcases (show j = 0 ∨ j = 1 ∨ j = 2 by omega) with rfl | rfl | rfl
        · as_aux_lemma =>
            have hk := hnx false
            have hqk := hq false
            have hgk := hgb false
            have hgt := fun W (h : NS w.heap.size W b gm bg r gg (gg + 1) gn gk vv sz f L gv lost) => h.gtk false
            have hlf0 := fun W h => gvLeft (bg false) (r false) (sz false) (L false) false W h (hszs false).1
            have hlf1 := fun W h => gvLeft (bg true) (r true) (sz true) (L true) false W h (hszs true).1
            have hfd0 := field43_1 ((lf (L false) false).1 : Nat) ((lf (L false) false).2 : Nat)
            have hfd1 := field43_1 ((lf (L true) false).1 : Nat) ((lf (L true) false).2 : Nat)
            generalize lf (L false) false = p0 at *
            generalize lf (L true) false = p1 at *
            obtain ⟨x0, m0⟩ := p0
            obtain ⟨x1, m1⟩ := p1
            generalize nx f false = nn at *
            generalize gv false = gs at *
            generalize hlz : lost false = lo at *
            simp only [Bool.toNat_false] at hgt hqk hfd0 hfd1 hlf0 hlf1
            obtain ⟨hq1, hq2⟩ := hqk
            have hsum : ((gs.length : Int) + m0 + m1 + lo) = (nn : Int) - 1 := by omega
            clear hnx hq hgb
            go_wp2_with fail
            refine hk.mono ?_
            rintro e w3 ⟨rfl, hx3⟩
            have hns3 := hns1.ext0 hx3
            obtain ⟨A', c', hvv, hc3, hcj⟩ := hgt _ hns3
            have n03 := hx3.cell n0 (by simp)
            have l0 := hns3.lc.1
            rw [hlz] at l0
            have hl0 := fun W (h : Ext [] w3 W) => hlf0 W ((hns3.ext0 h).gvs false)
            have hl1 := fun W (h : Ext [] w3 W) => hlf1 W ((hns3.ext0 h).gvs true)
            clear hk hlf0 hlf1 n0 n1 hvv
            go_wp2_with fail
            go_region_held3 (fun W => W.cell? ⟨gg, 0, none⟩ = some (.slice A' gs.length c') ∧ W.cell? ⟨gn, 0, none⟩ = some (.string kA) ∧ W.cell? ⟨gg + 1, 0, none⟩ = some (.int .i64 (lo : Nat)) ∧ Ext [] w3 W)
              (first | exact held0 hc3 n03 l0 | exact held1 (by assumption) hxn)
              (first
                | (go_at_call_of 8 (Value.pointer (some ⟨bg false, 0, none⟩)); refine (hl0 _ (held_x (by assumption))).mono ?_; rintro e w' ⟨rfl, hxn⟩)
                | (go_at_call_of 8 (Value.pointer (some ⟨bg true, 0, none⟩)); refine (hl1 _ (held_x (by assumption))).mono ?_; rintro e w' ⟨rfl, hxn⟩))
            rename_i hHeld
            have hS := held_x hHeld
            clear hHeld
            have hns5 := hns3.ext0 hS
            obtain ⟨B', d', hvv', hc5, hcj5⟩ := hgt _ hns5
            clear hcj hc3 n03 l0 hl0 hl1 hgt
            have hw1 : IntKind.i64.wrap ((gs.length : Int) + m0) = (gs.length : Int) + m0 := IntWalk.i64_in _ (by omega)
            have hw2 : IntKind.i64.wrap ((gs.length : Int) + m0 + m1) = (gs.length : Int) + m0 + m1 := IntWalk.i64_in _ (by omega)
            have hw3 : IntKind.i64.wrap ((gs.length : Int) + m0 + m1 + lo) = (nn : Int) - 1 := by rw [hsum]; exact IntWalk.i64_in _ (by omega)
            have hw4 : IntKind.i64.wrap ((nn : Int) - 1) = (nn : Int) - 1 := IntWalk.i64_in _ (by omega)
            simp only [hw1, hw2, hw3, hw4, bne_self_eq_false]
            clear hw1 hw2 hw3 hw4 hsum
            go_wp2_with fail
            go_loopw [26] (fun jv wl => ∃ j : Nat, jv = .int .i64 j ∧ j ≤ gs.length ∧ wl = w') (fun jv _ => gs.length - (intOf jv).toNat)
            case atStart => exact ⟨0, rfl, Nat.zero_le _, rfl⟩
            case round =>
              obtain ⟨j, rfl, hj, rfl⟩ := hrel
              by_cases hjl : j < gs.length
              · obtain ⟨rfl, hcc⟩ := hcj5 j hjl
                have hb := hgk _ (getD_mem hjl)
                generalize gs.getD j 0 = yy at *
                clear hcj5 hgk
                go_wp2_with fail
                go_roundw
                case rel => exact ⟨j + 1, by go_num, by omega, by trivial⟩
                case measure => simp [intOf]; omega
              · clear hcj5 hgk
                go_wp2_with fail
                go_roundw
                case rel => exact ⟨1, by go_num, by omega, (hxs.trans hx3).trans hS⟩
                case measure => simp [intOf]
        · as_aux_lemma =>
            have hk := hnx true
            have hqk := hq true
            have hgk := hgb true
            have hgt := fun W (h : NS w.heap.size W b gm bg r gg (gg + 1) gn gk vv sz f L gv lost) => h.gtk true
            have hlf0 := fun W h => gvLeft (bg false) (r false) (sz false) (L false) true W h (hszs false).1
            have hlf1 := fun W h => gvLeft (bg true) (r true) (sz true) (L true) true W h (hszs true).1
            have hfd0 := field43_1 ((lf (L false) true).1 : Nat) ((lf (L false) true).2 : Nat)
            have hfd1 := field43_1 ((lf (L true) true).1 : Nat) ((lf (L true) true).2 : Nat)
            generalize lf (L false) true = p0 at *
            generalize lf (L true) true = p1 at *
            obtain ⟨x0, m0⟩ := p0
            obtain ⟨x1, m1⟩ := p1
            generalize nx f true = nn at *
            generalize gv true = gs at *
            generalize hlz : lost true = lo at *
            simp only [Bool.toNat_true] at hgt hqk hfd0 hfd1 hlf0 hlf1
            obtain ⟨hq1, hq2⟩ := hqk
            have hsum : ((gs.length : Int) + m0 + m1 + lo) = (nn : Int) - 1 := by omega
            clear hnx hq hgb
            go_wp2_with fail
            refine hk.mono ?_
            rintro e w3 ⟨rfl, hx3⟩
            have hns3 := hns1.ext0 hx3
            obtain ⟨A', c', hvv, hc3, hcj⟩ := hgt _ hns3
            have n03 := hx3.cell n1 (by simp)
            have l0 := hns3.lc.2.1
            rw [hlz] at l0
            have hl0 := fun W (h : Ext [] w3 W) => hlf0 W ((hns3.ext0 h).gvs false)
            have hl1 := fun W (h : Ext [] w3 W) => hlf1 W ((hns3.ext0 h).gvs true)
            clear hk hlf0 hlf1 n0 n1 hvv
            go_wp2_with fail
            go_region_held3 (fun W => W.cell? ⟨gg, 1, none⟩ = some (.slice A' gs.length c') ∧ W.cell? ⟨gn, 1, none⟩ = some (.string kB) ∧ W.cell? ⟨gg + 1, 1, none⟩ = some (.int .i64 (lo : Nat)) ∧ Ext [] w3 W)
              (first | exact held0 hc3 n03 l0 | exact held1 (by assumption) hxn)
              (first
                | (go_at_call_of 8 (Value.pointer (some ⟨bg false, 0, none⟩)); refine (hl0 _ (held_x (by assumption))).mono ?_; rintro e w' ⟨rfl, hxn⟩)
                | (go_at_call_of 8 (Value.pointer (some ⟨bg true, 0, none⟩)); refine (hl1 _ (held_x (by assumption))).mono ?_; rintro e w' ⟨rfl, hxn⟩))
            rename_i hHeld
            have hS := held_x hHeld
            clear hHeld
            have hns5 := hns3.ext0 hS
            obtain ⟨B', d', hvv', hc5, hcj5⟩ := hgt _ hns5
            clear hcj hc3 n03 l0 hl0 hl1 hgt
            have hw1 : IntKind.i64.wrap ((gs.length : Int) + m0) = (gs.length : Int) + m0 := IntWalk.i64_in _ (by omega)
            have hw2 : IntKind.i64.wrap ((gs.length : Int) + m0 + m1) = (gs.length : Int) + m0 + m1 := IntWalk.i64_in _ (by omega)
            have hw3 : IntKind.i64.wrap ((gs.length : Int) + m0 + m1 + lo) = (nn : Int) - 1 := by rw [hsum]; exact IntWalk.i64_in _ (by omega)
            have hw4 : IntKind.i64.wrap ((nn : Int) - 1) = (nn : Int) - 1 := IntWalk.i64_in _ (by omega)
            simp only [hw1, hw2, hw3, hw4, bne_self_eq_false]
            clear hw1 hw2 hw3 hw4 hsum
            go_wp2_with fail
            go_loopw [26] (fun jv wl => ∃ j : Nat, jv = .int .i64 j ∧ j ≤ gs.length ∧ wl = w') (fun jv _ => gs.length - (intOf jv).toNat)
            case atStart => exact ⟨0, rfl, Nat.zero_le _, rfl⟩
            case round =>
              obtain ⟨j, rfl, hj, rfl⟩ := hrel
              by_cases hjl : j < gs.length
              · obtain ⟨rfl, hcc⟩ := hcj5 j hjl
                have hb := hgk _ (getD_mem hjl)
                generalize gs.getD j 0 = yy at *
                clear hcj5 hgk
                go_wp2_with fail
                go_roundw
                case rel => exact ⟨j + 1, by go_num, by omega, by trivial⟩
                case measure => simp [intOf]; omega
              · clear hcj5 hgk
                go_wp2_with fail
                go_roundw
                case rel => exact ⟨2, by go_num, by omega, (hxs.trans hx3).trans hS⟩
                case measure => simp [intOf]
        · go_wp2_with fail
          go_ret
          exact ⟨rfl, hxw⟩
end Go.Proofs.YtfadbmfkidiaoaaGreatDoor
