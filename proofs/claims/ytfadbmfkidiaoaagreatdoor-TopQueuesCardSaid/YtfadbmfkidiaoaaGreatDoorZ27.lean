/- QF Maps in memory, second part: what is taken out. A queue of jobs in memory. -/
import Derived.Test.YtfadbmfkidiaoaaGreatDoorZ26
namespace Go.Proofs.YtfadbmfkidiaoaaGreatDoor
open Go.RowKit Go
set_option linter.unusedSimpArgs false
set_option linter.unusedVariables false
set_option linter.unusedSectionVars false
set_option linter.unnecessarySimpa false
set_option maxRecDepth 100000 in
set_option maxHeartbeats 800000 in
theorem run_results72 (W : World) (tmps : Array Value) (B : Nat) (v0 v1 v2 v3 v4 v5 v6 : Value) (h2 : tmps.getD 2 undef = .pointer (some ⟨B, 0, none⟩))
    (hb : W.heap[B]? = some (.cells #[v0, v1, v2, v3, v4, v5, v6] 80 (0, 0))) : (results Tryz.f72 tmps).run Tryz.prog W = .ok (.agg #[v0, v1, v2, v3, v4, v5, v6]) W := by
  have c0 : W.cell? ⟨B, 0, none⟩ = some v0 := cell_of_row _ _ 0 _ _ _ hb
  have c1 : W.cell? ⟨B, 1, none⟩ = some v1 := cell_of_row _ _ 1 _ _ _ hb
  have c2 : W.cell? ⟨B, 2, none⟩ = some v2 := cell_of_row _ _ 2 _ _ _ hb
  have c3 : W.cell? ⟨B, 3, none⟩ = some v3 := cell_of_row _ _ 3 _ _ _ hb
  have c4 : W.cell? ⟨B, 4, none⟩ = some v4 := cell_of_row _ _ 4 _ _ _ hb
  have c5 : W.cell? ⟨B, 5, none⟩ = some v5 := cell_of_row _ _ 5 _ _ _ hb
  have c6 : W.cell? ⟨B, 6, none⟩ = some v6 := cell_of_row _ _ 6 _ _ _ hb
  rw [results_c1 (fn := Tryz.f72) (p := 2) (ty := 80) (by kernel_rfl), h2]
  go_simp
theorem cells7 {W : World} {B t : Nat} {a b c d e f g : Value} (hb : W.heap[B]? = some (.cells #[a, b, c, d, e, f, g] t (0, 0))) :
    (W.cell? ⟨B, 0, none⟩ = some a ∧ W.cell? ⟨B, 1, none⟩ = some b ∧ W.cell? ⟨B, 2, none⟩ = some c ∧ W.cell? ⟨B, 3, none⟩ = some d ∧ W.cell? ⟨B, 4, none⟩ = some e ∧ W.cell? ⟨B, 5, none⟩ = some f ∧ W.cell? ⟨B, 6, none⟩ = some g) ∧
    W.frozen? ⟨B, 0, none⟩ = false ∧ W.frozen? ⟨B, 1, none⟩ = false ∧ W.frozen? ⟨B, 2, none⟩ = false ∧ W.frozen? ⟨B, 3, none⟩ = false ∧ W.frozen? ⟨B, 4, none⟩ = false ∧ W.frozen? ⟨B, 5, none⟩ = false ∧ W.frozen? ⟨B, 6, none⟩ = false :=
  ⟨⟨cell_of_row _ _ 0 _ _ _ hb, cell_of_row _ _ 1 _ _ _ hb, cell_of_row _ _ 2 _ _ _ hb, cell_of_row _ _ 3 _ _ _ hb, cell_of_row _ _ 4 _ _ _ hb, cell_of_row _ _ 5 _ _ _ hb, cell_of_row _ _ 6 _ _ _ hb⟩,
    frozen_of_row _ _ 0 _ _ hb, frozen_of_row _ _ 1 _ _ hb, frozen_of_row _ _ 2 _ _ hb, frozen_of_row _ _ 3 _ _ hb, frozen_of_row _ _ 4 _ _ hb, frozen_of_row _ _ 5 _ _ hb, frozen_of_row _ _ 6 _ _ hb⟩
def World.set7 (W : World) (B : Nat) (a b c d e f g : Value) : World := ((((((W.setCell ⟨B, 0, none⟩ a).setCell ⟨B, 1, none⟩ b).setCell ⟨B, 2, none⟩ c).setCell ⟨B, 3, none⟩ d).setCell ⟨B, 4, none⟩ e).setCell ⟨B, 5, none⟩ f).setCell ⟨B, 6, none⟩ g
theorem setCells7 {W : World} {B t : Nat} {a b c d e f g a' b' c' d' e' f' g' : Value} (hb : W.heap[B]? = some (.cells #[a, b, c, d, e, f, g] t (0, 0))) :
    (World.set7 W B a' b' c' d' e' f' g').heap[B]? = some (.cells #[a', b', c', d', e', f', g'] t (0, 0)) := by
  have h0 : (W.setCell ⟨B, 0, none⟩ a').heap[B]? = some (.cells #[a', b, c, d, e, f, g] t (0, 0)) := heap_setCell_same W B 0 _ t a' hb
  have h1 : ((W.setCell ⟨B, 0, none⟩ a').setCell ⟨B, 1, none⟩ b').heap[B]? = some (.cells #[a', b', c, d, e, f, g] t (0, 0)) := heap_setCell_same (W.setCell ⟨B, 0, none⟩ a') B 1 _ t b' h0
  have h2 : (((W.setCell ⟨B, 0, none⟩ a').setCell ⟨B, 1, none⟩ b').setCell ⟨B, 2, none⟩ c').heap[B]? = some (.cells #[a', b', c', d, e, f, g] t (0, 0)) := heap_setCell_same ((W.setCell ⟨B, 0, none⟩ a').setCell ⟨B, 1, none⟩ b') B 2 _ t c' h1
  have h3 : ((((W.setCell ⟨B, 0, none⟩ a').setCell ⟨B, 1, none⟩ b').setCell ⟨B, 2, none⟩ c').setCell ⟨B, 3, none⟩ d').heap[B]? = some (.cells #[a', b', c', d', e, f, g] t (0, 0)) := heap_setCell_same (((W.setCell ⟨B, 0, none⟩ a').setCell ⟨B, 1, none⟩ b').setCell ⟨B, 2, none⟩ c') B 3 _ t d' h2
  have h4 : (((((W.setCell ⟨B, 0, none⟩ a').setCell ⟨B, 1, none⟩ b').setCell ⟨B, 2, none⟩ c').setCell ⟨B, 3, none⟩ d').setCell ⟨B, 4, none⟩ e').heap[B]? = some (.cells #[a', b', c', d', e', f, g] t (0, 0)) := heap_setCell_same ((((W.setCell ⟨B, 0, none⟩ a').setCell ⟨B, 1, none⟩ b').setCell ⟨B, 2, none⟩ c').setCell ⟨B, 3, none⟩ d') B 4 _ t e' h3
  have h5 : ((((((W.setCell ⟨B, 0, none⟩ a').setCell ⟨B, 1, none⟩ b').setCell ⟨B, 2, none⟩ c').setCell ⟨B, 3, none⟩ d').setCell ⟨B, 4, none⟩ e').setCell ⟨B, 5, none⟩ f').heap[B]? = some (.cells #[a', b', c', d', e', f', g] t (0, 0)) := heap_setCell_same (((((W.setCell ⟨B, 0, none⟩ a').setCell ⟨B, 1, none⟩ b').setCell ⟨B, 2, none⟩ c').setCell ⟨B, 3, none⟩ d').setCell ⟨B, 4, none⟩ e') B 5 _ t f' h4
  have h6 : (((((((W.setCell ⟨B, 0, none⟩ a').setCell ⟨B, 1, none⟩ b').setCell ⟨B, 2, none⟩ c').setCell ⟨B, 3, none⟩ d').setCell ⟨B, 4, none⟩ e').setCell ⟨B, 5, none⟩ f').setCell ⟨B, 6, none⟩ g').heap[B]? = some (.cells #[a', b', c', d', e', f', g'] t (0, 0)) := heap_setCell_same ((((((W.setCell ⟨B, 0, none⟩ a').setCell ⟨B, 1, none⟩ b').setCell ⟨B, 2, none⟩ c').setCell ⟨B, 3, none⟩ d').setCell ⟨B, 4, none⟩ e').setCell ⟨B, 5, none⟩ f') B 6 _ t g' h5
  exact h6
theorem Ext.set7 {S : List Nat} {A W : World} {B : Nat} (h : Ext S A W) (hB : B ∈ S ∨ A.heap.size ≤ B) (a' b' c' d' e' f' g' : Value) : Ext S A (World.set7 W B a' b' c' d' e' f' g') :=
  ((((((h.setCell hB a').setCell hB b').setCell hB c').setCell hB d').setCell hB e').setCell hB f').setCell hB g'
def HeldC (g : Nat) (v0 v1 v2 v3 v4 v5 v6 : Value) (w W : World) : Prop :=
  W.cell? ⟨g, 1, none⟩ = some v0 ∧ W.cell? ⟨g, 6, none⟩ = some v1 ∧ W.cell? ⟨g, 11, none⟩ = some v2 ∧ W.cell? ⟨g, 16, none⟩ = some v3 ∧ W.cell? ⟨g, 23, none⟩ = some v4 ∧ W.cell? ⟨g, 26, none⟩ = some v5 ∧ W.cell? ⟨g, 31, none⟩ = some v6 ∧ Ext [] w W
theorem HeldC.ext {B : Nat} {v0 v1 v2 v3 v4 v5 v6 : Value} {w W W' : World} (h : HeldC B v0 v1 v2 v3 v4 v5 v6 w W) (hx : Ext [] W W') : HeldC B v0 v1 v2 v3 v4 v5 v6 w W' := by
  obtain ⟨h0, h1, h2, h3, h4, h5, h7, h6⟩ := h
  exact ⟨hx.cell h0 (by simp), hx.cell h1 (by simp), hx.cell h2 (by simp), hx.cell h3 (by simp), hx.cell h4 (by simp), hx.cell h5 (by simp), hx.cell h7 (by simp), h6.trans hx⟩
theorem HeldC.al {B : Nat} {v0 v1 v2 v3 v4 v5 v6 : Value} {w W : World} {o : Obj} (h : HeldC B v0 v1 v2 v3 v4 v5 v6 w W) : HeldC B v0 v1 v2 v3 v4 v5 v6 w (W.alloc o) := h.ext ((Ext.refl [] W).alloc o)
theorem HeldC.dr {B : Nat} {v0 v1 v2 v3 v4 v5 v6 : Value} {w W : World} (h : HeldC B v0 v1 v2 v3 v4 v5 v6 w W) : HeldC B v0 v1 v2 v3 v4 v5 v6 w W.drew := h.ext (Ext.refl [] W).drew
set_option maxRecDepth 100000 in
set_option maxHeartbeats 4000000 in
theorem job_any (j : Jb) (g : Nat) (v : Value) (w : World) (h : OkJ j) (hr : Row w g 93 5 v 7 (clsC (kJ j ++ rJ j))) :
    Calls Tryz.prog 72 #[v] w fun e w' => e = .returned (jV j) ∧ Ext [] w w' := by
  obtain ⟨A, c, rfl, hA, hc⟩ := hr.form
  obtain rfl := hA (by omega)
  have hx0 : Ext [] w (w.alloc (.cells #[.int .i64 0, .int .i64 0, .string ⟨#[]⟩, .int .i64 0, .int .i64 0, .int .i64 0, .int .i64 0] 80)) := (Ext.refl [] w).alloc _
  have hv := (hr.ext hx0 (by simp)).vw
  obtain ⟨id, pr, body, st, tries, who, till⟩ := j
  obtain ⟨h1, h2, h3, h4, h5, h6, h7, h8⟩ := h
  simp only at h1 h2 h3 h4 h5 h6 h7 h8
  generalize hW : w.alloc (.cells #[.int .i64 0, .int .i64 0, .string ⟨#[]⟩, .int .i64 0, .int .i64 0, .int .i64 0, .int .i64 0] 80) = W0 at *
  have d0 : W0.cell? ⟨g, 1, none⟩ = some (.int .u64 (st : Int)) := (hv.cl 0 (by omega)).2.1
  have d1 : W0.cell? ⟨g, 6, none⟩ = some (.int .u64 (ordJ ⟨id, pr, body, st, tries, who, till⟩ : Int)) := (hv.cl 1 (by omega)).2.1
  have d2 : W0.cell? ⟨g, 11, none⟩ = some (.int .u64 (id : Int)) := (hv.cl 2 (by omega)).2.1
  have d3 : W0.cell? ⟨g, 16, none⟩ = some (.int .u64 (pr : Int)) := (hv.cl 3 (by omega)).2.1
  have d4 : W0.cell? ⟨g, 23, none⟩ = some (.string body) := (hv.cl 4 (by omega)).2.2.2.1
  have d5 : W0.cell? ⟨g, 26, none⟩ = some (.int .u64 (tries : Int)) := (hv.cl 5 (by omega)).2.1
  have d6 : W0.cell? ⟨g, 31, none⟩ = some (.int .u64 (who : Int)) := (hv.cl 6 (by omega)).2.1
  show Calls Tryz.prog 72 _ w fun e w' => e = .returned (.agg #[.int .i64 (id : Nat), .int .i64 (pr : Nat), .string body, .int .i64 (st : Nat), .int .i64 (tries : Nat), .int .i64 (who : Nat), .int .i64 (till : Nat)]) ∧ Ext [] w w'
  have hq : st = 2 → ordJ ⟨id, pr, body, st, tries, who, till⟩ = till := by rintro rfl; simp [ordJ]
  have hqm : ordJ ⟨id, pr, body, st, tries, who, till⟩ ≤ 60000 := by unfold ordJ; split <;> simp only <;> omega
  generalize ordJ ⟨id, pr, body, st, tries, who, till⟩ = q at *
  clear hv hr
  go_enter Tryz.func72, Tryz.ntmps72
  go_wp2_with fail
  have hpt : HeldC g (.int .u64 (st : Int)) (.int .u64 (q : Int)) (.int .u64 (id : Int)) (.int .u64 (pr : Int)) (.string body) (.int .u64 (tries : Int)) (.int .u64 (who : Int)) W0 W0 := ⟨d0, d1, d2, d3, d4, d5, d6, Ext.refl _ _⟩
  go_region_held3 (fun W => W.cell? ⟨g, 1, none⟩ = some (.int .u64 (st : Int)) ∧ W.cell? ⟨g, 6, none⟩ = some (.int .u64 (q : Int)) ∧ W.cell? ⟨g, 11, none⟩ = some (.int .u64 (id : Int)) ∧ W.cell? ⟨g, 16, none⟩ = some (.int .u64 (pr : Int)) ∧ W.cell? ⟨g, 23, none⟩ = some (.string body) ∧ W.cell? ⟨g, 26, none⟩ = some (.int .u64 (tries : Int)) ∧ W.cell? ⟨g, 31, none⟩ = some (.int .u64 (who : Int)) ∧ Ext [] W0 W)
    (first | exact HeldC.dr hpt | exact HeldC.al (by assumption) | exact HeldC.dr (HeldC.al hpt))
    (fail)
  have w1 : IntKind.i64.wrap (id : Int) = id := IntWalk.i64_in _ (by omega)
  have w2 : IntKind.i64.wrap (pr : Int) = pr := IntWalk.i64_in _ (by omega)
  have w3 : IntKind.i64.wrap (st : Int) = st := IntWalk.i64_in _ (by omega)
  have w4 : IntKind.i64.wrap (tries : Int) = tries := IntWalk.i64_in _ (by omega)
  have w5 : IntKind.i64.wrap (who : Int) = who := IntWalk.i64_in _ (by omega)
  simp only [w1, w2, w3, w4, w5]
  clear w1 w2 w3 w4 w5
  have hzs : W0.heap.size = w.heap.size + 1 := by rw [← hW]; simp
  have hb0 : W0.heap[w.heap.size]? = some (.cells #[.int .i64 0, .int .i64 0, .string ⟨#[]⟩, .int .i64 0, .int .i64 0, .int .i64 0, .int .i64 0] 80 (0, 0)) := by rw [← hW]; exact heap_alloc_new w _
  have hx1 : Ext [] W0 (W0.alloc (.cells #[.int .i64 (id : Int), .int .i64 (pr : Int), .string body, .int .i64 (st : Int), .int .i64 (tries : Int), .int .i64 (who : Int), .int .i64 0] 80)).drew := ((Ext.refl [] W0).alloc _).drew
  have hb1 : (W0.alloc (.cells #[.int .i64 (id : Int), .int .i64 (pr : Int), .string body, .int .i64 (st : Int), .int .i64 (tries : Int), .int .i64 (who : Int), .int .i64 0] 80)).drew.heap[W0.heap.size]? = some (.cells #[.int .i64 (id : Int), .int .i64 (pr : Int), .string body, .int .i64 (st : Int), .int .i64 (tries : Int), .int .i64 (who : Int), .int .i64 0] 80 (0, 0)) := heap_alloc_new W0 _
  have hb2 := hx1.keep hb0 (by simp)
  have dd1 := hx1.cell d1 (by simp)
  rw [hzs] at hb1
  rw [hzs]
  generalize (W0.alloc (.cells #[.int .i64 (id : Int), .int .i64 (pr : Int), .string body, .int .i64 (st : Int), .int .i64 (tries : Int), .int .i64 (who : Int), .int .i64 0] 80)).drew = W1 at *
  have hx01 := hx0.trans hx1
  clear hpt hW hzs hb0 hx1 d0 d1 d2 d3 d4 d5 d6
  try clear hHeld
  obtain ⟨⟨k0, k1, k2, k3, k4, k5, k6⟩, f0, f1, f2, f3, f4, f5, f6⟩ := cells7 hb1
  obtain ⟨⟨a0, a1, a2, a3, a4, a5, a6⟩, e0, e1, e2, e3, e4, e5, e6⟩ := cells7 hb2
  by_cases hs : st = 2
  · obtain rfl := hq hs
    subst hs
    go_wp2_with fail
    have kk := (heap_setCell_other W1 ⟨w.heap.size + 1, 6, none⟩ w.heap.size (.int .i64 q) (by simp)).trans hb2
    have h5 := setCells7 (a' := .int .i64 id) (b' := .int .i64 pr) (c' := .string body) (d' := .int .i64 2) (e' := .int .i64 tries) (f' := .int .i64 who) (g' := .int .i64 q) kk
    refine bodyPost_ret (run_results72 _ _ w.heap.size _ _ _ _ _ _ _ rfl h5) rfl ?_
    exact ⟨rfl, (hx01.setCell (.inr (by simp)) _).set7 (.inr (Nat.le_refl _)) _ _ _ _ _ _ _⟩
  · have h8' := h8 hs
    subst h8'
    have hs' : ((st : Int) == 2) = false := by simp; omega
    go_wp2_with fail
    have h5 := setCells7 (a' := .int .i64 id) (b' := .int .i64 pr) (c' := .string body) (d' := .int .i64 st) (e' := .int .i64 tries) (f' := .int .i64 who) (g' := .int .i64 0) hb2
    refine bodyPost_ret (run_results72 _ _ w.heap.size _ _ _ _ _ _ _ rfl h5) rfl ?_
    exact ⟨rfl, hx01.set7 (.inr (Nat.le_refl _)) _ _ _ _ _ _ _⟩
end Go.Proofs.YtfadbmfkidiaoaaGreatDoor

namespace Go.Proofs.YtfadbmfkidiaoaaGreatDoor
open Go.RowKit Go Go.MapKept
set_option linter.unusedSimpArgs false
set_option linter.unusedVariables false
set_option linter.unusedSectionVars false
set_option linter.unnecessarySimpa false

section
variable {P : Program} {w : World} {mt kt e r : Nat} {d : TypeDesc} {L : List (Value × Value)} (hm : P.underlying mt = some (.map kt e)) (hd : P.underlying kt = some d) (h : Mp w d r L)
include hm hd h

theorem Mp.delete_no {k : Value} (t2 ty : Nat) (hk : IsKey d k) (hn : ∀ p ∈ L, p.1 ≠ k) :
    ∃ w', (Builtin.delete_ #[mt, t2] ty #[.map (some r), k]).run P w = .ok (.tuple #[]) w' ∧ Mp w' d r L ∧ Ext [r] w w' := by
  obtain ⟨⟨es, clock, hb, hl, hs1, hs2⟩, h2, h3⟩ := h
  have hkeys : ∀ x ∈ es.toList, IsKey d x.key := fun x hx => h2 (x.key, x.val) (by rw [← hl]; exact List.mem_map.2 ⟨x, hx, rfl⟩)
  rcases findNow_spec hk es.toList 0 hkeys with ⟨h4, _⟩ | ⟨j, x, _, h5, h6⟩
  · have hf := Go.MapKept.run_findKey (w := w) hd h4
    refine ⟨{ w with heap := w.heap.setIfInBounds r (.map es clock) }, ?_, ⟨⟨es, clock, (heap_set hb).1, hl, hs1, hs2⟩, h2, h3⟩, (Ext.refl [r] w).heap_setBlock (.inl (by simp)) _⟩
    simp [Builtin.delete_, run_underlying hm, Go.MapKept.run_getObj_map hb, Go.MapKept.run_checkKey hd hk _ 9999, hf, Result.andThen, Go.MapKept.run_setObj_map _ hb]
  · exact absurd h6 (hn (x.key, x.val) (by rw [← hl]; exact List.mem_map.2 ⟨x, List.mem_of_getElem? h5, rfl⟩))
theorem Mp.delete_at {k v0 : Value} {j : Nat} (t2 ty : Nat) (hk : IsKey d k) (hn : L[j]? = some (k, v0)) :
    ∃ w', (Builtin.delete_ #[mt, t2] ty #[.map (some r), k]).run P w = .ok (.tuple #[]) w' ∧ Mp w' d r (L.eraseIdx j) ∧ Ext [r] w w' := by
  obtain ⟨⟨es, clock, hb, hl, hs1, hs2⟩, h2, h3⟩ := h
  have hkeys : ∀ x ∈ es.toList, IsKey d x.key := fun x hx => h2 (x.key, x.val) (by rw [← hl]; exact List.mem_map.2 ⟨x, hx, rfl⟩)
  rcases findNow_spec hk es.toList 0 hkeys with ⟨h4, h5⟩ | ⟨j', x, h4, h5, h6⟩
  · have hmem : (k, v0) ∈ L := List.mem_of_getElem? hn
    rw [← hl] at hmem
    obtain ⟨x, hx, he⟩ := List.mem_map.1 hmem
    exact absurd (Prod.mk.inj he).1 (h5 x hx)
  · have hjj : j' = j := by
      have hx : L[j']? = some (x.key, x.val) := by rw [← hl, List.getElem?_map, h5]; rfl
      rw [h6] at hx
      exact uniq h3 hx hn rfl
    subst hjj
    have hf := Go.MapKept.run_findKey (w := w) hd h4
    rw [Nat.zero_add] at hf
    have hjl : j' < es.size := by have := (List.getElem?_eq_some_iff.1 h5).1; simpa using this
    have hel : (es.eraseIdxIfInBounds j').toList = es.toList.eraseIdx j' := by simp [Array.eraseIdxIfInBounds, hjl]
    refine ⟨{ w with heap := w.heap.setIfInBounds r (.map (es.eraseIdxIfInBounds j') clock) }, ?_, ⟨⟨_, _, (heap_set hb).1, ?_, ?_, ?_⟩, ?_, ?_⟩, (Ext.refl [r] w).heap_setBlock (.inl (by simp)) _⟩
    · simp [Builtin.delete_, run_underlying hm, Go.MapKept.run_getObj_map hb, Go.MapKept.run_checkKey hd hk _ 9999, hf, Result.andThen, Go.MapKept.run_setObj_map _ hb]
    · rw [← hl, hel]; simp [List.eraseIdx_eq_take_drop_succ]
    · intro x hx
      rw [hel] at hx
      exact hs1 x (List.mem_of_mem_eraseIdx hx)
    · rw [hel]
      exact List.Nodup.sublist (List.Sublist.map _ (List.eraseIdx_sublist _ _)) hs2
    · exact fun p hp => h2 p (List.mem_of_mem_eraseIdx hp)
    · exact List.Pairwise.sublist (List.eraseIdx_sublist _ _) h3
theorem Mp.clear (ty : Nat) : ∃ w', (Builtin.clear_ #[mt] ty #[.map (some r)]).run P w = .ok (.tuple #[]) w' ∧ Mp w' d r [] ∧ Ext [r] w w' := by
  obtain ⟨⟨es, clock, hb, hl, hs1, hs2⟩, h2, h3⟩ := h
  refine ⟨{ w with heap := w.heap.setIfInBounds r (.map #[] clock) }, ?_, ⟨⟨_, _, (heap_set hb).1, rfl, by simp, by simp⟩, by simp, .nil⟩, (Ext.refl [r] w).heap_setBlock (.inl (by simp)) _⟩
  simp [Builtin.clear_, run_underlying hm, Go.MapKept.run_getObj_map hb, Result.andThen, Go.MapKept.run_setObj_map _ hb]
end
end Go.Proofs.YtfadbmfkidiaoaaGreatDoor

namespace Go.Proofs.YtfadbmfkidiaoaaGreatDoor
open Go.RowKit Go Go.MapKept
set_option linter.unusedSimpArgs false
set_option linter.unusedVariables false
set_option linter.unusedSectionVars false
set_option linter.unnecessarySimpa false

/-- the keys that a queue keeps by number -/
def KL (M : List (Value × Value)) (F : Nat → Option ByteArray) : Prop :=
  (∀ p ∈ M, ∃ i k, F i = some k ∧ p = (.int .i64 (i : Nat), .string k)) ∧ ∀ i k, F i = some k → ((.int .i64 (i : Nat), .string k) : Value × Value) ∈ M
/-- a queue at block b: its map at bm, the pairs in g, its keys at r -/
structure Qu (w : World) (b bm g r : Nat) (L : Pairs) (F : Nat → Option ByteArray) (last now : Nat) : Prop where
  blk : w.heap[b]? = some (.cells #[.pointer (some ⟨bm, 0, none⟩), .map (some r), .int .i64 2, .int .i64 last, .int .i64 now] 128 (0, 0))
  mdl : Mdl w bm g L
  mp : ∃ M, Mp w (.int .i64) r M ∧ KL M F
  nd : b ≠ bm ∧ b ≠ g ∧ b ≠ r ∧ r ≠ bm ∧ r ≠ g
  lo : 8 ≤ b
  lo' : 8 ≤ r
theorem Qu.ext {w w' : World} {b bm g r : Nat} {L : Pairs} {F : Nat → Option ByteArray} {last now : Nat} {S : List Nat} (h : Qu w b bm g r L F last now) (hx : Ext S w w') (h1 : b ∉ S) (h2 : bm ∉ S) (h3 : g ∉ S) (h4 : r ∉ S) : Qu w' b bm g r L F last now := by
  obtain ⟨q1, q2, ⟨M, q3, q4⟩, q5, q6, q7⟩ := h
  exact ⟨hx.keep q1 h1, q2.ext hx h2 h3, ⟨M, q3.ext hx h4, q4⟩, q5, q6, q7⟩
set_option maxRecDepth 100000 in
set_option maxHeartbeats 800000 in
theorem qnew_any (w : World) (h8 : 8 ≤ w.heap.size) : Calls Tryz.prog 14 #[.int .i64 2] w fun e w' => ∃ b bm g r, e = .returned (.tuple #[.pointer (some ⟨b, 0, none⟩), .int .i64 0]) ∧ Qu w' b bm g r [] (fun _ => none) 0 0 ∧ w.heap.size ≤ b ∧ w.heap.size ≤ bm ∧ w.heap.size ≤ g ∧ w.heap.size ≤ r ∧ Ext [] w w' := by
  have hmm := @run_makeMap Tryz.prog
  go_enter Tryz.func14, Tryz.ntmps14
  go_wp2_with fail
  go_ret2
  obtain ⟨g', hm, hg⟩ := mdl_new (w := w) (g := w.heap.size) (v := .slice none 0 0) (l := []) .nil h8 h8
  obtain rfl : g' = w.heap.size := by rcases hg with h | h <;> exact h
  generalize hA : w.alloc (.cells #[.slice none 0 0] 34) = A at *
  have hz : A.heap.size = w.heap.size + 1 := by rw [← hA]; simp
  have hxA : Ext [] w A := by rw [← hA]; exact (Ext.refl [] w).alloc _
  have hM := Mp.new A (.int .i64)
  rw [hz] at hM
  have hxB : Ext [] A (A.alloc (.map #[] 0)) := (Ext.refl [] A).alloc _
  have hb := heap_alloc_new (A.alloc (.map #[] 0)) (.cells #[.pointer (some ⟨w.heap.size, 0, none⟩), .map (some (w.heap.size + 1)), .int .i64 2, .int .i64 0, .int .i64 0] 128)
  have hxC : Ext [] (A.alloc (.map #[] 0)) ((A.alloc (.map #[] 0)).alloc (.cells #[.pointer (some ⟨w.heap.size, 0, none⟩), .map (some (w.heap.size + 1)), .int .i64 2, .int .i64 0, .int .i64 0] 128)) := (Ext.refl [] _).alloc _
  simp only [World.size_alloc, hz] at hb
  exact ⟨w.heap.size + 1 + 1, w.heap.size, w.heap.size, w.heap.size + 1, rfl, ⟨hb, hm.ext (hxB.trans hxC) (by simp) (by simp), ⟨[], hM.ext hxC (by simp), by simp, by simp⟩, by omega, by omega, by omega⟩, by omega, by omega, by omega, by omega, (hxA.trans hxB).trans hxC⟩
set_option maxRecDepth 100000 in
set_option maxHeartbeats 800000 in
theorem qnone_any (b bm g r : Nat) (L : Pairs) (F : Nat → Option ByteArray) (last now : Nat) (w : World) (h : Qu w b bm g r L F last now) :
    Calls Tryz.prog 51 #[.pointer (some ⟨b, 0, none⟩)] w fun e w' => e = .returned (.bool false) ∧ w = w' := by
  have c0 : w.cell? ⟨b, 0, none⟩ = some (.pointer (some ⟨bm, 0, none⟩)) := cell_of_row _ _ 0 _ _ _ h.blk
  go_enter Tryz.func51, Tryz.ntmps51
  go_wp2_with fail
  go_ret
  exact ⟨ret1 rfl, rfl⟩
set_option maxRecDepth 100000 in
set_option maxHeartbeats 800000 in
theorem qnow_any (b bm g r : Nat) (L : Pairs) (F : Nat → Option ByteArray) (last now : Nat) (w : World) (h : Qu w b bm g r L F last now) :
    Calls Tryz.prog 58 #[.pointer (some ⟨b, 0, none⟩)] w fun e w' => e = .returned (.int .i64 now) ∧ w = w' := by
  have hn := qnone_any _ _ _ _ _ _ _ _ _ h
  have c4 : w.cell? ⟨b, 4, none⟩ = some (.int .i64 now) := cell_of_row _ _ 4 _ _ _ h.blk
  go_enter Tryz.func58, Tryz.ntmps58
  go_wp2_with fail
  refine hn.mono ?_
  rintro e w1 ⟨rfl, rfl⟩
  go_wp2_with fail
  go_ret
  exact ⟨ret1 rfl, rfl⟩
set_option maxRecDepth 100000 in
set_option maxHeartbeats 800000 in
theorem qmap_any (b bm g r : Nat) (L : Pairs) (F : Nat → Option ByteArray) (last now : Nat) (w : World) (h : Qu w b bm g r L F last now) (hn : L.length ≤ 1000000) :
    Calls Tryz.prog 16 #[.pointer (some ⟨b, 0, none⟩)] w (Copied L w) := by
  have hno := qnone_any _ _ _ _ _ _ _ _ _ h
  have hc := copy_any bm g L w h.mdl hn
  have c0 : w.cell? ⟨b, 0, none⟩ = some (.pointer (some ⟨bm, 0, none⟩)) := cell_of_row _ _ 0 _ _ _ h.blk
  go_enter Tryz.func16, Tryz.ntmps16
  go_wp2_with fail
  refine hno.mono ?_
  rintro e w1 ⟨rfl, rfl⟩
  clear hno
  go_wp2_with fail
  refine hc.mono ?_
  rintro e w1 ⟨b', g', rfl, hm', hb', hg', hx⟩
  clear hc
  go_wp2_with fail
  go_ret
  exact ⟨b', g', ret1 rfl, hm', hb', hg', hx⟩
end Go.Proofs.YtfadbmfkidiaoaaGreatDoor
