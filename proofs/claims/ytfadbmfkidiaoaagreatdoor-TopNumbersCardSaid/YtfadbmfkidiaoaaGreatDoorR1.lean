/- A range over a function whose rounds all go on: one law, in which the iterator may turn cells of its own. -/
import Derived.RangeFuncNested
import Derived.RangeFuncBound
import Derived.RangeFuncCalls
import Derived.RangeFuncLeaves
import Derived.Shelf.Abstract
import Derived.Shelf.RegionOpen
import Derived.OwnWalkIn
import Derived.TacticsInMore
import Derived.LoopNIn
import Derived.LoopIn
import Derived.Test.YtfadbmfkidiaoaaGreatDoorB4
namespace Go.Proofs.YtfadbmfkidiaoaaGreatDoor
open Go.RowKit Go

/-- what is no cells and lies at or beyond B lies as it lay -/
def KeptB (B : Nat) (W W' : World) : Prop := ∀ (b : Nat) (o : Obj), B ≤ b → W.heap[b]? = some o → o.isCells = false → W'.heap[b]? = some o
theorem KeptB.refl (B : Nat) (W : World) : KeptB B W W := fun _ _ _ h _ => h
theorem KeptB.of_ext {B : Nat} {S : List Nat} {W W' : World} (h : Ext S W W') (hS : ∀ x ∈ S, x < B ∨ ∃ o : Obj, W.heap[x]? = some o ∧ o.isCells = true) : KeptB B W W' := fun b o hb ho hc => by
  refine h.keep ho (fun hm => ?_)
  rcases hS b hm with h1 | ⟨o', ho', hc'⟩
  · omega
  · rw [ho] at ho'; cases ho'; rw [hc] at hc'; cases hc'
/-- the loop's record and its block lie there -/
def Book (D l : Nat) (rec : Obj) (W : World) : Prop := W.heap[l]? = some rec ∧ W.heap[D]? = some (.deferred (some []))
theorem Book.kept {D l : Nat} {rec : Obj} {W W' : World} (h : Book D l rec W) (hk : KeptB D W W') (hD : D ≤ l) (hr : rec.isCells = false) : Book D l rec W' :=
  ⟨hk _ _ hD h.1 hr, hk _ _ (Nat.le_refl _) h.2 rfl⟩

def endB (D : Nat) (R : World → Prop) (W : World) : Exit → Act → World → Prop
  | .normal, _, W' => KeptB D W W' ∧ R W'
  | _, _, _ => False

theorem wpIn_range {P : Program} {n : Nat} {g : Operand} {ps : Array Tmp} {assign body : Code} {Q : Exit → Act → World → Prop} {a : Act} {w : World}
    {gf : Nat} {lb : Array Value} (hg : a.eval g = .func (.func gf) #[] lb) (eg : ∀ args w, (callFunc gf args).run P w = .ok (.enter gf args) w)
    (N : Nat) (enc : Nat → Array Value) (hps : ∀ k, (enc k).size = ps.size) (R Y : Nat → World → Prop)
    (hR : ∀ (k : Nat) (W : World) (l : Nat) (o o' : Obj), w.heap.size ≤ l → W.heap[l]? = some o → o.isCells = false → R k W → R k (W.putObj l o'))
    (hY : ∀ (k : Nat) (W : World) (l : Nat) (o o' : Obj), w.heap.size ≤ l → W.heap[l]? = some o → o.isCells = false → Y k W → Y k (W.putObj l o'))
    (h0 : ∀ o o', R 0 ((w.alloc o).alloc o')) (a₁ : Nat → Act)
    (hit : ∀ (l : Nat) (rec : Obj) (W1 : World), rec.isCells = false → w.heap.size ≤ l → R 0 W1 → Book w.heap.size l rec W1 →
      (∀ k W, k < N → Y k W → Book w.heap.size l rec W → YieldAt Fence.wide (n - 1 - 1) P l (enc k) W fun e W' => e = .returned (.bool true) ∧ R (k + 1) W' ∧ Book w.heap.size l rec W') →
      CallsIn Fence.wide (n - 1) P gf (#[.func (.yield l) #[] #[]] ++ lb) W1 fun e W' => (∃ v, e = .returned v) ∧ R N W' ∧ Book w.heap.size l rec W')
    (hassign : ∀ (l : Nat) (k : Nat) (W : World) (K : Act → World → Prop), K (a₁ k) W →
      assign.wpIn (Fence.wide.inRound l) (n - 1 - 1) P (Exit.then K (fun _ _ _ => False)) { tmps := (ps.zip (enc k)).foldl (fun t (p, v) => t.setIfInBounds p v) a.tmps, defers := [] } W)
    (hbody : ∀ (l : Nat) (k : Nat) (W : World), Y k W → k < N → body.wpIn (Fence.wide.inRound l) (n - 1 - 1) P (endB w.heap.size (R (k + 1)) W) (a₁ k) W)
    (hdone : ∀ (W : World), R N W → W.heap[w.heap.size]? = some (.deferred (some [])) → Q .normal { a with defers := { target := .collected w.heap.size, args := #[] } :: a.defers } W) :
    (Code.rangeFunc g ps assign body).wpIn Fence.wide n P Q a w := by
  refine wpIn_rangeFunc ?_
  intro fn hfn
  have hro : Fence.wide.round = none := rfl
  rw [hro]
  obtain ⟨rec, hrec⟩ : ∃ rec : LoopState → Option Code → Loop, rec = fun st pe => { state := st, pending := pe, fn, tmps := a.tmps, params := ps, assign, body, defers := w.heap.size } := ⟨_, rfl⟩
  obtain ⟨W1, hW1⟩ : ∃ W1, (w.alloc (.deferred (some []))).alloc (.loop (rec .ready none)) = W1 := ⟨_, rfl⟩
  have hL1 : W1.heap[w.heap.size + 1]? = some (.loop (rec .ready none)) := by
    rw [← hW1]; have := World.alloc_heap_new (w.alloc (.deferred (some []))) (.loop (rec .ready none)); rwa [World.size_alloc] at this
  have hK1 : W1.heap[w.heap.size]? = some (.deferred (some [])) := by
    rw [← hW1]; exact (Below.heap_alloc _ _ _ (by simp)).trans (World.alloc_heap_new w _)
  have hI1 : R 0 W1 := by rw [← hW1]; exact h0 _ _
  refine ⟨w.heap.size + 1, [{ target := .collected w.heap.size, args := #[] }], W1, { target := .fn (.func gf) lb, args := #[.func (.yield (w.heap.size + 1)) #[] #[]] }, W1, gf,
    #[.func (.yield (w.heap.size + 1)) #[] #[]] ++ lb, W1, ?_, ?_, ?_, ?_, fun h => (by simp [Fence.wide] at h), ?_⟩
  · rw [← hW1, hrec]; exact run_enterLoop_outer _ _ _ _ _
  · simp only [resolve, hg]
    simp [go_sem]
  · intro f' hf'; trivial
  · simp [invoke, go_sem, eg]
  · refine (hit (w.heap.size + 1) (.loop (rec .ready none)) W1 rfl (by omega) hI1 ⟨hL1, hK1⟩ ?_).mono ?_
    · rintro k W hk hy ⟨hl, hd⟩
      have hlt : w.heap.size + 1 < W.heap.size := (Array.getElem?_eq_some_iff.1 hl).1
      have hyr := run_yield (P := P) (args := enc k) hl (by rw [hrec]; exact hps k)
      rw [hrec] at hyr
      refine ⟨fn, _, assign, body, hyr, roundIn_of_wpIn hfn (hassign _ k W _ ⟨_, run_beginRound hl (by rw [hrec]), ?_⟩)⟩
      have hl2 : (W.putObj (w.heap.size + 1) (.loop { rec .ready none with state := .busy })).heap[w.heap.size + 1]? = some (.loop { rec .ready none with state := .busy }) := World.putObj_heap_same hlt
      have hk2 : (W.putObj (w.heap.size + 1) (.loop { rec .ready none with state := .busy })).heap[w.heap.size]? = some (.deferred (some [])) := (World.putObj_heap_other (by omega)).trans hd
      refine wpIn_mono (hbody _ k _ (hY _ _ _ _ _ (by omega) hl rfl hy) hk) ?_
      rintro e a3 W3 hp
      cases e with
      | normal =>
        obtain ⟨hk3, hr3⟩ := hp
        have hl3 := hk3 _ _ (by omega) hl2 rfl
        have hd3 := hk3 _ _ (Nat.le_refl _) hk2 rfl
        have hrun := run_endRound (P := P) none hl3
        rw [hrec] at hrun hl3
        refine ⟨_, _, hrun, rfl, hR _ _ _ _ _ (by omega) hl3 rfl hr3, ?_, ?_⟩
        · rw [hrec]; exact World.putObj_heap_same (Array.getElem?_eq_some_iff.1 hl3).1
        · exact (World.putObj_heap_other (by omega)).trans hd3
      | ret => exact hp.elim
      | exit id => exact hp.elim
      | goto t => exact hp.elim
      | panic ch => exact hp.elim
      | outgrown => exact hp.elim
    · rintro e W2 ⟨⟨v, rfl⟩, hr, hl, hd⟩
      refine ⟨none, _, by have := run_endLoop (P := P) hl (by rw [hrec]; simp); rw [hrec] at this; exact this, hdone _ (hR _ _ _ _ _ (by omega) hl rfl hr) ((World.putObj_heap_other (by omega)).trans hd)⟩

theorem wpListIn_append' {F : Fence} {n : Nat} {P : Program} {w : World} {t e sz by_ : Nat} {ops : Array Oper} {rest : List Oper} {o : Oper} {a : Act} {Q : Exit → Act → World → Prop} (T : SlT P t e sz by_) (hgd : o.guard = none) (sO xO : Operand)
    (ho : o.op = .call { callee := .builtin .append, args := #[sO, xO], argTypes := #[t, t] }) {g g2 n' m : Nat} {s x : Value} {xs ys : List Value} (hs : a.eval sO = s) (hx : a.eval xO = x)
    (hr : Row w g e sz s n' xs) (hv : Vw w g2 e sz x m ys) (h1 : ∀ u ∈ ys, u.oneCell' = true) (hb : (n' + m) * by_ ≤ 140737488355328) (h63 : n' + m ≤ 9223372036854775807)
    (h : ∀ (g' : Nat) (A' : Option Addr) (c' : Nat) (w' : World), Row w' g' e sz (.slice A' (n' + m) c') (n' + m) (xs ++ ys) → Ext [g] w w' → (g' = g ∨ w.heap.size ≤ g') → (0 < n' + m → A' = some ⟨g', 0, none⟩) → n' + m ≤ c' →
      (s ≠ .slice none 0 0 → A' ≠ none) → wpListIn F n P ops Q rest (a.put o.dst (.slice A' (n' + m) c')) w') : wpListIn F n P ops Q (o :: rest) a w := by
  obtain ⟨g', v', w', hrun, h2, h3, h4, h5⟩ := run_append T o.type hr hv h1 hb h63
  refine wpListIn_plain hgd fun K hK => ?_
  unfold Oper.wpIn
  refine ⟨?_, ?_⟩
  · simp [Oper.about, ho, resolve, Target.leads, Sem.run_pure]
  · rw [Oper.semAt_plain F _ _ (by rw [ho]; intro c hc'; cases hc')]
    simp only [execOp, ho, resolve, invoke, builtin, Sem.run_bind, Sem.run_pure, Result.andThen_ok, List.map_toArray, List.map_cons, List.map_nil, hs, hx, hrun]
    obtain ⟨A, c, rfl, hA, hc⟩ := h2.form
    refine hK _ _ (h g' A c w' h2 h3 h4 hA hc fun hne hn => ?_)
    subst hn
    obtain ⟨e1, _, e3⟩ := h2.isNil _ _ rfl
    exact hne (h5.1 (by rw [e1, e3])).1
end Go.Proofs.YtfadbmfkidiaoaaGreatDoor
