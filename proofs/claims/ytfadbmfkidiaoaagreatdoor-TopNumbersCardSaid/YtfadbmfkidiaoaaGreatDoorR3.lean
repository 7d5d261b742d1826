/- A range over a function whose rounds all go on, where what comes is known only as it comes. -/
import Derived.Test.YtfadbmfkidiaoaaGreatDoorR1
namespace Go.Proofs.YtfadbmfkidiaoaaGreatDoor
open Go.RowKit Go

theorem wpIn_rangeL {α : Type} {P : Program} {n : Nat} {g : Operand} {ps : Array Tmp} {assign body : Code} {Q : Exit → Act → World → Prop} {a : Act} {w : World}
    {gf : Nat} {lb : Array Value} (hg : a.eval g = .func (.func gf) #[] lb) (eg : ∀ args w, (callFunc gf args).run P w = .ok (.enter gf args) w)
    (enc : α → Array Value) (hps : ∀ x, (enc x).size = ps.size) (S : List α → Prop) (Ok : List α → α → Prop) (R : List α → World → Prop) (Y : List α → α → World → Prop)
    (hR : ∀ (k : List α) (W : World) (l : Nat) (o o' : Obj), w.heap.size ≤ l → W.heap[l]? = some o → o.isCells = false → R k W → R k (W.putObj l o'))
    (hY : ∀ (k : List α) (x : α) (W : World) (l : Nat) (o o' : Obj), w.heap.size ≤ l → W.heap[l]? = some o → o.isCells = false → Y k x W → Y k x (W.putObj l o'))
    (h0 : ∀ o o', R [] ((w.alloc o).alloc o')) (a₁ : α → Act)
    (hit : ∀ (l : Nat) (rec : Obj) (W1 : World), rec.isCells = false → (∀ a s n c, rec ≠ .mapIter a s n c) → w.heap.size ≤ l → R [] W1 → Book w.heap.size l rec W1 →
      (∀ k x W, Ok k x → Y k x W → Book w.heap.size l rec W → YieldAt Fence.wide (n - 1 - 1) P l (enc x) W fun e W' => e = .returned (.bool true) ∧ R (k ++ [x]) W' ∧ Book w.heap.size l rec W' ∧ KeptB w.heap.size W W') →
      CallsIn Fence.wide (n - 1) P gf (#[.func (.yield l) #[] #[]] ++ lb) W1 fun e W' => (∃ v, e = .returned v) ∧ ∃ xs, S xs ∧ R xs W' ∧ Book w.heap.size l rec W')
    (hassign : ∀ (l : Nat) (x : α) (W : World) (K : Act → World → Prop), K (a₁ x) W →
      assign.wpIn (Fence.wide.inRound l) (n - 1 - 1) P (Exit.then K (fun _ _ _ => False)) { tmps := (ps.zip (enc x)).foldl (fun t (p, v) => t.setIfInBounds p v) a.tmps, defers := [] } W)
    (hbody : ∀ (l : Nat) (k : List α) (x : α) (W : World), Y k x W → Ok k x → body.wpIn (Fence.wide.inRound l) (n - 1 - 1) P (endB w.heap.size (R (k ++ [x])) W) (a₁ x) W)
    (hdone : ∀ (xs : List α) (W : World), S xs → R xs W → W.heap[w.heap.size]? = some (.deferred (some [])) → Q .normal { a with defers := { target := .collected w.heap.size, args := #[] } :: a.defers } W) :
    (Code.rangeFunc g ps assign body).wpIn Fence.wide n P Q a w := by
  refine wpIn_rangeFunc ?_
  intro fn hfn
  have hro : Fence.wide.round = none := rfl
  rw [hro]
  obtain ⟨rec, hrec⟩ : ∃ rec : LoopState → Option Code → Loop, rec = fun st pe => { state := st, pending := pe, fn, tmps := a.tmps, params := ps, assign, body, defers := w.heap.size } := ⟨_, rfl⟩
  obtain ⟨W1, hW1⟩ : ∃ W1, (w.alloc (.deferred (some []))).alloc (.loop (rec .ready none)) = W1 := ⟨_, rfl⟩
  have hL1 : W1.heap[w.heap.size + 1]? = some (.loop (rec .ready none)) := by
    rw [← hW1]; have := World.alloc_heap_new (w.alloc (.deferred (some []))) (.loop (rec .ready none)); rwa [World.size_alloc] at this
  have hK1 : W1.heap[w.heap.size]? = some (.deferred (some [])) := by
    rw [← hW1]; exact (Below.heap_alloc _ _ _ (by simp)).trans (World.alloc_heap_new w _)
  have hI1 : R [] W1 := by rw [← hW1]; exact h0 _ _
  refine ⟨w.heap.size + 1, [{ target := .collected w.heap.size, args := #[] }], W1, { target := .fn (.func gf) lb, args := #[.func (.yield (w.heap.size + 1)) #[] #[]] }, W1, gf,
    #[.func (.yield (w.heap.size + 1)) #[] #[]] ++ lb, W1, ?_, ?_, ?_, ?_, fun h => (by simp [Fence.wide] at h), ?_⟩
  · rw [← hW1, hrec]; exact run_enterLoop_outer _ _ _ _ _
  · simp only [resolve, hg]
    simp [go_sem]
  · intro f' hf'; trivial
  · simp [invoke, go_sem, eg]
  · refine (hit (w.heap.size + 1) (.loop (rec .ready none)) W1 rfl (by intro a s n c h; cases h) (by omega) hI1 ⟨hL1, hK1⟩ ?_).mono ?_
    · rintro k x W hk hy ⟨hl, hd⟩
      have hlt : w.heap.size + 1 < W.heap.size := (Array.getElem?_eq_some_iff.1 hl).1
      have hyr := run_yield (P := P) (args := enc x) hl (by rw [hrec]; exact hps x)
      rw [hrec] at hyr
      refine ⟨fn, _, assign, body, hyr, roundIn_of_wpIn hfn (hassign _ x W _ ⟨_, run_beginRound hl (by rw [hrec]), ?_⟩)⟩
      have hl2 : (W.putObj (w.heap.size + 1) (.loop { rec .ready none with state := .busy })).heap[w.heap.size + 1]? = some (.loop { rec .ready none with state := .busy }) := World.putObj_heap_same hlt
      have hk2 : (W.putObj (w.heap.size + 1) (.loop { rec .ready none with state := .busy })).heap[w.heap.size]? = some (.deferred (some [])) := (World.putObj_heap_other (by omega)).trans hd
      refine wpIn_mono (hbody _ k x _ (hY _ _ _ _ _ _ (by omega) hl rfl hy) hk) ?_
      rintro e a3 W3 hp
      cases e with
      | normal =>
        obtain ⟨hk3, hr3⟩ := hp
        have hl3 := hk3 _ _ (by omega) hl2 rfl
        have hd3 := hk3 _ _ (Nat.le_refl _) hk2 rfl
        have hrun := run_endRound (P := P) none hl3
        rw [hrec] at hrun hl3
        refine ⟨_, _, hrun, rfl, hR _ _ _ _ _ (by omega) hl3 rfl hr3, ⟨?_, ?_⟩, ?_⟩
        · rw [hrec]; exact World.putObj_heap_same (Array.getElem?_eq_some_iff.1 hl3).1
        · exact (World.putObj_heap_other (by omega)).trans hd3
        · intro b o hb ho hc
          by_cases hbl : b = w.heap.size + 1
          · subst hbl
            rw [hl] at ho
            cases ho
            rw [hrec]
            exact World.putObj_heap_same (Array.getElem?_eq_some_iff.1 hl3).1
          · exact (World.putObj_heap_other hbl).trans (hk3 b o hb ((World.putObj_heap_other hbl).trans ho) hc)
      | ret => exact hp.elim
      | exit id => exact hp.elim
      | goto t => exact hp.elim
      | panic ch => exact hp.elim
      | outgrown => exact hp.elim
    · rintro e W2 ⟨⟨v, rfl⟩, xs, hS, hr, hl, hd⟩
      refine ⟨none, _, by have := run_endLoop (P := P) hl (by rw [hrec]; simp); rw [hrec] at this; exact this, hdone xs _ hS (hR _ _ _ _ _ (by omega) hl rfl hr) ((World.putObj_heap_other (by omega)).trans hd)⟩

end Go.Proofs.YtfadbmfkidiaoaaGreatDoor
