/- A range over a function whose rounds all go on: one law, in which the iterator may turn cells of its own. slices.Chunk of bytes, and slices.AppendSeq, slices.Collect of what it gives. -/
import Derived.Test.YtfadbmfkidiaoaaGreatDoorZ10
import Derived.RangeFuncNested
import Derived.RangeFuncBound
import Derived.RangeFuncCalls
import Derived.RangeFuncLeaves
import Derived.Shelf.Abstract
import Derived.Shelf.RegionOpen
import Derived.OwnWalkIn
import Derived.TacticsInMore
import Derived.LoopNIn
import Derived.LoopIn
namespace Go.Proofs.YtfadbmfkidiaoaaGreatDoor
open Go.RowKit Go

/-- what is no cells and lies at or beyond B lies as it lay -/
def KeptB (B : Nat) (W W' : World) : Prop := ∀ (b : Nat) (o : Obj), B ≤ b → W.heap[b]? = some o → o.isCells = false → W'.heap[b]? = some o
theorem KeptB.refl (B : Nat) (W : World) : KeptB B W W := fun _ _ _ h _ => h
theorem KeptB.of_ext {B : Nat} {S : List Nat} {W W' : World} (h : Ext S W W') (hS : ∀ x ∈ S, x < B ∨ ∃ o : Obj, W.heap[x]? = some o ∧ o.isCells = true) : KeptB B W W' := fun b o hb ho hc => by
  refine h.keep ho (fun hm => ?_)
  rcases hS b hm with h1 | ⟨o', ho', hc'⟩
  · omega
  · rw [ho] at ho'; cases ho'; rw [hc] at hc'; cases hc'
/-- the loop's record and its block lie there -/
def Book (D l : Nat) (rec : Obj) (W : World) : Prop := W.heap[l]? = some rec ∧ W.heap[D]? = some (.deferred (some []))
theorem Book.kept {D l : Nat} {rec : Obj} {W W' : World} (h : Book D l rec W) (hk : KeptB D W W') (hD : D ≤ l) (hr : rec.isCells = false) : Book D l rec W' :=
  ⟨hk _ _ hD h.1 hr, hk _ _ (Nat.le_refl _) h.2 rfl⟩

def endB (D : Nat) (R : World → Prop) (W : World) : Exit → Act → World → Prop
  | .normal, _, W' => KeptB D W W' ∧ R W'
  | _, _, _ => False

theorem wpIn_range {P : Program} {n : Nat} {g : Operand} {ps : Array Tmp} {assign body : Code} {Q : Exit → Act → World → Prop} {a : Act} {w : World}
    {gf : Nat} {lb : Array Value} (hg : a.eval g = .func (.func gf) #[] lb) (eg : ∀ args w, (callFunc gf args).run P w = .ok (.enter gf args) w)
    (N : Nat) (enc : Nat → Array Value) (hps : ∀ k, (enc k).size = ps.size) (R Y : Nat → World → Prop)
    (hR : ∀ (k : Nat) (W : World) (l : Nat) (o o' : Obj), w.heap.size ≤ l → W.heap[l]? = some o → o.isCells = false → R k W → R k (W.putObj l o'))
    (hY : ∀ (k : Nat) (W : World) (l : Nat) (o o' : Obj), w.heap.size ≤ l → W.heap[l]? = some o → o.isCells = false → Y k W → Y k (W.putObj l o'))
    (h0 : ∀ o o', R 0 ((w.alloc o).alloc o')) (a₁ : Nat → Act)
    (hit : ∀ (l : Nat) (rec : Obj) (W1 : World), rec.isCells = false → w.heap.size ≤ l → R 0 W1 → Book w.heap.size l rec W1 →
      (∀ k W, k < N → Y k W → Book w.heap.size l rec W → YieldAt Fence.wide (n - 1 - 1) P l (enc k) W fun e W' => e = .returned (.bool true) ∧ R (k + 1) W' ∧ Book w.heap.size l rec W') →
      CallsIn Fence.wide (n - 1) P gf (#[.func (.yield l) #[] #[]] ++ lb) W1 fun e W' => (∃ v, e = .returned v) ∧ R N W' ∧ Book w.heap.size l rec W')
    (hassign : ∀ (l : Nat) (k : Nat) (W : World) (K : Act → World → Prop), K (a₁ k) W →
      assign.wpIn (Fence.wide.inRound l) (n - 1 - 1) P (Exit.then K (fun _ _ _ => False)) { tmps := (ps.zip (enc k)).foldl (fun t (p, v) => t.setIfInBounds p v) a.tmps, defers := [] } W)
    (hbody : ∀ (l : Nat) (k : Nat) (W : World), Y k W → k < N → body.wpIn (Fence.wide.inRound l) (n - 1 - 1) P (endB w.heap.size (R (k + 1)) W) (a₁ k) W)
    (hdone : ∀ (W : World), R N W → W.heap[w.heap.size]? = some (.deferred (some [])) → Q .normal { a with defers := { target := .collected w.heap.size, args := #[] } :: a.defers } W) :
    (Code.rangeFunc g ps assign body).wpIn Fence.wide n P Q a w := by
  refine wpIn_rangeFunc ?_
  intro fn hfn
  have hro : Fence.wide.round = none := rfl
  rw [hro]
  obtain ⟨rec, hrec⟩ : ∃ rec : LoopState → Option Code → Loop, rec = fun st pe => { state := st, pending := pe, fn, tmps := a.tmps, params := ps, assign, body, defers := w.heap.size } := ⟨_, rfl⟩
  obtain ⟨W1, hW1⟩ : ∃ W1, (w.alloc (.deferred (some []))).alloc (.loop (rec .ready none)) = W1 := ⟨_, rfl⟩
  have hL1 : W1.heap[w.heap.size + 1]? = some (.loop (rec .ready none)) := by
    rw [← hW1]; have := World.alloc_heap_new (w.alloc (.deferred (some []))) (.loop (rec .ready none)); rwa [World.size_alloc] at this
  have hK1 : W1.heap[w.heap.size]? = some (.deferred (some [])) := by
    rw [← hW1]; exact (Below.heap_alloc _ _ _ (by simp)).trans (World.alloc_heap_new w _)
  have hI1 : R 0 W1 := by rw [← hW1]; exact h0 _ _
  refine ⟨w.heap.size + 1, [{ target := .collected w.heap.size, args := #[] }], W1, { target := .fn (.func gf) lb, args := #[.func (.yield (w.heap.size + 1)) #[] #[]] }, W1, gf,
    #[.func (.yield (w.heap.size + 1)) #[] #[]] ++ lb, W1, ?_, ?_, ?_, ?_, fun h => (by simp [Fence.wide] at h), ?_⟩
  · rw [← hW1, hrec]; exact run_enterLoop_outer _ _ _ _ _
  · simp only [resolve, hg]
    simp [go_sem]
  · intro f' hf'; trivial
  · simp [invoke, go_sem, eg]
  · refine (hit (w.heap.size + 1) (.loop (rec .ready none)) W1 rfl (by omega) hI1 ⟨hL1, hK1⟩ ?_).mono ?_
    · rintro k W hk hy ⟨hl, hd⟩
      have hlt : w.heap.size + 1 < W.heap.size := (Array.getElem?_eq_some_iff.1 hl).1
      have hyr := run_yield (P := P) (args := enc k) hl (by rw [hrec]; exact hps k)
      rw [hrec] at hyr
      refine ⟨fn, _, assign, body, hyr, roundIn_of_wpIn hfn (hassign _ k W _ ⟨_, run_beginRound hl (by rw [hrec]), ?_⟩)⟩
      have hl2 : (W.putObj (w.heap.size + 1) (.loop { rec .ready none with state := .busy })).heap[w.heap.size + 1]? = some (.loop { rec .ready none with state := .busy }) := World.putObj_heap_same hlt
      have hk2 : (W.putObj (w.heap.size + 1) (.loop { rec .ready none with state := .busy })).heap[w.heap.size]? = some (.deferred (some [])) := (World.putObj_heap_other (by omega)).trans hd
      refine wpIn_mono (hbody _ k _ (hY _ _ _ _ _ (by omega) hl rfl hy) hk) ?_
      rintro e a3 W3 hp
      cases e with
      | normal =>
        obtain ⟨hk3, hr3⟩ := hp
        have hl3 := hk3 _ _ (by omega) hl2 rfl
        have hd3 := hk3 _ _ (Nat.le_refl _) hk2 rfl
        have hrun := run_endRound (P := P) none hl3
        rw [hrec] at hrun hl3
        refine ⟨_, _, hrun, rfl, hR _ _ _ _ _ (by omega) hl3 rfl hr3, ?_, ?_⟩
        · rw [hrec]; exact World.putObj_heap_same (Array.getElem?_eq_some_iff.1 hl3).1
        · exact (World.putObj_heap_other (by omega)).trans hd3
      | ret => exact hp.elim
      | exit id => exact hp.elim
      | goto t => exact hp.elim
      | panic ch => exact hp.elim
      | outgrown => exact hp.elim
    · rintro e W2 ⟨⟨v, rfl⟩, hr, hl, hd⟩
      refine ⟨none, _, by have := run_endLoop (P := P) hl (by rw [hrec]; simp); rw [hrec] at this; exact this, hdone _ (hR _ _ _ _ _ (by omega) hl rfl hr) ((World.putObj_heap_other (by omega)).trans hd)⟩

theorem wpListIn_append' {F : Fence} {n : Nat} {P : Program} {w : World} {t e sz by_ : Nat} {ops : Array Oper} {rest : List Oper} {o : Oper} {a : Act} {Q : Exit → Act → World → Prop} (T : SlT P t e sz by_) (hgd : o.guard = none) (sO xO : Operand)
    (ho : o.op = .call { callee := .builtin .append, args := #[sO, xO], argTypes := #[t, t] }) {g g2 n' m : Nat} {s x : Value} {xs ys : List Value} (hs : a.eval sO = s) (hx : a.eval xO = x)
    (hr : Row w g e sz s n' xs) (hv : Vw w g2 e sz x m ys) (h1 : ∀ u ∈ ys, u.oneCell' = true) (hb : (n' + m) * by_ ≤ 140737488355328) (h63 : n' + m ≤ 9223372036854775807)
    (h : ∀ (g' : Nat) (A' : Option Addr) (c' : Nat) (w' : World), Row w' g' e sz (.slice A' (n' + m) c') (n' + m) (xs ++ ys) → Ext [g] w w' → (g' = g ∨ w.heap.size ≤ g') → (0 < n' + m → A' = some ⟨g', 0, none⟩) → n' + m ≤ c' →
      (s ≠ .slice none 0 0 → A' ≠ none) → wpListIn F n P ops Q rest (a.put o.dst (.slice A' (n' + m) c')) w') : wpListIn F n P ops Q (o :: rest) a w := by
  obtain ⟨g', v', w', hrun, h2, h3, h4, h5⟩ := run_append T o.type hr hv h1 hb h63
  refine wpListIn_plain hgd fun K hK => ?_
  unfold Oper.wpIn
  refine ⟨?_, ?_⟩
  · simp [Oper.about, ho, resolve, Target.leads, Sem.run_pure]
  · rw [Oper.semAt_plain F _ _ (by rw [ho]; intro c hc'; cases hc')]
    simp only [execOp, ho, resolve, invoke, builtin, Sem.run_bind, Sem.run_pure, Result.andThen_ok, List.map_toArray, List.map_cons, List.map_nil, hs, hx, hrun]
    obtain ⟨A, c, rfl, hA, hc⟩ := h2.form
    refine hK _ _ (h g' A c w' h2 h3 h4 hA hc fun hne hn => ?_)
    subst hn
    obtain ⟨e1, _, e3⟩ := h2.isNil _ _ rfl
    exact hne (h5.1 (by rw [e1, e3])).1
end Go.Proofs.YtfadbmfkidiaoaaGreatDoor

namespace Go.Proofs.YtfadbmfkidiaoaaGreatDoor
open Go.RowKit Go

/-- how many pieces of s bytes n bytes have -/
def nCh (n s : Nat) : Nat := (n + s - 1) / s
theorem nCh_lt {n s k : Nat} (hs : 1 ≤ s) : k < nCh n s ↔ k * s < n := by
  unfold nCh
  rw [← Nat.succ_le_iff, Nat.le_div_iff_mul_le (by omega), Nat.succ_mul]
  omega
/-- the slice of the k-th piece -/
def chV (v : Value) (n s k : Nat) : Value := match v with
  | .slice A _ _ => .slice (A.map (·.add (k * s))) (min s (n - k * s)) (min s (n - k * s))
  | x => x

theorem chunk_any (A : Option Addr) (n c : Nat) (s : Int) (w : World) (hs : 1 ≤ s) :
    Calls Tryz.prog 98 #[.slice A n c, .int .i64 s] w fun e w' => e = .returned (.func (.func 144) #[] #[.pointer (some ⟨w.heap.size, 0, none⟩), .pointer (some ⟨w.heap.size + 1, 0, none⟩)]) ∧ w' = (w.alloc (.cells #[.slice A n c] 104)).alloc (.cells #[.int .i64 s] 3) := by
  go_enter Tryz.func98, Tryz.ntmps98
  go_wp2_with fail
  go_ret
  exact ⟨rfl, rfl⟩

attribute [local go_sem] Oper.semAt_some
set_option maxHeartbeats 800000 in
theorem chunk_it (m : Nat) (l b1 b2 g o c : Nat) (n s : Nat) (R Y : Nat → World → Prop) (hs : 1 ≤ s) (hs2 : s ≤ 65536) (hn : n ≤ 4194304) (hnc : n ≤ c)
    (hb : ∀ k W, R k W → W.cell? ⟨b1, 0, none⟩ = some (.slice (some ⟨g, o, none⟩) n c) ∧ W.cell? ⟨b2, 0, none⟩ = some (.int .i64 s))
    (hd : ∀ k W j, R k W → Y k (W.drewN j))
    (hY : ∀ k W, k < nCh n s → Y k W → YieldAt Fence.wide (m - 1) Tryz.prog l #[chV (.slice (some ⟨g, o, none⟩) n c) n s k] W fun e W' => e = .returned (.bool true) ∧ R (k + 1) W')
    (W : World) (h0 : R 0 W) :
    CallsIn Fence.wide m Tryz.prog 144 #[.func (.yield l) #[] #[], .pointer (some ⟨b1, 0, none⟩), .pointer (some ⟨b2, 0, none⟩)] W fun e W' => (∃ v, e = .returned v) ∧ R (nCh n s) W' := by
  refine callsIn_of_wp Tryz.func144 rfl trivial ?_ rfl
  simp only [Tryz.ntmps144, List.size_toArray, List.length_cons, List.length_nil, Nat.reduceAdd, Nat.reduceSub, Array.replicate_succ, Array.replicate_zero, List.push_toArray, List.append_toArray, List.nil_append, List.cons_append]
  gi_wp2_with fail
  gi_loopw [4] (fun iv wr => ∃ (i k : Nat), iv = .int .i64 i ∧ i = k * s ∧ k ≤ nCh n s ∧ R k wr) (fun iv _ => n - (intOf iv).toNat)
  case atStart => exact ⟨0, 0, rfl, by omega, by omega, h0⟩
  case round =>
    obtain ⟨i, k, rfl, hik, hk, hr⟩ := hrel
    obtain ⟨c1, c2⟩ := hb k _ hr
    have HI := Lib.hid hik; clear hik
    by_cases hlt : i < n
    · obtain ⟨A1, hs1, hs2', hs3⟩ := slice_l T104 (some ⟨g, o, none⟩) n c i (z := i) rfl (by omega)
      obtain ⟨e, he, hmin⟩ : ∃ e : Nat, e = min s (n - i) ∧ min (s : Int) ((n - i : Nat) : Int) = (e : Int) := ⟨_, rfl, by omega⟩
      have he1 : 1 ≤ e := by omega
      have he2 : i + e ≤ n := by omega
      have HE := Lib.hid he; clear he
      gi_wp2_with fail
      gi_quiet (fail)
      have hkl : k < nCh n s := (nCh_lt hs).2 (by rw [← HI.out]; exact hlt)
      obtain ⟨fn, tmps, assign, body, hy, hRd⟩ := hY k (wr.drewN nq) hkl (hd k _ nq hr)
      have hch : chV (.slice (some ⟨g, o, none⟩) n c) n s k = .slice (some ⟨g, o + i, none⟩) e e := by
        simp only [chV, ← HI.out, ← HE.out, Option.map_some, addr_add]
      rw [hch] at hy
      gi_wp2_with fail
      refine ⟨fun h => (by simp [Fence.wide] at h), hRd.mono ?_⟩
      rintro x W3 ⟨rfl, hr3⟩
      obtain ⟨_, c3⟩ := hb _ _ hr3
      gi_wp2_with fail
      go_roundw
      case rel => exact ⟨i + s, k + 1, by go_num, by rw [Nat.succ_mul, ← HI.out], by omega, hr3⟩
      case measure => simp [intOf]; omega
    · have hkl : ¬ k < nCh n s := fun h => hlt (by have := (nCh_lt hs).1 h; rwa [← HI.out] at this)
      gi_wp2_with fail
      go_end0
      obtain rfl : k = nCh n s := by omega
      exact ⟨⟨_, rfl⟩, hr⟩

theorem Ext.putObj {S : List Nat} {a b : World} (h : Ext S a b) {l : Nat} (hl : a.heap.size ≤ l) (o : Obj) : Ext S a (b.putObj l o) := h.heap_setBlock (.inr hl) o
theorem Row.putObj {w : World} {g e sz : Nat} {v : Value} {n : Nat} {cs : List Value} (h : Row w g e sz v n cs) {l : Nat} {o : Obj} (hl : w.heap[l]? = some o) (ho : o.isCells = false) (o' : Obj) : Row (w.putObj l o') g e sz v n cs := by
  cases h with
  | nil => exact .nil
  | at_ cur hl' h1 h2 hb hs ht =>
    refine .at_ cur hl' h1 h2 ((World.putObj_heap_other (fun e => ?_)).trans hb) hs ht
    subst e; rw [hl] at hb; cases hb; cases ho
theorem heap_putObj {w : World} {b l : Nat} {o o2 : Obj} (hb : w.heap[b]? = some o) (hc : o.isCells = true) (hl : w.heap[l]? = some o2) (ho : o2.isCells = false) (o' : Obj) : (w.putObj l o').heap[b]? = some o := by
  refine (World.putObj_heap_other (fun e => ?_)).trans hb
  subst e; rw [hl] at hb; cases hb; rw [hc] at ho; cases ho

theorem frozen_of_one {w : World} {b t : Nat} {v : Value} (h : w.heap[b]? = some (.cells #[v] t (0, 0))) : w.frozen? ⟨b, 0, none⟩ = false := by
  unfold World.frozen?; rw [h]; rfl
theorem colKeep {W w3 : World} {B g' : Nat} {o o2 : Obj} (hb : W.heap[B]? = some o) (hn : ¬ B ∈ [g']) (hx3 : Ext [g'] (W.alloc o2) w3) : w3.heap[B]? = some o :=
  (((Ext.refl [g'] W).alloc o2).trans hx3).keep hb hn
theorem KeptB.of_ext2 {B : Nat} {S : List Nat} {W W' : World} (h : Ext S W W') (hS : ∀ x ∈ S, x < B ∨ W.heap.size ≤ x ∨ ∃ o : Obj, W.heap[x]? = some o ∧ o.isCells = true) : KeptB B W W' := fun b o hb ho hc => by
  refine h.keep ho (fun hm => ?_)
  rcases hS b hm with h1 | h1 | ⟨o', ho', hc'⟩
  · omega
  · have := lt_of_block ho; omega
  · rw [ho] at ho'; cases ho'; rw [hc] at hc'; cases hc'
theorem Row.other {W : World} {g e sz B : Nat} {v : Value} {n : Nat} {cs : List Value} (h : Row W g e sz v n cs) (hg : B < g) (hB : B < W.heap.size) : ∃ gi, Row W gi e sz v n cs ∧ B < gi ∧ (W.heap.size ≤ gi ∨ ∃ o : Obj, W.heap[gi]? = some o ∧ o.isCells = true) := by
  rcases h.split with ⟨rfl, h0, h1⟩ | ⟨c, cur, h1, _, _, hb, _⟩
  · subst h0; subst h1; exact ⟨W.heap.size, .nil, hB, .inl (Nat.le_refl _)⟩
  · exact ⟨g, h, hg, .inr ⟨_, hb, rfl⟩⟩
theorem T107 : SlT Tryz.prog 107 104 1 24 := slT_mk (z := .slice none 0 0) Tryz.underlying107 (by kernel_rfl) rfl (by omega)
def chs (v : Value) (n s k : Nat) : List Value := (List.range k).map (chV v n s)
theorem chs_succ (v : Value) (n s k : Nat) : chs v n s (k + 1) = chs v n s k ++ [chV v n s k] := by simp [chs, List.range_succ]

/-- what AppendSeq has so far: block B is its variable's box -/
def ColI (w : World) (B t e : Nat) (f : Nat → List Value) (k : Nat) (W : World) : Prop :=
  ∃ (g' : Nat) (A : Option Addr) (c' : Nat), W.heap[B]? = some (.cells #[.slice A k c'] t (0, 0)) ∧ Row W g' e 1 (.slice A k c') k (f k) ∧ w.heap.size < g' ∧ Ext [] w W
theorem ColI.put {w : World} {B t e : Nat} {f : Nat → List Value} {k : Nat} {W : World} (h : ColI w B t e f k W) {l : Nat} {o : Obj} (h0 : w.heap.size ≤ l) (hl : W.heap[l]? = some o) (ho : o.isCells = false) (o' : Obj) : ColI w B t e f k (W.putObj l o') := by
  obtain ⟨g', A, c', hb, hr, hg, hx⟩ := h
  exact ⟨g', A, c', heap_putObj hb rfl hl ho o', hr.putObj hl ho o', hg, hx.putObj h0 o'⟩
theorem ColI.drewN {w : World} {B t e : Nat} {f : Nat → List Value} {k : Nat} {W : World} (h : ColI w B t e f k W) (j : Nat) : ColI w B t e f k (W.drewN j) := by
  obtain ⟨g', A, c', hb, hr, hg, hx⟩ := h
  exact ⟨g', A, c', hb, hr.ext ((Ext.refl [] W).drewN j) (by simp), hg, hx.drewN j⟩

theorem colEnd {w W w3 : World} {t e k g' g3 c3 : Nat} {f : Nat → List Value} {v0 x : Value} {o2 : Obj} (hb3 : w3.heap[w.heap.size]? = some (.cells #[v0] t (0, 0))) (hx : Ext [] w W) (hx3 : Ext [g'] (W.alloc o2) w3) (hg : w.heap.size < g') (hbl : w.heap.size < W.heap.size) (hg3 : g3 = g' ∨ (W.alloc o2).heap.size ≤ g3)
    (hgc : W.heap.size ≤ g' ∨ ∃ o : Obj, W.heap[g']? = some o ∧ o.isCells = true) (hr3 : Row w3 g3 e 1 (.slice (some ⟨g3, 0, none⟩) (k + 1) c3) (k + 1) (f k ++ [x])) (hf : f (k + 1) = f k ++ [x]) :
    KeptB (w.heap.size + 1) W (w3.setCell ⟨w.heap.size, 0, none⟩ (.slice (some ⟨g3, 0, none⟩) (k + 1) c3)) ∧ ColI w w.heap.size t e f (k + 1) (w3.setCell ⟨w.heap.size, 0, none⟩ (.slice (some ⟨g3, 0, none⟩) (k + 1) c3)) := by
  have hx1 : Ext [g'] W w3 := ((Ext.refl [g'] W).alloc o2).trans hx3
  have hx2 : Ext [g', w.heap.size] W (w3.setCell ⟨w.heap.size, 0, none⟩ (.slice (some ⟨g3, 0, none⟩) (k + 1) c3)) := (hx1.mono (by simp)).setCell (.inl (by simp)) _
  have hs := hx.size
  simp only [World.size_alloc] at hg3
  refine ⟨KeptB.of_ext2 hx2 (by simp only [List.mem_cons, List.not_mem_nil, or_false]; rintro y (rfl | rfl); exact .inr hgc; exact .inl (by omega)), g3, _, c3, one_setCell hb3, ?_, by omega, ?_⟩
  · rw [hf]
    exact hr3.ext (S := [w.heap.size]) ((Ext.refl _ w3).setCell (.inl (by simp)) _) (by simp; omega)
  · exact hx.step hx2 (by simp; omega)

set_option maxRecDepth 100000 in
set_option maxHeartbeats 1600000 in
theorem appendChunks (b1 b2 g o c n s : Nat) (w : World) (hs : 1 ≤ s) (hs2 : s ≤ 65536) (hn : n ≤ 4194304) (hnc : n ≤ c)
    (hb1 : w.cell? ⟨b1, 0, none⟩ = some (.slice (some ⟨g, o, none⟩) n c)) (hb2 : w.cell? ⟨b2, 0, none⟩ = some (.int .i64 s)) :
    Calls Tryz.prog 143 #[.slice none 0 0, .func (.func 144) #[] #[.pointer (some ⟨b1, 0, none⟩), .pointer (some ⟨b2, 0, none⟩)]] w fun e w' => ∃ g' v', e = .returned v' ∧
      Row w' g' 104 1 v' (nCh n s) (chs (.slice (some ⟨g, o, none⟩) n c) n s (nCh n s)) ∧ w.heap.size ≤ g' ∧ Ext [] w w' := by
  refine (callsIn_wide (n := 3)).1 ?_
  refine callsIn_of_wp_marks Tryz.func143 rfl trivial ?_ rfl
  simp only [Tryz.ntmps143, List.size_toArray, List.length_cons, List.length_nil, Nat.reduceAdd, Nat.reduceSub, Array.replicate_succ, Array.replicate_zero, List.push_toArray, List.append_toArray, List.nil_append, List.cons_append]
  gi_wp2_with fail
  generalize hv : Value.slice (some ⟨g, o, none⟩) n c = v at *
  have hx0 : Ext [] w (w.alloc (.cells #[.slice none 0 0] 107)) := (Ext.refl [] w).alloc _
  refine wpIn_range (gf := 144) (lb := #[.pointer (some ⟨b1, 0, none⟩), .pointer (some ⟨b2, 0, none⟩)]) rfl (enters_of Tryz.func144 (by kernel_rfl) rfl) (nCh n s) (fun k => #[chV v n s k]) (fun _ => rfl)
    (ColI w w.heap.size 107 104 (chs v n s)) (ColI w w.heap.size 107 104 (chs v n s))
    (fun k W l o o' h1 h2 h3 h4 => h4.put (by simp at h1; omega) h2 h3 o') (fun k W l o o' h1 h2 h3 h4 => h4.put (by simp at h1; omega) h2 h3 o')
    (fun o o' => ⟨w.heap.size + 1, none, 0, ((Ext.refl [] _).alloc o').keep (((Ext.refl [] _).alloc o).keep (heap_alloc_new w _) (by simp)) (by simp), .nil, by omega, (hx0.alloc _).alloc _⟩)
    (fun k => { tmps := #[.slice none 0 0, .func (.func 144) #[] #[.pointer (some ⟨b1, 0, none⟩), .pointer (some ⟨b2, 0, none⟩)], .pointer (some ⟨w.heap.size, 0, none⟩), undef, .slice none 0 0, chV v n s k, .func (.func 144) #[] #[.pointer (some ⟨b1, 0, none⟩), .pointer (some ⟨b2, 0, none⟩)], chV v n s k, undef, undef, undef, undef, undef], defers := [] }) ?hit ?assign ?body ?done
  case hit =>
    rintro l rec W1 hrc hl h0 hbk hY
    subst hv
    refine (chunk_it 2 l b1 b2 g o c n s (fun k W => ColI w w.heap.size 107 104 (chs (.slice (some ⟨g, o, none⟩) n c) n s) k W ∧ Book (w.alloc (Obj.cells #[Value.slice none 0 0] 107)).heap.size l rec W) (fun k W => ColI w w.heap.size 107 104 (chs (.slice (some ⟨g, o, none⟩) n c) n s) k W ∧ Book (w.alloc (Obj.cells #[Value.slice none 0 0] 107)).heap.size l rec W) hs hs2 hn hnc ?_ ?_ ?_ W1 ⟨h0, hbk⟩).mono ?_
    · rintro k W ⟨⟨_, _, _, _, _, _, hx⟩, _⟩
      exact ⟨hx.cell hb1 (by simp), hx.cell hb2 (by simp)⟩
    · rintro k W j ⟨h1, h2⟩
      exact ⟨h1.drewN j, h2⟩
    · rintro k W hk ⟨h1, h2⟩
      exact (hY k W hk h1 h2).mono (fun e w h => ⟨h.1, h.2⟩)
    · rintro e W' ⟨h1, h2⟩
      exact ⟨h1, h2⟩
  case assign =>
    intro l k W K hK
    gi_wp2
    exact hK
  case body =>
    rintro l k W ⟨g', A, c', hb, hr, hg, hx⟩ hk
    have hkN : k ≤ 4194304 := by have := (nCh_lt hs).1 hk; have := Nat.le_mul_of_pos_right k hs; omega
    obtain ⟨Ak, nk, ck, hch⟩ : ∃ Ak nk ck, chV v n s k = .slice Ak nk ck := ⟨_, _, _, by rw [← hv]; rfl⟩
    have hsc := chs_succ v n s k
    rw [hch] at hsc ⊢
    have HS := Lib.hid hsc; clear hsc hch
    have hc := cell_of_one hb
    obtain ⟨g', hr, hg, hgc⟩ := hr.other hg (lt_of_block hb)
    have HG := Lib.hid hgc; clear hgc
    have hn1 := Row.new W 104 1 #[.slice Ak nk ck] 1 1 (by omega) (by simp [maxLen]) rfl
    have hr1 := hr.ext ((Ext.refl [] W).alloc (.cells #[.slice Ak nk ck] 104)) (by simp)
    have hbl := lt_of_block hb
    have hnm : w.heap.size ∉ [g'] := by simp; omega
    gi_wp2_with (with_reducible refine wpListIn_append' T107 rfl (.tmp 8) (.tmp 10) rfl rfl rfl hr1 hn1.vw (by simp [Value.oneCell']) (by omega) (by omega) ?_; rintro g3 A3 c3 w3 hr3 hx3 hg3 hA3 _ _; obtain rfl := hA3 (by omega); have hb3 := colKeep hb hnm hx3; have hc3 := cell_of_one hb3; have hf3 := frozen_of_one hb3)
    exact colEnd hb3 hx hx3 hg hbl hg3 HG.out hr3 HS.out
  case done =>
    rintro W ⟨g', A, c', hb, hr, hg, hx⟩ hD
    have hc := cell_of_one hb
    gi_wp2_with fail
    refine ⟨by simp, .inl ⟨_, _, rfl, run_takeDeferred hD, ?_⟩⟩
    rw [hv]
    exact ⟨_, results_tmp rfl _ _ _, g', _, rfl, hr.putObj hD rfl _, by omega, hx.putObj (by simp) _⟩

set_option maxHeartbeats 800000 in
theorem collectChunks (b1 b2 g o c n s : Nat) (w : World) (hs : 1 ≤ s) (hs2 : s ≤ 65536) (hn : n ≤ 4194304) (hnc : n ≤ c)
    (hb1 : w.cell? ⟨b1, 0, none⟩ = some (.slice (some ⟨g, o, none⟩) n c)) (hb2 : w.cell? ⟨b2, 0, none⟩ = some (.int .i64 s)) :
    Calls Tryz.prog 97 #[.func (.func 144) #[] #[.pointer (some ⟨b1, 0, none⟩), .pointer (some ⟨b2, 0, none⟩)]] w fun e w' => ∃ g' v', e = .returned v' ∧
      Row w' g' 104 1 v' (nCh n s) (chs (.slice (some ⟨g, o, none⟩) n c) n s (nCh n s)) ∧ w.heap.size ≤ g' ∧ Ext [] w w' := by
  go_enter Tryz.func97, Tryz.ntmps97
  go_wp2_with fail
  refine (appendChunks b1 b2 g o c n s w hs hs2 hn hnc hb1 hb2).mono ?_
  rintro e w1 ⟨g', v', rfl, hr, hg, hx⟩
  obtain ⟨A, c', rfl, _, _⟩ := hr.form
  go_wp2_with fail
  go_ret
  exact ⟨g', _, rfl, hr, hg, hx⟩
end Go.Proofs.YtfadbmfkidiaoaaGreatDoor
