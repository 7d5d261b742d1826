/- Two givers and what they have given, in memory. -/
import Derived.Test.YtfadbmfkidiaoaaGreatDoorN1
import Derived.Test.YtfadbmfkidiaoaaGreatDoorE7
namespace Go.Proofs.YtfadbmfkidiaoaaGreatDoor
open Go.RowKit Go

def ints (l : List Nat) : List Value := l.map fun (n : Nat) => .int .i64 n
abbrev nilS : Value := .slice none 0 0

structure NS (base : Nat) (w : World) (b gm : Nat) (bg r : Bool → Nat) (gg gl gn : Nat) (gk : Bool → Nat) (v : Bool → Value) (sz : Bool → Nat) (f : Bool → Option Nat) (L : Bool → Lf) (gv : Bool → List Nat) (lost : Bool → Nat) : Prop where
  nd : [b, bg false, bg true, r false, r true, gg, gl].Nodup
  nm : gm ∉ [bg false, bg true, r false, r true, gg, gl, gk false, gk true]
  nk : ∀ k, gk k ∉ [b, bg false, bg true, r false, r true, gg, gl]
  kk : gk false ≠ gk true ∨ v false = nilS ∨ v true = nilS
  lo : ∀ x ∈ [b, gm, bg false, bg true, r false, r true, gg, gl, gk false, gk true], base ≤ x
  hi : ∀ x ∈ [b, gm, bg false, bg true, r false, r true, gg, gl, gk false, gk true], x < w.heap.size
  mdl : Mdl w b gm (mpF f)
  gvs : ∀ s, Gv w (bg s) (r s) (sz s) (L s)
  gt : w.heap[gg]? = some (.cells #[v false, v true] 41 (0, 0))
  rw : ∀ k, Row w (gk k) 3 1 (v k) (gv k).length (ints (gv k))
  lt : w.heap[gl]? = some (.cells #[.int .i64 (lost false : Nat), .int .i64 (lost true : Nat)] 3 (0, 0))
  nn : gn ∉ [b, gm, r false, r true, gg, gl]
  nnk : ∀ k, gn ≠ gk k ∨ v k = nilS
  nlt : gn < w.heap.size
  nb : w.heap[gn]? = some (.cells #[.string kA, .string kB] 9 (0, 0))

section
variable {base : Nat} {w w' : World} {b gm : Nat} {bg r : Bool → Nat} {gg gl gn : Nat} {gk : Bool → Nat} {v : Bool → Value} {sz : Bool → Nat} {f f' : Bool → Option Nat} {L : Bool → Lf} {gv : Bool → List Nat} {lost : Bool → Nat}

/-- a giver and the map change -/
theorem NS.model (h : NS base w b gm bg r gg gl gn gk v sz f L gv lost) (s : Bool) {S : List Nat} (hx : Ext S w w') (hS : ∀ x ∈ S, x = b ∨ x = gm ∨ x = r s) {F : Lf} (hg : Gv w' (bg s) (r s) (sz s) F) {gm' : Nat} (hm : Mdl w' b gm' (mpF f')) (hgm : gm' = gm ∨ w.heap.size ≤ gm') :
    NS base w' b gm' bg r gg gl gn gk v sz f' (upd L s F) gv lost := by
  obtain ⟨h1, h2, h3, h4, h5, h6, h7, h8, h9, h10, h11, h12, h13, h14, h15⟩ := h
  have q6 := h6
  have q5 := h5
  simp only [List.mem_cons, List.not_mem_nil, or_false, forall_eq_or_imp, forall_eq] at q6 q5
  have hsz := hx.size
  have hbs : base ≤ w.heap.size := by have := h5 b (by simp); have := h6 b (by simp); omega
  have hml := hm.lt
  refine ⟨h1, ?_, h3, h4, ?_, ?_, hm, ?_, ?_, ?_, ?_, ?_, h13, by omega, hx.keep h15 ?_⟩
  · have := h3 false; have := h3 true; clear h8 h10 hg hm h7 hx h9 h11 hS; grind
  · clear h8 h10 hg hm h7 hx h9 h11 hS; grind
  · clear h8 h10 hg hm h7 hx h9 h11 hS; grind
  · intro j
    by_cases e : j = s
    · subst e; rw [upd_same]; exact hg
    · rw [upd_other _ _ _ _ e]
      have e' := other_ne e
      refine (h8 j).ext hx (fun hm => ?_) (fun hm => ?_)
      · have := hS _ hm; clear h8 h10 hg h7 hx h9 h11 hS hm; subst e'; cases s <;> grind
      · have := hS _ hm; clear h8 h10 hg h7 hx h9 h11 hS hm; subst e'; cases s <;> grind
  · exact hx.keep h9 (fun hm => by have := hS _ hm; clear h8 h10 hg h7 hx h9 h11 hS hm; cases s <;> grind)
  · intro k
    exact (h10 k).ext hx (fun hm => by have := hS _ hm; have := h3 k; clear h8 h10 hg h7 hx h9 h11 hS hm; cases s <;> cases k <;> grind)
  · exact hx.keep h11 (fun hm => by have := hS _ hm; clear h8 h10 hg h7 hx h9 h11 hS hm; cases s <;> grind)
  · clear h1 h2 h3 h5 h6 h8 h10 hg hm h7 hx h9 h11 hS h15; simp only [List.mem_cons, List.not_mem_nil, or_false, not_or] at h12 ⊢; omega
  · intro hm; have := hS _ hm; clear h1 h2 h3 h5 h6 h8 h10 hg hm h7 hx h9 h11 hS h15; simp only [List.mem_cons, List.not_mem_nil, or_false, not_or] at h12 ⊢; cases s <;> omega
/-- the map is another one -/
theorem NS.carry (h : NS base w b gm bg r gg gl gn gk v sz f L gv lost) (hx : Ext [] w w') {b' gm' : Nat} (hm : Mdl w' b' gm' (mpF f')) (hb : w.heap.size ≤ b') (hgm : w.heap.size ≤ gm') :
    NS base w' b' gm' bg r gg gl gn gk v sz f' L gv lost := by
  obtain ⟨h1, h2, h3, h4, h5, h6, h7, h8, h9, h10, h11, h12, h13, h14, h15⟩ := h
  have q6 := h6
  have q5 := h5
  simp only [List.mem_cons, List.not_mem_nil, or_false, forall_eq_or_imp, forall_eq] at q6 q5
  have hsz := hx.size
  have hbs : base ≤ w.heap.size := by have := h5 b (by simp); have := h6 b (by simp); omega
  have hml := hm.lt
  have hbl : b' < w'.heap.size := by obtain ⟨⟨v, hb, _⟩, _⟩ := hm; exact lt_of_block hb
  refine ⟨?_, ?_, ?_, h4, ?_, ?_, hm, fun s => (h8 s).ext hx (by simp) (by simp), hx.keep h9 (by simp), fun k => (h10 k).ext hx (by simp), hx.keep h11 (by simp), ?_, h13, by omega, hx.keep h15 (by simp)⟩
  · rw [List.nodup_cons] at h1 ⊢; clear h5 h6 h8 h10 hm h7 hx h9 h11; refine ⟨?_, h1.2⟩; simp only [List.mem_cons, List.not_mem_nil, or_false]; omega
  · clear h8 h10 hm h7 hx h9 h11; grind
  · intro k; have := h3 k; clear h8 h10 hm h7 hx h9 h11; cases k <;> grind
  · clear h8 h10 hm h7 hx h9 h11; grind
  · clear h8 h10 hm h7 hx h9 h11; grind
  · clear h1 h2 h3 h5 h6 h8 h10 hm h7 hx h9 h11 h15; simp only [List.mem_cons, List.not_mem_nil, or_false, not_or] at h12 ⊢; omega
theorem NS.ext0 (h : NS base w b gm bg r gg gl gn gk v sz f L gv lost) (hx : Ext [] w w') : NS base w' b gm bg r gg gl gn gk v sz f L gv lost := by
  obtain ⟨h1, h2, h3, h4, h5, h6, h7, h8, h9, h10, h11, h12, h13, h14, h15⟩ := h
  have q6 := h6
  have q5 := h5
  simp only [List.mem_cons, List.not_mem_nil, or_false, forall_eq_or_imp, forall_eq] at q6 q5
  have hsz := hx.size
  exact ⟨h1, h2, h3, h4, h5, fun x hx => Nat.lt_of_lt_of_le (h6 x hx) hsz, h7.ext hx (by simp) (by simp), fun s => (h8 s).ext hx (by simp) (by simp), hx.keep h9 (by simp), fun k => (h10 k).ext hx (by simp), hx.keep h11 (by simp), h12, h13, by omega, hx.keep h15 (by simp)⟩
/-- the count of what is lost -/
theorem NS.setLost (h : NS base w b gm bg r gg gl gn gk v sz f L gv lost) (k : Bool) (n : Nat) : NS base (w.setCell ⟨gl, k.toNat, none⟩ (.int .i64 n)) b gm bg r gg gl gn gk v sz f L gv (upd lost k n) := by
  obtain ⟨h1, h2, h3, h4, h5, h6, h7, h8, h9, h10, h11, h12, h13, h14, h15⟩ := h
  have q6 := h6
  have q5 := h5
  simp only [List.mem_cons, List.not_mem_nil, or_false, forall_eq_or_imp, forall_eq] at q6 q5
  have hx : Ext [gl] w (w.setCell ⟨gl, k.toNat, none⟩ (.int .i64 n)) := (Ext.refl _ w).setCell (.inl (by simp)) _
  have hsz := hx.size
  refine ⟨h1, h2, h3, h4, h5, fun x hx => Nat.lt_of_lt_of_le (h6 x hx) hsz, h7.ext hx ?_ ?_, fun s => (h8 s).ext hx ?_ ?_, hx.keep h9 ?_, fun k => (h10 k).ext hx ?_, ?_, h12, h13, by omega, hx.keep h15 ?_⟩
  · clear h8 h10 h7 hx h9 h11; grind
  · clear h8 h10 h7 hx h9 h11; grind
  · clear h8 h10 h7 hx h9 h11; cases s <;> grind
  · clear h8 h10 h7 hx h9 h11; cases s <;> grind
  · clear h8 h10 h7 hx h9 h11; grind
  · have := h3 k; clear h8 h10 h7 hx h9 h11; cases k <;> grind
  · rw [heap_setCell_same w gl k.toNat _ 3 _ h11]
    cases k <;> rfl
  · simp at h12 ⊢; omega
/-- the room of a list of numbers: what append may touch -/
theorem NS.room (h : NS base w b gm bg r gg gl gn gk v sz f L gv lost) (k : Bool) : ∃ g0, Row w g0 3 1 (v k) (gv k).length (ints (gv k)) ∧ (g0 = gk k ∨ w.heap.size ≤ g0) ∧ (g0 = gk k → v k ≠ nilS) := by
  rcases (h.rw k).split with ⟨e1, e2, e3⟩ | ⟨c, cur, e1, _⟩
  · exact ⟨w.heap.size, by rw [e1, e2, e3]; exact .nil, .inr (Nat.le_refl _), fun e => by have := h.hi (gk k) (by cases k <;> simp); omega⟩
  · exact ⟨gk k, h.rw k, .inl rfl, fun _ => by rw [e1]; simp⟩
/-- a number is behind the others -/
theorem NS.push (h : NS base w b gm bg r gg gl gn gk v sz f L gv lost) (k : Bool) {g0 g9 x : Nat} {v9 : Value} (hg0 : g0 = gk k ∨ w.heap.size ≤ g0) (hgn : g0 = gk k → v k ≠ nilS) (hx : Ext [g0] w w') (hr : Row w' g9 3 1 v9 ((gv k).length + 1) (ints (gv k) ++ [.int .i64 x])) (hg9 : g9 = g0 ∨ w.heap.size ≤ g9) (hl9 : g9 < w'.heap.size) :
    NS base (w'.setCell ⟨gg, k.toNat, none⟩ v9) b gm bg r gg gl gn (upd gk k g9) (upd v k v9) sz f L (upd gv k (gv k ++ [x])) lost := by
  obtain ⟨h1, h2, h3, h4, h5, h6, h7, h8, h9, h10, h11, h12, h13, h14, h15⟩ := h
  have q6 := h6
  have q5 := h5
  simp only [List.mem_cons, List.not_mem_nil, or_false, forall_eq_or_imp, forall_eq] at q6 q5
  have hx2 : Ext [gg] w' (w'.setCell ⟨gg, k.toNat, none⟩ v9) := (Ext.refl _ w').setCell (.inl (by simp)) _
  have hs1 := hx.size
  have hs2 := hx2.size
  have hbs : base ≤ w.heap.size := by have := h5 b (by simp); have := h6 b (by simp); omega
  have hnil : v9 ≠ nilS := fun e => by
    rcases hr.split with ⟨_, e2, _⟩ | ⟨c, cur, e1, _⟩
    · omega
    · rw [e] at e1; cases e1
  have hg9k : g9 = gk k ∨ w.heap.size ≤ g9 := by omega
  refine ⟨h1, ?_, ?_, ?_, ?_, ?_, (h7.ext hx ?_ ?_).ext hx2 ?_ ?_, fun s => ((h8 s).ext hx ?_ ?_).ext hx2 ?_ ?_, ?_, ?_, hx2.keep (hx.keep h11 ?_) ?_, h12, ?_, by omega, hx2.keep (hx.keep h15 ?_) ?_⟩
  · have := h3 k; clear h8 h10 h7 hx hx2 h9 h11 hr h4; cases k <;> simp only [upd, if_true, Bool.false_eq_true, Bool.true_eq_false, if_false] <;> grind
  · intro j; have := h3 k; have := h3 j; clear h5 h6 h8 h10 h7 hx hx2 h9 h11 hr h4; cases k <;> cases j <;> simp only [upd, if_true, Bool.false_eq_true, Bool.true_eq_false, if_false] <;> grind
  · rcases hg9k with e | e
    · have e0 : g0 = gk k := by have := h6 (gk k) (by cases k <;> simp); omega
      have := hgn e0
      clear h8 h10 h7 hx hx2 h9 h11 hr; cases k <;> simp only [upd, if_true, Bool.false_eq_true, Bool.true_eq_false, if_false] <;> grind
    · left
      clear h8 h10 h7 hx hx2 h9 h11 hr; cases k <;> simp only [upd, if_true, Bool.false_eq_true, Bool.true_eq_false, if_false] <;> grind
  · clear h1 h2 h3 h5 h6 h8 h10 h7 hx hx2 h9 h11 hr h4; cases k <;> simp only [upd, if_true, Bool.false_eq_true, Bool.true_eq_false, if_false, List.mem_cons, List.not_mem_nil, or_false, forall_eq_or_imp, forall_eq] <;> omega
  · clear h1 h2 h3 h5 h6 h8 h10 h7 hx hx2 h9 h11 hr h4; cases k <;> simp only [upd, if_true, Bool.false_eq_true, Bool.true_eq_false, if_false, List.mem_cons, List.not_mem_nil, or_false, forall_eq_or_imp, forall_eq] <;> omega
  · have := h3 k; clear h8 h10 h7 hx hx2 h9 h11 hr h4; cases k <;> grind
  · have := h3 k; clear h8 h10 h7 hx hx2 h9 h11 hr h4; cases k <;> grind
  · clear h8 h10 h7 hx hx2 h9 h11 hr h4; grind
  · clear h8 h10 h7 hx hx2 h9 h11 hr h4; grind
  · have := h3 k; clear h8 h10 h7 hx hx2 h9 h11 hr h4; cases k <;> cases s <;> grind
  · have := h3 k; clear h8 h10 h7 hx hx2 h9 h11 hr h4; cases k <;> cases s <;> grind
  · clear h8 h10 h7 hx hx2 h9 h11 hr h4; cases s <;> grind
  · clear h8 h10 h7 hx hx2 h9 h11 hr h4; cases s <;> grind
  · have h9' := hx.keep h9 (by have := h3 k; clear h8 h10 h7 hx hx2 h9 h11 hr h4; cases k <;> grind)
    rw [heap_setCell_same w' gg k.toNat _ 41 _ h9']
    cases k <;> rfl
  · intro j
    by_cases e : j = k
    · subst e
      simp only [upd_same]
      rw [List.length_append]
      have e2 : ints (gv j ++ [x]) = ints (gv j) ++ [.int .i64 x] := by simp [ints]
      rw [e2]
      exact hr.ext hx2 (by have := h3 j; have := h6 gg (by simp); clear h8 h10 h7 hx hx2 h9 h11 hr h4; cases j <;> grind)
    · rw [upd_other _ _ _ _ e, upd_other _ _ _ _ e, upd_other _ _ _ _ e]
      have e' := other_ne e
      rcases (h10 j).split with ⟨q1, q2, q3⟩ | ⟨c, cur, q1, _, _, hb, _⟩
      · rw [q1, q2, q3]; exact .nil
      · refine ((h10 j).ext hx ?_).ext hx2 ?_
        · have q4 : v j ≠ nilS := by rw [q1]; simp
          have := h6 (gk j) (by cases j <;> simp)
          clear h8 h10 h7 hx hx2 h9 h11 hr
          cases j <;> cases k <;> simp at e' <;> grind
        · have := h3 j; clear h8 h10 h7 hx hx2 h9 h11 hr h4; cases j <;> grind
  · have := h3 k; clear h8 h10 h7 hx hx2 h9 h11 hr h4; cases k <;> grind
  · clear h8 h10 h7 hx hx2 h9 h11 hr h4; grind
  · intro j
    by_cases e : j = k
    · subst e; rw [upd_same, upd_same]; left
      have := h13 j
      rcases hg9k with e | e
      · have e0 : g0 = gk j := by have := h6 (gk j) (by cases j <;> simp); omega
        have := hgn e0
        rcases h13 j with h | h
        · omega
        · exact absurd h this
      · omega
    · rw [upd_other _ _ _ _ e, upd_other _ _ _ _ e]; exact h13 j
  · intro hm
    simp only [List.mem_cons, List.not_mem_nil, or_false] at hm
    rcases hg0 with e | e
    · rcases h13 k with h | h
      · omega
      · exact hgn e h
    · omega
  · clear h8 h10 h7 hx hx2 h9 h11 hr h4; simp only [List.mem_cons, List.not_mem_nil, or_false, not_or] at h12 ⊢; omega
end
end Go.Proofs.YtfadbmfkidiaoaaGreatDoor
