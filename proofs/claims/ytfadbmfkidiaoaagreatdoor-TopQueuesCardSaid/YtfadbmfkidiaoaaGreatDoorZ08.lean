/- Deltas of maps as lists of changes: a plain law. -/
import Derived.Test.YtfadbmfkidiaoaaGreatDoorZ07
namespace Go.Proofs.YtfadbmfkidiaoaaGreatDoor
open Go
set_option linter.unusedSimpArgs false
set_option linter.unusedVariables false
set_option linter.unusedSectionVars false
set_option linter.unnecessarySimpa false

def eS : ByteArray := ⟨#[]⟩
structure Chg where
  key : ByteArray
  was : Bool
  is : Bool
  before : ByteArray
  after : ByteArray
def zC : Chg := ⟨eS, false, false, eS, eS⟩
def sameC (c : Chg) : Bool := (c.was == c.is) && decide (c.before = c.after)
def addC (p : ByteArray × ByteArray) : Chg := ⟨p.1, false, true, eS, p.2⟩
def ofL (l : Pairs) : List Chg := l.map addC
structure Ev where
  x : Chg
  y : Chg
  a : Bool
  b : Bool
/-- what comes of two lists in order -/
def bothL : List Chg → List Chg → List Ev
  | [], [] => []
  | a :: u, [] => ⟨a, zC, true, false⟩ :: bothL u []
  | [], b :: v => ⟨zC, b, false, true⟩ :: bothL [] v
  | a :: u, b :: v =>
    if klt a.key b.key then ⟨a, zC, true, false⟩ :: bothL u (b :: v)
    else if klt b.key a.key then ⟨zC, b, false, true⟩ :: bothL (a :: u) v
    else ⟨a, b, true, true⟩ :: bothL u v
termination_by a b => a.length + b.length
def mxS (a b : ByteArray) : ByteArray := if klt a b then b else a
def ofC (e : Ev) : Chg := ⟨mxS e.x.key e.y.key, e.a, e.b, e.x.after, e.y.after⟩
def ofStep (e : Ev) : Option Chg := if sameC (ofC e) then none else some (ofC e)
def deltaL (A B : Pairs) : List Chg := (bothL (ofL A) (ofL B)).filterMap ofStep
def togC (e : Ev) : Chg := ⟨e.x.key, e.x.was, e.y.is, e.x.before, e.y.after⟩
def togBad (e : Ev) : Bool := e.a && e.b && (e.x.is != e.y.was || decide (e.x.after ≠ e.y.before))
def togStep (e : Ev) : Option Chg :=
  if e.b = false then some e.x else if e.a = false then some e.y else if togBad e then none else if sameC (togC e) then none else some (togC e)
def togL (a b : List Chg) : List Chg := (bothL a b).filterMap togStep

theorem bothL_nil_left (b : List Chg) : bothL [] b = b.map fun y => ⟨zC, y, false, true⟩ := by
  induction b with
  | nil => simp [bothL]
  | cons y b ih => rw [bothL, ih]; rfl
theorem bothL_nil_right (a : List Chg) : bothL a [] = a.map fun x => ⟨x, zC, true, false⟩ := by
  induction a with
  | nil => simp [bothL]
  | cons x a ih => rw [bothL, ih]; rfl
theorem bothL_lt (x y : Chg) (a b : List Chg) (h : klt x.key y.key) : bothL (x :: a) (y :: b) = ⟨x, zC, true, false⟩ :: bothL a (y :: b) := by rw [bothL, if_pos h]
theorem bothL_gt (x y : Chg) (a b : List Chg) (h : klt y.key x.key) : bothL (x :: a) (y :: b) = ⟨zC, y, false, true⟩ :: bothL (x :: a) b := by rw [bothL, if_neg (klt_asymm h), if_pos h]
theorem bothL_eq (x y : Chg) (a b : List Chg) (h : x.key = y.key) : bothL (x :: a) (y :: b) = ⟨x, y, true, true⟩ :: bothL a b := by
  rw [bothL, if_neg (by rw [h]; exact klt_irrefl _), if_neg (by rw [h]; exact klt_irrefl _)]
theorem not_klt_e (a : ByteArray) : ¬ klt a eS := by unfold klt eS; simp
theorem mxS_left (a : ByteArray) : mxS a eS = a := if_neg (not_klt_e a)
theorem mxS_right (b : ByteArray) : mxS eS b = b := by
  unfold mxS
  by_cases h : klt eS b
  · rw [if_pos h]
  · rw [if_neg h]
    rcases b with ⟨⟨l⟩⟩
    cases l with
    | nil => rfl
    | cons x l => exact absurd (by unfold klt eS; simp) h
theorem mxS_self (a : ByteArray) : mxS a a = a := if_neg (klt_irrefl a)
def subC (p : ByteArray × ByteArray) : Chg := ⟨p.1, true, false, p.2, eS⟩
def chC (p q : ByteArray × ByteArray) : Chg := ⟨p.1, true, true, p.2, q.2⟩

theorem delta_nil_left (B : Pairs) : deltaL [] B = ofL B := by
  unfold deltaL ofL
  rw [List.map_nil, bothL_nil_left, List.map_map, List.filterMap_map]
  induction B with
  | nil => rfl
  | cons p B ih =>
    rw [List.filterMap_cons, ih]
    simp [ofStep, ofC, sameC, addC, zC, mxS_right, Function.comp]
theorem delta_nil_right (A : Pairs) : deltaL A [] = A.map subC := by
  unfold deltaL ofL
  rw [List.map_nil, bothL_nil_right, List.map_map, List.filterMap_map]
  induction A with
  | nil => rfl
  | cons p B ih =>
    rw [List.filterMap_cons, ih]
    simp [ofStep, ofC, sameC, addC, zC, subC, mxS_left, Function.comp]
theorem delta_lt (p q : ByteArray × ByteArray) (A B : Pairs) (h : klt p.1 q.1) : deltaL (p :: A) (q :: B) = subC p :: deltaL A (q :: B) := by
  unfold deltaL ofL
  rw [List.map_cons, List.map_cons, bothL_lt _ _ _ _ (by exact h), List.filterMap_cons]
  simp [ofStep, ofC, sameC, addC, zC, subC, mxS_left]
theorem delta_gt (p q : ByteArray × ByteArray) (A B : Pairs) (h : klt q.1 p.1) : deltaL (p :: A) (q :: B) = addC q :: deltaL (p :: A) B := by
  unfold deltaL ofL
  rw [List.map_cons, List.map_cons, bothL_gt _ _ _ _ (by exact h), List.filterMap_cons]
  simp [ofStep, ofC, sameC, addC, zC, mxS_right]
theorem delta_eq (p q : ByteArray × ByteArray) (A B : Pairs) (h : p.1 = q.1) : deltaL (p :: A) (q :: B) = (if p.2 = q.2 then [] else [chC p q]) ++ deltaL A B := by
  unfold deltaL ofL
  rw [List.map_cons, List.map_cons, bothL_eq _ _ _ _ (by exact h), List.filterMap_cons]
  by_cases e : p.2 = q.2
  · simp [ofStep, ofC, sameC, addC, e]
  · simp [ofStep, ofC, sameC, addC, e, chC, h, mxS_self]
theorem pairInd {P : Pairs → Pairs → Prop} (h0 : ∀ B, P [] B) (h1 : ∀ A, P A []) (lt : ∀ p q A B, klt p.1 q.1 → P A (q :: B) → P (p :: A) (q :: B)) (gt : ∀ p q A B, klt q.1 p.1 → P (p :: A) B → P (p :: A) (q :: B))
    (eq : ∀ p q A B, p.1 = q.1 → P A B → P (p :: A) (q :: B)) : ∀ A B, P A B := by
  intro A B
  generalize hn : A.length + B.length = n
  induction n using Nat.strongRecOn generalizing A B with
  | ind n ih =>
    cases A with
    | nil => exact h0 B
    | cons p A =>
      cases B with
      | nil => exact h1 _
      | cons q B =>
        simp only [List.length_cons] at hn
        by_cases h : klt p.1 q.1
        · exact lt p q A B h (ih _ (by simp only [List.length_cons]; omega) A (q :: B) rfl)
        · by_cases h' : klt q.1 p.1
          · exact gt p q A B h' (ih _ (by simp only [List.length_cons]; omega) (p :: A) B rfl)
          · have e : p.1 = q.1 := Classical.byContradiction fun hne => h' (klt_total h hne)
            exact eq p q A B e (ih _ (by omega) A B rfl)
/-- the keys of a delta are keys of one of both maps -/
theorem delta_key (A B : Pairs) : ∀ c ∈ deltaL A B, ∃ p, (p ∈ A ∨ p ∈ B) ∧ c.key = p.1 := by
  refine pairInd (P := fun A B => ∀ c ∈ deltaL A B, ∃ p, (p ∈ A ∨ p ∈ B) ∧ c.key = p.1) ?_ ?_ ?_ ?_ ?_ A B
  · intro B c hc
    rw [delta_nil_left] at hc
    obtain ⟨p, hp, rfl⟩ := List.mem_map.1 hc
    exact ⟨p, .inr hp, rfl⟩
  · intro A c hc
    rw [delta_nil_right] at hc
    obtain ⟨p, hp, rfl⟩ := List.mem_map.1 hc
    exact ⟨p, .inl hp, rfl⟩
  · intro p q A B h ih c hc
    rw [delta_lt _ _ _ _ h] at hc
    rcases List.mem_cons.1 hc with rfl | hc
    · exact ⟨p, .inl (by simp), rfl⟩
    · obtain ⟨r, hr, e⟩ := ih c hc
      exact ⟨r, hr.elim (fun h => .inl (by simp [h])) .inr, e⟩
  · intro p q A B h ih c hc
    rw [delta_gt _ _ _ _ h] at hc
    rcases List.mem_cons.1 hc with rfl | hc
    · exact ⟨q, .inr (by simp), rfl⟩
    · obtain ⟨r, hr, e⟩ := ih c hc
      exact ⟨r, hr.elim .inl (fun h => .inr (by simp [h])), e⟩
  · intro p q A B h ih c hc
    rw [delta_eq _ _ _ _ h] at hc
    rcases List.mem_append.1 hc with hc | hc
    · split at hc
      · simp at hc
      · simp at hc; subst hc; exact ⟨p, .inl (by simp), rfl⟩
    · obtain ⟨r, hr, e⟩ := ih c hc
      exact ⟨r, hr.elim (fun h => .inl (by simp [h])) (fun h => .inr (by simp [h])), e⟩
theorem delta_low {k : ByteArray} {A B : Pairs} (hA : ∀ p ∈ A, klt k p.1) (hB : ∀ p ∈ B, klt k p.1) : ∀ c ∈ deltaL A B, klt k c.key := fun c hc => by
  obtain ⟨p, hp, e⟩ := delta_key A B c hc
  rw [e]; exact hp.elim (hA p) (hB p)
theorem bothL_small (x : Chg) (a D : List Chg) (h : ∀ d ∈ D, klt x.key d.key) : bothL (x :: a) D = ⟨x, zC, true, false⟩ :: bothL a D := by
  cases D with
  | nil => rw [bothL]
  | cons d D => exact bothL_lt _ _ _ _ (h d (by simp))
theorem srt_cons {p : ByteArray × ByteArray} {l : Pairs} (h : Srt (p :: l)) : Srt l ∧ ∀ q ∈ l, klt p.1 q.1 := by
  have := List.pairwise_cons.1 h; exact ⟨this.2, this.1⟩
theorem srt_low {p q : ByteArray × ByteArray} {l : Pairs} (h : Srt (q :: l)) (hp : klt p.1 q.1) : ∀ r ∈ q :: l, klt p.1 r.1 := fun r hr => by
  rcases List.mem_cons.1 hr with rfl | hr
  · exact hp
  · exact klt_trans hp ((srt_cons h).2 r hr)
/-- the delta behind the delta from no pairs -/
theorem tog_delta (A B : Pairs) : Srt A → Srt B → togL (ofL A) (deltaL A B) = ofL B ∧ ∀ e ∈ bothL (ofL A) (deltaL A B), togBad e = false := by
  refine pairInd (P := fun A B => Srt A → Srt B → togL (ofL A) (deltaL A B) = ofL B ∧ ∀ e ∈ bothL (ofL A) (deltaL A B), togBad e = false) ?_ ?_ ?_ ?_ ?_ A B
  · intro B _ _
    rw [delta_nil_left]
    unfold togL
    rw [show ofL [] = [] from rfl, bothL_nil_left]
    constructor
    · rw [List.filterMap_map]
      have : (togStep ∘ fun y => (⟨zC, y, false, true⟩ : Ev)) = some := by funext y; rfl
      rw [this, List.filterMap_some]
    · intro e he
      obtain ⟨y, _, rfl⟩ := List.mem_map.1 he
      rfl
  · intro A _ _
    rw [delta_nil_right]
    have h : ∀ A : Pairs, bothL (ofL A) (A.map subC) = A.map fun p => ⟨addC p, subC p, true, true⟩ := by
      intro A
      induction A with
      | nil => simp [ofL, bothL]
      | cons p A ih => rw [List.map_cons, show ofL (p :: A) = addC p :: ofL A from rfl, bothL_eq (addC p) (subC p) _ _ rfl, ih]; rfl
    unfold togL
    rw [h]
    constructor
    · rw [List.filterMap_map]
      have : (togStep ∘ fun p => (⟨addC p, subC p, true, true⟩ : Ev)) = fun _ => none := by
        funext p; simp [togStep, togBad, togC, sameC, addC, subC, Function.comp]
      rw [this]
      simp [ofL]
    · intro e he
      obtain ⟨y, _, rfl⟩ := List.mem_map.1 he
      simp [togBad, addC, subC]
  · intro p q A B h ih hA hB
    obtain ⟨hA1, hA2⟩ := srt_cons hA
    obtain ⟨i1, i2⟩ := ih hA1 hB
    rw [delta_lt _ _ _ _ h, show ofL (p :: A) = addC p :: ofL A from rfl]
    unfold togL at i1 ⊢
    rw [bothL_eq (addC p) (subC p) _ _ rfl]
    constructor
    · rw [List.filterMap_cons, i1]
      simp [togStep, togBad, togC, sameC, addC, subC]
    · intro e he
      rcases List.mem_cons.1 he with rfl | he
      · simp [togBad, addC, subC]
      · exact i2 e he
  · intro p q A B h ih hA hB
    obtain ⟨hB1, hB2⟩ := srt_cons hB
    obtain ⟨i1, i2⟩ := ih hA hB1
    rw [delta_gt _ _ _ _ h, show ofL (p :: A) = addC p :: ofL A from rfl]
    rw [show ofL (p :: A) = addC p :: ofL A from rfl] at i1 i2
    unfold togL at i1 ⊢
    rw [bothL_gt (addC p) (addC q) _ _ h]
    constructor
    · rw [List.filterMap_cons, i1]
      rfl
    · intro e he
      rcases List.mem_cons.1 he with rfl | he
      · rfl
      · exact i2 e he
  · intro p q A B h ih hA hB
    obtain ⟨hA1, hA2⟩ := srt_cons hA
    obtain ⟨hB1, hB2⟩ := srt_cons hB
    obtain ⟨i1, i2⟩ := ih hA1 hB1
    rw [delta_eq _ _ _ _ h, show ofL (p :: A) = addC p :: ofL A from rfl]
    have hq : addC p = ⟨q.1, false, true, eS, p.2⟩ := by unfold addC; rw [h]
    by_cases e : p.2 = q.2
    · rw [if_pos e, List.nil_append]
      unfold togL at i1 ⊢
      rw [bothL_small (addC p) (ofL A) _ (delta_low (k := p.1) hA2 (fun r hr => by rw [h]; exact hB2 r hr))]
      constructor
      · rw [List.filterMap_cons, i1]
        show addC p :: ofL B = addC q :: ofL B
        rw [hq, e]; rfl
      · intro e he
        rcases List.mem_cons.1 he with rfl | he
        · rfl
        · exact i2 e he
    · rw [if_neg e]
      unfold togL at i1 ⊢
      rw [List.singleton_append, bothL_eq (addC p) (chC p q) _ _ rfl]
      have hb : togBad ⟨addC p, chC p q, true, true⟩ = false := by simp [togBad, addC, chC]
      constructor
      · rw [List.filterMap_cons, i1]
        have : togStep ⟨addC p, chC p q, true, true⟩ = some (addC q) := by
          unfold togStep
          rw [hb]
          simp [togC, sameC, addC, chC, h]
        rw [this]; rfl
      · intro e he
        rcases List.mem_cons.1 he with rfl | he
        · exact hb
        · exact i2 e he
/-- what a change of a delta is like -/
structure OkC (c : Chg) : Prop where
  k1 : 1 ≤ c.key.size
  k2 : c.key.size ≤ 24
  b : c.before.size ≤ 40
  a : c.after.size ≤ 40
  wn : c.was = false → c.before = eS
  isn : c.is = false → c.after = eS
  ns : sameC c = false
def VldL (l : List Chg) : Prop := (l.Pairwise fun c d => klt c.key d.key) ∧ ∀ c ∈ l, OkC c
def OkP (p : ByteArray × ByteArray) : Prop := 1 ≤ p.1.size ∧ p.1.size ≤ 24 ∧ p.2.size ≤ 40
theorem okC_add {p : ByteArray × ByteArray} (h : OkP p) : OkC (addC p) := ⟨h.1, h.2.1, by show (0 : Nat) ≤ 40; omega, h.2.2, fun _ => rfl, fun h => (by cases h), rfl⟩
theorem okC_sub {p : ByteArray × ByteArray} (h : OkP p) : OkC (subC p) := ⟨h.1, h.2.1, h.2.2, by show (0 : Nat) ≤ 40; omega, fun h => (by cases h), fun _ => rfl, rfl⟩
theorem delta_ok (A B : Pairs) : (∀ p ∈ A, OkP p) → (∀ p ∈ B, OkP p) → ∀ c ∈ deltaL A B, OkC c := by
  refine pairInd (P := fun A B => (∀ p ∈ A, OkP p) → (∀ p ∈ B, OkP p) → ∀ c ∈ deltaL A B, OkC c) ?_ ?_ ?_ ?_ ?_ A B
  · intro B _ hB c hc
    rw [delta_nil_left] at hc
    obtain ⟨p, hp, rfl⟩ := List.mem_map.1 hc
    exact okC_add (hB p hp)
  · intro A hA _ c hc
    rw [delta_nil_right] at hc
    obtain ⟨p, hp, rfl⟩ := List.mem_map.1 hc
    exact okC_sub (hA p hp)
  · intro p q A B h ih hA hB c hc
    rw [delta_lt _ _ _ _ h] at hc
    rcases List.mem_cons.1 hc with rfl | hc
    · exact okC_sub (hA p (by simp))
    · exact ih (fun r hr => hA r (by simp [hr])) hB c hc
  · intro p q A B h ih hA hB c hc
    rw [delta_gt _ _ _ _ h] at hc
    rcases List.mem_cons.1 hc with rfl | hc
    · exact okC_add (hB q (by simp))
    · exact ih hA (fun r hr => hB r (by simp [hr])) c hc
  · intro p q A B h ih hA hB c hc
    rw [delta_eq _ _ _ _ h] at hc
    rcases List.mem_append.1 hc with hc | hc
    · split at hc
      · simp at hc
      · next hne =>
        simp at hc; subst hc
        have h1 := hA p (by simp)
        have h2 := hB q (by simp)
        exact ⟨h1.1, h1.2.1, h1.2.2, h2.2.2, fun h => (by cases h), fun h => (by cases h), by simp [sameC, chC, hne]⟩
    · exact ih (fun r hr => hA r (by simp [hr])) (fun r hr => hB r (by simp [hr])) c hc
theorem delta_srt (A B : Pairs) : Srt A → Srt B → (deltaL A B).Pairwise fun c d => klt c.key d.key := by
  refine pairInd (P := fun A B => Srt A → Srt B → (deltaL A B).Pairwise fun c d => klt c.key d.key) ?_ ?_ ?_ ?_ ?_ A B
  · intro B _ hB
    rw [delta_nil_left]
    exact List.pairwise_map.2 hB
  · intro A hA _
    rw [delta_nil_right]
    exact List.pairwise_map.2 hA
  · intro p q A B h ih hA hB
    obtain ⟨hA1, hA2⟩ := srt_cons hA
    rw [delta_lt _ _ _ _ h, List.pairwise_cons]
    exact ⟨delta_low (k := p.1) hA2 (srt_low hB h), ih hA1 hB⟩
  · intro p q A B h ih hA hB
    obtain ⟨hB1, hB2⟩ := srt_cons hB
    rw [delta_gt _ _ _ _ h, List.pairwise_cons]
    exact ⟨delta_low (k := q.1) (srt_low hA h) hB2, ih hA hB1⟩
  · intro p q A B h ih hA hB
    obtain ⟨hA1, hA2⟩ := srt_cons hA
    obtain ⟨hB1, hB2⟩ := srt_cons hB
    rw [delta_eq _ _ _ _ h]
    have hi := ih hA1 hB1
    have hl := delta_low (k := p.1) hA2 (fun r hr => by rw [h]; exact hB2 r hr)
    split
    · exact hi
    · rw [List.singleton_append, List.pairwise_cons]
      exact ⟨hl, hi⟩
theorem delta_vld {A B : Pairs} (hA : Srt A) (hB : Srt B) (oA : ∀ p ∈ A, OkP p) (oB : ∀ p ∈ B, OkP p) : VldL (deltaL A B) := ⟨delta_srt A B hA hB, delta_ok A B oA oB⟩
theorem ofL_vld {B : Pairs} (hB : Srt B) (oB : ∀ p ∈ B, OkP p) : VldL (ofL B) := by
  have := delta_vld (A := []) .nil hB (by simp) oB
  rwa [delta_nil_left] at this
theorem delta_len (A B : Pairs) : (deltaL A B).length ≤ A.length + B.length := by
  refine pairInd (P := fun A B => (deltaL A B).length ≤ A.length + B.length) ?_ ?_ ?_ ?_ ?_ A B
  · intro B; rw [delta_nil_left]; simp [ofL]
  · intro A; rw [delta_nil_right]; simp
  · intro p q A B h ih; rw [delta_lt _ _ _ _ h]; simp only [List.length_cons] at ih ⊢; omega
  · intro p q A B h ih; rw [delta_gt _ _ _ _ h]; simp only [List.length_cons] at ih ⊢; omega
  · intro p q A B h ih; rw [delta_eq _ _ _ _ h]; split <;> simp only [List.length_append, List.length_cons, List.length_nil] at ih ⊢ <;> omega
end Go.Proofs.YtfadbmfkidiaoaaGreatDoor
