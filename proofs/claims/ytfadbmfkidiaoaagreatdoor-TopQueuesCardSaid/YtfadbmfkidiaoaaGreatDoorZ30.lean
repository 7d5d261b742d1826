/- Rows of things that take several cells each; changes in memory. Jobs in memory. The pairs of a table of jobs with an index: a plain law. -/
import Derived.Test.YtfadbmfkidiaoaaGreatDoorZ29
namespace Go.Proofs.YtfadbmfkidiaoaaGreatDoor
open Go.RowKit Go
set_option linter.unusedSimpArgs false
set_option linter.unusedVariables false
set_option linter.unusedSectionVars false
set_option linter.unnecessarySimpa false

theorem Vw.headU {w : World} {g e sz n m c : Nat} {A : Option Addr} {cs : List Value} (h : Vw w g e sz (.slice A m c) n cs) (h0 : 0 < n) : ∃ o, A = some ⟨g, o, none⟩ := by
  rcases h.split with ⟨_, h0, _⟩ | ⟨o, c', h1, _⟩
  · omega
  · injection h1 with h1 _ _; exact ⟨o, h1⟩
section
variable {α : Type} (f : α → List Value) (k : Nat) (hk : ∀ a, (f a).length = k)
include hk
theorem fm_len (l : List α) : (l.flatMap f).length = l.length * k := by
  induction l with
  | nil => simp
  | cons a l ih => rw [List.flatMap_cons, List.length_append, ih, hk, List.length_cons, Nat.succ_mul]; omega
theorem fm_get (l : List α) (i : Nat) (h : i < l.length) (j : Nat) (hj : j < k) : (l.flatMap f)[i * k + j]? = (f l[i])[j]? := by
  induction l generalizing i with
  | nil => simp at h
  | cons a l ih =>
    rw [List.flatMap_cons]
    cases i with
    | zero => rw [Nat.zero_mul, Nat.zero_add, List.getElem?_append_left (by rw [hk]; exact hj)]; rfl
    | succ i =>
      have e : (i + 1) * k + j = (f a).length + (i * k + j) := by rw [hk, Nat.succ_mul]; omega
      rw [e, List.getElem?_append_right (by omega)]
      have := ih i (by simpa using h)
      rw [Nat.add_sub_cancel_left, this]; rfl
theorem Vw.fm {w : World} {g e o n c : Nat} {l : List α} (h : Vw w g e k (.slice (some ⟨g, o, none⟩) n c) n (l.flatMap f)) (hl : l.length = n) (i : Nat) (hi : i < n) (j : Nat) (hj : j < k) (v : Value) (hv : (f (l[i]'(by omega)))[j]? = some v) : w.cell? ⟨g, o + i * k + j, none⟩ = some v := by
  cases h with
  | at_ hl' hn hc hcell hty =>
    have := hcell (i * k + j) v (by rw [fm_get f k hk l i (by omega) j hj]; exact hv)
    rwa [← Nat.add_assoc] at this
theorem Vw.fmlen {w : World} {g e n : Nat} {v : Value} {l : List α} (h : Vw w g e k v n (l.flatMap f)) (hk0 : 0 < k) : l.length = n := by
  have := h.len; rw [fm_len f k hk] at this; exact Nat.eq_of_mul_eq_mul_right hk0 this
end
/-- the cells of a change -/
def cgC (c : Chg) : List Value := [.string c.key, .bool c.was, .bool c.is, .string c.before, .string c.after]
def cgV (c : Chg) : Value := .agg #[.string c.key, .bool c.was, .bool c.is, .string c.before, .string c.after]
theorem cgC_len (c : Chg) : (cgC c).length = 5 := rfl
def ccs (l : List Chg) : List Value := l.flatMap cgC
theorem ccs_app (l m : List Chg) : ccs (l ++ m) = ccs l ++ ccs m := by simp [ccs]
theorem ccs_len (l : List Chg) : (ccs l).length = l.length * 5 := fm_len cgC 5 cgC_len l
theorem ccs_one (l : List Chg) : ∀ u ∈ ccs l, u.oneCell' = true := by
  intro u hu
  simp only [ccs, List.mem_flatMap] at hu
  obtain ⟨c, _, hc⟩ := hu
  simp only [cgC, List.mem_cons, List.not_mem_nil, or_false] at hc
  rcases hc with rfl | rfl | rfl | rfl | rfl <;> rfl
theorem bless (a b : ByteArray) : Op.bytesLess a.toList b.toList = decide (klt a b) := by
  rw [Proofs.bytesLess_eq, Lib.toList_data, Lib.toList_data]; rfl
theorem bleq (a b : ByteArray) : (Op.bytesLess a.toList b.toList || a.toList == b.toList) = !decide (klt b a) := by
  rw [bless, Lib.toList_data, Lib.toList_data, Bool.eq_iff_iff]
  simp only [Bool.or_eq_true, decide_eq_true_eq, beq_iff_eq, Bool.not_eq_true', decide_eq_false_iff_not]
  constructor
  · rintro (h | h)
    · exact klt_asymm h
    · rw [ba_ext h]; exact klt_irrefl _
  · intro h
    by_cases e : b = a
    · right; rw [e]
    · left; exact klt_total h e
theorem take_filter {α : Type} (l : List α) (p : α → Bool) (i : Nat) (h : i < l.length) : (l.take (i + 1)).filter p = (l.take i).filter p ++ (if p l[i] then [l[i]] else []) := by
  rw [List.take_add_one, List.getElem?_eq_getElem h, List.filter_append]
  congr 1
  simp only [Option.toList_some, List.filter_cons, List.filter_nil]
end Go.Proofs.YtfadbmfkidiaoaaGreatDoor

namespace Go.Proofs.YtfadbmfkidiaoaaGreatDoor
open Go.RowKit Go Go.MapKept
set_option linter.unusedSimpArgs false
set_option linter.unusedVariables false
set_option linter.unusedSectionVars false
set_option linter.unnecessarySimpa false

theorem jC_len (j : Jb) : (jC j).length = 7 := rfl
def jcs (l : List Jb) : List Value := l.flatMap jC
theorem jcs_app (l m : List Jb) : jcs (l ++ m) = jcs l ++ jcs m := by simp [jcs]
theorem jcs_len (l : List Jb) : (jcs l).length = l.length * 7 := fm_len jC 7 jC_len l
theorem jcs_one (l : List Jb) : ∀ u ∈ jcs l, u.oneCell' = true := by
  intro u hu
  simp only [jcs, List.mem_flatMap] at hu
  obtain ⟨c, _, hc⟩ := hu
  simp only [jC, List.mem_cons, List.not_mem_nil, or_false] at hc
  rcases hc with rfl | rfl | rfl | rfl | rfl | rfl | rfl <;> rfl
end Go.Proofs.YtfadbmfkidiaoaaGreatDoor

namespace Go.Proofs.YtfadbmfkidiaoaaGreatDoor
open Go.RowKit Go Go.MapKept
set_option linter.unusedSimpArgs false
set_option linter.unusedVariables false
set_option linter.unusedSectionVars false
set_option linter.unnecessarySimpa false

theorem srt_same {A B : Pairs} (hA : Srt A) (hB : Srt B) (h : ∀ p, p ∈ A ↔ p ∈ B) : A = B := by
  induction A generalizing B with
  | nil =>
    cases B with
    | nil => rfl
    | cons b B => exact absurd ((h b).2 (List.mem_cons_self ..)) (by simp)
  | cons a A ih =>
    cases B with
    | nil => exact absurd ((h a).1 (List.mem_cons_self ..)) (by simp)
    | cons b B =>
      obtain ⟨a1, a2⟩ := srt_c hA
      obtain ⟨b1, b2⟩ := srt_c hB
      have hab : a = b := by
        rcases List.mem_cons.1 ((h a).1 (List.mem_cons_self ..)) with e | e
        · exact e
        · rcases List.mem_cons.1 ((h b).2 (List.mem_cons_self ..)) with e' | e'
          · exact e'.symm
          · exact absurd (b2 a e) (klt_asymm (a2 b e'))
      subst hab
      rw [ih a1 b1 fun p => ?_]
      constructor
      · intro hp
        rcases List.mem_cons.1 ((h p).1 (List.mem_cons_of_mem _ hp)) with e | e
        · subst e; exact absurd (a2 _ hp) (klt_irrefl _)
        · exact e
      · intro hp
        rcases List.mem_cons.1 ((h p).2 (List.mem_cons_of_mem _ hp)) with e | e
        · subst e; exact absurd (b2 _ hp) (klt_irrefl _)
        · exact e
/-- whether a key is in a span -/
def selK (lo hi : ByteArray) (k : ByteArray) : Bool := !decide (klt k lo) && decide (klt k hi)
theorem bl_klt (a b : ByteArray) : klt a b ↔ bl a < bl b := Iff.rfl
theorem sel_byte {K lo hi : ByteArray} {h n m : UInt8} {t : List UInt8} (hK : bl K = h :: t) (hf : bl lo = [n]) (ht : bl hi = [m]) (hm : m.toNat = n.toNat + 1) : selK lo hi K = decide (h = n) := by
  unfold selK
  simp only [bl_klt, hK, hf, ht, List.cons_lt_cons_iff, List.not_lt_nil, and_false, or_false]
  rw [Bool.eq_iff_iff]
  simp only [Bool.and_eq_true, Bool.not_eq_true', decide_eq_false_iff_not, decide_eq_true_eq, UInt8.lt_iff_toNat_lt, ← UInt8.toNat_inj]
  omega
def ixC (j : Jb) : List Cl := cU j.who :: kJ j
def ixK (j : Jb) : ByteArray := keyB 2 (ixC j)
theorem valB_nil : valB [] = eS := rfl
theorem ixC_bytes (j : Jb) : csB (ixC j) = uB j.who ++ csB (kJ j) := by simp [csB, ixC, clB_u]
theorem keyJ_bl (j : Jb) : bl (keyJ j) = 1 :: csB (kJ j) := by unfold keyJ; rw [keyB_bl]; rfl
theorem ixK_bl (j : Jb) : bl (ixK j) = 2 :: (uB j.who ++ csB (kJ j)) := by unfold ixK; rw [keyB_bl, ixC_bytes]; rfl
theorem ixK_keyJ (i j : Jb) : ixK i ≠ keyJ j := by
  intro h
  have : bl (ixK i) = bl (keyJ j) := by rw [h]
  rw [ixK_bl, keyJ_bl] at this
  exact absurd (List.cons.inj this).1 (by decide)
theorem ixK_inj {i j : Jb} (hi : OkJ i) (hj : OkJ j) (h : ixK i = ixK j) : i.id = j.id := by
  have e : bl (ixK i) = bl (ixK j) := by rw [h]
  rw [ixK_bl, ixK_bl] at e
  have e1 := (List.cons.inj e).2
  have h1 := hi.who
  have h2 := hj.who
  obtain ⟨_, e2⟩ := uB_pre (by omega) (by omega) e1
  refine keyJ_inj hi hj ?_
  refine ba_ext ?_
  show bl _ = bl _
  rw [keyJ_bl, keyJ_bl, e2]
theorem ixK_who {i j : Jb} (hi : OkJ i) (h : klt (ixK i) (ixK j)) : i.who ≤ j.who := by
  rw [bl_klt, ixK_bl, ixK_bl, List.cons_lt_cons_iff] at h
  have h1 := hi.who
  rcases h with h | ⟨_, h⟩
  · exact absurd h (by decide)
  · exact uB_le (by omega) h
theorem ixC_len {j : Jb} (h : OkJ j) (hw : j.who ≤ 3) (ht : j.till ≤ 60000) : (csB (ixC j)).length ≤ 23 := by
  have h1 := uB_len (n := j.st) (k := 1) (by have := h.st; omega)
  have h2 := uB_len (n := ordJ j) (k := 2) (by have := ordJ_le h; omega)
  have h3 := uB_len (n := j.id) (k := 2) (by have := h.id; omega)
  have h4 := uB_len (n := j.who) (k := 1) (by omega)
  rw [ixC_bytes, kJ_bytes]; simp only [List.length_append]; omega
def two (p : ByteArray × ByteArray) : Bool := decide ((bl p.1).head? = some 2)
theorem two_k (j : Jb) (v : ByteArray) : two (keyJ j, v) = false := by unfold two; rw [keyJ_bl]; simp
theorem two_i (j : Jb) (v : ByteArray) : two (ixK j, v) = true := by unfold two; rw [ixK_bl]; simp
theorem two_put {D : Pairs} {k v : ByteArray} (hh : has D k = false) : ((putL D k v).filter two).length = (D.filter two).length + if two (k, v) then 1 else 0 := by
  have : (D.filter two).length = ((D.take (rk D k)).filter two).length + ((D.drop (rk D k)).filter two).length := by
    rw [← List.length_append, ← List.filter_append, List.take_append_drop]
  unfold putL
  rw [hh, if_neg (by simp)]
  unfold ins
  rw [List.filter_append, List.length_append, List.filter_cons, this]
  split <;> simp <;> omega
/-- the pairs of a table of the jobs js with an index over who has them -/
structure IX (D : Pairs) (js : List Jb) : Prop where
  srt : Srt D
  mem : ∀ p, p ∈ D ↔ ∃ j ∈ js, p = (keyJ j, valJ j) ∨ p = (ixK j, eS)
  cnt : (D.filter two).length = js.length
  len : D.length = 2 * js.length
  ok : ∀ j ∈ js, OkJ j ∧ j.who ≤ 3
theorem IX.nil : IX [] [] := ⟨by simp [Srt], by simp, rfl, rfl, by simp⟩
def ixPut (D : Pairs) (j : Jb) : Pairs := putL (putL D (keyJ j) (valJ j)) (ixK j) eS
theorem IX.no {D : Pairs} {js : List Jb} (h : IX D js) {j : Jb} (hj : OkJ j) (hn : ∀ i ∈ js, i.id ≠ j.id) : has D (keyJ j) = false ∧ has D (ixK j) = false ∧ has (putL D (keyJ j) (valJ j)) (ixK j) = false := by
  have h1 : ∀ p ∈ D, p.1 ≠ keyJ j := by
    rintro p hp he
    obtain ⟨i, hi, rfl | rfl⟩ := (h.mem p).1 hp
    · exact hn i hi (keyJ_inj (h.ok i hi).1 hj he)
    · exact ixK_keyJ i j he
  have h2 : ∀ p ∈ D, p.1 ≠ ixK j := by
    rintro p hp he
    obtain ⟨i, hi, rfl | rfl⟩ := (h.mem p).1 hp
    · exact ixK_keyJ j i he.symm
    · exact hn i hi (ixK_inj (h.ok i hi).1 hj he)
  refine ⟨?_, ?_, ?_⟩
  · rw [← Bool.not_eq_true, has_mem h.srt]; rintro ⟨v, hv⟩; exact h1 _ hv rfl
  · rw [← Bool.not_eq_true, has_mem h.srt]; rintro ⟨v, hv⟩; exact h2 _ hv rfl
  · rw [← Bool.not_eq_true, has_mem (srt_put h.srt _ _)]
    rintro ⟨v, hv⟩
    rcases (mem_put h.srt _ _ _).1 hv with e | ⟨e, _⟩
    · exact ixK_keyJ j j (Prod.mk.inj e).1
    · exact h2 _ e rfl
theorem IX.put {D : Pairs} {js : List Jb} (h : IX D js) {j : Jb} (hj : OkJ j) (hw : j.who ≤ 3) (hn : ∀ i ∈ js, i.id ≠ j.id) : IX (ixPut D j) (js ++ [j]) := by
  obtain ⟨n1, n2, n3⟩ := h.no hj hn
  have s1 := srt_put h.srt (keyJ j) (valJ j)
  have m0 : ∀ p, p ∈ ixPut D j ↔ p = (ixK j, eS) ∨ p = (keyJ j, valJ j) ∨ p ∈ D := by
    intro p
    unfold ixPut
    rw [mem_put s1, mem_put h.srt]
    constructor
    · rintro (e | ⟨e | ⟨e, _⟩, _⟩)
      · exact .inl e
      · exact .inr (.inl e)
      · exact .inr (.inr e)
    · rintro (e | e | e)
      · exact .inl e
      · exact .inr ⟨.inl e, by rw [e]; exact fun e => ixK_keyJ j j e.symm⟩
      · refine .inr ⟨.inr ⟨e, fun e2 => ?_⟩, fun e2 => ?_⟩
        · rw [← Bool.not_eq_true, has_mem h.srt] at n1
          exact n1 ⟨p.2, by rw [← e2]; exact e⟩
        · rw [← Bool.not_eq_true, has_mem h.srt] at n2
          exact n2 ⟨p.2, by rw [← e2]; exact e⟩
  refine ⟨srt_put s1 _ _, fun p => ?_, ?_, ?_, fun i hi => ?_⟩
  · rw [m0, h.mem]
    constructor
    · rintro (e | e | ⟨i, hi, e⟩)
      · exact ⟨j, by simp, .inr e⟩
      · exact ⟨j, by simp, .inl e⟩
      · exact ⟨i, by simp [hi], e⟩
    · rintro ⟨i, hi, e⟩
      rcases List.mem_append.1 hi with hi | hi
      · exact .inr (.inr ⟨i, hi, e⟩)
      · simp at hi; subst hi
        rcases e with e | e
        · exact .inr (.inl e)
        · exact .inl e
  · unfold ixPut
    rw [two_put n3, two_put n1, two_k, two_i, h.cnt]; simp
  · unfold ixPut
    rw [putL_len n3, putL_len n1, h.len, List.length_append]; simp; omega
  · rcases List.mem_append.1 hi with hi | hi
    · exact h.ok i hi
    · simp at hi; subst hi; exact ⟨hj, hw⟩
theorem IX.look {D : Pairs} {js : List Jb} (h : IX D js) {j : Jb} (hj : j ∈ js) : has D (keyJ j) = true ∧ look D (keyJ j) = valJ j := by
  have hm : (keyJ j, valJ j) ∈ D := (h.mem _).2 ⟨j, hj, .inl rfl⟩
  exact ⟨(has_mem h.srt _).2 ⟨_, hm⟩, look_mem h.srt hm⟩
/-- the rows' pairs are the queue's -/
theorem IX.rows {D : Pairs} {js : List Jb} (h : IX D js) (hs : Srt (js.map fun j => (keyJ j, valJ j))) : D.filter (fun p => selK ⟨#[1]⟩ ⟨#[2]⟩ p.1) = js.map fun j => (keyJ j, valJ j) := by
  refine srt_same (List.Pairwise.filter _ h.srt) hs fun p => ?_
  rw [List.mem_filter, h.mem, List.mem_map]
  constructor
  · rintro ⟨⟨j, hj, rfl | rfl⟩, hp⟩
    · exact ⟨j, hj, rfl⟩
    · rw [sel_byte (ixK_bl j) (n := 1) (m := 2) rfl rfl rfl] at hp
      exact absurd hp (by decide)
  · rintro ⟨j, hj, rfl⟩
    exact ⟨⟨j, hj, .inl rfl⟩, by rw [sel_byte (keyJ_bl j) (n := 1) (m := 2) rfl rfl rfl]; rfl⟩
/-- the index's pairs come by who has them -/
theorem IX.by_ {D : Pairs} {js : List Jb} (h : IX D js) : ∃ is : List Jb, D.filter (fun p => selK ⟨#[2]⟩ ⟨#[3]⟩ p.1) = is.map (fun j => (ixK j, eS)) ∧ is.length = js.length ∧ (∀ j ∈ is, j ∈ js) ∧ is.Pairwise fun i j => i.who ≤ j.who := by
  have key : ∀ l : Pairs, (∀ p ∈ l, ∃ j ∈ js, p = (ixK j, eS)) → ∃ is : List Jb, l = is.map (fun j => (ixK j, eS)) ∧ ∀ j ∈ is, j ∈ js := by
    intro l
    induction l with
    | nil => intro _; exact ⟨[], rfl, by simp⟩
    | cons p l ih =>
      intro hl
      obtain ⟨is, h1, h2⟩ := ih fun q hq => hl q (List.mem_cons_of_mem _ hq)
      obtain ⟨j, h3, h5⟩ := hl p (List.mem_cons_self ..)
      refine ⟨j :: is, by rw [h5, h1]; rfl, fun x hx => ?_⟩
      rcases List.mem_cons.1 hx with rfl | hx
      · exact h3
      · exact h2 x hx
  have hf : D.filter (fun p => selK ⟨#[2]⟩ ⟨#[3]⟩ p.1) = D.filter two := by
    refine List.filter_congr fun p hp => ?_
    obtain ⟨j, hj, rfl | rfl⟩ := (h.mem p).1 hp
    · rw [sel_byte (keyJ_bl j) (n := 2) (m := 3) rfl rfl rfl, two_k]; rfl
    · rw [sel_byte (ixK_bl j) (n := 2) (m := 3) rfl rfl rfl, two_i]; rfl
  obtain ⟨is, h1, h2⟩ := key (D.filter (fun p => selK ⟨#[2]⟩ ⟨#[3]⟩ p.1)) fun p hp => by
    rw [hf, List.mem_filter, h.mem] at hp
    obtain ⟨⟨j, hj, rfl | rfl⟩, h3⟩ := hp
    · rw [two_k] at h3; cases h3
    · exact ⟨j, hj, rfl⟩
  have hl : is.length = js.length := by
    have := congrArg List.length h1
    rw [hf, h.cnt, List.length_map] at this; exact this.symm
  refine ⟨is, h1, hl, h2, ?_⟩
  have hs : Srt (is.map fun j => (ixK j, eS)) := by rw [← h1]; exact List.Pairwise.filter _ h.srt
  unfold Srt at hs
  rw [List.pairwise_map] at hs
  exact List.Pairwise.imp_of_mem (fun {a b} ha _ hab => ixK_who (h.ok a (h2 a ha)).1 hab) hs
end Go.Proofs.YtfadbmfkidiaoaaGreatDoor
