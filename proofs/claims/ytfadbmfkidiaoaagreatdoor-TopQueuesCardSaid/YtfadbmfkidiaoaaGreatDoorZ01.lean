/- The words of these proofs: what a call leaves as it was (Ext), a slice that is read (Vw), a slice that is owned (Row), and the laws of append and copy in these words. Strings in order, and a plain map as a list of pairs in order of their keys: where a key stands, what putting and deleting does. No program in sight. -/
import Derived.Test.YtfadbmfkidiaoaaGreatDoorProg
import Derived.WalkKit
import Derived.KernelRfl
import Derived.Deep.Draws
import Derived.Lib.Hide
import Derived.WalkSpells
import Derived.WalkLawsBesides
import Derived.BigQuiet
import Derived.Deep.QuietTactic
import Derived.Deep.DeepCutAuto
import Derived.Deep.RegionWith
import Derived.Deep.RegionHeld3
import Derived.StillTailTactics
import Derived.Lib.Bytealg
import Derived.Sort.Walk0
namespace Go.Proofs.YtfadbmfkidiaoaaGreatDoor
open Go.RowKit Go

theorem ret1 {a a' : Value} (h : a = a') : Ending.returned a = .returned a' := by rw [h]
theorem ret2 {a a' b b' : Value} (h : a = a') (k : b = b') : Ending.returned (.tuple #[a, b]) = .returned (.tuple #[a', b']) := by rw [h, k]
theorem ret3 {a a' b b' c c' : Value} (h : a = a') (k : b = b') (l : c = c') : Ending.returned (.tuple #[a, b, c]) = .returned (.tuple #[a', b', c']) := by rw [h, k, l]
theorem vb {a b : Bool} (h : a = b) : Value.bool a = .bool b := by rw [h]
theorem vi {k : IntKind} {a b : Int} (h : a = b) : Value.int k a = .int k b := by rw [h]
theorem vs {a b : ByteArray} (h : a = b) : Value.string a = .string b := by rw [h]

theorem str_ne {s : ByteArray} (h : 1 ≤ s.size) : s.toList.isEmpty = false := by
  rw [ByteArray.toList_eq]
  cases hl : s.data.toList with
  | nil => exact absurd (congrArg List.length hl) (by rw [Array.length_toList]; exact Nat.ne_of_gt h)
  | cons _ _ => rfl
/-- w' is w but for the blocks of S and new ones. -/
structure Ext (S : List Nat) (w w' : World) : Prop where
  os : w'.os = w.os
  tape : w'.tape = w.tape
  output : w'.output = w.output
  size : w.heap.size ≤ w'.heap.size
  block : ∀ k, k < w.heap.size → k ∉ S → w'.heap[k]? = w.heap[k]?

theorem Ext.refl (S : List Nat) (w : World) : Ext S w w := ⟨rfl, rfl, rfl, Nat.le_refl _, fun _ _ _ => rfl⟩

/-- a second step, which touches what the first may or what is new since -/
theorem Ext.step {S S2 : List Nat} {a b c : World} (h : Ext S a b) (k : Ext S2 b c) (hS : ∀ x ∈ S2, x ∈ S ∨ a.heap.size ≤ x) : Ext S a c :=
  ⟨k.os.trans h.os, k.tape.trans h.tape, k.output.trans h.output, Nat.le_trans h.size k.size, fun i hi hn =>
    (k.block i (Nat.lt_of_lt_of_le hi h.size) (fun hm => by rcases hS i hm with h1 | h1; exact hn h1; omega)).trans (h.block i hi hn)⟩

theorem Ext.trans {S : List Nat} {a b c : World} (h : Ext S a b) (k : Ext S b c) : Ext S a c := h.step k fun _ hx => .inl hx
theorem Ext.trans0 {S : List Nat} {a b c : World} (h : Ext S a b) (k : Ext [] b c) : Ext S a c := h.step k fun _ hx => by simp at hx
theorem Ext.mono {S S' : List Nat} {a b : World} (h : Ext S a b) (hS : ∀ x ∈ S, x ∈ S') : Ext S' a b :=
  ⟨h.os, h.tape, h.output, h.size, fun i hi hn => h.block i hi fun hm => hn (hS i hm)⟩
/-- what is new since the first world may be left out of the footprint -/
theorem Ext.fresh {S S' : List Nat} {a b : World} (h : Ext S a b) (hS : ∀ x ∈ S, x ∈ S' ∨ a.heap.size ≤ x) : Ext S' a b :=
  (Ext.refl S' a).step h hS
theorem Ext.alloc {S : List Nat} {a b : World} (h : Ext S a b) (o : Obj) : Ext S a (b.alloc o) :=
  h.trans ⟨rfl, rfl, rfl, by simp, fun k hk _ => Below.heap_alloc _ _ _ hk⟩
theorem Ext.drew {S : List Nat} {a b : World} (h : Ext S a b) : Ext S a b.drew := ⟨h.os, h.tape, h.output, h.size, h.block⟩
theorem Ext.drewN {S : List Nat} {a b : World} (h : Ext S a b) (n : Nat) : Ext S a (b.drewN n) := ⟨h.os, h.tape, h.output, h.size, h.block⟩
theorem Ext.setCell {S : List Nat} {a b : World} (h : Ext S a b) {p : Addr} (hp : p.block ∈ S ∨ a.heap.size ≤ p.block) (u : Value) : Ext S a (b.setCell p u) :=
  h.step (S2 := [p.block]) ⟨rfl, rfl, rfl, by simp [World.setCell], fun k _ hn => Below.heap_setCell _ _ _ _ (by simpa using hn)⟩ (by simpa using hp)
theorem Ext.below {a b : World} (h : Ext [] a b) : Below a.heap.size a b := ⟨h.os, h.tape, h.output, h.size, fun k hk => h.block k hk (by simp)⟩
theorem Ext.of_below {B : Nat} {a b : World} (h : Below B a b) (hB : a.heap.size ≤ B) : Ext [] a b := ⟨h.os, h.tape, h.output, h.size, fun k hk _ => h.block k (by omega)⟩
theorem Ext.keep {S : List Nat} {a b : World} (h : Ext S a b) {k : Nat} {o : Obj} (hk : a.heap[k]? = some o) (hn : k ∉ S) : b.heap[k]? = some o :=
  (h.block k (lt_of_block hk) hn).trans hk
theorem Ext.cell {S : List Nat} {a b : World} (h : Ext S a b) {p : Addr} {v : Value} (hc : a.cell? p = some v) (hn : p.block ∉ S) : b.cell? p = some v :=
  (World.cell?_of_block (h.block p.block (World.block_lt_of_cell? a p hc) hn)).trans hc
theorem Ext.heap_setBlock {S : List Nat} {a b : World} (h : Ext S a b) {k : Nat} (hk : k ∈ S ∨ a.heap.size ≤ k) (o : Obj) : Ext S a { b with heap := b.heap.setIfInBounds k o } :=
  h.step (S2 := [k]) ⟨rfl, rfl, rfl, by simp, fun i _ hn => by simp only [List.mem_singleton] at hn; simp [Ne.symm hn]⟩ (by simpa using hk)
theorem Ext.of_grown {b : World} {w : World} {row : Option Nat} (hg : w.grownBy b row) : Ext row.toList w b :=
  ⟨hg.os, hg.tape, hg.output, hg.size, fun k hk hn => hg.block k hk (fun e => hn (by simp [← e]))⟩

/-- A slice type of the program: its number t, its element's number e, how many cells and bytes an element has. -/
structure SlT (P : Program) (t e sz by_ : Nat) : Prop where
  ht : P.underlying t = some (.slice e)
  hi : ∃ i z, P.info? e = some i ∧ i.zero = some z ∧ i.size = sz ∧ i.bytes = by_ ∧ z.cells.size = sz
  hsz : 0 < sz

theorem slT_mk {P : Program} {t e sz by_ : Nat} {z : Value} (ht : P.underlying t = some (.slice e)) (h : (P.info? e).map (fun i => (i.zero, i.size, i.bytes)) = some (some z, sz, by_)) (hz : z.cells.size = sz) (h0 : 0 < sz) : SlT P t e sz by_ := by
  obtain ⟨i, hi, h1, h2, h3⟩ := info_parts h
  exact ⟨ht, ⟨i, z, hi, h1, h2, h3, hz⟩, h0⟩

/-- A slice that is read: nil, or n elements of type e (sz cells each) at o of block g, which are cs. -/
inductive Vw (w : World) (g e sz : Nat) : Value → Nat → List Value → Prop where
  | nil : Vw w g e sz (.slice none 0 0) 0 []
  | at_ {o n c : Nat} {cs : List Value} (hl : cs.length = n * sz) (hn : n ≤ c) (hc : c ≤ maxLen)
      (hcell : ∀ j v, cs[j]? = some v → w.cell? ⟨g, o + j, none⟩ = some v) (hty : 0 < n → ∃ cur fz, w.heap[g]? = some (.cells cur e fz)) : Vw w g e sz (.slice (some ⟨g, o, none⟩) n c) n cs

theorem Vw.len {w : World} {g e sz : Nat} {v : Value} {n : Nat} {cs : List Value} (h : Vw w g e sz v n cs) : cs.length = n * sz := by
  cases h with
  | nil => simp
  | at_ hl _ _ _ _ => exact hl
theorem Vw.lenMax {w : World} {g e sz : Nat} {v : Value} {n : Nat} {cs : List Value} (h : Vw w g e sz v n cs) : n ≤ 9223372036854775807 := by
  cases h with
  | nil => omega
  | at_ hl hn hc _ _ => simp only [maxLen] at hc; omega

theorem Vw.split {w : World} {g e sz : Nat} {v : Value} {n : Nat} {cs : List Value} (h : Vw w g e sz v n cs) :
    (v = .slice none 0 0 ∧ n = 0 ∧ cs = []) ∨ ∃ o c, v = .slice (some ⟨g, o, none⟩) n c ∧ n ≤ c ∧ c ≤ maxLen ∧ Vw w g e sz (.slice (some ⟨g, o, none⟩) n c) n cs := by
  cases h with
  | nil => exact .inl ⟨rfl, rfl, rfl⟩
  | at_ hl hn hc hcell hty => exact .inr ⟨_, _, rfl, hn, hc, .at_ hl hn hc hcell hty⟩
theorem Vw.ext {w w' : World} {g e sz : Nat} {v : Value} {n : Nat} {cs : List Value} {S : List Nat} (h : Vw w g e sz v n cs) (hx : Ext S w w') (hn : g ∉ S) : Vw w' g e sz v n cs := by
  cases h with
  | nil => exact .nil
  | at_ hl h1 h2 hc hty => exact .at_ hl h1 h2 (fun j v hj => hx.cell (hc j v hj) hn) (fun h0 => by obtain ⟨cur, fz, hb⟩ := hty h0; exact ⟨cur, fz, hx.keep hb hn⟩)

/-- A slice of one's own: nil, or n elements from the head of block g, with room for c. -/
inductive Row (w : World) (g e sz : Nat) : Value → Nat → List Value → Prop where
  | nil : Row w g e sz (.slice none 0 0) 0 []
  | at_ {n c : Nat} {cs : List Value} (cur : Array Value) (hl : cs.length = n * sz) (hn : n ≤ c) (hc : c ≤ maxLen)
      (hb : w.heap[g]? = some (.cells cur e (0, 0))) (hs : cur.size = c * sz) (ht : cur.toList.take (n * sz) = cs) : Row w g e sz (.slice (some ⟨g, 0, none⟩) n c) n cs

theorem Row.len {w : World} {g e sz : Nat} {v : Value} {n : Nat} {cs : List Value} (h : Row w g e sz v n cs) : cs.length = n * sz := by
  cases h with
  | nil => simp
  | at_ _ hl _ _ _ _ _ => exact hl

theorem Row.vw {w : World} {g e sz : Nat} {v : Value} {n : Nat} {cs : List Value} (h : Row w g e sz v n cs) : Vw w g e sz v n cs := by
  cases h with
  | nil => exact .nil
  | at_ cur hl hn hc hb hs ht =>
    refine .at_ hl hn hc (fun j v hj => ?_) (fun _ => ⟨cur, _, hb⟩)
    rw [cell_of_row w g (0 + j) cur e (0, 0) hb]
    rw [← ht, List.getElem?_take] at hj
    split at hj
    · simpa using hj
    · cases hj

theorem Row.ext {w w' : World} {g e sz : Nat} {v : Value} {n : Nat} {cs : List Value} {S : List Nat} (h : Row w g e sz v n cs) (hx : Ext S w w') (hn : g ∉ S) : Row w' g e sz v n cs := by
  cases h with
  | nil => exact .nil
  | at_ cur hl h1 h2 hb hs ht => exact .at_ cur hl h1 h2 (hx.keep hb hn) hs ht

theorem Row.split {w : World} {g e sz : Nat} {v : Value} {n : Nat} {cs : List Value} (h : Row w g e sz v n cs) :
    (v = .slice none 0 0 ∧ n = 0 ∧ cs = []) ∨ ∃ c cur, v = .slice (some ⟨g, 0, none⟩) n c ∧ n ≤ c ∧ c ≤ maxLen ∧ w.heap[g]? = some (.cells cur e (0, 0)) ∧ cur.size = c * sz ∧ cur.toList.take (n * sz) = cs := by
  cases h with
  | nil => exact .inl ⟨rfl, rfl, rfl⟩
  | at_ cur hl hn hc hb hs ht => exact .inr ⟨_, cur, rfl, hn, hc, hb, hs, ht⟩
/-- it is a slice value -/
theorem Row.form {w : World} {g e sz : Nat} {v : Value} {n : Nat} {cs : List Value} (h : Row w g e sz v n cs) : ∃ A c, v = .slice A n c ∧ (0 < n → A = some ⟨g, 0, none⟩) ∧ n ≤ c := by
  cases h with
  | nil => exact ⟨none, 0, rfl, by omega, by omega⟩
  | at_ cur hl hn _ _ _ _ => exact ⟨_, _, rfl, fun _ => rfl, hn⟩
theorem Vw.form {w : World} {g e sz : Nat} {v : Value} {n : Nat} {cs : List Value} (h : Vw w g e sz v n cs) : ∃ A c, v = .slice A n c ∧ n ≤ c := by
  cases h with
  | nil => exact ⟨none, 0, rfl, by omega⟩
  | at_ hl hn _ _ _ => exact ⟨_, _, rfl, hn⟩

theorem Row.isNil {w : World} {g e sz : Nat} {v : Value} {n : Nat} {cs : List Value} (h : Row w g e sz v n cs) : ∀ k c, v = .slice none k c → n = 0 ∧ k = 0 ∧ c = 0 := by
  cases h with
  | nil => intro k c h; injection h with h1 h2 h3; exact ⟨rfl, h2.symm, h3.symm⟩
  | at_ cur hl hn _ _ _ _ => intro k c h; injection h with h1; cases h1

/-- a block that has just been made is owned -/
theorem Row.new (w : World) (e sz : Nat) (cur : Array Value) (n c : Nat) (hn : n ≤ c) (hc : c ≤ maxLen) (hs : cur.size = c * sz) :
    Row (w.alloc (.cells cur e)) w.heap.size e sz (.slice (some ⟨w.heap.size, 0, none⟩) n c) n (cur.toList.take (n * sz)) :=
  .at_ cur (by rw [List.length_take, Array.length_toList, hs]; exact Nat.min_eq_left (Nat.mul_le_mul_right _ hn)) hn hc (heap_alloc_new w _) hs rfl

theorem zeroCells_size (z : Array Value) (n : Nat) : (Builtin.zeroCells z n).size = n * z.size := by simp [Builtin.zeroCells]

section
variable {P : Program} {w : World} {t e sz by_ : Nat}

/-- append, its run: the elements of a slice that is read behind those of a slice of one's own -/
theorem run_append (T : SlT P t e sz by_) (ty : TypeId) {g g2 n m : Nat} {s x : Value} {xs ys : List Value} (hr : Row w g e sz s n xs) (hv : Vw w g2 e sz x m ys)
    (h1 : ∀ u ∈ ys, u.oneCell' = true) (hb : (n + m) * by_ ≤ 140737488355328) (h63 : n + m ≤ 9223372036854775807) :
    ∃ g' v' w', (Builtin.append_ #[t, t] ty #[s, x]).run P w = .ok v' w' ∧ Row w' g' e sz v' (n + m) (xs ++ ys) ∧ Ext [g] w w' ∧ (g' = g ∨ w.heap.size ≤ g') ∧ (v' = .slice none 0 0 ↔ s = .slice none 0 0 ∧ m = 0) := by
  obtain ⟨ht, ⟨i, z, hi, hz, hsz, hby, hzs⟩, h0⟩ := T
  have hlen : (xs ++ ys).length = (n + m) * sz := by rw [List.length_append, hr.len, hv.len, Nat.add_mul]
  have hmx : n + m ≤ maxLen := by simp only [maxLen]; omega
  -- what a new block is
  have fresh : ∀ old, Row (w.drew.alloc (.cells (xs.toArray ++ ys.toArray ++ Builtin.zeroCells z.cells (grownCap w (n + m) old e - (n + m))) e)) w.heap.size e sz (.slice (some ⟨w.heap.size, 0, none⟩) (n + m) (grownCap w (n + m) old e)) (n + m) (xs ++ ys) := by
    intro old
    have hge := grownCap_ge w (n + m) old e
    refine .at_ _ hlen hge (grownCap_le_maxLen w (n + m) old e hmx) (heap_alloc_new w.drew _) ?_ ?_
    · simp only [Array.size_append, List.size_toArray, zeroCells_size, hzs, hr.len, hv.len, ← Nat.add_mul]
      congr 1; omega
    · simp only [Array.toList_append, List.append_assoc]
      rw [← List.append_assoc, ← hlen]
      exact List.take_left
  have hext : ∀ o, Ext [g] w (w.drew.alloc o) := fun o => (Ext.refl [g] w).drew.alloc o
  cases hv with
  | nil =>
    simp only [Nat.add_zero, List.append_nil]
    refine ⟨g, s, w, ?_, hr, Ext.refl _ _, .inl rfl, by simp⟩
    cases hr with
    | nil => simp [Builtin.append_, run_underlying ht, sizeOf, typeInfo, hi, Builtin.lenOf, Builtin.firstCells]
    | at_ cur hl hn hc hb' hs htk =>
      simp [Builtin.append_, run_underlying ht, sizeOf, typeInfo, hi, Builtin.lenOf, Builtin.firstCells, hn, storeCells]
  | at_ hl2 hn2 hc2 hcell hty =>
    rename_i o2 c2
    have hnews : ∀ j v, ys[j]? = some v → w.cell? ((⟨g2, o2, none⟩ : Addr).add j) = some v := fun j v hj => by rw [addr_add]; exact hcell j v hj
    cases hr with
    | nil =>
      by_cases hm : m = 0
      · subst hm
        have : ys = [] := List.eq_nil_of_length_eq_zero (by simpa using hl2)
        subst this
        refine ⟨g, .slice none 0 0, w, ?_, .nil, Ext.refl _ _, .inl rfl, by simp⟩
        simp [Builtin.append_, run_underlying ht, sizeOf, typeInfo, hi, Builtin.lenOf, Builtin.firstCells, loadCells, loadCellsFrom]
      · have hr' := run_append_nil (P := P) w t ty e i z ht hi hz ⟨g2, o2, none⟩ m c2 ys (by rw [hsz]; exact hl2) hnews (by omega) (by omega) (by rw [hby]; simp only [Nat.zero_add] at hb; omega)
        have hf := fresh 0
        simp only [Nat.zero_add, List.nil_append, Array.empty_append] at hf
        simp only [Nat.zero_add, List.nil_append]
        exact ⟨w.heap.size, _, _, hr', by simpa using hf, hext _, .inr (Nat.le_refl _), by simp [hm]⟩
    | at_ cur hl hn hc hb' hs htk =>
      rename_i c
      by_cases hroom : n + m ≤ c
      · have hfit : n * i.size + ys.length ≤ cur.size := by rw [hsz, hl2, hs, ← Nat.add_mul]; exact Nat.mul_le_mul_right _ hroom
        have hr' := run_append_room (P := P) w t ty e i ht hi g n c cur hb' ⟨g2, o2, none⟩ m c2 ys (by rw [hsz]; exact hl2) hnews h1 hroom hfit
        refine ⟨g, _, _, hr', .at_ _ hlen hroom hc (setRow_heap w g cur _ e _ hb') ?_ ?_, ?_, .inl rfl, by simp⟩
        · rw [hsz] at hfit ⊢
          simp only [List.size_toArray, List.length_append, List.length_take, List.length_drop, Array.length_toList]
          omega
        · rw [hsz, htk, ← hlen]
          exact List.take_left
        · exact ⟨rfl, rfl, rfl, by simp, fun k _ hk => setRow_other w g k _ (by simpa using hk)⟩
      · have holds : ∀ j u, xs[j]? = some u → w.cell? ((⟨g, 0, none⟩ : Addr).add j) = some u := fun j u hj => by
          rw [addr_add, cell_of_row w g (0 + j) cur e (0, 0) hb']
          rw [← htk, List.getElem?_take] at hj
          split at hj
          · simpa using hj
          · cases hj
        have hr' := run_append_grow (P := P) w t ty e i z ht hi hz ⟨g, 0, none⟩ n c xs (by rw [hsz]; exact hl) holds ⟨g2, o2, none⟩ m c2 ys (by rw [hsz]; exact hl2) hnews (by omega) (by omega) (growslice_fits (by omega) (by rw [hby]; exact hb))
        exact ⟨w.heap.size, _, _, hr', fresh c, hext _, .inr (Nat.le_refl _), by simp⟩
where
  addr_add {g o j : Nat} : (⟨g, o, none⟩ : Addr).add j = ⟨g, o + j, none⟩ := by unfold Addr.add; split <;> simp_all
end

section
variable {P : Program} {w : World} {t e sz by_ : Nat} {ops : Array Oper} {rest : List Oper} {o : Oper} {a : Act} {Q : Exit → Act → World → Prop}

/-- append in a walk -/
theorem wpList_append (T : SlT P t e sz by_) (hgd : o.guard = none) (sO xO : Operand)
    (ho : o.op = .call { callee := .builtin .append, args := #[sO, xO], argTypes := #[t, t] }) {g g2 n m : Nat} {s x : Value} {xs ys : List Value} (hs : a.eval sO = s) (hx : a.eval xO = x)
    (hr : Row w g e sz s n xs) (hv : Vw w g2 e sz x m ys) (h1 : ∀ u ∈ ys, u.oneCell' = true) (hb : (n + m) * by_ ≤ 140737488355328) (h63 : n + m ≤ 9223372036854775807)
    (h : ∀ (g' : Nat) (A' : Option Addr) (c' : Nat) (w' : World), Row w' g' e sz (.slice A' (n + m) c') (n + m) (xs ++ ys) → Ext [g] w w' → (g' = g ∨ w.heap.size ≤ g') → (0 < n + m → A' = some ⟨g', 0, none⟩) → n + m ≤ c' →
      (s ≠ .slice none 0 0 → A' ≠ none) → wpList P ops Q rest (a.put o.dst (.slice A' (n + m) c')) w') : wpList P ops Q (o :: rest) a w := by
  obtain ⟨g', v', w', hrun, h2, h3, h4, h5⟩ := run_append T o.type hr hv h1 hb h63
  refine wpList_plain hgd fun _ hK => ?_
  unfold Oper.wp execOp
  simp only [ho, resolve, invoke, builtin, Sem.run_bind, Sem.run_pure, Result.andThen_ok, List.map_toArray, List.map_cons, List.map_nil, hs, hx, hrun]
  obtain ⟨A, c, rfl, hA, hc⟩ := h2.form
  refine hK _ _ (h g' A c w' h2 h3 h4 hA hc fun hne hn => ?_)
  subst hn
  obtain ⟨e1, _, e3⟩ := h2.isNil _ _ rfl
  exact hne (h5.1 (by rw [e1, e3])).1
end
end Go.Proofs.YtfadbmfkidiaoaaGreatDoor

namespace Go.Proofs.YtfadbmfkidiaoaaGreatDoor
open Go
set_option linter.unusedSimpArgs false
set_option linter.unusedVariables false
set_option linter.unusedSectionVars false
set_option linter.unnecessarySimpa false

abbrev Pairs := List (ByteArray × ByteArray)

/-- a before b -/
def klt (a b : ByteArray) : Prop := a.data.toList < b.data.toList
instance (a b : ByteArray) : Decidable (klt a b) := by unfold klt; infer_instance
def cmpS (a b : ByteArray) : Int := Lib.compareBytes a.data.toList b.data.toList

theorem cb_lt : ∀ a b : List UInt8, (Lib.compareBytes a b < 0) ↔ a < b
  | [], [] => by simp [Lib.compareBytes]
  | [], _ :: _ => by simp [Lib.compareBytes]
  | _ :: _, [] => by simp [Lib.compareBytes]
  | a :: x, b :: y => by
    have ih := cb_lt x y
    rw [List.cons_lt_cons_iff]
    unfold Lib.compareBytes
    by_cases h1 : a < b
    · simp [h1]
    · by_cases h2 : b < a
      · have h3 : a ≠ b := fun e => by subst e; exact absurd h2 h1
        simp [h1, h2, h3]
      · have h3 : a = b := by
          have := UInt8.le_antisymm (UInt8.not_lt.1 h2) (UInt8.not_lt.1 h1); exact this
        subst h3
        simp [h1, ih]
theorem cb_eq : ∀ a b : List UInt8, (Lib.compareBytes a b = 0) ↔ a = b
  | [], [] => by simp [Lib.compareBytes]
  | [], _ :: _ => by simp [Lib.compareBytes]
  | _ :: _, [] => by simp [Lib.compareBytes]
  | a :: x, b :: y => by
    have ih := cb_eq x y
    unfold Lib.compareBytes
    by_cases h1 : a < b
    · have h3 : a ≠ b := fun e => by subst e; exact UInt8.lt_irrefl _ h1
      simp [h1, h3]
    · by_cases h2 : b < a
      · have h3 : a ≠ b := fun e => by subst e; exact absurd h2 h1
        simp [h1, h2, h3]
      · have h3 : a = b := by
          have := UInt8.le_antisymm (UInt8.not_lt.1 h2) (UInt8.not_lt.1 h1); exact this
        subst h3
        simp [h1, ih]

theorem cmpS_lt (a b : ByteArray) : cmpS a b < 0 ↔ klt a b := cb_lt _ _
theorem ba_ext {a b : ByteArray} (h : a.data.toList = b.data.toList) : a = b := by
  cases a; cases b; simp only [ByteArray.mk.injEq] at *; exact Array.ext' h
theorem cmpS_eq (a b : ByteArray) : cmpS a b = 0 ↔ a = b :=
  (cb_eq _ _).trans ⟨ba_ext, fun h => by rw [h]⟩
theorem klt_irrefl (a : ByteArray) : ¬ klt a a := by unfold klt; exact List.lt_irrefl _
theorem klt_trans {a b c : ByteArray} (h : klt a b) (k : klt b c) : klt a c := by unfold klt at *; exact List.lt_trans h k
theorem klt_asymm {a b : ByteArray} (h : klt a b) : ¬ klt b a := fun k => klt_irrefl _ (klt_trans h k)
theorem klt_total {a b : ByteArray} (h : ¬ klt a b) (k : a ≠ b) : klt b a := by
  unfold klt at *
  rcases List.le_total a.data.toList b.data.toList with h1 | h1
  · rcases List.le_iff_lt_or_eq.1 h1 with h2 | h2
    · exact absurd h2 h
    · exact absurd (ba_ext h2) k
  · rcases List.le_iff_lt_or_eq.1 h1 with h2 | h2
    · exact h2
    · exact absurd (ba_ext h2.symm) k

def kAt (l : Pairs) (i : Nat) : ByteArray := (l.getD i (ByteArray.empty, ByteArray.empty)).1
def vAt (l : Pairs) (i : Nat) : ByteArray := (l.getD i (ByteArray.empty, ByteArray.empty)).2

/-- in order, no key twice -/
def Srt (l : Pairs) : Prop := l.Pairwise fun p q => klt p.1 q.1

/-- how many keys stand before a key -/
def rk (l : Pairs) (k : ByteArray) : Nat := (l.takeWhile fun p => decide (klt p.1 k)).length
/-- is the key there? -/
def has (l : Pairs) (k : ByteArray) : Bool := decide (rk l k < l.length ∧ kAt l (rk l k) = k)

theorem rk_le (l : Pairs) (k : ByteArray) : rk l k ≤ l.length := by
  unfold rk; exact (List.takeWhile_sublist _).length_le
theorem kAt_eq (l : Pairs) (i : Nat) (h : i < l.length) : kAt l i = (l[i]).1 := by simp [kAt, h]
theorem vAt_eq (l : Pairs) (i : Nat) (h : i < l.length) : vAt l i = (l[i]).2 := by simp [vAt, h]

/-- the key at i is before k: fewer than .. -/
theorem rk_gt {l : Pairs} (hs : Srt l) {k : ByteArray} {i : Nat} (hi : i < l.length) (h : klt (kAt l i) k) : i < rk l k := by
  unfold rk
  induction l generalizing i with
  | nil => simp at hi
  | cons p l ih =>
    have hp := List.pairwise_cons.1 hs
    cases i with
    | zero => simp [kAt] at h; simp [List.takeWhile_cons, h]
    | succ i =>
      have hi' : i < l.length := by simpa using hi
      have hk : kAt (p :: l) (i + 1) = kAt l i := by simp [kAt]
      rw [hk] at h
      have h0 : klt p.1 k := klt_trans (by rw [kAt_eq l i hi']; exact hp.1 _ (List.getElem_mem hi')) h
      have := ih hp.2 hi' h
      simp [List.takeWhile_cons, h0]; omega
theorem rk_ge {l : Pairs} {k : ByteArray} {i : Nat} (h : ¬ klt (kAt l i) k) (hi : i < l.length) : rk l k ≤ i := by
  unfold rk
  induction l generalizing i with
  | nil => simp
  | cons p l ih =>
    cases i with
    | zero => simp [kAt] at h; simp [List.takeWhile_cons, h]
    | succ i =>
      have hk : kAt (p :: l) (i + 1) = kAt l i := by simp [kAt]
      rw [hk] at h
      have := ih h (by simpa using hi)
      by_cases h0 : klt p.1 k
      · simp [List.takeWhile_cons, h0]; omega
      · simp [List.takeWhile_cons, h0]
theorem lt_of_rk {l : Pairs} {k : ByteArray} {i : Nat} (h : i < rk l k) : klt (kAt l i) k := by
  by_cases hi : i < l.length
  · by_cases hk : klt (kAt l i) k
    · exact hk
    · have := rk_ge hk hi; omega
  · have := rk_le l k; omega

end Go.Proofs.YtfadbmfkidiaoaaGreatDoor
