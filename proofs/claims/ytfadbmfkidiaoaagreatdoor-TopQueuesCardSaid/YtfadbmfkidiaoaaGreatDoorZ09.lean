/- Cells of rows as bytes: a plain law. Bytes: numbers in four bytes, the check number, a string taken off. -/
import Derived.Test.YtfadbmfkidiaoaaGreatDoorZ08
import Derived.Lib.Replace
import Derived.Lib.CountLaws
import Derived.Laws.IdiomStrings
namespace Go.Proofs.YtfadbmfkidiaoaaGreatDoor
open Go
set_option linter.unusedSimpArgs false
set_option linter.unusedVariables false
set_option linter.unusedSectionVars false
set_option linter.unnecessarySimpa false

/-! numbers -/
def dgR (n : Nat) : List UInt8 := if h : n = 0 then [] else UInt8.ofNat (n % 256) :: dgR (n / 256)
termination_by n
decreasing_by omega
/-- the bytes of a number, as few as can be, the highest one first -/
def dgB (n : Nat) : List UInt8 := (dgR n).reverse
def vlR : List UInt8 → Nat
  | [] => 0
  | b :: l => b.toNat + 256 * vlR l
def numV (l : List UInt8) : Nat := l.foldl (fun a c => a * 256 + c.toNat) 0
theorem dgR_zero : dgR 0 = [] := by rw [dgR, dif_pos rfl]
theorem dgR_pos {n : Nat} (h : n ≠ 0) : dgR n = UInt8.ofNat (n % 256) :: dgR (n / 256) := by rw [dgR, dif_neg h]
theorem u8_mod (n : Nat) : (UInt8.ofNat (n % 256)).toNat = n % 256 := by simp
theorem vlR_dgR (n : Nat) : vlR (dgR n) = n := by
  induction n using Nat.strongRecOn with
  | ind n ih =>
    by_cases h : n = 0
    · subst h; rw [dgR_zero]; rfl
    · rw [dgR_pos h, vlR, ih (n / 256) (by omega), u8_mod]; omega
theorem foldl_app (l : List UInt8) (b : UInt8) (a : Nat) : (l ++ [b]).foldl (fun a c => a * 256 + c.toNat) a = (l.foldl (fun a c => a * 256 + c.toNat) a) * 256 + b.toNat := by simp
theorem numV_rev (l : List UInt8) : numV l.reverse = vlR l := by
  induction l with
  | nil => rfl
  | cons b l ih =>
    unfold numV at ih ⊢
    rw [List.reverse_cons, foldl_app, ih, vlR]; omega
theorem numV_dg (n : Nat) : numV (dgB n) = n := by unfold dgB; rw [numV_rev, vlR_dgR]
theorem dgR_len {n k : Nat} (h : n < 256 ^ k) : (dgR n).length ≤ k := by
  induction k generalizing n with
  | zero => have : n = 0 := by simpa using h
            subst this; rw [dgR_zero]; simp
  | succ k ih =>
    by_cases h0 : n = 0
    · subst h0; rw [dgR_zero]; simp
    · rw [dgR_pos h0]
      have : n / 256 < 256 ^ k := by rw [Nat.pow_succ] at h; omega
      have := ih this
      simp; omega
theorem dgB_len {n k : Nat} (h : n < 256 ^ k) : (dgB n).length ≤ k := by unfold dgB; rw [List.length_reverse]; exact dgR_len h
theorem dgR_mono {n m : Nat} (h : n ≤ m) : (dgR n).length ≤ (dgR m).length := by
  induction m using Nat.strongRecOn generalizing n with
  | ind m ih =>
    by_cases h0 : n = 0
    · subst h0; rw [dgR_zero]; simp
    · rw [dgR_pos h0, dgR_pos (by omega : m ≠ 0)]
      have := ih (m / 256) (by omega) (n := n / 256) (by omega)
      simp; omega
theorem dgB_mono {n m : Nat} (h : n ≤ m) : (dgB n).length ≤ (dgB m).length := by unfold dgB; rw [List.length_reverse, List.length_reverse]; exact dgR_mono h
/-- a number as a cell of a key -/
def uB (n : Nat) : List UInt8 := UInt8.ofNat (dgB n).length :: dgB n

theorem foldl_lin (l : List UInt8) (a : Nat) : l.foldl (fun a c => a * 256 + c.toNat) a = a * 256 ^ l.length + numV l := by
  induction l generalizing a with
  | nil => simp [numV]
  | cons b l ih =>
    unfold numV
    rw [List.foldl_cons, ih, List.foldl_cons, ih]
    have : a * 256 ^ (b :: l).length = a * 256 * 256 ^ l.length := by rw [List.length_cons, Nat.pow_succ]; rw [Nat.mul_assoc, Nat.mul_comm (256 ^ l.length) 256]
    rw [this, Nat.add_mul]
    simp only [Nat.zero_mul, Nat.zero_add]
    omega
theorem numV_cons (b : UInt8) (l : List UInt8) : numV (b :: l) = b.toNat * 256 ^ l.length + numV l := by
  unfold numV; rw [List.foldl_cons, foldl_lin]; simp [numV]
theorem numV_lt (l : List UInt8) : numV l < 256 ^ l.length := by
  induction l with
  | nil => simp [numV]
  | cons b l ih =>
    rw [numV_cons, List.length_cons, Nat.pow_succ]
    have := b.toNat_lt
    have h1 : b.toNat * 256 ^ l.length ≤ 255 * 256 ^ l.length := Nat.mul_le_mul_right _ (by omega)
    omega
theorem lex_of_num (a b r s : List UInt8) (hl : a.length = b.length) (h : numV a < numV b) : a ++ r < b ++ s := by
  induction a generalizing b with
  | nil =>
    have : b = [] := List.eq_nil_of_length_eq_zero (by simpa using hl.symm)
    subst this; simp at h
  | cons x a ih =>
    cases b with
    | nil => simp at hl
    | cons y b =>
      simp only [List.length_cons, Nat.add_right_cancel_iff] at hl
      rw [numV_cons, numV_cons, hl] at h
      rw [List.cons_append, List.cons_append, List.cons_lt_cons_iff]
      have ha := numV_lt a
      have hb := numV_lt b
      rw [hl] at ha
      rcases Nat.lt_trichotomy x.toNat y.toNat with h1 | h1 | h1
      · left; exact UInt8.lt_iff_toNat_lt.2 h1
      · right
        have e : x = y := UInt8.toNat_inj.1 h1
        refine ⟨e, ih b hl ?_⟩
        rw [h1] at h; omega
      · exfalso
        have : (y.toNat + 1) * 256 ^ b.length ≤ x.toNat * 256 ^ b.length := Nat.mul_le_mul_right _ h1
        rw [Nat.add_mul] at this
        omega
/-- smaller numbers come first -/
theorem uB_lt {n m : Nat} (r s : List UInt8) (hm : m < 256 ^ 8) (h : n < m) : uB n ++ r < uB m ++ s := by
  have h1 := dgB_mono (Nat.le_of_lt h)
  have h2 := dgB_len hm
  unfold uB
  rw [List.cons_append, List.cons_append, List.cons_lt_cons_iff]
  rcases Nat.lt_or_ge (dgB n).length (dgB m).length with h3 | h3
  · left
    rw [UInt8.lt_iff_toNat_lt, UInt8.toNat_ofNat', UInt8.toNat_ofNat', Nat.mod_eq_of_lt (by omega), Nat.mod_eq_of_lt (by omega)]; exact h3
  · right
    have e : (dgB n).length = (dgB m).length := by omega
    exact ⟨by rw [e], lex_of_num _ _ _ _ e (by rw [numV_dg, numV_dg]; exact h)⟩
theorem uB_le {n m : Nat} {r s : List UInt8} (hn : n < 256 ^ 8) (h : uB n ++ r < uB m ++ s) : n ≤ m := by
  rcases Nat.lt_or_ge m n with h1 | h1
  · exact absurd h (List.lt_asymm (uB_lt s r hn h1))
  · exact h1
theorem uB_len {n k : Nat} (h : n < 256 ^ k) : (uB n).length ≤ k + 1 := by have := dgB_len h; simp [uB]; omega

/-! texts -/
def esc : List UInt8 → List UInt8
  | [] => []
  | b :: l => if b = 0 then 0 :: 255 :: esc l else b :: esc l
def txB (s : List UInt8) : List UInt8 := esc s ++ [0, 1]
theorem esc_len (s : List UInt8) : s.length ≤ (esc s).length ∧ (esc s).length ≤ 2 * s.length := by
  induction s with
  | nil => simp [esc]
  | cons b l ih => unfold esc; split <;> simp only [List.length_cons] <;> omega
theorem esc_app {a : List UInt8} (h : ∀ b ∈ a, b ≠ 0) (t : List UInt8) : esc (a ++ t) = a ++ esc t := by
  induction a with
  | nil => rfl
  | cons b a ih =>
    rw [List.cons_append, esc, if_neg (h b (by simp)), ih (fun c hc => h c (by simp [hc]))]; rfl
theorem split0 (s : List UInt8) : (∀ b ∈ s, b ≠ 0) ∨ ∃ a t, s = a ++ 0 :: t ∧ ∀ b ∈ a, b ≠ 0 := by
  induction s with
  | nil => left; simp
  | cons b s ih =>
    by_cases h : b = 0
    · right; exact ⟨[], s, by rw [h]; rfl, by simp⟩
    · rcases ih with h1 | ⟨a, t, rfl, h1⟩
      · left; intro c hc; rcases List.mem_cons.1 hc with rfl | hc; exact h; exact h1 c hc
      · right; exact ⟨b :: a, t, rfl, fun c hc => by rcases List.mem_cons.1 hc with rfl | hc; exact h; exact h1 c hc⟩
theorem drop_nz {a s sub : List UInt8} (h : ∀ b ∈ a, b ≠ 0) {j : Nat} (hj : j < a.length) : Lib.occAt (a ++ s) (0 :: sub) j = false := by
  unfold Lib.occAt
  rw [List.drop_append_of_le_length (by omega), List.drop_eq_getElem_cons hj, List.cons_append]
  have := h _ (List.getElem_mem hj)
  simp only [List.isPrefixOf, Bool.and_eq_false_iff]
  left
  exact beq_eq_false_iff_ne.2 (Ne.symm this)
theorem index_nz {s sub : List UInt8} (h : ∀ b ∈ s, b ≠ 0) : Lib.index s (0 :: sub) = -1 := by
  refine Lib.index_none fun j hj => ?_
  rcases Nat.lt_or_ge j s.length with h1 | h1
  · have := drop_nz (s := []) (sub := sub) h h1
    simpa using this
  · unfold Lib.occAt
    rw [List.drop_eq_nil_of_le h1]; rfl
theorem index_at {a t sub : List UInt8} (h : ∀ b ∈ a, b ≠ 0) (hp : sub.isPrefixOf t = true) : Lib.index (a ++ 0 :: t) (0 :: sub) = a.length := by
  refine Lib.index_first (by simp) ?_ (fun j hj => drop_nz h hj)
  unfold Lib.occAt
  rw [List.drop_append_of_le_length (Nat.le_refl _), List.drop_eq_nil_of_le (Nat.le_refl _), List.nil_append]
  simp [List.isPrefixOf, hp]
theorem rep_hit {old new a t sub : List UInt8} (ho : old = 0 :: sub) (h : ∀ b ∈ a, b ≠ 0) (hp : sub.isPrefixOf t = true) :
    Lib.replaceK old new (Lib.count (a ++ 0 :: t) old) (a ++ 0 :: t) = a ++ new ++ Lib.replaceK old new (Lib.count (t.drop sub.length) old) (t.drop sub.length) := by
  subst ho
  have hi := index_at h hp
  have hd : (a ++ 0 :: t).drop (a.length + (0 :: sub).length) = t.drop sub.length := by
    rw [← List.drop_drop, List.drop_append_of_le_length (Nat.le_refl _), List.drop_eq_nil_of_le (Nat.le_refl _), List.nil_append, List.length_cons, List.drop_succ_cons]
  rw [Lib.count_hit (by simp) hi, hd, Nat.add_comm, Lib.replaceK_hit _ _ _ _ _ hi, hd]
  rw [List.take_append_of_le_length (Nat.le_refl _), List.take_of_length_le (Nat.le_refl _)]
theorem rep_esc (s : List UInt8) : Lib.replaceK [0] [0, 255] (Lib.count s [0]) s = esc s := by
  generalize hn : s.length = n
  induction n using Nat.strongRecOn generalizing s with
  | ind n ih =>
    rcases split0 s with h | ⟨a, t, rfl, h⟩
    · rw [Lib.count_miss (index_nz (sub := []) h)]
      have := esc_app h []
      rw [List.append_nil] at this
      rw [this]; simp [Lib.replaceK, esc]
    · rw [rep_hit (sub := []) rfl h rfl, esc_app h, esc, if_pos rfl]
      simp only [List.length_nil, List.drop_zero]
      rw [ih t.length (by simp at hn; omega) t rfl]
      simp
theorem rep_unesc (s : List UInt8) : Lib.replaceK [0, 255] [0] (Lib.count (esc s) [0, 255]) (esc s) = s := by
  generalize hn : s.length = n
  induction n using Nat.strongRecOn generalizing s with
  | ind n ih =>
    rcases split0 s with h | ⟨a, t, rfl, h⟩
    · have := esc_app h []
      rw [List.append_nil] at this
      rw [this]
      simp only [esc, List.append_nil]
      rw [Lib.count_miss (index_nz (sub := [255]) h)]; simp [Lib.replaceK]
    · rw [esc_app h, esc, if_pos rfl, rep_hit (sub := [255]) rfl h rfl]
      simp only [List.length_cons, List.length_nil, List.drop_succ_cons, List.drop_zero]
      rw [ih t.length (by simp at hn; omega) t rfl]
      simp
theorem replace_esc (s : List UInt8) : Lib.replaceAll s [0] [0, 255] = esc s := by
  unfold Lib.replaceAll Lib.replace
  rw [if_neg (by decide)]
  have : Lib.replaceNum s [0] (-1) = Lib.count s [0] := by unfold Lib.replaceNum; rw [if_pos (by omega)]
  rw [this, rep_esc]
theorem replace_unesc (s : List UInt8) : Lib.replaceAll (esc s) [0, 255] [0] = s := by
  unfold Lib.replaceAll Lib.replace
  rw [if_neg (by decide)]
  have : Lib.replaceNum (esc s) [0, 255] (-1) = Lib.count (esc s) [0, 255] := by unfold Lib.replaceNum; rw [if_pos (by omega)]
  rw [this, rep_unesc]
theorem index_skip {b : UInt8} {l sub : List UInt8} {i : Nat} (h : sub.isPrefixOf (b :: l) = false) (hi : Lib.index l sub = i) : Lib.index (b :: l) sub = ((i + 1 : Nat) : Int) := by
  have h0 : ((i : Int) == -1) = false := by rw [beq_eq_false_iff_ne]; omega
  rw [Lib.index, h, hi, h0]
  simp
/-- where a text ends -/
theorem index_txB (s r : List UInt8) : Lib.index (txB s ++ r) [0, 1] = (esc s).length := by
  unfold txB
  induction s with
  | nil => simp [esc, Lib.index]
  | cons b s ih =>
    unfold esc
    split
    · next h =>
      simp only [List.cons_append]
      exact index_skip (by simp [List.isPrefixOf]) (index_skip (by simp [List.isPrefixOf]) ih)
    · next h =>
      simp only [List.cons_append]
      refine index_skip ?_ ih
      simp only [List.isPrefixOf, Bool.and_eq_false_iff]
      left; exact beq_eq_false_iff_ne.2 (Ne.symm h)
end Go.Proofs.YtfadbmfkidiaoaaGreatDoor

namespace Go.Proofs.YtfadbmfkidiaoaaGreatDoor
open Go.RowKit Go

def bcs (l : List UInt8) : List Value := l.map fun b => Value.int .u8 (b.toNat : Int)
def bAt (l : List UInt8) (i : Nat) : Int := (l.getD i 0).toNat
theorem bcs_len (l : List UInt8) : (bcs l).length = l.length := by simp [bcs]
theorem bcs_append (l m : List UInt8) : bcs (l ++ m) = bcs l ++ bcs m := by simp [bcs]
theorem bcs_one (l : List UInt8) : ∀ u ∈ bcs l, u.oneCell' = true := by
  intro u hu; simp only [bcs, List.mem_map] at hu; obtain ⟨b, _, rfl⟩ := hu; rfl
theorem bAt_range (l : List UInt8) (i : Nat) : 0 ≤ bAt l i ∧ bAt l i < 256 := by
  unfold bAt; have := (l.getD i 0).toNat_lt; omega
theorem bcs_take (l : List UInt8) (k : Nat) : (bcs l).take k = bcs (l.take k) := by simp [bcs, List.map_take]
theorem bcs_drop (l : List UInt8) (k : Nat) : (bcs l).drop k = bcs (l.drop k) := by simp [bcs, List.map_drop]

theorem Vw.byte {w : World} {g o n c : Nat} {l : List UInt8} (h : Vw w g 5 1 (.slice (some ⟨g, o, none⟩) n c) n (bcs l)) (i : Nat) (hi : i < n) :
    w.cell? ⟨g, o + i, none⟩ = some (.int .u8 (bAt l i)) := by
  cases h with
  | at_ hl hn hc hcell hty =>
    have hi' : i < l.length := by rw [bcs_len] at hl; omega
    exact hcell _ _ (by simp [bcs, bAt, hi'])
theorem Vw.blen {w : World} {g : Nat} {v : Value} {n : Nat} {l : List UInt8} (h : Vw w g 5 1 v n (bcs l)) : l.length = n := by
  have := h.len; rw [bcs_len] at this; omega

theorem T104 : SlT Tryz.prog 104 5 1 1 := slT_mk (z := .int .u8 0) Tryz.underlying104 (by kernel_rfl) rfl (by omega)

/-- string(b) -/
theorem run_str {w : World} {g : Nat} {v : Value} {n : Nat} {l : List UInt8} (h : Vw w g 5 1 v n (bcs l)) : (convert 104 9 v).run Tryz.prog w = .ok (.string ⟨l.toArray⟩) w := by
  have hn := h.blen
  rcases h.split with ⟨rfl, rfl, h0⟩ | ⟨o, c, rfl, _, _, h2⟩
  · have : l = [] := List.eq_nil_of_length_eq_zero hn
    subst this
    exact run_convert_bytes_nil w 104 5 Tryz.underlying104 Tryz.underlying5 0 0 9 Tryz.underlying9
  · subst hn
    refine run_convert_bytes_back w 104 9 5 ⟨g, o, none⟩ c l Tryz.underlying104 Tryz.underlying5 Tryz.underlying9 (fun j hj => ?_)
    rw [addr_add, h2.byte j hj]
    simp [bAt, hj]

/-- the four bytes of a number -/
def fourB (n : Nat) : List UInt8 := [UInt8.ofNat (n / 16777216), UInt8.ofNat (n / 65536), UInt8.ofNat (n / 256), UInt8.ofNat n]

theorem u8_of (n : Nat) : ((UInt8.ofNat n).toNat : Int) = (n : Int) % 256 := by simp
theorem four_any (n : Nat) (w : World) (hn : n < 4294967296) :
    Calls Tryz.prog 94 #[.int .u32 n] w fun e w' => e = .returned (.slice (some ⟨w.heap.size, 0, none⟩) 4 4) ∧ Row w' w.heap.size 5 1 (.slice (some ⟨w.heap.size, 0, none⟩) 4 4) 4 (bcs (fourB n)) ∧ Ext [] w w' := by
  go_enter Tryz.func94, Tryz.ntmps94
  go_wp2
  go_ret
  refine ⟨rfl, ?_, (Ext.refl [] w).alloc _⟩
  have h := Row.new w 5 1 #[.int .u8 ((n : Int) / 16777216), .int .u8 ((n : Int) / 65536 % 256), .int .u8 ((n : Int) / 256 % 256), .int .u8 ((n : Int) % 256)] 4 4 (Nat.le_refl _) (by simp [maxLen]) rfl
  have e : bcs (fourB n) = [.int .u8 ((n : Int) / 16777216), .int .u8 ((n : Int) / 65536 % 256), .int .u8 ((n : Int) / 256 % 256), .int .u8 ((n : Int) % 256)] := by
    simp only [bcs, fourB, List.map_cons, List.map_nil, u8_of]
    have : ((n / 16777216 : Nat) : Int) % 256 = (n : Int) / 16777216 := by omega
    rw [this]; rfl
  rw [e]
  exact h

/-- a number shifted, and a small one beside it -/
theorem or32 (a b k : Nat) {z : Int} (hz : z = ((2 ^ k : Nat) : Int)) (hb : b < 2 ^ k) (h : a * 2 ^ k + b < 4294967296) : bits BinOp.or IntKind.u32 ((a : Int) * z) (b : Int) = ((a * 2 ^ k + b : Nat) : Int) := by
  subst hz
  rw [← Int.natCast_mul]
  show IntKind.u32.wrap ((BitVec.ofInt 32 ((a * 2 ^ k : Nat) : Int) ||| BitVec.ofInt 32 (b : Int)).toNat : Int) = _
  have h1 : (BitVec.ofInt 32 ((a * 2 ^ k : Nat) : Int)).toNat = a * 2 ^ k := by
    rw [BitVec.ofInt_natCast, BitVec.toNat_ofNat]; exact Nat.mod_eq_of_lt (by omega)
  have h2 : (BitVec.ofInt 32 (b : Int)).toNat = b := by
    rw [BitVec.ofInt_natCast, BitVec.toNat_ofNat]; exact Nat.mod_eq_of_lt (by omega)
  have h3 : a * 2 ^ k ||| b = a * 2 ^ k + b := by
    rw [← Nat.shiftLeft_eq, ← Nat.shiftLeft_add_eq_or_of_lt hb]
  rw [BitVec.toNat_or, h1, h2, h3, IntKind.wrap_u32]
  omega
def ckS (p : Nat × Nat) (c : UInt8) : Nat × Nat := ((p.1 + c.toNat) % 65521, (p.2 + (p.1 + c.toNat) % 65521) % 65521)
def ckP (l : List UInt8) : Nat × Nat := l.foldl ckS (1, 0)
def ckN (l : List UInt8) : Nat := (ckP l).2 * 65536 + (ckP l).1
theorem foldl_snoc {α β : Type} (f : β → α → β) (l : List α) (k : Nat) (h : k < l.length) (b : β) : (l.take (k + 1)).foldl f b = f ((l.take k).foldl f b) l[k] := by
  rw [List.take_succ_eq_append_getElem h, List.foldl_append]; rfl
theorem ckP_lt (l : List UInt8) : (ckP l).1 < 65521 ∧ (ckP l).2 < 65521 := by
  have : ∀ (l : List UInt8) (p : Nat × Nat), p.1 < 65521 ∧ p.2 < 65521 → (l.foldl ckS p).1 < 65521 ∧ (l.foldl ckS p).2 < 65521 := by
    intro l
    induction l with
    | nil => intro p h; exact h
    | cons c l ih => intro p h; exact ih _ ⟨Nat.mod_lt _ (by omega), Nat.mod_lt _ (by omega)⟩
  exact this l _ ⟨by omega, by omega⟩
theorem ckN_lt (l : List UInt8) : ckN l < 4294967296 := by have := ckP_lt l; unfold ckN; omega
def cka (l : List UInt8) (k : Nat) : Nat := (ckP (l.take k)).1
def ckb (l : List UInt8) (k : Nat) : Nat := (ckP (l.take k)).2

set_option maxHeartbeats 400000 in
theorem check_any (g : Nat) (v : Value) (n : Nat) (l : List UInt8) (w : World) (hv : Vw w g 5 1 v n (bcs l)) :
    Calls Tryz.prog 96 #[v] w fun e w' => e = .returned (.int .u32 (ckN l)) ∧ w = w' := by
  have hmx := hv.lenMax
  have hn := hv.blen
  rcases hv.split with ⟨rfl, rfl, h0⟩ | ⟨o, c, rfl, _, _, h2⟩
  · have hl0 : l = [] := List.eq_nil_of_length_eq_zero hn
    subst hl0
    clear hv hn
    go_enter Tryz.func96, Tryz.ntmps96
    go_wp2_with fail
    go_loop [3, 4, 9] (fun xv yv iv => iv = .int .i64 0 ∧ xv = .int .u32 1 ∧ yv = .int .u32 0) (fun _ _ iv => 0)
    case atStart => exact ⟨rfl, rfl, rfl⟩
    case round =>
      obtain ⟨rfl, rfl, rfl⟩ := hrel
      go_wp2
      go_ret
      exact ⟨rfl, rfl⟩
  · clear hv
    go_enter Tryz.func96, Tryz.ntmps96
    go_wp2_with fail
    go_loop [3, 4, 9] (fun xv yv iv => ∃ i : Nat, i ≤ n ∧ iv = .int .i64 i ∧ xv = .int .u32 (cka l i) ∧ yv = .int .u32 (ckb l i)) (fun _ _ iv => n - (intOf iv).toNat)
    case atStart => exact ⟨0, by omega, rfl, rfl, rfl⟩
    case round =>
      obtain ⟨i, hi, rfl, rfl, rfl⟩ := hrel
      have hlt2 := ckP_lt (l.take i)
      have b1 : cka l i < 65521 := hlt2.1
      have b2 : ckb l i < 65521 := hlt2.2
      clear hlt2
      by_cases hlt : i < n
      · have hc := h2.byte i hlt
        have hb := bAt_range l i
        clear h2
        go_wp2_with fail
        go_round
        case rel =>
          have hil : i < l.length := by omega
          have hs : ckP (l.take (i + 1)) = ckS (ckP (l.take i)) l[i] := foldl_snoc ckS l i hil _
          have hbi : bAt l i = ((l[i].toNat : Nat) : Int) := by simp [bAt, hil]
          refine ⟨i + 1, by omega, by go_num, vi ?_, vi ?_⟩
          · unfold cka; rw [hs, hbi]; simp only [ckS]; omega
          · unfold ckb cka; rw [hs, hbi]; simp only [ckS]; omega
        case measure => simp [intOf]; omega
      · clear h2
        go_wp2
        go_ret
        obtain rfl : i = n := by omega
        refine ⟨ret1 (vi ?_), rfl⟩
        rw [or32 _ _ 16 (z := 65536) rfl (by omega) (by omega)]
        unfold ckN ckb cka
        rw [List.take_of_length_le (by omega)]

def numS (n : Nat) (c : UInt8) : Nat := n * 256 + c.toNat
def numB (l : List UInt8) : Nat := l.foldl numS 0
theorem numB_lt (l : List UInt8) : numB l < 256 ^ l.length := by
  have : ∀ (l : List UInt8) (n k : Nat), n < 256 ^ k → l.foldl numS n < 256 ^ (k + l.length) := by
    intro l
    induction l with
    | nil => intro n k h; simpa using h
    | cons c l ih =>
      intro n k h
      have := c.toNat_lt
      have := ih (numS n c) (k + 1) (by unfold numS; rw [Nat.pow_succ]; omega)
      rwa [List.length_cons, ← Nat.add_assoc, Nat.add_right_comm]
  have h := this l 0 0 (by decide)
  rw [Nat.zero_add] at h
  exact h
def numA (l : List UInt8) (k : Nat) : Nat := numB (l.take k)
set_option maxHeartbeats 400000 in
theorem number_any (g : Nat) (v : Value) (n : Nat) (l : List UInt8) (w : World) (hv : Vw w g 5 1 v n (bcs l)) (h4 : n ≤ 4) :
    Calls Tryz.prog 100 #[v] w fun e w' => e = .returned (.int .u32 (numB l)) ∧ w = w' := by
  have hn := hv.blen
  rcases hv.split with ⟨rfl, rfl, h0⟩ | ⟨o, c, rfl, _, _, h2⟩
  · have hl0 : l = [] := List.eq_nil_of_length_eq_zero hn
    subst hl0
    clear hv hn
    go_enter Tryz.func100, Tryz.ntmps100
    go_wp2_with fail
    go_loop [3, 8] (fun xv iv => iv = .int .i64 0 ∧ xv = .int .u32 0) (fun _ iv => 0)
    case atStart => exact ⟨rfl, rfl⟩
    case round =>
      obtain ⟨rfl, rfl⟩ := hrel
      go_wp2
      go_ret
      exact ⟨rfl, rfl⟩
  · clear hv
    go_enter Tryz.func100, Tryz.ntmps100
    go_wp2_with fail
    go_loop [3, 8] (fun xv iv => ∃ i : Nat, i ≤ n ∧ iv = .int .i64 i ∧ xv = .int .u32 (numA l i)) (fun _ iv => n - (intOf iv).toNat)
    case atStart => exact ⟨0, by omega, rfl, rfl⟩
    case round =>
      obtain ⟨i, hi, rfl, rfl⟩ := hrel
      by_cases hlt : i < n
      · have hc := h2.byte i hlt
        have hb := bAt_range l i
        have hA : numA l i < 16777216 := by
          have h := numB_lt (l.take i)
          have : i ≤ 3 := by omega
          have h3 : (l.take i).length ≤ 3 := by rw [List.length_take]; omega
          exact Nat.lt_of_lt_of_le h (Nat.pow_le_pow_right (n := 256) (by omega) h3)
        clear h2
        go_wp2_with fail
        go_round
        case rel =>
          have hil : i < l.length := by omega
          have hs : numB (l.take (i + 1)) = numS (numB (l.take i)) l[i] := foldl_snoc numS l i hil _
          have hbi : bAt l i = ((l[i].toNat : Nat) : Int) := by simp [bAt, hil]
          refine ⟨i + 1, by omega, by go_num, vi ?_⟩
          rw [hbi, or32 _ _ 8 (z := 256) rfl (by have := (l[i]).toNat_lt; omega) (by have := (l[i]).toNat_lt; omega)]
          unfold numA; rw [hs]; rfl
        case measure => simp [intOf]; omega
      · clear h2
        go_wp2
        go_ret
        obtain rfl : i = n := by omega
        refine ⟨ret1 (vi ?_), rfl⟩
        unfold numA
        rw [List.take_of_length_le (by omega)]
end Go.Proofs.YtfadbmfkidiaoaaGreatDoor
