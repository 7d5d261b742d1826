/- Bytes: numbers in four bytes, the check number, a string taken off. -/
import Derived.Test.YtfadbmfkidiaoaaGreatDoorM7
import Derived.Laws.IdiomStrings
namespace Go.Proofs.YtfadbmfkidiaoaaGreatDoor
open Go.RowKit Go

def bcs (l : List UInt8) : List Value := l.map fun b => Value.int .u8 (b.toNat : Int)
def bAt (l : List UInt8) (i : Nat) : Int := (l.getD i 0).toNat
theorem bcs_len (l : List UInt8) : (bcs l).length = l.length := by simp [bcs]
theorem bcs_append (l m : List UInt8) : bcs (l ++ m) = bcs l ++ bcs m := by simp [bcs]
theorem bcs_one (l : List UInt8) : ∀ u ∈ bcs l, u.oneCell' = true := by
  intro u hu; simp only [bcs, List.mem_map] at hu; obtain ⟨b, _, rfl⟩ := hu; rfl
theorem bAt_range (l : List UInt8) (i : Nat) : 0 ≤ bAt l i ∧ bAt l i < 256 := by
  unfold bAt; have := (l.getD i 0).toNat_lt; omega
theorem bcs_take (l : List UInt8) (k : Nat) : (bcs l).take k = bcs (l.take k) := by simp [bcs, List.map_take]
theorem bcs_drop (l : List UInt8) (k : Nat) : (bcs l).drop k = bcs (l.drop k) := by simp [bcs, List.map_drop]

theorem Vw.byte {w : World} {g o n c : Nat} {l : List UInt8} (h : Vw w g 5 1 (.slice (some ⟨g, o, none⟩) n c) n (bcs l)) (i : Nat) (hi : i < n) :
    w.cell? ⟨g, o + i, none⟩ = some (.int .u8 (bAt l i)) := by
  cases h with
  | at_ hl hn hc hcell hty =>
    have hi' : i < l.length := by rw [bcs_len] at hl; omega
    exact hcell _ _ (by simp [bcs, bAt, hi'])
theorem Vw.blen {w : World} {g : Nat} {v : Value} {n : Nat} {l : List UInt8} (h : Vw w g 5 1 v n (bcs l)) : l.length = n := by
  have := h.len; rw [bcs_len] at this; omega

theorem T104 : SlT Tryz.prog 104 5 1 1 := slT_mk (z := .int .u8 0) Tryz.underlying104 (by kernel_rfl) rfl (by omega)

/-- string(b) -/
theorem run_str {w : World} {g : Nat} {v : Value} {n : Nat} {l : List UInt8} (h : Vw w g 5 1 v n (bcs l)) : (convert 104 9 v).run Tryz.prog w = .ok (.string ⟨l.toArray⟩) w := by
  have hn := h.blen
  rcases h.split with ⟨rfl, rfl, h0⟩ | ⟨o, c, rfl, _, _, h2⟩
  · have : l = [] := List.eq_nil_of_length_eq_zero hn
    subst this
    exact run_convert_bytes_nil w 104 5 Tryz.underlying104 Tryz.underlying5 0 0 9 Tryz.underlying9
  · subst hn
    refine run_convert_bytes_back w 104 9 5 ⟨g, o, none⟩ c l Tryz.underlying104 Tryz.underlying5 Tryz.underlying9 (fun j hj => ?_)
    rw [addr_add, h2.byte j hj]
    simp [bAt, hj]

/-- the four bytes of a number -/
def fourB (n : Nat) : List UInt8 := [UInt8.ofNat (n / 16777216), UInt8.ofNat (n / 65536), UInt8.ofNat (n / 256), UInt8.ofNat n]

theorem u8_of (n : Nat) : ((UInt8.ofNat n).toNat : Int) = (n : Int) % 256 := by simp
theorem four_any (n : Nat) (w : World) (hn : n < 4294967296) :
    Calls Tryz.prog 94 #[.int .u32 n] w fun e w' => e = .returned (.slice (some ⟨w.heap.size, 0, none⟩) 4 4) ∧ Row w' w.heap.size 5 1 (.slice (some ⟨w.heap.size, 0, none⟩) 4 4) 4 (bcs (fourB n)) ∧ Ext [] w w' := by
  go_enter Tryz.func94, Tryz.ntmps94
  go_wp2
  go_ret
  refine ⟨rfl, ?_, (Ext.refl [] w).alloc _⟩
  have h := Row.new w 5 1 #[.int .u8 ((n : Int) / 16777216), .int .u8 ((n : Int) / 65536 % 256), .int .u8 ((n : Int) / 256 % 256), .int .u8 ((n : Int) % 256)] 4 4 (Nat.le_refl _) (by simp [maxLen]) rfl
  have e : bcs (fourB n) = [.int .u8 ((n : Int) / 16777216), .int .u8 ((n : Int) / 65536 % 256), .int .u8 ((n : Int) / 256 % 256), .int .u8 ((n : Int) % 256)] := by
    simp only [bcs, fourB, List.map_cons, List.map_nil, u8_of]
    have : ((n / 16777216 : Nat) : Int) % 256 = (n : Int) / 16777216 := by omega
    rw [this]; rfl
  rw [e]
  exact h

/-- a number shifted, and a small one beside it -/
theorem or32 (a b k : Nat) {z : Int} (hz : z = ((2 ^ k : Nat) : Int)) (hb : b < 2 ^ k) (h : a * 2 ^ k + b < 4294967296) : bits BinOp.or IntKind.u32 ((a : Int) * z) (b : Int) = ((a * 2 ^ k + b : Nat) : Int) := by
  subst hz
  rw [← Int.natCast_mul]
  show IntKind.u32.wrap ((BitVec.ofInt 32 ((a * 2 ^ k : Nat) : Int) ||| BitVec.ofInt 32 (b : Int)).toNat : Int) = _
  have h1 : (BitVec.ofInt 32 ((a * 2 ^ k : Nat) : Int)).toNat = a * 2 ^ k := by
    rw [BitVec.ofInt_natCast, BitVec.toNat_ofNat]; exact Nat.mod_eq_of_lt (by omega)
  have h2 : (BitVec.ofInt 32 (b : Int)).toNat = b := by
    rw [BitVec.ofInt_natCast, BitVec.toNat_ofNat]; exact Nat.mod_eq_of_lt (by omega)
  have h3 : a * 2 ^ k ||| b = a * 2 ^ k + b := by
    rw [← Nat.shiftLeft_eq, ← Nat.shiftLeft_add_eq_or_of_lt hb]
  rw [BitVec.toNat_or, h1, h2, h3, IntKind.wrap_u32]
  omega
def ckS (p : Nat × Nat) (c : UInt8) : Nat × Nat := ((p.1 + c.toNat) % 65521, (p.2 + (p.1 + c.toNat) % 65521) % 65521)
def ckP (l : List UInt8) : Nat × Nat := l.foldl ckS (1, 0)
def ckN (l : List UInt8) : Nat := (ckP l).2 * 65536 + (ckP l).1
theorem foldl_snoc {α β : Type} (f : β → α → β) (l : List α) (k : Nat) (h : k < l.length) (b : β) : (l.take (k + 1)).foldl f b = f ((l.take k).foldl f b) l[k] := by
  rw [List.take_succ_eq_append_getElem h, List.foldl_append]; rfl
theorem ckP_lt (l : List UInt8) : (ckP l).1 < 65521 ∧ (ckP l).2 < 65521 := by
  have : ∀ (l : List UInt8) (p : Nat × Nat), p.1 < 65521 ∧ p.2 < 65521 → (l.foldl ckS p).1 < 65521 ∧ (l.foldl ckS p).2 < 65521 := by
    intro l
    induction l with
    | nil => intro p h; exact h
    | cons c l ih => intro p h; exact ih _ ⟨Nat.mod_lt _ (by omega), Nat.mod_lt _ (by omega)⟩
  exact this l _ ⟨by omega, by omega⟩
theorem ckN_lt (l : List UInt8) : ckN l < 4294967296 := by have := ckP_lt l; unfold ckN; omega
def cka (l : List UInt8) (k : Nat) : Nat := (ckP (l.take k)).1
def ckb (l : List UInt8) (k : Nat) : Nat := (ckP (l.take k)).2

set_option maxHeartbeats 400000 in
theorem check_any (g : Nat) (v : Value) (n : Nat) (l : List UInt8) (w : World) (hv : Vw w g 5 1 v n (bcs l)) :
    Calls Tryz.prog 96 #[v] w fun e w' => e = .returned (.int .u32 (ckN l)) ∧ w = w' := by
  have hmx := hv.lenMax
  have hn := hv.blen
  rcases hv.split with ⟨rfl, rfl, h0⟩ | ⟨o, c, rfl, _, _, h2⟩
  · have hl0 : l = [] := List.eq_nil_of_length_eq_zero hn
    subst hl0
    clear hv hn
    go_enter Tryz.func96, Tryz.ntmps96
    go_wp2_with fail
    go_loop [3, 4, 9] (fun xv yv iv => iv = .int .i64 0 ∧ xv = .int .u32 1 ∧ yv = .int .u32 0) (fun _ _ iv => 0)
    case atStart => exact ⟨rfl, rfl, rfl⟩
    case round =>
      obtain ⟨rfl, rfl, rfl⟩ := hrel
      go_wp2
      go_ret
      exact ⟨rfl, rfl⟩
  · clear hv
    go_enter Tryz.func96, Tryz.ntmps96
    go_wp2_with fail
    go_loop [3, 4, 9] (fun xv yv iv => ∃ i : Nat, i ≤ n ∧ iv = .int .i64 i ∧ xv = .int .u32 (cka l i) ∧ yv = .int .u32 (ckb l i)) (fun _ _ iv => n - (intOf iv).toNat)
    case atStart => exact ⟨0, by omega, rfl, rfl, rfl⟩
    case round =>
      obtain ⟨i, hi, rfl, rfl, rfl⟩ := hrel
      have hlt2 := ckP_lt (l.take i)
      have b1 : cka l i < 65521 := hlt2.1
      have b2 : ckb l i < 65521 := hlt2.2
      clear hlt2
      by_cases hlt : i < n
      · have hc := h2.byte i hlt
        have hb := bAt_range l i
        clear h2
        go_wp2_with fail
        go_round
        case rel =>
          have hil : i < l.length := by omega
          have hs : ckP (l.take (i + 1)) = ckS (ckP (l.take i)) l[i] := foldl_snoc ckS l i hil _
          have hbi : bAt l i = ((l[i].toNat : Nat) : Int) := by simp [bAt, hil]
          refine ⟨i + 1, by omega, by go_num, vi ?_, vi ?_⟩
          · unfold cka; rw [hs, hbi]; simp only [ckS]; omega
          · unfold ckb cka; rw [hs, hbi]; simp only [ckS]; omega
        case measure => simp [intOf]; omega
      · clear h2
        go_wp2
        go_ret
        obtain rfl : i = n := by omega
        refine ⟨ret1 (vi ?_), rfl⟩
        rw [or32 _ _ 16 (z := 65536) rfl (by omega) (by omega)]
        unfold ckN ckb cka
        rw [List.take_of_length_le (by omega)]

def numS (n : Nat) (c : UInt8) : Nat := n * 256 + c.toNat
def numB (l : List UInt8) : Nat := l.foldl numS 0
theorem numB_lt (l : List UInt8) : numB l < 256 ^ l.length := by
  have : ∀ (l : List UInt8) (n k : Nat), n < 256 ^ k → l.foldl numS n < 256 ^ (k + l.length) := by
    intro l
    induction l with
    | nil => intro n k h; simpa using h
    | cons c l ih =>
      intro n k h
      have := c.toNat_lt
      have := ih (numS n c) (k + 1) (by unfold numS; rw [Nat.pow_succ]; omega)
      rwa [List.length_cons, ← Nat.add_assoc, Nat.add_right_comm]
  have h := this l 0 0 (by decide)
  rw [Nat.zero_add] at h
  exact h
def numA (l : List UInt8) (k : Nat) : Nat := numB (l.take k)
set_option maxHeartbeats 400000 in
theorem number_any (g : Nat) (v : Value) (n : Nat) (l : List UInt8) (w : World) (hv : Vw w g 5 1 v n (bcs l)) (h4 : n ≤ 4) :
    Calls Tryz.prog 100 #[v] w fun e w' => e = .returned (.int .u32 (numB l)) ∧ w = w' := by
  have hn := hv.blen
  rcases hv.split with ⟨rfl, rfl, h0⟩ | ⟨o, c, rfl, _, _, h2⟩
  · have hl0 : l = [] := List.eq_nil_of_length_eq_zero hn
    subst hl0
    clear hv hn
    go_enter Tryz.func100, Tryz.ntmps100
    go_wp2_with fail
    go_loop [3, 8] (fun xv iv => iv = .int .i64 0 ∧ xv = .int .u32 0) (fun _ iv => 0)
    case atStart => exact ⟨rfl, rfl⟩
    case round =>
      obtain ⟨rfl, rfl⟩ := hrel
      go_wp2
      go_ret
      exact ⟨rfl, rfl⟩
  · clear hv
    go_enter Tryz.func100, Tryz.ntmps100
    go_wp2_with fail
    go_loop [3, 8] (fun xv iv => ∃ i : Nat, i ≤ n ∧ iv = .int .i64 i ∧ xv = .int .u32 (numA l i)) (fun _ iv => n - (intOf iv).toNat)
    case atStart => exact ⟨0, by omega, rfl, rfl⟩
    case round =>
      obtain ⟨i, hi, rfl, rfl⟩ := hrel
      by_cases hlt : i < n
      · have hc := h2.byte i hlt
        have hb := bAt_range l i
        have hA : numA l i < 16777216 := by
          have h := numB_lt (l.take i)
          have : i ≤ 3 := by omega
          have h3 : (l.take i).length ≤ 3 := by rw [List.length_take]; omega
          exact Nat.lt_of_lt_of_le h (Nat.pow_le_pow_right (n := 256) (by omega) h3)
        clear h2
        go_wp2_with fail
        go_round
        case rel =>
          have hil : i < l.length := by omega
          have hs : numB (l.take (i + 1)) = numS (numB (l.take i)) l[i] := foldl_snoc numS l i hil _
          have hbi : bAt l i = ((l[i].toNat : Nat) : Int) := by simp [bAt, hil]
          refine ⟨i + 1, by omega, by go_num, vi ?_⟩
          rw [hbi, or32 _ _ 8 (z := 256) rfl (by have := (l[i]).toNat_lt; omega) (by have := (l[i]).toNat_lt; omega)]
          unfold numA; rw [hs]; rfl
        case measure => simp [intOf]; omega
      · clear h2
        go_wp2
        go_ret
        obtain rfl : i = n := by omega
        refine ⟨ret1 (vi ?_), rfl⟩
        unfold numA
        rw [List.take_of_length_le (by omega)]
end Go.Proofs.YtfadbmfkidiaoaaGreatDoor
