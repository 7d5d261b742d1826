/- The plain map of the program, second part: a map in memory, where a key is. -/
import Derived.Test.YtfadbmfkidiaoaaGreatDoorM1
namespace Go.Proofs.YtfadbmfkidiaoaaGreatDoor
open Go.RowKit Go

def scs (l : List ByteArray) : List Value := l.map Value.string
def sAt (l : List ByteArray) (i : Nat) : ByteArray := l.getD i ByteArray.empty

theorem Vw.str {w : World} {g o n c : Nat} {l : List ByteArray} (h : Vw w g 9 1 (.slice (some ⟨g, o, none⟩) n c) n (scs l)) (i : Nat) (hi : i < n) :
    w.cell? ⟨g, o + i, none⟩ = some (.string (sAt l i)) := by
  cases h with
  | at_ hl hn hc hcell hty =>
    have hi' : i < l.length := by simp [scs] at hl; omega
    exact hcell _ _ (by simp [scs, sAt, hi'])
theorem Vw.slen {w : World} {g : Nat} {v : Value} {n : Nat} {l : List ByteArray} (h : Vw w g 9 1 v n (scs l)) : l.length = n := by
  have := h.len; simp [scs] at this; omega

/-- A map in memory: block b holds the slice of its pairs, which lie in block g. -/
structure Mdl (w : World) (b g : Nat) (l : Pairs) : Prop where
  blk : ∃ v, w.heap[b]? = some (.cells #[v] 34 (0, 0)) ∧ Row w g 77 2 v l.length (pcs l)
  lt : g < w.heap.size
  lo : 8 ≤ b
  lo' : 8 ≤ g

theorem Mdl.ext {w w' : World} {b g : Nat} {l : Pairs} {S : List Nat} (h : Mdl w b g l) (hx : Ext S w w') (h1 : b ∉ S) (h2 : g ∉ S) : Mdl w' b g l := by
  obtain ⟨⟨v, hb, hr⟩, h3, h4, h5⟩ := h
  exact ⟨⟨v, hx.keep hb h1, hr.ext hx h2⟩, Nat.lt_of_lt_of_le h3 hx.size, h4, h5⟩

/-- another name for the block of its pairs, where that is none: fresh, not b, not x -/
theorem Mdl.other {w : World} {b g : Nat} {l : Pairs} (h : Mdl w b g l) (x : Nat) (hx : w.heap.size ≤ x) : ∃ v gi, w.heap[b]? = some (.cells #[v] 34 (0, 0)) ∧ Row w gi 77 2 v l.length (pcs l) ∧ gi ≠ b ∧ gi ≠ x ∧ (gi = g ∨ w.heap.size ≤ gi) := by
  obtain ⟨⟨v, hb, hr⟩, h3, h4, h5⟩ := h
  have hbl := lt_of_block hb
  rcases hr.split with ⟨rfl, h0, h1⟩ | ⟨c, cur, rfl, hnc, hcm, hg, _⟩
  · exact ⟨_, x + 1, hb, by rw [h1, h0]; exact .nil, by omega, by omega, .inr (by omega)⟩
  · refine ⟨_, g, hb, hr, fun e => ?_, by omega, .inl rfl⟩
    subst e
    rw [hb] at hg
    cases hg

set_option maxHeartbeats 400000 in
theorem place_any (b g : Nat) (l : Pairs) (key : ByteArray) (w : World) (hm : Mdl w b g l) (hn : l.length ≤ 4611686018427387903) (hs : Srt l) :
    Calls Tryz.prog 140 #[.pointer (some ⟨b, 0, none⟩), .string key] w fun e w' => e = .returned (.tuple #[.int .i64 (rk l key), .bool (has l key)]) ∧ Ext [] w w' := by
  obtain ⟨⟨v, hb, hr⟩, h3, h4, h5⟩ := hm
  have hc := cell_of_one hb
  have hv := hr.vw
  clear hb hr
  have HS := Lib.hid hs; clear hs
  go_enter Tryz.func140, Tryz.ntmps140
  go_wp2_with fail
  refine (bsearch g v _ l key w hv hn HS.out).mono ?_
  rintro e w1 ⟨rfl, hx⟩
  go_wp2_with fail
  go_ret2
  exact ⟨rfl, hx⟩

theorem check1 (v : ByteArray) (w : World) (h : v.size ≤ 40) :
    Calls Tryz.prog 177 #[.string v] w fun e w' => e = .returned (.bool false) ∧ w = w' := by
  go_enter Tryz.func177, Tryz.ntmps177
  go_wp2
  go_ret
  exact ⟨ret1 (vb (by simp; omega)), rfl⟩

set_option maxHeartbeats 400000 in
theorem indexLong (g : Nat) (v : Value) (n : Nat) (l : List ByteArray) (w : World) (hv : Vw w g 9 1 v n (scs l)) (h40 : ∀ i, i < n → (sAt l i).size ≤ 40) :
    Calls Tryz.prog 205 #[v, .func (.func 177) #[] #[]] w fun e w' => e = .returned (.int .i64 (-1)) ∧ w = w' := by
  have hmx := hv.lenMax
  rcases hv.split with ⟨rfl, rfl, _⟩ | ⟨o, c, rfl, hnc, hcm, _⟩
  · clear hv h40
    go_enter Tryz.func205, Tryz.ntmps205
    go_wp2_with fail
    go_loop [8] (fun iv => iv = .int .i64 0) (fun _ => 0)
    case atStart => exact rfl
    case round =>
      obtain rfl := hrel
      go_wp2
      go_ret
      exact ⟨rfl, rfl⟩
  · go_enter Tryz.func205, Tryz.ntmps205
    go_wp2_with fail
    go_loop [8] (fun iv => ∃ i : Nat, i ≤ n ∧ iv = .int .i64 i) (fun iv => n - (intOf iv).toNat)
    case atStart => exact ⟨0, by omega, rfl⟩
    case round =>
      obtain ⟨i, hi, rfl⟩ := hrel
      by_cases hlt : i < n
      · have h1 := hv.str i hlt
        have h2 := h40 i hlt
        clear hv h40
        go_wp2_with (go_at_call 177; refine (check1 _ _ h2).mono ?_; rintro e w' ⟨rfl, rfl⟩)
        go_round
        case rel => exact ⟨i + 1, by omega, by go_num⟩
        case measure => simp [intOf]; omega
      · clear hv h40
        go_wp2
        go_ret
        exact ⟨rfl, rfl⟩

theorem containsLong (g : Nat) (v : Value) (n : Nat) (l : List ByteArray) (w : World) (hv : Vw w g 9 1 v n (scs l)) (h40 : ∀ i, i < n → (sAt l i).size ≤ 40) :
    Calls Tryz.prog 176 #[v, .func (.func 177) #[] #[]] w fun e w' => e = .returned (.bool false) ∧ w = w' := by
  go_enter Tryz.func176, Tryz.ntmps176
  go_wp2_with (go_at_call 205; refine (indexLong g _ n l _ hv h40).mono ?_; rintro e w' ⟨rfl, rfl⟩)
  go_ret
  exact ⟨rfl, rfl⟩

/-- a key and values that are allowed -/
theorem check_ok (key : ByteArray) (g : Nat) (v : Value) (n : Nat) (l : List ByteArray) (w : World) (hk1 : 1 ≤ key.size) (hk2 : key.size ≤ 24) (hv : Vw w g 9 1 v n (scs l)) (h40 : ∀ i, i < n → (sAt l i).size ≤ 40) :
    Calls Tryz.prog 139 #[.string key, v] w fun e w' => e = .returned (.int .i64 0) ∧ w = w' := by
  have hne := str_ne hk1
  have h24 : decide ((24 : Int) < key.size) = false := by simp; omega
  go_enter Tryz.func139, Tryz.ntmps139
  go_wp2_with (go_at_call 176; refine (containsLong g _ n l _ hv h40).mono ?_; rintro e w' ⟨rfl, rfl⟩)
  go_ret
  exact ⟨rfl, rfl⟩

set_option maxHeartbeats 400000 in
/-- where a key is that is allowed -/
theorem at_ok (b g : Nat) (l : Pairs) (key : ByteArray) (g2 : Nat) (v : Value) (n : Nat) (vals : List ByteArray) (w : World) (hm : Mdl w b g l) (hn : l.length ≤ 4611686018427387903) (hs : Srt l)
    (hk1 : 1 ≤ key.size) (hk2 : key.size ≤ 24) (hv : Vw w g2 9 1 v n (scs vals)) (h40 : ∀ i, i < n → (sAt vals i).size ≤ 40) :
    Calls Tryz.prog 91 #[.pointer (some ⟨b, 0, none⟩), .string key, v] w fun e w' => e = .returned (.tuple #[.int .i64 (rk l key), .bool (has l key), .int .i64 0]) ∧ Ext [] w w' := by
  have HS := Lib.hid hs; clear hs
  go_enter Tryz.func91, Tryz.ntmps91
  go_wp2_with fail
  refine (check_ok key g2 v n vals _ hk1 hk2 hv h40).mono ?_
  rintro e w1 ⟨rfl, rfl⟩
  clear hv h40
  go_wp2_with fail
  refine (place_any b g l key _ hm hn HS.out).mono ?_
  rintro e w1 ⟨rfl, hx⟩
  go_wp2_with fail
  go_ret3
  exact ⟨rfl, hx⟩
end Go.Proofs.YtfadbmfkidiaoaaGreatDoor
