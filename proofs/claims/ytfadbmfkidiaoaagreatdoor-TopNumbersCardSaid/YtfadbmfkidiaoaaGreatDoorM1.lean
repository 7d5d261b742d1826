/- The plain map of the program, first part: keys compared, a place searched, a key and its values checked. -/
import Derived.Test.YtfadbmfkidiaoaaGreatDoorBase
import Derived.Test.YtfadbmfkidiaoaaGreatDoorPure
import Derived.Test.YtfadbmfkidiaoaaGreatDoorShelf
namespace Go.Proofs.YtfadbmfkidiaoaaGreatDoor
open Go.RowKit Go

def pcs (l : Pairs) : List Value := l.flatMap fun p => [.string p.1, .string p.2]
theorem pcs_len (l : Pairs) : (pcs l).length = l.length * 2 := by
  unfold pcs; induction l with
  | nil => rfl
  | cons p l ih => simp [ih]; omega
theorem pcs_append (l m : Pairs) : pcs (l ++ m) = pcs l ++ pcs m := by simp [pcs]
theorem pcs_get (l : Pairs) (i : Nat) (h : i < l.length) : (pcs l)[i * 2]? = some (.string (kAt l i)) ∧ (pcs l)[i * 2 + 1]? = some (.string (vAt l i)) := by
  induction l generalizing i with
  | nil => simp at h
  | cons p l ih =>
    cases i with
    | zero => simp [pcs, kAt, vAt]
    | succ i =>
      have := ih i (by simpa using h)
      have e1 : (i + 1) * 2 = i * 2 + 1 + 1 := by omega
      have e2 : (i + 1) * 2 + 1 = i * 2 + 1 + 1 + 1 := by omega
      simp only [e1, pcs, List.flatMap_cons, List.cons_append, List.getElem?_cons_succ, List.nil_append]
      exact ⟨by rw [show kAt (p :: l) (i + 1) = kAt l i by simp [kAt]]; exact this.1, by rw [show vAt (p :: l) (i + 1) = vAt l i by simp [vAt]]; exact this.2⟩
theorem pcs_one (l : Pairs) : ∀ u ∈ pcs l, u.oneCell' = true := by
  intro u hu
  simp only [pcs, List.mem_flatMap] at hu
  obtain ⟨p, _, hp⟩ := hu
  simp at hp
  rcases hp with rfl | rfl <;> rfl

/-- the cells of a list of pairs that is read -/
theorem Vw.pair {w : World} {g o n c : Nat} {l : Pairs} (h : Vw w g 77 2 (.slice (some ⟨g, o, none⟩) n c) n (pcs l)) (i : Nat) (hi : i < n) :
    w.cell? ⟨g, o + i * 2, none⟩ = some (.string (kAt l i)) ∧ w.cell? ⟨g, o + i * 2 + 1, none⟩ = some (.string (vAt l i)) := by
  cases h with
  | at_ hl hn hc hcell hty =>
    have hi' : i < l.length := by rw [pcs_len] at hl; omega
    have := pcs_get l i hi'
    exact ⟨hcell _ _ this.1, by rw [Nat.add_assoc]; exact hcell _ _ this.2⟩
theorem Vw.plen {w : World} {g : Nat} {v : Value} {n : Nat} {l : Pairs} (h : Vw w g 77 2 v n (pcs l)) : l.length = n := by
  have := h.len; rw [pcs_len] at this; omega

theorem cmp_any (a b : ByteArray) (w : World) :
    Calls Tryz.prog 206 #[.string a, .string b] w fun e w' => e = .returned (.int .i64 (cmpS a b)) ∧ w = w' :=
  (Tryz.strings_Compare a b w).mono fun _ _ ⟨h, k⟩ => ⟨h, k.symm⟩
theorem keysCompare (a b : ByteArray) (w : World) :
    Calls Tryz.prog 180 #[.string a, .string b] w fun e w' => e = .returned (.int .i64 (cmpS a b)) ∧ w = w' := by
  go_enter Tryz.func180, Tryz.ntmps180
  go_wp2_with (go_at_call 206; refine (cmp_any _ _ _).mono ?_; rintro e w' ⟨rfl, rfl⟩)
  go_ret
  exact ⟨rfl, rfl⟩
theorem place1 (k v key : ByteArray) (w : World) :
    Calls Tryz.prog 179 #[.agg #[.string k, .string v], .string key] w fun e w' => e = .returned (.int .i64 (cmpS k key)) ∧ Ext [] w w' := by
  go_enter Tryz.func179, Tryz.ntmps179
  go_wp2_with (go_at_call 180; refine (keysCompare _ _ _).mono ?_; rintro e w' ⟨rfl, rfl⟩)
  go_ret
  exact ⟨rfl, (Ext.refl _ _).alloc _⟩

set_option maxHeartbeats 400000 in
theorem bsearch (g : Nat) (v : Value) (n : Nat) (l : Pairs) (key : ByteArray) (w : World) (hv : Vw w g 77 2 v n (pcs l)) (hn : n ≤ 4611686018427387903) (hs : Srt l) :
    Calls Tryz.prog 178 #[v, .string key, .func (.func 179) #[] #[]] w fun e w' => e = .returned (.tuple #[.int .i64 (rk l key), .bool (has l key)]) ∧ Ext [] w w' := by
  have hlen := hv.plen
  have hrk := rk_le l key
  have HS := Lib.hid hs; clear hs
  rcases hv.split with ⟨rfl, rfl, _⟩ | ⟨o, c, rfl, hnc, hcm, _⟩
  · have hl0 : l = [] := List.eq_nil_of_length_eq_zero hlen
    subst hl0
    clear hv hlen hrk
    go_enter Tryz.func178, Tryz.ntmps178
    go_wp2_with fail
    go_loopw [9, 10] (fun iv jv wr => iv = .int .i64 0 ∧ jv = .int .i64 0 ∧ Ext [] w wr) (fun _ _ _ => 0)
    case atStart => exact ⟨rfl, rfl, Ext.refl _ _⟩
    case round =>
      obtain ⟨rfl, rfl, hx⟩ := hrel
      go_wp2
      go_ret2
      exact ⟨by simp [rk, has], hx⟩
  · go_enter Tryz.func178, Tryz.ntmps178
    go_wp2_with fail
    go_loopw [9, 10] (fun iv jv wr => ∃ i j : Nat, i ≤ rk l key ∧ rk l key ≤ j ∧ j ≤ n ∧ iv = .int .i64 i ∧ jv = .int .i64 j ∧ Ext [] w wr) (fun iv jv _ => (intOf jv).toNat - (intOf iv).toNat)
    case atStart => exact ⟨0, n, by omega, by omega, by omega, rfl, rfl, Ext.refl _ _⟩
    case round =>
      obtain ⟨i, j, hij, hjn, hf, rfl, rfl, hx⟩ := hrel
      have hvr := hv.ext hx (by simp)
      by_cases hlt : i < j
      · obtain ⟨h1, h2⟩ := hvr.pair ((i + j) / 2) (by omega)
        clear hvr
        go_wp2_with fail
        refine (place1 _ _ _ _).mono ?_
        rintro e w1 ⟨rfl, hx1⟩
        clear h1 h2
        go_wp2_with fail
        · have h : cmpS (kAt l ((i + j) / 2)) key < 0 := by assumption
          have := rk_gt HS.out (i := (i + j) / 2) (by omega) ((cmpS_lt _ _).1 h)
          go_roundw
          case rel => exact ⟨(i + j) / 2 + 1, j, by omega, by omega, by omega, by go_num, rfl, hx.trans hx1⟩
          case measure => simp [intOf]; omega
        · have h : 0 ≤ cmpS (kAt l ((i + j) / 2)) key := by assumption
          have := rk_ge (l := l) (k := key) (i := (i + j) / 2) (fun hk => by have := (cmpS_lt _ _).2 hk; omega) (by omega)
          go_roundw
          case rel => exact ⟨i, (i + j) / 2, by omega, by omega, by omega, rfl, by go_num, hx.trans hx1⟩
          case measure => simp [intOf]; omega
      · obtain rfl : i = rk l key := by omega
        by_cases hin : rk l key < n
        · obtain ⟨h1, h2⟩ := hvr.pair (rk l key) hin
          clear hvr
          go_wp2_with fail
          refine (place1 _ _ _ _).mono ?_
          rintro e w1 ⟨rfl, hx1⟩
          clear h1 h2
          go_wp2_with fail
          go_ret2
          refine ⟨ret2 rfl (vb ?_), hx.trans hx1⟩
          rw [Bool.eq_iff_iff]
          simp only [beq_iff_eq, has, decide_eq_true_eq, cmpS_eq]
          exact ⟨fun h => ⟨by omega, h⟩, fun h => h.2⟩
        · go_wp2_with fail
          go_ret2
          refine ⟨ret2 rfl (vb ?_), hx⟩
          rw [eq_comm]
          simp only [has, decide_eq_false_iff_not]
          omega
end Go.Proofs.YtfadbmfkidiaoaaGreatDoor
