/- Tables of rows: their kinds. Numbers as bytes, in memory. -/
import Derived.Test.YtfadbmfkidiaoaaGreatDoorZ19
import Derived.BigRegion
namespace Go.Proofs.YtfadbmfkidiaoaaGreatDoor
open Go.RowKit Go
set_option linter.unusedSimpArgs false
set_option linter.unusedVariables false
set_option linter.unusedSectionVars false
set_option linter.unnecessarySimpa false

theorem T53 : SlT Tryz.prog 53 52 1 8 := slT_mk (z := .int .i64 0) Tryz.underlying53 (by kernel_rfl) rfl (by omega)
theorem T145 : SlT Tryz.prog 145 53 1 24 := slT_mk (z := .slice none 0 0) Tryz.underlying145 (by kernel_rfl) rfl (by omega)
/-- numbers in a slice -/
def nts (l : List Nat) : List Value := l.map fun (n : Nat) => .int .i64 n
theorem nts_len (l : List Nat) : (nts l).length = l.length := by simp [nts]
theorem nts_app (l m : List Nat) : nts (l ++ m) = nts l ++ nts m := by simp [nts]
theorem nts_one (l : List Nat) : ∀ u ∈ nts l, u.oneCell' = true := by
  intro u hu; simp only [nts, List.mem_map] at hu; obtain ⟨b, _, rfl⟩ := hu; rfl
def nAt (l : List Nat) (i : Nat) : Nat := l.getD i 0
theorem Vw.nt {w : World} {g e o n c : Nat} {l : List Nat} (h : Vw w g e 1 (.slice (some ⟨g, o, none⟩) n c) n (nts l)) (i : Nat) (hi : i < n) : w.cell? ⟨g, o + i, none⟩ = some (.int .i64 (nAt l i : Nat)) := by
  cases h with
  | at_ hl hn hc hcell hty =>
    have hi' : i < l.length := by rw [nts_len] at hl; omega
    refine hcell _ _ ?_
    unfold nts nAt; rw [List.getElem?_map, List.getD_eq_getElem?_getD, List.getElem?_eq_getElem hi']; rfl
theorem Vw.ntlen {w : World} {g e : Nat} {v : Value} {n : Nat} {l : List Nat} (h : Vw w g e 1 v n (nts l)) : l.length = n := by
  have := h.len; rw [nts_len] at this; omega
/-- kinds of cells -/
def Kd (l : List Nat) : Prop := ∀ k ∈ l, 1 ≤ k ∧ k ≤ 4
theorem Kd.at_ {l : List Nat} (h : Kd l) {i : Nat} (hi : i < l.length) : 1 ≤ nAt l i ∧ nAt l i ≤ 4 := by
  unfold nAt; rw [List.getD_eq_getElem?_getD, List.getElem?_eq_getElem hi]; exact h _ (List.getElem_mem hi)

set_option maxHeartbeats 800000 in
theorem kind_any (k : Nat) (w : World) (h : 1 ≤ k ∧ k ≤ 4) : Calls Tryz.prog 126 #[.int .i64 k] w fun e w' => e = .returned (.bool true) ∧ w = w' := by
  go_enter Tryz.func126, Tryz.ntmps126
  go_wp2_with fail
  all_goals first
    | (go_ret
       exact ⟨by simp; omega, rfl⟩)
    | (exfalso; omega)
set_option maxHeartbeats 800000 in
theorem notKind_any (k : Nat) (w : World) (h : 1 ≤ k ∧ k ≤ 4) : Calls Tryz.prog 125 #[.int .i64 k] w fun e w' => e = .returned (.bool false) ∧ w = w' := by
  have hk := kind_any k w h
  go_enter Tryz.func125, Tryz.ntmps125
  go_wp2_with fail
  refine hk.mono ?_
  rintro e w1 ⟨rfl, rfl⟩
  clear hk
  go_wp2_with fail
  go_ret
  exact ⟨rfl, rfl⟩
set_option maxHeartbeats 800000 in
theorem indexKind (g : Nat) (v : Value) (n : Nat) (l : List Nat) (w : World) (hv : Vw w g 52 1 v n (nts l)) (hk : Kd l) :
    Calls Tryz.prog 159 #[v, .func (.func 125) #[] #[]] w fun e w' => e = .returned (.int .i64 (-1)) ∧ w = w' := by
  have hmx := hv.lenMax
  have hll := hv.ntlen
  have hat := fun i (hi : i < n) => hk.at_ (i := i) (by omega)
  obtain ⟨A, c, rfl, _⟩ := hv.form
  clear hk
  go_enter Tryz.func159, Tryz.ntmps159
  go_wp2_with fail
  go_loopw [8] (fun iv wl => ∃ i : Nat, iv = .int .i64 i ∧ i ≤ n ∧ w = wl) (fun iv _ => n - (intOf iv).toNat)
  case atStart => exact ⟨0, rfl, Nat.zero_le _, rfl⟩
  case round =>
    obtain ⟨i, rfl, hi, rfl⟩ := hrel
    by_cases hlt : i < n
    · obtain ⟨o, rfl⟩ : ∃ o, A = some ⟨g, o, none⟩ := by
        rcases hv.split with ⟨_, h0, _⟩ | ⟨o, c', h1, _⟩
        · omega
        · injection h1 with h1 _ _; exact ⟨o, h1⟩
      have hc := hv.nt i hlt
      have hnk := notKind_any _ w (hat i hlt)
      generalize nAt l i = k at *
      clear hat
      go_wp2_with fail
      refine hnk.mono ?_
      rintro e w1 ⟨rfl, rfl⟩
      clear hnk
      go_wp2_with fail
      go_roundw
      case rel => exact ⟨i + 1, by go_num, by omega, by trivial⟩
      case measure => simp [intOf]; omega
    · clear hat
      go_wp2_with fail
      go_ret
      exact ⟨rfl, rfl⟩
set_option maxHeartbeats 800000 in
theorem containsKind (g : Nat) (v : Value) (n : Nat) (l : List Nat) (w : World) (hv : Vw w g 52 1 v n (nts l)) (hk : Kd l) :
    Calls Tryz.prog 123 #[v, .func (.func 125) #[] #[]] w fun e w' => e = .returned (.bool false) ∧ w = w' := by
  have h := indexKind g v n l w hv hk
  obtain ⟨A, c, rfl, _⟩ := hv.form
  clear hv hk
  go_enter Tryz.func123, Tryz.ntmps123
  go_wp2_with fail
  refine h.mono ?_
  rintro e w1 ⟨rfl, rfl⟩
  clear h
  go_wp2_with fail
  go_ret
  exact ⟨rfl, rfl⟩

section
variable {P : Program} {w : World} {t e sz by_ : Nat} {ops : Array Oper} {rest : List Oper} {o : Oper} {a : Act} {Q : Exit → Act → World → Prop}
/-- append(nil, make([]T, m)...) -/
theorem run_append_make_nil (T : SlT P t e sz by_) (ti : Nat) {ki : IntKind} (hti : P.underlying ti = some (.int ki)) (ty : TypeId) {m : Nat} (hm : 1 ≤ m) (hb : m * by_ ≤ 140737488355328) (h63 : m ≤ 9223372036854775807) :
    ∃ (c' : Nat) (zs : List Value) (w' : World), (Builtin.append_ #[t, ti] ty #[.slice none 0 0, .int .i64 m]).run P w = .ok (.slice (some ⟨w.heap.size, 0, none⟩) m c') w' ∧
      Row w' w.heap.size e sz (.slice (some ⟨w.heap.size, 0, none⟩) m c') m zs ∧ Ext [] w w' := by
  obtain ⟨ht, ⟨i, z, hi, hz, hsz, hby, hzs⟩, h0⟩ := T
  have hw : IntKind.i64.wrap (m : Int) = m := IntWalk.i64_in _ (by omega)
  have h63' : ¬ (9223372036854775807 < (m : Int)) := by omega
  have h48 : ¬ ((281474976710656 : Int) < (m : Int) * (by_ : Int)) := by
    rw [← Int.natCast_mul]; omega
  have h48' : ¬ (281474976710656 < Builtin.nextslicecap m 0 * by_) := by have := growslice_fits (need := m) (old := 0) (bytes := by_) (by omega) hb; omega
  have hm0 : ¬ ((m : Int) < 0) := by omega
  have hmz : m ≠ 0 := by omega
  have hne : m * sz ≠ 0 := by have := Nat.mul_pos (by omega : 0 < m) h0; omega
  have hms : sz ≠ 0 := by omega
  refine ⟨grownCap w m 0 e, (Builtin.zeroCells z.cells m).toList, w.drew.alloc (.cells (Builtin.zeroCells z.cells m ++ Builtin.zeroCells z.cells (grownCap w m 0 e - m)) e), ?_, ?_, ?_⟩
  · simp [Builtin.append_, run_underlying ht, run_underlying hti, sizeOf, typeInfo, zeroValue, hi, hz, hsz, hby, asInt, asIntOf, hw, hm0, h48, hmz, h63', h48', Question.forced, Builtin.firstCells, hne, hms, newRow, grownCap, Builtin.lenOf, run_firstCells_none]
  · have hlen : (Builtin.zeroCells z.cells m).toList.length = m * sz := by rw [Array.length_toList, zeroCells_size, hzs]
    have hge := grownCap_ge w m 0 e
    refine .at_ _ hlen hge (grownCap_le_maxLen w m 0 e (by simp only [maxLen]; omega)) (heap_alloc_new w.drew _) ?_ ?_
    · simp only [Array.size_append, zeroCells_size, hzs, ← Nat.add_mul]
      congr 1; omega
    · simp only [Array.toList_append, ← hlen]
      exact List.take_left
  · exact (Ext.refl [] w).drew.alloc _
theorem wpList_append_make_nil (T : SlT P t e sz by_) (ti : Nat) {ki : IntKind} (hti : P.underlying ti = some (.int ki)) (hgd : o.guard = none) (sO xO : Operand)
    (ho : o.op = .call { callee := .builtin .append, args := #[sO, xO], argTypes := #[t, ti] }) {m : Nat} (hs : a.eval sO = .slice none 0 0) (hx : a.eval xO = .int .i64 m)
    (hm : 1 ≤ m) (hb : m * by_ ≤ 140737488355328) (h63 : m ≤ 9223372036854775807)
    (h : ∀ (c' : Nat) (zs : List Value) (w' : World), Row w' w.heap.size e sz (.slice (some ⟨w.heap.size, 0, none⟩) m c') m zs → Ext [] w w' →
      wpList P ops Q rest (a.put o.dst (.slice (some ⟨w.heap.size, 0, none⟩) m c')) w') : wpList P ops Q (o :: rest) a w := by
  obtain ⟨c', zs, w', hrun, hr, hx'⟩ := run_append_make_nil T ti hti o.type hm hb h63
  refine wpList_plain hgd fun _ hK => ?_
  unfold Oper.wp execOp
  simp only [ho, resolve, invoke, builtin, Sem.run_bind, Sem.run_pure, Result.andThen_ok, List.map_toArray, List.map_cons, List.map_nil, hs, hx]
  rw [hrun]
  exact hK _ _ (h c' zs w' hr hx')
end
/-- nothing of a row -/
theorem Row.zero {w : World} {g e sz : Nat} {n c : Nat} {cs : List Value} (h : Row w g e sz (.slice (some ⟨g, 0, none⟩) n c) n cs) : Row w g e sz (.slice (some ⟨g, 0, none⟩) 0 c) 0 [] := by
  cases h with
  | at_ cur hl hn hc hb hs ht => exact .at_ cur (by simp) (Nat.zero_le _) hc hb hs (by simp)
set_option maxHeartbeats 800000 in
theorem growKind (n : Nat) (w : World) (h1 : 1 ≤ n) (h2 : n ≤ 16) :
    Calls Tryz.prog 160 #[.slice none 0 0, .int .i64 n] w fun e w' => ∃ c, e = .returned (.slice (some ⟨w.heap.size, 0, none⟩) 0 c) ∧ Row w' w.heap.size 52 1 (.slice (some ⟨w.heap.size, 0, none⟩) 0 c) 0 [] ∧ Ext [] w w' := by
  go_enter Tryz.func160, Tryz.ntmps160
  go_wp2_with (with_reducible refine wpList_append_make_nil T53 3 Tryz.underlying3 rfl (.tmp 20) (.tmp 21) rfl rfl rfl h1 (by omega) (by omega) ?_; rintro c' zs w' hr hx)
  go_ret
  exact ⟨c', rfl, hr.zero, hx⟩
def catN (i n m : Nat) : Nat := if i = 0 then 0 else if i = 1 then n else n + m
def catL (i : Nat) (a b : List Nat) : List Nat := if i = 0 then [] else if i = 1 then a else a ++ b
set_option maxRecDepth 100000 in
set_option maxHeartbeats 1600000 in
theorem concatKind (B ga gb : Nat) (va vb : Value) (n m : Nat) (a b : List Nat) (w : World) (c0 : w.cell? ⟨B, 0, none⟩ = some va) (c1 : w.cell? ⟨B, 1, none⟩ = some vb) (hva : Vw w ga 52 1 va n (nts a)) (hvb : Vw w gb 52 1 vb m (nts b)) (h1 : 1 ≤ n) (hn : n ≤ 8) (hm : m ≤ 8) :
    Calls Tryz.prog 124 #[.slice (some ⟨B, 0, none⟩) 2 2] w fun e w' => ∃ g' c', e = .returned (.slice (some ⟨g', 0, none⟩) (n + m) c') ∧ Row w' g' 52 1 (.slice (some ⟨g', 0, none⟩) (n + m) c') (n + m) (nts (a ++ b)) ∧ w.heap.size ≤ g' ∧ Ext [] w w' := by
  obtain ⟨Aa, ca, rfl, _⟩ := hva.form
  obtain ⟨Ab, cb, rfl, _⟩ := hvb.form
  have hg := growKind (n + m) w (by omega) (by omega)
  have hal := hva.ntlen
  have hbl := hvb.ntlen
  go_enter Tryz.func124, Tryz.ntmps124
  go_wp2_with fail
  go_loopw [3, 11] (fun sv iv wl => ∃ i : Nat, iv = .int .i64 i ∧ i ≤ 2 ∧ sv = .int .i64 (catN i n m : Nat) ∧ w = wl) (fun _ iv _ => 2 - (intOf iv).toNat)
  case atStart => exact ⟨0, rfl, Nat.zero_le _, rfl, rfl⟩
  case round =>
    obtain ⟨i, rfl, hi, rfl, rfl⟩ := hrel
    rcases (show i = 0 ∨ i = 1 ∨ i = 2 by omega) with rfl | rfl | rfl
    · clear hg
      have e0 : catN 0 n m = 0 := rfl
      rw [e0]
      clear e0
      go_wp2_with fail
      go_roundw
      case rel => exact ⟨1, by go_num, by omega, by simp [catN], by trivial⟩
      case measure => simp [intOf]
    · clear hg
      have e0 : catN 1 n m = n := rfl
      rw [e0]
      clear e0
      go_wp2_with fail
      go_roundw
      case rel => exact ⟨2, by go_num, by omega, by simp [catN], by trivial⟩
      case measure => simp [intOf]
    · have e0 : catN 2 n m = n + m := rfl
      rw [e0]
      clear e0
      go_wp2_with fail
      refine hg.mono ?_
      rintro e w1 ⟨c1', rfl, hr1, hx1⟩
      clear hg
      go_wp2_with fail
      go_loopw [6, 27] (fun sv iv wl => ∃ (i : Nat) (A : Option Addr) (c' go : Nat), iv = .int .i64 i ∧ i ≤ 2 ∧ sv = .slice A (catN i n m) c' ∧ Row wl go 52 1 (.slice A (catN i n m) c') (catN i n m) (nts (catL i a b)) ∧ w.heap.size ≤ go ∧ Ext [] w wl) (fun _ iv _ => 2 - (intOf iv).toNat)
      case atStart => exact ⟨0, _, c1', w.heap.size, rfl, Nat.zero_le _, rfl, hr1, Nat.le_refl _, hx1⟩
      case round =>
        clear hr1 hx1
        obtain ⟨i, A, c', go, rfl, hi, rfl, hro, hgo, hx⟩ := hrel
        have k0 := hx.cell c0 (by simp)
        have k1 := hx.cell c1 (by simp)
        have hva' := hva.ext hx (by simp)
        have hvb' := hvb.ext hx (by simp)
        rcases (show i = 0 ∨ i = 1 ∨ i = 2 by omega) with rfl | rfl | rfl
        · have e0 : catN 0 n m = 0 := rfl
          have e1 : catL 0 a b = [] := rfl
          rw [e0] at hro ⊢
          rw [e1] at hro
          clear e0 e1
          have hone := nts_one a
          go_wp2_with ((with_reducible refine wpList_append T53 rfl (.tmp 31) (.tmp 32) rfl rfl rfl hro hva' hone (by omega) (by omega) ?_); rintro g9 A9 c9 w9 hr9 hx9 hg9 hA9 _ _)
          have e3 : catN 1 n m = 0 + n := by simp [catN]
          have s9 := hx.size
          go_roundw
          case rel =>
            refine ⟨1, A9, c9, g9, by go_num, by omega, by simp [catN], ?_, by omega, hx.step hx9 (by simp; omega)⟩
            rw [e3]; exact hr9
          case measure => simp [intOf]
        · have e0 : catN 1 n m = n := rfl
          have e1 : catL 1 a b = a := rfl
          rw [e0] at hro ⊢
          rw [e1] at hro
          clear e0 e1
          have hone := nts_one b
          go_wp2_with ((with_reducible refine wpList_append T53 rfl (.tmp 31) (.tmp 32) rfl rfl rfl hro hvb' hone (by omega) (by omega) ?_); rintro g9 A9 c9 w9 hr9 hx9 hg9 hA9 _ _)
          have e3 : catN 2 n m = n + m := by simp [catN]
          have e4 : catL 2 a b = a ++ b := rfl
          have s9 := hx.size
          go_roundw
          case rel =>
            refine ⟨2, A9, c9, g9, by go_num, by omega, by rw [e3], ?_, by omega, hx.step hx9 (by simp; omega)⟩
            rw [e3, e4, nts_app]; exact hr9
          case measure => simp [intOf]
        · have e0 : catN 2 n m = n + m := rfl
          have e1 : catL 2 a b = a ++ b := rfl
          rw [e0] at hro ⊢
          rw [e1] at hro
          clear e0 e1
          go_wp2_with fail
          go_ret
          obtain ⟨A', cc, hh, hA', _⟩ := hro.form
          injection hh with h1' h2' h3'
          obtain rfl : A = some ⟨go, 0, none⟩ := by rw [h1']; exact hA' (by omega)
          exact ⟨go, c', rfl, hro, hgo, hx⟩
set_option maxRecDepth 100000 in
set_option maxHeartbeats 1600000 in
/-- a valid table -/
theorem valid_any (num n m ga gb : Nat) (va vb : Value) (a b : List Nat) (w : World) (hva : Vw w ga 52 1 va n (nts a)) (hvb : Vw w gb 52 1 vb m (nts b)) (h0 : 1 ≤ num ∧ num ≤ 255) (h1 : 1 ≤ n) (hn : n ≤ 8) (hm : m ≤ 8) (ha : Kd a) (hb : Kd b) :
    Calls Tryz.prog 68 #[.agg #[.int .i64 num, va, vb]] w fun e w' => e = .returned (.bool true) ∧ Ext [] w w' := by
  have hx0 : Ext [] w ((w.alloc (.cells #[.int .i64 num, va, vb] 55)).alloc (.cells #[va, vb] 53)) := ((Ext.refl [] w).alloc _).alloc _
  have hB := heap_alloc_new (w.alloc (.cells #[.int .i64 num, va, vb] 55)) (.cells #[va, vb] 53)
  rw [World.size_alloc] at hB
  have hcc := concatKind (w.heap.size + 1) ga gb va vb n m a b _ (cell_of_row _ _ 0 _ _ _ hB) (cell_of_row _ _ 1 _ _ _ hB) (hva.ext hx0 (by simp)) (hvb.ext hx0 (by simp)) h1 hn hm
  have hck := fun g v w h => containsKind g v (n + m) (a ++ b) w h (fun k hk => (List.mem_append.1 hk).elim (ha k) (hb k))
  obtain ⟨Aa, ca, rfl, _⟩ := hva.form
  obtain ⟨Ab, cb, rfl, _⟩ := hvb.form
  clear hB hva hvb
  go_enter Tryz.func68, Tryz.ntmps68
  go_wp2_with fail
  refine hcc.mono ?_
  rintro e w1 ⟨g', c', rfl, hr, hg, hx1⟩
  have hc2 := hck _ _ _ hr.vw
  clear hcc hck
  go_wp2_with fail
  refine hc2.mono ?_
  rintro e w2 ⟨rfl, rfl⟩
  go_wp2_with fail
  go_ret
  exact ⟨rfl, hx0.trans hx1⟩
end Go.Proofs.YtfadbmfkidiaoaaGreatDoor

namespace Go.Proofs.YtfadbmfkidiaoaaGreatDoor
open Go.RowKit Go
set_option linter.unusedSimpArgs false
set_option linter.unusedVariables false
set_option linter.unusedSectionVars false
set_option linter.unnecessarySimpa false

set_option maxHeartbeats 800000 in
theorem reverse_small (g : Nat) (v : Value) (n : Nat) (l : List UInt8) (w : World) (hr : Row w g 5 1 v n (bcs l)) (hn : n ≤ 2) :
    Calls Tryz.prog 220 #[v] w fun e w' => (∃ x, e = .returned x) ∧ Row w' g 5 1 v n (bcs l.reverse) ∧ Ext [g] w w' := by
  have hl : l.length = n := by have := hr.len; simp [bcs] at this; omega
  rcases l with _ | ⟨a, _ | ⟨b, _ | ⟨c0, l⟩⟩⟩
  · --
    obtain rfl : n = 0 := by simpa using hl.symm
    obtain ⟨A, c, rfl, _⟩ := hr.form
    go_enter Tryz.func220, Tryz.ntmps220
    go_wp2_with fail
    go_loopw [2, 3] (fun iv jv wl => iv = .int .i64 0 ∧ jv = .int .i64 (-1) ∧ w = wl) (fun _ _ _ => 0)
    case atStart => exact ⟨rfl, rfl, rfl⟩
    case round =>
      obtain ⟨rfl, rfl, rfl⟩ := hrel
      go_wp2_with fail
      go_end0
      exact ⟨⟨_, rfl⟩, hr, Ext.refl _ _⟩
  · --
    obtain rfl : n = 1 := by simpa using hl.symm
    obtain ⟨A, c, rfl, _⟩ := hr.form
    go_enter Tryz.func220, Tryz.ntmps220
    go_wp2_with fail
    go_loopw [2, 3] (fun iv jv wl => iv = .int .i64 0 ∧ jv = .int .i64 0 ∧ w = wl) (fun _ _ _ => 0)
    case atStart => exact ⟨rfl, rfl, rfl⟩
    case round =>
      obtain ⟨rfl, rfl, rfl⟩ := hrel
      go_wp2_with fail
      go_end0
      exact ⟨⟨_, rfl⟩, hr, Ext.refl _ _⟩
  · --
    obtain rfl : n = 2 := by simpa using hl.symm
    rcases hr.split with ⟨_, h0, _⟩ | ⟨c, cur, rfl, hnc, hcm, hb, hs, ht⟩
    · omega
    · have hcs : cur.size = c := by omega
      have ht' : cur.toList.take 2 = [.int .u8 (a.toNat : Int), .int .u8 (b.toNat : Int)] := by simpa [bcs] using ht
      have k0 : w.cell? ⟨g, 0, none⟩ = some (.int .u8 (a.toNat : Int)) := by
        rw [cell_of_row w g 0 cur 5 (0, 0) hb, ← Array.getElem?_toList]
        have := congrArg (·[0]?) ht'
        simpa using this
      have k1 : w.cell? ⟨g, 1, none⟩ = some (.int .u8 (b.toNat : Int)) := by
        rw [cell_of_row w g 1 cur 5 (0, 0) hb, ← Array.getElem?_toList]
        have := congrArg (·[1]?) ht'
        simpa using this
      have f0 : w.frozen? ⟨g, 0, none⟩ = false := frozen_of_row w g 0 _ _ hb
      have f1 : w.frozen? ⟨g, 1, none⟩ = false := frozen_of_row w g 1 _ _ hb
      have hend : ∀ W : World, W.heap = ((w.setCell ⟨g, 0, none⟩ (.int .u8 (b.toNat : Int))).setCell ⟨g, 1, none⟩ (.int .u8 (a.toNat : Int))).heap → Row W g 5 1 (.slice (some ⟨g, 0, none⟩) 2 c) 2 (bcs [b, a]) := by
        intro W hW
        refine .at_ ((cur.setIfInBounds 0 (.int .u8 (b.toNat : Int))).setIfInBounds 1 (.int .u8 (a.toNat : Int))) (by simp [bcs]) hnc hcm ?_ (by simp; omega) ?_
        · rw [hW]; exact heap_setCell_same _ g 1 _ _ _ (heap_setCell_same w g 0 _ _ _ hb)
        · refine List.ext_getElem? fun i => ?_
          have h2 := congrArg List.length ht'
          simp only [List.length_take, Array.length_toList, List.length_cons, List.length_nil] at h2
          rcases (show i = 0 ∨ i = 1 ∨ 2 ≤ i by omega) with rfl | rfl | h
          · simp [bcs]; rw [List.getElem?_set_self (by simp; omega)]
          · simp [bcs]; rw [List.getElem?_set_self (by simp; omega)]
          · rw [List.getElem?_eq_none (by simp; omega), List.getElem?_eq_none (by simp [bcs]; omega)]
      clear hb hs ht ht' hcs hr
      go_enter Tryz.func220, Tryz.ntmps220
      go_wp2_with fail
      go_loopw [2, 3] (fun iv jv wl => (iv = .int .i64 0 ∧ jv = .int .i64 1 ∧ wl = w) ∨ (iv = .int .i64 1 ∧ jv = .int .i64 0 ∧ Row wl g 5 1 (.slice (some ⟨g, 0, none⟩) 2 c) 2 (bcs [b, a]) ∧ Ext [g] w wl)) (fun iv _ _ => 2 - (intOf iv).toNat)
      case atStart => exact .inl ⟨rfl, rfl, rfl⟩
      case round =>
        rcases hrel with ⟨rfl, rfl, rfl⟩ | ⟨rfl, rfl, hr2, hx2⟩
        · go_wp2_with fail
          go_region
          all_goals (
            go_wp2_with fail
            go_roundw
            case rel => exact .inr ⟨rfl, rfl, hend _ rfl, (((Ext.refl _ wr).setCell (.inl (by simp)) _).setCell (.inl (by simp)) _).drew⟩
            case measure => simp [intOf])
        · go_wp2_with fail
          go_end0
          exact ⟨⟨_, rfl⟩, hr2, hx2⟩
  · simp at hl; omega

theorem dgR_step {n : Nat} (h : n ≠ 0) : dgR n = UInt8.ofNat n :: dgR (n / 256) := by
  rw [dgR_pos h]; congr 1
  apply UInt8.toNat_inj.1; simp
set_option maxHeartbeats 1600000 in
theorem digits_any (n : Nat) (w : World) (hn : n < 65536) :
    Calls Tryz.prog 199 #[.int .u64 n] w fun e w' => ∃ g' v', e = .returned v' ∧ Row w' g' 5 1 v' (dgB n).length (bcs (dgB n)) ∧ w.heap.size ≤ g' ∧ (dgB n).length ≤ 2 ∧ Ext [] w w' := by
  have h2 : (dgR n).length ≤ 2 := dgR_len (by simpa using hn)
  have hdl : (dgB n).length = (dgR n).length := by simp [dgB]
  go_enter Tryz.func199, Tryz.ntmps199
  go_wp2_with fail
  go_loopw [0, 3] (fun mv sv wl => ∃ (m : Nat) (acc : List UInt8) (A : Option Addr) (c' go : Nat), mv = .int .u64 m ∧ m ≤ n ∧ sv = .slice A acc.length c' ∧ dgR n = acc ++ dgR m ∧ Row wl go 5 1 (.slice A acc.length c') acc.length (bcs acc) ∧ w.heap.size ≤ go ∧ Ext [] w wl) (fun mv _ _ => (intOf mv).toNat)
  case atStart => exact ⟨n, [], none, 0, w.heap.size, rfl, Nat.le_refl _, rfl, rfl, .nil, Nat.le_refl _, Ext.refl _ _⟩
  case round =>
    obtain ⟨m, acc, A, c', go, rfl, hm, rfl, hd, hro, hgo, hx⟩ := hrel
    have hal : acc.length ≤ 2 := by have := congrArg List.length hd; simp at this; omega
    by_cases h0 : m = 0
    · subst h0
      rw [dgR_zero, List.append_nil] at hd
      have hrv := reverse_small go _ acc.length acc wr hro hal
      have hrl : bcs acc.reverse = bcs (dgB n) := by rw [dgB, hd]
      rw [hrl] at hrv
      have hdl2 : acc.length = (dgB n).length := by rw [hdl, hd]
      have HD := Lib.hid hd; clear hd
      have HL := Lib.hid hdl2; clear hdl2
      clear hdl hrl
      go_wp2_with fail
      refine hrv.mono ?_
      rintro e w2 ⟨⟨x, rfl⟩, hr2, hx2⟩
      clear hrv
      go_wp2_with fail
      go_ret
      exact ⟨go, _, rfl, by rw [← HL.out]; exact hr2, hgo, by have := HL.out; omega, hx.step hx2 (by simp; omega)⟩
    · rw [dgR_step h0] at hd
      have hn1 : ∀ W : World, Row (W.alloc (.cells #[.int .u8 ((m : Int) % 256)] 5)) W.heap.size 5 1 (.slice (some ⟨W.heap.size, 0, none⟩) 1 1) 1 (bcs [UInt8.ofNat m]) := fun W => by
        have := Row.new W 5 1 #[.int .u8 ((m : Int) % 256)] 1 1 (by omega) (by simp [maxLen]) rfl
        have e : (#[Value.int .u8 ((m : Int) % 256)].toList.take (1 * 1)) = bcs [UInt8.ofNat m] := by simp [bcs, u8_of]
        rwa [e] at this
      have hro1 := fun o => hro.ext ((Ext.refl [] wr).alloc o) (by simp)
      have hone : ∀ u ∈ bcs [UInt8.ofNat m], u.oneCell' = true := bcs_one _
      have HD := Lib.hid hd; clear hd
      have hdiv : m / 256 < m := by omega
      go_wp2_with ((with_reducible refine wpList_append T104 rfl (.tmp 8) (.tmp 11) rfl rfl rfl (hro1 _) (hn1 _).vw hone (by omega) (by omega) ?_); rintro g9 A9 c9 w9 hr9 hx9 hg9 hA9 _ _; obtain rfl := hA9 (by omega))
      have hxa : Ext [go] wr w9 := ((Ext.refl [go] wr).alloc _).trans hx9
      have s9 := hx.size
      simp only [World.size_alloc] at hg9
      have hsh : ((m : Int) / 256) = ((m / 256 : Nat) : Int) := by omega
      go_roundw
      case rel =>
        refine ⟨m / 256, acc ++ [UInt8.ofNat m], some ⟨g9, 0, none⟩, c9, g9, ?_, by omega, by simp, by rw [HD.out]; simp, ?_, by omega, hx.step hxa (by simp; omega)⟩
        · rw [hsh]
        · rw [List.length_append, bcs_append]; exact hr9
      case measure => simp [intOf]; omega
end Go.Proofs.YtfadbmfkidiaoaaGreatDoor
