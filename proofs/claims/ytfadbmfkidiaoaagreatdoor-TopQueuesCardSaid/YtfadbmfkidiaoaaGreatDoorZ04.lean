/- More laws of slices: copy into a block of one's own, append of zeros, append of a string, a part of a slice. -/
import Derived.Test.YtfadbmfkidiaoaaGreatDoorZ03
namespace Go.Proofs.YtfadbmfkidiaoaaGreatDoor
open Go.RowKit Go

theorem addr_add {g o j : Nat} : (⟨g, o, none⟩ : Addr).add j = ⟨g, o + j, none⟩ := by unfold Addr.add; split <;> simp_all

section
variable {P : Program} {w : World} {t e sz by_ : Nat} {ops : Array Oper} {rest : List Oper} {o : Oper} {a : Act} {Q : Exit → Act → World → Prop}

theorem run_copy (T : SlT P t e sz by_) (ty : TypeId) {g g2 of dLen dCap m k : Nat} {x : Value} {ys : List Value} {cur : Array Value} (hb : w.heap[g]? = some (.cells cur e (0, 0)))
    (hv : Vw w g2 e sz x m ys) (h1 : ∀ u ∈ ys.take (k * sz), u.oneCell' = true) (hk : k = min m dLen) (hfit : of + k * sz ≤ cur.size) :
    (Builtin.copy_ #[t, t] ty #[.slice (some ⟨g, of, none⟩) dLen dCap, x]).run P w =
      .ok (goInt k) (w.setRow g (cur.toList.take of ++ ys.take (k * sz) ++ cur.toList.drop (of + k * sz)).toArray) := by
  obtain ⟨ht, ⟨i, z, hi, hz, hsz, hby, hzs⟩, h0⟩ := T
  have hks : k * sz ≤ ys.length := by rw [hv.len]; exact Nat.mul_le_mul_right _ (by omega)
  have hlen : (ys.take (k * sz)).length = k * sz := by rw [List.length_take]; omega
  have hst := run_storeCells_at P g of e (ys.take (k * sz)) 0 cur w hb (by rw [hlen]; simpa using hfit) h1
  rw [hlen] at hst
  simp only [Nat.add_zero] at hst
  cases hv with
  | nil =>
    obtain rfl : k = 0 := by omega
    simp only [Nat.zero_mul, List.take_zero] at hst ⊢
    simp [Builtin.copy_, run_underlying ht, Builtin.lenOf, Builtin.firstCells, sizeOf, typeInfo, hi, storeCells]
    simp [setRow_self w g cur e (0, 0) hb]
  | at_ hl hn hc hcell hty =>
    rename_i o2 c2
    have hl2 := run_loadCells_list (P := P) w ⟨g2, o2, none⟩ (ys.take (k * sz)) (fun j v hj => by
      rw [addr_add]; rw [List.getElem?_take] at hj; split at hj; exact hcell j v hj; cases hj)
    rw [hlen] at hl2
    have hk' : Nat.min m dLen = k := hk.symm
    simp [Builtin.copy_, run_underlying ht, Builtin.lenOf, Builtin.firstCells, sizeOf, typeInfo, hi, hsz, hk', hl2, hst]

/-- copy in a walk -/
theorem wpList_copy (T : SlT P t e sz by_) (hgd : o.guard = none) (dO xO : Operand)
    (ho : o.op = .call { callee := .builtin .copy, args := #[dO, xO], argTypes := #[t, t] }) {g g2 of dLen dCap m k : Nat} {x : Value} {ys : List Value} {cur : Array Value}
    (hd : a.eval dO = .slice (some ⟨g, of, none⟩) dLen dCap) (hx : a.eval xO = x) (hb : w.heap[g]? = some (.cells cur e (0, 0)))
    (hv : Vw w g2 e sz x m ys) (h1 : ∀ u ∈ ys.take (k * sz), u.oneCell' = true) (hk : k = min m dLen) (hfit : of + k * sz ≤ cur.size)
    (h : ∀ (w' : World) (cur' : Array Value), w'.heap[g]? = some (.cells cur' e (0, 0)) → cur'.toList = cur.toList.take of ++ ys.take (k * sz) ++ cur.toList.drop (of + k * sz) → Ext [g] w w' →
      wpList P ops Q rest (a.put o.dst (goInt k)) w') : wpList P ops Q (o :: rest) a w := by
  have hrun := run_copy T o.type (dCap := dCap) hb hv h1 hk hfit
  refine wpList_plain hgd fun _ hK => ?_
  unfold Oper.wp execOp
  simp only [ho, resolve, invoke, builtin, Sem.run_bind, Sem.run_pure, Result.andThen_ok, List.map_toArray, List.map_cons, List.map_nil, hd, hx, hrun]
  exact hK _ _ (h _ _ (setRow_heap w g cur _ e _ hb) rfl ⟨rfl, rfl, rfl, by simp, fun k _ hk => setRow_other w g k _ (by simpa using hk)⟩)

/-- append(s[:n], make([]T, m)...) where there is no room: a new block -/
theorem run_append_make (T : SlT P t e sz by_) (ti : Nat) {ki : IntKind} (hti : P.underlying ti = some (.int ki)) (ty : TypeId) {g n c m : Nat} {xs : List Value}
    (hv : Vw w g e sz (.slice (some ⟨g, 0, none⟩) n c) n xs) (hroom : c < n + m) (hb : (n + m) * by_ ≤ 140737488355328) (h63 : n + m ≤ 9223372036854775807) :
    ∃ (c' : Nat) (zs : List Value) (w' : World), zs.length = m * sz ∧ (Builtin.append_ #[t, ti] ty #[.slice (some ⟨g, 0, none⟩) n c, .int .i64 m]).run P w = .ok (.slice (some ⟨w.heap.size, 0, none⟩) (n + m) c') w' ∧
      Row w' w.heap.size e sz (.slice (some ⟨w.heap.size, 0, none⟩) (n + m) c') (n + m) (xs ++ zs) ∧ Ext [] w w' := by
  obtain ⟨ht, ⟨i, z, hi, hz, hsz, hby, hzs⟩, h0⟩ := T
  have hnc : n ≤ c := by cases hv with | at_ _ hn _ _ _ => exact hn
  have hcells : ∀ j u, xs[j]? = some u → w.cell? ((⟨g, 0, none⟩ : Addr).add j) = some u := fun j u hj => by
    rw [addr_add]; cases hv with | at_ _ _ _ hc _ => exact hc j u hj
  have hl := run_loadCells_list (P := P) w.drew ⟨g, 0, none⟩ xs (by simpa using hcells)
  rw [hv.len] at hl
  have hw : IntKind.i64.wrap (m : Int) = m := IntWalk.i64_in _ (by omega)
  have hn : ¬ (n + m ≤ c) := by omega
  have h63' : ¬ (9223372036854775807 < ((n : Int) + (m : Int))) := by omega
  have hbm : m * by_ ≤ 140737488355328 := Nat.le_trans (Nat.mul_le_mul_right _ (Nat.le_add_left _ _)) hb
  have h48 : ¬ ((281474976710656 : Int) < (m : Int) * (by_ : Int)) := by
    rw [← Int.natCast_mul]; omega
  have h48' : ¬ (281474976710656 < Builtin.nextslicecap (n + m) c * by_) := by have := growslice_fits hroom hb; omega
  have hm0 : ¬ ((m : Int) < 0) := by omega
  refine ⟨grownCap w (n + m) c e, (Builtin.zeroCells z.cells m).toList, w.drew.alloc (.cells (xs.toArray ++ Builtin.zeroCells z.cells m ++ Builtin.zeroCells z.cells (grownCap w (n + m) c e - (n + m))) e), by simp [zeroCells_size, hzs], ?_, ?_, ?_⟩
  · by_cases hmz : m = 0
    · omega
    · have hne : m * sz ≠ 0 := by
        have := Nat.mul_pos (Nat.pos_of_ne_zero hmz) h0; omega
      simp [Builtin.append_, run_underlying ht, run_underlying hti, sizeOf, typeInfo, zeroValue, hi, hz, hsz, hby, asInt, asIntOf, hw, hm0, h48, hn, h63', h48', Question.forced, Builtin.firstCells, hl, hne, newRow, grownCap]
  · have hlen : (xs ++ (Builtin.zeroCells z.cells m).toList).length = (n + m) * sz := by rw [List.length_append, hv.len, Array.length_toList, zeroCells_size, hzs, Nat.add_mul]
    have hge := grownCap_ge w (n + m) c e
    refine .at_ _ hlen hge (grownCap_le_maxLen w (n + m) c e (by simp only [maxLen]; omega)) (heap_alloc_new w.drew _) ?_ ?_
    · simp only [Array.size_append, List.size_toArray, zeroCells_size, hzs, hv.len, ← Nat.add_mul]
      congr 1; omega
    · simp only [Array.toList_append, ← hlen]
      exact List.take_left
  · exact (Ext.refl [] w).drew.alloc _

theorem wpList_append_make (T : SlT P t e sz by_) (ti : Nat) {ki : IntKind} (hti : P.underlying ti = some (.int ki)) (hgd : o.guard = none) (sO xO : Operand)
    (ho : o.op = .call { callee := .builtin .append, args := #[sO, xO], argTypes := #[t, ti] }) {g n c : Nat} (m N : Nat) (hN : n + m = N) {mz : Int} {xs : List Value} (hs : a.eval sO = .slice (some ⟨g, 0, none⟩) n c) (hx : a.eval xO = .int .i64 mz) (hmz : mz = (m : Int))
    (hv : Vw w g e sz (.slice (some ⟨g, 0, none⟩) n c) n xs) (hroom : c < n + m) (hb : (n + m) * by_ ≤ 140737488355328) (h63 : n + m ≤ 9223372036854775807)
    (h : ∀ (c' : Nat) (zs : List Value) (w' : World), zs.length = m * sz → Row w' w.heap.size e sz (.slice (some ⟨w.heap.size, 0, none⟩) N c') N (xs ++ zs) → Ext [] w w' →
      wpList P ops Q rest (a.put o.dst (.slice (some ⟨w.heap.size, 0, none⟩) N c')) w') : wpList P ops Q (o :: rest) a w := by
  subst hmz
  subst hN
  obtain ⟨c', zs, w', hz, hrun, hr, hx'⟩ := run_append_make T ti hti o.type hv hroom hb h63
  refine wpList_plain hgd fun _ hK => ?_
  unfold Oper.wp execOp
  simp only [ho, resolve, invoke, builtin, Sem.run_bind, Sem.run_pure, Result.andThen_ok, List.map_toArray, List.map_cons, List.map_nil, hs, hx, hrun]
  exact hK _ _ (h c' zs w' hz hr hx')
end

/-- what lies in a block that is owned, its spare cells too, is read -/
theorem Vw.of_block {w : World} {g e sz c : Nat} {cur : Array Value} {fz : Nat × Nat} (hb : w.heap[g]? = some (.cells cur e fz)) (hs : cur.size = c * sz) (hc : c ≤ maxLen) (lo n : Nat) (hn : lo + n ≤ c) :
    Vw w g e sz (.slice (some ⟨g, lo * sz, none⟩) n (c - lo)) n ((cur.toList.drop (lo * sz)).take (n * sz)) := by
  refine .at_ ?_ (by omega) (by omega) (fun j v hj => ?_) (fun _ => ⟨_, _, hb⟩)
  · rw [List.length_take, List.length_drop, Array.length_toList, hs, ← Nat.sub_mul]
    exact Nat.min_eq_left (Nat.mul_le_mul_right _ (by omega))
  · rw [List.getElem?_take] at hj
    split at hj
    · rw [List.getElem?_drop] at hj
      rw [cell_of_row w g _ cur e fz hb]
      simpa using hj
    · cases hj
/-- a part of a slice that is read -/
theorem Vw.part {w : World} {g e sz o n c : Nat} {cs : List Value} (h : Vw w g e sz (.slice (some ⟨g, o, none⟩) n c) n cs) (lo hi : Nat) (hlo : lo ≤ hi) (hhi : hi ≤ n) :
    Vw w g e sz (.slice (some ⟨g, o + lo * sz, none⟩) (hi - lo) (c - lo)) (hi - lo) ((cs.drop (lo * sz)).take ((hi - lo) * sz)) := by
  cases h with
  | at_ hl hn hc hcell hty =>
    refine .at_ ?_ (by omega) (by omega) (fun j v hj => ?_) (fun h0 => hty (by omega))
    · rw [List.length_take, List.length_drop, hl, ← Nat.sub_mul]
      exact Nat.min_eq_left (Nat.mul_le_mul_right _ (by omega))
    · rw [List.getElem?_take] at hj
      split at hj
      · rw [List.getElem?_drop] at hj
        have := hcell _ _ hj
        rwa [← Nat.add_assoc] at this
      · cases hj
theorem Vw.from_ {w : World} {g e sz o n c : Nat} {cs : List Value} (h : Vw w g e sz (.slice (some ⟨g, o, none⟩) n c) n cs) (lo : Nat) (hlo : lo ≤ n) :
    Vw w g e sz (.slice (some ⟨g, o + lo * sz, none⟩) (n - lo) (c - lo)) (n - lo) (cs.drop (lo * sz)) := by
  have h2 := h.part lo n hlo (Nat.le_refl _)
  have e1 : (cs.drop (lo * sz)).take ((n - lo) * sz) = cs.drop (lo * sz) := List.take_of_length_le (by rw [List.length_drop, h.len, ← Nat.sub_mul]; exact Nat.le_refl _)
  rwa [e1] at h2
theorem Vw.to_ {w : World} {g e sz o n c : Nat} {cs : List Value} (h : Vw w g e sz (.slice (some ⟨g, o, none⟩) n c) n cs) (hi : Nat) (hhi : hi ≤ n) :
    Vw w g e sz (.slice (some ⟨g, o, none⟩) hi c) hi (cs.take (hi * sz)) := by
  have h2 := h.part 0 hi (Nat.zero_le _) hhi
  simpa using h2

/-- s[lo:], its address under a name -/
theorem slice_l {P : Program} {t e sz by_ : Nat} (T : SlT P t e sz by_) (A : Option Addr) (n c lo : Nat) {z : Int} (hz : z = (lo : Int)) (hlo : lo ≤ n) :
    ∃ A' : Option Addr, (∀ w : World, (Instr.slice t (.slice A n c) (some (.int .i64 z)) none none).run P w = .ok (.slice A' (n - lo) (c - lo)) w) ∧ (A' = A ∨ A' = A.map (·.add (lo * sz))) ∧ (lo < c → A' = A.map (·.add (lo * sz))) := by
  subst hz
  obtain ⟨ht, ⟨i, z, hi, hz, hsz, hby, hzs⟩, h0⟩ := T
  refine ⟨if c = lo then A else A.map (·.add (lo * sz)), fun w => ?_, by split <;> simp, fun h => by rw [if_neg (by omega)]⟩
  have h1 : (lo : Int) ≤ n := by omega
  have he : P.elem t = e := by simp [Program.elem, ht]
  rw [run_slice_l w t A n c (by rw [he]; exact ht) .i64 lo (by omega) h1, he]
  simp [sizeOf, typeInfo, hi, hsz, sliced]

/-- s[lo:hi], its address under a name -/
theorem slice_lh {P : Program} {t e sz by_ : Nat} (T : SlT P t e sz by_) (A : Option Addr) (n c lo hi : Nat) {z y : Int} (hz : z = (lo : Int)) (hy : y = (hi : Int)) (hlo : lo ≤ hi) (hhi : hi ≤ c) :
    ∃ A' : Option Addr, (∀ w : World, (Instr.slice t (.slice A n c) (some (.int .i64 z)) (some (.int .i64 y)) none).run P w = .ok (.slice A' (hi - lo) (c - lo)) w) ∧ (A' = A ∨ A' = A.map (·.add (lo * sz))) ∧ (lo < c → A' = A.map (·.add (lo * sz))) := by
  subst hz; subst hy
  obtain ⟨ht, ⟨i, z, hi', hz, hsz, hby, hzs⟩, h0⟩ := T
  refine ⟨if c = lo then A else A.map (·.add (lo * sz)), fun w => ?_, by split <;> simp, fun h => by rw [if_neg (by omega)]⟩
  have he : P.elem t = e := by simp [Program.elem, ht]
  rw [run_slice_lh w t A n c (by rw [he]; exact ht) .i64 .i64 lo hi (by omega) (by omega) (by omega), he]
  simp [sizeOf, typeInfo, hi', hsz, sliced]
theorem Vw.mid {w : World} {g e sz o n c : Nat} {cs : List Value} (h : Vw w g e sz (.slice (some ⟨g, o, none⟩) n c) n cs) (lo hi : Nat) (hlo : lo ≤ hi) (hhi : hi ≤ n) {A' : Option Addr}
    (h1 : A' = some ⟨g, o, none⟩ ∨ A' = (some (⟨g, o, none⟩ : Addr)).map (·.add (lo * sz))) (h2 : lo < c → A' = (some (⟨g, o, none⟩ : Addr)).map (·.add (lo * sz))) : Vw w g e sz (.slice A' (hi - lo) (c - lo)) (hi - lo) ((cs.drop (lo * sz)).take ((hi - lo) * sz)) := by
  have hf := h.part lo hi hlo hhi
  by_cases hc : lo < c
  · rw [h2 hc]
    simpa [addr_add] using hf
  · have hn0 : hi - lo = 0 := by cases h with | at_ _ hn _ _ _ => omega
    rcases h1 with rfl | rfl
    · rw [hn0]
      rw [Nat.zero_mul, List.take_zero]
      exact .at_ (by simp) (by omega) (by cases h with | at_ _ _ hc _ _ => omega) (by simp) (by omega)
    · simpa [addr_add] using hf

/-- and what it holds -/
theorem Vw.tail {w : World} {g e sz o n c : Nat} {cs : List Value} (h : Vw w g e sz (.slice (some ⟨g, o, none⟩) n c) n cs) (lo : Nat) (hlo : lo ≤ n) {A' : Option Addr}
    (h1 : A' = some ⟨g, o, none⟩ ∨ A' = (some (⟨g, o, none⟩ : Addr)).map (·.add (lo * sz))) (h2 : lo < c → A' = (some (⟨g, o, none⟩ : Addr)).map (·.add (lo * sz))) : Vw w g e sz (.slice A' (n - lo) (c - lo)) (n - lo) (cs.drop (lo * sz)) := by
  have hf := h.from_ lo hlo
  by_cases hc : lo < c
  · rw [h2 hc]
    simpa [addr_add] using hf
  · have hn0 : n - lo = 0 := by cases h with | at_ _ hn _ _ _ => omega
    rcases h1 with rfl | rfl
    · have hz := hf.len
      rw [hn0] at hz ⊢
      have : cs.drop (lo * sz) = [] := List.eq_nil_of_length_eq_zero (by simpa using hz)
      rw [this]
      exact .at_ (by simp) (by omega) (by cases h with | at_ _ _ hc _ _ => omega) (by simp) (by omega)
    · simpa [addr_add] using hf

section
variable {P : Program} {w : World} {t e sz by_ : Nat} {ops : Array Oper} {rest : List Oper} {o : Oper} {a : Act} {Q : Exit → Act → World → Prop}
/-- append where there is room: in place -/
theorem wpList_append_in (T : SlT P t e sz by_) (hgd : o.guard = none) (sO xO : Operand)
    (ho : o.op = .call { callee := .builtin .append, args := #[sO, xO], argTypes := #[t, t] }) {g g2 n m c : Nat} {x : Value} {ys : List Value} {cur : Array Value}
    (hs : a.eval sO = .slice (some ⟨g, 0, none⟩) n c) (hx : a.eval xO = x) (hb : w.heap[g]? = some (.cells cur e (0, 0))) (hv : Vw w g2 e sz x m ys) (h1 : ∀ u ∈ ys, u.oneCell' = true) (hroom : n + m ≤ c) (hfit : (n + m) * sz ≤ cur.size)
    (N : Nat) (hN : n + m = N)
    (h : ∀ (w' : World) (cur' : Array Value), w'.heap[g]? = some (.cells cur' e (0, 0)) → cur'.toList = cur.toList.take (n * sz) ++ ys ++ cur.toList.drop (N * sz) → Ext [g] w w' →
      wpList P ops Q rest (a.put o.dst (.slice (some ⟨g, 0, none⟩) N c)) w') : wpList P ops Q (o :: rest) a w := by
  obtain ⟨ht, ⟨i, z, hi, hz, hsz, hby, hzs⟩, h0⟩ := T
  subst hN
  have hrun : ∃ w', (Builtin.append_ #[t, t] o.type #[.slice (some ⟨g, 0, none⟩) n c, x]).run P w = .ok (.slice (some ⟨g, 0, none⟩) (n + m) c) w' ∧
      w' = w.setRow g (cur.toList.take (n * sz) ++ ys ++ cur.toList.drop (n * sz + ys.length)).toArray := by
    cases hv with
    | nil =>
      refine ⟨_, ?_, rfl⟩
      have hnc : n ≤ c := by omega
      simp [Builtin.append_, run_underlying ht, sizeOf, typeInfo, hi, Builtin.lenOf, Builtin.firstCells, hnc, storeCells, setRow_self w g cur e (0, 0) hb]
    | at_ hl hn hc hcell hty =>
      rename_i o2 c2
      have hr := run_append_room (P := P) w t o.type e i ht hi g n c cur hb ⟨g2, o2, none⟩ m c2 ys (by rw [hsz]; exact hl) (fun j v hj => by rw [addr_add]; exact hcell j v hj) h1 hroom (by rw [hsz, hl, ← Nat.add_mul]; exact hfit)
      rw [hsz] at hr
      exact ⟨_, hr, rfl⟩
  obtain ⟨w', hrun, rfl⟩ := hrun
  refine wpList_plain hgd fun _ hK => ?_
  unfold Oper.wp execOp
  simp only [ho, resolve, invoke, builtin, Sem.run_bind, Sem.run_pure, Result.andThen_ok, List.map_toArray, List.map_cons, List.map_nil, hs, hx, hrun]
  refine hK _ _ (h _ _ (setRow_heap w g cur _ e _ hb) ?_ ⟨rfl, rfl, rfl, by simp, fun k _ hk => setRow_other w g k _ (by simpa using hk)⟩)
  rw [hv.len, ← Nat.add_mul]

/-- clear of a part of a block of one's own -/
theorem wpList_clear (T : SlT P t e sz by_) (hgd : o.guard = none) (xO : Operand)
    (ho : o.op = .call { callee := .builtin .clear, args := #[xO], argTypes := #[t] }) {g of n c : Nat} {cur : Array Value}
    (hx : a.eval xO = .slice (some ⟨g, of, none⟩) n c) (hb : w.heap[g]? = some (.cells cur e (0, 0))) (hfit : of + n * sz ≤ cur.size) (h1 : ∀ z, (P.info? e).bind (·.zero) = some z → ∀ u ∈ z.cells.toList, u.oneCell' = true)
    (h : ∀ (w' : World) (cur' : Array Value), w'.heap[g]? = some (.cells cur' e (0, 0)) → cur'.toList.take of = cur.toList.take of → cur'.size = cur.size → Ext [g] w w' →
      wpList P ops Q rest (a.put o.dst (.tuple #[])) w') : wpList P ops Q (o :: rest) a w := by
  obtain ⟨ht, ⟨i, z, hi, hz, hsz, hby, hzs⟩, h0⟩ := T
  have hlen : (Builtin.zeroCells z.cells n).toList.length = n * sz := by rw [Array.length_toList, zeroCells_size, hzs]
  have hone : ∀ v ∈ (Builtin.zeroCells z.cells n).toList, v.oneCell' = true := by
    intro v hv
    simp only [Builtin.zeroCells, Array.toList_map, List.mem_map] at hv
    obtain ⟨j, _, rfl⟩ := hv
    have hp : 0 < z.cells.size := by omega
    have hlt := Nat.mod_lt j hp
    have := h1 z (by simp [hi, hz]) (z.cells[j % z.cells.size]) (by simp)
    simpa [hlt] using this
  have hst := run_storeCells_at P g of e (Builtin.zeroCells z.cells n).toList 0 cur w hb (by rw [hlen]; simpa using hfit) hone
  simp only [Nat.add_zero] at hst
  refine wpList_plain hgd fun _ hK => ?_
  have hrun : (Builtin.clear_ #[t] o.type #[.slice (some ⟨g, of, none⟩) n c]).run P w = .ok (.tuple #[]) (w.setRow g (cur.toList.take of ++ (Builtin.zeroCells z.cells n).toList ++ cur.toList.drop (of + (Builtin.zeroCells z.cells n).toList.length)).toArray) := by
    by_cases hn : n = 0
    · subst hn
      have : (Builtin.zeroCells z.cells 0).toList = [] := List.eq_nil_of_length_eq_zero (by simpa using hlen)
      simp [Builtin.clear_, run_underlying ht, this, setRow_self w g cur e (0, 0) hb]
    · obtain ⟨n', rfl⟩ : ∃ n', n = n' + 1 := ⟨n - 1, by omega⟩
      simp [Builtin.clear_, run_underlying ht, zeroValue, typeInfo, hi, hz, hst]
  unfold Oper.wp execOp
  simp only [ho, resolve, invoke, builtin, Sem.run_bind, Sem.run_pure, Result.andThen_ok, List.map_toArray, List.map_cons, List.map_nil, hx, hrun]
  have hcl : cur.toList.length = cur.size := Array.length_toList
  refine hK _ _ (h _ _ (setRow_heap w g cur _ e _ hb) ?_ ?_ ⟨rfl, rfl, rfl, by simp, fun k _ hk => setRow_other w g k _ (by simpa using hk)⟩)
  · rw [List.append_assoc, List.take_append_of_le_length (by rw [List.length_take]; omega), List.take_take, Nat.min_self]
  · simp only [List.size_toArray, List.length_append, List.length_take, List.length_drop, hlen]
    omega
end

section
variable {P : Program} {w : World} {t e sz by_ : Nat} {ops : Array Oper} {rest : List Oper} {o : Oper} {a : Act} {Q : Exit → Act → World → Prop}
/-- append of a string's bytes -/
theorem wpList_append_str (T : SlT P t e 1 1) (u : Nat) (hu : P.underlying u = some .string) (hgd : o.guard = none) (sO xO : Operand)
    (ho : o.op = .call { callee := .builtin .append, args := #[sO, xO], argTypes := #[t, u] }) {g n : Nat} {s : Value} {xs : List Value} {x : ByteArray} (hs : a.eval sO = s) (hx : a.eval xO = .string x)
    (hr : Row w g e 1 s n xs) (hb : n + x.size ≤ 140737488355328)
    (h : ∀ (g' : Nat) (A' : Option Addr) (c' : Nat) (w' : World), Row w' g' e 1 (.slice A' (n + x.size) c') (n + x.size) (xs ++ x.data.toList.map (fun b => Value.int .u8 (b.toNat : Int))) → Ext [g] w w' → (g' = g ∨ w.heap.size ≤ g') → (0 < n + x.size → A' = some ⟨g', 0, none⟩) →
      (s ≠ .slice none 0 0 → A' ≠ none) → wpList P ops Q rest (a.put o.dst (.slice A' (n + x.size) c')) w') : wpList P ops Q (o :: rest) a w := by
  obtain ⟨ht, ⟨i, z, hi, hz, hsz, hby, hzs⟩, h0⟩ := T
  have hds : x.data.size = x.size := rfl
  have hxl : (x.data.toList.map (fun b => Value.int .u8 (b.toNat : Int))).length = x.size := by simp
  have hx0 : x.extract 0 x.size = x := by
    apply ByteArray.ext
    rw [ByteArray.data_extract]
    exact Array.extract_size
  have hf : ∀ w, (Builtin.firstCells 1 x.size (.string x)).run P w = .ok (x.data.toList.map (fun b => Value.int .u8 (b.toNat : Int))).toArray w := by
    intro w
    simp only [Builtin.firstCells, hx0]
    have : x.data.map (fun b => Value.int IntKind.u8 (b.toNat : Int)) = (x.data.toList.map (fun b => Value.int .u8 (b.toNat : Int))).toArray := by
      apply Array.ext'; simp
    rw [this]; rfl
  have hone : ∀ v ∈ x.data.toList.map (fun b => Value.int .u8 (b.toNat : Int)), v.oneCell' = true := by
    intro v hv; simp only [List.mem_map] at hv; obtain ⟨b, _, rfl⟩ := hv; rfl
  have hmx : n + x.size ≤ maxLen := by simp only [maxLen]; omega
  have hlen : (xs ++ x.data.toList.map (fun b => Value.int .u8 (b.toNat : Int))).length = n + x.size := by rw [List.length_append, hr.len, hxl]; omega
  have key : ∃ g' A' c' w', (Builtin.append_ #[t, u] o.type #[s, .string x]).run P w = .ok (.slice A' (n + x.size) c') w' ∧ Row w' g' e 1 (.slice A' (n + x.size) c') (n + x.size) (xs ++ x.data.toList.map (fun b => Value.int .u8 (b.toNat : Int))) ∧ Ext [g] w w' ∧ (g' = g ∨ w.heap.size ≤ g') ∧ (0 < n + x.size → A' = some ⟨g', 0, none⟩) ∧
      (s ≠ .slice none 0 0 → A' ≠ none) := by
    have fresh : ∀ old, Row (w.drew.alloc (.cells (xs.toArray ++ (x.data.toList.map (fun b => Value.int .u8 (b.toNat : Int))).toArray ++ Builtin.zeroCells z.cells (grownCap w (n + x.size) old e - (n + x.size))) e)) w.heap.size e 1 (.slice (some ⟨w.heap.size, 0, none⟩) (n + x.size) (grownCap w (n + x.size) old e)) (n + x.size) (xs ++ x.data.toList.map (fun b => Value.int .u8 (b.toNat : Int))) := by
      intro old
      have hge := grownCap_ge w (n + x.size) old e
      refine .at_ _ (by rw [hlen]; omega) hge (grownCap_le_maxLen w (n + x.size) old e hmx) (heap_alloc_new w.drew _) ?_ ?_
      · simp only [Array.size_append, List.size_toArray, zeroCells_size, hzs, hr.len, hxl]
        omega
      · simp only [Array.toList_append, List.append_assoc]
        rw [← List.append_assoc]
        exact List.take_left' (by rw [hlen]; omega)
    cases hr with
    | nil =>
      by_cases hm : x.size = 0
      · have hnil : x.data.toList.map (fun b => Value.int .u8 (b.toNat : Int)) = [] := List.eq_nil_of_length_eq_zero (by rw [hxl, hm])
        refine ⟨g, none, 0, w, ?_, by rw [hm, hnil]; exact .nil, Ext.refl _ _, .inl rfl, by omega, by simp⟩
        rw [hm]
        simp [Builtin.append_, run_underlying ht, run_underlying hu, sizeOf, typeInfo, hi, Builtin.lenOf, hm, hsz]
        rw [hm] at hf
        simp [hf]
      · refine ⟨w.heap.size, _, _, _, ?_, fresh 0, (Ext.refl [g] w).drew.alloc _, .inr (Nat.le_refl _), fun _ => rfl, by simp⟩
        have h63' : ¬ (9223372036854775807 < (x.size : Int)) := by omega
        have h48' : ¬ (281474976710656 < Builtin.nextslicecap x.size 0) := by rw [nextslicecap_zero (by omega)]; omega
        simp [Builtin.append_, run_underlying ht, run_underlying hu, sizeOf, typeInfo, zeroValue, hi, hz, hsz, hby, Builtin.lenOf, hm, h63', h48', Question.forced, run_firstCells_none, hf, newRow, grownCap]
    | at_ cur hl hn hc hb' hs' htk =>
      rename_i c
      by_cases hroom : n + x.size ≤ c
      · have hfit : n + (x.data.toList.map (fun b => Value.int .u8 (b.toNat : Int))).length ≤ cur.size := by rw [hxl, hs']; omega
        have hst := run_storeCells_at P g n e (x.data.toList.map (fun b => Value.int .u8 (b.toNat : Int))) 0 cur w hb' (by simpa using hfit) hone
        simp only [Nat.add_zero] at hst
        refine ⟨g, some ⟨g, 0, none⟩, c, _, ?_, .at_ _ (by rw [hlen]; omega) hroom hc (setRow_heap w g cur (cur.toList.take n ++ x.data.toList.map (fun b => Value.int .u8 (b.toNat : Int)) ++ cur.toList.drop (n + (x.data.toList.map (fun b => Value.int .u8 (b.toNat : Int))).length)).toArray e _ hb') ?_ ?_, ?_, .inl rfl, fun _ => rfl, by simp⟩
        · simp [Builtin.append_, run_underlying ht, run_underlying hu, sizeOf, typeInfo, hi, hsz, Builtin.lenOf, hroom, hf, addr_add]
          simp at hst
          simp [hst]
        · simp only [List.size_toArray, List.length_append, List.length_take, List.length_drop, Array.length_toList, hxl]
          omega
        · rw [Nat.mul_one] at htk
          rw [htk]
          exact List.take_left' (by rw [hlen]; omega)
        · exact ⟨rfl, rfl, rfl, by simp, fun k _ hk => setRow_other w g k _ (by simpa using hk)⟩
      · have hl2 := run_loadCells_list (P := P) w.drew ⟨g, 0, none⟩ xs (fun j u hj => by
          have : w.drew.heap[g]? = some (.cells cur e (0, 0)) := hb'
          rw [addr_add, cell_of_row w.drew g (0 + j) cur e (0, 0) this]
          rw [← htk, List.getElem?_take] at hj
          split at hj
          · simpa using hj
          · cases hj)
        rw [hl, Nat.mul_one] at hl2
        have h63' : ¬ (9223372036854775807 < ((n : Int) + (x.size : Int))) := by omega
        have h48' : ¬ (281474976710656 < Builtin.nextslicecap (n + x.size) c) := by have := growslice_fits (need := n + x.size) (old := c) (bytes := 1) (by omega) (by omega); omega
        refine ⟨w.heap.size, _, _, _, ?_, fresh c, (Ext.refl [g] w).drew.alloc _, .inr (Nat.le_refl _), fun _ => rfl, by simp⟩
        simp [Builtin.append_, run_underlying ht, run_underlying hu, sizeOf, typeInfo, zeroValue, hi, hz, hsz, hby, Builtin.lenOf, hroom, h63', h48', Question.forced, Builtin.firstCells, hl2, newRow, grownCap]
        simp [Builtin.firstCells] at hf
        simp [hf]
        rw [List.take_of_length_le (by rw [hxl]; exact Nat.le_refl _)]
        congr 2
        apply Array.ext'
        simp [List.append_assoc]
  obtain ⟨g', A', c', w', hrun, h2, h3, h4, h5, h6⟩ := key
  refine wpList_plain hgd fun _ hK => ?_
  unfold Oper.wp execOp
  simp only [ho, resolve, invoke, builtin, Sem.run_bind, Sem.run_pure, Result.andThen_ok, List.map_toArray, List.map_cons, List.map_nil, hs, hx, hrun]
  exact hK _ _ (h g' A' c' w' h2 h3 h4 h5 h6)
end
end Go.Proofs.YtfadbmfkidiaoaaGreatDoor
