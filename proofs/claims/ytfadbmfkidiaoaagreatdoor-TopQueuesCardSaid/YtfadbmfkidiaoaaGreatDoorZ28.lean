/- The pairs of a queue's jobs. Get of a job. A job set in a queue. -/
import Derived.Test.YtfadbmfkidiaoaaGreatDoorZ27
namespace Go.Proofs.YtfadbmfkidiaoaaGreatDoor
open Go.RowKit Go
set_option linter.unusedSimpArgs false
set_option linter.unusedVariables false
set_option linter.unusedSectionVars false
set_option linter.unnecessarySimpa false

theorem uB_pre {n m : Nat} {r s : List UInt8} (hn : n < 256 ^ 8) (hm : m < 256 ^ 8) (h : uB n ++ r = uB m ++ s) : n = m ∧ r = s := by
  have hnm : n = m := by
    rcases Nat.lt_trichotomy n m with hlt | he | hgt
    · have := uB_lt r s hm hlt; rw [h] at this; exact absurd this (List.lt_irrefl _)
    · exact he
    · have := uB_lt s r hn hgt; rw [h] at this; exact absurd this (List.lt_irrefl _)
  subst hnm
  exact ⟨rfl, List.append_cancel_left h⟩
def keyJ (j : Jb) : ByteArray := keyB 1 (kJ j)
def valJ (j : Jb) : ByteArray := valB (rJ j)
theorem kJ_bytes (j : Jb) : csB (kJ j) = uB j.st ++ (uB (ordJ j) ++ uB j.id) := by
  simp [csB, kJ, clB_u]
theorem rJ_bytes (j : Jb) : csB (rJ j) = uB j.pr ++ (txB (bl j.body) ++ (uB j.tries ++ uB j.who)) := by
  simp [csB, rJ, clB_u, clB_t]
theorem ordJ_le {j : Jb} (h : OkJ j) : ordJ j ≤ 60000 := by
  have := h.pr; have := h.till
  unfold ordJ; split <;> omega
theorem OkJ.k23 {j : Jb} (h : OkJ j) : (csB (kJ j)).length ≤ 23 := by
  have h1 := uB_len (n := j.st) (k := 2) (by have := h.st; omega)
  have h2 := uB_len (n := ordJ j) (k := 2) (by have := ordJ_le h; omega)
  have h3 := uB_len (n := j.id) (k := 2) (by have := h.id; omega)
  rw [kJ_bytes]; simp only [List.length_append]; omega
theorem OkJ.r40 {j : Jb} (h : OkJ j) : (csB (rJ j)).length ≤ 40 := by
  have h1 := uB_len (n := j.pr) (k := 1) (by have := h.pr; omega)
  have h2 := uB_len (n := j.tries) (k := 1) (by have := h.tries; omega)
  have h3 := uB_len (n := j.who) (k := 2) (by have := h.who; omega)
  have h4 := (esc_len (bl j.body)).2
  have h5 := h.body
  rw [bl_len] at h4
  rw [rJ_bytes]; simp only [List.length_append, txB, List.length_cons, List.length_nil]; omega
theorem keyJ_inj {i j : Jb} (hi : OkJ i) (hj : OkJ j) (h : keyJ i = keyJ j) : i.id = j.id := by
  have e : bl (keyJ i) = bl (keyJ j) := by rw [h]
  unfold keyJ at e
  rw [keyB_bl, keyB_bl, kJ_bytes, kJ_bytes] at e
  have e1 := (List.cons.inj e).2
  have h1 := ordJ_le hi
  have h2 := ordJ_le hj
  have h3 := hi.st
  have h4 := hj.st
  have h5 := hi.id
  have h6 := hj.id
  obtain ⟨_, e2⟩ := uB_pre (by omega) (by omega) e1
  obtain ⟨_, e3⟩ := uB_pre (by omega) (by omega) e2
  exact (uB_pre (r := []) (s := []) (by omega) (by omega) (by simpa using e3)).1
theorem keyJ_size {j : Jb} (h : OkJ j) : 1 ≤ (keyJ j).size ∧ (keyJ j).size ≤ 24 := by
  have := h.k23
  unfold keyJ; rw [keyB_size]; omega
theorem valJ_size {j : Jb} (h : OkJ j) : (valJ j).size ≤ 40 := by
  have := h.r40
  unfold valJ; rw [valB_size]; exact this
/-- L holds the jobs G -/
structure QJ (L : Pairs) (G : Nat → Option Jb) : Prop where
  ok : ∀ i j, G i = some j → OkJ j ∧ j.id = i
  srt : Srt L
  mem : ∀ p, p ∈ L ↔ ∃ i j, G i = some j ∧ p = (keyJ j, valJ j)
def updG (G : Nat → Option Jb) (i : Nat) (x : Option Jb) : Nat → Option Jb := fun k => if k = i then x else G k
theorem QJ.nil : QJ [] (fun _ => none) := ⟨by simp, by simp [Srt], by simp⟩
theorem QJ.has {L : Pairs} {G : Nat → Option Jb} (h : QJ L G) {i : Nat} {j : Jb} (hj : G i = some j) : has L (keyJ j) = true :=
  (has_mem h.srt _).2 ⟨valJ j, (h.mem _).2 ⟨i, j, hj, rfl⟩⟩
theorem QJ.look {L : Pairs} {G : Nat → Option Jb} (h : QJ L G) {i : Nat} {j : Jb} (hj : G i = some j) : look L (keyJ j) = valJ j :=
  look_mem h.srt ((h.mem _).2 ⟨i, j, hj, rfl⟩)
theorem QJ.put {L : Pairs} {G : Nat → Option Jb} (h : QJ L G) {j : Jb} (hj : OkJ j) (hn : G j.id = none) : QJ (putL L (keyJ j) (valJ j)) (updG G j.id (some j)) := by
  refine ⟨fun i x hx => ?_, srt_put h.srt _ _, fun p => ?_⟩
  · unfold updG at hx
    split at hx
    · next e => cases hx; exact ⟨hj, e.symm⟩
    · exact h.ok i x hx
  · rw [mem_put h.srt, h.mem]
    constructor
    · rintro (rfl | ⟨⟨i, x, hx, rfl⟩, hne⟩)
      · exact ⟨j.id, j, by simp [updG], rfl⟩
      · refine ⟨i, x, ?_, rfl⟩
        have : i ≠ j.id := by rintro rfl; rw [hn] at hx; cases hx
        simp [updG, this, hx]
    · rintro ⟨i, x, hx, rfl⟩
      unfold updG at hx
      split at hx
      · next e => cases hx; exact .inl rfl
      · next e =>
        refine .inr ⟨⟨i, x, hx, rfl⟩, fun he => e ?_⟩
        have h1 := h.ok i x hx
        have := keyJ_inj h1.1 hj he
        omega
theorem QJ.del {L : Pairs} {G : Nat → Option Jb} (h : QJ L G) {i : Nat} {j : Jb} (hj : G i = some j) : QJ (delL L (keyJ j)) (updG G i none) := by
  have hok := h.ok i j hj
  refine ⟨fun k x hx => ?_, srt_del h.srt _, fun p => ?_⟩
  · unfold updG at hx
    split at hx
    · cases hx
    · exact h.ok k x hx
  · rw [mem_del h.srt (h.has hj), h.mem]
    constructor
    · rintro ⟨⟨k, x, hx, rfl⟩, hne⟩
      refine ⟨k, x, ?_, rfl⟩
      have : k ≠ i := by rintro rfl; rw [hj] at hx; cases hx; exact hne rfl
      simp [updG, this, hx]
    · rintro ⟨k, x, hx, rfl⟩
      unfold updG at hx
      split at hx
      · cases hx
      · next e =>
        refine ⟨⟨k, x, hx, rfl⟩, fun he => e ?_⟩
        have h1 := h.ok k x hx
        have := keyJ_inj h1.1 hok.1 he
        omega
end Go.Proofs.YtfadbmfkidiaoaaGreatDoor

namespace Go.Proofs.YtfadbmfkidiaoaaGreatDoor
open Go.RowKit Go Go.MapKept
set_option linter.unusedSimpArgs false
set_option linter.unusedVariables false
set_option linter.unusedSectionVars false
set_option linter.unnecessarySimpa false

def FG (G : Nat → Option Jb) : Nat → Option ByteArray := fun i => (G i).map keyJ
theorem Qu.look_yes {w : World} {b bm g r : Nat} {L : Pairs} {F : Nat → Option ByteArray} {last now : Nat} (h : Qu w b bm g r L F last now) {i : Nat} {k : ByteArray} (hk : F i = some k) :
    (Instr.lookup 126 (.map (some r)) (.int .i64 (i : Nat)) true).run Tryz.prog w = .ok (.tuple #[.string k, .bool true]) w := by
  obtain ⟨_, _, ⟨M, hM, hK⟩, _⟩ := h
  have := hM.lookup_yes (P := Tryz.prog) (mt := 126) (kt := 3) (e := 9) Tryz.underlying126 Tryz.underlying3 (k := .int .i64 (i : Nat)) (v := .string k) rfl (hK.2 i k hk) true
  simpa using this
theorem zero9 (w : World) : (zeroValue 9).run Tryz.prog w = .ok (.string ⟨#[]⟩) w := by
  have h : Tryz.t9.zero = some (.string ⟨#[]⟩) := by kernel_rfl
  simp [zeroValue, h]
theorem Qu.look_no {w : World} {b bm g r : Nat} {L : Pairs} {F : Nat → Option ByteArray} {last now : Nat} (h : Qu w b bm g r L F last now) {i : Nat} (hk : F i = none) :
    (Instr.lookup 126 (.map (some r)) (.int .i64 (i : Nat)) true).run Tryz.prog w = .ok (.tuple #[.string ⟨#[]⟩, .bool false]) w := by
  obtain ⟨_, _, ⟨M, hM, hK⟩, _⟩ := h
  have := hM.lookup_no (P := Tryz.prog) (mt := 126) (kt := 3) (e := 9) Tryz.underlying126 Tryz.underlying3 (k := .int .i64 (i : Nat)) (z := .string ⟨#[]⟩) (zero9 w) rfl (fun p hp he => by
    obtain ⟨i', k, h1, rfl⟩ := hK.1 p hp
    simp only at he
    injection he with _ he
    have : i' = i := by omega
    subst this
    rw [hk] at h1; cases h1) true
  simpa using this
theorem results_c2 {fn : Func} {p q : Tmp} {ty : TypeId} (h : fn.results = #[.cell p ty, .tmp q]) (tmps : Array Value) (P : Program) (w : World) :
    (results fn tmps).run P w = ((asAddr (tmps.getD p undef)).run P w).andThen fun a w₁ => ((loadVar ty a).run P w₁).andThen fun v w₂ => .ok (.tuple #[v, tmps.getD q undef]) w₂ := by
  simp only [results, h]
  simp [Sem.run_bind, Result.andThen]
set_option maxRecDepth 100000 in
set_option maxHeartbeats 800000 in
theorem run_results25 (W : World) (tmps : Array Value) (B : Nat) (v0 v1 v2 v3 v4 v5 v6 x : Value) (h2 : tmps.getD 4 undef = .pointer (some ⟨B, 0, none⟩)) (h5 : tmps.getD 5 undef = x)
    (hb : W.heap[B]? = some (.cells #[v0, v1, v2, v3, v4, v5, v6] 80 (0, 0))) : (results Tryz.f25 tmps).run Tryz.prog W = .ok (.tuple #[.agg #[v0, v1, v2, v3, v4, v5, v6], x]) W := by
  obtain ⟨⟨c0, c1, c2, c3, c4, c5, c6⟩, _⟩ := cells7 hb
  rw [results_c2 (fn := Tryz.f25) (p := 4) (q := 5) (ty := 80) (by kernel_rfl), h2, h5]
  go_simp
def zeroJ : Value := .agg #[.int .i64 0, .int .i64 0, .string ⟨#[]⟩, .int .i64 0, .int .i64 0, .int .i64 0, .int .i64 0]
set_option maxRecDepth 100000 in
set_option maxHeartbeats 1600000 in
theorem get_no_any (b bm g r : Nat) (L : Pairs) (G : Nat → Option Jb) (last now : Nat) (w : World) (h : Qu w b bm g r L (FG G) last now) (i : Nat) (hi : G i = none) :
    Calls Tryz.prog 25 #[.pointer (some ⟨b, 0, none⟩), .int .i64 (i : Nat)] w fun e w' => e = .returned (.tuple #[zeroJ, .int .i64 9]) ∧ Ext [] w w' := by
  have hx0 : Ext [] w (w.alloc (.cells #[.int .i64 0, .int .i64 0, .string ⟨#[]⟩, .int .i64 0, .int .i64 0, .int .i64 0, .int .i64 0] 80)) := (Ext.refl [] w).alloc _
  have hb := heap_alloc_new w (.cells #[.int .i64 0, .int .i64 0, .string ⟨#[]⟩, .int .i64 0, .int .i64 0, .int .i64 0, .int .i64 0] 80)
  have h0 := h.ext hx0 (by simp) (by simp) (by simp) (by simp)
  have hno := qnone_any _ _ _ _ _ _ _ _ _ h0
  have hlk := h0.look_no (i := i) (by simp [FG, hi])
  have c1 : (w.alloc (.cells #[.int .i64 0, .int .i64 0, .string ⟨#[]⟩, .int .i64 0, .int .i64 0, .int .i64 0, .int .i64 0] 80)).cell? ⟨b, 1, none⟩ = some (.map (some r)) := cell_of_row _ _ 1 _ _ _ h0.blk
  go_enter Tryz.func25, Tryz.ntmps25
  go_wp2_with fail
  refine hno.mono ?_
  rintro e w1 ⟨rfl, rfl⟩
  clear hno
  go_wp2_with fail
  refine bodyPost_ret (run_results25 _ _ w.heap.size _ _ _ _ _ _ _ _ rfl rfl (heap_alloc_new w _)) rfl ?_
  exact ⟨rfl, hx0⟩
theorem readJ (j : Jb) (h : OkJ j) (vt : Value) (w : World) (ht : Tb w vt 1 [1, 1, 1] [1, 3, 1, 1]) (hM : MxL w) (h8 : 8 ≤ w.heap.size) :
    Calls Tryz.prog 24 #[vt, .string (keyJ j), .string (valJ j)] w fun e w' => ∃ g' v', e = .returned (.tuple #[v', .int .i64 0]) ∧ Row w' g' 93 5 v' 7 (clsC (kJ j ++ rJ j)) ∧ w.heap.size ≤ g' ∧ g' < w'.heap.size ∧ Ext [] w w' :=
  read_any 1 vt (kJ j) (rJ j) w ht h.cells h.k23 h.r40 hM h8
theorem jobJ (j : Jb) (g : Nat) (v : Value) (w : World) (h : OkJ j) (hr : Row w g 93 5 v 7 (clsC (kJ j ++ rJ j))) :
    Calls Tryz.prog 72 #[v] w fun e w' => e = .returned (.agg #[.int .i64 (j.id : Nat), .int .i64 (j.pr : Nat), .string j.body, .int .i64 (j.st : Nat), .int .i64 (j.tries : Nat), .int .i64 (j.who : Nat), .int .i64 (j.till : Nat)]) ∧ Ext [] w w' := job_any j g v w h hr
set_option maxRecDepth 100000 in
set_option maxHeartbeats 1600000 in
theorem get_yes_any (b bm g r : Nat) (L : Pairs) (G : Nat → Option Jb) (last now : Nat) (w : World) (h : Qu w b bm g r L (FG G) last now) (hs : QJ L G) (hn : L.length ≤ 1000) (hM : MxL w) (h8 : 8 ≤ w.heap.size) (i : Nat) (j : Jb) (hi : G i = some j) :
    Calls Tryz.prog 25 #[.pointer (some ⟨b, 0, none⟩), .int .i64 (i : Nat)] w fun e w' => e = .returned (.tuple #[jV j, .int .i64 0]) ∧ Ext [] w w' := by
  have hx0 : Ext [] w (w.alloc (.cells #[.int .i64 0, .int .i64 0, .string ⟨#[]⟩, .int .i64 0, .int .i64 0, .int .i64 0, .int .i64 0] 80)) := (Ext.refl [] w).alloc _
  have hb := heap_alloc_new w (.cells #[.int .i64 0, .int .i64 0, .string ⟨#[]⟩, .int .i64 0, .int .i64 0, .int .i64 0, .int .i64 0] 80)
  have h0 := h.ext hx0 (by simp) (by simp) (by simp) (by simp)
  have hno := qnone_any _ _ _ _ _ _ _ _ _ h0
  have hlk := h0.look_yes (i := i) (k := keyJ j) (by simp [FG, hi])
  have hok := (hs.ok i j hi).1
  have hks := keyJ_size hok
  have hget := fun W hm => get_yes bm g L (keyJ j) W hm (by omega) hs.srt hks.1 hks.2 (hs.has hi)
  rw [hs.look hi] at hget
  have hrd := readJ j hok
  have hjb := jobJ j
  have c0 : (w.alloc (.cells #[.int .i64 0, .int .i64 0, .string ⟨#[]⟩, .int .i64 0, .int .i64 0, .int .i64 0, .int .i64 0] 80)).cell? ⟨b, 0, none⟩ = some (.pointer (some ⟨bm, 0, none⟩)) := cell_of_row _ _ 0 _ _ _ h0.blk
  have c1 : (w.alloc (.cells #[.int .i64 0, .int .i64 0, .string ⟨#[]⟩, .int .i64 0, .int .i64 0, .int .i64 0, .int .i64 0] 80)).cell? ⟨b, 1, none⟩ = some (.map (some r)) := cell_of_row _ _ 1 _ _ _ h0.blk
  have hg0 := hget _ h0.mdl
  clear hget
  show Calls Tryz.prog 25 _ w fun e w' => e = .returned (.tuple #[.agg #[.int .i64 (j.id : Nat), .int .i64 (j.pr : Nat), .string j.body, .int .i64 (j.st : Nat), .int .i64 (j.tries : Nat), .int .i64 (j.who : Nat), .int .i64 (j.till : Nat)], .int .i64 0]) ∧ Ext [] w w'
  generalize keyJ j = K at *
  generalize valJ j = V at *
  clear hi hs
  go_enter Tryz.func25, Tryz.ntmps25
  go_wp2_with fail
  refine hno.mono ?_
  rintro e w1 ⟨rfl, rfl⟩
  clear hno
  go_wp2_with fail
  refine hg0.mono ?_
  rintro e w2 ⟨rfl, hx2⟩
  clear hg0
  have hx02 := hx0.trans hx2
  have hb2 := hx2.keep hb (by simp)
  go_wp2_with fail
  refine (table_any _).mono ?_
  rintro e w3 ⟨vt, rfl, ht, hx3⟩
  have hx03 := hx02.trans hx3
  have z3 := hx03.size
  have hrd3 := hrd vt w3 ht (hM.ext hx03 (by simp)) (by omega)
  clear hrd
  go_wp2_with fail
  refine hrd3.mono ?_
  rintro e w4 ⟨g4, v4, rfl, hr4, _, _, hx4⟩
  clear hrd3
  have hj4 := hjb g4 v4 w4 hok hr4
  clear hjb
  go_wp2_with fail
  refine hj4.mono ?_
  rintro e w5 ⟨rfl, hx5⟩
  clear hj4
  have hx05 := (hx03.trans hx4).trans hx5
  have hb5 := ((hx3.trans hx4).trans hx5).keep hb2 (by simp)
  obtain ⟨⟨a0, a1, a2, a3, a4, a5, a6⟩, e0, e1, e2, e3, e4, e5, e6⟩ := cells7 hb5
  go_wp2_with fail
  have h5 := setCells7 (a' := .int .i64 (j.id : Nat)) (b' := .int .i64 (j.pr : Nat)) (c' := .string j.body) (d' := .int .i64 (j.st : Nat)) (e' := .int .i64 (j.tries : Nat)) (f' := .int .i64 (j.who : Nat)) (g' := .int .i64 (j.till : Nat)) hb5
  refine bodyPost_ret (run_results25 _ _ w.heap.size _ _ _ _ _ _ _ _ rfl rfl h5) rfl ?_
  exact ⟨rfl, hx05.set7 (.inr (Nat.le_refl _)) _ _ _ _ _ _ _⟩
end Go.Proofs.YtfadbmfkidiaoaaGreatDoor

namespace Go.Proofs.YtfadbmfkidiaoaaGreatDoor
open Go.RowKit Go Go.MapKept
set_option linter.unusedSimpArgs false
set_option linter.unusedVariables false
set_option linter.unusedSectionVars false
set_option linter.unnecessarySimpa false

theorem rowJ (j : Jb) (h : OkJ j) (gl : Nat) (vt vl : Value) (w : World) (ht : Tb w vt 1 [1, 1, 1] [1, 3, 1, 1]) (hv : Vw w gl 93 5 vl 7 (clsC (kJ j ++ rJ j))) (hgl : gl < w.heap.size) (hM : MxL w) (h8 : 8 ≤ w.heap.size) :
    Calls Tryz.prog 70 #[vt, vl] w fun e w' => e = .returned (.tuple #[.string (keyJ j), .string (valJ j), .int .i64 0]) ∧ Ext [] w w' :=
  row_any 1 gl vt vl (kJ j) (rJ j) w ht hv h.cells hgl h.k23 h.r40 hM h8
theorem jrowJ (j : Jb) (w : World) (h : OkJ j) : Calls Tryz.prog 157 #[.agg #[.int .i64 (j.id : Nat), .int .i64 (j.pr : Nat), .string j.body, .int .i64 (j.st : Nat), .int .i64 (j.tries : Nat), .int .i64 (j.who : Nat), .int .i64 (j.till : Nat)]] w fun e w' => ∃ g v, e = .returned v ∧ Row w' g 93 5 v 7 (clsC (kJ j ++ rJ j)) ∧ w.heap.size ≤ g ∧ g < w'.heap.size ∧ Ext [] w w' := jrow_any j w h
theorem KL.new {M : List (Value × Value)} {G : Nat → Option Jb} (h : KL M (FG G)) (i : Nat) (j : Jb) (hG : G i = none) : KL (M ++ [(.int .i64 (i : Nat), .string (keyJ j))]) (FG (updG G i (some j))) := by
  refine ⟨fun p hp => ?_, fun k x hk => ?_⟩
  · rcases List.mem_append.1 hp with hp | hp
    · obtain ⟨k, x, hk, rfl⟩ := h.1 p hp
      have hne : k ≠ i := by rintro rfl; simp [FG, hG] at hk
      exact ⟨k, x, by simpa [FG, updG, hne] using hk, rfl⟩
    · simp at hp; exact ⟨i, keyJ j, by simp [FG, updG], hp⟩
  · unfold FG updG at hk
    by_cases e : k = i
    · subst e; simp at hk; subst hk; simp
    · simp only [e, if_false] at hk
      exact List.mem_append_left _ (h.2 k x hk)
theorem KL.fresh {M : List (Value × Value)} {F : Nat → Option ByteArray} (h : KL M F) {i : Nat} (hF : F i = none) : ∀ p ∈ M, p.1 ≠ .int .i64 (i : Nat) := by
  intro p hp he
  obtain ⟨k, x, hk, rfl⟩ := h.1 p hp
  simp only at he
  injection he with _ he
  have : k = i := by omega
  subst this; rw [hF] at hk; cases hk
set_option maxRecDepth 100000 in
set_option maxHeartbeats 4000000 in
theorem setnew_any (b bm g r : Nat) (L : Pairs) (G : Nat → Option Jb) (last now : Nat) (w : World) (h : Qu w b bm g r L (FG G) last now) (hs : QJ L G) (hn : L.length ≤ 1000) (hM : MxL w) (h8 : 8 ≤ w.heap.size) (j : Jb) (hok : OkJ j) (hG : G j.id = none) :
    Calls Tryz.prog 117 #[.pointer (some ⟨b, 0, none⟩), jV j] w fun e w' => e = .returned (.int .i64 0) ∧ ∃ g', Qu w' b bm g' r (putL L (keyJ j) (valJ j)) (FG (updG G j.id (some j))) last now ∧ (g' = g ∨ w.heap.size ≤ g') ∧ Ext [bm, g, r] w w' := by
  have hks := keyJ_size hok
  have hvz := valJ_size hok
  have hsr := Lib.hid hs.srt
  obtain ⟨M, hM0', hK0⟩ := h.mp
  have hKn := Lib.hid (hK0.new j.id j hG)
  have hfr := Lib.hid (hK0.fresh (i := j.id) (by simp [FG, hG]))
  have hnd := h.nd
  have hlb := lt_of_block h.blk
  have hlr := hM0'.lt
  have hlg := h.mdl.lt
  have hlm : bm < w.heap.size := by obtain ⟨v, hv, _⟩ := h.mdl.blk; exact lt_of_block hv
  have hlo := h.lo
  have hlo2 := h.lo'
  show Calls Tryz.prog 117 #[.pointer (some ⟨b, 0, none⟩), .agg #[.int .i64 (j.id : Nat), .int .i64 (j.pr : Nat), .string j.body, .int .i64 (j.st : Nat), .int .i64 (j.tries : Nat), .int .i64 (j.who : Nat), .int .i64 (j.till : Nat)]] w _
  have hrow := rowJ j hok
  have hjr := fun W => jrowJ j W hok
  go_enter Tryz.func117, Tryz.ntmps117
  go_wp2_with fail
  have hx0 : Ext [] w (w.alloc (.cells #[.int .i64 (j.id : Nat), .int .i64 (j.pr : Nat), .string j.body, .int .i64 (j.st : Nat), .int .i64 (j.tries : Nat), .int .i64 (j.who : Nat), .int .i64 (j.till : Nat)] 80)) := (Ext.refl [] w).alloc _
  have hb := heap_alloc_new w (.cells #[.int .i64 (j.id : Nat), .int .i64 (j.pr : Nat), .string j.body, .int .i64 (j.st : Nat), .int .i64 (j.tries : Nat), .int .i64 (j.who : Nat), .int .i64 (j.till : Nat)] 80)
  generalize (w.alloc (.cells #[.int .i64 (j.id : Nat), .int .i64 (j.pr : Nat), .string j.body, .int .i64 (j.st : Nat), .int .i64 (j.tries : Nat), .int .i64 (j.who : Nat), .int .i64 (j.till : Nat)] 80)) = W0 at *
  obtain ⟨⟨c0, c1, c2, c3, c4, c5, c6⟩, _⟩ := cells7 hb
  have hM0 := hM.ext hx0 (by simp)
  have hMd : MxL W0.drew := hM0.ext (Ext.refl [] _).drew (by simp)
  have z0 := hx0.size
  have zd : w.heap.size ≤ W0.drew.heap.size := z0
  go_region_with
    (first
      | (go_at_call 71; refine (table_any _).mono ?_; rintro e w1 ⟨vt, rfl, ht, hxa⟩; obtain ⟨⟨p0, p1, p2, p3, p4, p5, p6⟩, _⟩ := cells7 (hxa.keep hb (by simp)))
      | (go_at_call 157; refine (hjr _).mono ?_; rintro e w2 ⟨gl, vl, rfl, hl, hgl1, hgl2, hxb⟩)
      | (go_at_call 70; refine (hrow gl _ _ _ (Tb.ext ht hxb) hl.vw hgl2 (by first | exact (hM0.ext hxa (by simp)).ext hxb (by simp) | exact (hMd.ext hxa (by simp)).ext hxb (by simp)) (by have q1 := hxa.size; have q2 := hxb.size; omega)).mono ?_; rintro e w3 ⟨rfl, hxc⟩))
  all_goals (
    have hx03 : Ext [] w w3 := by first | exact ((hx0.trans hxa).trans hxb).trans hxc | exact (((hx0.trans (Ext.refl [] _).drew).trans hxa).trans hxb).trans hxc
    have hb3 := (hxb.trans hxc).keep (hxa.keep hb (by simp)) (by simp)
    have h3 := h.ext hx03 (by simp) (by simp) (by simp) (by simp)
    have hlk := fun k => (h3.ext (Ext.drewN (Ext.refl [] w3) k) (by simp) (by simp) (by simp) (by simp)).look_no (i := j.id) (by simp [FG, hG])
    have b0 : w3.cell? ⟨b, 0, none⟩ = some (.pointer (some ⟨bm, 0, none⟩)) := cell_of_row _ _ 0 _ _ _ h3.blk
    have b1 : w3.cell? ⟨b, 1, none⟩ = some (.map (some r)) := cell_of_row _ _ 1 _ _ _ h3.blk
    obtain ⟨⟨s0, s1, s2, s3, s4, s5, s6⟩, _⟩ := cells7 hb3
    clear hrow hjr hl ht hxa hxb hxc hM0 hMd z0 zd
    go_wp2_with fail
    go_quiet (fail)
    go_wp2_with fail
    have hxq : Ext [] w3 (w3.drewN nq) := Ext.drewN (Ext.refl [] w3) nq
    have hzq : w3.heap.size = (w3.drewN nq).heap.size := rfl
    have hz3 := hx03.size
    refine (put_any bm g L (keyJ j) (valJ j) (w3.drewN nq) (h3.mdl.ext hxq (by simp) (by simp)) (by omega) hsr.out hks.1 hks.2 hvz).mono ?_
    rintro e w4 ⟨rfl, g4, hm4, hg4, hx4⟩
    have hb4 := hx4.keep (hxq.keep hb3 (by simp)) (by simp; omega)
    have hq4 := hx4.keep (hxq.keep h3.blk (by simp)) (by simp; omega)
    have hM4 := ((hM0'.ext hx03 (by simp)).ext hxq (by simp)).ext hx4 (by simp; omega)
    have hx04 : Ext [bm, g] w w4 := ((hx03.trans hxq).mono (by simp)).trans hx4
    obtain ⟨w5, hup1, hm5, hxu⟩ := Mp.update_new (P := Tryz.prog) (mt := 126) (kt := 3) (e := 9) (v := .string (keyJ j)) Tryz.underlying126 Tryz.underlying3 (hM4.ext (Ext.refl [] w4).drew (by simp)) (k := .int .i64 (j.id : Nat)) rfl hfr.out
    have HG := Lib.hid hg4
    have d0 : w4.cell? ⟨b, 0, none⟩ = some (.pointer (some ⟨bm, 0, none⟩)) := cell_of_row _ _ 0 _ _ _ hq4
    have d1 : w4.cell? ⟨b, 1, none⟩ = some (.map (some r)) := cell_of_row _ _ 1 _ _ _ hq4
    obtain ⟨⟨t0, t1, t2, t3, t4, t5, t6⟩, _⟩ := cells7 hb4
    clear hg4 hlk hb3 s0 s1 s2 s3 s4 s5 s6 b0 b1 hxq hzq
    go_wp2_with fail
    go_region
    all_goals (
      go_wp2_with fail
      go_ret
      have hg' : g4 = g ∨ w3.heap.size ≤ g4 := HG.out
      have e1 : Ext [bm, g, r] w w4 := hx04.mono (by first | simp | (intro x hx; simp at hx ⊢; omega))
      have e2 : Ext [bm, g, r] w4.drew w5 := hxu.mono (by first | simp | (intro x hx; simp at hx ⊢; omega))
      have e3 : Ext [bm, g, r] w4 w4.drew := ((Ext.refl [] w4).drew).mono (by simp)
      refine ⟨ret1 rfl, g4, ⟨hxu.keep hq4 (by simp; omega), (hm4.ext (Ext.refl [] w4).drew (by simp) (by simp)).ext hxu (by simp; omega) (by simp; omega), ⟨_, hm5, hKn.out⟩, ⟨hnd.1, by omega, hnd.2.2.1, hnd.2.2.2.1, by omega⟩, hlo, hlo2⟩, by omega, (e1.trans e3).trans e2⟩))
end Go.Proofs.YtfadbmfkidiaoaaGreatDoor
