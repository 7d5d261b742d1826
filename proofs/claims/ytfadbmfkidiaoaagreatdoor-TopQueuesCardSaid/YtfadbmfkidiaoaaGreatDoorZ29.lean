/- Maps by membership; a job set or taken out, as pairs. A job set in a queue, in the place of what it was. A queue with its jobs: what a deed leaves behind; the list of its jobs. -/
import Derived.Test.YtfadbmfkidiaoaaGreatDoorZ28
namespace Go.Proofs.YtfadbmfkidiaoaaGreatDoor
open Go.RowKit Go Go.MapKept
set_option linter.unusedSimpArgs false
set_option linter.unusedVariables false
set_option linter.unusedSectionVars false
set_option linter.unnecessarySimpa false

theorem mem_set_key {L : List (Value × Value)} (h3 : L.Pairwise fun p q => p.1 ≠ q.1) {j : Nat} {k v v0 : Value} (hj : L[j]? = some (k, v0)) (p : Value × Value) :
    p ∈ L.set j (k, v) ↔ p = (k, v) ∨ (p ∈ L ∧ p.1 ≠ k) := by
  have hjl := (List.getElem?_eq_some_iff.1 hj).1
  constructor
  · intro h
    obtain ⟨i, hi⟩ := List.getElem?_of_mem h
    rw [List.getElem?_set] at hi
    by_cases hij : j = i
    · subst hij; simp [hjl] at hi; exact .inl hi.symm
    · simp only [hij, if_false] at hi
      exact .inr ⟨List.mem_of_getElem? hi, fun e => hij (uniq h3 hj hi e.symm)⟩
  · rintro (rfl | ⟨h, hne⟩)
    · exact List.mem_of_getElem? (i := j) (by simp [hjl])
    · obtain ⟨i, hi⟩ := List.getElem?_of_mem h
      have hij : j ≠ i := by rintro rfl; rw [hi] at hj; cases hj; exact hne rfl
      exact List.mem_of_getElem? (i := i) (by rw [List.getElem?_set]; simp [hij, hi])
theorem mem_erase_key {L : List (Value × Value)} (h3 : L.Pairwise fun p q => p.1 ≠ q.1) {j : Nat} {k v0 : Value} (hj : L[j]? = some (k, v0)) (p : Value × Value) :
    p ∈ L.eraseIdx j ↔ p ∈ L ∧ p.1 ≠ k := by
  rw [List.mem_eraseIdx_iff_getElem?]
  constructor
  · rintro ⟨i, hij, hi⟩
    exact ⟨List.mem_of_getElem? hi, fun e => hij (uniq h3 hi hj e)⟩
  · rintro ⟨h, hne⟩
    obtain ⟨i, hi⟩ := List.getElem?_of_mem h
    exact ⟨i, by rintro rfl; rw [hi] at hj; cases hj; exact hne rfl, hi⟩
section
variable {P : Program} {w : World} {mt kt e r : Nat} {d : TypeDesc} {L : List (Value × Value)} (hm : P.underlying mt = some (.map kt e)) (hd : P.underlying kt = some d) (h : Mp w d r L)
include hm hd h
theorem Mp.upd {k v : Value} (hk : IsKey d k) :
    ∃ w' L', (Instr.mapUpdate mt (.map (some r)) k v).run P w = .ok () w' ∧ Mp w' d r L' ∧ (∀ p, p ∈ L' ↔ p = (k, v) ∨ (p ∈ L ∧ p.1 ≠ k)) ∧ Ext [r] w w' := by
  by_cases hn : ∃ p ∈ L, p.1 = k
  · obtain ⟨⟨k', v0⟩, hp, rfl⟩ := hn
    obtain ⟨j, hj⟩ := List.getElem?_of_mem hp
    obtain ⟨w', h1, h2, h4⟩ := Mp.update_old hm hd h (v := v) hk hj
    exact ⟨w', _, h1, h2, mem_set_key h.dist hj, h4⟩
  · have hn' : ∀ p ∈ L, p.1 ≠ k := fun p hp e => hn ⟨p, hp, e⟩
    obtain ⟨w', h1, h2, h4⟩ := Mp.update_new hm hd h (v := v) hk hn'
    refine ⟨w', _, h1, h2, fun p => ?_, h4⟩
    simp only [List.mem_append, List.mem_singleton]
    constructor
    · rintro (hp | hp)
      · exact .inr ⟨hp, hn' p hp⟩
      · exact .inl hp
    · rintro (hp | ⟨hp, _⟩)
      · exact .inr hp
      · exact .inl hp
theorem Mp.del {k : Value} (t2 ty : Nat) (hk : IsKey d k) :
    ∃ w' L', (Builtin.delete_ #[mt, t2] ty #[.map (some r), k]).run P w = .ok (.tuple #[]) w' ∧ Mp w' d r L' ∧ (∀ p, p ∈ L' ↔ p ∈ L ∧ p.1 ≠ k) ∧ Ext [r] w w' := by
  by_cases hn : ∃ p ∈ L, p.1 = k
  · obtain ⟨⟨k', v0⟩, hp, rfl⟩ := hn
    obtain ⟨j, hj⟩ := List.getElem?_of_mem hp
    obtain ⟨w', h1, h2, h4⟩ := Mp.delete_at hm hd h t2 ty hk hj
    exact ⟨w', _, h1, h2, mem_erase_key h.dist hj, h4⟩
  · have hn' : ∀ p ∈ L, p.1 ≠ k := fun p hp e => hn ⟨p, hp, e⟩
    obtain ⟨w', h1, h2, h4⟩ := Mp.delete_no hm hd h t2 ty hk hn'
    exact ⟨w', _, h1, h2, fun p => ⟨fun hp => ⟨hp, hn' p hp⟩, fun hp => hp.1⟩, h4⟩
end
theorem KL.upd {M M' : List (Value × Value)} {G : Nat → Option Jb} (h : KL M (FG G)) (i : Nat) (j : Jb) (hM : ∀ p, p ∈ M' ↔ p = ((.int .i64 (i : Nat), .string (keyJ j)) : Value × Value) ∨ (p ∈ M ∧ p.1 ≠ .int .i64 (i : Nat))) : KL M' (FG (updG G i (some j))) := by
  refine ⟨fun p hp => ?_, fun k x hk => ?_⟩
  · rcases (hM p).1 hp with hp | ⟨hp, hne⟩
    · exact ⟨i, keyJ j, by simp [FG, updG], hp⟩
    · obtain ⟨k, x, hk, rfl⟩ := h.1 p hp
      have hki : k ≠ i := by rintro rfl; exact hne rfl
      exact ⟨k, x, by simpa [FG, updG, hki] using hk, rfl⟩
  · unfold FG updG at hk
    by_cases e : k = i
    · subst e; simp at hk; subst hk; exact (hM _).2 (.inl rfl)
    · simp only [e, if_false] at hk
      refine (hM _).2 (.inr ⟨h.2 k x hk, fun he => e ?_⟩)
      injection he with _ he; omega
theorem KL.del {M M' : List (Value × Value)} {G : Nat → Option Jb} (h : KL M (FG G)) (i : Nat) (hM : ∀ p, p ∈ M' ↔ p ∈ M ∧ p.1 ≠ .int .i64 (i : Nat)) : KL M' (FG (updG G i none)) := by
  refine ⟨fun p hp => ?_, fun k x hk => ?_⟩
  · obtain ⟨hp, hne⟩ := (hM p).1 hp
    obtain ⟨k, x, hk, rfl⟩ := h.1 p hp
    have hki : k ≠ i := by rintro rfl; exact hne rfl
    exact ⟨k, x, by simpa [FG, updG, hki] using hk, rfl⟩
  · unfold FG updG at hk
    by_cases e : k = i
    · subst e; simp at hk
    · simp only [e, if_false] at hk
      refine (hM _).2 ⟨h.2 k x hk, fun he => e ?_⟩
      injection he with _ he; omega
theorem QJ.hasNo {L : Pairs} {G : Nat → Option Jb} (h : QJ L G) {j : Jb} (hj : OkJ j) (hn : G j.id = none) : YtfadbmfkidiaoaaGreatDoor.has L (keyJ j) = false := by
  rw [← Bool.not_eq_true, has_mem h.srt]
  rintro ⟨v, hv⟩
  obtain ⟨i, x, hx, he⟩ := (h.mem _).1 hv
  have h1 := h.ok i x hx
  have := keyJ_inj hj h1.1 (Prod.mk.inj he).1
  rw [this, h1.2, hx] at hn; cases hn
theorem putL_len {L : Pairs} {k v : ByteArray} (hh : has L k = false) : (putL L k v).length = L.length + 1 := by
  unfold putL; rw [hh]; simp [ins_len]
theorem delL_len {L : Pairs} {k : ByteArray} (hh : has L k = true) : (delL L k).length = L.length - 1 ∧ 1 ≤ L.length := by
  have hin : rk L k < L.length := by simp [has] at hh; exact hh.1
  unfold delL; rw [delAt_len _ _ hin]; omega
theorem updG_updG (G : Nat → Option Jb) (i : Nat) (a b : Option Jb) : updG (updG G i a) i b = updG G i b := by
  funext k; unfold updG; split <;> rfl
theorem QJ.setOld {L : Pairs} {G : Nat → Option Jb} (h : QJ L G) {j j0 : Jb} (hj : OkJ j) (h0 : G j.id = some j0) :
    QJ (putL (delL L (keyJ j0)) (keyJ j) (valJ j)) (updG G j.id (some j)) ∧ (putL (delL L (keyJ j0)) (keyJ j) (valJ j)).length = L.length := by
  have hd := h.del h0
  have hn : updG G j.id none j.id = none := by simp [updG]
  have := hd.put hj hn
  rw [updG_updG] at this
  have hl := delL_len (h.has h0)
  exact ⟨this, by rw [putL_len (hd.hasNo hj hn)]; omega⟩
theorem OkJ.id_ {j : Jb} (h : OkJ j) : j.id ≤ 1000 := h.id
end Go.Proofs.YtfadbmfkidiaoaaGreatDoor

namespace Go.Proofs.YtfadbmfkidiaoaaGreatDoor
open Go.RowKit Go Go.MapKept
set_option linter.unusedSimpArgs false
set_option linter.unusedVariables false
set_option linter.unusedSectionVars false
set_option linter.unnecessarySimpa false

set_option maxRecDepth 100000 in
set_option maxHeartbeats 4000000 in
theorem setold_any (b bm g r : Nat) (L : Pairs) (G : Nat → Option Jb) (last now : Nat) (w : World) (h : Qu w b bm g r L (FG G) last now) (hs : QJ L G) (hn : L.length ≤ 1000) (hM : MxL w) (h8 : 8 ≤ w.heap.size) (j : Jb) (hok : OkJ j) (j0 : Jb) (hG : G j.id = some j0) :
    Calls Tryz.prog 117 #[.pointer (some ⟨b, 0, none⟩), jV j] w fun e w' => e = .returned (.int .i64 0) ∧ ∃ g', Qu w' b bm g' r (putL (delL L (keyJ j0)) (keyJ j) (valJ j)) (FG (updG G j.id (some j))) last now ∧ (g' = g ∨ w.heap.size ≤ g') ∧ Ext [bm, g, r] w w' := by
  have hks := keyJ_size hok
  have hvz := valJ_size hok
  have hsr := Lib.hid hs.srt
  obtain ⟨M, hM0', hK0⟩ := h.mp
  have hKn := fun M' => hK0.upd (M' := M') j.id j
  have hok0 := (hs.ok _ _ hG).1
  have hks0 := keyJ_size hok0
  have hhas := Lib.hid (hs.has hG)
  have hdl := delL_len (hs.has hG)
  have hsd := Lib.hid (srt_del hs.srt (keyJ j0))
  have hnd := h.nd
  have hlb := lt_of_block h.blk
  have hlr := hM0'.lt
  have hlg := h.mdl.lt
  have hlm : bm < w.heap.size := by obtain ⟨v, hv, _⟩ := h.mdl.blk; exact lt_of_block hv
  have hlo := h.lo
  have hlo2 := h.lo'
  show Calls Tryz.prog 117 #[.pointer (some ⟨b, 0, none⟩), .agg #[.int .i64 (j.id : Nat), .int .i64 (j.pr : Nat), .string j.body, .int .i64 (j.st : Nat), .int .i64 (j.tries : Nat), .int .i64 (j.who : Nat), .int .i64 (j.till : Nat)]] w _
  have hrow := rowJ j hok
  have hjr := fun W => jrowJ j W hok
  go_enter Tryz.func117, Tryz.ntmps117
  go_wp2_with fail
  have hx0 : Ext [] w (w.alloc (.cells #[.int .i64 (j.id : Nat), .int .i64 (j.pr : Nat), .string j.body, .int .i64 (j.st : Nat), .int .i64 (j.tries : Nat), .int .i64 (j.who : Nat), .int .i64 (j.till : Nat)] 80)) := (Ext.refl [] w).alloc _
  have hb := heap_alloc_new w (.cells #[.int .i64 (j.id : Nat), .int .i64 (j.pr : Nat), .string j.body, .int .i64 (j.st : Nat), .int .i64 (j.tries : Nat), .int .i64 (j.who : Nat), .int .i64 (j.till : Nat)] 80)
  generalize (w.alloc (.cells #[.int .i64 (j.id : Nat), .int .i64 (j.pr : Nat), .string j.body, .int .i64 (j.st : Nat), .int .i64 (j.tries : Nat), .int .i64 (j.who : Nat), .int .i64 (j.till : Nat)] 80)) = W0 at *
  obtain ⟨⟨c0, c1, c2, c3, c4, c5, c6⟩, _⟩ := cells7 hb
  have hM0 := hM.ext hx0 (by simp)
  have hMd : MxL W0.drew := hM0.ext (Ext.refl [] _).drew (by simp)
  have z0 := hx0.size
  have zd : w.heap.size ≤ W0.drew.heap.size := z0
  go_region_with
    (first
      | (go_at_call 71; refine (table_any _).mono ?_; rintro e w1 ⟨vt, rfl, ht, hxa⟩; obtain ⟨⟨p0, p1, p2, p3, p4, p5, p6⟩, _⟩ := cells7 (hxa.keep hb (by simp)))
      | (go_at_call 157; refine (hjr _).mono ?_; rintro e w2 ⟨gl, vl, rfl, hl, hgl1, hgl2, hxb⟩)
      | (go_at_call 70; refine (hrow gl _ _ _ (Tb.ext ht hxb) hl.vw hgl2 (by first | exact (hM0.ext hxa (by simp)).ext hxb (by simp) | exact (hMd.ext hxa (by simp)).ext hxb (by simp)) (by have q1 := hxa.size; have q2 := hxb.size; omega)).mono ?_; rintro e w3 ⟨rfl, hxc⟩))
  all_goals (
    have hx03 : Ext [] w w3 := by first | exact ((hx0.trans hxa).trans hxb).trans hxc | exact (((hx0.trans (Ext.refl [] _).drew).trans hxa).trans hxb).trans hxc
    have hb3 := (hxb.trans hxc).keep (hxa.keep hb (by simp)) (by simp)
    have h3 := h.ext hx03 (by simp) (by simp) (by simp) (by simp)
    have hlk := fun k => (h3.ext (Ext.drewN (Ext.refl [] w3) k) (by simp) (by simp) (by simp) (by simp)).look_yes (i := j.id) (k := keyJ j0) (by simp [FG, hG])
    have b0 : w3.cell? ⟨b, 0, none⟩ = some (.pointer (some ⟨bm, 0, none⟩)) := cell_of_row _ _ 0 _ _ _ h3.blk
    have b1 : w3.cell? ⟨b, 1, none⟩ = some (.map (some r)) := cell_of_row _ _ 1 _ _ _ h3.blk
    obtain ⟨⟨s0, s1, s2, s3, s4, s5, s6⟩, _⟩ := cells7 hb3
    clear hrow hjr hl ht hxa hxb hxc hM0 hMd z0 zd
    go_wp2_with fail
    go_quiet (fail)
    go_wp2_with fail
    have hxq : Ext [] w3 (w3.drewN nq) := Ext.drewN (Ext.refl [] w3) nq
    have hzq : w3.heap.size = (w3.drewN nq).heap.size := rfl
    have hz3 := hx03.size
    refine (delete_yes bm g L (keyJ j0) (w3.drewN nq) (h3.mdl.ext hxq (by simp) (by simp)) (by omega) hsr.out hks0.1 hks0.2 hhas.out).mono ?_
    rintro e wd ⟨rfl, hmd, hxd⟩
    have hqd := hxd.keep (hxq.keep h3.blk (by simp)) (by simp; omega)
    have e0 : wd.cell? ⟨b, 0, none⟩ = some (.pointer (some ⟨bm, 0, none⟩)) := cell_of_row _ _ 0 _ _ _ hqd
    clear b0 b1
    go_wp2_with fail
    refine (put_any bm g (delL L (keyJ j0)) (keyJ j) (valJ j) wd hmd (by omega) hsd.out hks.1 hks.2 hvz).mono ?_
    rintro e w4 ⟨rfl, g4, hm4, hg4, hx4'⟩
    have hx4 : Ext [bm, g] (w3.drewN nq) w4 := hxd.trans hx4'
    have hzd := hxd.size
    have hb4 := hx4.keep (hxq.keep hb3 (by simp)) (by simp; omega)
    have hq4 := hx4.keep (hxq.keep h3.blk (by simp)) (by simp; omega)
    have hM4 := ((hM0'.ext hx03 (by simp)).ext hxq (by simp)).ext hx4 (by simp; omega)
    have hx04 : Ext [bm, g] w w4 := ((hx03.trans hxq).mono (by simp)).trans hx4
    obtain ⟨w5, M5, hup1, hm5, hmm5, hxu⟩ := Mp.upd (P := Tryz.prog) (mt := 126) (kt := 3) (e := 9) (v := .string (keyJ j)) Tryz.underlying126 Tryz.underlying3 (hM4.ext (Ext.refl [] w4).drew (by simp)) (k := .int .i64 (j.id : Nat)) rfl
    have hKn5 := Lib.hid (hKn M5 hmm5)
    have hg4 : g4 = g ∨ w3.heap.size ≤ g4 := by rcases hg4 with h | h; exact .inl h; exact .inr (by omega)
    have HG := Lib.hid hg4
    have d0 : w4.cell? ⟨b, 0, none⟩ = some (.pointer (some ⟨bm, 0, none⟩)) := cell_of_row _ _ 0 _ _ _ hq4
    have d1 : w4.cell? ⟨b, 1, none⟩ = some (.map (some r)) := cell_of_row _ _ 1 _ _ _ hq4
    obtain ⟨⟨t0, t1, t2, t3, t4, t5, t6⟩, _⟩ := cells7 hb4
    clear hg4 hlk hb3 s0 s1 s2 s3 s4 s5 s6 hxq hzq hmm5 hKn
    go_wp2_with fail
    go_region
    all_goals (
      go_wp2_with fail
      go_ret
      have hg' : g4 = g ∨ w3.heap.size ≤ g4 := HG.out
      have e1 : Ext [bm, g, r] w w4 := hx04.mono (by first | simp | (intro x hx; simp at hx ⊢; omega))
      have e2 : Ext [bm, g, r] w4.drew w5 := hxu.mono (by first | simp | (intro x hx; simp at hx ⊢; omega))
      have e3 : Ext [bm, g, r] w4 w4.drew := ((Ext.refl [] w4).drew).mono (by simp)
      refine ⟨ret1 rfl, g4, ⟨hxu.keep hq4 (by simp; omega), (hm4.ext (Ext.refl [] w4).drew (by simp) (by simp)).ext hxu (by simp; omega) (by simp; omega), ⟨_, hm5, hKn5.out⟩, ⟨hnd.1, by omega, hnd.2.2.1, hnd.2.2.2.1, by omega⟩, hlo, hlo2⟩, by omega, (e1.trans e3).trans e2⟩))
end Go.Proofs.YtfadbmfkidiaoaaGreatDoor

namespace Go.Proofs.YtfadbmfkidiaoaaGreatDoor
open Go.RowKit Go Go.MapKept
set_option linter.unusedSimpArgs false
set_option linter.unusedVariables false
set_option linter.unusedSectionVars false
set_option linter.unnecessarySimpa false

/-- a queue in memory whose jobs are G, n in number -/
def Qx (w : World) (b bm g r : Nat) (G : Nat → Option Jb) (n last now : Nat) : Prop := ∃ L, Qu w b bm g r L (FG G) last now ∧ QJ L G ∧ L.length = n
/-- what a deed leaves: the queue, with other jobs -/
def QPost (b bm g r : Nat) (w : World) (G' : Nat → Option Jb) (n' last' now' : Nat) (w' : World) : Prop :=
  ∃ g', Qx w' b bm g' r G' n' last' now' ∧ (g' = g ∨ w.heap.size ≤ g') ∧ Ext [b, bm, g, r] w w'
theorem Qx.ext {w w' : World} {b bm g r : Nat} {G : Nat → Option Jb} {n last now : Nat} {S : List Nat} (h : Qx w b bm g r G n last now) (hx : Ext S w w') (h1 : b ∉ S) (h2 : bm ∉ S) (h3 : g ∉ S) (h4 : r ∉ S) : Qx w' b bm g r G n last now := by
  obtain ⟨L, q1, q2, q3⟩ := h
  exact ⟨L, q1.ext hx h1 h2 h3 h4, q2, q3⟩
theorem Qx.ext0 {w w' : World} {b bm g r : Nat} {G : Nat → Option Jb} {n last now : Nat} (h : Qx w b bm g r G n last now) (hx : Ext [] w w') : Qx w' b bm g r G n last now := h.ext hx (by simp) (by simp) (by simp) (by simp)
theorem Qx.lt {w : World} {b bm g r : Nat} {G : Nat → Option Jb} {n last now : Nat} (h : Qx w b bm g r G n last now) : b < w.heap.size ∧ bm < w.heap.size ∧ g < w.heap.size ∧ r < w.heap.size ∧ 8 ≤ b ∧ 8 ≤ bm ∧ 8 ≤ g ∧ 8 ≤ r := by
  obtain ⟨L, q1, q2, q3⟩ := h
  obtain ⟨M, hM, _⟩ := q1.mp
  have h1 := lt_of_block q1.blk
  have h2 := hM.lt
  have h3 := q1.mdl.lt
  have h4 : bm < w.heap.size := by obtain ⟨v, hv, _⟩ := q1.mdl.blk; exact lt_of_block hv
  exact ⟨h1, h4, h3, h2, q1.lo, q1.mdl.lo, q1.mdl.lo', q1.lo'⟩
theorem QPost.refl {w : World} {b bm g r : Nat} {G : Nat → Option Jb} {n last now : Nat} (h : Qx w b bm g r G n last now) : QPost b bm g r w G n last now w :=
  ⟨g, h, .inl rfl, Ext.refl _ _⟩
theorem QPost.from {w w1 w' : World} {b bm g r : Nat} {G : Nat → Option Jb} {n last now : Nat} (hx : Ext [] w w1) (h : QPost b bm g r w1 G n last now w') : QPost b bm g r w G n last now w' := by
  obtain ⟨g', h1, h2, h3⟩ := h
  have := hx.size
  exact ⟨g', h1, by omega, (hx.mono (by simp)).trans h3⟩
theorem QPost.step {w w1 w' : World} {b bm g g1 r : Nat} {G : Nat → Option Jb} {n last now : Nat} (hg : g1 = g ∨ w.heap.size ≤ g1) (hx : Ext [b, bm, g, r] w w1) (h : QPost b bm g1 r w1 G n last now w') : QPost b bm g r w G n last now w' := by
  obtain ⟨g', h1, h2, h3⟩ := h
  have := hx.size
  exact ⟨g', h1, by omega, hx.step h3 (by intro x hx; simp at hx ⊢; omega)⟩
theorem QPost.more {w w1 w' : World} {b bm g r : Nat} {G : Nat → Option Jb} {n last now : Nat} (h : QPost b bm g r w G n last now w1) (hx : Ext [] w1 w') : QPost b bm g r w G n last now w' := by
  obtain ⟨g', h1, h2, h3⟩ := h
  exact ⟨g', h1.ext0 hx, h2, h3.trans0 hx⟩
theorem MxL.post {w w' : World} {b bm g r : Nat} {G : Nat → Option Jb} {n last now : Nat} (hM : MxL w) (h8 : 8 ≤ b ∧ 8 ≤ bm ∧ 8 ≤ g ∧ 8 ≤ r) (h : QPost b bm g r w G n last now w') : MxL w' := by
  obtain ⟨g', h1, h2, h3⟩ := h
  exact hM.ext h3 (by simp; omega)
theorem set_any (b bm g r : Nat) (G : Nat → Option Jb) (n last now : Nat) (w : World) (h : Qx w b bm g r G n last now) (hn : n ≤ 1000) (hM : MxL w) (h8 : 8 ≤ w.heap.size) (j : Jb) (hok : OkJ j) :
    Calls Tryz.prog 117 #[.pointer (some ⟨b, 0, none⟩), jV j] w fun e w' => e = .returned (.int .i64 0) ∧ QPost b bm g r w (updG G j.id (some j)) (if (G j.id).isSome then n else n + 1) last now w' := by
  have hlt := h.lt
  obtain ⟨L, q1, q2, q3⟩ := h
  cases hG : G j.id with
  | none =>
    refine (setnew_any b bm g r L G last now w q1 q2 (by omega) hM h8 j hok hG).mono ?_
    rintro e w' ⟨rfl, g', h1, h2, h3⟩
    exact ⟨rfl, g', ⟨_, h1, q2.put hok hG, by rw [putL_len (q2.hasNo hok hG)]; simp; omega⟩, h2, h3.mono (by intro x hx; simp at hx ⊢; omega)⟩
  | some j0 =>
    refine (setold_any b bm g r L G last now w q1 q2 (by omega) hM h8 j hok j0 hG).mono ?_
    rintro e w' ⟨rfl, g', h1, h2, h3⟩
    have := q2.setOld hok hG
    exact ⟨rfl, g', ⟨_, h1, this.1, by rw [this.2]; simp; omega⟩, h2, h3.mono (by intro x hx; simp at hx ⊢; omega)⟩
/-- the jobs of a queue in the order of their keys -/
structure JLs (L : Pairs) (G : Nat → Option Jb) (js : List Jb) : Prop where
  eq : L = js.map fun j => (keyJ j, valJ j)
  ok : ∀ j ∈ js, OkJ j ∧ G j.id = some j
  all : ∀ i j, G i = some j → j ∈ js
  dist : js.Pairwise fun i j => i.id ≠ j.id
theorem QJ.list {L : Pairs} {G : Nat → Option Jb} (h : QJ L G) : ∃ js, JLs L G js := by
  have key : ∀ l : Pairs, (∀ p ∈ l, ∃ j, OkJ j ∧ G j.id = some j ∧ p = (keyJ j, valJ j)) → ∃ js : List Jb, l = js.map (fun j => (keyJ j, valJ j)) ∧ ∀ j ∈ js, OkJ j ∧ G j.id = some j := by
    intro l
    induction l with
    | nil => intro _; exact ⟨[], rfl, by simp⟩
    | cons p l ih =>
      intro hl
      obtain ⟨js, h1, h2⟩ := ih fun q hq => hl q (List.mem_cons_of_mem _ hq)
      obtain ⟨j, h3, h4, h5⟩ := hl p (List.mem_cons_self ..)
      refine ⟨j :: js, by rw [h5, h1]; rfl, fun x hx => ?_⟩
      rcases List.mem_cons.1 hx with rfl | hx
      · exact ⟨h3, h4⟩
      · exact h2 x hx
  obtain ⟨js, h1, h2⟩ := key L fun p hp => by
    obtain ⟨i, j, hj, rfl⟩ := (h.mem p).1 hp
    have h1 := h.ok i j hj
    exact ⟨j, h1.1, by rw [h1.2]; exact hj, rfl⟩
  refine ⟨js, h1, h2, fun i j hj => ?_, ?_⟩
  · have h3 := (h.mem (keyJ j, valJ j)).2 ⟨i, j, hj, rfl⟩
    have h4 := h.ok i j hj
    rw [h1] at h3
    obtain ⟨x, hx, he⟩ := List.mem_map.1 h3
    have h5 := h2 x hx
    have h6 := keyJ_inj h5.1 h4.1 (Prod.mk.inj he).1
    have h7 := h5.2
    rw [h6, h4.2, hj] at h7
    cases h7; exact hx
  · have hs := h.srt
    rw [h1] at hs
    unfold Srt at hs
    rw [List.pairwise_map] at hs
    refine List.Pairwise.imp_of_mem (fun {a b} ha hb h3 hid => ?_) hs
    have ha := h2 a ha
    have hb := h2 b hb
    have := ha.2
    rw [hid, hb.2] at this
    cases this
    exact klt_irrefl _ h3
end Go.Proofs.YtfadbmfkidiaoaaGreatDoor
