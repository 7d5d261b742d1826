/- Deeds in a slice; what a queue's jobs are to pairs. A new index; the world in which the law makes one. The changes that make a map's pairs. -/
import Derived.Test.YtfadbmfkidiaoaaGreatDoorZ38
namespace Go.Proofs.YtfadbmfkidiaoaaGreatDoor
open Go.RowKit Go Go.MapKept
set_option linter.unusedSimpArgs false
set_option linter.unusedVariables false
set_option linter.unusedSectionVars false
set_option linter.unnecessarySimpa false

structure Dd where
  kind : Nat
  who : Nat
  id : Nat
  nn : Nat
  body : ByteArray
def ddC (x : Dd) : List Value := [.int .u8 (x.kind : Nat), .int .u8 (x.who : Nat), .int .u8 (x.id : Nat), .int .u8 (x.nn : Nat), .string x.body]
theorem ddC_len (x : Dd) : (ddC x).length = 5 := rfl
def dsC (l : List Dd) : List Value := l.flatMap ddC
structure OkD (x : Dd) : Prop where
  k : x.kind < 256
  w : x.who < 256
  i : x.id < 256
  n : x.nn < 256
/-- deeds that are read: nil, or n of them in block g -/
structure Dv (w : World) (g : Nat) (v : Value) (n : Nat) (l : List Dd) : Prop where
  form : ∃ A c, v = .slice A n c ∧ n ≤ c
  le : n ≤ 9223372036854775807
  len : l.length = n
  at_ : ∀ i, (h : i < l.length) → ∃ o c, v = .slice (some ⟨g, o, none⟩) n c ∧ w.cell? ⟨g, o + i * 5, none⟩ = some (.int .u8 (l[i].kind : Nat)) ∧ w.cell? ⟨g, o + i * 5 + 1, none⟩ = some (.int .u8 (l[i].who : Nat)) ∧
    w.cell? ⟨g, o + i * 5 + 2, none⟩ = some (.int .u8 (l[i].id : Nat)) ∧ w.cell? ⟨g, o + i * 5 + 3, none⟩ = some (.int .u8 (l[i].nn : Nat)) ∧ w.cell? ⟨g, o + i * 5 + 4, none⟩ = some (.string l[i].body)
  ok : ∀ x ∈ l, OkD x
theorem Vw.dv {w : World} {g o c : Nat} {l : List Dd} (h : Vw w g 28 5 (.slice (some ⟨g, o, none⟩) l.length c) l.length (dsC l)) (hok : ∀ x ∈ l, OkD x) : Dv w g (.slice (some ⟨g, o, none⟩) l.length c) l.length l := by
  refine ⟨h.form, h.lenMax, rfl, fun i hi => ⟨o, c, rfl, ?_, ?_, ?_, ?_, ?_⟩, hok⟩
  · exact Vw.fm ddC 5 ddC_len h rfl i hi 0 (by omega) _ rfl
  · exact Vw.fm ddC 5 ddC_len h rfl i hi 1 (by omega) _ rfl
  · exact Vw.fm ddC 5 ddC_len h rfl i hi 2 (by omega) _ rfl
  · exact Vw.fm ddC 5 ddC_len h rfl i hi 3 (by omega) _ rfl
  · exact Vw.fm ddC 5 ddC_len h rfl i hi 4 (by omega) _ rfl
theorem Dv.ext {w w' : World} {g : Nat} {v : Value} {n : Nat} {l : List Dd} {S : List Nat} (h : Dv w g v n l) (hx : Ext S w w') (hn : g ∉ S) : Dv w' g v n l :=
  ⟨h.form, h.le, h.len, fun i hi => by obtain ⟨o, c, h1, h2, h3, h4, h5, h6⟩ := h.at_ i hi; exact ⟨o, c, h1, hx.cell h2 hn, hx.cell h3 hn, hx.cell h4 hn, hx.cell h5 hn, hx.cell h6 hn⟩, h.ok⟩

/-- at least so many jobs are there behind a deed -/
def loD (n : Nat) (x : Dd) : Nat := if x.kind % 6 = 0 ∧ x.body.size ≤ 15 then n + 1 else if x.kind % 6 = 2 then 0 else n
theorem loD_mono {m n : Nat} (h : m ≤ n) (x : Dd) : loD m x ≤ loD n x := by unfold loD; split <;> (try split) <;> omega
def loL (l : List Dd) : Nat := l.foldl loD 0
theorem loL_next (l : List Dd) (k : Nat) (h : k < l.length) : loL (l.take (k + 1)) = loD (loL (l.take k)) l[k] := by
  unfold loL
  rw [List.take_succ_eq_append_getElem h, List.foldl_append]
  rfl

/-- the pairs of jobs are those that the map takes -/
theorem QJ.okP {L : Pairs} {G : Nat → Option Jb} (h : QJ L G) : ∀ p ∈ L, OkP p := by
  intro p hp
  obtain ⟨i, j, hj, rfl⟩ := (h.mem p).1 hp
  have := (h.ok i j hj).1
  exact ⟨(keyJ_size this).1, (keyJ_size this).2, valJ_size this⟩
theorem Row.blk0 {w : World} {g e sz : Nat} {v : Value} {n : Nat} {cs : List Value} (h : Row w g e sz v n cs) (hn : n = 0) (hsz : sz ≠ 0) : cs = [] := by
  have := h.vw.len; subst hn; rw [Nat.zero_mul] at this; exact List.length_eq_zero_iff.1 this
end Go.Proofs.YtfadbmfkidiaoaaGreatDoor

namespace Go.Proofs.YtfadbmfkidiaoaaGreatDoor
open Go.RowKit Go Go.MapKept
set_option linter.unusedSimpArgs false
set_option linter.unusedVariables false
set_option linter.unusedSectionVars false
set_option linter.unnecessarySimpa false

set_option maxRecDepth 100000 in
set_option maxHeartbeats 800000 in
theorem new_any (gk gr gx gc ok or_ ox oc ck cr cx cc : Nat) (w : World) (hk : Vw w gk 52 1 (.slice (some ⟨gk, ok, none⟩) 3 ck) 3 (nts [1, 1, 1])) (hr : Vw w gr 52 1 (.slice (some ⟨gr, or_, none⟩) 4 cr) 4 (nts [1, 3, 1, 1])) (hxx : Vw w gx 60 3 (.slice (some ⟨gx, ox, none⟩) 1 cx) 1 [.int .i64 2, .slice (some ⟨gc, oc, none⟩) 1 cc, .bool false])
    (hc : Vw w gc 3 1 (.slice (some ⟨gc, oc, none⟩) 1 cc) 1 [.int .i64 6]) (hlt : gk < w.heap.size ∧ gr < w.heap.size ∧ gx < w.heap.size ∧ gc < w.heap.size) (h8 : 8 ≤ w.heap.size) :
    Calls Tryz.prog 15 #[.agg #[.int .i64 1, .slice (some ⟨gk, ok, none⟩) 3 ck, .slice (some ⟨gr, or_, none⟩) 4 cr], .slice (some ⟨gx, ox, none⟩) 1 cx] w (MadePost w) := by
  have hx0 : Ext [] w (w.alloc (.cells #[.int .i64 1, .slice (some ⟨gk, ok, none⟩) 3 ck, .slice (some ⟨gr, or_, none⟩) 4 cr] 55)) := (Ext.refl [] w).alloc _
  have hz0 := hx0.size
  have hm := made_any gk gr gx gc ok or_ ox oc ck cr cx cc _ (hk.ext hx0 (by simp)) (hr.ext hx0 (by simp)) (hxx.ext hx0 (by simp)) (hc.ext hx0 (by simp)) (by omega) (by omega)
  clear hk hr hxx hc
  go_enter Tryz.func15, Tryz.ntmps15
  go_wp2_with fail
  refine hm.mono ?_
  rintro e w1 ⟨b, bm, g, vk, vr, vx, vc, gk', gr', gx', gc', rfl, hB, h1, h2, h3, hx1⟩
  clear hm
  go_wp2_with fail
  go_ret2
  exact ⟨b, bm, g, vk, vr, vx, vc, gk', gr', gx', gc', rfl, hB, by omega, h2, by omega, hx0.trans hx1⟩

theorem Bs.extS {w w' : World} {b bm g : Nat} {vk vr vx vc : Value} {gk gr gx gc : Nat} {D : Pairs} {S : List Nat} (h : Bs w b bm g vk vr vx vc gk gr gx gc D) (hx : Ext S w w') (hb : b ∉ S) (hbm : bm ∉ S) (hg : g ∉ S) (hk : gk ∉ S) (hr : gr ∉ S) (hgx : gx ∉ S) (hc : gc ∉ S) : Bs w' b bm g vk vr vx vc gk gr gx gc D := by
  obtain ⟨h1, h2, h3, h4, h5, h6, h7, h8, h9⟩ := h
  have := hx.size
  exact ⟨hx.keep h1 hb, h2.ext hx hk, h3.ext hx hr, h4.ext hx hgx, h5.ext hx hc, h6.ext hx hbm hg, by omega, h8, h9⟩

/-- the world behind the literals of a table and an index -/
theorem world5 (w : World) : ∃ W2, W2 = (((((w.alloc (.cells #[.int .i64 1, .int .i64 1, .int .i64 1] 52)).alloc (.cells #[.int .i64 1, .int .i64 3, .int .i64 1, .int .i64 1] 52)).alloc (.cells #[.int .i64 1, .slice (some ⟨w.heap.size, 0, none⟩) 3 3, .slice (some ⟨w.heap.size + 1, 0, none⟩) 4 4] 55)).alloc (.cells #[.int .i64 6] 3)).alloc (.cells #[.int .i64 2, .slice (some ⟨w.heap.size + 3, 0, none⟩) 1 1, .bool false] 60)) ∧
    Ext [] w W2 ∧ W2.heap.size = w.heap.size + 5 ∧ Vw W2 w.heap.size 52 1 (.slice (some ⟨w.heap.size, 0, none⟩) 3 3) 3 (nts [1, 1, 1]) ∧ Vw W2 (w.heap.size + 1) 52 1 (.slice (some ⟨w.heap.size + 1, 0, none⟩) 4 4) 4 (nts [1, 3, 1, 1]) ∧
    W2.heap[w.heap.size + 2]? = some (.cells #[.int .i64 1, .slice (some ⟨w.heap.size, 0, none⟩) 3 3, .slice (some ⟨w.heap.size + 1, 0, none⟩) 4 4] 55 (0, 0)) ∧
    Vw W2 (w.heap.size + 3) 3 1 (.slice (some ⟨w.heap.size + 3, 0, none⟩) 1 1) 1 [.int .i64 6] ∧ Vw W2 (w.heap.size + 4) 60 3 (.slice (some ⟨w.heap.size + 4, 0, none⟩) 1 1) 1 [.int .i64 2, .slice (some ⟨w.heap.size + 3, 0, none⟩) 1 1, .bool false] := by
  have r1 := (Row.new w 52 1 #[.int .i64 1, .int .i64 1, .int .i64 1] 3 3 (by omega) (by simp [maxLen]) rfl).vw
  generalize hw1 : w.alloc (.cells #[.int .i64 1, .int .i64 1, .int .i64 1] 52) = w1 at r1
  have z1 : w1.heap.size = w.heap.size + 1 := by rw [← hw1]; simp
  have x1 : Ext [] w w1 := by rw [← hw1]; exact (Ext.refl [] w).alloc _
  have r2 := (Row.new w1 52 1 #[.int .i64 1, .int .i64 3, .int .i64 1, .int .i64 1] 4 4 (by omega) (by simp [maxLen]) rfl).vw
  generalize hw2 : w1.alloc (.cells #[.int .i64 1, .int .i64 3, .int .i64 1, .int .i64 1] 52) = w2 at r2
  have z2 : w2.heap.size = w1.heap.size + 1 := by rw [← hw2]; simp
  have x2 : Ext [] w1 w2 := by rw [← hw2]; exact (Ext.refl [] w1).alloc _
  have r3 := heap_alloc_new w2 (.cells #[.int .i64 1, .slice (some ⟨w.heap.size, 0, none⟩) 3 3, .slice (some ⟨w.heap.size + 1, 0, none⟩) 4 4] 55)
  generalize hw3 : w2.alloc (.cells #[.int .i64 1, .slice (some ⟨w.heap.size, 0, none⟩) 3 3, .slice (some ⟨w.heap.size + 1, 0, none⟩) 4 4] 55) = w3 at r3
  have z3 : w3.heap.size = w2.heap.size + 1 := by rw [← hw3]; simp
  have x3 : Ext [] w2 w3 := by rw [← hw3]; exact (Ext.refl [] w2).alloc _
  have r4 := (Row.new w3 3 1 #[.int .i64 6] 1 1 (by omega) (by simp [maxLen]) rfl).vw
  generalize hw4 : w3.alloc (.cells #[.int .i64 6] 3) = w4 at r4
  have z4 : w4.heap.size = w3.heap.size + 1 := by rw [← hw4]; simp
  have x4 : Ext [] w3 w4 := by rw [← hw4]; exact (Ext.refl [] w3).alloc _
  have r5 := (Row.new w4 60 3 #[.int .i64 2, .slice (some ⟨w.heap.size + 3, 0, none⟩) 1 1, .bool false] 1 1 (by omega) (by simp [maxLen]) rfl).vw
  generalize hw5 : w4.alloc (.cells #[.int .i64 2, .slice (some ⟨w.heap.size + 3, 0, none⟩) 1 1, .bool false] 60) = w5 at r5
  have z5 : w5.heap.size = w4.heap.size + 1 := by rw [← hw5]; simp
  have x5 : Ext [] w4 w5 := by rw [← hw5]; exact (Ext.refl [] w4).alloc _
  have e1 : w1.heap.size = w.heap.size + 1 := z1
  have e2 : w2.heap.size = w.heap.size + 2 := by omega
  have e3 : w3.heap.size = w.heap.size + 3 := by omega
  have e4 : w4.heap.size = w.heap.size + 4 := by omega
  rw [e1] at r2
  rw [e2] at r3
  rw [e3] at r4
  rw [e4] at r5
  have x25 : Ext [] w2 w5 := (x3.trans x4).trans x5
  exact ⟨w5, rfl, ((x1.trans x2).trans x25), by omega, r1.ext (x2.trans x25) (by simp), r2.ext x25 (by simp), (x4.trans x5).keep r3 (by simp), r4.ext x5 (by simp), r5⟩
end Go.Proofs.YtfadbmfkidiaoaaGreatDoor

namespace Go.Proofs.YtfadbmfkidiaoaaGreatDoor
open Go.RowKit Go
set_option linter.unusedSimpArgs false
set_option linter.unusedVariables false
set_option linter.unusedSectionVars false
set_option linter.unnecessarySimpa false

theorem T61 : SlT Tryz.prog 61 138 5 56 := slT_mk (z := .agg #[.string ⟨#[]⟩, .bool false, .bool false, .string ⟨#[]⟩, .string ⟨#[]⟩]) Tryz.underlying61 (by kernel_rfl) rfl (by omega)
def OfRel (w1 : World) (l : Pairs) (ov iv : Value) (wl : World) : Prop :=
  ∃ (i : Nat) (A : Option Addr) (c' go : Nat), iv = .int .i64 i ∧ i ≤ l.length ∧ ov = .slice A i c' ∧ Row wl go 138 5 (.slice A i c') i (ccs (ofL (l.take i))) ∧ w1.heap.size ≤ go ∧ Ext [] w1 wl
theorem ofL_snoc (l : Pairs) (i : Nat) (h : i < l.length) : ccs (ofL (l.take (i + 1))) = ccs (ofL (l.take i)) ++ [.string (kAt l i), .bool false, .bool true, .string eS, .string (vAt l i)] := by
  have e : l.take (i + 1) = l.take i ++ [l[i]] := by rw [List.take_add_one, List.getElem?_eq_getElem h]; rfl
  rw [e, kAt_eq _ _ h, vAt_eq _ _ h]
  unfold ofL ccs
  rw [List.map_append, List.flatMap_append]; rfl
set_option maxRecDepth 100000 in
set_option maxHeartbeats 4000000 in
theorem of_any (b g : Nat) (l : Pairs) (w : World) (hm : Mdl w b g l) (hn : l.length ≤ 1000) :
    Calls Tryz.prog 61 #[.pointer (some ⟨b, 0, none⟩)] w fun e w' => ∃ g' v', e = .returned v' ∧ Row w' g' 138 5 v' l.length (ccs (ofL l)) ∧ w.heap.size ≤ g' ∧ Ext [] w w' := by
  have hp := pairs_any b g l w hm (by omega)
  clear hm
  go_enter Tryz.func61, Tryz.ntmps61
  go_wp2_with fail
  refine hp.mono ?_
  rintro e w3 ⟨gp, vp, rfl, hrp, hgp, hx3⟩
  clear hp
  obtain ⟨Ap, cp, rfl, _⟩ := hrp.vw.form
  have HPR := Lib.hid hrp.vw
  clear hrp
  have hz3 := hx3.size
  generalize hN : l.length = N at *
  have HN := Lib.hid hN; clear hN
  go_wp2_with fail
  go_loopw [3, 9] (OfRel w3 l) (fun _ iv _ => N - (intOf iv).toNat)
  case atStart => exact ⟨0, none, 0, w3.heap.size, rfl, Nat.zero_le _, rfl, .nil, Nat.le_refl _, Ext.refl _ _⟩
  case round =>
    obtain ⟨i, A, c', go, rfl, hi, rfl, hro, hgo, hx⟩ := hrel
    rw [HN.out] at hi
    by_cases hlt : i < N
    · have hvp := HPR.out
      obtain ⟨o, rfl⟩ := hvp.headU (by omega)
      obtain ⟨k0, k1⟩ := (hvp.ext hx (by simp)).pair i hlt
      clear hvp
      have hsn := Lib.hid (ofL_snoc l i (by have := HN.out; omega))
      generalize kAt l i = K at *
      generalize vAt l i = V at *
      have hxa : Ext [] wr (wr.alloc (.cells #[.string K, .string V] 77)) := (Ext.refl [] wr).alloc _
      have hro1 := (hro.ext hxa (by simp)).ext ((Ext.refl [] (wr.alloc (.cells #[.string K, .string V] 77))).alloc (.cells #[.string K, .bool false, .bool true, .string ⟨#[]⟩, .string V] 138)) (by simp)
      have hn2 := Row.new (wr.alloc (.cells #[.string K, .string V] 77)) 138 5 #[.string K, .bool false, .bool true, .string ⟨#[]⟩, .string V] 1 1 (by omega) (by simp [maxLen]) rfl
      have hone : ∀ u ∈ [Value.string K, .bool false, .bool true, .string ⟨#[]⟩, .string V], u.oneCell' = true := by
        intro u hu
        simp only [List.mem_cons, List.not_mem_nil, or_false] at hu
        rcases hu with rfl | rfl | rfl | rfl | rfl <;> rfl
      simp only [World.size_alloc] at hn2
      go_wp2_with ((with_reducible refine wpList_append T61 rfl (.tmp 13) (.tmp 19) rfl rfl rfl hro1 hn2.vw hone (by omega) (by omega) ?_); rintro g9 A9 c9 w9 hr9 hx9 hg9 hA9 _ _; obtain rfl := hA9 (by omega))
      have sx := hx.size
      simp only [World.size_alloc] at hg9
      have hxa9 : Ext [go] wr w9 := (((Ext.refl [go] wr).alloc _).alloc _).trans hx9
      refine ⟨?rel, ?measure⟩
      case rel =>
        refine ⟨i + 1, some ⟨g9, 0, none⟩, c9, g9, by go_num, by have := HN.out; omega, rfl, ?_, by omega, hx.step hxa9 (by simp; omega)⟩
        rw [hsn.out]; exact hr9
      case measure => simp [intOf]; omega
    · obtain rfl : i = N := by omega
      go_wp2_with fail
      go_ret
      have e : l.take i = l := List.take_of_length_le (by have := HN.out; omega)
      rw [e] at hro
      exact ⟨go, _, rfl, by rw [HN.out]; exact hro, by omega, hx3.trans hx⟩
end Go.Proofs.YtfadbmfkidiaoaaGreatDoor
