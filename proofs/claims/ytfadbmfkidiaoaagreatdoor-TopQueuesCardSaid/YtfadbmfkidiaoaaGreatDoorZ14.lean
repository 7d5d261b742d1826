/- The pieces joined again. -/
import Derived.Test.YtfadbmfkidiaoaaGreatDoorZ13
namespace Go.Proofs.YtfadbmfkidiaoaaGreatDoor
open Go.RowKit Go

/-- a list of slices of bytes in memory -/
structure Lst (w : World) (g o : Nat) (c N : Nat) (vs : List Value) (L : List (List UInt8)) : Prop where
  v : Vw w g 104 1 (.slice (some ⟨g, o, none⟩) N c) N vs
  s : Slcs w 0 vs L
  n : L.length = N
theorem Lst.ext {w w' : World} {g o c N : Nat} {vs : List Value} {L : List (List UInt8)} {S : List Nat} (h : Lst w g o c N vs L) (hx : Ext S w w') (hS : ∀ x ∈ S, w.heap.size ≤ x ∨ ∃ ob, w.heap[x]? = some ob ∧ ob.isCells = false) (hN : 0 < N) : Lst w' g o c N vs L := by
  have hk : ∀ {b : Nat} {cur : Array Value} {e : Nat} {fz : Nat × Nat}, w.heap[b]? = some (.cells cur e fz) → b ∉ S := fun hb hm => by
    rcases hS _ hm with h1 | ⟨ob, h1, h2⟩
    · have := lt_of_block hb; omega
    · rw [hb] at h1; cases h1; cases h2
  have hg : g ∉ S := by
    cases h.v with
    | at_ _ _ _ _ hty => obtain ⟨cur, fz, hb⟩ := hty hN; exact hk hb
  refine ⟨h.v.ext hx hg, ⟨h.s.1, fun i hi => ?_⟩, h.n⟩
  obtain ⟨gi, cur, fz, h1, h2, h3, h4⟩ := h.s.2 i hi
  exact ⟨gi, cur, fz, h1, hx.keep h2 (hk h2), h3.ext hx (hk h2), h4⟩
theorem Lst.at_ {w : World} {g o c N : Nat} {vs : List Value} {L : List (List UInt8)} (h : Lst w g o c N vs L) {i : Nat} (hi : i < N) {p : List UInt8} (hp : L.getD i [] = p) : ∃ gi oi ci, w.cell? ⟨g, o + i, none⟩ = some (.slice (some ⟨gi, oi, none⟩) p.length ci) ∧ Vw w gi 5 1 (.slice (some ⟨gi, oi, none⟩) p.length ci) p.length (bcs p) ∧ gi < w.heap.size ∧ vs.getD i undef = .slice (some ⟨gi, oi, none⟩) p.length ci := by
  have hL := h.n
  obtain ⟨gi, cur, fz, h1, h2, h3, oi, ci, h4⟩ := h.s.2 i (by omega)
  rw [hp] at h3 h4
  refine ⟨gi, oi, ci, ?_, by rw [h4] at h3; exact h3, lt_of_block h2, h4⟩
  rw [← h4]
  cases h.v with
  | at_ hl _ _ hcell _ =>
    refine hcell i _ ?_
    have : i < vs.length := by rw [h.s.1]; omega
    simp [this]

def joinSum (b : List UInt8) (s k : Nat) : Nat := b.length - (nCh b.length s - k) * s
theorem partL_len (b : List UInt8) (s q : Nat) : (partL b s q).length = min s (b.length - q * s) := by simp [partL]
/-- a piece, how many there are under a name -/
def pieceN (b : List UInt8) (s N q : Nat) : List UInt8 := fourB (ckN b) ++ [UInt8.ofNat (q / 256), UInt8.ofNat q, UInt8.ofNat (N / 256), UInt8.ofNat N] ++ partL b s q
theorem pieceN_len (b : List UInt8) (s N q : Nat) : (pieceN b s N q).length = 8 + (partL b s q).length := by simp [pieceN, fourB]; omega
theorem joinSum_zero (b : List UInt8) (s : Nat) (hs : 1 ≤ s) : joinSum b s 0 = 0 := by
  unfold joinSum
  have : ¬ nCh b.length s * s < b.length := fun h => by have := (nCh_lt hs).2 h; omega
  rw [Nat.sub_zero]; omega
theorem joinSum_succ (b : List UInt8) (s k : Nat) (hk : k < nCh b.length s) : joinSum b s (k + 1) = joinSum b s k + (partL b s (nCh b.length s - 1 - k)).length := by
  unfold joinSum
  rw [partL_len]
  have e1 : nCh b.length s - (k + 1) = nCh b.length s - 1 - k := by omega
  have e2 : nCh b.length s - k = (nCh b.length s - 1 - k) + 1 := by omega
  rw [e1, e2, Nat.succ_mul]
  omega

/-- the parts so far, in the order in which their pieces came -/
def JM (b : List UInt8) (s N r i : Nat) (w : World) (ms : List (Value × Value)) : Prop :=
  ms.length = i ∧ ∀ k, k < i → ∃ gi A c, ms[k]? = some (.int .u32 ((N - 1 - k : Nat) : Int), .slice A (partL b s (N - 1 - k)).length c) ∧ Vw w gi 5 1 (.slice A (partL b s (N - 1 - k)).length c) (partL b s (N - 1 - k)).length (bcs (partL b s (N - 1 - k))) ∧ gi < r
theorem JM.ext {b : List UInt8} {s N r i : Nat} {w w' : World} {ms : List (Value × Value)} {S : List Nat} (h : JM b s N r i w ms) (hx : Ext S w w') (hS : ∀ x ∈ S, r ≤ x) : JM b s N r i w' ms := by
  refine ⟨h.1, fun k hk => ?_⟩
  obtain ⟨gi, A, c, h1, h2, h3⟩ := h.2 k hk
  exact ⟨gi, A, c, h1, h2.ext hx (fun hm => by have := hS _ hm; omega), h3⟩
theorem JM.fresh {b : List UInt8} {s N r i : Nat} {w : World} {ms : List (Value × Value)} (h : JM b s N r i w ms) (hi : i < N) : ∀ p ∈ ms, p.1 ≠ .int .u32 ((N - 1 - i : Nat) : Int) := by
  intro p hp he
  obtain ⟨k, hk, hke⟩ := List.mem_iff_getElem.1 hp
  have hki : k < i := by rw [← h.1]; exact hk
  obtain ⟨gi, A, c, h1, _⟩ := h.2 k hki
  rw [List.getElem?_eq_getElem hk, hke] at h1
  have h2 := Option.some.inj h1
  rw [h2] at he
  injection he with _ he
  omega
theorem JM.snoc {b : List UInt8} {s N r i gi c : Nat} {A : Option Addr} {w : World} {ms : List (Value × Value)} (h : JM b s N r i w ms) (hv : Vw w gi 5 1 (.slice A (partL b s (N - 1 - i)).length c) (partL b s (N - 1 - i)).length (bcs (partL b s (N - 1 - i)))) (hg : gi < r) :
    JM b s N r (i + 1) w (ms ++ [(.int .u32 ((N - 1 - i : Nat) : Int), .slice A (partL b s (N - 1 - i)).length c)]) := by
  refine ⟨by simp [h.1], fun k hk => ?_⟩
  rw [List.getElem?_append, h.1]
  split
  · next hlt => exact h.2 k hlt
  · have : k = i := by omega
    subst this
    exact ⟨gi, A, c, by simp, hv, hg⟩
theorem take_part (b : List UInt8) (s i : Nat) : b.take ((i + 1) * s) = b.take (i * s) ++ partL b s i := by
  unfold partL; rw [Nat.succ_mul, List.take_add]
theorem JM.part {b : List UInt8} {s N r i : Nat} {w : World} {ms : List (Value × Value)} (h : JM b s N r N w ms) (hi : i < N) :
    ∃ gi A c, (Value.int .u32 (i : Int), Value.slice A (partL b s i).length c) ∈ ms ∧ Vw w gi 5 1 (.slice A (partL b s i).length c) (partL b s i).length (bcs (partL b s i)) ∧ gi < r := by
  obtain ⟨gi, A, c, h1, h2, h3⟩ := h.2 (N - 1 - i) (by omega)
  have e : N - 1 - (N - 1 - i) = i := by omega
  rw [e] at h1 h2
  exact ⟨gi, A, c, List.mem_of_getElem? h1, h2, h3⟩
theorem zero104 (w : World) : (zeroValue 104).run Tryz.prog w = .ok (.slice none 0 0) w := by
  have h : (Tryz.prog.info? 104).map (fun i => (i.zero, i.size, i.bytes)) = some (some (.slice none 0 0), 1, 24) := by kernel_rfl
  obtain ⟨i, hi, hz, _, _⟩ := info_parts h
  simp [zeroValue, typeInfo, hi, hz]

set_option maxRecDepth 100000 in
set_option maxHeartbeats 3200000 in
theorem join_any (g o c s : Nat) (b : List UInt8) (vs : List Value) (w : World) (hl : Lst w g o c (nCh b.length s) vs (piecesL b s (nCh b.length s)).reverse) (hn : b.length ≤ 65535) (h0 : 0 < b.length) (hs : 1 ≤ s) (hs2 : s ≤ 65536) :
    Calls Tryz.prog 40 #[.slice (some ⟨g, o, none⟩) (nCh b.length s) c] w fun e w' => ∃ g' v', e = .returned (.tuple #[v', .int .i64 0]) ∧ Row w' g' 5 1 v' b.length (bcs b) ∧ w.heap.size ≤ g' ∧ Ext [] w w' := by
  have hN : nCh b.length s ≤ b.length := by
    have : ¬ b.length < nCh b.length s := fun h => by have := (nCh_lt hs).1 h; have := Nat.le_mul_of_pos_right b.length hs; omega
    omega
  have hN0 : 0 < nCh b.length s := (nCh_lt hs).2 (by omega)
  have hpc : ∀ i, i < nCh b.length s → (piecesL b s (nCh b.length s)).reverse.getD i [] = pieceN b s (nCh b.length s) (nCh b.length s - 1 - i) := by
    intro i hi
    have hlen : (piecesL b s (nCh b.length s)).length = nCh b.length s := by simp [piecesL]
    rw [List.getD_eq_getElem?_getD, List.getElem?_reverse (by omega), hlen]
    have : nCh b.length s - 1 - i < nCh b.length s := by omega
    simp [piecesL, this]
    rfl
  have hpf : ∀ i, i < nCh b.length s → ∀ j, (joinSum b s i) ≤ b.length ∧ (partL b s j).length ≤ 65536 := fun i _ j => ⟨by unfold joinSum; omega, by rw [partL_len]; omega⟩
  obtain ⟨N, hNe⟩ : ∃ N, N = nCh b.length s := ⟨_, rfl⟩
  rw [← hNe] at hN hN0 hpc hl hpf ⊢
  have HNE := Lib.hid hNe; clear hNe
  have HPC := Lib.hid hpc; clear hpc
  have HPF := Lib.hid hpf; clear hpf
  have HN0 : ((N : Int) == 0) = false := by simp; omega
  go_enter Tryz.func40, Tryz.ntmps40
  go_wp2_with fail
  go_loop [4, 22] (fun sv iv => ∃ i : Nat, iv = .int .i64 i ∧ i ≤ N ∧ sv = .int .i64 (joinSum b s i : Nat)) (fun _ iv => N - (intOf iv).toNat)
  case atStart => exact ⟨0, rfl, by omega, by rw [joinSum_zero b s hs]; rfl⟩
  case round =>
    obtain ⟨i, rfl, hi, rfl⟩ := hrel
    by_cases hlt : i < N
    · obtain ⟨gi, oi, ci, hc, hv, _, _⟩ := hl.at_ hlt (HPC.out i hlt)
      obtain ⟨hf1, hf2⟩ := HPF.out i hlt (N - 1 - i)
      have hst := joinSum_succ b s i (by rw [← HNE.out]; exact hlt)
      rw [← HNE.out] at hst
      have hpl := pieceN_len b s N (N - 1 - i)
      generalize (pieceN b s N (N - 1 - i)).length = pl at *
      generalize (partL b s (N - 1 - i)).length = tl at *
      subst hpl
      generalize hjs : joinSum b s i = js at *
      have HS := Lib.hid hst; clear hst
      clear hv hl hjs
      go_wp2_with fail
      go_round
      case rel => exact ⟨i + 1, by go_num, by omega, vi (by rw [HS.out]; omega)⟩
      case measure => simp [intOf]; omega
    · obtain rfl : N = i := by omega
      have hjs : joinSum b s N ≤ b.length := by unfold joinSum; omega
      generalize joinSum b s N = js at hjs ⊢
      go_wp2_with fail
      go_loopw [37] (fun iv wr => ∃ i : Nat, iv = .int .i64 i ∧ i ≤ N ∧ Ext [] w wr) (fun iv _ => N - (intOf iv).toNat)
      case atStart => exact ⟨0, rfl, by omega, Ext.refl _ _⟩
      case round =>
        obtain ⟨i, rfl, hi, hx⟩ := hrel
        have hlr := hl.ext hx (by simp) hN0
        by_cases hlt : i < N
        · obtain ⟨gi, oi, ci, hc, hv, _, _⟩ := hlr.at_ hlt (HPC.out i hlt)
          have hj : N - 1 - i < N := by omega
          obtain ⟨q1, q2, q3, A46, A68, A8, r1, r2, r3, r4, n1, n2, n3, _⟩ := pieceFacts (H := fourB (ckN b)) (T := partL b s (N - 1 - i)) (i := N - 1 - i) (N := N) hv rfl (by omega) (by omega)
          obtain ⟨_, hf2⟩ := HPF.out i hlt (N - 1 - i)
          generalize (pieceN b s N (N - 1 - i)).length = pl at *
          generalize (partL b s (N - 1 - i)).length = tl at *
          subst q1
          have hz1 : decide ((8 + (tl : Int)) < 8) = false := by simp; omega
          have hz2 : decide (((N - 1 - i : Nat) : Int) ≥ (N : Int)) = false := by simp; omega
          have HC := Lib.hid hx
          generalize N - 1 - i = q at *
          clear hv hl hlr r3 r4 n3 HPF HPC HNE hx hN hn
          go_wp2_with fail
          go_quiet (first | with_reducible exact Calls.quiet_of_same (n1 _) | with_reducible exact Calls.quiet_of_same (n2 _))
          go_wp2_with fail
          go_roundw
          case rel => exact ⟨i + 1, by go_num, by omega, HC.out.drewN _⟩
          case measure => simp [intOf]; omega
        · obtain rfl : N = i := by omega
          clear hl HPF
          have hmm := @run_makeMap Tryz.prog
          go_wp2_with fail
          have hM0 := Mp.new wr (.int .u32)
          have hx0 : Ext [] w (wr.alloc (.map #[] 0)) := hx.alloc _
          obtain ⟨r, hr⟩ : ∃ r, wr.heap.size = r := ⟨_, rfl⟩
          rw [hr] at hM0 ⊢
          have hlr1 := hlr.ext (S := []) ((Ext.refl [] wr).alloc (.map #[] 0)) (by simp) hN0
          have hwr := hx.size
          have HR := Lib.hid hr
          have hrs : r < (wr.alloc (.map #[] 0)).heap.size := hM0.lt
          generalize hW1 : wr.alloc (.map #[] 0) = W1 at *
          have hlo : ∀ (i gi oi ci : Nat) (p : List UInt8), Vw wr gi 5 1 (.slice (some ⟨gi, oi, none⟩) p.length ci) p.length (bcs p) → 0 < p.length → gi < r := by
            intro i gi oi ci p hv hp
            cases hv with | at_ _ _ _ _ hty => obtain ⟨cur, fz, hb⟩ := hty hp; rw [← hr]; exact lt_of_block hb
          have HLO := Lib.hid hlo; clear hlo
          have HL0 := hlr
          clear hlr
          have hku : ∀ k : Nat, MapKept.IsKey (.int .u32) (.int .u32 (k : Int)) := fun k => rfl
          have HKU := Lib.hid hku; clear hku
          clear hmm hW1 hr hx
          go_loopw [60] (fun iv wr => ∃ (i : Nat) (ms : List (Value × Value)), iv = .int .i64 i ∧ i ≤ N ∧ Ext [r] W1 wr ∧ Mp wr (.int .u32) r ms ∧ JM b s N r i wr ms) (fun iv _ => N - (intOf iv).toNat)
          case atStart => exact ⟨0, [], rfl, by omega, Ext.refl _ _, hM0, ⟨rfl, fun k hk => by omega⟩⟩
          case round =>
            obtain ⟨i, ms, rfl, hi, hxl, hmp, hjm⟩ := hrel
            by_cases hlt : i < N
            · have hrl := hmp.lt
              have hlr : Lst wr g o c N vs (piecesL b s N).reverse := by
                refine hlr1.ext hxl ?_ hN0
                intro x hx
                simp only [List.mem_singleton] at hx
                obtain ⟨⟨es, cl, h1, _⟩, _⟩ := hM0
                exact .inr ⟨_, by rw [hx]; exact h1, rfl⟩
              obtain ⟨gi, oi, ci, hc, hv, _, hvi⟩ := hlr.at_ hlt (HPC.out i hlt)
              obtain ⟨g0, o0, c0, hc0, hv0, _, _⟩ := hlr.at_ hN0 (HPC.out 0 hN0)
              obtain ⟨gj, oj, cj, _, hvj, _, hvij⟩ := HL0.at_ hlt (HPC.out i hlt)
              have hgr : gi < r := by
                rw [hvi] at hvij
                injection hvij with e1 _ _
                injection e1 with e1
                injection e1 with e1 _ _
                rw [e1]
                exact HLO.out i gj oj cj _ hvj (by rw [pieceN_len]; omega)
              have hpl := pieceN_len b s N (N - 1 - i)
              have hp0 := pieceN_len b s N (N - 1 - 0)
              obtain ⟨q1, q2, q3, A46, A68, A8, r1, r2, r3, r4, n1, n2, n3, v8⟩ := pieceFacts (H := fourB (ckN b)) (T := partL b s (N - 1 - i)) (i := N - 1 - i) (N := N) hv rfl (by omega) (by omega)
              obtain ⟨p1, p2, p3, B46, B68, B8, t1, t2, t3, t4, m1, m2, m3, _⟩ := pieceFacts (H := fourB (ckN b)) (T := partL b s (N - 1 - 0)) (i := N - 1 - 0) (N := N) hv0 rfl (by omega) (by omega)
              have hlk := Mp.lookup_no (P := Tryz.prog) Tryz.underlying182 Tryz.underlying174 hmp (zero104 wr) (HKU.out (N - 1 - i)) (hjm.fresh hlt) true
              have hup := fun j => Mp.update_new (P := Tryz.prog) (v := .slice A8 (partL b s (N - 1 - i)).length (ci - 8)) Tryz.underlying182 Tryz.underlying174 (hmp.ext (S := []) ((Ext.refl [] wr).drewN j) (by simp)) (HKU.out (N - 1 - i)) (hjm.fresh hlt)
              have hjn := fun w' (hx : Ext [r] wr w') => (hjm.ext hx (by simp)).snoc (v8.ext hx (by simp; omega)) hgr
              rw [hpl] at hc
              rw [hp0] at hc0
              rw [Nat.add_zero] at hc0
              rw [numB4 _ (ckN_lt b)] at n3 m3
              have hck := ckN_lt b
              have HJ := Lib.hid hjn
              have HX := Lib.hid hxl
              have HU := Lib.hid hup
              have n1z : Calls Tryz.prog 100 #[.slice A46 2 (ci - 4)] wr fun e w' => e = .returned (.int .u32 ((N - 1 - i : Nat) : Int)) ∧ w' = wr := n1 0
              rw [hpl] at r1 r2 r3 r4 q2
              rw [hp0] at t1 t2 t3 t4 p2
              clear hv hv0 hvi hvij hvj hjn hup hxl hlr n1 hpl hp0 q1 p1 v8 hlr1 hM0 hx0 HL0 hmp m1
              generalize (partL b s (N - 1 - i)).length = tl at *
              generalize (partL b s (N - 1 - 0)).length = tl0 at *
              generalize hq : N - 1 - i = q at *
              generalize hck0 : ckN b = ck at *
              have hz1 : ((ck : Int) != (ck : Int)) = false := by simp
              have hz2 : ((N : Int) != (N : Int)) = false := by simp
              go_wp2_with fail
              refine n1z.mono ?_
              rintro e w' ⟨rfl, rfl⟩
              go_wp2_with fail
              go_quiet (first | with_reducible exact Calls.quiet_of_same (n3 _) | with_reducible exact Calls.quiet_of_same (m3 _) | with_reducible exact Calls.quiet_of_same (n2 _) | with_reducible exact Calls.quiet_of_same (m2 _))
              obtain ⟨w2, hup1, hm2, hxu⟩ := HU.out nq
              go_wp2_with fail
              go_roundw
              case rel => exact ⟨i + 1, _, by go_num, by omega, (HX.out.drewN _).trans hxu, hm2, HJ.out w2 (((Ext.refl _ _).drewN _).trans hxu)⟩
              case measure => simp [intOf]; omega
            · obtain rfl : N = i := by omega
              have hlr : Lst wr g o c N vs (piecesL b s N).reverse := by
                refine hlr1.ext hxl ?_ hN0
                intro x hx
                simp only [List.mem_singleton] at hx
                obtain ⟨⟨es, cl, h1, _⟩, _⟩ := hM0
                exact .inr ⟨_, by rw [hx]; exact h1, rfl⟩
              have hrl := hmp.lt
              obtain ⟨g0, o0, c0, hc0, hv0, hg0, _⟩ := hlr.at_ hN0 (HPC.out 0 hN0)
              have hp0 := pieceN_len b s N (N - 1 - 0)
              obtain ⟨p1, p2, p3, B46, B68, B8, t1, t2, t3, t4, m1, m2, m3, _⟩ := pieceFacts (H := fourB (ckN b)) (T := partL b s (N - 1 - 0)) (i := N - 1 - 0) (N := N) hv0 rfl (by omega) (by omega)
              have v04 := hv0.to_ 4 (by omega)
              have e04 : (bcs (pieceN b s N (N - 1 - 0))).take (4 * 1) = bcs (fourB (ckN b)) := by
                rw [bcs_take]; congr 1
              rw [e04] at v04
              have hml := hmp.len (P := Tryz.prog) Tryz.underlying182 Tryz.underlying174 3
              rw [hjm.1] at hml
              have hml' := fun j => (hmp.ext (S := []) ((Ext.refl [] wr).drewN j) (by simp)).len (P := Tryz.prog) Tryz.underlying182 Tryz.underlying174 3
              rw [hjm.1] at hml'
              rw [hp0] at hc0 t1 t2 t3 t4
              rw [Nat.add_zero] at hc0
              have hck := ckN_lt b
              have hz2 : decide ((N : Int) < (N : Int)) = false := by simp
              have hJM := Lib.hid hjm
              have hMP := Lib.hid hmp
              have HX := Lib.hid hxl
              have HV := Lib.hid v04
              clear hv0 hlr1 hM0 HL0 hmp m1 hp0 p1 hjm hxl hlr v04 e04
              generalize (partL b s (N - 1 - 0)).length = tl0 at *
              go_wp2_with fail
              go_quiet (first | with_reducible exact Calls.quiet_of_same (m2 _))
              go_wp2_with fail
              have hmW := hMP.out.ext (S := []) ((Ext.refl [] wr).drewN nq) (by simp)
              have hjW := hJM.out.ext (S := []) ((Ext.refl [] wr).drewN nq) (by simp)
              have hvW := HV.out.ext (S := []) ((Ext.refl [] wr).drewN nq) (by simp)
              have hcW : (wr.drewN nq).cell? ⟨g, o, none⟩ = some (.slice (some ⟨g0, o0, none⟩) (8 + tl0) c0) := hc0
              have hxW : Ext [r] W1 (wr.drewN nq) := HX.out.drewN nq
              have hgW : g0 < (wr.drewN nq).heap.size := hg0
              have hglt : g < (wr.drewN nq).heap.size := World.block_lt_of_cell? _ _ hcW
              have hsW : W1.heap.size ≤ (wr.drewN nq).heap.size := hxW.size
              clear hMP hJM HV HX hml hml' m2 m3 hc0 hg0 t1 t2
              generalize wr.drewN nq = W2 at *
              go_loopw [15, 119] (fun ov iv wl => ∃ (i gb : Nat) (A : Option Addr) (c' : Nat), iv = .int .i64 i ∧ i ≤ N ∧ ov = .slice A (b.take (i * s)).length c' ∧ Row wl gb 5 1 (.slice A (b.take (i * s)).length c') (b.take (i * s)).length (bcs (b.take (i * s))) ∧
                W2.heap.size ≤ gb ∧ Ext [] W2 wl) (fun _ iv _ => N - (intOf iv).toNat)
              case atStart => exact ⟨0, W2.heap.size, none, 0, rfl, by omega, by simp, by rw [Nat.zero_mul, List.take_zero]; exact .nil, Nat.le_refl _, Ext.refl _ _⟩
              case round =>
                obtain ⟨i, gb, A, c', rfl, hi, rfl, hrb, hgb, hx⟩ := hrel
                have hle : (b.take (i * s)).length ≤ b.length := by rw [List.length_take]; omega
                by_cases hlt : i < N
                · obtain ⟨gi, Ai, cc, hmem, hvi, hgi⟩ := hjW.part hlt
                  have hvi := hvi.ext hx (by simp)
                  have hlk := (hmW.ext hx (by simp)).lookup_yes (P := Tryz.prog) Tryz.underlying182 Tryz.underlying174 (HKU.out i) hmem false
                  have htp := take_part b s i
                  have hpl : (partL b s i).length ≤ 65536 := by rw [partL_len]; omega
                  have HT := Lib.hid htp; clear htp
                  clear hmem hmW hjW
                  go_wp2_with (with_reducible refine wpList_append T104 rfl (.tmp 122) (.tmp 126) rfl rfl rfl hrb hvi (bcs_one _) (by omega) (by omega) ?_; rintro g9 A9 c9 w9 hr9 hx9 hg9 hA9 _ _)
                  go_roundw
                  case rel =>
                    have e1 : (b.take ((i + 1) * s)).length = (b.take (i * s)).length + (partL b s i).length := by rw [HT.out, List.length_append]
                    refine ⟨i + 1, g9, A9, c9, by go_num, by omega, by rw [e1, List.length_take], ?_, by have := hx.size; omega, hx.step hx9 (by simp; omega)⟩
                    rw [e1, HT.out, bcs_append]
                    exact hr9
                  case measure => simp [intOf]; omega
                · obtain rfl : N = i := by omega
                  have htk : b.take (N * s) = b := List.take_of_length_le (by
                    have : ¬ N * s < b.length := fun h => by
                      have h2 := (nCh_lt hs).2 h
                      rw [HNE.out] at h2; omega
                    omega)
                  rw [htk] at hrb ⊢
                  have hvz := hvW.ext hx (by simp)
                  have hcz := hx.cell hcW (by simp)
                  have k1 := fun j => (check_any gb _ _ b (wr.drewN j) (hrb.vw.ext ((Ext.refl [] wr).drewN j) (by simp))).mono (fun e w' h => (⟨h.1, h.2.symm⟩ : e = .returned (.int .u32 (ckN b)) ∧ w' = wr.drewN j))
                  have k2 := fun j => (number_any g0 _ 4 _ (wr.drewN j) (hvz.ext ((Ext.refl [] wr).drewN j) (by simp)) (by omega)).mono (fun e w' h => (⟨h.1, h.2.symm⟩ : e = .returned (.int .u32 (numB (fourB (ckN b)))) ∧ w' = wr.drewN j))
                  simp only [numB4 _ hck] at k2
                  have hz3 : ((ckN b : Int) != (ckN b : Int)) = false := by simp
                  have H1 := Lib.hid hrb
                  clear hvz hvW hcW hmW hjW
                  go_wp2_with fail
                  go_quiet (first | with_reducible exact Calls.quiet_of_same (k1 _) | with_reducible exact Calls.quiet_of_same (k2 _))
                  go_wp2_with fail
                  go_ret2
                  have s1 := hx0.size
                  have e0 : Ext [r] w W1 := hx0.mono (by simp)
                  exact ⟨gb, _, ret2 rfl rfl, hrb.ext ((Ext.refl [] wr).drewN _) (by simp), by omega, ((hx0.step hxW (by rw [← HR.out]; simp; omega)).trans hx).drewN _⟩
end Go.Proofs.YtfadbmfkidiaoaaGreatDoor
