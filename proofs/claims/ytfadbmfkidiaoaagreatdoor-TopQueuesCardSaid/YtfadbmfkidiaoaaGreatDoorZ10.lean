/- Bytes, second part: a string taken off; how much two strings have in common. How much two strings have in common; bytes copied. The bytes of a map. -/
import Derived.Test.YtfadbmfkidiaoaaGreatDoorZ09
namespace Go.Proofs.YtfadbmfkidiaoaaGreatDoor
open Go.RowKit Go

set_option maxHeartbeats 800000 in
theorem take_any (g : Nat) (v : Value) (n : Nat) (b : UInt8) (r : List UInt8) (w : World) (hv : Vw w g 5 1 v n (bcs (b :: r))) (hb : b.toNat ≤ r.length) :
    Calls Tryz.prog 102 #[v] w fun e w' => ∃ v', e = .returned (.tuple #[.string ⟨(r.take b.toNat).toArray⟩, v', .bool true]) ∧ Vw w' g 5 1 v' (r.length - b.toNat) (bcs (r.drop b.toNat)) ∧ Ext [] w w' := by
  have hn := hv.blen
  have hmx := hv.lenMax
  rw [List.length_cons] at hn
  rcases hv.split with ⟨rfl, rfl, h0⟩ | ⟨o, c, rfl, hnc, hcm, _⟩
  · omega
  have hcm' : c ≤ 9223372036854775807 := by simp only [maxLen] at hcm; omega
  have h0 := hv.byte 0 (by omega)
  simp only [Nat.add_zero] at h0
  have hb0 : bAt (b :: r) 0 = (b.toNat : Int) := by simp [bAt]
  rw [hb0] at h0
  clear hb0
  have hbl := b.toNat_lt
  have hlen : ((n : Int) == 0) = false := by simp; omega
  have hle : decide ((n : Int) ≤ (b.toNat : Int)) = false := by simp; omega
  obtain ⟨A1, hs1, hs2, hs3⟩ := slice_l T104 (some ⟨g, o, none⟩) n c (1 + b.toNat) (z := 1 + (b.toNat : Int)) (by omega) (by omega)
  have hv2 := hv.tail (1 + b.toNat) (by omega) hs2 hs3
  rw [bcs_drop, Nat.mul_one] at hv2
  clear hs2 hs3
  obtain ⟨A2, ht1, ht2, ht3⟩ := slice_lh T104 (some ⟨g, o, none⟩) n c 1 (1 + b.toNat) (z := 1) (y := 1 + (b.toNat : Int)) rfl (by omega) (by omega) (by omega)
  have hv1 := hv.mid 1 (1 + b.toNat) (by omega) (by omega) ht2 ht3
  clear ht2 ht3
  rw [bcs_drop, bcs_take] at hv1
  have e1 : (b :: r).drop (1 * 1) = r := rfl
  have e2 : (1 + b.toNat - 1) * 1 = b.toNat := by omega
  have e3 : 1 + b.toNat - 1 = b.toNat := by omega
  rw [e1, e2, e3] at hv1
  rw [e3] at ht1
  have hcv : ∀ k, (convert 104 9 (.slice A2 b.toNat (c - 1))).run Tryz.prog (w.drewN k) = .ok (.string ⟨(r.take b.toNat).toArray⟩) (w.drewN k) := fun k => run_str (hv1.ext ((Ext.refl [] w).drewN k) (by simp))
  have e4 : (b :: r).drop (1 + b.toNat) = r.drop b.toNat := by rw [Nat.add_comm]; rfl
  have e5 : n - (1 + b.toNat) = r.length - b.toNat := by omega
  rw [e4, e5] at hv2
  rw [e5] at hs1
  clear e1 e2 e3 e4 e5 hv1
  have w1 : IntKind.i64.wrap (1 + (b.toNat : Int)) = 1 + (b.toNat : Int) := IntWalk.i64_in _ (by omega)
  generalize hS : (⟨(r.take b.toNat).toArray⟩ : ByteArray) = S at *
  have HV := Lib.hid hv2; clear hv2 hv
  go_enter Tryz.func102, Tryz.ntmps102
  go_wp2_with fail
  go_quiet (fail)
  clear hcv hs1 ht1
  go_wp2
  go_ret3
  exact ⟨_, rfl, HV.out.ext ((Ext.refl [] w).drewN _) (by simp), (Ext.refl [] w).drewN _⟩
end Go.Proofs.YtfadbmfkidiaoaaGreatDoor

namespace Go.Proofs.YtfadbmfkidiaoaaGreatDoor
open Go.RowKit Go

def cpl : List UInt8 → List UInt8 → Nat
  | a :: x, b :: y => if a = b then cpl x y + 1 else 0
  | _, _ => 0
theorem cpl_le1 : ∀ a b, cpl a b ≤ a.length
  | [], _ => by simp [cpl]
  | _ :: _, [] => by simp [cpl]
  | a :: x, b :: y => by have := cpl_le1 x y; unfold cpl; split <;> simp; omega
theorem cpl_le2 : ∀ a b, cpl a b ≤ b.length
  | [], _ => by simp [cpl]
  | _ :: _, [] => by simp [cpl]
  | a :: x, b :: y => by have := cpl_le2 x y; unfold cpl; split <;> simp; omega
theorem cpl_take : ∀ a b : List UInt8, a.take (cpl a b) = b.take (cpl a b)
  | [], _ => by simp [cpl]
  | _ :: _, [] => by simp [cpl]
  | a :: x, b :: y => by
    have := cpl_take x y
    unfold cpl; split
    · next h => subst h; simp [this]
    · simp
theorem cpl_step : ∀ (a b : List UInt8) (i : Nat), i ≤ cpl a b → (h1 : i < a.length) → (h2 : i < b.length) → (i < cpl a b ↔ a[i] = b[i])
  | [], _, _, _, h1, _ => by simp at h1
  | _ :: _, [], _, _, _, h2 => by simp at h2
  | a :: x, b :: y, 0, _, _, _ => by unfold cpl; split <;> simp_all
  | a :: x, b :: y, i + 1, h, h1, h2 => by
    unfold cpl at h ⊢
    split at h
    · next e => 
      have := cpl_step x y i (by omega) (by simpa using h1) (by simpa using h2)
      simp [e, this]
    · omega

def bl (s : ByteArray) : List UInt8 := s.data.toList
def cpS (a b : ByteArray) : Nat := cpl (bl a) (bl b)
theorem bl_len (s : ByteArray) : (bl s).length = s.size := by simp [bl]
theorem cpS_le1 (a b : ByteArray) : cpS a b ≤ a.size := by have := cpl_le1 (bl a) (bl b); rw [bl_len] at this; exact this
theorem cpS_le2 (a b : ByteArray) : cpS a b ≤ b.size := by have := cpl_le2 (bl a) (bl b); rw [bl_len] at this; exact this
/-- a byte of a string -/
def sB (s : ByteArray) (i : Nat) : Int := bAt (bl s) i
theorem cpS_step (a b : ByteArray) (i : Nat) (h : i ≤ cpS a b) (h1 : i < a.size) (h2 : i < b.size) : i < cpS a b ↔ sB a i = sB b i := by
  have h1' : i < (bl a).length := by rw [bl_len]; exact h1
  have h2' : i < (bl b).length := by rw [bl_len]; exact h2
  unfold cpS
  rw [cpl_step (bl a) (bl b) i h h1' h2']
  unfold sB bAt
  rw [List.getD_eq_getElem?_getD, List.getD_eq_getElem?_getD, List.getElem?_eq_getElem h1', List.getElem?_eq_getElem h2']
  simp only [Option.getD_some]
  constructor
  · intro e; rw [e]
  · intro e; exact UInt8.toNat_inj.1 (by omega)
theorem sB_range (s : ByteArray) (i : Nat) : 0 ≤ sB s i ∧ sB s i < 256 := bAt_range _ _

theorem run_index (P : Program) (w : World) (t : Nat) (ht : P.underlying t = some .string) (s : ByteArray) (i : Nat) (hi : i < s.size) : (Instr.index t (.string s) (.int .i64 (i : Int))).run P w = .ok (.int .u8 (sB s i)) w := by
  rw [run_index_string w t s .i64 i ht, dif_pos (by omega)]
  have h2 : i < s.data.toList.length := by simpa using hi
  have : (s[(i : Int).toNat]'(by omega)) = s.data.toList[i] := by simp [ByteArray.getElem_eq_getElem_data]
  rw [this]
  unfold sB bAt bl
  rw [List.getD_eq_getElem?_getD, List.getElem?_eq_getElem h2]
  rfl

set_option maxHeartbeats 800000 in
theorem prefix_any (a b : ByteArray) (w : World) (h : a.size ≤ 1000) :
    Calls Tryz.prog 95 #[.string a, .string b] w fun e w' => e = .returned (.int .i64 (cpS a b)) ∧ Ext [] w w' := by
  go_enter Tryz.func95, Tryz.ntmps95
  go_wp2_with fail
  go_loopw [5] (fun iv w' => ∃ i : Nat, i ≤ cpS a b ∧ iv = .int .i64 i ∧ Ext [] w w') (fun iv _ => a.size - (intOf iv).toNat)
  case atStart => exact ⟨0, by omega, rfl, Ext.refl _ _⟩
  case round =>
    obtain ⟨i, hi, rfl, hx⟩ := hrel
    have hle1 := cpS_le1 a b
    have hle2 := cpS_le2 a b
    have hst := cpS_step a b i hi
    by_cases h1 : i < a.size
    · have hd1 : decide ((i : Int) < a.size) = true := by simp; omega
      by_cases h2 : i < b.size
      · have hd2 : decide ((i : Int) < b.size) = true := by simp; omega
        have hst := hst h1 h2
        have r1 := fun w => run_index Tryz.prog w 9 Tryz.underlying9 a i h1
        have r2 := fun w => run_index Tryz.prog w 9 Tryz.underlying9 b i h2
        by_cases h3 : sB a i = sB b i
        · have hd3 : (sB a i == sB b i) = true := by simp [h3]
          have hlt := hst.2 h3
          clear hst
          go_wp2_with fail
          go_quiet (fail)
          go_wp2_with fail
          go_roundw
          case rel => exact ⟨i + 1, by omega, by go_num, hx.drewN _⟩
          case measure => simp [intOf]; omega
        · have hd3 : (sB a i == sB b i) = false := by simp [h3]
          have hlt := Lib.hid (show i = cpS a b by have := mt hst.1 h3; omega)
          clear hst
          go_wp2_with fail
          go_quiet (fail)
          go_wp2_with fail
          go_ret
          exact ⟨ret1 (vi (by rw [hlt.out])), hx.drewN _⟩
      · have hd2 : decide ((i : Int) < b.size) = false := by simp; omega
        clear hst
        go_wp2_with fail
        go_quiet (fail)
        go_wp2_with fail
        go_ret
        exact ⟨ret1 (vi (by omega)), hx.drewN _⟩
    · have hd1 : decide ((i : Int) < a.size) = false := by simp; omega
      clear hst
      go_wp2_with fail
      go_quiet (fail)
      go_wp2_with fail
      go_ret
      exact ⟨ret1 (vi (by omega)), hx.drewN _⟩
end Go.Proofs.YtfadbmfkidiaoaaGreatDoor

namespace Go.Proofs.YtfadbmfkidiaoaaGreatDoor
open Go.RowKit Go

/-- the bytes of one pair behind a key -/
def pairB (last : ByteArray) (p : ByteArray × ByteArray) : List UInt8 :=
  [UInt8.ofNat (cpS last p.1), UInt8.ofNat (p.1.size - cpS last p.1)] ++ bl (p.1.extract (cpS last p.1) p.1.size) ++ [UInt8.ofNat p.2.size] ++ bl p.2
def encF : ByteArray → Pairs → List UInt8
  | _, [] => []
  | k, p :: l => pairB k p ++ encF p.1 l
def lastK (k : ByteArray) (l : Pairs) : Nat → ByteArray
  | 0 => k
  | i + 1 => kAt l i
theorem encF_snoc : ∀ (l : Pairs) (k : ByteArray) (i : Nat), i < l.length → encF k (l.take (i + 1)) = encF k (l.take i) ++ pairB (lastK k l i) (kAt l i, vAt l i)
  | [], _, _, h => by simp at h
  | p :: l, k, 0, _ => by simp [encF, lastK, kAt, vAt]
  | p :: l, k, i + 1, h => by
    have := encF_snoc l p.1 i (by simpa using h)
    simp only [List.take_succ_cons, encF, this, List.append_assoc]
    congr 2
    have e1 : kAt (p :: l) (i + 1) = kAt l i := by simp [kAt]
    have e2 : vAt (p :: l) (i + 1) = vAt l i := by simp [vAt]
    rw [e1, e2]
    congr 1
    cases i with
    | zero => simp [lastK, kAt]
    | succ i => simp [lastK, kAt]
def body (l : Pairs) : List UInt8 := [84, 76, 1] ++ fourB l.length ++ encF ByteArray.empty l
def enc (l : Pairs) : List UInt8 := body l ++ fourB (ckN (body l))
def bodyA (l : Pairs) (i : Nat) : List UInt8 := [84, 76, 1] ++ fourB l.length ++ encF ByteArray.empty (l.take i)

theorem pairB_len (k : ByteArray) (p : ByteArray × ByteArray) (h1 : p.1.size ≤ 24) (h2 : p.2.size ≤ 40) : (pairB k p).length ≤ 70 := by
  simp only [pairB, List.length_append, bl_len, List.length_cons, List.length_nil, ByteArray.size_extract]
  omega
theorem bodyA_snoc (l : Pairs) (i : Nat) (h : i < l.length) : bodyA l (i + 1) = bodyA l i ++ pairB (lastK ByteArray.empty l i) (kAt l i, vAt l i) := by
  unfold bodyA
  rw [encF_snoc l _ i h]; simp only [List.append_assoc]
theorem bodyA_len (l : Pairs) (hk : ∀ i, i < l.length → (kAt l i).size ≤ 24) (hv : ∀ i, i < l.length → (vAt l i).size ≤ 40) (i : Nat) (h : i ≤ l.length) : (bodyA l i).length ≤ 7 + i * 70 := by
  induction i with
  | zero => simp [bodyA, fourB, encF]
  | succ i ih =>
    rw [bodyA_snoc l i h, List.length_append]
    have := pairB_len (lastK ByteArray.empty l i) (kAt l i, vAt l i) (hk i h) (hv i h)
    have := ih (by omega)
    omega
theorem bodyA_all (l : Pairs) : bodyA l l.length = body l := by
  unfold bodyA body; rw [List.take_length]
theorem lastK_len (l : Pairs) (hk : ∀ i, i < l.length → (kAt l i).size ≤ 24) (i : Nat) (h : i ≤ l.length) : (lastK ByteArray.empty l i).size ≤ 24 := by
  cases i with
  | zero => simp [lastK]
  | succ i => exact hk i h

/-- a row of bytes that has just been laid -/
theorem byteNew (w : World) (l : List UInt8) (n : Nat) (h : l.length = n) (hn : n ≤ 1000) : Row (w.alloc (.cells (bcs l).toArray 5)) w.heap.size 5 1 (.slice (some ⟨w.heap.size, 0, none⟩) n n) n (bcs l) := by
  have := Row.new w 5 1 (bcs l).toArray n n (Nat.le_refl _) (by simp [maxLen]; omega) (by simp [bcs_len, h])
  rwa [show (bcs l).toArray.toList.take (n * 1) = bcs l by rw [Nat.mul_one]; exact List.take_of_length_le (by simp [bcs_len, h])] at this

theorem enc_len (l : Pairs) (hk : ∀ i, i < l.length → (kAt l i).size ≤ 24) (hv : ∀ i, i < l.length → (vAt l i).size ≤ 40) : (enc l).length ≤ 11 + l.length * 70 := by
  have := bodyA_len l hk hv l.length (Nat.le_refl _)
  rw [bodyA_all] at this
  have e1 : (enc l).length = (body l).length + 4 := by simp [enc, fourB]
  omega
theorem two_new (w : World) (x y : Int) (a b : Nat) (hx : x = a) (hy : y = b) (ha : a < 256) (hb : b < 256) : Row (w.alloc (.cells #[.int .u8 x, .int .u8 y] 5)) w.heap.size 5 1 (.slice (some ⟨w.heap.size, 0, none⟩) 2 2) 2 (bcs [UInt8.ofNat a, UInt8.ofNat b]) := by
  have := byteNew w [UInt8.ofNat a, UInt8.ofNat b] 2 rfl (by omega)
  have e : bcs [UInt8.ofNat a, UInt8.ofNat b] = [.int .u8 x, .int .u8 y] := by
    simp only [bcs, List.map_cons, List.map_nil, u8_of, hx, hy]
    rw [Int.emod_eq_of_lt (by omega) (by omega), Int.emod_eq_of_lt (by omega) (by omega)]
  rw [e] at this ⊢
  exact this
theorem one_new (w : World) (x : Int) (a : Nat) (hx : x = a) (ha : a < 256) : Row (w.alloc (.cells #[.int .u8 x] 5)) w.heap.size 5 1 (.slice (some ⟨w.heap.size, 0, none⟩) 1 1) 1 (bcs [UInt8.ofNat a]) := by
  have := byteNew w [UInt8.ofNat a] 1 rfl (by omega)
  have e : bcs [UInt8.ofNat a] = [.int .u8 x] := by
    simp only [bcs, List.map_cons, List.map_nil, u8_of, hx]
    rw [Int.emod_eq_of_lt (by omega) (by omega)]
  rw [e] at this ⊢
  exact this

/-- within a round: the bytes so far, and the pair's own block -/
structure EB (w1 : World) (p : Nat) (k v : ByteArray) (w : World) (gb : Nat) (A : Option Addr) (c m : Nat) (L : List UInt8) : Prop where
  r : Row w gb 5 1 (.slice A m c) m (bcs L)
  p1 : w.cell? ⟨p, 0, none⟩ = some (.string k)
  p2 : w.cell? ⟨p, 1, none⟩ = some (.string v)
  ne : gb ≠ p
  pl : p < w.heap.size
  lo : w1.heap.size ≤ gb
  x : Ext [] w1 w
theorem EB.ext {w1 : World} {p : Nat} {k v : ByteArray} {w w' : World} {gb : Nat} {A : Option Addr} {c m : Nat} {L : List UInt8} (h : EB w1 p k v w gb A c m L) (hx : Ext [] w w') : EB w1 p k v w' gb A c m L :=
  ⟨h.r.ext hx (by simp), hx.cell h.p1 (by simp), hx.cell h.p2 (by simp), h.ne, Nat.lt_of_lt_of_le h.pl hx.size, h.lo, h.x.trans hx⟩
theorem EB.app {w1 : World} {p : Nat} {k v : ByteArray} {w w' : World} {gb g' : Nat} {A A' : Option Addr} {c c' m m' : Nat} {L L' : List UInt8} (h : EB w1 p k v w gb A c m L) (hx : Ext [gb] w w') (hr : Row w' g' 5 1 (.slice A' m' c') m' (bcs L')) (hg : g' = gb ∨ w.heap.size ≤ g') : EB w1 p k v w' g' A' c' m' L' := by
  have h1 := h.x.size
  have h2 := h.pl
  have h3 := h.lo
  have h4 := h.ne
  exact ⟨hr, hx.cell h.p1 (by simpa using Ne.symm h4), hx.cell h.p2 (by simpa using Ne.symm h4), by omega, Nat.lt_of_lt_of_le h2 hx.size, by omega, h.x.step hx (by simp; omega)⟩
theorem EB.appB {w1 : World} {p : Nat} {k v : ByteArray} {w w' : World} {gb g' : Nat} {A A' : Option Addr} {c c' m m' : Nat} {L M : List UInt8} (h : EB w1 p k v w gb A c m L) (hx : Ext [gb] w w') (hr : Row w' g' 5 1 (.slice A' m' c') m' (bcs L ++ bcs M)) (hg : g' = gb ∨ w.heap.size ≤ g') : EB w1 p k v w' g' A' c' m' (L ++ M) :=
  h.app hx (by rw [bcs_append]; exact hr) hg
theorem EB.appS {w1 : World} {p : Nat} {k v : ByteArray} {w w' : World} {gb g' : Nat} {A A' : Option Addr} {c c' m m' : Nat} {L : List UInt8} {x : ByteArray} (h : EB w1 p k v w gb A c m L) (hx : Ext [gb] w w') (hr : Row w' g' 5 1 (.slice A' m' c') m' (bcs L ++ x.data.toList.map (fun b => Value.int .u8 (b.toNat : Int)))) (hg : g' = gb ∨ w.heap.size ≤ g') : EB w1 p k v w' g' A' c' m' (L ++ bl x) :=
  h.appB hx hr hg
/-- k[c:] under a name -/
theorem str_from (P : Program) (t : Nat) (ht : P.underlying t = some .string) (s : ByteArray) (c : Nat) (hc : c ≤ s.size) :
    ∃ K : ByteArray, K = s.extract c s.size ∧ K.size = s.size - c ∧ ∀ w : World, (Instr.slice t (.string s) (some (.int .i64 (c : Int))) none none).run P w = .ok (.string K) w := by
  refine ⟨_, rfl, by simp, fun w => ?_⟩
  simp [Instr.slice, Instr.sliceBounds, Instr.sliceBound, asIntOf, run_underlying ht]
  intro h; exfalso; omega

set_option maxRecDepth 100000 in
set_option maxHeartbeats 1600000 in
theorem encode_any (b g : Nat) (l : Pairs) (w : World) (hm : Mdl w b g l) (hn : l.length ≤ 400) (hk : ∀ i, i < l.length → (kAt l i).size ≤ 24) (hv : ∀ i, i < l.length → (vAt l i).size ≤ 40) :
    Calls Tryz.prog 38 #[.pointer (some ⟨b, 0, none⟩)] w fun e w' => ∃ g' v', e = .returned (.tuple #[v', .int .i64 0]) ∧ Row w' g' 5 1 v' (enc l).length (bcs (enc l)) ∧ w.heap.size ≤ g' ∧ Ext [] w w' := by
  go_enter Tryz.func38, Tryz.ntmps38
  go_wp2_with fail
  refine (pairs_any b g l _ hm (by omega)).mono ?_
  rintro e w1 ⟨gp, vp, rfl, hrp, hgp, hx1⟩
  obtain ⟨Ap, cp, rfl, hA, _⟩ := hrp.form
  have hvp := hrp.vw
  clear hrp hm
  have hsz1 := hx1.size
  have hgpl : 0 < l.length → gp < w1.heap.size := fun h => by
    rcases hvp.split with ⟨h1, h2, _⟩ | ⟨o, c, h1, _, _, h2⟩
    · omega
    · cases h2 with | at_ _ _ _ _ hty => obtain ⟨cur, fz, hb⟩ := hty h; exact lt_of_block hb
  have hr0 := byteNew w1 [84, 76, 1] 3 rfl (by omega)
  go_wp2_with fail
  refine (four_any l.length _ (by omega)).mono ?_
  rintro e w2 ⟨rfl, hr4, hx2⟩
  have hr0' := hr0.ext hx2 (by simp)
  have hsz2 := hx2.size
  have hx12 : Ext [] w1 w2 := ((Ext.refl [] w1).alloc _).trans hx2
  have hvp2 := hvp.ext hx12 (by simp)
  simp only [World.size_alloc] at hsz2 hr4
  clear hr0
  go_wp2_with (with_reducible refine wpList_append T104 rfl (.tmp 14) (.tmp 18) rfl rfl rfl hr0' hr4.vw (bcs_one _) (by omega) (by omega) ?_; rintro g3 A3 c3 w3 hr3 hx3 hg3 hA3 _ _)
  have hx13 : Ext [] w1 w3 := hx12.step hx3 (by simp)
  have hr3 : Row w3 g3 5 1 (.slice A3 7 c3) 7 (bcs (bodyA l 0)) := by rw [← bcs_append] at hr3; exact hr3
  have hg3' : w1.heap.size ≤ g3 := by omega
  obtain rfl := hA3 (by omega)
  clear hr4 hr0' hx12 hx2 hx3 hg3 hvp2 hsz2
  go_loopw [5, 6, 22] (fun bv kv iv wr => ∃ (i gb : Nat) (A : Option Addr) (c : Nat), i ≤ l.length ∧ iv = .int .i64 i ∧ kv = .string (lastK ByteArray.empty l i) ∧ bv = .slice A (bodyA l i).length c ∧
    Row wr gb 5 1 (.slice A (bodyA l i).length c) (bodyA l i).length (bcs (bodyA l i)) ∧ w1.heap.size ≤ gb ∧ Ext [] w1 wr) (fun _ _ iv _ => l.length - (intOf iv).toNat)
  case atStart => exact ⟨0, g3, some ⟨g3, 0, none⟩, c3, by omega, rfl, rfl, rfl, hr3, hg3', hx13⟩
  case round =>
    obtain ⟨i, gb, A, c, hi, rfl, rfl, rfl, hrb, hgb, hx⟩ := hrel
    clear hr3 hx13
    have hbl := bodyA_len l hk hv i hi
    by_cases hlt : i < l.length
    · obtain rfl := hA (by omega)
      have hkl := lastK_len l hk i hi
      have hle2 := cpS_le2 (lastK ByteArray.empty l i) (kAt l i)
      have hk2 := hk i hlt
      have hv2 := hv i hlt
      have hvr := hvp.ext hx (by simp)
      obtain ⟨c1, c2⟩ := hvr.pair i hlt
      simp only [Nat.zero_add] at c1 c2
      go_wp2_with fail
      refine (prefix_any _ _ _ (by omega)).mono ?_
      rintro e w5 ⟨rfl, hx5⟩
      have hps : w5.heap[wr.heap.size]? = some (.cells #[.string (kAt l i), .string (vAt l i)] 77 (0, 0)) := hx5.keep (heap_alloc_new wr _) (by simp)
      have hrs := hx5.size
      simp only [World.size_alloc] at hrs
      obtain ⟨K, hKe, hKs, hsl⟩ := str_from Tryz.prog 9 Tryz.underlying9 (kAt l i) (cpS (lastK ByteArray.empty l i) (kAt l i)) hle2
      have HK := Lib.hid hKe; clear hKe
      have hK24 : K.size ≤ 24 := by omega
      clear hKs
      have hgbw : gb < wr.heap.size := by
        rcases hrb.split with ⟨_, h0, _⟩ | ⟨_, _, _, _, _, h0, _⟩
        · have : 7 ≤ (bodyA l i).length := by simp [bodyA, fourB]
          omega
        · exact lt_of_block h0
      have hx15 : Ext [] wr w5 := ((Ext.refl [] wr).alloc _).trans hx5
      have B0 : EB w1 wr.heap.size (kAt l i) (vAt l i) w5 gb A c (bodyA l i).length (bodyA l i) :=
        ⟨hrb.ext hx15 (by simp), cell_of_row w5 _ 0 _ _ _ hps, cell_of_row w5 _ 1 _ _ _ hps, by omega, by omega, hgb, hx.trans hx15⟩
      have p1 := B0.p1
      have p2 := B0.p2
      have n1 := fun w : World => two_new w (cpS (lastK ByteArray.empty l i) (kAt l i)) ((kAt l i).size - cpS (lastK ByteArray.empty l i) (kAt l i)) _ _ rfl (Int.ofNat_sub hle2).symm (by omega) (by omega)
      have n2 := fun w : World => one_new w (vAt l i).size _ rfl (by omega)
      clear hps hrb hx hx15 hx5 hvr c1 c2 hvp
      go_wp2_with (first
        | (with_reducible refine wpList_append T104 rfl (.tmp 30) (.tmp 39) rfl rfl rfl (B0.ext ((Ext.refl [] _).alloc _)).r (n1 _).vw (bcs_one _) (by omega) (by omega) ?_; rintro g6 A6 c6 w6 hr6 hx6 hg6 hA6 _ _; obtain rfl := hA6 (by omega); have B1 := (B0.ext ((Ext.refl [] _).alloc _)).appB hx6 hr6 hg6; have p1 := B1.p1; have p2 := B1.p2; clear hr6 hx6 hg6)
        | (with_reducible refine wpList_append_str T104 9 Tryz.underlying9 rfl (.tmp 41) (.tmp 45) rfl rfl rfl B1.r (by omega) ?_; rintro g7 A7 c7 w7 hr7 hx7 hg7 hA7 _; obtain rfl := hA7 (by omega); have B2 := B1.appS hx7 hr7 hg7; have p1 := B2.p1; have p2 := B2.p2; clear hr7 hx7 hg7)
        | (with_reducible refine wpList_append T104 rfl (.tmp 47) (.tmp 52) rfl rfl rfl (B2.ext ((Ext.refl [] _).alloc _)).r (n2 _).vw (bcs_one _) (by omega) (by omega) ?_; rintro g8 A8 c8 w8 hr8 hx8 hg8 hA8 _ _; obtain rfl := hA8 (by omega); have B3 := (B2.ext ((Ext.refl [] _).alloc _)).appB hx8 hr8 hg8; have p1 := B3.p1; have p2 := B3.p2; clear hr8 hx8 hg8)
        | (with_reducible refine wpList_append_str T104 9 Tryz.underlying9 rfl (.tmp 54) (.tmp 56) rfl rfl rfl B3.r (by omega) ?_; rintro g9 A9 c9 w9 hr9 hx9 hg9 hA9 _; obtain rfl := hA9 (by omega); have B4 := B3.appS hx9 hr9 hg9; have p1 := B4.p1; have p2 := B4.p2; clear hr9 hx9 hg9))
      go_roundw
      case rel =>
        have e1 : bodyA l (i + 1) = bodyA l i ++ [UInt8.ofNat (cpS (lastK ByteArray.empty l i) (kAt l i)), UInt8.ofNat ((kAt l i).size - cpS (lastK ByteArray.empty l i) (kAt l i))] ++ bl K ++ [UInt8.ofNat (vAt l i).size] ++ bl (vAt l i) := by
          rw [bodyA_snoc l i hlt, HK.out]; simp only [pairB, List.append_assoc]
        have e2 := B4.r.vw.blen
        rw [← e1] at e2
        have hr := B4.r
        rw [← e1, ← e2] at hr
        refine ⟨i + 1, g9, _, c9, by omega, by go_num, rfl, by rw [← e2], hr, B4.lo, B4.x⟩
      case measure => simp [intOf]; omega
    · obtain rfl : i = l.length := by omega
      clear hvp hA
      rw [bodyA_all] at hrb hbl ⊢
      have hx0 : Ext [] w wr := hx1.trans hx
      have hck := ckN_lt (body l)
      go_wp2_with fail
      refine (check_any gb _ _ (body l) _ hrb.vw).mono ?_
      rintro e w4 ⟨rfl, rfl⟩
      go_wp2_with fail
      refine (four_any (ckN (body l)) _ hck).mono ?_
      rintro e w4 ⟨rfl, hr4, hx4⟩
      have hrb4 := hrb.ext hx4 (by simp)
      have hx5 := hx4.size
      go_wp2_with (with_reducible refine wpList_append T104 rfl (.tmp 61) (.tmp 64) rfl rfl rfl hrb4 hr4.vw (bcs_one _) (by omega) (by omega) ?_; rintro g6 A6 c6 w6 hr6 hx6 hg6 hA6 _ _; obtain rfl := hA6 (by omega))
      go_ret2
      have e1 : (enc l).length = (body l).length + 4 := by simp [enc, fourB]
      rw [e1]
      rw [← bcs_append] at hr6
      have h0 := hx0.size
      have h1 := hx.size
      exact ⟨g6, _, ret2 rfl rfl, hr6, by omega, (hx0.trans hx4).step hx6 (by simp; omega)⟩
end Go.Proofs.YtfadbmfkidiaoaaGreatDoor
