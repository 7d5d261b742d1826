/- The bytes of a map. -/
import Derived.Test.YtfadbmfkidiaoaaGreatDoorB3
namespace Go.Proofs.YtfadbmfkidiaoaaGreatDoor
open Go.RowKit Go

/-- the bytes of one pair behind a key -/
def pairB (last : ByteArray) (p : ByteArray × ByteArray) : List UInt8 :=
  [UInt8.ofNat (cpS last p.1), UInt8.ofNat (p.1.size - cpS last p.1)] ++ bl (p.1.extract (cpS last p.1) p.1.size) ++ [UInt8.ofNat p.2.size] ++ bl p.2
def encF : ByteArray → Pairs → List UInt8
  | _, [] => []
  | k, p :: l => pairB k p ++ encF p.1 l
def lastK (k : ByteArray) (l : Pairs) : Nat → ByteArray
  | 0 => k
  | i + 1 => kAt l i
theorem encF_snoc : ∀ (l : Pairs) (k : ByteArray) (i : Nat), i < l.length → encF k (l.take (i + 1)) = encF k (l.take i) ++ pairB (lastK k l i) (kAt l i, vAt l i)
  | [], _, _, h => by simp at h
  | p :: l, k, 0, _ => by simp [encF, lastK, kAt, vAt]
  | p :: l, k, i + 1, h => by
    have := encF_snoc l p.1 i (by simpa using h)
    simp only [List.take_succ_cons, encF, this, List.append_assoc]
    congr 2
    have e1 : kAt (p :: l) (i + 1) = kAt l i := by simp [kAt]
    have e2 : vAt (p :: l) (i + 1) = vAt l i := by simp [vAt]
    rw [e1, e2]
    congr 1
    cases i with
    | zero => simp [lastK, kAt]
    | succ i => simp [lastK, kAt]
def body (l : Pairs) : List UInt8 := [84, 76, 1] ++ fourB l.length ++ encF ByteArray.empty l
def enc (l : Pairs) : List UInt8 := body l ++ fourB (ckN (body l))
def bodyA (l : Pairs) (i : Nat) : List UInt8 := [84, 76, 1] ++ fourB l.length ++ encF ByteArray.empty (l.take i)

theorem pairB_len (k : ByteArray) (p : ByteArray × ByteArray) (h1 : p.1.size ≤ 24) (h2 : p.2.size ≤ 40) : (pairB k p).length ≤ 70 := by
  simp only [pairB, List.length_append, bl_len, List.length_cons, List.length_nil, ByteArray.size_extract]
  omega
theorem bodyA_snoc (l : Pairs) (i : Nat) (h : i < l.length) : bodyA l (i + 1) = bodyA l i ++ pairB (lastK ByteArray.empty l i) (kAt l i, vAt l i) := by
  unfold bodyA
  rw [encF_snoc l _ i h]; simp only [List.append_assoc]
theorem bodyA_len (l : Pairs) (hk : ∀ i, i < l.length → (kAt l i).size ≤ 24) (hv : ∀ i, i < l.length → (vAt l i).size ≤ 40) (i : Nat) (h : i ≤ l.length) : (bodyA l i).length ≤ 7 + i * 70 := by
  induction i with
  | zero => simp [bodyA, fourB, encF]
  | succ i ih =>
    rw [bodyA_snoc l i h, List.length_append]
    have := pairB_len (lastK ByteArray.empty l i) (kAt l i, vAt l i) (hk i h) (hv i h)
    have := ih (by omega)
    omega
theorem bodyA_all (l : Pairs) : bodyA l l.length = body l := by
  unfold bodyA body; rw [List.take_length]
theorem lastK_len (l : Pairs) (hk : ∀ i, i < l.length → (kAt l i).size ≤ 24) (i : Nat) (h : i ≤ l.length) : (lastK ByteArray.empty l i).size ≤ 24 := by
  cases i with
  | zero => simp [lastK]
  | succ i => exact hk i h

/-- a row of bytes that has just been laid -/
theorem byteNew (w : World) (l : List UInt8) (n : Nat) (h : l.length = n) (hn : n ≤ 1000) : Row (w.alloc (.cells (bcs l).toArray 5)) w.heap.size 5 1 (.slice (some ⟨w.heap.size, 0, none⟩) n n) n (bcs l) := by
  have := Row.new w 5 1 (bcs l).toArray n n (Nat.le_refl _) (by simp [maxLen]; omega) (by simp [bcs_len, h])
  rwa [show (bcs l).toArray.toList.take (n * 1) = bcs l by rw [Nat.mul_one]; exact List.take_of_length_le (by simp [bcs_len, h])] at this

theorem enc_len (l : Pairs) (hk : ∀ i, i < l.length → (kAt l i).size ≤ 24) (hv : ∀ i, i < l.length → (vAt l i).size ≤ 40) : (enc l).length ≤ 11 + l.length * 70 := by
  have := bodyA_len l hk hv l.length (Nat.le_refl _)
  rw [bodyA_all] at this
  have e1 : (enc l).length = (body l).length + 4 := by simp [enc, fourB]
  omega
theorem two_new (w : World) (x y : Int) (a b : Nat) (hx : x = a) (hy : y = b) (ha : a < 256) (hb : b < 256) : Row (w.alloc (.cells #[.int .u8 x, .int .u8 y] 5)) w.heap.size 5 1 (.slice (some ⟨w.heap.size, 0, none⟩) 2 2) 2 (bcs [UInt8.ofNat a, UInt8.ofNat b]) := by
  have := byteNew w [UInt8.ofNat a, UInt8.ofNat b] 2 rfl (by omega)
  have e : bcs [UInt8.ofNat a, UInt8.ofNat b] = [.int .u8 x, .int .u8 y] := by
    simp only [bcs, List.map_cons, List.map_nil, u8_of, hx, hy]
    rw [Int.emod_eq_of_lt (by omega) (by omega), Int.emod_eq_of_lt (by omega) (by omega)]
  rw [e] at this ⊢
  exact this
theorem one_new (w : World) (x : Int) (a : Nat) (hx : x = a) (ha : a < 256) : Row (w.alloc (.cells #[.int .u8 x] 5)) w.heap.size 5 1 (.slice (some ⟨w.heap.size, 0, none⟩) 1 1) 1 (bcs [UInt8.ofNat a]) := by
  have := byteNew w [UInt8.ofNat a] 1 rfl (by omega)
  have e : bcs [UInt8.ofNat a] = [.int .u8 x] := by
    simp only [bcs, List.map_cons, List.map_nil, u8_of, hx]
    rw [Int.emod_eq_of_lt (by omega) (by omega)]
  rw [e] at this ⊢
  exact this

/-- within a round: the bytes so far, and the pair's own block -/
structure EB (w1 : World) (p : Nat) (k v : ByteArray) (w : World) (gb : Nat) (A : Option Addr) (c m : Nat) (L : List UInt8) : Prop where
  r : Row w gb 5 1 (.slice A m c) m (bcs L)
  p1 : w.cell? ⟨p, 0, none⟩ = some (.string k)
  p2 : w.cell? ⟨p, 1, none⟩ = some (.string v)
  ne : gb ≠ p
  pl : p < w.heap.size
  lo : w1.heap.size ≤ gb
  x : Ext [] w1 w
theorem EB.ext {w1 : World} {p : Nat} {k v : ByteArray} {w w' : World} {gb : Nat} {A : Option Addr} {c m : Nat} {L : List UInt8} (h : EB w1 p k v w gb A c m L) (hx : Ext [] w w') : EB w1 p k v w' gb A c m L :=
  ⟨h.r.ext hx (by simp), hx.cell h.p1 (by simp), hx.cell h.p2 (by simp), h.ne, Nat.lt_of_lt_of_le h.pl hx.size, h.lo, h.x.trans hx⟩
theorem EB.app {w1 : World} {p : Nat} {k v : ByteArray} {w w' : World} {gb g' : Nat} {A A' : Option Addr} {c c' m m' : Nat} {L L' : List UInt8} (h : EB w1 p k v w gb A c m L) (hx : Ext [gb] w w') (hr : Row w' g' 5 1 (.slice A' m' c') m' (bcs L')) (hg : g' = gb ∨ w.heap.size ≤ g') : EB w1 p k v w' g' A' c' m' L' := by
  have h1 := h.x.size
  have h2 := h.pl
  have h3 := h.lo
  have h4 := h.ne
  exact ⟨hr, hx.cell h.p1 (by simpa using Ne.symm h4), hx.cell h.p2 (by simpa using Ne.symm h4), by omega, Nat.lt_of_lt_of_le h2 hx.size, by omega, h.x.step hx (by simp; omega)⟩
theorem EB.appB {w1 : World} {p : Nat} {k v : ByteArray} {w w' : World} {gb g' : Nat} {A A' : Option Addr} {c c' m m' : Nat} {L M : List UInt8} (h : EB w1 p k v w gb A c m L) (hx : Ext [gb] w w') (hr : Row w' g' 5 1 (.slice A' m' c') m' (bcs L ++ bcs M)) (hg : g' = gb ∨ w.heap.size ≤ g') : EB w1 p k v w' g' A' c' m' (L ++ M) :=
  h.app hx (by rw [bcs_append]; exact hr) hg
theorem EB.appS {w1 : World} {p : Nat} {k v : ByteArray} {w w' : World} {gb g' : Nat} {A A' : Option Addr} {c c' m m' : Nat} {L : List UInt8} {x : ByteArray} (h : EB w1 p k v w gb A c m L) (hx : Ext [gb] w w') (hr : Row w' g' 5 1 (.slice A' m' c') m' (bcs L ++ x.data.toList.map (fun b => Value.int .u8 (b.toNat : Int)))) (hg : g' = gb ∨ w.heap.size ≤ g') : EB w1 p k v w' g' A' c' m' (L ++ bl x) :=
  h.appB hx hr hg
/-- k[c:] under a name -/
theorem str_from (P : Program) (t : Nat) (ht : P.underlying t = some .string) (s : ByteArray) (c : Nat) (hc : c ≤ s.size) :
    ∃ K : ByteArray, K = s.extract c s.size ∧ K.size = s.size - c ∧ ∀ w : World, (Instr.slice t (.string s) (some (.int .i64 (c : Int))) none none).run P w = .ok (.string K) w := by
  refine ⟨_, rfl, by simp, fun w => ?_⟩
  simp [Instr.slice, Instr.sliceBounds, Instr.sliceBound, asIntOf, run_underlying ht]
  intro h; exfalso; omega

set_option maxRecDepth 100000 in
set_option maxHeartbeats 1600000 in
theorem encode_any (b g : Nat) (l : Pairs) (w : World) (hm : Mdl w b g l) (hn : l.length ≤ 400) (hk : ∀ i, i < l.length → (kAt l i).size ≤ 24) (hv : ∀ i, i < l.length → (vAt l i).size ≤ 40) :
    Calls Tryz.prog 38 #[.pointer (some ⟨b, 0, none⟩)] w fun e w' => ∃ g' v', e = .returned (.tuple #[v', .int .i64 0]) ∧ Row w' g' 5 1 v' (enc l).length (bcs (enc l)) ∧ w.heap.size ≤ g' ∧ Ext [] w w' := by
  go_enter Tryz.func38, Tryz.ntmps38
  go_wp2_with fail
  refine (pairs_any b g l _ hm (by omega)).mono ?_
  rintro e w1 ⟨gp, vp, rfl, hrp, hgp, hx1⟩
  obtain ⟨Ap, cp, rfl, hA, _⟩ := hrp.form
  have hvp := hrp.vw
  clear hrp hm
  have hsz1 := hx1.size
  have hgpl : 0 < l.length → gp < w1.heap.size := fun h => by
    rcases hvp.split with ⟨h1, h2, _⟩ | ⟨o, c, h1, _, _, h2⟩
    · omega
    · cases h2 with | at_ _ _ _ _ hty => obtain ⟨cur, fz, hb⟩ := hty h; exact lt_of_block hb
  have hr0 := byteNew w1 [84, 76, 1] 3 rfl (by omega)
  go_wp2_with fail
  refine (four_any l.length _ (by omega)).mono ?_
  rintro e w2 ⟨rfl, hr4, hx2⟩
  have hr0' := hr0.ext hx2 (by simp)
  have hsz2 := hx2.size
  have hx12 : Ext [] w1 w2 := ((Ext.refl [] w1).alloc _).trans hx2
  have hvp2 := hvp.ext hx12 (by simp)
  simp only [World.size_alloc] at hsz2 hr4
  clear hr0
  go_wp2_with (with_reducible refine wpList_append T104 rfl (.tmp 14) (.tmp 18) rfl rfl rfl hr0' hr4.vw (bcs_one _) (by omega) (by omega) ?_; rintro g3 A3 c3 w3 hr3 hx3 hg3 hA3 _ _)
  have hx13 : Ext [] w1 w3 := hx12.step hx3 (by simp)
  have hr3 : Row w3 g3 5 1 (.slice A3 7 c3) 7 (bcs (bodyA l 0)) := by rw [← bcs_append] at hr3; exact hr3
  have hg3' : w1.heap.size ≤ g3 := by omega
  obtain rfl := hA3 (by omega)
  clear hr4 hr0' hx12 hx2 hx3 hg3 hvp2 hsz2
  go_loopw [5, 6, 22] (fun bv kv iv wr => ∃ (i gb : Nat) (A : Option Addr) (c : Nat), i ≤ l.length ∧ iv = .int .i64 i ∧ kv = .string (lastK ByteArray.empty l i) ∧ bv = .slice A (bodyA l i).length c ∧
    Row wr gb 5 1 (.slice A (bodyA l i).length c) (bodyA l i).length (bcs (bodyA l i)) ∧ w1.heap.size ≤ gb ∧ Ext [] w1 wr) (fun _ _ iv _ => l.length - (intOf iv).toNat)
  case atStart => exact ⟨0, g3, some ⟨g3, 0, none⟩, c3, by omega, rfl, rfl, rfl, hr3, hg3', hx13⟩
  case round =>
    obtain ⟨i, gb, A, c, hi, rfl, rfl, rfl, hrb, hgb, hx⟩ := hrel
    clear hr3 hx13
    have hbl := bodyA_len l hk hv i hi
    by_cases hlt : i < l.length
    · obtain rfl := hA (by omega)
      have hkl := lastK_len l hk i hi
      have hle2 := cpS_le2 (lastK ByteArray.empty l i) (kAt l i)
      have hk2 := hk i hlt
      have hv2 := hv i hlt
      have hvr := hvp.ext hx (by simp)
      obtain ⟨c1, c2⟩ := hvr.pair i hlt
      simp only [Nat.zero_add] at c1 c2
      go_wp2_with fail
      refine (prefix_any _ _ _ (by omega)).mono ?_
      rintro e w5 ⟨rfl, hx5⟩
      have hps : w5.heap[wr.heap.size]? = some (.cells #[.string (kAt l i), .string (vAt l i)] 77 (0, 0)) := hx5.keep (heap_alloc_new wr _) (by simp)
      have hrs := hx5.size
      simp only [World.size_alloc] at hrs
      obtain ⟨K, hKe, hKs, hsl⟩ := str_from Tryz.prog 9 Tryz.underlying9 (kAt l i) (cpS (lastK ByteArray.empty l i) (kAt l i)) hle2
      have HK := Lib.hid hKe; clear hKe
      have hK24 : K.size ≤ 24 := by omega
      clear hKs
      have hgbw : gb < wr.heap.size := by
        rcases hrb.split with ⟨_, h0, _⟩ | ⟨_, _, _, _, _, h0, _⟩
        · have : 7 ≤ (bodyA l i).length := by simp [bodyA, fourB]
          omega
        · exact lt_of_block h0
      have hx15 : Ext [] wr w5 := ((Ext.refl [] wr).alloc _).trans hx5
      have B0 : EB w1 wr.heap.size (kAt l i) (vAt l i) w5 gb A c (bodyA l i).length (bodyA l i) :=
        ⟨hrb.ext hx15 (by simp), cell_of_row w5 _ 0 _ _ _ hps, cell_of_row w5 _ 1 _ _ _ hps, by omega, by omega, hgb, hx.trans hx15⟩
      have p1 := B0.p1
      have p2 := B0.p2
      have n1 := fun w : World => two_new w (cpS (lastK ByteArray.empty l i) (kAt l i)) ((kAt l i).size - cpS (lastK ByteArray.empty l i) (kAt l i)) _ _ rfl (Int.ofNat_sub hle2).symm (by omega) (by omega)
      have n2 := fun w : World => one_new w (vAt l i).size _ rfl (by omega)
      clear hps hrb hx hx15 hx5 hvr c1 c2 hvp
      go_wp2_with (first
        | (with_reducible refine wpList_append T104 rfl (.tmp 30) (.tmp 39) rfl rfl rfl (B0.ext ((Ext.refl [] _).alloc _)).r (n1 _).vw (bcs_one _) (by omega) (by omega) ?_; rintro g6 A6 c6 w6 hr6 hx6 hg6 hA6 _ _; obtain rfl := hA6 (by omega); have B1 := (B0.ext ((Ext.refl [] _).alloc _)).appB hx6 hr6 hg6; have p1 := B1.p1; have p2 := B1.p2; clear hr6 hx6 hg6)
        | (with_reducible refine wpList_append_str T104 9 Tryz.underlying9 rfl (.tmp 41) (.tmp 45) rfl rfl rfl B1.r (by omega) ?_; rintro g7 A7 c7 w7 hr7 hx7 hg7 hA7 _; obtain rfl := hA7 (by omega); have B2 := B1.appS hx7 hr7 hg7; have p1 := B2.p1; have p2 := B2.p2; clear hr7 hx7 hg7)
        | (with_reducible refine wpList_append T104 rfl (.tmp 47) (.tmp 52) rfl rfl rfl (B2.ext ((Ext.refl [] _).alloc _)).r (n2 _).vw (bcs_one _) (by omega) (by omega) ?_; rintro g8 A8 c8 w8 hr8 hx8 hg8 hA8 _ _; obtain rfl := hA8 (by omega); have B3 := (B2.ext ((Ext.refl [] _).alloc _)).appB hx8 hr8 hg8; have p1 := B3.p1; have p2 := B3.p2; clear hr8 hx8 hg8)
        | (with_reducible refine wpList_append_str T104 9 Tryz.underlying9 rfl (.tmp 54) (.tmp 56) rfl rfl rfl B3.r (by omega) ?_; rintro g9 A9 c9 w9 hr9 hx9 hg9 hA9 _; obtain rfl := hA9 (by omega); have B4 := B3.appS hx9 hr9 hg9; have p1 := B4.p1; have p2 := B4.p2; clear hr9 hx9 hg9))
      go_roundw
      case rel =>
        have e1 : bodyA l (i + 1) = bodyA l i ++ [UInt8.ofNat (cpS (lastK ByteArray.empty l i) (kAt l i)), UInt8.ofNat ((kAt l i).size - cpS (lastK ByteArray.empty l i) (kAt l i))] ++ bl K ++ [UInt8.ofNat (vAt l i).size] ++ bl (vAt l i) := by
          rw [bodyA_snoc l i hlt, HK.out]; simp only [pairB, List.append_assoc]
        have e2 := B4.r.vw.blen
        rw [← e1] at e2
        have hr := B4.r
        rw [← e1, ← e2] at hr
        refine ⟨i + 1, g9, _, c9, by omega, by go_num, rfl, by rw [← e2], hr, B4.lo, B4.x⟩
      case measure => simp [intOf]; omega
    · obtain rfl : i = l.length := by omega
      clear hvp hA
      rw [bodyA_all] at hrb hbl ⊢
      have hx0 : Ext [] w wr := hx1.trans hx
      have hck := ckN_lt (body l)
      go_wp2_with fail
      refine (check_any gb _ _ (body l) _ hrb.vw).mono ?_
      rintro e w4 ⟨rfl, rfl⟩
      go_wp2_with fail
      refine (four_any (ckN (body l)) _ hck).mono ?_
      rintro e w4 ⟨rfl, hr4, hx4⟩
      have hrb4 := hrb.ext hx4 (by simp)
      have hx5 := hx4.size
      go_wp2_with (with_reducible refine wpList_append T104 rfl (.tmp 61) (.tmp 64) rfl rfl rfl hrb4 hr4.vw (bcs_one _) (by omega) (by omega) ?_; rintro g6 A6 c6 w6 hr6 hx6 hg6 hA6 _ _; obtain rfl := hA6 (by omega))
      go_ret2
      have e1 : (enc l).length = (body l).length + 4 := by simp [enc, fourB]
      rw [e1]
      rw [← bcs_append] at hr6
      have h0 := hx0.size
      have h1 := hx.size
      exact ⟨g6, _, ret2 rfl rfl, hr6, by omega, (hx0.trans hx4).step hx6 (by simp; omega)⟩
end Go.Proofs.YtfadbmfkidiaoaaGreatDoor
