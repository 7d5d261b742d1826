/- DERIVED: THE SHELF's CONTRACTS AT THIS DUMP, IN PLAIN WORDS (tools/lay-plain.mjs out of 'TryzShelf.lean', which tools/lay-shelf.mjs wrote): THE SAME DECLARATIONS UNDER THE SAME NAMES: 'import', 'namespace', 'open', 'def', 'theorem' AND NOTHING ELSE: no command of the shelf's: FOR A HAND-IN. Each laying: the table of numbers ('.._ren') and one theorem, a field a fact of the dump's own or the kernel's comparison; each contract: ONE APPLICATION. Cells of rows as bytes, in memory. -/
import Derived.Test.YtfadbmfkidiaoaaGreatDoorZ20
import Derived.Test.YtfadbmfkidiaoaaGreatDoorProg
import Derived.Shelf.Strings.Builder1
import Derived.Shelf.Strings.Builder2
import Derived.Shelf.Small.Strs
import Derived.Shelf.Small.Wraps
import Derived.Shelf.Strconv.Atoi
import Derived.Shelf.Strconv.Itoa0
import Derived.Shelf.Strconv.Itoa1
import Derived.Shelf.LaysM
import Derived.Shelf.Strconv.Itoa2
import Derived.Shelf.Strconv.Itoa3
import Derived.Shelf.Strconv.AtoiErrFast
import Derived.Shelf.Strconv.ParseIntEmpty
import Derived.Shelf.Strconv.AtoiFail
import Derived.Shelf.Strconv.Clone
import Derived.Shelf.Strconv.SyntaxError
import Derived.Shelf.LaysC
import Derived.Shelf.Strconv.ToError
import Derived.Shelf.Strconv.Lower
import Derived.Shelf.Strconv.ParseUint10
import Derived.Shelf.Strconv.ParseUint10Empty
import Derived.Shelf.Strconv.ParseUint10Any
import Derived.Shelf.Strconv.ParseInt10
import Derived.Shelf.Strconv.AtoiLong
import Derived.Shelf.Strconv.AtoiInnerAll
import Derived.Shelf.Strconv.RangeError
import Derived.Shelf.Strconv.ToErrorRange
import Derived.Shelf.Strconv.AtoiAll
import Derived.Shelf.Strings.Search1
import Derived.Shelf.Strings.Search2
import Derived.Shelf.Strings.Search3
import Derived.Shelf.Strings.Cut
import Derived.Shelf.Strings.Count
import Derived.Shelf.Strings.Shaped
import Derived.Shelf.Sort.Plain
import Derived.Shelf.Strings.Prefix
import Derived.Shelf.Strings.Split
import Derived.Shelf.Strings.Replace
import Derived.Shelf.Strings.SplitShaped
import Derived.Shelf.Unicode.DecodeSlow
import Derived.Ground.Names2Prog
import Derived.Shelf.Slices.Clone
import Derived.Shelf.Slices.In.SortNone
import Derived.Shelf.Bytes.SlEqualAll
import Derived.Shelf.Bytes.Small
namespace Go.Proofs
open Go.Shelf
open Go.RowKit Go.Lib in
def Tryz.lays143_ren : Go.Shelf.Ren := ⟨fun | 143 => 128 | 219 => 161 | 217 => 188 | 225 => 193 | 224 => 194 | 267 => 195 | 266 => 212 | 314 => 215 | n => n, fun | 9 => 9 | 3 => 3 | 4 => 4 | 5 => 5 | 46 => 181 | 146 => 284 | 51 => 174 | n => n, fun | 1 => 2 | n => n⟩
theorem Tryz.lays143 : Go.Proofs.Lays.n143 Tryz.prog Tryz.lays143_ren := {
  mixed := by kernel_rfl
  f143 := Tryz.func128.trans (congrArg some (by kernel_rfl))
  f217 := Tryz.func188.trans (congrArg some (by kernel_rfl))
  f219 := Tryz.func161.trans (congrArg some (by kernel_rfl))
  f224 := Tryz.func194.trans (congrArg some (by kernel_rfl))
  f225 := Tryz.func193.trans (congrArg some (by kernel_rfl))
  f266 := Tryz.func212.trans (congrArg some (by kernel_rfl))
  f267 := Tryz.func195.trans (congrArg some (by kernel_rfl))
  f314 := Tryz.func215.trans (congrArg some (by kernel_rfl))
  t3 := Tryz.underlying3
  a3 := Tryz.isAgg3
  z3 := Tryz.sizeOf3
  v3 := Tryz.zeroValue3
  t4 := Tryz.underlying4
  a4 := Tryz.isAgg4
  z4 := Tryz.sizeOf4
  v4 := Tryz.zeroValue4
  t5 := Tryz.underlying5
  a5 := Tryz.isAgg5
  z5 := Tryz.sizeOf5
  v5 := Tryz.zeroValue5
  t9 := Tryz.underlying9
  a9 := Tryz.isAgg9
  z9 := Tryz.sizeOf9
  v9 := Tryz.zeroValue9
  t46 := Tryz.underlying181
  a46 := Tryz.isAgg181
  z46 := Tryz.sizeOf181
  v46 := Tryz.zeroValue181
  t51 := Tryz.underlying174
  a51 := Tryz.isAgg174
  z51 := Tryz.sizeOf174
  v51 := Tryz.zeroValue174
  t146 := Tryz.underlying284
  a146 := Tryz.isAgg284
  z146 := Tryz.sizeOf284
  v146 := Tryz.zeroValue284
  g1 := by kernel_rfl }
open Go.RowKit Go.Lib in
/-- strings.Index: "Index returns the index of the first instance of substr in s, or -1 if substr is not present in s.": IT RETURNS 'Lib.index s substr'; the world is as it was. (LAID: no walk: one application.) -/
theorem Tryz.strings_Index (s sub : ByteArray) (m : Int) (w : World) (hs : s.size < 4294967281) (hm : w.cell? ⟨2, 0, none⟩ = some (.int .i64 m)) :
    Calls Tryz.prog 128 #[.string s, .string sub] w fun e w' => e = .returned (.int .i64 (Lib.index s.data.toList sub.data.toList)) ∧ w' = w := Any.strings_Index Tryz.lays143 s sub m w hs hm
open Go.RowKit Go.Lib in
def Tryz.lays155_ren : Go.Shelf.Ren := ⟨fun | 155 => 129 | 154 => 162 | 138 => 196 | 165 => 197 | 143 => 128 | 166 => 104 | 197 => 198 | 169 => 106 | 195 => 216 | 218 => 217 | 240 => 145 | 241 => 218 | 219 => 161 | 260 => 219 | 276 => 187 | 277 => 226 | 217 => 188 | 225 => 193 | 224 => 194 | 267 => 195 | 266 => 212 | 314 => 215 | n => n, fun | 9 => 9 | 3 => 3 | 4 => 4 | 72 => 189 | 0 => 0 | 76 => 124 | 105 => 267 | 21 => 21 | 5 => 5 | 70 => 187 | 20 => 20 | 37 => 104 | 75 => 123 | 127 => 227 | 164 => 260 | 46 => 181 | 119 => 293 | 139 => 296 | 138 => 295 | 146 => 284 | 51 => 174 | 80 => 191 | n => n, fun | 1 => 2 | 3 => 4 | 4 => 5 | n => n⟩
theorem Tryz.lays155 : Go.Proofs.Lays.n155 Tryz.prog Tryz.lays155_ren := {
  mixed := by kernel_rfl
  f138 := Tryz.func196.trans (congrArg some (by kernel_rfl))
  f143 := Tryz.func128.trans (congrArg some (by kernel_rfl))
  f154 := Tryz.func162.trans (congrArg some (by kernel_rfl))
  f155 := Tryz.func129.trans (congrArg some (by kernel_rfl))
  f165 := Tryz.func197.trans (congrArg some (by kernel_rfl))
  f166 := Tryz.func104.trans (congrArg some (by kernel_rfl))
  f169 := Tryz.func106.trans (congrArg some (by kernel_rfl))
  f195 := Tryz.func216.trans (congrArg some (by kernel_rfl))
  f197 := Tryz.func198.trans (congrArg some (by kernel_rfl))
  f217 := Tryz.func188.trans (congrArg some (by kernel_rfl))
  f218 := Tryz.func217.trans (congrArg some (by kernel_rfl))
  f219 := Tryz.func161.trans (congrArg some (by kernel_rfl))
  f224 := Tryz.func194.trans (congrArg some (by kernel_rfl))
  f225 := Tryz.func193.trans (congrArg some (by kernel_rfl))
  f240 := Tryz.func145.trans (congrArg some (by kernel_rfl))
  f241 := Tryz.func218.trans (congrArg some (by kernel_rfl))
  f260 := Tryz.func219.trans (congrArg some (by kernel_rfl))
  f266 := Tryz.func212.trans (congrArg some (by kernel_rfl))
  f267 := Tryz.func195.trans (congrArg some (by kernel_rfl))
  f276 := Tryz.func187.trans (congrArg some (by kernel_rfl))
  f277 := Tryz.func226.trans (congrArg some (by kernel_rfl))
  f314 := Tryz.func215.trans (congrArg some (by kernel_rfl))
  t0 := Tryz.underlying0
  a0 := Tryz.isAgg0
  z0 := Tryz.sizeOf0
  v0 := Tryz.zeroValue0
  t3 := Tryz.underlying3
  a3 := Tryz.isAgg3
  z3 := Tryz.sizeOf3
  v3 := Tryz.zeroValue3
  t4 := Tryz.underlying4
  a4 := Tryz.isAgg4
  z4 := Tryz.sizeOf4
  v4 := Tryz.zeroValue4
  t5 := Tryz.underlying5
  a5 := Tryz.isAgg5
  z5 := Tryz.sizeOf5
  v5 := Tryz.zeroValue5
  t9 := Tryz.underlying9
  a9 := Tryz.isAgg9
  z9 := Tryz.sizeOf9
  v9 := Tryz.zeroValue9
  t20 := Tryz.underlying20
  a20 := Tryz.isAgg20
  z20 := Tryz.sizeOf20
  v20 := Tryz.zeroValue20
  t21 := Tryz.underlying21
  a21 := Tryz.isAgg21
  z21 := Tryz.sizeOf21
  v21 := Tryz.zeroValue21
  t37 := Tryz.underlying104
  a37 := Tryz.isAgg104
  z37 := Tryz.sizeOf104
  v37 := Tryz.zeroValue104
  t46 := Tryz.underlying181
  a46 := Tryz.isAgg181
  z46 := Tryz.sizeOf181
  v46 := Tryz.zeroValue181
  t51 := Tryz.underlying174
  a51 := Tryz.isAgg174
  z51 := Tryz.sizeOf174
  v51 := Tryz.zeroValue174
  t70 := Tryz.underlying187
  a70 := Tryz.isAgg187
  z70 := Tryz.sizeOf187
  v70 := Tryz.zeroValue187
  t72 := Tryz.underlying189
  a72 := Tryz.isAgg189
  z72 := Tryz.sizeOf189
  v72 := Tryz.zeroValue189
  t75 := Tryz.underlying123
  a75 := Tryz.isAgg123
  z75 := Tryz.sizeOf123
  v75 := Tryz.zeroValue123
  t76 := Tryz.underlying124
  a76 := Tryz.isAgg124
  z76 := Tryz.sizeOf124
  v76 := Tryz.zeroValue124
  t105 := Tryz.underlying267
  a105 := Tryz.isAgg267
  z105 := Tryz.sizeOf267
  v105 := Tryz.zeroValue267
  t119 := Tryz.underlying293
  a119 := Tryz.isAgg293
  z119 := Tryz.sizeOf293
  t127 := Tryz.underlying227
  a127 := Tryz.isAgg227
  z127 := Tryz.sizeOf227
  v127 := Tryz.zeroValue227
  t138 := Tryz.underlying295
  a138 := Tryz.isAgg295
  z138 := Tryz.sizeOf295
  v138 := Tryz.zeroValue295
  t139 := Tryz.underlying296
  a139 := Tryz.isAgg296
  z139 := Tryz.sizeOf296
  v139 := Tryz.zeroValue296
  t146 := Tryz.underlying284
  a146 := Tryz.isAgg284
  z146 := Tryz.sizeOf284
  v146 := Tryz.zeroValue284
  t164 := Tryz.underlying260
  a164 := Tryz.isAgg260
  z164 := Tryz.sizeOf260
  v164 := Tryz.zeroValue260
  g1 := by kernel_rfl
  g3 := by kernel_rfl
  g4 := by kernel_rfl }
theorem Tryz.Builder_Extra_155 : Builder.Extra Tryz.prog Tryz.lays155_ren := {
  sizeBuilder := by kernel_rfl
  liesBuilder := by kernel_rfl
  t5 := Tryz.underlying5
  a5 := Tryz.isAgg5
  z5 := Tryz.sizeOf5
  v5 := Tryz.zeroValue5
  infoByte := by kernel_rfl
  cellsByte := by kernel_rfl
  sizeByte := by kernel_rfl
  neB5 := by decide }
open Go.RowKit Go.Lib in
/-- strings.ReplaceAll: "ReplaceAll returns a copy of the string s with all non-overlapping instances of old replaced by new.": AT AN old THAT IS NOT EMPTY: 'Lib.replaceAll s old new'. (LAID: no walk: one application.) -/
theorem Tryz.strings_ReplaceAll (s old new : ByteArray) (m : Int) (w : World) (hs : s.size < 4294967281) (hm : w.cell? ⟨2, 0, none⟩ = some (.int .i64 m)) (h1 : 1 ≤ old.size) (hlen : s.size + Lib.countB s old * new.size ≤ 140737488355328) :
    Calls Tryz.prog 129 #[.string s, .string old, .string new] w fun e w' =>
      e = .returned (.string ⟨(Lib.replaceAll s.data.toList old.data.toList new.data.toList).toArray⟩) ∧ Below w.heap.size w w' := Any.strings_ReplaceAll Tryz.lays155 Tryz.Builder_Extra_155 s old new m w hs hm h1 hlen
end Go.Proofs

namespace Go.Proofs.YtfadbmfkidiaoaaGreatDoor
open Go.RowKit Go
set_option linter.unusedSimpArgs false
set_option linter.unusedVariables false
set_option linter.unusedSectionVars false
set_option linter.unnecessarySimpa false

/-- a cell: its kind, its number, its text -/
structure Cl where
  k : Nat
  u : Nat
  s : ByteArray
def cU (n : Nat) : Cl := ⟨1, n, eS⟩
def cT (s : ByteArray) : Cl := ⟨3, 0, s⟩
def clC (c : Cl) : List Value := [.int .i64 (c.k : Nat), .int .u64 (c.u : Nat), .int .i64 0, .string c.s, .bool false]
def clsC (l : List Cl) : List Value := l.flatMap clC
/-- cells as they come here -/
def OkCl (c : Cl) : Prop := (∃ n, c = cU n ∧ n < 65536) ∨ (∃ s, c = cT s ∧ s.size ≤ 100)
def clB (c : Cl) : List UInt8 := if c.k = 1 then uB c.u else txB (bl c.s)
theorem clB_u (n : Nat) : clB (cU n) = uB n := rfl
theorem clB_t (s : ByteArray) : clB (cT s) = txB (bl s) := rfl
/-- the variable that strings.Index looks into -/
def MxL (w : World) : Prop := ∃ m : Int, w.cell? ⟨2, 0, none⟩ = some (.int .i64 m)
theorem MxL.ext {S : List Nat} {w w' : World} (h : MxL w) (hx : Ext S w w') (hS : ∀ x ∈ S, 8 ≤ x) : MxL w' := by
  obtain ⟨m, hm⟩ := h
  exact ⟨m, hx.cell hm (fun h => by have h2 := hS _ h; change 8 ≤ 2 at h2; omega)⟩
theorem nul_size : (⟨#[0]⟩ : ByteArray).size = 1 := rfl
theorem countB_le (s old : ByteArray) : Lib.countB s old ≤ s.size + 1 := by
  have := Lib.count_le s.data.toList old.data.toList
  rwa [Array.length_toList] at this
theorem escape_any (s : ByteArray) (w : World) (hM : MxL w) (hs : s.size ≤ 100) :
    Calls Tryz.prog 129 #[.string s, .string ⟨#[0]⟩, .string ⟨#[0, 255]⟩] w fun e w' => e = .returned (.string ⟨(esc (bl s)).toArray⟩) ∧ Ext [] w w' := by
  obtain ⟨m, hm⟩ := hM
  have hc := countB_le s ⟨#[0]⟩
  have h2 : (⟨#[0, 255]⟩ : ByteArray).size = 2 := rfl
  refine (Tryz.strings_ReplaceAll s ⟨#[0]⟩ ⟨#[0, 255]⟩ m w (by omega) hm (by rw [nul_size]; omega) (by rw [h2]; omega)).mono ?_
  rintro e w' ⟨rfl, hb⟩
  refine ⟨ret1 (vs ?_), Ext.of_below hb (Nat.le_refl _)⟩
  show (⟨(Lib.replaceAll s.data.toList [0] [0, 255]).toArray⟩ : ByteArray) = _
  rw [replace_esc]; rfl
theorem unescape_any (t s : ByteArray) (w : World) (hM : MxL w) (hs : s.size ≤ 100) (ht : bl t = esc (bl s)) :
    Calls Tryz.prog 129 #[.string t, .string ⟨#[0, 255]⟩, .string ⟨#[0]⟩] w fun e w' => e = .returned (.string s) ∧ Ext [] w w' := by
  obtain ⟨m, hm⟩ := hM
  have hc := countB_le t ⟨#[0, 255]⟩
  have hts : t.size ≤ 200 := by
    have h1 := (esc_len (bl s)).2
    rw [← ht, bl_len, bl_len] at h1; omega
  have h2 : (⟨#[0, 255]⟩ : ByteArray).size = 2 := rfl
  refine (Tryz.strings_ReplaceAll t ⟨#[0, 255]⟩ ⟨#[0]⟩ m w (by omega) hm (by rw [h2]; omega) (by rw [nul_size]; omega)).mono ?_
  rintro e w' ⟨rfl, hb⟩
  refine ⟨ret1 (vs ?_), Ext.of_below hb (Nat.le_refl _)⟩
  show (⟨(Lib.replaceAll (bl t) [0, 255] [0]).toArray⟩ : ByteArray) = _
  rw [ht, replace_unesc, mk_bl]
theorem clsC_len (l : List Cl) : (clsC l).length = l.length * 5 := by
  unfold clsC; induction l with
  | nil => rfl
  | cons _ _ ih => simp only [List.flatMap_cons, List.length_append, ih, List.length_cons, clC, List.length_nil]; omega
set_option maxRecDepth 100000 in
set_option maxHeartbeats 1600000 in
/-- the bytes of a number behind others -/
theorem put_u (x : Nat) (g : Nat) (v : Value) (n : Nat) (l : List UInt8) (w : World) (hr : Row w g 5 1 v n (bcs l)) (hn : n ≤ 10000) (hg : g ≤ w.heap.size) (hx : x < 65536) :
    Calls Tryz.prog 164 #[v, .agg #[.int .i64 1, .int .u64 x, .int .i64 0, .string eS, .bool false]] w fun e w' => ∃ g' v', e = .returned v' ∧ Row w' g' 5 1 v' (n + (uB x).length) (bcs (l ++ uB x)) ∧ (g' = g ∨ w.heap.size ≤ g') ∧ Ext [g] w w' := by
  have hx0 : Ext [] w (w.alloc (.cells #[.int .i64 1, .int .u64 x, .int .i64 0, .string eS, .bool false] 93)) := (Ext.refl [] w).alloc _
  have hd := digits_any x (w.alloc (.cells #[.int .i64 1, .int .u64 x, .int .i64 0, .string eS, .bool false] 93)) hx
  obtain ⟨A, c, rfl, _, _⟩ := hr.form
  go_enter Tryz.func164, Tryz.ntmps164
  go_wp2_with fail
  refine hd.mono ?_
  rintro e w1 ⟨g1, v1, rfl, hr1, hg1, hl2, hx1⟩
  obtain ⟨A1, c1, rfl, hA1, _⟩ := hr1.form
  have hx01 := hx0.trans hx1
  have hro := hr.ext hx01 (by simp)
  clear hd
  have hn1 : ∀ W : World, Row (W.alloc (.cells #[.int .u8 ((dgB x).length : Nat)] 5)) W.heap.size 5 1 (.slice (some ⟨W.heap.size, 0, none⟩) 1 1) 1 (bcs [UInt8.ofNat (dgB x).length]) := fun W => by
    have := Row.new W 5 1 #[.int .u8 ((dgB x).length : Nat)] 1 1 (by omega) (by simp [maxLen]) rfl
    have e : (#[Value.int .u8 ((dgB x).length : Nat)].toList.take (1 * 1)) = bcs [UInt8.ofNat (dgB x).length] := by
      simp only [bcs, List.map_cons, List.map_nil, u8_of]
      have : (((dgB x).length : Nat) : Int) % 256 = (dgB x).length := by omega
      rw [this]; rfl
    rwa [e] at this
  have hro2 := fun o => hro.ext ((Ext.refl [] w1).alloc o) (by simp)
  have hr12 := fun o => hr1.ext ((Ext.refl [] w1).alloc o) (by simp)
  have o1 : ∀ u ∈ bcs [UInt8.ofNat (dgB x).length], u.oneCell' = true := bcs_one _
  have o2 : ∀ u ∈ bcs (dgB x), u.oneCell' = true := bcs_one _
  have hu : (uB x).length = 1 + (dgB x).length := by simp [uB]; omega
  have hb : bcs (l ++ uB x) = bcs l ++ bcs [UInt8.ofNat (dgB x).length] ++ bcs (dgB x) := by simp [uB, bcs]
  have HU := Lib.hid hu; clear hu
  have HB := Lib.hid hb; clear hb
  simp only [World.size_alloc] at hg1
  generalize bcs (dgB x) = ys at *
  generalize bcs [UInt8.ofNat (dgB x).length] = zs at *
  generalize (dgB x).length = m at *
  go_wp2_with (first
    | ((with_reducible refine wpList_append T104 rfl (.tmp 16) (.tmp 20) rfl rfl rfl (hro2 _) (hn1 _).vw o1 (by omega) (by omega) ?_); rintro g9 A9 c9 w9 hr9 hx9 hg9 hA9 _ _; obtain rfl := hA9 (by omega); have hy := (hr12 _).ext hx9 (by simp; omega))
    | ((with_reducible refine wpList_append T104 rfl (.tmp 21) (.tmp 22) rfl rfl rfl hr9 hy.vw o2 (by omega) (by omega) ?_); rintro g10 A10 c10 w10 hr10 hx10 hg10 hA10 _ _; obtain rfl := hA10 (by omega)))
  have s1 := hx1.size
  have s9 := hx9.size
  simp only [World.size_alloc] at s1 s9 hg9
  have hxa : Ext [g] w w9 := ((hx01.alloc _).mono (by simp)).trans hx9
  go_ret
  refine ⟨g10, _, rfl, ?_, by omega, hxa.step hx10 (by simp; omega)⟩
  rw [HU.out, HB.out, ← Nat.add_assoc]; exact hr10
set_option maxRecDepth 100000 in
set_option maxHeartbeats 1600000 in
/-- the bytes of a text behind others -/
theorem put_t (x : ByteArray) (g : Nat) (v : Value) (n : Nat) (l : List UInt8) (w : World) (hr : Row w g 5 1 v n (bcs l)) (hn : n ≤ 10000) (hg : g ≤ w.heap.size) (hx : x.size ≤ 100) (hM : MxL w) :
    Calls Tryz.prog 164 #[v, .agg #[.int .i64 3, .int .u64 0, .int .i64 0, .string x, .bool false]] w fun e w' => ∃ g' v', e = .returned v' ∧ Row w' g' 5 1 v' (n + (txB (bl x)).length) (bcs (l ++ txB (bl x))) ∧ (g' = g ∨ w.heap.size ≤ g') ∧ Ext [g] w w' := by
  have hx0 : Ext [] w (w.alloc (.cells #[.int .i64 3, .int .u64 0, .int .i64 0, .string x, .bool false] 93)) := (Ext.refl [] w).alloc _
  have hd := escape_any x (w.alloc (.cells #[.int .i64 3, .int .u64 0, .int .i64 0, .string x, .bool false] 93)) (hM.ext hx0 (by simp)) hx
  have hel := (esc_len (bl x)).2
  rw [bl_len] at hel
  obtain ⟨A, c, rfl, _, _⟩ := hr.form
  obtain ⟨E, hE⟩ : ∃ E : ByteArray, E = ⟨(esc (bl x)).toArray⟩ := ⟨_, rfl⟩
  rw [← hE] at hd
  have hEs : E.size = (esc (bl x)).length := by rw [hE]; show (esc (bl x)).toArray.size = _; rw [List.size_toArray]
  have hEl : E.data.toList.map (fun b => Value.int .u8 (b.toNat : Int)) = bcs (esc (bl x)) := by rw [hE]; simp [bcs]
  clear hE
  go_enter Tryz.func164, Tryz.ntmps164
  go_wp2_with fail
  refine hd.mono ?_
  rintro e w1 ⟨rfl, hx1⟩
  have hx01 := hx0.trans hx1
  have hro := hr.ext hx01 (by simp)
  clear hd
  have hn1 : ∀ W : World, Row (W.alloc (.cells #[.int .u8 0, .int .u8 1] 5)) W.heap.size 5 1 (.slice (some ⟨W.heap.size, 0, none⟩) 2 2) 2 (bcs [0, 1]) := fun W =>
    Row.new W 5 1 #[.int .u8 0, .int .u8 1] 2 2 (by omega) (by simp [maxLen]) rfl
  have o1 : ∀ u ∈ bcs [0, 1], u.oneCell' = true := bcs_one _
  have hu : (txB (bl x)).length = E.size + 2 := by rw [hEs]; simp [txB]
  have hb : bcs (l ++ txB (bl x)) = bcs l ++ E.data.toList.map (fun b => Value.int .u8 (b.toNat : Int)) ++ bcs [0, 1] := by rw [hEl]; simp [txB, bcs]
  have HU := Lib.hid hu; clear hu
  have HB := Lib.hid hb; clear hb
  have hE2 : E.size ≤ 200 := by omega
  clear hEs hEl hel
  generalize bcs [0, 1] = zs at *
  go_wp2_with (first
    | ((with_reducible refine wpList_append_str T104 9 Tryz.underlying9 rfl (.tmp 73) (.tmp 76) rfl rfl rfl hro (by omega) ?_); rintro g9 A9 c9 w9 hr9 hx9 hg9 hA9 _; have hr9a := fun o => hr9.ext ((Ext.refl [] w9).alloc o) (by simp))
    | ((with_reducible refine wpList_append T104 rfl (.tmp 77) (.tmp 78) rfl rfl rfl (hr9a _) (hn1 _).vw o1 (by omega) (by omega) ?_); rintro g10 A10 c10 w10 hr10 hx10 hg10 hA10 _ _; obtain rfl := hA10 (by omega)))
  have s1 := hx1.size
  have s9 := hx9.size
  simp only [World.size_alloc] at s1 hg10
  have hxa : Ext [g] w w9 := (hx01.mono (by simp)).trans hx9
  go_ret
  refine ⟨g10, _, rfl, ?_, by omega, (hxa.alloc _).step hx10 (by simp; omega)⟩
  rw [HU.out, HB.out, ← Nat.add_assoc]; exact hr10
/-- the bytes of a cell behind others -/
theorem rput_any (c : Cl) (g : Nat) (v : Value) (n : Nat) (l : List UInt8) (w : World) (hr : Row w g 5 1 v n (bcs l)) (hn : n ≤ 10000) (hg : g ≤ w.heap.size) (hc : OkCl c) (hM : MxL w) :
    Calls Tryz.prog 164 #[v, .agg (clC c).toArray] w fun e w' => ∃ g' v', e = .returned v' ∧ Row w' g' 5 1 v' (n + (clB c).length) (bcs (l ++ clB c)) ∧ (g' = g ∨ w.heap.size ≤ g') ∧ Ext [g] w w' := by
  rcases hc with ⟨x, rfl, hx⟩ | ⟨x, rfl, hx⟩
  · exact put_u x g v n l w hr hn hg hx
  · exact put_t x g v n l w hr hn hg hx hM
end Go.Proofs.YtfadbmfkidiaoaaGreatDoor
