/- TopNumbers: the row and the tied card. -/
import Derived.Test.YtfadbmfkidiaoaaGreatDoorTie
import Derived.Test.YtfadbmfkidiaoaaGreatDoorCards
import Derived.Test.YtfadbmfkidiaoaaGreatDoorN0
import Derived.ProofKit
import Derived.OpenShut
import Derived.LaidMore
import Derived.Lay
import Derived.Lib.LaidTab
import Derived.Lib.LaidU8
import Derived.Deep.Slices
import Derived.Deep.Strs
import Derived.SevenTiedAt
import Derived.Stop.Joined
namespace Go.Proofs.YtfadbmfkidiaoaaGreatDoor
open Go.ChangeShapes Go.WideShapes Go.ChangeAt Go.RowKit

theorem ownK : ownKnob Tryz.prog.godebug = none := by kernel_rfl
theorem laidOutP : laidOutB Tryz.prog = true := by kernel_rfl
abbrev laidN : List (String × DataW Unit) := Rows.topNumbersRow.laid

/-- what the row's condition gives the walks -/
theorem of_laidN {W : World} (h : laidMetH Tryz.prog laidN W) : Tab W ∧ 8 ≤ W.heap.size := by
  rw [MakeChecks.laidMetH_plain _ _ _ (by kernel_rfl)] at h
  have h1 : Lib.VarReads Tryz.prog W "math/bits.deBruijn64tab" Rows.laid_math_bits_deBruijn64tab := Lib.laidMet.reads h (.tail _ (.head _))
  have h2 : Lib.VarReads Tryz.prog W "internal/strconv.uint64pow10" Rows.laid_internal_strconv_uint64pow10 := Lib.laidMet.reads h (.tail _ (.tail _ (.head _)))
  constructor
  · obtain ⟨g, t, cs, fuel, p, hg, ht, hv, hd⟩ := h2
    obtain rfl := Option.some.inj ((show Tryz.prog.globalNamed "internal/strconv.uint64pow10" = some 3 by kernel_rfl).symm.trans hg)
    obtain rfl := Option.some.inj ((show (Tryz.prog.globals[3]?).map (·.type) = some 278 by kernel_rfl).symm.trans ht)
    unfold Tab Lib.TabIs
    rw [hv]
    have e : Rows.laid_internal_strconv_uint64pow10 = (Lib.tabData .u64 Lib.pow10Tab : DataW Unit) := by rfl
    rw [e] at hd
    have := Lib.cells_of_tab (n := 20) (k := .u64) Tryz.underlying278 Tryz.underlying91 (by kernel_rfl) (by kernel_rfl) hd
    rw [← this]
  · obtain ⟨g, t, cs, fuel, p, hg, ht, hv, hd⟩ := h1
    obtain rfl := Option.some.inj ((show Tryz.prog.globalNamed "math/bits.deBruijn64tab" = some 7 by kernel_rfl).symm.trans hg)
    unfold World.var? at hv
    rw [hg] at hv
    simp only [Option.bind_some] at hv
    rcases Nat.lt_or_ge 7 W.heap.size with h3 | h3
    · omega
    · rw [Array.getElem?_eq_none h3] at hv; cases hv

theorem add0 (a : Addr) : a.add 0 = a := by
  obtain ⟨b, o, s⟩ := a
  cases s <;> simp [Addr.add]
/-- a slice of wants that came in -/
theorem open_wants {H : Type} {enc : TypeId × Value → H} {W : World} {a0 : Option Addr} {len cap : Nat} {d : DataW H} {p : List MemPlace} (h : DataW.Trod enc Tryz.prog W 0 (fun _ => true) true 22 (.slice a0 len cap) d p) :
    ∃ g l, Wv W g (.slice a0 len cap) len l ∧ (∀ x ∈ l, x.2.2 < 256) ∧ (0 < len → g < W.heap.size) := by
  obtain ⟨fuel, hf⟩ := h
  rcases Go.Deep.open_slice Tryz.underlying22 hf with ⟨hcs, hx⟩ | ⟨a, len', cap', m, n, D, Pl, hcs, hb, hl, hm, hmm, hx, hel⟩
  · simp [Value.cells] at hcs
    obtain ⟨rfl, rfl, rfl⟩ := hcs
    exact ⟨0, [], ⟨⟨none, 0, rfl, by omega⟩, by omega, rfl, by omega⟩, by simp, by omega⟩
  · simp [Value.cells] at hcs
    obtain ⟨rfl, rfl, rfl⟩ := hcs
    have c24 : Tryz.prog.cellsOf 24 = 3 := by kernel_rfl
    have c4 : Tryz.prog.cellsOf 4 = 1 := by kernel_rfl
    have c5 : Tryz.prog.cellsOf 5 = 1 := by kernel_rfl
    rw [c24] at hel
    simp only [if_true] at hmm
    have hw : ∀ i, i < len → ∃ y : Wnt, W.cell? (a.add (i * 3)) = some (.bool y.1) ∧ W.cell? ((a.add (i * 3)).add 1) = some (.bool y.2.1) ∧ W.cell? ((a.add (i * 3)).add 2) = some (.int .u8 (y.2.2 : Nat)) ∧ y.2.2 < 256 := by
      intro i hi
      obtain ⟨cs', hc, ht⟩ := hel i (by omega)
      obtain ⟨y0, y1, y2, n', _, hl3, q0, q1, q2⟩ := Go.Deep.trod_struct3 Tryz.underlying24 ht
      obtain ⟨_, _, hcell⟩ := World.cells?_some hc
      simp only [c4, c5] at q0 q1 q2
      obtain ⟨b0, e0, _⟩ := DataW.trod_bool Tryz.underlying4 q0
      obtain ⟨b1, e1, _⟩ := DataW.trod_bool Tryz.underlying4 q1
      obtain ⟨z, e2, _, hz⟩ := DataW.trod_int Tryz.underlying5 q2
      rw [c24] at hl3
      match cs', hl3, hcell, e0, e1, e2 with
      | [x0, x1, x2], _, hcell, e0, e1, e2 =>
        simp only [List.drop_zero, List.drop_succ_cons, List.take_succ_cons, List.take_zero, List.cons.injEq, and_true] at e0 e1 e2
        subst e0; subst e1; subst e2
        have hz2 : 0 ≤ z ∧ z ≤ 255 := by
          have : IntKind.u8.min ≤ z ∧ z ≤ IntKind.u8.max := by simpa [Lit.wf] using hz
          exact this
        obtain ⟨k, rfl⟩ : ∃ k : Nat, z = k := ⟨z.toNat, by omega⟩
        refine ⟨(b0, b1, k), ?_, ?_, ?_, (by omega : k < 256)⟩
        · have := hcell 0 (by omega); rw [add0] at this; exact this
        · exact hcell 1 (by omega)
        · exact hcell 2 (by omega)
    obtain ⟨F, hF⟩ : ∃ F : Nat → Wnt, ∀ i, i < len → W.cell? (a.add (i * 3)) = some (.bool (F i).1) ∧ W.cell? ((a.add (i * 3)).add 1) = some (.bool (F i).2.1) ∧ W.cell? ((a.add (i * 3)).add 2) = some (.int .u8 ((F i).2.2 : Nat)) ∧ (F i).2.2 < 256 := by
      refine ⟨fun i => if hi : i < len then Classical.choose (hw i hi) else (false, false, 0), fun i hi => ?_⟩
      simp only [hi, dif_pos]
      exact Classical.choose_spec (hw i hi)
    have hat : ∀ i, i < len → wAt ((List.range len).map F) i = F i := by
      intro i hi; unfold wAt; rw [List.getD_eq_getElem?_getD, List.getElem?_map, List.getElem?_range hi]; rfl
    obtain ⟨g, o, spot⟩ := a
    have hspot : 0 < len → spot = none := fun h0 => by
      have := (hF 0 h0).1
      simpa [Addr.add] using World.cell?_spot this
    refine ⟨g, (List.range len).map F, ⟨⟨some ⟨g, o, spot⟩, cap, rfl, hl⟩, by unfold maxLen at hm; omega, by simp, fun i hi => ?_⟩, ?_, fun h0 => ?_⟩
    · obtain rfl := hspot (by omega)
      have := hF i hi
      rw [hat i hi]
      simp only [add_plain] at this
      refine ⟨o, cap, rfl, ?_, ?_, ?_⟩
      · exact this.1
      · exact this.2.1
      · exact this.2.2.1
    · intro x hx
      simp only [List.mem_map, List.mem_range] at hx
      obtain ⟨i, hi, rfl⟩ := hx
      exact (hF i hi).2.2.2
    · obtain rfl := hspot h0
      have := (hF 0 h0).1
      exact World.block_lt_of_cell? _ _ this

set_option maxRecDepth 100000 in
theorem lifted (walk : ∀ (gw : Nat) (v : Value) (n : Nat) (l : List Wnt) (size piece : Int) (w : World), Wv w gw v n l → (∀ x ∈ l, x.2.2 < 256) → Tab w → 8 ≤ w.heap.size → gw < w.heap.size →
    Calls Tryz.prog 3 #[v, .int .i64 size, .int .i64 piece] w fun e w' => e = .returned (.bool true) ∧ Ext [] w w') (os : Os) (started : os.Started) (H : Type) (enc : TypeId × Value → H) :
    ReturnsInHanded {} Tryz.checked os 3 .any (fun w args => (Rows.topNumbersSpec.pre enc Tryz.prog Tryz.f3 [] false w args ∧ laidMetH Tryz.prog laidN w) ∧ sizedMet enc Tryz.prog Tryz.f3 (OpenSpec.ofChange Rows.topNumbersSpec) false w args)
      (Rows.topNumbersSpec.post enc Tryz.prog Tryz.f3 false true false false) := by
  refine returnsInHanded_of_change_and (C := Tryz.checked) (X := fun w _ => laidMetH Tryz.prog laidN w) (fun _ _ _ hh h => h.of_heap hh) ownK started (by kernel_rfl) Tryz.func3
    (ChangeSpec.witness_shaped (enc := enc) (C := Tryz.checked) (os := os) (X := fun w _ => laidMetH Tryz.prog laidN w) false (World.laidAll Tryz.prog os laidN) #[.slice none 0 0, .int .i64 0, .int .i64 0] 8 (World.laidAll_os _ _ _)
      (World.shaped_of_ZipB (by kernel_rfl) (by kernel_rfl)) (by kernel_rfl) (by kernel_rfl) (by kernel_rfl)
      (by rw [MakeChecks.laidMetH_plain _ _ _ (by kernel_rfl)]; exact laidMet_laidAll _ (by kernel_rfl) (by kernel_rfl))) ?_
  intro W base args ds gs before hval0 hW hc _ hL _
  have hval : ∀ (j : Nat) t v, Tryz.f3.params[j]? = some t → args[j]? = some v → Value.okWide Tryz.prog W .any base t v := hval0
  have hW' := hW
  obtain ⟨p, q, hA0, hV, rfl, hh1, hh2⟩ := hW
  have hA : DataW.TrodAll enc Tryz.prog W 0 (fun _ => true) true Tryz.f3.params.toList args.toList ds p := hA0
  rw [Tryz.params3] at hA hval
  obtain ⟨v0, v1, v2, d0, d1, d2, p0, p1, p2, rfl, rfl, rfl, h0, h1, h2⟩ := trodAll_three hA
  obtain ⟨a0, len, cap, rfl⟩ := okWide_slice Tryz.underlying22 (hval 0 22 v0 rfl rfl)
  obtain ⟨size, rfl, rfl, rfl, wa⟩ := open_int Tryz.underlying3 (hval 1 3 v1 rfl rfl) h1
  obtain ⟨piece, rfl, rfl, rfl, wb⟩ := open_int Tryz.underlying3 (hval 2 3 v2 rfl rfl) h2
  have h0k := h0
  obtain ⟨hT, h8⟩ := of_laidN hL
  obtain ⟨g, l, hwv, hl8, hg⟩ := open_wants h0
  clear hA0 hval0
  simp only [List.append_nil] at hW'
  obtain ⟨rfl, rfl⟩ := trodVars_none hV
  have hlt : ∀ x ∈ p0, x.block < W.heap.size := fun x hx => hW'.lt x (by simp [hx])
  have hgw : ∃ g', Wv W g' (.slice a0 len cap) len l ∧ g' < W.heap.size := by
    by_cases h : 0 < len
    · exact ⟨g, hwv, hg h⟩
    · exact ⟨0, ⟨hwv.form, hwv.le, hwv.len, fun i hi => by omega⟩, by omega⟩
  obtain ⟨g', hwv', hg'⟩ := hgw
  refine (walk g' _ len l size piece W hwv' hl8 hT h8 hg').mono fun e W' ⟨he, hx⟩ => ?_
  subst he
  have hb := hx.below
  refine ⟨_, rfl, _, _, _, [], p0 ++ ([] ++ []), [], hW', ?_, ?_, rfl, hb.frame _, fun h => by cases h⟩
  · exact trodAll_mk1 (shut_bool Tryz.underlying4 _)
  · exact trodAll_mk3 (Below.trod laidOutP (by kernel_rfl) (of_decide_eq_true (by kernel_rfl)) h0k hb hlt) (shut_int Tryz.underlying3 wa) (shut_int Tryz.underlying3 wb)
end Go.Proofs.YtfadbmfkidiaoaaGreatDoor
