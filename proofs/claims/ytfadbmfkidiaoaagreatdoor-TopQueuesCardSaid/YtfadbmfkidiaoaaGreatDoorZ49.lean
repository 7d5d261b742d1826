/- TopQueues is proved: whatever the input, the law returns true and the input reads as it did; the row's listed variables are tied to the program's text. -/
import Derived.Test.YtfadbmfkidiaoaaGreatDoorZ48
import Derived.Test.YtfadbmfkidiaoaaGreatDoorTie
import Derived.Test.YtfadbmfkidiaoaaGreatDoorCards
import Derived.ProofKit
import Derived.OpenShut
import Derived.LaidMore
import Derived.Lay
import Derived.Lib.LaidTab
import Derived.Lib.LaidU8
import Derived.Deep.Slices
import Derived.Deep.Strs
import Derived.SevenTiedAt
import Derived.Stop.Joined
import Derived.Shelf.Vars
namespace Go.Proofs.YtfadbmfkidiaoaaGreatDoor
open Go.RowKit Go
set_option linter.unusedSimpArgs false
set_option linter.unusedVariables false
set_option linter.unusedSectionVars false
set_option linter.unnecessarySimpa false

/-- the example of the law -/
def exD : List Dd := [⟨0, 0, 0, 3, ⟨#[97]⟩⟩, ⟨0, 0, 0, 7, ⟨#[98]⟩⟩, ⟨1, 0, 0, 4, ⟨#[]⟩⟩, ⟨4, 0, 0, 9, ⟨#[]⟩⟩, ⟨1, 1, 0, 2, ⟨#[]⟩⟩]
def exA : Array Value := #[.int .u8 0, .int .u8 0, .int .u8 0, .int .u8 3, .string ⟨#[97]⟩, .int .u8 0, .int .u8 0, .int .u8 0, .int .u8 7, .string ⟨#[98]⟩, .int .u8 1, .int .u8 0, .int .u8 0, .int .u8 4, .string ⟨#[]⟩, .int .u8 4, .int .u8 0, .int .u8 0, .int .u8 9, .string ⟨#[]⟩, .int .u8 1, .int .u8 1, .int .u8 0, .int .u8 2, .string ⟨#[]⟩]
theorem exD_ok : ∀ x ∈ exD, OkD x := by
  intro x hx
  simp only [exD, List.mem_cons, List.not_mem_nil, or_false] at hx
  rcases hx with rfl | rfl | rfl | rfl | rfl <;> exact ⟨by decide, by decide, by decide, by decide⟩
theorem exD_body : ∀ x ∈ exD, x.body.size ≤ 30 := by
  intro x hx
  simp only [exD, List.mem_cons, List.not_mem_nil, or_false] at hx
  rcases hx with rfl | rfl | rfl | rfl | rfl <;> decide
theorem exD_lo : 2 ≤ loL exD := by decide
theorem exD_vw (w : World) : Dv (w.alloc (.cells exA 28)) w.heap.size (.slice (some ⟨w.heap.size, 0, none⟩) 5 5) 5 exD := by
  have h := (Row.new w 28 5 exA 5 5 (by omega) (by simp [maxLen]) rfl).vw
  have e : exA.toList.take (5 * 5) = dsC exD := rfl
  rw [e] at h
  exact Vw.dv (l := exD) h exD_ok
theorem queued_ex (w W : World) (hx : Ext [] (w.alloc (.cells exA 28)) W) (hM : MxL w) (h8 : 8 ≤ w.heap.size) :
    Calls Tryz.prog 6 #[.slice (some ⟨w.heap.size, 0, none⟩) 5 5, .int .i64 5, .int .i64 2] W fun e w' => e = .returned (.bool true) ∧ Ext [] W w' := by
  have hx0 : Ext [] w (w.alloc (.cells exA 28)) := (Ext.refl [] w).alloc _
  have h := hx0.trans hx
  have hz : (w.alloc (.cells exA 28)).heap.size = w.heap.size + 1 := by simp
  have := hx.size
  exact queued_any w.heap.size _ 5 exD 5 2 W ((exD_vw w).ext hx (by simp)) (by omega) exD_body (by omega) (by omega) exD_lo (hM.ext h (by simp)) (by omega) (by omega)
def ToRel (W0 : World) (l : List Dd) (iv : Value) (wl : World) : Prop := ∃ i : Nat, iv = .int .i64 i ∧ i ≤ l.length ∧ (∀ x ∈ l.take i, x.body.size ≤ 30) ∧ wl = W0
set_option maxRecDepth 100000 in
set_option maxHeartbeats 4000000 in
theorem topQueues_any (gw : Nat) (v : Value) (n : Nat) (l : List Dd) (size : Int) (w : World) (hv : Dv w gw v n l) (hM : MxL w) (h8 : 8 ≤ w.heap.size) (hgw : gw < w.heap.size) :
    Calls Tryz.prog 4 #[v, .int .i64 size] w fun e w' => e = .returned (.bool true) ∧ Ext [] w w' := by
  have hx0 : Ext [] w (w.alloc (.cells exA 28)) := (Ext.refl [] w).alloc _
  have hex := fun W hx => queued_ex w W hx hM h8
  have hlen := hv.le
  have HL := Lib.hid hv.len
  obtain ⟨A, c, rfl, hnc⟩ := hv.form
  obtain ⟨W0, hW0⟩ : ∃ W0, W0 = w.alloc (.cells exA 28) := ⟨_, rfl⟩
  rw [← hW0] at hx0 hex
  unfold exA at hW0
  have hz0 := hx0.size
  by_cases hf : n ≤ 20 ∧ 1 ≤ size ∧ size ≤ 64
  · obtain ⟨f1, f2, f3⟩ := hf
    obtain ⟨s, rfl⟩ : ∃ s : Nat, size = s := ⟨size.toNat, by omega⟩
    go_enter Tryz.func4, Tryz.ntmps4
    go_wp2_with fail
    rw [← hW0]
    clear hW0
    go_loopw [6] (ToRel W0 l) (fun iv _ => n - (intOf iv).toNat)
    case atStart => exact ⟨0, rfl, Nat.zero_le _, by simp, rfl⟩
    case round =>
      obtain ⟨i, rfl, hi, hall, rfl⟩ := hrel
      have hin : i ≤ n := by have := HL.out; omega
      by_cases hlt : i < n
      · have hil : i < l.length := by have := HL.out; omega
        obtain ⟨o, cc, hv0, d0, d1, d2, d3, d4⟩ := (hv.ext hx0 (by simp)).at_ i hil
        obtain ⟨rfl, rfl⟩ : A = some ⟨gw, o, none⟩ ∧ c = cc := by
          injection hv0 with e1 e2 e3
          exact ⟨e1, e3⟩
        clear hv0 d0 d1 d2 d3
        have htk := Lib.hid (take_next l i hil)
        have h2 := hex _ (Ext.refl [] _)
        generalize l[i]'hil = X at *
        obtain ⟨kd, wo, id', nn, body⟩ := X
        simp only at d4
        by_cases hbody : body.size ≤ 30
        · clear hv h2 hex
          go_wp2_with fail
          refine ⟨?rel, ?measure⟩
          case rel =>
            refine ⟨i + 1, by go_num, by omega, ?_, rfl⟩
            rw [htk.out]
            intro x hx
            rcases List.mem_append.1 hx with hx | hx
            · exact hall x hx
            · rw [List.mem_singleton.1 hx]; exact hbody
          case measure => simp [intOf]; omega
        · clear hv hex
          go_wp2_with fail
          refine h2.mono ?_
          rintro e w2 ⟨rfl, hx2⟩
          go_wp2_with fail
          go_ret
          exact ⟨rfl, hx0.trans hx2⟩
      · obtain rfl : i = n := by omega
        have e : l.take i = l := List.take_of_length_le (by have := HL.out; omega)
        rw [e] at hall
        have hnum := queued_any gw _ i l s 0 wr (hv.ext hx0 (by simp)) f1 hall (by omega) (by omega) (Nat.zero_le _) (hM.ext hx0 (by simp)) (by omega) (by omega)
        clear hv
        go_wp2_with fail
        refine hnum.mono ?_
        rintro e w1 ⟨rfl, hx1⟩
        have h2 := hex _ hx1
        clear hnum hex
        go_wp2_with fail
        refine h2.mono ?_
        rintro e w2 ⟨rfl, hx2⟩
        go_wp2_with fail
        go_ret
        exact ⟨rfl, (hx0.trans hx1).trans hx2⟩
  · have h2 := hex _ (Ext.refl [] _)
    clear hv hex
    go_enter Tryz.func4, Tryz.ntmps4
    go_wp2_with fail
    all_goals first
      | (rw [← hW0]
         refine h2.mono ?_
         rintro e w2 ⟨rfl, hx2⟩
         go_wp2_with fail
         go_ret
         exact ⟨rfl, hx0.trans hx2⟩)
      | (exfalso; omega)
end Go.Proofs.YtfadbmfkidiaoaaGreatDoor

namespace Go.Proofs.YtfadbmfkidiaoaaGreatDoor
open Go.ChangeShapes Go.WideShapes Go.ChangeAt Go.RowKit
set_option linter.unusedSimpArgs false
set_option linter.unusedVariables false
set_option linter.unusedSectionVars false
set_option linter.unnecessarySimpa false

theorem ownK : ownKnob Tryz.prog.godebug = none := by kernel_rfl
theorem laidOutP : laidOutB Tryz.prog = true := by kernel_rfl
abbrev laidQ : List (String × DataW Unit) := Rows.topQueuesRow.laid

/-- a return of a call, the listed variables and the world's shape at hand -/
theorem returns_shaped {H : Type} {enc : TypeId × Value → H} {a : Assume} {C : Checked} {os : Os} {f : FuncId} {fn : Func} {s : ChangeSpec} {conds : List PathCond} {apart fresh handsOn again : Bool} {laid : List (String × DataW Unit)}
    (own : ownKnob C.prog.godebug = none) (started : os.Started) (noInit : C.prog.inits.idxOf? f = none) (hfn : C.prog.funcs[f]? = some fn)
    (witness : ∃ (w : World) (tape : Tape) (i : Input), w.os = os ∧ (w.forCall tape i).Shaped C.prog ∧ i.vars = [] ∧ Input.okWide C.prog (w.forCall tape i) .any w.heap.size f i ∧
      ((s.pre enc C.prog fn conds apart (w.forCall tape i).memory i.args ∧ laidMetH C.prog laid (w.forCall tape i).memory) ∧ sizedMet enc C.prog fn (OpenSpec.ofChange s) apart (w.forCall tape i).memory i.args) ∧ a.holds C.prog (lone (Frame.enter C.prog f i.args .normal) [] (w.forCall tape i)))
    (contract : ∀ (W : World) (base : Nat) (args : Array Value) (ds gs : List (DataW H)) (before : List MemPlace),
      (∀ (j : Nat) t v, fn.params[j]? = some t → args[j]? = some v → Value.okWide C.prog W .any base t v) →
      DataW.Whole enc C.prog fn.params.toList s.vars apart W args.toList ds gs before → laidMetH C.prog laid W → W.ShapedOpen C.prog →
      Calls C.prog f args W fun e W' => ∃ v, e = .returned v ∧ s.post enc C.prog fn apart fresh handsOn again W args v W') :
    ReturnsInHanded a C os f .any (fun w args => (s.pre enc C.prog fn conds apart w args ∧ laidMetH C.prog laid w) ∧ sizedMet enc C.prog fn (OpenSpec.ofChange s) apart w args) (s.post enc C.prog fn apart fresh handsOn again) :=
  returnsInHanded_of_calls own started noInit witness fun w tape i _ hsh _ hok hpre _ => by
    obtain ⟨_, _, _, g, hg, _, _, _, _, hval⟩ := hok
    cases Option.some.inj (hg.symm.trans hfn)
    obtain ⟨⟨⟨ds, gs, before, hw, _⟩, hl⟩, _⟩ := hpre
    refine (contract (w.forCall tape i) w.heap.size i.args ds gs before hval (hw.of_heap (by rfl)) (hl.of_heap (by rfl)) hsh).mono fun e W' ⟨v, he, hp⟩ => ?_
    subst he
    exact ChangeSpec.post_blind hp

theorem mxL_of {W : World} (h : W.ShapedOpen Tryz.prog) : MxL W :=
  cell_of_shapedOpen_int (zero := #[.int .i64 0]) (t := 3) h (of_decide_eq_true (by kernel_rfl)) (by kernel_rfl) rfl (by kernel_rfl) (by kernel_rfl) Tryz.underlying3

/-- what the row's condition gives the walks -/
theorem of_laidQ {W : World} (h : laidMetH Tryz.prog laidQ W) : 8 ≤ W.heap.size := by
  rw [MakeChecks.laidMetH_plain _ _ _ (by kernel_rfl)] at h
  have h1 : Lib.VarReads Tryz.prog W "math/bits.deBruijn64tab" Rows.laid_math_bits_deBruijn64tab := Lib.laidMet.reads h (.tail _ (.head _))
  obtain ⟨g, t, cs, fuel, p, hg, ht, hv, hd⟩ := h1
  obtain rfl := Option.some.inj ((show Tryz.prog.globalNamed "math/bits.deBruijn64tab" = some 7 by kernel_rfl).symm.trans hg)
  unfold World.var? at hv
  rw [hg] at hv
  simp only [Option.bind_some] at hv
  rcases Nat.lt_or_ge 7 W.heap.size with h3 | h3
  · omega
  · rw [Array.getElem?_eq_none h3] at hv; cases hv

theorem add0 (a : Addr) : a.add 0 = a := by
  obtain ⟨b, o, s⟩ := a
  cases s <;> simp [Addr.add]
theorem trod_five {H : Type} {enc : TypeId × Value → H} {P : Program} {w : World} {base : Nat} {spare : Nat → Bool} {held : Bool} {t : TypeId} {f0 f1 f2 f3 f4 : Field} {fuel : Nat} {cs : List Value} {x : DataW H × List MemPlace} (ht : P.underlying t = some (.struct #[f0, f1, f2, f3, f4])) (h : DataW.trod enc P w base spare held fuel t cs = some x) :
    ∃ y0 y1 y2 y3 y4 n, cs.length = P.cellsOf t ∧ DataW.trod enc P w base spare held n f0.type ((cs.drop f0.offset).take (P.cellsOf f0.type)) = some y0 ∧
      DataW.trod enc P w base spare held n f1.type ((cs.drop f1.offset).take (P.cellsOf f1.type)) = some y1 ∧ DataW.trod enc P w base spare held n f2.type ((cs.drop f2.offset).take (P.cellsOf f2.type)) = some y2 ∧
      DataW.trod enc P w base spare held n f3.type ((cs.drop f3.offset).take (P.cellsOf f3.type)) = some y3 ∧ DataW.trod enc P w base spare held n f4.type ((cs.drop f4.offset).take (P.cellsOf f4.type)) = some y4 := by
  obtain ⟨xs, n, _, rfl, hl, hlen, hf⟩ := DataW.trod_struct ht h
  match xs, hlen with
  | [y0, y1, y2, y3, y4], _ => exact ⟨y0, y1, y2, y3, y4, n, hl, by simpa using hf 0 f0 rfl, by simpa using hf 1 f1 rfl, by simpa using hf 2 f2 rfl, by simpa using hf 3 f3 rfl, by simpa using hf 4 f4 rfl⟩
theorem u8_in {z : Int} (hz : (Lit.int IntKind.u8 z).wf = true) : ∃ k : Nat, z = k ∧ k < 256 := by
  have : IntKind.u8.min ≤ z ∧ z ≤ IntKind.u8.max := by simpa [Lit.wf] using hz
  have h2 : 0 ≤ z ∧ z ≤ 255 := this
  exact ⟨z.toNat, by omega, by omega⟩
set_option maxRecDepth 100000 in
/-- a slice of deeds that came in -/
theorem open_deeds {H : Type} {enc : TypeId × Value → H} {W : World} {a0 : Option Addr} {len cap : Nat} {d : DataW H} {p : List MemPlace} (h : DataW.Trod enc Tryz.prog W 0 (fun _ => true) true 26 (.slice a0 len cap) d p) :
    ∃ g l, Dv W g (.slice a0 len cap) len l ∧ (0 < len → g < W.heap.size) := by
  obtain ⟨fuel, hf⟩ := h
  rcases Go.Deep.open_slice Tryz.underlying26 hf with ⟨hcs, hx⟩ | ⟨a, len', cap', m, n, D, Pl, hcs, hb, hl, hm, hmm, hx, hel⟩
  · simp [Value.cells] at hcs
    obtain ⟨rfl, rfl, rfl⟩ := hcs
    exact ⟨0, [], ⟨⟨none, 0, rfl, by omega⟩, by omega, rfl, fun i hi => by simp at hi, by simp⟩, by omega⟩
  · simp [Value.cells] at hcs
    obtain ⟨rfl, rfl, rfl⟩ := hcs
    have c28 : Tryz.prog.cellsOf 28 = 5 := by kernel_rfl
    have c5 : Tryz.prog.cellsOf 5 = 1 := by kernel_rfl
    have c6 : Tryz.prog.cellsOf 9 = 1 := by kernel_rfl
    rw [c28] at hel
    simp only [if_true] at hmm
    have hw : ∀ i, i < len → ∃ y : Dd, OkD y ∧ W.cell? (a.add (i * 5)) = some (.int .u8 (y.kind : Nat)) ∧ W.cell? ((a.add (i * 5)).add 1) = some (.int .u8 (y.who : Nat)) ∧ W.cell? ((a.add (i * 5)).add 2) = some (.int .u8 (y.id : Nat)) ∧
        W.cell? ((a.add (i * 5)).add 3) = some (.int .u8 (y.nn : Nat)) ∧ W.cell? ((a.add (i * 5)).add 4) = some (.string y.body) := by
      intro i hi
      obtain ⟨cs', hc, ht⟩ := hel i (by omega)
      obtain ⟨y0, y1, y2, y3, y4, n', hl3, q0, q1, q2, q3, q4⟩ := trod_five Tryz.underlying28 ht
      obtain ⟨_, _, hcell⟩ := World.cells?_some hc
      simp only [c6, c5] at q0 q1 q2 q3 q4
      obtain ⟨z0, e0, _, hz0⟩ := DataW.trod_int Tryz.underlying5 q0
      obtain ⟨z1, e1, _, hz1⟩ := DataW.trod_int Tryz.underlying5 q1
      obtain ⟨z2, e2, _, hz2⟩ := DataW.trod_int Tryz.underlying5 q2
      obtain ⟨z3, e3, _, hz3⟩ := DataW.trod_int Tryz.underlying5 q3
      obtain ⟨s4, e4, _, _⟩ := DataW.trod_string Tryz.underlying9 q4
      rw [c28] at hl3
      match cs', hl3, hcell, e0, e1, e2, e3, e4 with
      | [x0, x1, x2, x3, x4], _, hcell, e0, e1, e2, e3, e4 =>
        simp only [List.drop_zero, List.drop_succ_cons, List.take_succ_cons, List.take_zero, List.cons.injEq, and_true] at e0 e1 e2 e3 e4
        subst e0; subst e1; subst e2; subst e3; subst e4
        obtain ⟨k0, rfl, m0⟩ := u8_in hz0
        obtain ⟨k1, rfl, m1⟩ := u8_in hz1
        obtain ⟨k2, rfl, m2⟩ := u8_in hz2
        obtain ⟨k3, rfl, m3⟩ := u8_in hz3
        refine ⟨⟨k0, k1, k2, k3, s4⟩, ⟨m0, m1, m2, m3⟩, ?_, ?_, ?_, ?_, ?_⟩
        · have := hcell 0 (by omega); rw [add0] at this; exact this
        · exact hcell 1 (by omega)
        · exact hcell 2 (by omega)
        · exact hcell 3 (by omega)
        · exact hcell 4 (by omega)
    obtain ⟨F, hF⟩ : ∃ F : Nat → Dd, ∀ i, i < len → OkD (F i) ∧ W.cell? (a.add (i * 5)) = some (.int .u8 ((F i).kind : Nat)) ∧ W.cell? ((a.add (i * 5)).add 1) = some (.int .u8 ((F i).who : Nat)) ∧ W.cell? ((a.add (i * 5)).add 2) = some (.int .u8 ((F i).id : Nat)) ∧
        W.cell? ((a.add (i * 5)).add 3) = some (.int .u8 ((F i).nn : Nat)) ∧ W.cell? ((a.add (i * 5)).add 4) = some (.string (F i).body) := by
      refine ⟨fun i => if hi : i < len then Classical.choose (hw i hi) else ⟨0, 0, 0, 0, ⟨#[]⟩⟩, fun i hi => ?_⟩
      simp only [hi, dif_pos]
      exact Classical.choose_spec (hw i hi)
    obtain ⟨g, o, spot⟩ := a
    have hspot : 0 < len → spot = none := fun h0 => by
      have := (hF 0 h0).2.1
      simpa [Addr.add] using World.cell?_spot this
    refine ⟨g, (List.range len).map F, ⟨⟨some ⟨g, o, spot⟩, cap, rfl, hl⟩, by unfold maxLen at hm; omega, by simp, fun i hi => ?_, ?_⟩, fun h0 => ?_⟩
    · simp only [List.length_map, List.length_range] at hi
      obtain rfl := hspot (by omega)
      have := (hF i hi).2
      simp only [add_plain] at this
      simp only [List.getElem_map, List.getElem_range]
      exact ⟨o, cap, rfl, this⟩
    · intro x hx
      simp only [List.mem_map, List.mem_range] at hx
      obtain ⟨i, hi, rfl⟩ := hx
      exact (hF i hi).1
    · obtain rfl := hspot h0
      have := (hF 0 h0).2.1
      exact World.block_lt_of_cell? _ _ this

set_option maxRecDepth 100000 in
theorem lifted (walk : ∀ (gw : Nat) (v : Value) (n : Nat) (l : List Dd) (size : Int) (w : World), Dv w gw v n l → MxL w → 8 ≤ w.heap.size → gw < w.heap.size →
    Calls Tryz.prog 4 #[v, .int .i64 size] w fun e w' => e = .returned (.bool true) ∧ Ext [] w w') (os : Os) (started : os.Started) (H : Type) (enc : TypeId × Value → H) :
    ReturnsInHanded {} Tryz.checked os 4 .any (fun w args => (Rows.topQueuesSpec.pre enc Tryz.prog Tryz.f4 [] false w args ∧ laidMetH Tryz.prog laidQ w) ∧ sizedMet enc Tryz.prog Tryz.f4 (OpenSpec.ofChange Rows.topQueuesSpec) false w args)
      (Rows.topQueuesSpec.post enc Tryz.prog Tryz.f4 false true false false) := by
  refine returns_shaped (C := Tryz.checked) ownK started (by kernel_rfl) Tryz.func4
    (ChangeSpec.witness_shaped (enc := enc) (C := Tryz.checked) (os := os) (X := fun w _ => laidMetH Tryz.prog laidQ w) false (World.laidAll Tryz.prog os laidQ) #[.slice none 0 0, .int .i64 0] 8 (World.laidAll_os _ _ _)
      (World.shaped_of_ZipB (by kernel_rfl) (by kernel_rfl)) (by kernel_rfl) (by kernel_rfl) (by kernel_rfl)
      (by rw [MakeChecks.laidMetH_plain _ _ _ (by kernel_rfl)]; exact laidMet_laidAll _ (by kernel_rfl) (by kernel_rfl))) ?_
  intro W base args ds gs before hval0 hW hL hsh
  have hval : ∀ (j : Nat) t v, Tryz.f4.params[j]? = some t → args[j]? = some v → Value.okWide Tryz.prog W .any base t v := hval0
  have hW' := hW
  obtain ⟨p, q, hA0, hV, rfl, hh1, hh2⟩ := hW
  have hA : DataW.TrodAll enc Tryz.prog W 0 (fun _ => true) true Tryz.f4.params.toList args.toList ds p := hA0
  rw [Tryz.params4] at hA hval
  obtain ⟨v0, v1, d0, d1, p0, p1, rfl, rfl, rfl, h0, h1⟩ := trodAll_two hA
  obtain ⟨a0, len, cap, rfl⟩ := okWide_slice Tryz.underlying26 (hval 0 26 v0 rfl rfl)
  obtain ⟨size, rfl, rfl, rfl, wa⟩ := open_int Tryz.underlying3 (hval 1 3 v1 rfl rfl) h1
  have h0k := h0
  have h8 := of_laidQ hL
  have hM := mxL_of hsh
  obtain ⟨g, l, hwv, hg⟩ := open_deeds h0
  clear hA0 hval0
  simp only [List.append_nil] at hW'
  obtain ⟨rfl, rfl⟩ := trodVars_none hV
  have hlt : ∀ x ∈ p0, x.block < W.heap.size := fun x hx => hW'.lt x (by simp [hx])
  have hgw : ∃ g', Dv W g' (.slice a0 len cap) len l ∧ g' < W.heap.size := by
    by_cases h : 0 < len
    · exact ⟨g, hwv, hg h⟩
    · exact ⟨0, ⟨hwv.form, hwv.le, hwv.len, fun i hi => by have := hwv.len; omega, hwv.ok⟩, by omega⟩
  obtain ⟨g', hwv', hg'⟩ := hgw
  refine (walk g' _ len l size W hwv' hM h8 hg').mono fun e W' ⟨he, hx⟩ => ?_
  subst he
  have hb := hx.below
  refine ⟨_, rfl, _, _, _, [], p0 ++ [], [], hW', ?_, ?_, rfl, hb.frame _, fun h => by cases h⟩
  · exact trodAll_mk1 (shut_bool Tryz.underlying4 _)
  · exact trodAll_mk2 (Below.trod laidOutP (by kernel_rfl) (of_decide_eq_true (by kernel_rfl)) h0k hb hlt) (shut_int Tryz.underlying3 wa)
end Go.Proofs.YtfadbmfkidiaoaaGreatDoor

namespace Go.Proofs.YtfadbmfkidiaoaaGreatDoor
open Go

theorem topQueues_holds : Rows.TopQueuesSaid :=
  OpenClaim.holds_of_wide 4 Tryz.f4 rfl rfl rfl rfl rfl rfl rfl ⟨rfl, rfl, rfl, rfl, rfl⟩ rfl rfl rfl rfl rfl (by kernel_rfl) Tryz.func4 (by kernel_rfl)
    (of_decide_eq_true (by kernel_rfl)) (by unfold Func.isWrapper; first | (rw [if_pos (by decide +kernel)]; kernel_rfl) | (rw [if_neg (by decide +kernel)]; exact ⟨rfl, rfl⟩))
    (fun os started H enc _ => lifted (fun gw v n l size w hv hM h8 hg => topQueues_any gw v n l size w hv hM h8 hg) os started H enc)

theorem topQueues_card : Rows.TopQueuesCardSaid :=
  Claim7.holds_tied_plain_at .later [] [.data, .data, .data, .data, .sentinel, .sentinel, .pinned] true (true, "c651bb012f7e4989e00ce2b3c9627c88664443bc5548ee51753bce8eee57e7b4") true
    topQueues_holds (fun _ h => by cases h) (by kernel_rfl) (fun _ h => by cases h) topQueues_row_tie rfl ⟨rfl, rfl⟩ (by kernel_rfl) rfl
    (fun f fn hf hfn => by
      obtain rfl : f = 4 := Option.some.inj ((show Tryz.prog.funcNamed "ticketline/ticketlinetop.TopQueues" = some 4 by kernel_rfl).symm.trans hf) |>.symm
      obtain rfl : fn = Tryz.f4 := (Option.some.inj (Tryz.func4.symm.trans hfn)).symm
      exact ⟨by kernel_rfl, fun j t ht => by
        rw [Tryz.params4] at ht
        have hm : t ∈ [26, 3] := by simpa using Array.mem_of_getElem? ht
        have hall : ([26, 3].all fun u => !Tryz.prog.wantsStandIn u) = true := by kernel_rfl
        exact (show Tryz.prog.wantsStandIn t = false by simpa using List.all_eq_true.1 hall t hm)⟩)
    (by kernel_rfl)
#print axioms topQueues_card
end Go.Proofs.YtfadbmfkidiaoaaGreatDoor
