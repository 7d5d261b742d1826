/- Jobs as rows, once more. A queue and all that is checked of it: the words. -/
import Derived.Test.YtfadbmfkidiaoaaGreatDoorZ46
namespace Go.Proofs.YtfadbmfkidiaoaaGreatDoor
open Go.RowKit Go
set_option linter.unusedSimpArgs false
set_option linter.unusedVariables false
set_option linter.unusedSectionVars false
set_option linter.unnecessarySimpa false

set_option maxRecDepth 100000 in
set_option maxHeartbeats 4000000 in
theorem jobRow_any (j : Jb) (w : World) (h : OkJ j) : Calls Tryz.prog 27 #[jV j] w fun e w' => ∃ g v, e = .returned v ∧ Row w' g 93 5 v 7 (clsC (kJ j ++ rJ j)) ∧ w.heap.size ≤ g ∧ g < w'.heap.size ∧ Ext [] w w' := by
  obtain ⟨id, pr, body, st, tries, who, till⟩ := j
  obtain ⟨h1, h2, h3, h4, h5, h6, h7, h8⟩ := h
  simp only at h1 h2 h3 h4 h5 h6 h7 h8
  have hx0 : Ext [] w (w.alloc (.cells #[.int .i64 (id : Nat), .int .i64 (pr : Nat), .string body, .int .i64 (st : Nat), .int .i64 (tries : Nat), .int .i64 (who : Nat), .int .i64 (till : Nat)] 80)) := (Ext.refl [] w).alloc _
  have hB := heap_alloc_new w (.cells #[.int .i64 (id : Nat), .int .i64 (pr : Nat), .string body, .int .i64 (st : Nat), .int .i64 (tries : Nat), .int .i64 (who : Nat), .int .i64 (till : Nat)] 80)
  obtain ⟨q, hq⟩ : ∃ q : Nat, q = ordJ ⟨id, pr, body, st, tries, who, till⟩ := ⟨_, rfl⟩
  have hq1 : st = 1 → (9 : Int) - (pr : Int) = (q : Int) := by rintro rfl; rw [hq]; simp [ordJ]; omega
  have hq2 : st ≠ 1 → q = till := by intro hne; rw [hq]; simp [ordJ, hne]
  have hqm : q ≤ 1000000 := by rw [hq]; unfold ordJ; split <;> simp only <;> omega
  have hk : kJ ⟨id, pr, body, st, tries, who, till⟩ ++ rJ ⟨id, pr, body, st, tries, who, till⟩ = [cU st, cU q, cU id, cU pr, cT body, cU tries, cU who] := by simp only [kJ, rJ, ← hq]; rfl
  rw [hk]
  have HQ := Lib.hid hq; clear hq hk
  have n1 := fun W => num74_x st W (by omega)
  have n2 := fun W => num74_x q W (by omega)
  have n3 := fun W => num74_x id W (by omega)
  have n4 := fun W => num74_x pr W (by omega)
  have n5 := fun W => num74_x tries W (by omega)
  have n6 := fun W => num74_x who W (by omega)
  show Calls Tryz.prog 27 #[.agg #[.int .i64 (id : Nat), .int .i64 (pr : Nat), .string body, .int .i64 (st : Nat), .int .i64 (tries : Nat), .int .i64 (who : Nat), .int .i64 (till : Nat)]] w _
  rcases h4 with rfl | rfl | rfl
  · have hq1 := hq1 rfl
    clear hq2
    clear h8
    go_enter Tryz.func27, Tryz.ntmps27
    go_wp2_with fail
    have hpt : HeldJ w.heap.size (.int .i64 (id : Nat)) (.int .i64 (pr : Nat)) (.string body) (.int .i64 1) (.int .i64 (tries : Nat)) (.int .i64 (who : Nat)) (w.alloc (.cells #[.int .i64 (id : Nat), .int .i64 (pr : Nat), .string body, .int .i64 1, .int .i64 (tries : Nat), .int .i64 (who : Nat), .int .i64 (till : Nat)] 80)) (w.alloc (.cells #[.int .i64 (id : Nat), .int .i64 (pr : Nat), .string body, .int .i64 1, .int .i64 (tries : Nat), .int .i64 (who : Nat), .int .i64 (till : Nat)] 80)) :=
      ⟨cell_of_row _ _ 0 _ _ _ hB, cell_of_row _ _ 1 _ _ _ hB, cell_of_row _ _ 2 _ _ _ hB, cell_of_row _ _ 3 _ _ _ hB, cell_of_row _ _ 4 _ _ _ hB, cell_of_row _ _ 5 _ _ _ hB, Ext.refl _ _⟩
    go_region_held3 (fun W => W.cell? ⟨w.heap.size, 0, none⟩ = some (.int .i64 (id : Nat)) ∧ W.cell? ⟨w.heap.size, 1, none⟩ = some (.int .i64 (pr : Nat)) ∧ W.cell? ⟨w.heap.size, 2, none⟩ = some (.string body) ∧ W.cell? ⟨w.heap.size, 3, none⟩ = some (.int .i64 1) ∧ W.cell? ⟨w.heap.size, 4, none⟩ = some (.int .i64 (tries : Nat)) ∧ W.cell? ⟨w.heap.size, 5, none⟩ = some (.int .i64 (who : Nat)) ∧ Ext [] (w.alloc (.cells #[.int .i64 (id : Nat), .int .i64 (pr : Nat), .string body, .int .i64 1, .int .i64 (tries : Nat), .int .i64 (who : Nat), .int .i64 (till : Nat)] 80)) W)
      (first | exact HeldJ.dr hpt | exact HeldJ.al (by assumption) | exact HeldJ.ext (by assumption) hxn)
      (first
        | (go_at_call_of 74 (Value.int .i64 1); refine (n1 _).mono ?_; rintro e w' ⟨rfl, hxn⟩)
        | (go_at_call_of 74 (Value.int .i64 (q : Int)); refine (n2 _).mono ?_; rintro e w' ⟨rfl, hxn⟩)
        | (go_at_call_of 74 (Value.int .i64 (id : Int)); refine (n3 _).mono ?_; rintro e w' ⟨rfl, hxn⟩)
        | (go_at_call_of 74 (Value.int .i64 (pr : Int)); refine (n4 _).mono ?_; rintro e w' ⟨rfl, hxn⟩)
        | (go_at_call_of 74 (Value.int .i64 (tries : Int)); refine (n5 _).mono ?_; rintro e w' ⟨rfl, hxn⟩)
        | (go_at_call_of 74 (Value.int .i64 (who : Int)); refine (n6 _).mono ?_; rintro e w' ⟨rfl, hxn⟩))
    rename_i hHeld
    have hS := hHeld.2.2.2.2.2.2
    clear hHeld
    rename World => w9
    have hsz := hS.size
    simp only [World.size_alloc] at hsz
    have hrow := Row.new w9 93 5 #[.int .i64 1, .int .u64 1, .int .i64 0, .string eS, .bool false, .int .i64 1, .int .u64 (q : Int), .int .i64 0, .string eS, .bool false, .int .i64 1, .int .u64 (id : Int), .int .i64 0, .string eS, .bool false, .int .i64 1, .int .u64 (pr : Int), .int .i64 0, .string eS, .bool false, .int .i64 3, .int .u64 0, .int .i64 0, .string body, .bool false, .int .i64 1, .int .u64 (tries : Int), .int .i64 0, .string eS, .bool false, .int .i64 1, .int .u64 (who : Int), .int .i64 0, .string eS, .bool false] 7 7 (by omega) (by simp [maxLen]) rfl
    go_wp2_with fail
    go_ret
    exact ⟨w9.heap.size, _, ret1 rfl, hrow, by omega, by simp, hx0.trans hS⟩
  · obtain rfl := hq2 (by omega)
    clear hq1
    clear h8
    go_enter Tryz.func27, Tryz.ntmps27
    go_wp2_with fail
    have hpt : HeldJ w.heap.size (.int .i64 (id : Nat)) (.int .i64 (pr : Nat)) (.string body) (.int .i64 2) (.int .i64 (tries : Nat)) (.int .i64 (who : Nat)) (w.alloc (.cells #[.int .i64 (id : Nat), .int .i64 (pr : Nat), .string body, .int .i64 2, .int .i64 (tries : Nat), .int .i64 (who : Nat), .int .i64 (q : Nat)] 80)) (w.alloc (.cells #[.int .i64 (id : Nat), .int .i64 (pr : Nat), .string body, .int .i64 2, .int .i64 (tries : Nat), .int .i64 (who : Nat), .int .i64 (q : Nat)] 80)) :=
      ⟨cell_of_row _ _ 0 _ _ _ hB, cell_of_row _ _ 1 _ _ _ hB, cell_of_row _ _ 2 _ _ _ hB, cell_of_row _ _ 3 _ _ _ hB, cell_of_row _ _ 4 _ _ _ hB, cell_of_row _ _ 5 _ _ _ hB, Ext.refl _ _⟩
    go_region_held3 (fun W => W.cell? ⟨w.heap.size, 0, none⟩ = some (.int .i64 (id : Nat)) ∧ W.cell? ⟨w.heap.size, 1, none⟩ = some (.int .i64 (pr : Nat)) ∧ W.cell? ⟨w.heap.size, 2, none⟩ = some (.string body) ∧ W.cell? ⟨w.heap.size, 3, none⟩ = some (.int .i64 2) ∧ W.cell? ⟨w.heap.size, 4, none⟩ = some (.int .i64 (tries : Nat)) ∧ W.cell? ⟨w.heap.size, 5, none⟩ = some (.int .i64 (who : Nat)) ∧ Ext [] (w.alloc (.cells #[.int .i64 (id : Nat), .int .i64 (pr : Nat), .string body, .int .i64 2, .int .i64 (tries : Nat), .int .i64 (who : Nat), .int .i64 (q : Nat)] 80)) W)
      (first | exact HeldJ.dr hpt | exact HeldJ.al (by assumption) | exact HeldJ.ext (by assumption) hxn)
      (first
        | (go_at_call_of 74 (Value.int .i64 2); refine (n1 _).mono ?_; rintro e w' ⟨rfl, hxn⟩)
        | (go_at_call_of 74 (Value.int .i64 (q : Int)); refine (n2 _).mono ?_; rintro e w' ⟨rfl, hxn⟩)
        | (go_at_call_of 74 (Value.int .i64 (id : Int)); refine (n3 _).mono ?_; rintro e w' ⟨rfl, hxn⟩)
        | (go_at_call_of 74 (Value.int .i64 (pr : Int)); refine (n4 _).mono ?_; rintro e w' ⟨rfl, hxn⟩)
        | (go_at_call_of 74 (Value.int .i64 (tries : Int)); refine (n5 _).mono ?_; rintro e w' ⟨rfl, hxn⟩)
        | (go_at_call_of 74 (Value.int .i64 (who : Int)); refine (n6 _).mono ?_; rintro e w' ⟨rfl, hxn⟩))
    rename_i hHeld
    have hS := hHeld.2.2.2.2.2.2
    clear hHeld
    rename World => w9
    have hsz := hS.size
    simp only [World.size_alloc] at hsz
    have hrow := Row.new w9 93 5 #[.int .i64 1, .int .u64 2, .int .i64 0, .string eS, .bool false, .int .i64 1, .int .u64 (q : Int), .int .i64 0, .string eS, .bool false, .int .i64 1, .int .u64 (id : Int), .int .i64 0, .string eS, .bool false, .int .i64 1, .int .u64 (pr : Int), .int .i64 0, .string eS, .bool false, .int .i64 3, .int .u64 0, .int .i64 0, .string body, .bool false, .int .i64 1, .int .u64 (tries : Int), .int .i64 0, .string eS, .bool false, .int .i64 1, .int .u64 (who : Int), .int .i64 0, .string eS, .bool false] 7 7 (by omega) (by simp [maxLen]) rfl
    go_wp2_with fail
    go_ret
    exact ⟨w9.heap.size, _, ret1 rfl, hrow, by omega, by simp, hx0.trans hS⟩
  · have hq2 := hq2 (by omega)
    have h8 := h8 (by omega)
    subst h8
    subst hq2
    clear hq1
    clear h8
    go_enter Tryz.func27, Tryz.ntmps27
    go_wp2_with fail
    have hpt : HeldJ w.heap.size (.int .i64 (id : Nat)) (.int .i64 (pr : Nat)) (.string body) (.int .i64 3) (.int .i64 (tries : Nat)) (.int .i64 (who : Nat)) (w.alloc (.cells #[.int .i64 (id : Nat), .int .i64 (pr : Nat), .string body, .int .i64 3, .int .i64 (tries : Nat), .int .i64 (who : Nat), .int .i64 0] 80)) (w.alloc (.cells #[.int .i64 (id : Nat), .int .i64 (pr : Nat), .string body, .int .i64 3, .int .i64 (tries : Nat), .int .i64 (who : Nat), .int .i64 0] 80)) :=
      ⟨cell_of_row _ _ 0 _ _ _ hB, cell_of_row _ _ 1 _ _ _ hB, cell_of_row _ _ 2 _ _ _ hB, cell_of_row _ _ 3 _ _ _ hB, cell_of_row _ _ 4 _ _ _ hB, cell_of_row _ _ 5 _ _ _ hB, Ext.refl _ _⟩
    go_region_held3 (fun W => W.cell? ⟨w.heap.size, 0, none⟩ = some (.int .i64 (id : Nat)) ∧ W.cell? ⟨w.heap.size, 1, none⟩ = some (.int .i64 (pr : Nat)) ∧ W.cell? ⟨w.heap.size, 2, none⟩ = some (.string body) ∧ W.cell? ⟨w.heap.size, 3, none⟩ = some (.int .i64 3) ∧ W.cell? ⟨w.heap.size, 4, none⟩ = some (.int .i64 (tries : Nat)) ∧ W.cell? ⟨w.heap.size, 5, none⟩ = some (.int .i64 (who : Nat)) ∧ Ext [] (w.alloc (.cells #[.int .i64 (id : Nat), .int .i64 (pr : Nat), .string body, .int .i64 3, .int .i64 (tries : Nat), .int .i64 (who : Nat), .int .i64 0] 80)) W)
      (first | exact HeldJ.dr hpt | exact HeldJ.al (by assumption) | exact HeldJ.ext (by assumption) hxn)
      (first
        | (go_at_call_of 74 (Value.int .i64 3); refine (n1 _).mono ?_; rintro e w' ⟨rfl, hxn⟩)
        | (go_at_call_of 74 (Value.int .i64 0); refine (n2 _).mono ?_; rintro e w' ⟨rfl, hxn⟩)
        | (go_at_call_of 74 (Value.int .i64 (id : Int)); refine (n3 _).mono ?_; rintro e w' ⟨rfl, hxn⟩)
        | (go_at_call_of 74 (Value.int .i64 (pr : Int)); refine (n4 _).mono ?_; rintro e w' ⟨rfl, hxn⟩)
        | (go_at_call_of 74 (Value.int .i64 (tries : Int)); refine (n5 _).mono ?_; rintro e w' ⟨rfl, hxn⟩)
        | (go_at_call_of 74 (Value.int .i64 (who : Int)); refine (n6 _).mono ?_; rintro e w' ⟨rfl, hxn⟩))
    rename_i hHeld
    have hS := hHeld.2.2.2.2.2.2
    clear hHeld
    rename World => w9
    have hsz := hS.size
    simp only [World.size_alloc] at hsz
    have hrow := Row.new w9 93 5 #[.int .i64 1, .int .u64 3, .int .i64 0, .string eS, .bool false, .int .i64 1, .int .u64 0, .int .i64 0, .string eS, .bool false, .int .i64 1, .int .u64 (id : Int), .int .i64 0, .string eS, .bool false, .int .i64 1, .int .u64 (pr : Int), .int .i64 0, .string eS, .bool false, .int .i64 3, .int .u64 0, .int .i64 0, .string body, .bool false, .int .i64 1, .int .u64 (tries : Int), .int .i64 0, .string eS, .bool false, .int .i64 1, .int .u64 (who : Int), .int .i64 0, .string eS, .bool false] 7 7 (by omega) (by simp [maxLen]) rfl
    go_wp2_with fail
    go_ret
    exact ⟨w9.heap.size, _, ret1 rfl, hrow, by omega, by simp, hx0.trans hS⟩
end Go.Proofs.YtfadbmfkidiaoaaGreatDoor

namespace Go.Proofs.YtfadbmfkidiaoaaGreatDoor
open Go.RowKit Go Go.MapKept
set_option linter.unusedSimpArgs false
set_option linter.unusedVariables false
set_option linter.unusedSectionVars false
set_option linter.unnecessarySimpa false

/-- the first loop: the queue, the deltas so far -/
def QuRel (w3 : World) (b bm g0 r : Nat) (l : List Dd) (ov iv : Value) (wl : World) : Prop :=
  ∃ (k g gw last now m c : Nat) (L : Pairs) (G : Nat → Option Jb) (A : Option Addr), iv = .int .i64 k ∧ k ≤ l.length ∧ Qu wl b bm g r L (FG G) last now ∧ QJ L G ∧ Bd G last now k ∧ L.length ≤ k ∧ loL (l.take k) ≤ L.length ∧ ov = .slice A m c ∧ m = L.length ∧
    Row wl gw 138 5 (.slice A m c) m (ccs (ofL L)) ∧ w3.heap.size ≤ gw ∧ gw ≠ g ∧ (g = g0 ∨ w3.heap.size ≤ g) ∧ Ext [b, bm, g0, r] w3 wl
/-- the second loop: the base with the rows so far -/
def BaRel (wA : World) (xb : Nat) (vk vr vx vc : Value) (gk gr gx gc : Nat) (js : List Jb) (ov iv : Value) (wl : World) : Prop :=
  ∃ (i bm g ga c : Nat) (A : Option Addr) (D : Pairs) (vs : List Value), iv = .int .i64 i ∧ i ≤ js.length ∧ Bs wl xb bm g vk vr vx vc gk gr gx gc D ∧ IX D (js.take i) ∧ ov = .slice A i c ∧ Row wl ga 73 1 (.slice A i c) i vs ∧ RwL wl wA.heap.size ga vs (js.take i) ∧ wA.heap.size ≤ ga ∧ Ext [xb] wA wl
theorem neq_jb (a b d f h i : Int) (c : ByteArray) (w : World) : (binOp .neq 80 (.agg #[.int .i64 a, .int .i64 b, .string c, .int .i64 d, .int .i64 f, .int .i64 h, .int .i64 i]) (.agg #[.int .i64 a, .int .i64 b, .string c, .int .i64 d, .int .i64 f, .int .i64 h, .int .i64 i])).run Tryz.prog w = .ok (.bool false) w := by
  go_simp
theorem ofL_len (L : Pairs) : (ofL L).length = L.length := by simp [ofL]
theorem mdl_nil (w : World) (h8 : 8 ≤ w.heap.size) : Mdl (w.alloc (.cells #[.slice none 0 0] 34)) w.heap.size w.heap.size [] :=
  ⟨⟨_, heap_alloc_new w _, .nil⟩, by simp, h8, h8⟩
theorem JLs.len {L : Pairs} {G : Nat → Option Jb} {js : List Jb} (h : JLs L G js) : L.length = js.length := by rw [h.eq]; simp
theorem JLs.fresh {L : Pairs} {G : Nat → Option Jb} {js : List Jb} (h : JLs L G js) (i : Nat) (hi : i < js.length) : ∀ x ∈ js.take i, x.id ≠ js[i].id := by
  intro x hx
  obtain ⟨k, hk, rfl⟩ := List.mem_iff_getElem.1 hx
  have hk' : k < i := by simp at hk; omega
  rw [List.getElem_take]
  exact (List.pairwise_iff_getElem.1 h.dist) k i (by omega) hi hk'
theorem take_next {α : Type} (l : List α) (i : Nat) (hi : i < l.length) : l.take (i + 1) = l.take i ++ [l[i]] := by
  rw [List.take_add_one, List.getElem?_eq_getElem hi]; rfl
theorem QJ.sizes {L : Pairs} {G : Nat → Option Jb} (h : QJ L G) : (∀ i, i < L.length → 1 ≤ (kAt L i).size ∧ (kAt L i).size ≤ 24) ∧ ∀ i, i < L.length → (vAt L i).size ≤ 40 := by
  constructor
  · intro i hi
    have := h.okP _ (List.getElem_mem hi)
    rw [kAt_eq _ _ hi]
    exact ⟨this.1, this.2.1⟩
  · intro i hi
    have := h.okP _ (List.getElem_mem hi)
    rw [vAt_eq _ _ hi]
    exact this.2.2
theorem held14 {B l o : Nat} {W W' : World} {S : List Nat} {a b c d e f g a' b' c' d' e' f' g' : Value} (h : W.cell? ⟨B, 0, none⟩ = some a ∧ W.cell? ⟨B, 1, none⟩ = some b ∧ W.cell? ⟨B, 2, none⟩ = some c ∧ W.cell? ⟨B, 3, none⟩ = some d ∧ W.cell? ⟨B, 4, none⟩ = some e ∧ W.cell? ⟨B, 5, none⟩ = some f ∧ W.cell? ⟨B, 6, none⟩ = some g ∧ W.cell? ⟨l, o, none⟩ = some a' ∧ W.cell? ⟨l, o + 1, none⟩ = some b' ∧ W.cell? ⟨l, o + 2, none⟩ = some c' ∧ W.cell? ⟨l, o + 3, none⟩ = some d' ∧ W.cell? ⟨l, o + 4, none⟩ = some e' ∧ W.cell? ⟨l, o + 5, none⟩ = some f' ∧ W.cell? ⟨l, o + 6, none⟩ = some g') (hx : Ext S W W') (hB : B ∉ S) (hl : l ∉ S) :
    W'.cell? ⟨B, 0, none⟩ = some a ∧ W'.cell? ⟨B, 1, none⟩ = some b ∧ W'.cell? ⟨B, 2, none⟩ = some c ∧ W'.cell? ⟨B, 3, none⟩ = some d ∧ W'.cell? ⟨B, 4, none⟩ = some e ∧ W'.cell? ⟨B, 5, none⟩ = some f ∧ W'.cell? ⟨B, 6, none⟩ = some g ∧ W'.cell? ⟨l, o, none⟩ = some a' ∧ W'.cell? ⟨l, o + 1, none⟩ = some b' ∧ W'.cell? ⟨l, o + 2, none⟩ = some c' ∧ W'.cell? ⟨l, o + 3, none⟩ = some d' ∧ W'.cell? ⟨l, o + 4, none⟩ = some e' ∧ W'.cell? ⟨l, o + 5, none⟩ = some f' ∧ W'.cell? ⟨l, o + 6, none⟩ = some g' := by
  obtain ⟨h0, h1, h2, h3, h4, h5, h6, k0, k1, k2, k3, k4, k5, k6⟩ := h
  exact ⟨hx.cell h0 hB, hx.cell h1 hB, hx.cell h2 hB, hx.cell h3 hB, hx.cell h4 hB, hx.cell h5 hB, hx.cell h6 hB, hx.cell k0 hl, hx.cell k1 hl, hx.cell k2 hl, hx.cell k3 hl, hx.cell k4 hl, hx.cell k5 hl, hx.cell k6 hl⟩
theorem Row.pick2 {W : World} {ga : Nat} {v : Value} {n bm g : Nat} {cs : List Value} {D : Pairs} (h : Row W ga 73 1 v n cs) (hm : Mdl W bm g D) (hD : 0 < D.length) (K : Nat) : ∃ g', Row W g' 73 1 v n cs ∧ ((g' = ga ∧ ga < W.heap.size ∧ bm ≠ ga ∧ g ≠ ga) ∨ g' = K) := by
  rcases h.split with ⟨rfl, rfl, rfl⟩ | ⟨c, cur, h1, h2, h3, h4, h5⟩
  · exact ⟨K, .nil, .inr rfl⟩
  · refine ⟨ga, h, .inl ⟨rfl, lt_of_block h4, ?_, ?_⟩⟩
    · rintro rfl
      obtain ⟨x, hx, _⟩ := hm.blk
      rw [h4] at hx
      cases hx
    · rintro rfl
      obtain ⟨x, hx, hr⟩ := hm.blk
      rcases hr.split with ⟨_, h0, _⟩ | ⟨c', cur', k1, k2, k3, k4, k5⟩
      · omega
      · rw [h4] at k4
        cases k4
theorem tb_lit {w : World} {a b : Nat} {x y : Value} (hk : Vw w a 52 1 x 3 (nts [1, 1, 1])) (hr : Vw w b 52 1 y 4 (nts [1, 3, 1, 1])) (ha : a < w.heap.size) (hb : b < w.heap.size) : Tb w (.agg #[.int .i64 1, x, y]) 1 [1, 1, 1] [1, 3, 1, 1] :=
  ⟨⟨x, y, a, b, rfl, hk, hr, ha, hb⟩, by omega, by omega, by simp, by simp, by simp, by simp [Kd], by simp [Kd]⟩
/-- the third loop -/
def CoRel (wY : World) (iv : Value) (wl : World) : Prop := ∃ p : Nat, iv = .int .i64 ((p + 1 : Nat) : Int) ∧ Ext [] wY wl
theorem held12 {W W' : World} {p0 p1 p2 p3 p4 p5 p6 p7 p8 p9 pa pb : Addr} {v0 v1 v2 v3 v4 v5 v6 v7 v8 v9 va vb : Value} (h : W.cell? p0 = some v0 ∧ W.cell? p1 = some v1 ∧ W.cell? p2 = some v2 ∧ W.cell? p3 = some v3 ∧ W.cell? p4 = some v4 ∧ W.cell? p5 = some v5 ∧ W.cell? p6 = some v6 ∧ W.cell? p7 = some v7 ∧ W.cell? p8 = some v8 ∧ W.cell? p9 = some v9 ∧ W.cell? pa = some va ∧ W.cell? pb = some vb) (hx : Ext [] W W') :
    W'.cell? p0 = some v0 ∧ W'.cell? p1 = some v1 ∧ W'.cell? p2 = some v2 ∧ W'.cell? p3 = some v3 ∧ W'.cell? p4 = some v4 ∧ W'.cell? p5 = some v5 ∧ W'.cell? p6 = some v6 ∧ W'.cell? p7 = some v7 ∧ W'.cell? p8 = some v8 ∧ W'.cell? p9 = some v9 ∧ W'.cell? pa = some va ∧ W'.cell? pb = some vb := by
  obtain ⟨h0, h1, h2, h3, h4, h5, h6, h7, h8, h9, ha, hb⟩ := h
  exact ⟨hx.cell h0 (by simp), hx.cell h1 (by simp), hx.cell h2 (by simp), hx.cell h3 (by simp), hx.cell h4 (by simp), hx.cell h5 (by simp), hx.cell h6 (by simp), hx.cell h7 (by simp), hx.cell h8 (by simp), hx.cell h9 (by simp), hx.cell ha (by simp), hx.cell hb (by simp)⟩
end Go.Proofs.YtfadbmfkidiaoaaGreatDoor
