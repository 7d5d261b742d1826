/- The names of a map, in a slice, in order. -/
import Derived.Test.YtfadbmfkidiaoaaGreatDoorK1
import Derived.Test.YtfadbmfkidiaoaaGreatDoorE5
namespace Go.Proofs.YtfadbmfkidiaoaaGreatDoor
open Go.RowKit Go

theorem T39 : SlT Tryz.prog 39 9 1 16 := slT_mk (z := .string ⟨#[]⟩) Tryz.underlying39 (by kernel_rfl) rfl (by omega)
theorem ColI.congr {w W : World} {B t e k : Nat} {f f' : Nat → List Value} (h : ColI w B t e f k W) (hf : f k = f' k) : ColI w B t e f' k W := by
  obtain ⟨g', A, c, h1, h2, h3, h4⟩ := h
  exact ⟨g', A, c, h1, by rw [← hf]; exact h2, h3, h4⟩
theorem ColI.alloc {w W : World} {B t e k : Nat} {f : Nat → List Value} (h : ColI w B t e f k W) (o : Obj) : ColI w B t e f k (W.alloc o) := by
  obtain ⟨g', A, c, h1, h2, h3, h4⟩ := h
  have hx : Ext [] W (W.alloc o) := (Ext.refl [] W).alloc o
  exact ⟨g', A, c, hx.keep h1 (by simp), h2.ext hx (by simp), h3, h4.trans hx⟩
/-- the names that have come are in the box -/
def KI (w : World) (pre : List ByteArray) (W : World) : Prop := ColI w w.heap.size 39 9 (fun _ => scs pre) pre.length W

attribute [local go_sem] Oper.semAt_some
set_option maxRecDepth 100000 in
set_option maxHeartbeats 1600000 in
theorem appendKeys (b1 r : Nat) (es : Array MapEntry) (clock : Nat) (w : World) (hold : ∀ x ∈ es.toList, x.born < clock) (hnd : (es.toList.map (·.born)).Nodup) (hkey : ∀ x ∈ es.toList, x.key = .string (strKey x)) (hsz : es.size ≤ 1000)
    (hb1 : w.cell? ⟨b1, 0, none⟩ = some (.map (some r))) (hr : w.heap[r]? = some (.map es clock)) :
    Calls Tryz.prog 136 #[.slice none 0 0, .func (.func 90) #[] #[.pointer (some ⟨b1, 0, none⟩)]] w fun e w' => ∃ g' v' xs, e = .returned v' ∧ xs.Perm (es.toList.map strKey) ∧ Row w' g' 9 1 v' xs.length (scs xs) ∧ w.heap.size ≤ g' ∧ Ext [] w w' := by
  refine (callsIn_wide (n := 3)).1 ?_
  refine callsIn_of_wp_marks Tryz.func136 rfl trivial ?_ rfl
  simp only [Tryz.ntmps136, List.size_toArray, List.length_cons, List.length_nil, Nat.reduceAdd, Nat.reduceSub, Array.replicate_succ, Array.replicate_zero, List.push_toArray, List.append_toArray, List.nil_append, List.cons_append]
  gi_wp2_with fail
  have hx0 : Ext [] w (w.alloc (.cells #[.slice none 0 0] 39)) := (Ext.refl [] w).alloc _
  refine wpIn_rangeL (α := ByteArray) (gf := 90) (lb := #[.pointer (some ⟨b1, 0, none⟩)]) rfl (enters_of Tryz.func90 (by kernel_rfl) rfl) (fun x => #[.string x]) (fun _ => rfl)
    (fun xs => xs.Perm (es.toList.map strKey)) (fun pre _ => pre.length < es.size) (KI w) (fun pre _ => KI w pre)
    (fun k W l o o' h1 h2 h3 h4 => h4.put (by simp at h1; omega) h2 h3 o') (fun k x W l o o' h1 h2 h3 h4 => h4.put (by simp at h1; omega) h2 h3 o')
    (fun o o' => ⟨w.heap.size + 1, none, 0, ((Ext.refl [] _).alloc o').keep (((Ext.refl [] _).alloc o).keep (heap_alloc_new w _) (by simp)) (by simp), .nil, by omega, (hx0.alloc _).alloc _⟩)
    (fun x => { tmps := #[.slice none 0 0, .func (.func 90) #[] #[.pointer (some ⟨b1, 0, none⟩)], .pointer (some ⟨w.heap.size, 0, none⟩), undef, .slice none 0 0, .string x, .func (.func 90) #[] #[.pointer (some ⟨b1, 0, none⟩)], .string x, undef, undef, undef, undef, undef], defers := [] }) ?hit ?assign ?body ?done
  case hit =>
    rintro l rec W1 hrc hrm hl h0 hbk hY
    refine (keys_it 2 l (w.alloc (.cells #[.slice none 0 0] 39)).heap.size b1 r es clock (fun pre W => KI w pre W ∧ Book (w.alloc (Obj.cells #[Value.slice none 0 0] 39)).heap.size l rec W) hold hnd hkey ?_ ?_ ?_ ?_ ?_ W1 ⟨h0, hbk⟩).mono ?_
    · rintro pre W ⟨⟨_, _, _, _, _, _, hx⟩, hB⟩
      exact ⟨hx.cell hb1 (by simp), hx.keep hr (by simp), Nat.le_of_lt (lt_of_block hB.2)⟩
    · rintro pre W o ⟨h1, h2⟩
      have hx : Ext [] W (W.alloc o) := (Ext.refl [] W).alloc o
      exact ⟨h1.alloc o, hx.keep h2.1 (by simp), hx.keep h2.2 (by simp)⟩
    · rintro pre W ⟨h1, h2⟩
      exact ⟨h1.drewN 1, h2⟩
    · rintro pre W it a s n c o' ⟨h1, h2⟩ hD hit
      refine ⟨h1.put (by simp at hD; omega) hit rfl o', (World.putObj_heap_other (fun e => ?_)).trans h2.1, (World.putObj_heap_other (fun e => ?_)).trans h2.2⟩
      · have h3 := h2.1; rw [e, hit] at h3; exact hrm _ _ _ _ (Option.some.inj h3).symm
      · have h3 := h2.2; rw [e, hit] at h3; cases h3
    · rintro pre x W hlt ⟨h1, h2⟩
      exact (hY pre x W hlt h1 h2).mono (fun e w h => ⟨h.1, ⟨h.2.1, h.2.2.1⟩, h.2.2.2⟩)
    · rintro e W' ⟨h1, xs, h2, h3, h4⟩
      exact ⟨h1, xs, h2, h3, h4⟩
  case assign =>
    intro l x W K hK
    gi_wp2
    exact hK
  case body =>
    rintro l pre x W ⟨g', A, c', hb, hr, hg, hx⟩ hk
    have hc := cell_of_one hb
    obtain ⟨g', hr, hg, hgc⟩ := hr.other hg (lt_of_block hb)
    have HG := Lib.hid hgc; clear hgc
    have hn1 := Row.new W 9 1 #[.string x] 1 1 (by omega) (by simp [maxLen]) rfl
    have hr1 := hr.ext ((Ext.refl [] W).alloc (.cells #[.string x] 9)) (by simp)
    have hbl := lt_of_block hb
    have hnm : w.heap.size ∉ [g'] := by simp; omega
    generalize hpl : pre.length = n at *
    have HP := Lib.hid hpl; clear hpl
    gi_wp2_with (with_reducible refine wpListIn_append' T39 rfl (.tmp 8) (.tmp 10) rfl rfl rfl hr1 hn1.vw (by simp [Value.oneCell']) (by omega) (by omega) ?_; rintro g3 A3 c3 w3 hr3 hx3 hg3 hA3 _ _; obtain rfl := hA3 (by omega); have hb3 := colKeep hb hnm hx3; have hc3 := cell_of_one hb3; have hf3 := frozen_of_one hb3)
    have e1 : ((pre ++ [x]).take n) = pre := by rw [← HP.out]; exact List.take_left
    have e2 : ((pre ++ [x]).take (n + 1)) = pre ++ [x] := List.take_of_length_le (by simp [HP.out])
    obtain ⟨k1, k2⟩ := colEnd (f := fun j => scs ((pre ++ [x]).take j)) (k := n) (x := .string x) hb3 hx hx3 hg hbl hg3 HG.out (by simp only [e1]; exact hr3) (by simp only [e1, e2]; simp [scs])
    refine ⟨by simpa using k1, ?_⟩
    have e3 : (pre ++ [x]).length = n + 1 := by simp [HP.out]
    unfold KI
    rw [e3]
    exact k2.congr (by simp only [e2])
  case done =>
    rintro xs W hS ⟨g', A, c', hb, hr, hg, hx⟩ hD
    have hc := cell_of_one hb
    simp only [World.size_alloc] at hD
    gi_wp2_with fail
    refine ⟨by simp, .inl ⟨_, _, rfl, run_takeDeferred hD, ?_⟩⟩
    refine ⟨_, results_tmp rfl _ _ _, ?_⟩
    refine ⟨g', .slice A xs.length c', rfl, xs, hS, hr.putObj hD rfl _, by omega, hx.putObj (by omega) _⟩
end Go.Proofs.YtfadbmfkidiaoaaGreatDoor
