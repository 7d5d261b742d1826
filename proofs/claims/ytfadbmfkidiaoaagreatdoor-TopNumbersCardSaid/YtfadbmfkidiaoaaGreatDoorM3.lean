/- The plain map of the program, third part: reading it, copying it, comparing two. -/
import Derived.Test.YtfadbmfkidiaoaaGreatDoorM2
namespace Go.Proofs.YtfadbmfkidiaoaaGreatDoor
open Go.RowKit Go

def look (l : Pairs) (k : ByteArray) : ByteArray := vAt l (rk l k)

set_option maxHeartbeats 400000 in
theorem get_yes (b g : Nat) (l : Pairs) (key : ByteArray) (w : World) (hm : Mdl w b g l) (hn : l.length ≤ 4611686018427387903) (hs : Srt l)
    (hk1 : 1 ≤ key.size) (hk2 : key.size ≤ 24) (hh : has l key = true) :
    Calls Tryz.prog 48 #[.pointer (some ⟨b, 0, none⟩), .string key] w fun e w' => e = .returned (.tuple #[.string (look l key), .int .i64 0]) ∧ Ext [] w w' := by
  have hin : rk l key < l.length := by simp [has] at hh; exact hh.1
  have HS := Lib.hid hs; clear hs
  go_enter Tryz.func48, Tryz.ntmps48
  go_wp2_with fail
  refine (at_ok b g l key 0 (.slice none 0 0) 0 [] _ hm hn HS.out hk1 hk2 .nil (by omega)).mono ?_
  rintro e w1 ⟨rfl, hx⟩
  obtain ⟨⟨v, hb, hr⟩, _, _, _⟩ := hm.ext hx (by simp) (by simp)
  have hc := cell_of_one hb
  rcases hr.split with ⟨rfl, h0, _⟩ | ⟨c, cur, rfl, hnc, hcm, _⟩
  · omega
  · obtain ⟨h1, h2⟩ := hr.vw.pair (rk l key) hin
    simp only [Nat.zero_add] at h1 h2
    clear hr hb
    go_wp2_with fail
    go_ret2
    exact ⟨rfl, hx⟩

set_option maxHeartbeats 400000 in
theorem get_no (b g : Nat) (l : Pairs) (key : ByteArray) (w : World) (hm : Mdl w b g l) (hn : l.length ≤ 4611686018427387903) (hs : Srt l)
    (hk1 : 1 ≤ key.size) (hk2 : key.size ≤ 24) (hh : has l key = false) :
    Calls Tryz.prog 48 #[.pointer (some ⟨b, 0, none⟩), .string key] w fun e w' => e = .returned (.tuple #[.string ⟨#[]⟩, .int .i64 9]) ∧ Ext [] w w' := by
  have HS := Lib.hid hs; clear hs
  go_enter Tryz.func48, Tryz.ntmps48
  go_wp2_with fail
  refine (at_ok b g l key 0 (.slice none 0 0) 0 [] _ hm hn HS.out hk1 hk2 .nil (by omega)).mono ?_
  rintro e w1 ⟨rfl, hx⟩
  go_wp2_with fail
  go_ret2
  exact ⟨rfl, hx⟩

theorem len_any (b g : Nat) (l : Pairs) (w : World) (hm : Mdl w b g l) :
    Calls Tryz.prog 22 #[.pointer (some ⟨b, 0, none⟩)] w fun e w' => e = .returned (.int .i64 l.length) ∧ w = w' := by
  obtain ⟨⟨v, hb, hr⟩, _, _, _⟩ := hm
  have hc := cell_of_one hb
  obtain ⟨A, c, rfl, _, _⟩ := hr.form
  clear hr hb
  go_enter Tryz.func22, Tryz.ntmps22
  go_wp2_with fail
  go_ret
  exact ⟨rfl, rfl⟩

theorem T32 : SlT Tryz.prog 32 77 2 32 := slT_mk (z := .agg #[.string ⟨#[]⟩, .string ⟨#[]⟩]) Tryz.underlying32 (by kernel_rfl) rfl (by omega)

set_option maxHeartbeats 400000 in
/-- slices.Clone of pairs -/
theorem clonePairs (g : Nat) (v : Value) (n : Nat) (l : Pairs) (w : World) (hv : Vw w g 77 2 v n (pcs l)) (hn : n ≤ 1000000) :
    Calls Tryz.prog 67 #[v] w fun e w' => ∃ g' v', e = .returned v' ∧ Row w' g' 77 2 v' n (pcs l) ∧ w.heap.size ≤ g' ∧ Ext [] w w' := by
  rcases hv.split with ⟨rfl, rfl, h0⟩ | ⟨o, c, rfl, hnc, hcm, _⟩
  · have hnil := fun (w : World) => Lib.run_eql_slice_nil (P := Tryz.prog) w 32
    clear hv
    have H0 := Lib.hid h0; clear h0
    go_enter Tryz.func67, Tryz.ntmps67
    go_wp2_with fail
    go_ret
    refine ⟨w.heap.size, .slice none 0 0, rfl, ?_, Nat.le_refl _, Ext.refl _ _⟩
    rw [H0.out]; exact .nil
  · have hnil := fun (w : World) => Lib.run_eql_slice_nil (P := Tryz.prog) w 32
    have hv1 : Vw (w.alloc (.cells #[] 77)) g 77 2 (.slice (some ⟨g, o, none⟩) n c) n (pcs l) := hv.ext ((Ext.refl [] w).alloc _) (by simp)
    have hr1 := Row.new w 77 2 #[] 0 0 (Nat.le_refl _) (by simp [maxLen]) rfl
    go_enter Tryz.func67, Tryz.ntmps67
    go_wp2_with (at_builtin; refine wpList_append T32 rfl _ _ rfl rfl rfl hr1 hv1 (pcs_one l) (by omega) (by omega) ?_; rintro g' A' c' w1 hr2 hx hg _ _ _)
    go_ret
    simp only [Nat.zero_add, Nat.zero_mul, List.take_zero, List.nil_append] at hr2
    refine ⟨g', _, rfl, hr2, ?_, ((Ext.refl [] w).alloc _).step hx (by simp)⟩
    rcases hg with rfl | hg
    · exact Nat.le_refl _
    · simp at hg; omega
end Go.Proofs.YtfadbmfkidiaoaaGreatDoor
