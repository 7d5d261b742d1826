/- TopNumbers is proved: whatever the input, the law returns true and the input reads as it did; the row's listed variables are tied to the program's text. -/
import Derived.Test.YtfadbmfkidiaoaaGreatDoorN5
import Derived.Test.YtfadbmfkidiaoaaGreatDoorN6
namespace Go.Proofs.YtfadbmfkidiaoaaGreatDoor
open Go

theorem topNumbers_holds : Rows.TopNumbersSaid :=
  OpenClaim.holds_of_wide 3 Tryz.f3 rfl rfl rfl rfl rfl rfl rfl ⟨rfl, rfl, rfl, rfl, rfl⟩ rfl rfl rfl rfl rfl (by kernel_rfl) Tryz.func3 (by kernel_rfl)
    (of_decide_eq_true (by kernel_rfl)) (by unfold Func.isWrapper; first | (rw [if_pos (by decide +kernel)]; kernel_rfl) | (rw [if_neg (by decide +kernel)]; exact ⟨rfl, rfl⟩))
    (fun os started H enc _ => lifted (fun gw v n l size piece w hv hk hT h8 hg => topNumbers_any gw v n l size piece w hv hk hT h8 hg) os started H enc)

theorem topNumbers_card : Rows.TopNumbersCardSaid :=
  Claim7.holds_tied_plain_at .later [] [.data, .data, .data, .sentinel, .sentinel] true (true, "c651bb012f7e4989e00ce2b3c9627c88664443bc5548ee51753bce8eee57e7b4") true
    topNumbers_holds (fun _ h => by cases h) (by kernel_rfl) (fun _ h => by cases h) topNumbers_row_tie rfl ⟨rfl, rfl⟩ (by kernel_rfl) rfl
    (fun f fn hf hfn => by
      obtain rfl : f = 3 := Option.some.inj ((show Tryz.prog.funcNamed "ticketline/ticketlinetop.TopNumbers" = some 3 by kernel_rfl).symm.trans hf) |>.symm
      obtain rfl : fn = Tryz.f3 := (Option.some.inj (Tryz.func3.symm.trans hfn)).symm
      exact ⟨by kernel_rfl, fun j t ht => by
        rw [Tryz.params3] at ht
        have hm : t ∈ [22, 3, 3] := by simpa using Array.mem_of_getElem? ht
        have hall : ([22, 3, 3].all fun u => !Tryz.prog.wantsStandIn u) = true := by kernel_rfl
        exact (show Tryz.prog.wantsStandIn t = false by simpa using List.all_eq_true.1 hall t hm)⟩)
    (by kernel_rfl)
#print axioms topNumbers_card
end Go.Proofs.YtfadbmfkidiaoaaGreatDoor
