/- RecallNone: for all arguments the law returns true; the tied card: the listed package-level variables hold what the program's text lays. No condition beside that. -/
import Derived.Test.YtdjkheiakkhngaaGreatDoorCards
import Derived.Test.YtdjkheiakkhngaaGreatDoorTie
import Derived.Test.YtdjkheiakkhngaaGreatDoorNRa
import Derived.Test.YtdjkheiakkhngaaGreatDoorNRb
import Derived.SevenTiedAt
import Derived.Stop.Joined
namespace Go.Proofs.YtdjkheiakkhngaaGreatDoor.recallNone
open Go.ChangeShapes Go.WideShapes Go.ChangeAt Go.RowKit Go.Proofs.YtdjkheiakkhngaaGreatDoorKw
set_option linter.unusedVariables false
theorem said : Rows.RecallNoneSaid :=
  OpenClaim.holds_of_wide 3 Tryz.f3 rfl rfl rfl rfl rfl rfl rfl ⟨rfl, rfl, rfl, rfl, rfl⟩ rfl rfl rfl rfl rfl (by kernel_rfl) Tryz.func3 closed
    (of_decide_eq_true (by kernel_rfl)) (by unfold Func.isWrapper; first | (rw [if_pos (by decide +kernel)]; kernel_rfl) | (rw [if_neg (by decide +kernel)]; exact ⟨rfl, rfl⟩))
    (fun os started H enc _ => lifted os started H enc)
theorem plain (f : FuncId) (fn : Func) (hf : Tryz.pinned.checked.prog.funcNamed "latchkey/latchkeylaw23.RecallNone" = some f) (hfn : Tryz.pinned.checked.prog.funcs[f]? = some fn) :
    true = Tryz.pinned.checked.prog.looks [] ∧ ∀ (j : Nat) t, fn.params[j]? = some t → Tryz.pinned.checked.prog.wantsStandIn t = false := by
  obtain rfl : f = 3 := Option.some.inj ((show Tryz.prog.funcNamed "latchkey/latchkeylaw23.RecallNone" = some 3 by kernel_rfl).symm.trans hf) |>.symm
  obtain rfl : fn = Tryz.f3 := (Option.some.inj (Tryz.func3.symm.trans hfn)).symm
  refine ⟨by kernel_rfl, fun j t ht => ?_⟩
  rw [Tryz.params3] at ht
  have hm : t ∈ [3, 3, 2] := by simpa using Array.mem_of_getElem? ht
  have hall : ([3, 3, 2].all fun u => !Tryz.prog.wantsStandIn u) = true := by kernel_rfl
  exact (show Tryz.prog.wantsStandIn t = false by simpa using List.all_eq_true.1 hall t hm)
theorem card : Rows.RecallNoneCardSaid :=
  Claim7.holds_tied_plain_at .later [] _ _ _ _ said (fun _ h => by cases h) (by kernel_rfl) (fun _ h => by cases h) recallNone_row_tie rfl ⟨rfl, rfl⟩ (by kernel_rfl) rfl plain (by kernel_rfl)
end Go.Proofs.YtdjkheiakkhngaaGreatDoor.recallNone
namespace Go.Proofs.YtdjkheiakkhngaaGreatDoor
/-- The card, under a short name, for the claim. -/
theorem recallNone_holds : Rows.RecallNoneCardSaid := recallNone.card
#print axioms recallNone_holds
end Go.Proofs.YtdjkheiakkhngaaGreatDoor
