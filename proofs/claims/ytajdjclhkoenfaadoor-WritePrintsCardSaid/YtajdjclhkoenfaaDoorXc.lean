/- heliographlaw04.WritePrints returns true for every tokens: the tied card, and the row under it. Conditions: the row's own cells (utf8's two tables hold what the program's text lays: tied here to that text). -/
import Derived.Test.YtajdjclhkoenfaaDoorXb
import Derived.Test.YtajdjclhkoenfaaDoorCards
import Derived.Test.YtajdjclhkoenfaaDoorTie
import Derived.SevenTiedAt
set_option linter.unusedVariables false
namespace Go.Proofs.YtajdjclhkoenfaaDoor
open Go.Shelf Go.ChangeShapes Go.WideShapes Go.ChangeAt Go.RowKit Go.Lib

theorem writePrints_holds : Rows.WritePrintsSaid :=
  OpenClaim.holds_of_cond 3 Tryd.f3 rfl rfl rfl rfl rfl rfl rfl ⟨rfl, rfl, rfl, rfl, rfl⟩ rfl rfl rfl rfl rfl (by kernel_rfl) Tryd.func3 (by kernel_rfl)
    (of_decide_eq_true (by kernel_rfl)) (by unfold Func.isWrapper; rw [if_neg (of_decide_eq_false (by kernel_rfl))]; exact ⟨rfl, rfl⟩)
    (fun os started H enc _ F0 => by rw [OpenClaim.pre_eq_preRow]; exact writePrints_lifted os started H enc F0)

/-- The tied card. -/
theorem writePrints_card_holds : Rows.WritePrintsCardSaid :=
  Claim7.holds_tied_plain_at .later [] [.data, .pinned] true (true, "784ce94683acfd1ff300bbde848b9debaa2f85735eb31fa706dcff12affe8aeb") true
    writePrints_holds (fun _ h => by cases h) (by kernel_rfl) (fun _ h => by cases h) writePrints_row_tie rfl ⟨rfl, rfl⟩ (by kernel_rfl) rfl
    (fun f fn hf hfn => by
      obtain rfl : f = 3 := Option.some.inj ((show Tryd.prog.funcNamed "heliograph/heliographlaw04.WritePrints" = some 3 by kernel_rfl).symm.trans hf) |>.symm
      obtain rfl : fn = Tryd.f3 := (Option.some.inj (Tryd.func3.symm.trans hfn)).symm
      exact ⟨by kernel_rfl, fun j t ht => by
        rw [Tryd.params3] at ht
        have h3 : t = 22 := by
          rcases j with _ | j
          · simpa using ht.symm
          · simp at ht
        subst h3
        exact (show Tryd.prog.wantsStandIn 22 = false by kernel_rfl)⟩)
    (by kernel_rfl)
end Go.Proofs.YtajdjclhkoenfaaDoor
