/- Walk: others (its function value captures two boxes, read only) (printed by gen.py). -/
import Derived.Test.YtencghlmckbmlaaRop
set_option linter.unusedVariables false
set_option linter.unusedSimpArgs false
set_option maxRecDepth 100000
set_option maxHeartbeats 4000000
namespace Go.Proofs.Ytencghlmckbmlaa
open Go Go.RowKit


theorem sp107 (l : List Sending) (i : Nat) : Spec Try.prog 107 [.d (.s (l.map encS)), .d (vi (i : Nat))] [] (.clo 189 [] [.rop [.s (l.map encS)], .rop [vi (i : Nat)]]) [] [] := by
  refine enter 6 [] Try.func107 rfl rfl blOk_nil rfl rfl fun X w0 E0 => ?_
  refine awp_seq ?_
  refine awp_region ?_
  refine seq1 (boxT rfl rfl rfl) rfl rfl ?_
  refine seq1 (boxT rfl rfl rfl) rfl rfl ?_
  refine seqP (assignT rfl) rfl ?_
  refine ops_nil ?_
  refine awp_seq ?_
  refine awp_region ?_
  refine seqP (mkFuncT rfl rfl) rfl ?_
  refine seqP (assignT rfl) rfl ?_
  refine ops_turn (turn_rop 2 [.s (l.map encS)] (tl' := [(4, .clo 189 [] [.rop [.s (l.map encS)], .ptr 3 0 0 0])]) rfl ⟨rfl, trivial⟩) ?_
  refine ops_turn (turn_rop 3 [vi (i : Nat)] (tl' := [(4, .clo 189 [] [.rop [.s (l.map encS)], .rop [vi (i : Nat)]])]) rfl ⟨rfl, trivial⟩) ?_
  refine ops_nil ?_
  refine awp_ret ?_
  refine ret_plain (resl_tmp rfl resl_nil) ?_ rfl
  rfl

end Go.Proofs.Ytencghlmckbmlaa
