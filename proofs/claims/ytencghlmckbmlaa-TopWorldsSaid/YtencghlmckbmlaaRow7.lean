/- Walk: wispRow, the chapters' examples (printed by gen.py). -/
import Derived.Test.YtencghlmckbmlaaCan2
import Derived.Test.YtencghlmckbmlaaAir9
set_option linter.unusedVariables false
set_option linter.unusedSimpArgs false
set_option maxRecDepth 100000
set_option maxHeartbeats 4000000
namespace Go.Proofs.Ytencghlmckbmlaa
open Go Go.RowKit

theorem sp14c (w : Air) (l : List Sending) (draws : List Bool) (h : AirOk w) (hL : ListOk w l) (hd : draws.length ≤ 9223372036854775807) :
    Spec Try.prog 14 [w.av, .d (.s (l.map encS)), .d (.s (draws.map encBool))] [] (.tup [.d (.s (((recvS (canS w l) draws w.radios.length l.length).map ints).map encRow)), .d (vi 0)]) [] [] := sp14 w l draws h hL hd fun i j hi hj => sp47 w l i j h hL hi hj

def rowW : Air := ⟨[⟨0, 0, 0, 1⟩, ⟨100, 0, 0, 1⟩, ⟨200, 0, 0, 1⟩], []⟩
def rowL2 : List Sending := [⟨0, 0, 10, -800⟩, ⟨2, 5, 15, -800⟩]
def rowL1 : List Sending := [⟨0, 0, 10, -800⟩]
theorem rowW_ok : AirOk rowW := by
  refine ⟨by decide, by decide, fun r hr => ?_, .inl rfl, fun i hi => absurd hi (Nat.not_lt_zero _)⟩
  simp only [rowW, List.mem_cons, List.not_mem_nil, or_false] at hr
  rcases hr with rfl | rfl | rfl <;> exact ⟨by decide, by decide, by decide, by decide, by decide, by decide, by decide, by decide⟩
theorem rowL2_ok : ListOk rowW rowL2 := by
  refine ⟨by decide, fun s hs => ?_, fun i hi x hx => ?_⟩
  · simp only [rowL2, List.mem_cons, List.not_mem_nil, or_false] at hs
    rcases hs with rfl | rfl <;> exact ⟨by decide, by decide, by decide, by decide, by decide, by decide⟩
  · have hi : i < 2 := hi
    match i, hi with
    | 0, _ => simp at hx
    | 1, _ => simp [rowL2] at hx; subst hx; decide
theorem rowL1_ok : ListOk rowW rowL1 := by
  refine ⟨by decide, fun s hs => ?_, fun i hi x hx => ?_⟩
  · simp only [rowL1, List.mem_cons, List.not_mem_nil, or_false] at hs
    subst hs; exact ⟨by decide, by decide, by decide, by decide, by decide, by decide⟩
  · have hi : i < 1 := hi
    match i, hi with
    | 0, _ => simp at hx
theorem row_e2 : recvS (canS rowW rowL2) [] 3 2 = [[], []] := by decide +kernel
theorem row_e1 : recvS (canS rowW rowL1) [] 3 1 = [[1]] := by decide +kernel
theorem c40 : Spec Try.prog 40 [.d (vi 0), .d (vi 0), .d (vi 3), .d (vi 4)] [] (.tup [.d (vi 5), .d (vi 0)]) [] [] := by
  have := sp40 0 0 3 4 (by decide) (by decide) (by decide) (by decide) (by decide) (by decide) (by decide) (by decide)
  rwa [show distS 0 0 3 4 = 5 by decide +kernel] at this
theorem c41 : Spec Try.prog 41 [.d (vi 100)] [] (.tup [.d (vi 790), .d (vi 0)]) [] [] := by
  have := sp41 100 (by decide) (by decide)
  rwa [show lossS 100 = 790 by decide +kernel] at this
theorem c14a : Spec Try.prog 14 [.agg [.d (.s (rowW.radios.map encRadio)), .nil], .d (.s (rowL2.map encS)), .nil] [] (.tup [.d (.s [[.s []], [.s []]]), .d (vi 0)]) [] [] := by
  have := sp14c rowW rowL2 [] rowW_ok rowL2_ok (by decide)
  rw [show recvS (canS rowW rowL2) [] rowW.radios.length rowL2.length = [[], []] from row_e2] at this
  exact spec_wk rfl this
theorem c14b : Spec Try.prog 14 [.agg [.d (.s (rowW.radios.map encRadio)), .nil], .d (.s (rowL1.map encS)), .nil] [] (.tup [.d (.s [[.s [[vi 1]]]]), .d (vi 0)]) [] [] := by
  have := sp14c rowW rowL1 [] rowW_ok rowL1_ok (by decide)
  rw [show recvS (canS rowW rowL1) [] rowW.radios.length rowL1.length = [[1]] from row_e1] at this
  exact spec_wk rfl this


theorem sp7 : Spec Try.prog 7 [] [] (.d (vb true)) [] [] := by
  refine enter 99 [] Try.func7 rfl rfl blOk_nil rfl rfl fun X w0 E0 => ?_
  refine awp_seq ?_
  refine awp_region ?_
  refine seqP (assignT rfl) rfl ?_
  refine ops_nil ?_
  refine awp_seq ?_
  refine awp_region ?_
  refine seqP (callT rfl rfl rfl (callB_of Try.func40 rfl) c40 trivial) rfl ?_
  refine seqP (moveT rfl) rfl ?_
  refine seqP (extractT rfl rfl) rfl ?_
  refine seqP (extractT rfl rfl) rfl ?_
  refine seqP (assignT rfl) rfl ?_
  refine seqP (assignT rfl) rfl ?_
  refine ops_nil ?_
  refine awp_seq ?_
  refine awp_region ?_
  refine seqP (callT rfl rfl rfl (callB_of Try.func41 rfl) c41 trivial) rfl ?_
  refine seqP (moveT rfl) rfl ?_
  refine seqP (extractT rfl rfl) rfl ?_
  refine seqP (extractT rfl rfl) rfl ?_
  refine seqP (assignT rfl) rfl ?_
  refine seqP (assignT rfl) rfl ?_
  refine ops_nil ?_
  refine awp_seq ?_
  refine awp_region ?_
  refine seqP (buildT rfl rfl rfl rfl) rfl ?_
  refine seqP (buildT rfl rfl rfl rfl) rfl ?_
  refine seqP (buildT rfl rfl rfl rfl) rfl ?_
  refine seqP (litT rfl rfl rfl rfl rfl rfl rfl rfl) rfl ?_
  refine seqP (buildT rfl rfl rfl rfl) rfl ?_
  refine seq1 (allocT rfl rfl) rfl rfl ?_
  refine seq0 (storeVT rfl rfl rfl rfl rfl rfl rfl) ?_
  refine ops_nil ?_
  refine awp_seq ?_
  refine awp_region ?_
  refine seqP (loadVsT rfl rfl rfl rfl) rfl ?_
  refine seqP (buildT rfl rfl rfl rfl) rfl ?_
  refine seqP (buildT rfl rfl rfl rfl) rfl ?_
  refine seqP (litT rfl rfl rfl rfl rfl rfl rfl rfl) rfl ?_
  refine seqP (callT rfl rfl rfl (callB_of Try.func14 rfl) c14a trivial) rfl ?_
  refine seqP (moveT rfl) rfl ?_
  refine seqP (extractT rfl rfl) rfl ?_
  refine seqP (extractT rfl rfl) rfl ?_
  refine seqP (assignT rfl) rfl ?_
  refine seqP (assignT rfl) rfl ?_
  refine ops_nil ?_
  refine awp_seq ?_
  refine awp_region ?_
  refine seqP (loadVsT rfl rfl rfl rfl) rfl ?_
  refine seqP (buildT rfl rfl rfl rfl) rfl ?_
  refine seqP (litT rfl rfl rfl rfl rfl rfl rfl rfl) rfl ?_
  refine seqP (callT rfl rfl rfl (callB_of Try.func14 rfl) c14b trivial) rfl ?_
  refine seqP (moveT rfl) rfl ?_
  refine seqP (extractT rfl rfl) rfl ?_
  refine seqP (extractT rfl rfl) rfl ?_
  refine seqP (assignT rfl) rfl ?_
  refine seqP (assignT rfl) rfl ?_
  refine ops_nil ?_
  refine awp_seq ?_
  refine awp_region ?_
  refine seqP (moveT rfl) rfl ?_
  refine seqP (eqlY rfl rfl rfl) rfl ?_
  refine seqP (moveT rfl) rfl ?_
  refine seqGy rfl rfl ?_
  refine seqP (moveT rfl) rfl ?_
  refine seqGy rfl rfl ?_
  refine seqP (eqlY rfl rfl rfl) rfl ?_
  refine seqP (pickYT rfl rfl) rfl ?_
  refine seqP (moveT rfl) rfl ?_
  refine seqGy rfl rfl ?_
  refine seqP (moveT rfl) rfl ?_
  refine seqGy rfl rfl ?_
  refine seqP (eqlY rfl rfl rfl) rfl ?_
  refine seqP (pickYT rfl rfl) rfl ?_
  refine seqP (moveT rfl) rfl ?_
  refine seqGy rfl rfl ?_
  refine seqP (moveT rfl) rfl ?_
  refine seqGy rfl rfl ?_
  refine seqP (eqlY rfl rfl rfl) rfl ?_
  refine seqP (pickYT rfl rfl) rfl ?_
  refine seqP (moveT rfl) rfl ?_
  refine seqGy rfl rfl ?_
  refine seqP (moveT rfl) rfl ?_
  refine seqGy rfl rfl ?_
  refine seqP (eqlY rfl rfl rfl) rfl ?_
  refine seqP (pickYT rfl rfl) rfl ?_
  refine seqP (moveT rfl) rfl ?_
  refine seqGy rfl rfl ?_
  refine seqP (moveT rfl) rfl ?_
  refine seqGy rfl rfl ?_
  refine seqP (eqlY rfl rfl rfl) rfl ?_
  refine seqP (pickYT rfl rfl) rfl ?_
  refine seqP (moveT rfl) rfl ?_
  refine seqGy rfl rfl ?_
  refine seqP (moveT rfl) rfl ?_
  refine seqGy rfl rfl ?_
  refine seqP (lenRT rfl rfl rfl) rfl ?_
  refine seqGy rfl rfl ?_
  refine seqP (eqlY rfl rfl rfl) rfl ?_
  refine seqP (pickYT rfl rfl) rfl ?_
  refine seqP (moveT rfl) rfl ?_
  refine seqGy rfl rfl ?_
  refine seqP (moveT rfl) rfl ?_
  refine seqGy rfl rfl ?_
  refine seqP (indexRT rfl rfl rfl (by decide) rfl rfl) rfl ?_
  refine seqGy rfl rfl ?_
  refine seqP (loadRT rfl rfl rfl) rfl ?_
  refine seqGy rfl rfl ?_
  refine seqP (lenRT rfl rfl rfl) rfl ?_
  refine seqGy rfl rfl ?_
  refine seqP (eqlY rfl rfl rfl) rfl ?_
  refine seqP (pickYT rfl rfl) rfl ?_
  refine seqP (moveT rfl) rfl ?_
  refine seqGy rfl rfl ?_
  refine seqP (moveT rfl) rfl ?_
  refine seqGy rfl rfl ?_
  refine seqP (indexRT rfl rfl rfl (by decide) rfl rfl) rfl ?_
  refine seqGy rfl rfl ?_
  refine seqP (loadRT rfl rfl rfl) rfl ?_
  refine seqGy rfl rfl ?_
  refine seqP (lenRT rfl rfl rfl) rfl ?_
  refine seqGy rfl rfl ?_
  refine seqP (eqlY rfl rfl rfl) rfl ?_
  refine seqP (pickYT rfl rfl) rfl ?_
  refine seqP (moveT rfl) rfl ?_
  refine seqGy rfl rfl ?_
  refine seqP (moveT rfl) rfl ?_
  refine seqGy rfl rfl ?_
  refine seqP (lenRT rfl rfl rfl) rfl ?_
  refine seqGy rfl rfl ?_
  refine seqP (eqlY rfl rfl rfl) rfl ?_
  refine seqP (pickYT rfl rfl) rfl ?_
  refine seqP (moveT rfl) rfl ?_
  refine seqGy rfl rfl ?_
  refine seqP (moveT rfl) rfl ?_
  refine seqGy rfl rfl ?_
  refine seqP (indexRT rfl rfl rfl (by decide) rfl rfl) rfl ?_
  refine seqGy rfl rfl ?_
  refine seqP (loadRT rfl rfl rfl) rfl ?_
  refine seqGy rfl rfl ?_
  refine seqP (lenRT rfl rfl rfl) rfl ?_
  refine seqGy rfl rfl ?_
  refine seqP (eqlY rfl rfl rfl) rfl ?_
  refine seqP (pickYT rfl rfl) rfl ?_
  refine seqP (moveT rfl) rfl ?_
  refine seqGy rfl rfl ?_
  refine seqP (moveT rfl) rfl ?_
  refine seqGy rfl rfl ?_
  refine seqP (indexRT rfl rfl rfl (by decide) rfl rfl) rfl ?_
  refine seqGy rfl rfl ?_
  refine seqP (loadRT rfl rfl rfl) rfl ?_
  refine seqGy rfl rfl ?_
  refine seqP (indexRT rfl rfl rfl (by decide) rfl rfl) rfl ?_
  refine seqGy rfl rfl ?_
  refine seqP (loadRT rfl rfl rfl) rfl ?_
  refine seqGy rfl rfl ?_
  refine seqP (eqlY rfl rfl rfl) rfl ?_
  refine seqP (pickYT rfl rfl) rfl ?_
  refine seqP (assignT rfl) rfl ?_
  refine ops_nil ?_
  refine awp_ret ?_
  refine ret_plain (resl_tmp rfl resl_nil) ?_ rfl
  rfl

end Go.Proofs.Ytencghlmckbmlaa
