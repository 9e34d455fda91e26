/- Walks: wispServed (printed by gen.py). -/
import Derived.Test.YtencghlmckbmlaaRun2
import Derived.Test.YtencghlmckbmlaaFlow3
set_option linter.unusedVariables false
set_option linter.unusedSimpArgs false
set_option maxRecDepth 100000
set_option maxHeartbeats 4000000
namespace Go.Proofs.Ytencghlmckbmlaa
open Go Go.RowKit

def w12 : Shares := ⟨[⟨1, 0⟩, ⟨2, 0⟩], 0⟩
def wfr : List (List Int) := [[1000, 1000], [1000, 1000, 1000, 1000]]
def word : List Int := [0, 1, 1, 0, 1, 1]
theorem ck12 : ckS w12 = 0 := by decide +kernel
theorem new12 : (newS [1, 2]).1 = w12 ∧ (newS [1, 2]).2 = 0 := by
  have h : ckS ⟨mkL [1, 2], 0⟩ = 0 := ck12
  simp only [newS, if_pos h]; exact ⟨rfl, trivial⟩
theorem run12 : (runF (total wfr) w12.list w12.turn.toNat wfr []).1 = word := by decide +kernel
def wq : Fifo := ⟨[⟨3, 100, 0⟩], 0, 0⟩
def wq' : Fifo := ⟨[], 105000, 0⟩
theorem c30 : Spec Try.prog 30 [.d (.s ([(1 : Int), 2].map encInt))] [] (.tup [w12.av, .d (vi 0)]) [] [] := by
  have := sp30 [1, 2] (by decide); rwa [new12.1, new12.2] at this
theorem c73 : Spec Try.prog 73 [w12.av, .d (.s (wfr.map encRow))] [] (.tup [.d (.s (word.map encInt)), Shares.av ⟨(runF (total wfr) w12.list w12.turn.toNat wfr []).2.1, ((runF (total wfr) w12.list w12.turn.toNat wfr []).2.2 : Nat)⟩, .d (vi 0)]) [] [] := by
  have := sp73 w12 wfr ck12 (by decide +kernel) rfl (by decide +kernel); rwa [run12] at this
theorem put12 : askedS Fifo.zero 0 = 0 := by decide +kernel
theorem ask12 : askedS wq 5000 = 0 := by decide +kernel
theorem c74 : Spec Try.prog 74 [Fifo.zero.av, .d (vi 3), .d (vi 100), .d (vi 0)] [] (.tup [wq.av, .d (vi 0)]) [] [] := by
  have := sp74 .zero 3 100 0 (by decide)
  simp only [putS, put12] at this
  exact this
theorem c75 : Spec Try.prog 75 [wq.av, .d (vi 5000)] [] (takeAV (takeS wq 5000)) [] [] := sp75 wq 5000 (by decide)


theorem tk1 : (takeS wq 5000).2.1.id = 3 := by decide +kernel
theorem tk2 : (takeS wq 5000).2.2.1 = true := by decide +kernel
theorem tk3 : (takeS wq 5000).2.2.2.2 = 0 := by decide +kernel


theorem sp29 : Spec Try.prog 29 [] [] (.d (vb true)) [] [] := by
  refine enter 84 [] Try.func29 rfl rfl blOk_nil rfl rfl fun X w0 E0 => ?_
  refine awp_seq ?_
  refine awp_region ?_
  refine seqP (assignT rfl) rfl ?_
  refine ops_nil ?_
  refine awp_seq ?_
  refine awp_region ?_
  refine seqP (litT rfl rfl rfl rfl rfl rfl rfl rfl) rfl ?_
  refine seqP (callT rfl rfl rfl (callB_of Try.func30 rfl) c30 trivial) rfl ?_
  refine seqP (moveT rfl) rfl ?_
  refine seqP (extractT rfl rfl) rfl ?_
  refine seqP (extractT rfl rfl) rfl ?_
  refine seq1 (allocT rfl rfl) rfl rfl ?_
  refine seq0 (storeVT rfl rfl rfl rfl rfl rfl rfl) ?_
  refine seqP (assignT rfl) rfl ?_
  refine ops_nil ?_
  refine awp_seq ?_
  refine awp_region ?_
  refine seqP (loadVsT rfl rfl rfl rfl) rfl ?_
  refine seqP (litT rfl rfl rfl rfl rfl rfl rfl rfl) rfl ?_
  refine seqP (litT rfl rfl rfl rfl rfl rfl rfl rfl) rfl ?_
  refine seqP (litT rfl rfl rfl rfl rfl rfl rfl rfl) rfl ?_
  refine seqP (callT rfl rfl rfl (callB_of Try.func73 rfl) c73 trivial) rfl ?_
  refine seqP (moveT rfl) rfl ?_
  refine seqP (extractT rfl rfl) rfl ?_
  refine seqP (extractT rfl rfl) rfl ?_
  refine seqP (extractT rfl rfl) rfl ?_
  refine seq1 (allocT rfl rfl) rfl rfl ?_
  refine seqP (assignT rfl) rfl ?_
  refine seq0 (storeVT rfl rfl rfl rfl rfl rfl rfl) ?_
  refine seqP (assignT rfl) rfl ?_
  refine ops_nil ?_
  refine awp_seq ?_
  refine awp_region ?_
  refine seqP (buildT rfl rfl rfl rfl) rfl ?_
  refine seqP (callT rfl rfl rfl (callB_of Try.func74 rfl) (spec_wk rfl c74) trivial) rfl ?_
  refine seqP (moveT rfl) rfl ?_
  refine seqP (extractT rfl rfl) rfl ?_
  refine seqP (extractT rfl rfl) rfl ?_
  refine seq1 (allocT rfl rfl) rfl rfl ?_
  refine seq0 (storeVT rfl rfl rfl rfl rfl rfl rfl) ?_
  refine seqP (assignT rfl) rfl ?_
  refine ops_nil ?_
  refine awp_seq ?_
  refine awp_region ?_
  refine seqP (loadVsT rfl rfl rfl rfl) rfl ?_
  refine seqP (callT rfl rfl rfl (callB_of Try.func75 rfl) c75 trivial) rfl ?_
  refine seqP (moveT rfl) rfl ?_
  refine seqP (extractT rfl rfl) rfl ?_
  refine seqP (extractT rfl rfl) rfl ?_
  refine seqP (extractT rfl rfl) rfl ?_
  refine seqP (extractT rfl rfl) rfl ?_
  refine seqP (extractT rfl rfl) rfl ?_
  refine seq1 (allocT rfl rfl) rfl rfl ?_
  refine seq1 (allocT rfl rfl) rfl rfl ?_
  refine seq0 (storeVT rfl rfl rfl rfl rfl rfl rfl) ?_
  refine seq0 (storeVT rfl rfl rfl rfl rfl rfl rfl) ?_
  refine seqP (assignT rfl) rfl ?_
  refine seqP (assignT rfl) rfl ?_
  refine seqP (assignT rfl) rfl ?_
  refine ops_nil ?_
  refine awp_seq ?_
  refine awp_seq ?_
  refine awp_region ?_
  refine seqP (moveT rfl) rfl ?_
  refine seqP (intTT rfl rfl rfl) rfl ?_
  refine seqP (moveT rfl) rfl ?_
  refine seqM 2 (g := 47) (x := ?_) rfl rfl (fun Q g44 hJ => ?_) (fun Q g44 hJ => ?_) ?_
  rotate_left 1
  · -- taken
    refine seqP (moveT rfl) rfl ?_
    refine seqGy rfl rfl ?_
    refine seqP (intTT rfl rfl rfl) rfl ?_
    refine seqP (pickNT rfl rfl) rfl ?_
    refine hJ 3 _ ?_
    exact ⟨.inl rfl, .inl rfl, .inr (congrArg (fun b => AV.d (D.v (Value.bool b))) g44), rfl⟩
  · -- left
    refine seqGn rfl rfl ?_
    refine seqP (pickYT rfl rfl) rfl ?_
    refine hJ 3 _ ?_
    exact ⟨.inl rfl, .inl rfl, .inr (congrArg (fun b => AV.d (D.v (Value.bool b))) g44), rfl⟩
  refine seqP (moveT rfl) rfl ?_
  refine seqM 2 (g := 51) (x := ?_) rfl rfl (fun Q g48 hJ => ?_) (fun Q g48 hJ => ?_) ?_
  rotate_left 1
  · -- taken
    refine seqP (moveT rfl) rfl ?_
    refine seqGy rfl rfl ?_
    refine seqP (intTT rfl rfl rfl) rfl ?_
    refine seqP (pickNT rfl rfl) rfl ?_
    refine hJ 3 _ ?_
    exact ⟨.inl rfl, .inl rfl, .inr (congrArg (fun b => AV.d (D.v (Value.bool b))) g48), rfl⟩
  · -- left
    refine seqGn rfl rfl ?_
    refine seqP (pickYT rfl rfl) rfl ?_
    refine hJ 3 _ ?_
    exact ⟨.inl rfl, .inl rfl, .inr (congrArg (fun b => AV.d (D.v (Value.bool b))) g48), rfl⟩
  refine seqP (moveT rfl) rfl ?_
  refine seqM 2 (g := 55) (x := ?_) rfl rfl (fun Q g52 hJ => ?_) (fun Q g52 hJ => ?_) ?_
  rotate_left 1
  · -- taken
    refine seqP (moveT rfl) rfl ?_
    refine seqGy rfl rfl ?_
    refine seqP (intTT rfl rfl rfl) rfl ?_
    refine seqP (pickNT rfl rfl) rfl ?_
    refine hJ 3 _ ?_
    exact ⟨.inl rfl, .inl rfl, .inr (congrArg (fun b => AV.d (D.v (Value.bool b))) g52), rfl⟩
  · -- left
    refine seqGn rfl rfl ?_
    refine seqP (pickYT rfl rfl) rfl ?_
    refine hJ 3 _ ?_
    exact ⟨.inl rfl, .inl rfl, .inr (congrArg (fun b => AV.d (D.v (Value.bool b))) g52), rfl⟩
  refine seqP (moveT rfl) rfl ?_
  refine seqM 2 (g := 59) (x := ?_) rfl rfl (fun Q g56 hJ => ?_) (fun Q g56 hJ => ?_) ?_
  rotate_left 1
  · -- taken
    refine seqP (moveT rfl) rfl ?_
    refine seqGy rfl rfl ?_
    refine seqP (notT rfl) rfl ?_
    refine seqP (pickNT rfl rfl) rfl ?_
    refine hJ 3 _ ?_
    exact ⟨.inl rfl, .inl rfl, .inr (congrArg (fun b => AV.d (D.v (Value.bool b))) g56), rfl⟩
  · -- left
    refine seqGn rfl rfl ?_
    refine seqP (pickYT rfl rfl) rfl ?_
    refine hJ 3 _ ?_
    exact ⟨.inl rfl, .inl rfl, .inr (congrArg (fun b => AV.d (D.v (Value.bool b))) g56), rfl⟩
  refine seqP (moveT rfl) rfl ?_
  refine seqM 3 (g := 64) (x := ?_) rfl rfl (fun Q g60 hJ => ?_) (fun Q g60 hJ => ?_) ?_
  rotate_left 1
  · -- taken
    refine seqP (fieldPT rfl rfl rfl) rfl ?_
    refine seqGy rfl rfl ?_
    refine seqP (loadVT rfl rfl rfl rfl) rfl ?_
    refine seqGy rfl rfl ?_
    refine seqP (intTT rfl rfl rfl) rfl ?_
    refine seqP (pickNT rfl rfl) rfl ?_
    refine hJ 4 _ ?_
    exact ⟨.inl rfl, .inl rfl, .inl rfl, .inr (congrArg (fun b => AV.d (D.v (Value.bool b))) g60), rfl⟩
  · -- left
    refine seqGn rfl rfl ?_
    refine seqGn rfl rfl ?_
    refine seqP (pickYT rfl rfl) rfl ?_
    refine hJ 4 _ ?_
    exact ⟨.inl rfl, .inl rfl, .inl rfl, .inr (congrArg (fun b => AV.d (D.v (Value.bool b))) g60), rfl⟩
  refine seqP (moveT rfl) rfl ?_
  refine seqM 3 (g := 69) (x := ?_) rfl rfl (fun Q g65 hJ => ?_) (fun Q g65 hJ => ?_) ?_
  rotate_left 1
  · -- taken
    refine seqP (moveT rfl) rfl ?_
    refine seqGy rfl rfl ?_
    refine seqP (lenRT rfl rfl (List.length_map ..)) rfl ?_
    refine seqGy rfl rfl ?_
    refine seqP (intTT rfl rfl rfl) rfl ?_
    refine seqP (pickNT rfl rfl) rfl ?_
    refine hJ 4 _ ?_
    exact ⟨.inl rfl, .inl rfl, .inl rfl, .inr (congrArg (fun b => AV.d (D.v (Value.bool b))) g65), rfl⟩
  · -- left
    refine seqGn rfl rfl ?_
    refine seqGn rfl rfl ?_
    refine seqP (pickYT rfl rfl) rfl ?_
    refine hJ 4 _ ?_
    exact ⟨.inl rfl, .inl rfl, .inl rfl, .inr (congrArg (fun b => AV.d (D.v (Value.bool b))) g65), rfl⟩
  refine ops_nil ?_
  refine awp_if rfl (fun h69 => ?_) (fun h69 => ?_)
  · -- yes
    exfalso
    simp [tk1, tk2, tk3, word] at h69
  · -- no
    try simp only [mOr, mAnd, decide_eq_true_eq, decide_eq_false_iff_not, beq_iff_eq, beq_eq_false_iff_ne, bne_iff_ne, ne_eq, bne_eq_false_iff_eq, Bool.or_eq_true, Bool.or_eq_false_iff, Bool.and_eq_true, Bool.and_eq_false_iff, Bool.not_eq_true', Bool.not_eq_false', Int.not_lt, Int.not_le, gt_iff_lt, ge_iff_le] at h69
    refine awp_skip ?_
    refine awp_seq ?_
    refine awp_seq ?_
    refine awp_region ?_
    refine seqP (litT rfl rfl rfl rfl rfl rfl rfl rfl) rfl ?_
    refine seqP (lenRT rfl rfl rfl) rfl ?_
    refine seqP (moveT rfl) rfl ?_
    refine ops_nil ?_
    refine awp_block ?_
    refine awp_loop (ι := Nat) (fun p => ⟨[(3, .d (.s (word.map encInt))), (70, .d (.s (word.map encInt))), (71, .d (vi 6)), (72, .d (vi (p : Nat)))], []⟩) (fun p => p ≤ 6) (fun p => 6 - p) 0 (Nat.zero_le _) (turn_sub ⟨⟨rfl, rfl, rfl, rfl, trivial⟩, trivial⟩) (fun p hP => ?_)
    refine awp_seq ?_
    refine awp_region ?_
    refine seqP (intTT rfl rfl rfl) rfl ?_
    refine ops_nil ?_
    refine awp_seq ?_
    refine awp_if rfl (fun h73 => ?_) (fun h73 => ?_)
    · -- yes
      try simp only [mOr, mAnd, decide_eq_true_eq, decide_eq_false_iff_not, beq_iff_eq, beq_eq_false_iff_ne, bne_iff_ne, ne_eq, bne_eq_false_iff_eq, Bool.or_eq_true, Bool.or_eq_false_iff, Bool.and_eq_true, Bool.and_eq_false_iff, Bool.not_eq_true', Bool.not_eq_false', Int.not_lt, Int.not_le, gt_iff_lt, ge_iff_le] at h73
      refine awp_skip ?_
      refine awp_seq ?_
      refine awp_block ?_
      refine awp_seq ?_
      refine awp_region ?_
      refine seqP (moveT rfl) rfl ?_
      have hw : p < word.length := by show p < 6; omega
      refine seqP (indexRT rfl rfl rfl (by omega) (idx_getD (z := (0 : Int)) hw) rfl) rfl ?_
      refine seqP (loadRT rfl rfl rfl) rfl ?_
      refine seqP (assignT rfl) rfl ?_
      refine seqP (assignT rfl) rfl ?_
      refine ops_nil ?_
      refine awp_seq ?_
      refine awp_region ?_
      refine seqP (moveT rfl) rfl ?_
      refine seqP (moveT rfl) rfl ?_
      refine seqP (indexRT rfl rfl rfl (by omega) (idx_getD (z := (0 : Int)) hw) rfl) rfl ?_
      refine seqP (loadRT rfl rfl rfl) rfl ?_
      refine seqP (moveT rfl) rfl ?_
      refine seqP (intTT rfl rfl rfl) rfl ?_
      refine ops_nil ?_
      refine awp_if rfl (fun h82 => ?_) (fun h82 => ?_)
      · -- yes
        exfalso
        simp at h82
      · -- no
        try simp only [mOr, mAnd, decide_eq_true_eq, decide_eq_false_iff_not, beq_iff_eq, beq_eq_false_iff_ne, bne_iff_ne, ne_eq, bne_eq_false_iff_eq, Bool.or_eq_true, Bool.or_eq_false_iff, Bool.and_eq_true, Bool.and_eq_false_iff, Bool.not_eq_true', Bool.not_eq_false', Int.not_lt, Int.not_le, gt_iff_lt, ge_iff_le] at h82
        refine awp_skip ?_
        refine awp_region ?_
        refine seqP (intnT rfl rfl rfl (wrap_succ (by omega))) rfl ?_
        refine seqP (moveT rfl) rfl ?_
        refine ops_nil ?_
        refine ⟨(p + 1), (by show p + 1 ≤ 6; omega), (turn_sub ⟨⟨rfl, rfl, rfl, rfl, trivial⟩, trivial⟩), by show 6 - (p + 1) < 6 - p; omega⟩
    · -- no
      try simp only [mOr, mAnd, decide_eq_true_eq, decide_eq_false_iff_not, beq_iff_eq, beq_eq_false_iff_ne, bne_iff_ne, ne_eq, bne_eq_false_iff_eq, Bool.or_eq_true, Bool.or_eq_false_iff, Bool.and_eq_true, Bool.and_eq_false_iff, Bool.not_eq_true', Bool.not_eq_false', Int.not_lt, Int.not_le, gt_iff_lt, ge_iff_le] at h73
      refine awp_exit ?_
      refine awp_seq ?_
      refine awp_region ?_
      refine seqP (assignT rfl) rfl ?_
      refine ops_nil ?_
      refine awp_ret ?_
      refine ret_plain (resl_tmp rfl resl_nil) ?_ rfl
      rfl

end Go.Proofs.Ytencghlmckbmlaa
