/- Walks: radio's numbers: within, root, Distance, Len64, Loss (printed by gen.py). -/
import Derived.Test.YtencghlmckbmlaaWorld0
set_option linter.unusedVariables false
set_option linter.unusedSimpArgs false
set_option maxRecDepth 100000
set_option maxHeartbeats 4000000
namespace Go.Proofs.Ytencghlmckbmlaa
open Go Go.RowKit


theorem sp100 (x lo hi : Int) : Spec Try.prog 100 [.d (vi x), .d (vi lo), .d (vi hi)] [] (.d (vb (withinS x lo hi))) [] [] := by
  refine enter 15 [] Try.func100 rfl rfl blOk_nil rfl rfl fun X w0 E0 => ?_
  refine awp_seq ?_
  refine awp_region ?_
  refine seqP (assignT rfl) rfl ?_
  refine ops_nil ?_
  refine awp_seq ?_
  refine awp_region ?_
  refine seqP (moveT rfl) rfl ?_
  refine seqP (moveT rfl) rfl ?_
  refine seqP (intTT rfl rfl rfl) rfl ?_
  refine seqP (moveT rfl) rfl ?_
  refine seqM 3 (g := 14) (x := ?_) rfl rfl (fun Q g10 hJ => ?_) (fun Q g10 hJ => ?_) ?_
  rotate_left 1
  · -- taken
    refine seqP (moveT rfl) rfl ?_
    refine seqGy rfl rfl ?_
    refine seqP (moveT rfl) rfl ?_
    refine seqGy rfl rfl ?_
    refine seqP (intTT rfl rfl rfl) rfl ?_
    refine seqP (pickYT rfl rfl) rfl ?_
    refine hJ 4 _ ?_
    exact ⟨.inl rfl, .inl rfl, .inl rfl, .inr (congrArg (fun b => AV.d (D.v (Value.bool b))) g10), rfl⟩
  · -- left
    refine seqGn rfl rfl ?_
    refine seqGn rfl rfl ?_
    refine seqP (pickNT rfl rfl) rfl ?_
    refine hJ 4 _ ?_
    exact ⟨.inl rfl, .inl rfl, .inl rfl, .inr (congrArg (fun b => AV.d (D.v (Value.bool b))) g10), rfl⟩
  refine seqP (assignT rfl) rfl ?_
  refine ops_nil ?_
  refine awp_ret ?_
  refine ret_plain (resl_tmp rfl resl_nil) ?_ rfl
  simp only [mAnd]; rfl

theorem c100 {x lo hi : Int} (h1 : lo ≤ x) (h2 : x ≤ hi) : Spec Try.prog 100 [.d (vi x), .d (vi lo), .d (vi hi)] [] (.d (vb true)) [] [] := by
  have := sp100 x lo hi; rwa [within_true h1 h2] at this

theorem sp183 (s d : Int) (h0 : 0 ≤ d) (h1 : d ≤ 30000) : Spec Try.prog 183 [.d (vi d), .ptr 101001 0 0 0] [(101001, some (.var [.d (vi s)]))] (.d (vb (rootP s d))) [] [] := by
  refine enter 11 [101001] Try.func183 rfl rfl (blOk_of rfl rfl ⟨rfl, trivial⟩) rfl rfl fun X w0 E0 => ?_
  refine awp_seq ?_
  refine awp_region ?_
  refine seqP (assignT rfl) rfl ?_
  refine ops_nil ?_
  refine awp_seq ?_
  refine awp_region ?_
  refine seqP (moveT rfl) rfl ?_
  refine seqP (intnT rfl rfl rfl (wrap_i64 ⟨by omega, by omega⟩)) rfl ?_
  refine seqP (moveT rfl) rfl ?_
  refine seqP (intnT rfl rfl rfl (wrap_i64 ⟨by omega, by omega⟩)) rfl ?_
  have hsq := sq_b (a := d + 1) (A := 30001) (by omega) (by omega)
  have hsq2 : (30001 : Int) * 30001 = 900060001 := by decide
  refine seqP (intnT rfl rfl rfl (wrap_i64 ⟨by omega, by omega⟩)) rfl ?_
  refine seqP (loadVT rfl rfl rfl rfl) rfl ?_
  refine seqP (intTT rfl rfl rfl) rfl ?_
  refine seqP (assignT rfl) rfl ?_
  refine ops_nil ?_
  refine awp_ret ?_
  refine ret_blocks (resl_tmp rfl resl_nil) ?_ rfl trivial ⟨.inr rfl, trivial⟩
  rfl

theorem sp182 (s : Int) : Spec Try.prog 182 [.d (vi 30000), .clo 183 [] [.ptr 101001 0 0 0]] [(101001, some (.var [.d (vi s)]))] (.d (vi (rootS s))) [] [] := by
  refine enter 26 [101001] Try.func182 rfl rfl (blOk_of rfl rfl ⟨rfl, trivial⟩) rfl rfl fun X w0 E0 => ?_
  refine awp_seq ?_
  refine awp_region ?_
  refine seqP (assignT rfl) rfl ?_
  refine ops_nil ?_
  refine awp_seq ?_
  refine awp_region ?_
  refine seqP (moveT rfl) rfl ?_
  refine seqP (assignT rfl) rfl ?_
  refine seqP (assignT rfl) rfl ?_
  refine ops_nil ?_
  refine awp_seq ?_
  refine awp_block ?_
  refine awp_loop (ι := Nat × Int × Int) (fun v => ⟨[(1, .clo 183 [] [.ptr 101001 0 0 0]), (5, .d (vi v.2.1)), (6, .d (vi v.2.2))], [(101001, some (.var [.d (vi s)]))]⟩) (fun v => 0 ≤ v.2.1 ∧ v.2.1 ≤ v.2.2 ∧ v.2.2 ≤ 30000 ∧ v.2.2 - v.2.1 < (v.1 : Nat) ∧ searchF (rootP s) v.1 v.2.1 v.2.2 = rootS s) (fun v => v.1) (30001, 0, 30000) ⟨by decide, by decide, by decide, by decide, rfl⟩ (turn_sub ⟨⟨rfl, rfl, rfl, trivial⟩, ⟨rfl, trivial⟩⟩) (fun v hP => ?_)
  obtain ⟨f, i, j⟩ := v
  obtain ⟨hi, hij, hj, hf, hR⟩ := hP
  simp only at hi hij hj hf hR ⊢
  obtain ⟨g, rfl⟩ : ∃ g, f = g + 1 := ⟨f - 1, by omega⟩
  unfold searchF at hR
  refine awp_seq ?_
  refine awp_seq ?_
  refine awp_region ?_
  refine seqP (moveT rfl) rfl ?_
  refine seqP (moveT rfl) rfl ?_
  refine seqP (intTT rfl rfl rfl) rfl ?_
  refine ops_nil ?_
  refine awp_if rfl (fun h11 => ?_) (fun h11 => ?_)
  · -- yes
    try simp only [mOr, mAnd, decide_eq_true_eq, decide_eq_false_iff_not, beq_iff_eq, beq_eq_false_iff_ne, bne_iff_ne, ne_eq, bne_eq_false_iff_eq, Bool.or_eq_true, Bool.or_eq_false_iff, Bool.and_eq_true, Bool.and_eq_false_iff, Bool.not_eq_true', Bool.not_eq_false', Int.not_lt, Int.not_le, gt_iff_lt, ge_iff_le] at h11
    refine awp_skip ?_
    refine awp_block ?_
    refine awp_seq ?_
    refine awp_region ?_
    refine seqP (moveT rfl) rfl ?_
    refine seqP (moveT rfl) rfl ?_
    refine seqP (intnT rfl rfl rfl (wrap_i64 ⟨by omega, by omega⟩)) rfl ?_
    refine seqP (convT rfl rfl rfl (wrap_u64 ⟨by omega, by omega⟩)) rfl ?_
    refine seqP (shrT rfl rfl (by omega) ((Int.fdiv_eq_ediv_of_nonneg _ (by decide)).trans (show _ = (i + j) / 2 from rfl))) rfl ?_
    refine seqP (convT rfl rfl rfl (wrap_i64 ⟨by omega, by omega⟩)) rfl ?_
    refine seqP (assignT rfl) rfl ?_
    refine ops_nil ?_
    refine awp_seq ?_
    refine awp_region ?_
    refine seqP (moveT rfl) rfl ?_
    refine seqP (moveT rfl) rfl ?_
    refine seqP (callT rfl rfl rfl (callB_of Try.func183 rfl) (sp183 s _ (by omega) (by omega)) ⟨rfl, trivial⟩) rfl ?_
    refine seqP (notT rfl) rfl ?_
    refine ops_nil ?_
    refine awp_if rfl (fun h21 => ?_) (fun h21 => ?_)
    · -- yes
      have h21 : rootP s ((i + j) / 2) = false := by simpa using h21
      refine awp_region ?_
      refine seqP (moveT rfl) rfl ?_
      refine seqP (intnT rfl rfl rfl (wrap_i64 ⟨by omega, by omega⟩)) rfl ?_
      refine seqP (assignT rfl) rfl ?_
      refine ops_nil ?_
      refine ⟨(g, (i + j) / 2 + 1, j), ⟨by show 0 ≤ (i + j) / 2 + 1; omega, by show (i + j) / 2 + 1 ≤ j; omega, hj, by show j - ((i + j) / 2 + 1) < (g : Nat); omega, by rw [if_pos h11, if_neg (by rw [h21]; decide)] at hR; exact hR⟩, (turn_sub ⟨⟨rfl, rfl, rfl, trivial⟩, ⟨rfl, trivial⟩⟩), by show g < g + 1; omega⟩
    · -- no
      have h21 : rootP s ((i + j) / 2) = true := by simpa using h21
      refine awp_region ?_
      refine seqP (moveT rfl) rfl ?_
      refine seqP (assignT rfl) rfl ?_
      refine ops_nil ?_
      refine ⟨(g, i, (i + j) / 2), ⟨hi, by show i ≤ (i + j) / 2; omega, by show (i + j) / 2 ≤ 30000; omega, by show (i + j) / 2 - i < (g : Nat); omega, by rw [if_pos h11, if_pos h21] at hR; exact hR⟩, (turn_sub ⟨⟨rfl, rfl, rfl, trivial⟩, ⟨rfl, trivial⟩⟩), by show g < g + 1; omega⟩
  · -- no
    try simp only [mOr, mAnd, decide_eq_true_eq, decide_eq_false_iff_not, beq_iff_eq, beq_eq_false_iff_ne, bne_iff_ne, ne_eq, bne_eq_false_iff_eq, Bool.or_eq_true, Bool.or_eq_false_iff, Bool.and_eq_true, Bool.and_eq_false_iff, Bool.not_eq_true', Bool.not_eq_false', Int.not_lt, Int.not_le, gt_iff_lt, ge_iff_le] at h11
    refine awp_exit ?_
    refine awp_seq ?_
    refine awp_region ?_
    refine seqP (moveT rfl) rfl ?_
    refine seqP (assignT rfl) rfl ?_
    refine ops_nil ?_
    refine awp_ret ?_
    refine ret_blocks (resl_tmp rfl resl_nil) ?_ rfl trivial ⟨.inr rfl, trivial⟩
    rw [if_neg (by omega)] at hR
    rw [← hR]; rfl

theorem sp101 (s : Int) : Spec Try.prog 101 [.d (vi s)] [] (.d (vi (rootS s))) [] [] := by
  refine enter 5 [] Try.func101 rfl rfl blOk_nil rfl rfl fun X w0 E0 => ?_
  refine awp_seq ?_
  refine awp_region ?_
  refine seq1 (boxN 101001 rfl rfl rfl) rfl rfl ?_
  refine seqP (assignT rfl) rfl ?_
  refine ops_nil ?_
  refine awp_seq ?_
  refine awp_region ?_
  refine seqP (mkFuncT rfl rfl) rfl ?_
  refine seqP (callT rfl rfl rfl (callB_of Try.func182 rfl) (sp182 s) ⟨rfl, trivial⟩) rfl ?_
  refine seqP (assignT rfl) rfl ?_
  refine ops_nil ?_
  refine awp_ret ?_
  refine ret_plain (resl_tmp rfl resl_nil) ?_ rfl
  rfl

theorem sp40 (x1 y1 x2 y2 : Int) (a0 : -10000 ≤ x1) (a1 : x1 ≤ 10000) (b0 : -10000 ≤ y1) (b1 : y1 ≤ 10000) (c0 : -10000 ≤ x2) (c1 : x2 ≤ 10000) (d0 : -10000 ≤ y2) (d1 : y2 ≤ 10000) : Spec Try.prog 40 [.d (vi x1), .d (vi y1), .d (vi x2), .d (vi y2)] [] (.tup [.d (vi (distS x1 y1 x2 y2)), .d (vi 0)]) [] [] := by
  refine enter 42 [] Try.func40 rfl rfl blOk_nil rfl rfl fun X w0 E0 => ?_
  refine awp_seq ?_
  refine awp_region ?_
  refine seqP (assignT rfl) rfl ?_
  refine seqP (assignT rfl) rfl ?_
  refine ops_nil ?_
  refine awp_seq ?_
  refine awp_seq ?_
  refine awp_region ?_
  refine seqP (moveT rfl) rfl ?_
  refine seqP (moveT rfl) rfl ?_
  refine seqP (moveT rfl) rfl ?_
  refine seqP (moveT rfl) rfl ?_
  refine seqP (litT rfl rfl rfl rfl rfl rfl rfl rfl) rfl ?_
  refine seqP (lenRT rfl rfl rfl) rfl ?_
  refine seqP (moveT rfl) rfl ?_
  refine ops_nil ?_
  refine awp_block ?_
  refine awp_loop (ι := Nat) (fun p => ⟨[(0, .d (vi x1)), (1, .d (vi y1)), (2, .d (vi x2)), (3, .d (vi y2)), (16, .d (.s ([x1, y1, x2, y2].map encInt))), (17, .d (vi (4 : Nat))), (18, .d (vi (p : Nat)))], []⟩) (fun p => p ≤ 4) (fun p => 4 - p) 0 (Nat.zero_le _) (turn_sub ⟨⟨rfl, rfl, rfl, rfl, rfl, rfl, rfl, trivial⟩, trivial⟩) (fun p hP => ?_)
  refine awp_seq ?_
  refine awp_region ?_
  refine seqP (intTT rfl rfl rfl) rfl ?_
  refine ops_nil ?_
  refine awp_seq ?_
  refine awp_if rfl (fun h19 => ?_) (fun h19 => ?_)
  · -- yes
    try simp only [mOr, mAnd, decide_eq_true_eq, decide_eq_false_iff_not, beq_iff_eq, beq_eq_false_iff_ne, bne_iff_ne, ne_eq, bne_eq_false_iff_eq, Bool.or_eq_true, Bool.or_eq_false_iff, Bool.and_eq_true, Bool.and_eq_false_iff, Bool.not_eq_true', Bool.not_eq_false', Int.not_lt, Int.not_le, gt_iff_lt, ge_iff_le] at h19
    refine awp_skip ?_
    refine awp_seq ?_
    refine awp_block ?_
    refine awp_seq ?_
    have hp4 : p < [x1, y1, x2, y2].length := by show p < 4; omega
    have hb : -10000 ≤ [x1, y1, x2, y2].getD p default ∧ [x1, y1, x2, y2].getD p default ≤ 10000 := by
      have := mem_getD hp4
      simp only [List.mem_cons, List.not_mem_nil, or_false] at this
      rcases this with h | h | h | h <;> rw [h] <;> omega
    refine awp_region ?_
    refine seqP (indexRT rfl rfl rfl (by omega) (idx_getD (z := default) hp4) rfl) rfl ?_
    refine seqP (loadRT rfl rfl rfl) rfl ?_
    refine seqP (assignT rfl) rfl ?_
    refine ops_nil ?_
    refine awp_seq ?_
    refine awp_region ?_
    refine seqP (moveT rfl) rfl ?_
    refine seqP (callT rfl rfl rfl (callB_of Try.func100 rfl) (c100 (by omega) (by omega)) trivial) rfl ?_
    refine seqP (notYT rfl) rfl ?_
    refine ops_nil ?_
    refine awp_ifN rfl ?_
    refine awp_skip ?_
    refine awp_region ?_
    refine seqP (intnT rfl rfl rfl (wrap_succ (by omega))) rfl ?_
    refine seqP (moveT rfl) rfl ?_
    refine ops_nil ?_
    refine ⟨(p + 1), (by show p + 1 ≤ 4; omega), (turn_sub ⟨⟨rfl, rfl, rfl, rfl, rfl, rfl, rfl, trivial⟩, trivial⟩), by show 4 - (p + 1) < 4 - p; omega⟩
  · -- no
    try simp only [mOr, mAnd, decide_eq_true_eq, decide_eq_false_iff_not, beq_iff_eq, beq_eq_false_iff_ne, bne_iff_ne, ne_eq, bne_eq_false_iff_eq, Bool.or_eq_true, Bool.or_eq_false_iff, Bool.and_eq_true, Bool.and_eq_false_iff, Bool.not_eq_true', Bool.not_eq_false', Int.not_lt, Int.not_le, gt_iff_lt, ge_iff_le] at h19
    refine awp_exit ?_
    refine awp_seq ?_
    have h1 := sq_b (a := x1 - x2) (A := 20000) (by omega) (by omega)
    have h2 := sq_b (a := y1 - y2) (A := 20000) (by omega) (by omega)
    have h3 : (20000 : Int) * 20000 = 400000000 := by decide
    refine awp_region ?_
    refine seqP (moveT rfl) rfl ?_
    refine seqP (moveT rfl) rfl ?_
    refine seqP (intnT rfl rfl rfl (wrap_i64 ⟨by omega, by omega⟩)) rfl ?_
    refine seqP (moveT rfl) rfl ?_
    refine seqP (moveT rfl) rfl ?_
    refine seqP (intnT rfl rfl rfl (wrap_i64 ⟨by omega, by omega⟩)) rfl ?_
    refine seqP (intnT rfl rfl rfl (wrap_i64 ⟨by omega, by omega⟩)) rfl ?_
    refine seqP (moveT rfl) rfl ?_
    refine seqP (moveT rfl) rfl ?_
    refine seqP (intnT rfl rfl rfl (wrap_i64 ⟨by omega, by omega⟩)) rfl ?_
    refine seqP (moveT rfl) rfl ?_
    refine seqP (moveT rfl) rfl ?_
    refine seqP (intnT rfl rfl rfl (wrap_i64 ⟨by omega, by omega⟩)) rfl ?_
    refine seqP (intnT rfl rfl rfl (wrap_i64 ⟨by omega, by omega⟩)) rfl ?_
    refine seqP (intnT rfl rfl rfl (wrap_i64 ⟨by omega, by omega⟩)) rfl ?_
    refine seqP (callT rfl rfl rfl (callB_of Try.func101 rfl) (sp101 _) trivial) rfl ?_
    refine seqP (assignT rfl) rfl ?_
    refine seqP (assignT rfl) rfl ?_
    refine ops_nil ?_
    refine awp_ret ?_
    refine ret_plain (resl_tmp rfl (resl_tmp rfl resl_nil)) ?_ rfl
    rfl

theorem sp102 (x : Int) (h0 : 0 ≤ x) (h1 : x < 18446744073709551616) : Spec Try.prog 102 [.d (.v (.int .u64 x))] [] (.d (vi (len64S x))) [] [] := by
  refine enter 25 [] Try.func102 rfl rfl blOk_nil rfl rfl fun X w0 E0 => ?_
  refine awp_seq ?_
  refine awp_region ?_
  refine seqP (assignT rfl) rfl ?_
  refine ops_nil ?_
  refine awp_seq ?_
  refine awp_seq ?_
  refine awp_region ?_
  refine seqP (moveT rfl) rfl ?_
  refine seqP (intTT rfl rfl rfl) rfl ?_
  refine ops_nil ?_
  refine awp_if rfl (fun h4 => ?_) (fun h4 => ?_)
  · -- yes
    try simp only [mOr, mAnd, decide_eq_true_eq, decide_eq_false_iff_not, beq_iff_eq, beq_eq_false_iff_ne, bne_iff_ne, ne_eq, bne_eq_false_iff_eq, Bool.or_eq_true, Bool.or_eq_false_iff, Bool.and_eq_true, Bool.and_eq_false_iff, Bool.not_eq_true', Bool.not_eq_false', Int.not_lt, Int.not_le, gt_iff_lt, ge_iff_le] at h4
    refine awp_seq ?_
    refine awp_region ?_
    refine seqP (moveT rfl) rfl ?_
    refine seqP (shrT rfl rfl (by omega) shr32) rfl ?_
    refine seqP (assignT rfl) rfl ?_
    refine ops_nil ?_
    refine awp_region ?_
    refine seqP (assignT rfl) rfl ?_
    refine ops_nil ?_
    refine awp_seq ?_
    refine awp_seq ?_
    refine awp_region ?_
    refine seqP (moveT rfl) rfl ?_
    refine seqP (intTT rfl rfl rfl) rfl ?_
    refine ops_nil ?_
    refine awp_if rfl (fun h8 => ?_) (fun h8 => ?_)
    · -- yes
      try simp only [mOr, mAnd, decide_eq_true_eq, decide_eq_false_iff_not, beq_iff_eq, beq_eq_false_iff_ne, bne_iff_ne, ne_eq, bne_eq_false_iff_eq, Bool.or_eq_true, Bool.or_eq_false_iff, Bool.and_eq_true, Bool.and_eq_false_iff, Bool.not_eq_true', Bool.not_eq_false', Int.not_lt, Int.not_le, gt_iff_lt, ge_iff_le] at h8
      refine awp_seq ?_
      refine awp_region ?_
      refine seqP (moveT rfl) rfl ?_
      refine seqP (shrT rfl rfl (by omega) shr16) rfl ?_
      refine seqP (assignT rfl) rfl ?_
      refine ops_nil ?_
      refine awp_region ?_
      refine seqP (moveT rfl) rfl ?_
      refine seqP (intnT rfl rfl rfl (wrap_i64 ⟨by omega, by omega⟩)) rfl ?_
      refine seqP (assignT rfl) rfl ?_
      refine ops_nil ?_
      refine awp_seq ?_
      refine awp_seq ?_
      refine awp_region ?_
      refine seqP (moveT rfl) rfl ?_
      refine seqP (intTT rfl rfl rfl) rfl ?_
      refine ops_nil ?_
      refine awp_if rfl (fun h14 => ?_) (fun h14 => ?_)
      · -- yes
        try simp only [mOr, mAnd, decide_eq_true_eq, decide_eq_false_iff_not, beq_iff_eq, beq_eq_false_iff_ne, bne_iff_ne, ne_eq, bne_eq_false_iff_eq, Bool.or_eq_true, Bool.or_eq_false_iff, Bool.and_eq_true, Bool.and_eq_false_iff, Bool.not_eq_true', Bool.not_eq_false', Int.not_lt, Int.not_le, gt_iff_lt, ge_iff_le] at h14
        refine awp_seq ?_
        refine awp_region ?_
        refine seqP (moveT rfl) rfl ?_
        refine seqP (shrT rfl rfl (by omega) shr8) rfl ?_
        refine seqP (assignT rfl) rfl ?_
        refine ops_nil ?_
        refine awp_region ?_
        refine seqP (moveT rfl) rfl ?_
        refine seqP (intnT rfl rfl rfl (wrap_i64 ⟨by omega, by omega⟩)) rfl ?_
        refine seqP (assignT rfl) rfl ?_
        refine ops_nil ?_
        refine awp_seq ?_
        refine awp_region ?_
        refine seqP (moveT rfl) rfl ?_
        refine seqP (moveT rfl) rfl ?_
        refine seqP (convT rfl rfl rfl (wrap_u8 ⟨by omega, by omega⟩)) rfl ?_
        refine seqP (indexLT rfl rfl (by omega) (by omega) (by decide +kernel)) rfl ?_
        refine seqP (convT rfl rfl rfl (wrap_len8c (by omega))) rfl ?_
        refine seqP (intnT rfl rfl rfl (wrap_len8 ⟨by omega, by omega⟩ (by omega))) rfl ?_
        refine seqP (assignT rfl) rfl ?_
        refine ops_nil ?_
        refine awp_ret ?_
        refine ret_plain (resl_tmp rfl resl_nil) ?_ rfl
        simp only [len64S, len32, len16]
        repeat (first | rw [if_pos (by omega)] | rw [if_neg (by omega)])
        rfl
      · -- no
        try simp only [mOr, mAnd, decide_eq_true_eq, decide_eq_false_iff_not, beq_iff_eq, beq_eq_false_iff_ne, bne_iff_ne, ne_eq, bne_eq_false_iff_eq, Bool.or_eq_true, Bool.or_eq_false_iff, Bool.and_eq_true, Bool.and_eq_false_iff, Bool.not_eq_true', Bool.not_eq_false', Int.not_lt, Int.not_le, gt_iff_lt, ge_iff_le] at h14
        refine awp_skip ?_
        refine awp_seq ?_
        refine awp_region ?_
        refine seqP (moveT rfl) rfl ?_
        refine seqP (moveT rfl) rfl ?_
        refine seqP (convT rfl rfl rfl (wrap_u8 ⟨by omega, by omega⟩)) rfl ?_
        refine seqP (indexLT rfl rfl (by omega) (by omega) (by decide +kernel)) rfl ?_
        refine seqP (convT rfl rfl rfl (wrap_len8c (by omega))) rfl ?_
        refine seqP (intnT rfl rfl rfl (wrap_len8 ⟨by omega, by omega⟩ (by omega))) rfl ?_
        refine seqP (assignT rfl) rfl ?_
        refine ops_nil ?_
        refine awp_ret ?_
        refine ret_plain (resl_tmp rfl resl_nil) ?_ rfl
        simp only [len64S, len32, len16]
        repeat (first | rw [if_pos (by omega)] | rw [if_neg (by omega)])
        rfl
    · -- no
      try simp only [mOr, mAnd, decide_eq_true_eq, decide_eq_false_iff_not, beq_iff_eq, beq_eq_false_iff_ne, bne_iff_ne, ne_eq, bne_eq_false_iff_eq, Bool.or_eq_true, Bool.or_eq_false_iff, Bool.and_eq_true, Bool.and_eq_false_iff, Bool.not_eq_true', Bool.not_eq_false', Int.not_lt, Int.not_le, gt_iff_lt, ge_iff_le] at h8
      refine awp_skip ?_
      refine awp_seq ?_
      refine awp_seq ?_
      refine awp_region ?_
      refine seqP (moveT rfl) rfl ?_
      refine seqP (intTT rfl rfl rfl) rfl ?_
      refine ops_nil ?_
      refine awp_if rfl (fun h14 => ?_) (fun h14 => ?_)
      · -- yes
        try simp only [mOr, mAnd, decide_eq_true_eq, decide_eq_false_iff_not, beq_iff_eq, beq_eq_false_iff_ne, bne_iff_ne, ne_eq, bne_eq_false_iff_eq, Bool.or_eq_true, Bool.or_eq_false_iff, Bool.and_eq_true, Bool.and_eq_false_iff, Bool.not_eq_true', Bool.not_eq_false', Int.not_lt, Int.not_le, gt_iff_lt, ge_iff_le] at h14
        refine awp_seq ?_
        refine awp_region ?_
        refine seqP (moveT rfl) rfl ?_
        refine seqP (shrT rfl rfl (by omega) shr8) rfl ?_
        refine seqP (assignT rfl) rfl ?_
        refine ops_nil ?_
        refine awp_region ?_
        refine seqP (moveT rfl) rfl ?_
        refine seqP (intnT rfl rfl rfl (wrap_i64 ⟨by omega, by omega⟩)) rfl ?_
        refine seqP (assignT rfl) rfl ?_
        refine ops_nil ?_
        refine awp_seq ?_
        refine awp_region ?_
        refine seqP (moveT rfl) rfl ?_
        refine seqP (moveT rfl) rfl ?_
        refine seqP (convT rfl rfl rfl (wrap_u8 ⟨by omega, by omega⟩)) rfl ?_
        refine seqP (indexLT rfl rfl (by omega) (by omega) (by decide +kernel)) rfl ?_
        refine seqP (convT rfl rfl rfl (wrap_len8c (by omega))) rfl ?_
        refine seqP (intnT rfl rfl rfl (wrap_len8 ⟨by omega, by omega⟩ (by omega))) rfl ?_
        refine seqP (assignT rfl) rfl ?_
        refine ops_nil ?_
        refine awp_ret ?_
        refine ret_plain (resl_tmp rfl resl_nil) ?_ rfl
        simp only [len64S, len32, len16]
        repeat (first | rw [if_pos (by omega)] | rw [if_neg (by omega)])
        rfl
      · -- no
        try simp only [mOr, mAnd, decide_eq_true_eq, decide_eq_false_iff_not, beq_iff_eq, beq_eq_false_iff_ne, bne_iff_ne, ne_eq, bne_eq_false_iff_eq, Bool.or_eq_true, Bool.or_eq_false_iff, Bool.and_eq_true, Bool.and_eq_false_iff, Bool.not_eq_true', Bool.not_eq_false', Int.not_lt, Int.not_le, gt_iff_lt, ge_iff_le] at h14
        refine awp_skip ?_
        refine awp_seq ?_
        refine awp_region ?_
        refine seqP (moveT rfl) rfl ?_
        refine seqP (moveT rfl) rfl ?_
        refine seqP (convT rfl rfl rfl (wrap_u8 ⟨by omega, by omega⟩)) rfl ?_
        refine seqP (indexLT rfl rfl (by omega) (by omega) (by decide +kernel)) rfl ?_
        refine seqP (convT rfl rfl rfl (wrap_len8c (by omega))) rfl ?_
        refine seqP (intnT rfl rfl rfl (wrap_len8 ⟨by omega, by omega⟩ (by omega))) rfl ?_
        refine seqP (assignT rfl) rfl ?_
        refine ops_nil ?_
        refine awp_ret ?_
        refine ret_plain (resl_tmp rfl resl_nil) ?_ rfl
        simp only [len64S, len32, len16]
        repeat (first | rw [if_pos (by omega)] | rw [if_neg (by omega)])
        rfl
  · -- no
    try simp only [mOr, mAnd, decide_eq_true_eq, decide_eq_false_iff_not, beq_iff_eq, beq_eq_false_iff_ne, bne_iff_ne, ne_eq, bne_eq_false_iff_eq, Bool.or_eq_true, Bool.or_eq_false_iff, Bool.and_eq_true, Bool.and_eq_false_iff, Bool.not_eq_true', Bool.not_eq_false', Int.not_lt, Int.not_le, gt_iff_lt, ge_iff_le] at h4
    refine awp_skip ?_
    refine awp_seq ?_
    refine awp_seq ?_
    refine awp_region ?_
    refine seqP (moveT rfl) rfl ?_
    refine seqP (intTT rfl rfl rfl) rfl ?_
    refine ops_nil ?_
    refine awp_if rfl (fun h8 => ?_) (fun h8 => ?_)
    · -- yes
      try simp only [mOr, mAnd, decide_eq_true_eq, decide_eq_false_iff_not, beq_iff_eq, beq_eq_false_iff_ne, bne_iff_ne, ne_eq, bne_eq_false_iff_eq, Bool.or_eq_true, Bool.or_eq_false_iff, Bool.and_eq_true, Bool.and_eq_false_iff, Bool.not_eq_true', Bool.not_eq_false', Int.not_lt, Int.not_le, gt_iff_lt, ge_iff_le] at h8
      refine awp_seq ?_
      refine awp_region ?_
      refine seqP (moveT rfl) rfl ?_
      refine seqP (shrT rfl rfl (by omega) shr16) rfl ?_
      refine seqP (assignT rfl) rfl ?_
      refine ops_nil ?_
      refine awp_region ?_
      refine seqP (moveT rfl) rfl ?_
      refine seqP (intnT rfl rfl rfl (wrap_i64 ⟨by omega, by omega⟩)) rfl ?_
      refine seqP (assignT rfl) rfl ?_
      refine ops_nil ?_
      refine awp_seq ?_
      refine awp_seq ?_
      refine awp_region ?_
      refine seqP (moveT rfl) rfl ?_
      refine seqP (intTT rfl rfl rfl) rfl ?_
      refine ops_nil ?_
      refine awp_if rfl (fun h14 => ?_) (fun h14 => ?_)
      · -- yes
        try simp only [mOr, mAnd, decide_eq_true_eq, decide_eq_false_iff_not, beq_iff_eq, beq_eq_false_iff_ne, bne_iff_ne, ne_eq, bne_eq_false_iff_eq, Bool.or_eq_true, Bool.or_eq_false_iff, Bool.and_eq_true, Bool.and_eq_false_iff, Bool.not_eq_true', Bool.not_eq_false', Int.not_lt, Int.not_le, gt_iff_lt, ge_iff_le] at h14
        refine awp_seq ?_
        refine awp_region ?_
        refine seqP (moveT rfl) rfl ?_
        refine seqP (shrT rfl rfl (by omega) shr8) rfl ?_
        refine seqP (assignT rfl) rfl ?_
        refine ops_nil ?_
        refine awp_region ?_
        refine seqP (moveT rfl) rfl ?_
        refine seqP (intnT rfl rfl rfl (wrap_i64 ⟨by omega, by omega⟩)) rfl ?_
        refine seqP (assignT rfl) rfl ?_
        refine ops_nil ?_
        refine awp_seq ?_
        refine awp_region ?_
        refine seqP (moveT rfl) rfl ?_
        refine seqP (moveT rfl) rfl ?_
        refine seqP (convT rfl rfl rfl (wrap_u8 ⟨by omega, by omega⟩)) rfl ?_
        refine seqP (indexLT rfl rfl (by omega) (by omega) (by decide +kernel)) rfl ?_
        refine seqP (convT rfl rfl rfl (wrap_len8c (by omega))) rfl ?_
        refine seqP (intnT rfl rfl rfl (wrap_len8 ⟨by omega, by omega⟩ (by omega))) rfl ?_
        refine seqP (assignT rfl) rfl ?_
        refine ops_nil ?_
        refine awp_ret ?_
        refine ret_plain (resl_tmp rfl resl_nil) ?_ rfl
        simp only [len64S, len32, len16]
        repeat (first | rw [if_pos (by omega)] | rw [if_neg (by omega)])
        rfl
      · -- no
        try simp only [mOr, mAnd, decide_eq_true_eq, decide_eq_false_iff_not, beq_iff_eq, beq_eq_false_iff_ne, bne_iff_ne, ne_eq, bne_eq_false_iff_eq, Bool.or_eq_true, Bool.or_eq_false_iff, Bool.and_eq_true, Bool.and_eq_false_iff, Bool.not_eq_true', Bool.not_eq_false', Int.not_lt, Int.not_le, gt_iff_lt, ge_iff_le] at h14
        refine awp_skip ?_
        refine awp_seq ?_
        refine awp_region ?_
        refine seqP (moveT rfl) rfl ?_
        refine seqP (moveT rfl) rfl ?_
        refine seqP (convT rfl rfl rfl (wrap_u8 ⟨by omega, by omega⟩)) rfl ?_
        refine seqP (indexLT rfl rfl (by omega) (by omega) (by decide +kernel)) rfl ?_
        refine seqP (convT rfl rfl rfl (wrap_len8c (by omega))) rfl ?_
        refine seqP (intnT rfl rfl rfl (wrap_len8 ⟨by omega, by omega⟩ (by omega))) rfl ?_
        refine seqP (assignT rfl) rfl ?_
        refine ops_nil ?_
        refine awp_ret ?_
        refine ret_plain (resl_tmp rfl resl_nil) ?_ rfl
        simp only [len64S, len32, len16]
        repeat (first | rw [if_pos (by omega)] | rw [if_neg (by omega)])
        rfl
    · -- no
      try simp only [mOr, mAnd, decide_eq_true_eq, decide_eq_false_iff_not, beq_iff_eq, beq_eq_false_iff_ne, bne_iff_ne, ne_eq, bne_eq_false_iff_eq, Bool.or_eq_true, Bool.or_eq_false_iff, Bool.and_eq_true, Bool.and_eq_false_iff, Bool.not_eq_true', Bool.not_eq_false', Int.not_lt, Int.not_le, gt_iff_lt, ge_iff_le] at h8
      refine awp_skip ?_
      refine awp_seq ?_
      refine awp_seq ?_
      refine awp_region ?_
      refine seqP (moveT rfl) rfl ?_
      refine seqP (intTT rfl rfl rfl) rfl ?_
      refine ops_nil ?_
      refine awp_if rfl (fun h14 => ?_) (fun h14 => ?_)
      · -- yes
        try simp only [mOr, mAnd, decide_eq_true_eq, decide_eq_false_iff_not, beq_iff_eq, beq_eq_false_iff_ne, bne_iff_ne, ne_eq, bne_eq_false_iff_eq, Bool.or_eq_true, Bool.or_eq_false_iff, Bool.and_eq_true, Bool.and_eq_false_iff, Bool.not_eq_true', Bool.not_eq_false', Int.not_lt, Int.not_le, gt_iff_lt, ge_iff_le] at h14
        refine awp_seq ?_
        refine awp_region ?_
        refine seqP (moveT rfl) rfl ?_
        refine seqP (shrT rfl rfl (by omega) shr8) rfl ?_
        refine seqP (assignT rfl) rfl ?_
        refine ops_nil ?_
        refine awp_region ?_
        refine seqP (moveT rfl) rfl ?_
        refine seqP (intnT rfl rfl rfl (wrap_i64 ⟨by omega, by omega⟩)) rfl ?_
        refine seqP (assignT rfl) rfl ?_
        refine ops_nil ?_
        refine awp_seq ?_
        refine awp_region ?_
        refine seqP (moveT rfl) rfl ?_
        refine seqP (moveT rfl) rfl ?_
        refine seqP (convT rfl rfl rfl (wrap_u8 ⟨by omega, by omega⟩)) rfl ?_
        refine seqP (indexLT rfl rfl (by omega) (by omega) (by decide +kernel)) rfl ?_
        refine seqP (convT rfl rfl rfl (wrap_len8c (by omega))) rfl ?_
        refine seqP (intnT rfl rfl rfl (wrap_len8 ⟨by omega, by omega⟩ (by omega))) rfl ?_
        refine seqP (assignT rfl) rfl ?_
        refine ops_nil ?_
        refine awp_ret ?_
        refine ret_plain (resl_tmp rfl resl_nil) ?_ rfl
        simp only [len64S, len32, len16]
        repeat (first | rw [if_pos (by omega)] | rw [if_neg (by omega)])
        rfl
      · -- no
        try simp only [mOr, mAnd, decide_eq_true_eq, decide_eq_false_iff_not, beq_iff_eq, beq_eq_false_iff_ne, bne_iff_ne, ne_eq, bne_eq_false_iff_eq, Bool.or_eq_true, Bool.or_eq_false_iff, Bool.and_eq_true, Bool.and_eq_false_iff, Bool.not_eq_true', Bool.not_eq_false', Int.not_lt, Int.not_le, gt_iff_lt, ge_iff_le] at h14
        refine awp_skip ?_
        refine awp_seq ?_
        refine awp_region ?_
        refine seqP (moveT rfl) rfl ?_
        refine seqP (moveT rfl) rfl ?_
        refine seqP (convT rfl rfl rfl (wrap_u8 ⟨by omega, by omega⟩)) rfl ?_
        refine seqP (indexLT rfl rfl (by omega) (by omega) (by decide +kernel)) rfl ?_
        refine seqP (convT rfl rfl rfl (wrap_len8c (by omega))) rfl ?_
        refine seqP (intnT rfl rfl rfl (wrap_len8 ⟨by omega, by omega⟩ (by omega))) rfl ?_
        refine seqP (assignT rfl) rfl ?_
        refine ops_nil ?_
        refine awp_ret ?_
        refine ret_plain (resl_tmp rfl resl_nil) ?_ rfl
        simp only [len64S, len32, len16]
        repeat (first | rw [if_pos (by omega)] | rw [if_neg (by omega)])
        rfl

theorem sp41 (d : Int) (h0 : 0 ≤ d) (h1 : d ≤ 30000) : Spec Try.prog 41 [.d (vi d)] [] (.tup [.d (vi (lossS d)), .d (vi 0)]) [] [] := by
  have hE := lossE_b h0 h1
  have h4 := lossE4 hE
  have hl := len64_le (x := lossE d * lossE d * lossE d * lossE d) (by omega)
  refine enter 22 [] Try.func41 rfl rfl blOk_nil rfl rfl fun X w0 E0 => ?_
  refine awp_seq ?_
  refine awp_region ?_
  refine seqP (assignT rfl) rfl ?_
  refine seqP (assignT rfl) rfl ?_
  refine ops_nil ?_
  refine awp_seq ?_
  refine awp_seq ?_
  refine awp_region ?_
  refine seqP (moveT rfl) rfl ?_
  refine seqP (callT rfl rfl rfl (callB_of Try.func100 rfl) (c100 (by omega) (by omega)) trivial) rfl ?_
  refine seqP (notYT rfl) rfl ?_
  refine ops_nil ?_
  refine awp_ifN rfl ?_
  refine awp_skip ?_
  refine awp_seq ?_
  refine awp_region ?_
  refine seqP (moveT rfl) rfl ?_
  refine seqP (show Step Try.prog _ _ _ (.d (vi (lossE d))) [] [] from maxT rfl rfl) rfl ?_
  refine seqP (convT rfl rfl rfl (wrap_u64 ⟨by omega, by omega⟩)) rfl ?_
  refine seqP (assignT rfl) rfl ?_
  refine ops_nil ?_
  refine awp_seq ?_
  refine awp_region ?_
  refine seqP (moveT rfl) rfl ?_
  refine seqP (moveT rfl) rfl ?_
  refine seqP (intnT rfl rfl rfl (wrap_u64 ⟨by omega, by omega⟩)) rfl ?_
  refine seqP (moveT rfl) rfl ?_
  refine seqP (intnT rfl rfl rfl (wrap_u64 ⟨by omega, by omega⟩)) rfl ?_
  refine seqP (moveT rfl) rfl ?_
  refine seqP (intnT rfl rfl rfl (wrap_u64 ⟨by omega, by omega⟩)) rfl ?_
  refine seqP (callT rfl rfl rfl (callB_of Try.func102 rfl) (sp102 _ h4.2.2.1 (by omega)) trivial) rfl ?_
  refine seqP (intnT rfl rfl rfl (wrap_i64 ⟨by omega, by omega⟩)) rfl ?_
  refine seqP (intnT rfl rfl rfl (wrap_i64 ⟨by omega, by omega⟩)) rfl ?_
  refine seqP (intnT rfl rfl rfl (wrap_i64 ⟨by omega, by omega⟩)) rfl ?_
  refine seqP (assignT rfl) rfl ?_
  refine seqP (assignT rfl) rfl ?_
  refine ops_nil ?_
  refine awp_ret ?_
  refine ret_plain (resl_tmp rfl (resl_tmp rfl resl_nil)) ?_ rfl
  rfl

end Go.Proofs.Ytencghlmckbmlaa
