/- Walks: medium.Receivers, over a contract of can (printed by gen.py). -/
import Derived.Test.YtencghlmckbmlaaWorld3
set_option linter.unusedVariables false
set_option linter.unusedSimpArgs false
set_option maxRecDepth 100000
set_option maxHeartbeats 4000000
namespace Go.Proofs.Ytencghlmckbmlaa
open Go Go.RowKit


theorem sp14 (w : Air) (l : List Sending) (draws : List Bool) (h : AirOk w) (hL : ListOk w l) (hd : draws.length ≤ 9223372036854775807)
    (h47 : ∀ i j, i < l.length → j < w.radios.length → Spec Try.prog 47 [w.av, .d (.s (l.map encS)), .d (vi (i : Nat)), .d (vi (j : Nat))] [] (.d (vb (canS w l i j))) [] []) :
    Spec Try.prog 14 [w.av, .d (.s (l.map encS)), .d (.s (draws.map encBool))] [] (.tup [.d (.s (((recvS (canS w l) draws w.radios.length l.length).map ints).map encRow)), .d (vi 0)]) [] [] := by
  have hn32 := h.n32
  have hl64 := hL.len
  refine enter 65 [] Try.func14 rfl rfl blOk_nil rfl rfl fun X w0 E0 => ?_
  refine awp_seq ?_
  refine awp_region ?_
  refine seq1 (boxT rfl rfl rfl) rfl rfl ?_
  refine seqP (assignT rfl) rfl ?_
  refine seqP (assignT rfl) rfl ?_
  refine ops_nil ?_
  refine awp_seq ?_
  refine awp_seq ?_
  refine awp_region ?_
  refine seqP (loadVsT rfl rfl rfl rfl) rfl ?_
  refine seqP (moveT rfl) rfl ?_
  refine seqP (callT rfl rfl rfl (callB_of Try.func46 rfl) (sp46 w l h hL) trivial) rfl ?_
  refine seqP (assignT rfl) rfl ?_
  refine ops_nil ?_
  refine awp_seq ?_
  refine awp_region ?_
  refine seqP (moveT rfl) rfl ?_
  refine seqP (neqFT rfl rfl rfl) rfl ?_
  refine ops_nil ?_
  refine awp_ifN rfl ?_
  refine awp_skip ?_
  refine awp_seq ?_
  refine awp_region ?_
  refine seqP (moveT rfl) rfl ?_
  refine seqP (lenRT rfl rfl (List.length_map ..)) rfl ?_
  refine seq1 (makeCT (n' := 14021) rfl rfl rfl rfl (by omega) (by omega)) rfl rfl ?_
  refine seqP (assignT rfl) rfl ?_
  refine ops_nil ?_
  refine awp_seq ?_
  refine awp_region ?_
  refine seqP (assignT rfl) rfl ?_
  refine ops_nil ?_
  refine awp_seq ?_
  refine awp_seq ?_
  refine awp_region ?_
  refine seqP (moveT rfl) rfl ?_
  refine seqP (lenRT rfl rfl (List.length_map ..)) rfl ?_
  refine seqP (moveT rfl) rfl ?_
  refine ops_nil ?_
  refine awp_block ?_
  refine awp_loop (ι := Nat) (fun p => ⟨[(1, .d (.s (l.map encS))), (2, .d (.s (draws.map encBool))), (3, .ptr 3 0 0 0), (9, .own 14021 0 1 l.length), (10, .d (vi ((outR (canS w l) draws w.radios.length p).1 : Nat))), (23, .d (vi l.length)), (24, .d (vi (p : Nat)))], [(3, some (.var w.cells)), (14021, some (.cells l.length (outCells (outR (canS w l) draws w.radios.length p).2 .nil) [] out_says0))]⟩) (fun p => p ≤ l.length) (fun p => l.length - p) 0 (Nat.zero_le _) (turn_sub ⟨⟨rfl, rfl, rfl, rfl, rfl, rfl, rfl, trivial⟩, ⟨rfl, (congrArg some (cells_eq (funext fun k => by show AV.nil = outCells [] .nil k; unfold outCells; rw [if_neg (show ¬ k < ([] : List (List Nat)).length from Nat.not_lt_zero _)]; split <;> rfl) rfl)), trivial⟩⟩) (fun p hP => ?_)
  refine awp_seq ?_
  refine awp_region ?_
  refine seqP (intTT rfl rfl rfl) rfl ?_
  refine ops_nil ?_
  refine awp_seq ?_
  refine awp_if rfl (fun h25 => ?_) (fun h25 => ?_)
  · -- yes
    try simp only [mOr, mAnd, decide_eq_true_eq, decide_eq_false_iff_not, beq_iff_eq, beq_eq_false_iff_ne, bne_iff_ne, ne_eq, bne_eq_false_iff_eq, Bool.or_eq_true, Bool.or_eq_false_iff, Bool.and_eq_true, Bool.and_eq_false_iff, Bool.not_eq_true', Bool.not_eq_false', Int.not_lt, Int.not_le, gt_iff_lt, ge_iff_le] at h25
    refine awp_skip ?_
    refine awp_seq ?_
    refine awp_block ?_
    refine awp_seq ?_
    have hOl := (out_le (can := canS w l) (draws := draws) (n := w.radios.length) p).2
    have hOc := (out_le (can := canS w l) (draws := draws) (n := w.radios.length) p).1
    have hOm : w.radios.length * p ≤ 32 * 64 := Nat.mul_le_mul hn32 (by omega)
    refine awp_turn (turn_fn_bind 14021 p 14900 1 (f' := outCells (outR (canS w l) draws w.radios.length p).2 (.own 14900 0 1 0)) (nm' := [14900]) (hs' := out_says) rfl (out_at hOl) (out_at hOl) (fun j _ hj => out_other hOl hj) rfl) ?_
    refine awp_region ?_
    refine seqP (moveT rfl) rfl ?_
    refine seqP (assignT rfl) rfl ?_
    refine ops_nil ?_
    refine awp_seq ?_
    refine awp_region ?_
    refine seqP (fieldPT rfl rfl rfl) rfl ?_
    refine seqP (loadVT rfl rfl rfl rfl) rfl ?_
    refine seqP (lenRT rfl rfl (List.length_map ..)) rfl ?_
    refine seqP (moveT rfl) rfl ?_
    refine ops_nil ?_
    refine awp_block ?_
    refine awp_loop (ι := Nat) (fun q => ⟨[(1, .d (.s (l.map encS))), (2, .d (.s (draws.map encBool))), (3, .ptr 3 0 0 0), (9, .own 14021 0 1 l.length), (10, .d (vi ((rowR (canS w l) draws p (outR (canS w l) draws w.radios.length p).1 q).1 : Nat))), (11, .d (vi (p : Nat))), (23, .d (vi l.length)), (24, .d (vi (p : Nat))), (29, .d (vi w.radios.length)), (30, .d (vi (q : Nat)))], [(3, some (.var w.cells)), (14021, some (.cells l.length (outCells (outR (canS w l) draws w.radios.length p).2 (.own 14900 0 1 (rowR (canS w l) draws p (outR (canS w l) draws w.radios.length p).1 q).2.length)) [14900] out_says)), (14900, some (.row 1 ((ints (rowR (canS w l) draws p (outR (canS w l) draws w.radios.length p).1 q).2).map encInt)))]⟩) (fun q => q ≤ w.radios.length) (fun q => w.radios.length - q) 0 (Nat.zero_le _) (turn_sub ⟨⟨rfl, rfl, rfl, rfl, rfl, rfl, rfl, rfl, rfl, rfl, trivial⟩, ⟨rfl, rfl, rfl, trivial⟩⟩) (fun q hQ => ?_)
    refine awp_seq ?_
    refine awp_region ?_
    refine seqP (intTT rfl rfl rfl) rfl ?_
    refine ops_nil ?_
    refine awp_seq ?_
    refine awp_if rfl (fun h31 => ?_) (fun h31 => ?_)
    · -- yes
      try simp only [mOr, mAnd, decide_eq_true_eq, decide_eq_false_iff_not, beq_iff_eq, beq_eq_false_iff_ne, bne_iff_ne, ne_eq, bne_eq_false_iff_eq, Bool.or_eq_true, Bool.or_eq_false_iff, Bool.and_eq_true, Bool.and_eq_false_iff, Bool.not_eq_true', Bool.not_eq_false', Int.not_lt, Int.not_le, gt_iff_lt, ge_iff_le] at h31
      refine awp_skip ?_
      refine awp_seq ?_
      refine awp_block ?_
      refine awp_seq ?_
      refine awp_region ?_
      refine seqP (moveT rfl) rfl ?_
      refine seqP (assignT rfl) rfl ?_
      refine ops_nil ?_
      refine awp_seq ?_
      refine awp_seq ?_
      have hRl := row_le (can := canS w l) (draws := draws) (i := p) (c := (outR (canS w l) draws w.radios.length p).1) q
      refine awp_region ?_
      refine seqP (loadVsT rfl rfl rfl rfl) rfl ?_
      refine seqP (moveT rfl) rfl ?_
      refine seqP (moveT rfl) rfl ?_
      refine seqP (moveT rfl) rfl ?_
      refine seqP (callT rfl rfl rfl (callB_of Try.func47 rfl) (h47 p q (by omega) (by omega)) trivial) rfl ?_
      refine seqP (notT rfl) rfl ?_
      refine ops_nil ?_
      refine awp_if rfl (fun h38 => ?_) (fun h38 => ?_)
      · -- yes
        have hc38 : canS w l p q = false := by simpa using h38
        have hI0 : (rowR (canS w l) draws p (outR (canS w l) draws w.radios.length p).1 (q + 1)) = (rowR (canS w l) draws p (outR (canS w l) draws w.radios.length p).1 q) := by rw [row_succ]; unfold stepR; rw [if_neg (by rw [hc38]; decide)]
        refine awp_exit ?_
        refine awp_region ?_
        refine seqP (intnT rfl rfl rfl (wrap_succ (by omega))) rfl ?_
        refine seqP (moveT rfl) rfl ?_
        refine ops_nil ?_
        refine ⟨(q + 1), (by show q + 1 ≤ _; omega), (turn_sub ⟨⟨rfl, rfl, rfl, rfl, (by rw [hI0]; rfl), rfl, rfl, rfl, rfl, rfl, trivial⟩, ⟨rfl, (congrArg some (cells_eq (by rw [hI0]) rfl)), (by rw [hI0]; rfl), trivial⟩⟩), by show w.radios.length - (q + 1) < w.radios.length - q; omega⟩
      · -- no
        have hc38 : canS w l p q = true := by simpa using h38
        refine awp_skip ?_
        refine awp_seq ?_
        refine awp_seq ?_
        refine awp_region ?_
        refine seqP (moveT rfl) rfl ?_
        refine seqP (moveT rfl) rfl ?_
        refine seqP (lenRT rfl rfl (List.length_map ..)) rfl ?_
        refine seqP (intTT rfl rfl rfl) rfl ?_
        refine seqP (moveT rfl) rfl ?_
        refine seqM 5 (g := 49) (x := ?_) rfl rfl (fun Q g43 hJ => ?_) (fun Q g43 hJ => ?_) ?_
        rotate_left 1
        · -- taken
          have hcl : (rowR (canS w l) draws p (outR (canS w l) draws w.radios.length p).1 q).1 < draws.length := by simp at g43; omega
          refine seqP (moveT rfl) rfl ?_
          refine seqGy rfl rfl ?_
          refine seqP (moveT rfl) rfl ?_
          refine seqGy rfl rfl ?_
          refine seqP (indexRT rfl rfl rfl (by omega) (idx_getD (z := default) hcl) rfl) rfl ?_
          refine seqGy rfl rfl ?_
          refine seqP (loadRT rfl rfl rfl) rfl ?_
          refine seqGy rfl rfl ?_
          refine seqP (notT rfl) rfl ?_
          refine seqP (pickNT rfl rfl) rfl ?_
          refine hJ 6 _ ?_
          exact ⟨.inl rfl, .inl rfl, .inl rfl, .inl rfl, .inl rfl, .inr (congrArg (fun b => AV.d (D.v (Value.bool b))) g43), rfl⟩
        · -- left
          refine seqGn rfl rfl ?_
          refine seqGn rfl rfl ?_
          refine seqGn rfl rfl ?_
          refine seqGn rfl rfl ?_
          refine seqP (pickYT rfl rfl) rfl ?_
          refine hJ 6 _ ?_
          exact ⟨.inl rfl, .inl rfl, .inl rfl, .inl rfl, .inl rfl, .inr (congrArg (fun b => AV.d (D.v (Value.bool b))) g43), rfl⟩
        refine ops_nil ?_
        refine awp_if rfl (fun h49 => ?_) (fun h49 => ?_)
        · -- yes
          simp only [mOr] at h49
          have hI1 : (rowR (canS w l) draws p (outR (canS w l) draws w.radios.length p).1 (q + 1)) = ((rowR (canS w l) draws p (outR (canS w l) draws w.radios.length p).1 q).1 + 1, (rowR (canS w l) draws p (outR (canS w l) draws w.radios.length p).1 q).2 ++ [q]) := by rw [row_succ]; unfold stepR; rw [if_pos hc38, if_pos (show keepR draws _ = true from h49)]
          refine awp_region ?_
          refine seqP (moveT rfl) rfl ?_
          refine seqP (moveT rfl) rfl ?_
          refine seqP (moveT rfl) rfl ?_
          refine seqP (moveT rfl) rfl ?_
          refine seqP (indexWT rfl rfl rfl (by omega) (by omega) (show 0 + ((p : Nat) : Int).toNat = p by simp)) rfl ?_
          refine seqP (loadCT rfl rfl rfl (by omega) (out_at hOl)) rfl ?_
          refine seqP (moveT rfl) rfl ?_
          refine seqP (litT rfl rfl rfl rfl rfl rfl rfl rfl) rfl ?_
          refine seq2 (appendT (b' := 58) rfl rfl rfl rfl rfl rfl (by simp only [List.length_map, ints_len]) (fun row h => by simp at h; subst h; rfl) (show (rowR (canS w l) draws p (outR (canS w l) draws w.radios.length p).1 q).2.length + 1 = ((rowR (canS w l) draws p (outR (canS w l) draws w.radios.length p).1 q).2 ++ [q]).length by simp) (show _ = (ints ((rowR (canS w l) draws p (outR (canS w l) draws w.radios.length p).1 q).2 ++ [q])).map encInt by simp [ints, encInt]) (by simp only [List.length_append, List.length_cons, List.length_nil]; omega) (by simp only [List.length_append, List.length_cons, List.length_nil]; omega)) rfl rfl ?_
          refine seqP (indexWT rfl rfl rfl (by omega) (by omega) (show 0 + ((p : Nat) : Int).toNat = p by simp)) rfl ?_
          refine seq0 (storeCT (outCells (outR (canS w l) draws w.radios.length p).2 (.own 58 0 1 ((rowR (canS w l) draws p (outR (canS w l) draws w.radios.length p).1 q).2 ++ [q]).length)) [58] out_says rfl rfl rfl rfl rfl (by omega) (out_at hOl) (fun j _ hj => out_other hOl hj)) ?_
          refine ops_nil ?_
          refine awp_region ?_
          refine seqP (moveT rfl) rfl ?_
          refine seqP (intnT rfl rfl rfl (wrap_succ (by omega))) rfl ?_
          refine seqP (assignT rfl) rfl ?_
          refine ops_nil ?_
          refine awp_region ?_
          refine seqP (intnT rfl rfl rfl (wrap_succ (by omega))) rfl ?_
          refine seqP (moveT rfl) rfl ?_
          refine ops_nil ?_
          refine ⟨(q + 1), (by show q + 1 ≤ _; omega), (turn_ren (fun n => bif Nat.beq n 14900 then 58 else n) ⟨rfl, rfl, rfl, rfl, (by rw [hI1]; rfl), rfl, rfl, rfl, rfl, rfl, trivial⟩ ⟨rfl, (congrArg some (cells_eq (by rw [hI1]; exact (out_ren (f := fun n => bif Nat.beq n 14900 then 58 else n) (b := 14900) rfl).symm) rfl)), (by rw [hI1]; rfl), trivial⟩ rfl rfl), by show w.radios.length - (q + 1) < w.radios.length - q; omega⟩
        · -- no
          simp only [mOr] at h49
          have hI2 : (rowR (canS w l) draws p (outR (canS w l) draws w.radios.length p).1 (q + 1)) = ((rowR (canS w l) draws p (outR (canS w l) draws w.radios.length p).1 q).1 + 1, (rowR (canS w l) draws p (outR (canS w l) draws w.radios.length p).1 q).2) := by rw [row_succ]; unfold stepR; rw [if_pos hc38, if_neg (show ¬ keepR draws _ = true by rw [show keepR draws _ = false from h49]; decide)]
          refine awp_skip ?_
          refine awp_region ?_
          refine seqP (moveT rfl) rfl ?_
          refine seqP (intnT rfl rfl rfl (wrap_succ (by omega))) rfl ?_
          refine seqP (assignT rfl) rfl ?_
          refine ops_nil ?_
          refine awp_region ?_
          refine seqP (intnT rfl rfl rfl (wrap_succ (by omega))) rfl ?_
          refine seqP (moveT rfl) rfl ?_
          refine ops_nil ?_
          refine ⟨(q + 1), (by show q + 1 ≤ _; omega), (turn_sub ⟨⟨rfl, rfl, rfl, rfl, (by rw [hI2]; rfl), rfl, rfl, rfl, rfl, rfl, trivial⟩, ⟨rfl, (congrArg some (cells_eq (by rw [hI2]) rfl)), (by rw [hI2]; rfl), trivial⟩⟩), by show w.radios.length - (q + 1) < w.radios.length - q; omega⟩
    · -- no
      try simp only [mOr, mAnd, decide_eq_true_eq, decide_eq_false_iff_not, beq_iff_eq, beq_eq_false_iff_ne, bne_iff_ne, ne_eq, bne_eq_false_iff_eq, Bool.or_eq_true, Bool.or_eq_false_iff, Bool.and_eq_true, Bool.and_eq_false_iff, Bool.not_eq_true', Bool.not_eq_false', Int.not_lt, Int.not_le, gt_iff_lt, ge_iff_le] at h31
      refine awp_exit ?_
      obtain rfl : q = w.radios.length := by omega
      have hIn : (outR (canS w l) draws w.radios.length (p + 1)) = ((rowR (canS w l) draws p (outR (canS w l) draws w.radios.length p).1 w.radios.length).1, (outR (canS w l) draws w.radios.length p).2 ++ [(rowR (canS w l) draws p (outR (canS w l) draws w.radios.length p).1 w.radios.length).2]) := out_succ
      refine awp_turn (turn_fn_freeze 14021 p 14900 (f' := outCells ((outR (canS w l) draws w.radios.length p).2 ++ [(rowR (canS w l) draws p (outR (canS w l) draws w.radios.length p).1 w.radios.length).2]) .nil) (nm' := []) (hs' := out_says0) rfl (out_at hOl) rfl (by simp only [List.length_map, ints_len]) (out_done hOl) (fun j _ hj => out_done_other hOl hj)) ?_
      refine awp_region ?_
      refine seqP (intnT rfl rfl rfl (wrap_succ (by omega))) rfl ?_
      refine seqP (moveT rfl) rfl ?_
      refine ops_nil ?_
      refine ⟨(p + 1), (by show p + 1 ≤ _; omega), (turn_sub ⟨⟨rfl, rfl, rfl, rfl, (by rw [hIn]; rfl), rfl, rfl, trivial⟩, ⟨rfl, (congrArg some (cells_eq (by rw [hIn]) rfl)), trivial⟩⟩), by show l.length - (p + 1) < l.length - p; omega⟩
  · -- no
    try simp only [mOr, mAnd, decide_eq_true_eq, decide_eq_false_iff_not, beq_iff_eq, beq_eq_false_iff_ne, bne_iff_ne, ne_eq, bne_eq_false_iff_eq, Bool.or_eq_true, Bool.or_eq_false_iff, Bool.and_eq_true, Bool.and_eq_false_iff, Bool.not_eq_true', Bool.not_eq_false', Int.not_lt, Int.not_le, gt_iff_lt, ge_iff_le] at h25
    refine awp_exit ?_
    refine awp_seq ?_
    obtain rfl : p = l.length := by omega
    have hOl := (out_le (can := canS w l) (draws := draws) (n := w.radios.length) l.length).2
    refine awp_turn (turn_cells_row 14021 (fun i => .s ((ints ((outR (canS w l) draws w.radios.length l.length).2.getD i default)).map encInt)) rfl (fun i hi => out_all hOl hi)) ?_
    rw [out_rows hOl]
    refine awp_turn (freezeT 9 14021 rfl rfl (by simp only [List.length_map]; exact hOl)) ?_
    refine awp_region ?_
    refine seqP (moveT rfl) rfl ?_
    refine seqP (assignT rfl) rfl ?_
    refine seqP (assignT rfl) rfl ?_
    refine ops_nil ?_
    refine awp_ret ?_
    refine ret_plain (resl_tmp rfl (resl_tmp rfl resl_nil)) ?_ rfl
    rfl

end Go.Proofs.Ytencghlmckbmlaa
