/- Walks: queue, continued (printed by gen.py). -/
import Derived.Test.YtencghlmckbmlaaQueue1
set_option linter.unusedVariables false
set_option linter.unusedSimpArgs false
set_option maxRecDepth 100000
namespace Go.Proofs.Ytencghlmckbmlaa
open Go Go.RowKit

def askedS (q : Fifo) (now : Int) : Int := if checkS q = 0 then (if now < latestS q.items ∨ now > 1099511627776 then 2 else 0) else checkS q

theorem item_rows {l : List Item} : ∀ row ∈ l.map encItem, row.length = 3 := fun row h => by
  obtain ⟨x, _, rfl⟩ := List.mem_map.1 h; rfl


theorem sp150 (q : Fifo) (now : Int) (hl : q.items.length ≤ 100000000) : Spec Try.prog 150 [q.av, .d (vi now)] [] (.d (vi (askedS q now))) [] [] := by
  refine enter 19 [] Try.func150 rfl rfl blOk_nil rfl rfl fun X w0 E0 => ?_
  refine awp_seq ?_
  refine awp_region ?_
  refine seq1 (boxT rfl rfl rfl) rfl rfl ?_
  refine seqP (assignT rfl) rfl ?_
  refine ops_nil ?_
  refine awp_seq ?_
  refine awp_seq ?_
  refine awp_region ?_
  refine seqP (loadVsT rfl rfl rfl rfl) rfl ?_
  refine seqP (callT rfl rfl rfl (callB_of Try.func208 rfl) (sp208 q hl) trivial) rfl ?_
  refine seqP (assignT rfl) rfl ?_
  refine ops_nil ?_
  refine awp_seq ?_
  refine awp_region ?_
  refine seqP (moveT rfl) rfl ?_
  refine seqP (intTT rfl rfl rfl) rfl ?_
  refine ops_nil ?_
  refine awp_if rfl (fun h9 => ?_) (fun h9 => ?_)
  · -- yes
    try simp only [mOr, mAnd, decide_eq_true_eq, decide_eq_false_iff_not, beq_iff_eq, beq_eq_false_iff_ne, bne_iff_ne, ne_eq, bne_eq_false_iff_eq, Bool.or_eq_true, Bool.or_eq_false_iff, Bool.and_eq_true, Bool.and_eq_false_iff, Bool.not_eq_true', Bool.not_eq_false', Int.not_lt, Int.not_le, gt_iff_lt, ge_iff_le] at h9
    refine awp_seq ?_
    refine awp_region ?_
    refine seqP (moveT rfl) rfl ?_
    refine seqP (assignT rfl) rfl ?_
    refine ops_nil ?_
    refine awp_ret ?_
    refine ret_plain (resl_tmp rfl resl_nil) ?_ rfl
    simp only [askedS, if_neg h9]; rfl
  · -- no
    try simp only [mOr, mAnd, decide_eq_true_eq, decide_eq_false_iff_not, beq_iff_eq, beq_eq_false_iff_ne, bne_iff_ne, ne_eq, bne_eq_false_iff_eq, Bool.or_eq_true, Bool.or_eq_false_iff, Bool.and_eq_true, Bool.and_eq_false_iff, Bool.not_eq_true', Bool.not_eq_false', Int.not_lt, Int.not_le, gt_iff_lt, ge_iff_le] at h9
    refine awp_skip ?_
    refine awp_seq ?_
    refine awp_seq ?_
    refine awp_region ?_
    refine seqP (moveT rfl) rfl ?_
    refine seqP (loadVsT rfl rfl rfl rfl) rfl ?_
    refine seqP (callT rfl rfl rfl (callB_of Try.func209 rfl) (sp209 q hl) trivial) rfl ?_
    refine seqP (intTT rfl rfl rfl) rfl ?_
    refine seqP (moveT rfl) rfl ?_
    refine seqM 2 (g := 18) (x := ?_) rfl rfl (fun Q g15 hJ => ?_) (fun Q g15 hJ => ?_) ?_
    rotate_left 1
    · -- taken
      refine seqP (moveT rfl) rfl ?_
      refine seqGy rfl rfl ?_
      refine seqP (intTT rfl rfl rfl) rfl ?_
      refine seqP (pickNT rfl rfl) rfl ?_
      refine hJ 3 _ ?_
      exact ⟨.inl rfl, .inl rfl, .inr (congrArg (fun b => AV.d (D.v (Value.bool b))) g15), rfl⟩
    · -- left
      refine seqGn rfl rfl ?_
      refine seqP (pickYT rfl rfl) rfl ?_
      refine hJ 3 _ ?_
      exact ⟨.inl rfl, .inl rfl, .inr (congrArg (fun b => AV.d (D.v (Value.bool b))) g15), rfl⟩
    refine ops_nil ?_
    refine awp_if rfl (fun h18 => ?_) (fun h18 => ?_)
    · -- yes
      try simp only [mOr, mAnd, decide_eq_true_eq, decide_eq_false_iff_not, beq_iff_eq, beq_eq_false_iff_ne, bne_iff_ne, ne_eq, bne_eq_false_iff_eq, Bool.or_eq_true, Bool.or_eq_false_iff, Bool.and_eq_true, Bool.and_eq_false_iff, Bool.not_eq_true', Bool.not_eq_false', Int.not_lt, Int.not_le, gt_iff_lt, ge_iff_le] at h18
      refine awp_seq ?_
      refine awp_region ?_
      refine seqP (assignT rfl) rfl ?_
      refine ops_nil ?_
      refine awp_ret ?_
      refine ret_plain (resl_tmp rfl resl_nil) ?_ rfl
      simp only [askedS, if_pos h9, if_pos h18]; rfl
    · -- no
      try simp only [mOr, mAnd, decide_eq_true_eq, decide_eq_false_iff_not, beq_iff_eq, beq_eq_false_iff_ne, bne_iff_ne, ne_eq, bne_eq_false_iff_eq, Bool.or_eq_true, Bool.or_eq_false_iff, Bool.and_eq_true, Bool.and_eq_false_iff, Bool.not_eq_true', Bool.not_eq_false', Int.not_lt, Int.not_le, gt_iff_lt, ge_iff_le] at h18
      refine awp_skip ?_
      refine awp_seq ?_
      refine awp_region ?_
      refine seqP (assignT rfl) rfl ?_
      refine ops_nil ?_
      refine awp_ret ?_
      refine ret_plain (resl_tmp rfl resl_nil) ?_ rfl
      have h1 : ¬ (now < latestS q.items ∨ now > 1099511627776) := by omega
      simp only [askedS, if_pos h9, if_neg h1]; rfl

theorem split_take {α β : Type} {f : α → β} {l : List α} {n : Nat} : ((l.map f).take (if ((l.length : Nat) : Int) < ((n : Nat) : Int) then ((l.length : Nat) : Int) else ((n : Nat) : Int)).toNat).drop (0 : Int).toNat = (l.take n).map f := by
  have : (if ((l.length : Nat) : Int) < ((n : Nat) : Int) then ((l.length : Nat) : Int) else ((n : Nat) : Int)).toNat = min n l.length := by split <;> omega
  rw [this, ← List.map_take]
  simp [List.take_eq_take_min]
theorem split_drop {α β : Type} {f : α → β} {l : List α} {n : Nat} : ((l.map f).take (((l.length : Nat) : Int)).toNat).drop (if ((l.length : Nat) : Int) < ((n : Nat) : Int) then ((l.length : Nat) : Int) else ((n : Nat) : Int)).toNat = (l.drop n).map f := by
  have : (if ((l.length : Nat) : Int) < ((n : Nat) : Int) then ((l.length : Nat) : Int) else ((n : Nat) : Int)).toNat = min n l.length := by split <;> omega
  rw [this, List.take_of_length_le (by simp), ← List.map_drop]
  congr 1
  rcases Nat.le_total n l.length with h | h
  · rw [Nat.min_eq_left h]
  · rw [Nat.min_eq_right h, List.drop_eq_nil_of_le h, List.drop_eq_nil_of_le (Nat.le_refl _)]
theorem split_min {a n : Nat} : 0 ≤ (if (a : Int) < (n : Int) then (a : Int) else (n : Int)) ∧ (if (a : Int) < (n : Int) then (a : Int) else (n : Int)) ≤ a := by split <;> omega


theorem sp153 (l : List Item) (n : Nat) (hl : l.length ≤ 100000000) : Spec Try.prog 153 [.d (.s (l.map encItem)), .d (vi n)] [] (.tup [.own 153014 0 3 (l.take n).length, .own 153019 0 3 (l.drop n).length])
    [(153014, some (.row 3 ((l.take n).map encItem))), (153019, some (.row 3 ((l.drop n).map encItem)))] [153014, 153019] := by
  refine enter 20 [] Try.func153 rfl rfl blOk_nil rfl rfl fun X w0 E0 => ?_
  refine awp_seq ?_
  refine awp_region ?_
  refine seqP (assignT rfl) rfl ?_
  refine seqP (assignT rfl) rfl ?_
  refine ops_nil ?_
  refine awp_seq ?_
  refine awp_region ?_
  refine seqP (moveT rfl) rfl ?_
  refine seqP (moveT rfl) rfl ?_
  refine seqP (lenRT rfl rfl (List.length_map ..)) rfl ?_
  refine seqP (minT rfl rfl) rfl ?_
  refine seqP (assignT rfl) rfl ?_
  refine ops_nil ?_
  refine awp_seq ?_
  refine awp_any [0, 0, 0, 6, 15, 0, 0, 0, 192, 511, 1023, 2047] rfl ?_
  refine .step (rb := []) (wb := []) (ml := []) (moveT rfl) rfl rfl rfl rfl rfl trivial ?_
  refine .step (rb := []) (wb := []) (ml := []) (moveT rfl) rfl rfl rfl rfl rfl trivial ?_
  refine .step (rb := []) (wb := []) (ml := []) (moveT rfl) rfl rfl rfl rfl rfl trivial ?_
  refine .step (rb := []) (wb := []) (ml := []) (sliceRT rfl rfl (List.length_map ..) rfl rfl item_rows (by decide) split_min.1 split_min.2 split_take) rfl rfl rfl rfl rfl trivial ?_
  refine .step (rb := []) (wb := [153014]) (ml := [153014]) (appendNT (b' := 153014) rfl rfl rfl rfl item_rows (List.length_map ..) (by simp only [List.length_take]; omega) (by simp only [List.length_take]; omega)) rfl rfl rfl rfl rfl ⟨rfl, trivial⟩ ?_
  refine .step (rb := []) (wb := []) (ml := []) (moveT rfl) rfl rfl rfl rfl rfl trivial ?_
  refine .step (rb := []) (wb := []) (ml := []) (moveT rfl) rfl rfl rfl rfl rfl trivial ?_
  refine .step (rb := []) (wb := []) (ml := []) (moveT rfl) rfl rfl rfl rfl rfl trivial ?_
  refine .step (rb := []) (wb := []) (ml := []) (sliceRT rfl rfl (List.length_map ..) rfl rfl item_rows split_min.1 split_min.2 (Int.le_refl _) split_drop) rfl rfl rfl rfl rfl trivial ?_
  refine .step (rb := []) (wb := [153019]) (ml := [153019]) (appendNT (b' := 153019) rfl rfl rfl rfl item_rows (List.length_map ..) (by simp only [List.length_drop]; omega) (by simp only [List.length_drop]; omega)) rfl rfl rfl rfl rfl ⟨rfl, trivial⟩ ?_
  refine .step (rb := []) (wb := []) (ml := [153014]) (assignT rfl) rfl rfl rfl rfl rfl trivial ?_
  refine .step (rb := []) (wb := []) (ml := [153019]) (assignT rfl) rfl rfl rfl rfl rfl trivial ?_
  refine .done (by decide +kernel) ?_
  refine awp_ret ?_
  refine ret_blocks (resl_tmp rfl (resl_tmp rfl resl_nil)) ?_ rfl ⟨rfl, rfl, rfl, rfl, rfl, rfl, trivial⟩ trivial
  rfl

end Go.Proofs.Ytencghlmckbmlaa
