/- Walks: queue.Take (printed by gen.py). -/
import Derived.Test.YtencghlmckbmlaaQueue3
set_option linter.unusedVariables false
set_option linter.unusedSimpArgs false
set_option maxRecDepth 100000
namespace Go.Proofs.Ytencghlmckbmlaa
open Go Go.RowKit

/-- What Take makes of the queue before it takes. -/
def lateS (q : Fifo) (now : Int) : Bool := decide (now - (q.items.getD 0 default).at_ ≥ 5000)
def runsS (q : Fifo) : Int := if 256 < q.runs + 1 then 256 else q.runs + 1
def nextS (q : Fifo) (now : Int) : Fifo :=
  if lateS q now = false then ⟨q.items, 0, 0⟩ else if q.until_ = 0 then ⟨q.items, now + 100000, q.runs⟩
  else if q.until_ ≤ now then ⟨q.items.drop 1, now + (100000 : Int).tdiv (runsS q + 1), runsS q⟩ else q
def dropS (q : Fifo) (now : Int) : List Item := if lateS q now = true ∧ q.until_ ≠ 0 ∧ q.until_ ≤ now then q.items.take 1 else []
def Item.zero : Item := ⟨0, 0, 0⟩
def takeS (q : Fifo) (now : Int) : Fifo × Item × Bool × List Item × Int :=
  if askedS q now = 0 then
    (if q.items = [] then (.zero, .zero, false, [], 0)
    else if (nextS q now).items = [] then (.zero, .zero, false, dropS q now, 0)
    else (⟨(nextS q now).items.drop 1, (nextS q now).until_, (nextS q now).runs⟩, (nextS q now).items.getD 0 default, true, dropS q now, 0))
  else (.zero, .zero, false, [], askedS q now)

def takeAV (r : Fifo × Item × Bool × List Item × Int) : AV :=
  .tup [r.1.av, .agg [.d (vi r.2.1.id), .d (vi r.2.1.bytes), .d (vi r.2.1.at_)], .d (vb r.2.2.1), .d (.s (r.2.2.2.1.map encItem)), .d (vi r.2.2.2.2)]

theorem tdiv_bounds {a b : Int} (ha : 0 ≤ a) (hb : 0 < b) : 0 ≤ a.tdiv b ∧ a.tdiv b ≤ a := by
  rw [Int.tdiv_eq_ediv_of_nonneg ha]
  exact ⟨Int.ediv_nonneg ha (by omega), Int.ediv_le_self _ ha⟩

theorem runs_b {q : Fifo} (h : checkS q = 0) : 0 ≤ (if 256 < q.runs + 1 then 256 else q.runs + 1) ∧ (if 256 < q.runs + 1 then 256 else q.runs + 1) ≤ 256 := by
  have := (check_ok h).1
  split <;> omega

theorem tdiv_b {q : Fifo} (h : checkS q = 0) : 0 ≤ (100000 : Int).tdiv ((if 256 < q.runs + 1 then 256 else q.runs + 1) + 1) ∧ (100000 : Int).tdiv ((if 256 < q.runs + 1 then 256 else q.runs + 1) + 1) ≤ 100000 :=
  tdiv_bounds (by omega) (by have := runs_b h; omega)

theorem take1_getD {l : List Item} : (l.take 1).getD 0 default = l.getD 0 default := by cases l <;> rfl


theorem sp75 (q : Fifo) (now : Int) (hl : q.items.length ≤ 100000000) : Spec Try.prog 75 [q.av, .d (vi now)] [] (takeAV (takeS q now)) [] [] := by
  refine enter 91 [] Try.func75 rfl rfl blOk_nil rfl rfl fun X w0 E0 => ?_
  refine awp_seq ?_
  refine awp_region ?_
  refine seq1 (boxT rfl rfl rfl) rfl rfl ?_
  refine seq1 (allocT rfl rfl) rfl rfl ?_
  refine seq1 (allocT rfl rfl) rfl rfl ?_
  refine seqP (assignT rfl) rfl ?_
  refine seqP (assignT rfl) rfl ?_
  refine seqP (assignT rfl) rfl ?_
  refine ops_nil ?_
  refine awp_seq ?_
  refine awp_seq ?_
  refine awp_region ?_
  refine seqP (loadVsT rfl rfl rfl rfl) rfl ?_
  refine seqP (moveT rfl) rfl ?_
  refine seqP (callT rfl rfl rfl (callB_of Try.func150 rfl) (sp150 q now hl) trivial) rfl ?_
  refine seqP (assignT rfl) rfl ?_
  refine ops_nil ?_
  refine awp_seq ?_
  refine awp_region ?_
  refine seqP (moveT rfl) rfl ?_
  refine seqP (intTT rfl rfl rfl) rfl ?_
  refine ops_nil ?_
  refine awp_if rfl (fun h17 => ?_) (fun h17 => ?_)
  · -- yes
    try simp only [mOr, mAnd, decide_eq_true_eq, decide_eq_false_iff_not, beq_iff_eq, beq_eq_false_iff_ne, bne_iff_ne, ne_eq, bne_eq_false_iff_eq, Bool.or_eq_true, Bool.or_eq_false_iff, Bool.and_eq_true, Bool.and_eq_false_iff, Bool.not_eq_true', Bool.not_eq_false', Int.not_lt, Int.not_le, gt_iff_lt, ge_iff_le] at h17
    refine awp_seq ?_
    refine awp_any [0, 0, 0, 1, 11, 27, 59, 127] rfl ?_
    refine .step (rb := [4]) (wb := []) (ml := []) (loadVsT rfl rfl rfl rfl) rfl rfl rfl rfl rfl trivial ?_
    refine .step (rb := [5]) (wb := []) (ml := []) (loadVsT rfl rfl rfl rfl) rfl rfl rfl rfl rfl trivial ?_
    refine .step (rb := []) (wb := []) (ml := []) (moveT rfl) rfl rfl rfl rfl rfl trivial ?_
    refine .step (rb := [4]) (wb := [4]) (ml := []) (storeVT rfl rfl rfl rfl rfl rfl rfl) rfl rfl rfl rfl rfl ⟨rfl, trivial⟩ ?_
    refine .step (rb := [5]) (wb := [5]) (ml := []) (storeVT rfl rfl rfl rfl rfl rfl rfl) rfl rfl rfl rfl rfl ⟨rfl, trivial⟩ ?_
    refine .step (rb := []) (wb := []) (ml := []) (assignT rfl) rfl rfl rfl rfl rfl trivial ?_
    refine .step (rb := []) (wb := []) (ml := []) (assignT rfl) rfl rfl rfl rfl rfl trivial ?_
    refine .step (rb := []) (wb := []) (ml := []) (assignT rfl) rfl rfl rfl rfl rfl trivial ?_
    refine .done (by decide +kernel) ?_
    refine awp_ret ?_
    refine ret_plain (resl_agg rfl rfl rfl rfl rfl (resl_agg rfl rfl rfl rfl rfl (resl_tmp rfl (resl_tmp rfl (resl_tmp rfl resl_nil))))) ?_ rfl
    have h1 : ¬ askedS q now = 0 := by simpa using h17
    simp only [takeS, if_neg h1]; rfl
  · -- no
    simp only [bne_eq_false_iff_eq] at h17
    obtain ⟨hck, hlast, hn0, hn1⟩ := asked_ok h17
    refine awp_skip ?_
    refine awp_seq ?_
    refine awp_seq ?_
    refine awp_region ?_
    refine seqP (fieldPT rfl rfl rfl) rfl ?_
    refine seqP (loadVT rfl rfl rfl rfl) rfl ?_
    refine seqP (lenRT rfl rfl (List.length_map ..)) rfl ?_
    refine seqP (intTT rfl rfl rfl) rfl ?_
    refine ops_nil ?_
    refine awp_if rfl (fun h24 => ?_) (fun h24 => ?_)
    · -- yes
      try simp only [mOr, mAnd, decide_eq_true_eq, decide_eq_false_iff_not, beq_iff_eq, beq_eq_false_iff_ne, bne_iff_ne, ne_eq, bne_eq_false_iff_eq, Bool.or_eq_true, Bool.or_eq_false_iff, Bool.and_eq_true, Bool.and_eq_false_iff, Bool.not_eq_true', Bool.not_eq_false', Int.not_lt, Int.not_le, gt_iff_lt, ge_iff_le] at h24
      refine awp_seq ?_
      refine awp_any [0, 0, 1, 7, 15, 31, 63] rfl ?_
      refine .step (rb := []) (wb := []) (ml := []) (callT rfl rfl rfl (callB_of Try.func152 rfl) (spec_wk rfl (sp152 [])) trivial) rfl rfl rfl rfl rfl trivial ?_
      refine .step (rb := [5]) (wb := []) (ml := []) (loadVsT rfl rfl rfl rfl) rfl rfl rfl rfl rfl trivial ?_
      refine .step (rb := [4]) (wb := [4]) (ml := []) (storeVT rfl rfl rfl rfl rfl rfl rfl) rfl rfl rfl rfl rfl ⟨rfl, trivial⟩ ?_
      refine .step (rb := [5]) (wb := [5]) (ml := []) (storeVT rfl rfl rfl rfl rfl rfl rfl) rfl rfl rfl rfl rfl ⟨rfl, trivial⟩ ?_
      refine .step (rb := []) (wb := []) (ml := []) (assignT rfl) rfl rfl rfl rfl rfl trivial ?_
      refine .step (rb := []) (wb := []) (ml := []) (assignT rfl) rfl rfl rfl rfl rfl trivial ?_
      refine .step (rb := []) (wb := []) (ml := []) (assignT rfl) rfl rfl rfl rfl rfl trivial ?_
      refine .done (by decide +kernel) ?_
      refine awp_ret ?_
      refine ret_plain (resl_agg rfl rfl rfl rfl rfl (resl_agg rfl rfl rfl rfl rfl (resl_tmp rfl (resl_tmp rfl (resl_tmp rfl resl_nil))))) ?_ rfl
      have h1 : q.items = [] := List.eq_nil_of_length_eq_zero (by omega)
      simp only [takeS, if_pos h17, if_pos h1]; rfl
    · -- no
      try simp only [mOr, mAnd, decide_eq_true_eq, decide_eq_false_iff_not, beq_iff_eq, beq_eq_false_iff_ne, bne_iff_ne, ne_eq, bne_eq_false_iff_eq, Bool.or_eq_true, Bool.or_eq_false_iff, Bool.and_eq_true, Bool.and_eq_false_iff, Bool.not_eq_true', Bool.not_eq_false', Int.not_lt, Int.not_le, gt_iff_lt, ge_iff_le] at h24
      have hne : q.items ≠ [] := fun h => by simp [h] at h24
      refine awp_skip ?_
      refine awp_seq ?_
      refine awp_region ?_
      refine seqP (moveT rfl) rfl ?_
      refine seqP (fieldPT rfl rfl rfl) rfl ?_
      refine seqP (loadVT rfl rfl rfl rfl) rfl ?_
      refine seqP (indexRT rfl rfl rfl (by decide) (idx_getD (i := 0) (z := default) (by omega)) rfl) rfl ?_
      refine seqP (fieldRT rfl rfl rfl) rfl ?_
      refine seqP (loadRT rfl rfl rfl) rfl ?_
      refine seqP (intnT rfl rfl rfl (wrap_i64 (by have := check_item hck (i := 0) (by omega); omega))) rfl ?_
      refine seqP (intTT rfl rfl rfl) rfl ?_
      refine seqP (assignT rfl) rfl ?_
      refine ops_nil ?_
      refine awp_seq ?_
      refine awp_block ?_
      refine awp_seq ?_
      refine awp_region ?_
      refine seqP (moveT rfl) rfl ?_
      refine seqP (notT rfl) rfl ?_
      refine seqP (assignT rfl) rfl ?_
      refine ops_nil ?_
      refine awp_if rfl (fun h35 => ?_) (fun h35 => ?_)
      · -- yes
        try simp only [mOr, mAnd, decide_eq_true_eq, decide_eq_false_iff_not, beq_iff_eq, beq_eq_false_iff_ne, bne_iff_ne, ne_eq, bne_eq_false_iff_eq, Bool.or_eq_true, Bool.or_eq_false_iff, Bool.and_eq_true, Bool.and_eq_false_iff, Bool.not_eq_true', Bool.not_eq_false', Int.not_lt, Int.not_le, gt_iff_lt, ge_iff_le] at h35
        have hlt : lateS q now = false := by simp only [lateS, decide_eq_false_iff_not]; omega
        have hnx : nextS q now = ⟨q.items, 0, 0⟩ := by simp [nextS, hlt]
        have hdr : dropS q now = [] := by simp [dropS, hlt]
        refine awp_region ?_
        refine seqP (fieldPT rfl rfl rfl) rfl ?_
        refine seqP (loadVT rfl rfl rfl rfl) rfl ?_
        refine seqP (callT rfl rfl rfl (callB_of Try.func152 rfl) (sp152 q.items) trivial) rfl ?_
        refine seq0 (storeVT rfl rfl rfl rfl rfl rfl rfl) ?_
        refine ops_nil ?_
        refine awp_seq ?_
        refine awp_turn (turn_subO (tl' := [(1, _), (2, _), (4, _), (5, _), (6, _), (7, _), (8, _)]) (bl' := [(2, some _), (4, some _), (5, some _)]) ⟨rfl, rfl, rfl, rfl, rfl, rfl, rfl, trivial⟩ ⟨rfl, rfl, rfl, trivial⟩) ?_
        refine awp_region ?_
        refine seqP (fieldPT rfl rfl rfl) rfl ?_
        refine seqP (loadVT rfl rfl rfl rfl) rfl ?_
        refine seq2 (callT rfl rfl rfl (callB_of Try.func153 rfl) (sp153 _ 1 (by first | omega | (simp only [List.length_drop]; omega))) trivial) rfl rfl ?_
        refine seqP (moveT rfl) rfl ?_
        refine seqP (extractT rfl rfl) rfl ?_
        refine seqP (extractT rfl rfl) rfl ?_
        refine seqP (assignT rfl) rfl ?_
        refine ops_turn (freezeT 11 153014 rfl rfl (List.length_map ..)) ?_
        refine seqP (assignT rfl) rfl ?_
        refine ops_turn (freezeT 12 153019 rfl rfl (List.length_map ..)) ?_
        refine ops_nil ?_
        refine awp_seq ?_
        refine awp_seq ?_
        refine awp_region ?_
        refine seqP (moveT rfl) rfl ?_
        refine seqP (lenRT rfl rfl (List.length_map ..)) rfl ?_
        refine seqP (intTT rfl rfl rfl) rfl ?_
        refine ops_nil ?_
        refine awp_if rfl (fun h80 => ?_) (fun h80 => ?_)
        · -- yes
          try simp only [mOr, mAnd, decide_eq_true_eq, decide_eq_false_iff_not, beq_iff_eq, beq_eq_false_iff_ne, bne_iff_ne, ne_eq, bne_eq_false_iff_eq, Bool.or_eq_true, Bool.or_eq_false_iff, Bool.and_eq_true, Bool.and_eq_false_iff, Bool.not_eq_true', Bool.not_eq_false', Int.not_lt, Int.not_le, gt_iff_lt, ge_iff_le] at h80
          refine awp_seq ?_
          refine awp_any [0, 0, 0, 1, 11, 27, 63, 127] rfl ?_
          refine .step (rb := []) (wb := []) (ml := []) (callT rfl rfl rfl (callB_of Try.func152 rfl) (spec_wk rfl (sp152 [])) trivial) rfl rfl rfl rfl rfl trivial ?_
          refine .step (rb := [5]) (wb := []) (ml := []) (loadVsT rfl rfl rfl rfl) rfl rfl rfl rfl rfl trivial ?_
          refine .step (rb := []) (wb := []) (ml := []) (moveT rfl) rfl rfl rfl rfl rfl trivial ?_
          refine .step (rb := [4]) (wb := [4]) (ml := []) (storeVT rfl rfl rfl rfl rfl rfl rfl) rfl rfl rfl rfl rfl ⟨rfl, trivial⟩ ?_
          refine .step (rb := [5]) (wb := [5]) (ml := []) (storeVT rfl rfl rfl rfl rfl rfl rfl) rfl rfl rfl rfl rfl ⟨rfl, trivial⟩ ?_
          refine .step (rb := []) (wb := []) (ml := []) (assignT rfl) rfl rfl rfl rfl rfl trivial ?_
          refine .step (rb := []) (wb := []) (ml := []) (assignT rfl) rfl rfl rfl rfl rfl trivial ?_
          refine .step (rb := []) (wb := []) (ml := []) (assignT rfl) rfl rfl rfl rfl rfl trivial ?_
          refine .done (by decide +kernel) ?_
          refine awp_ret ?_
          refine ret_plain (resl_agg rfl rfl rfl rfl rfl (resl_agg rfl rfl rfl rfl rfl (resl_tmp rfl (resl_tmp rfl (resl_tmp rfl resl_nil))))) ?_ rfl
          have h1 : (nextS q now).items = [] := by
            rw [hnx]; refine List.eq_nil_of_length_eq_zero ?_; simp only [List.length_take] at h80; show List.length _ = 0; first | omega | (simp only [List.length_drop] at h80 ⊢; omega)
          simp only [takeS, if_pos h17, if_neg hne, if_pos h1, hdr]; rfl
        · -- no
          try simp only [mOr, mAnd, decide_eq_true_eq, decide_eq_false_iff_not, beq_iff_eq, beq_eq_false_iff_ne, bne_iff_ne, ne_eq, bne_eq_false_iff_eq, Bool.or_eq_true, Bool.or_eq_false_iff, Bool.and_eq_true, Bool.and_eq_false_iff, Bool.not_eq_true', Bool.not_eq_false', Int.not_lt, Int.not_le, gt_iff_lt, ge_iff_le] at h80
          refine awp_skip ?_
          refine awp_seq ?_
          refine awp_region ?_
          refine seqP (moveT rfl) rfl ?_
          refine seqP (fieldPT rfl rfl rfl) rfl ?_
          refine seq0 (storeVT rfl rfl rfl rfl rfl rfl rfl) ?_
          refine ops_nil ?_
          refine awp_seq ?_
          refine awp_any [0, 0, 2, 6, 0, 1, 47, 111, 255, 511] rfl ?_
          refine .step (rb := [2]) (wb := []) (ml := []) (loadVsT rfl rfl rfl rfl) rfl rfl rfl rfl rfl trivial ?_
          refine .step (rb := []) (wb := []) (ml := []) (moveT rfl) rfl rfl rfl rfl rfl trivial ?_
          refine .step (rb := []) (wb := []) (ml := []) (indexRT rfl rfl rfl (by decide) (idx_getD (i := 0) (z := default) (by simp only [List.length_take, List.length_drop] at h80 ⊢; omega)) rfl) rfl rfl rfl rfl rfl trivial ?_
          refine .step (rb := []) (wb := []) (ml := []) (loadRsT rfl rfl rfl rfl rfl) rfl rfl rfl rfl rfl trivial ?_
          refine .step (rb := []) (wb := []) (ml := []) (moveT rfl) rfl rfl rfl rfl rfl trivial ?_
          refine .step (rb := [4]) (wb := [4]) (ml := []) (storeVT rfl rfl rfl rfl rfl rfl rfl) rfl rfl rfl rfl rfl ⟨rfl, trivial⟩ ?_
          refine .step (rb := [5]) (wb := [5]) (ml := []) (storeVT rfl rfl rfl rfl rfl rfl rfl) rfl rfl rfl rfl rfl ⟨rfl, trivial⟩ ?_
          refine .step (rb := []) (wb := []) (ml := []) (assignT rfl) rfl rfl rfl rfl rfl trivial ?_
          refine .step (rb := []) (wb := []) (ml := []) (assignT rfl) rfl rfl rfl rfl rfl trivial ?_
          refine .step (rb := []) (wb := []) (ml := []) (assignT rfl) rfl rfl rfl rfl rfl trivial ?_
          refine .done (by decide +kernel) ?_
          refine awp_ret ?_
          refine ret_plain (resl_agg rfl rfl rfl rfl rfl (resl_agg rfl rfl rfl rfl rfl (resl_tmp rfl (resl_tmp rfl (resl_tmp rfl resl_nil))))) ?_ rfl
          have h1 : ¬ (nextS q now).items = [] := by rw [hnx]; intro h; (try simp only at h); simp [h] at h80
          simp only [hnx] at h1
          simp only [takeS, if_pos h17, if_neg hne, hnx, if_neg h1, hdr, take1_getD, runsS]; rfl
      · -- no
        try simp only [mOr, mAnd, decide_eq_true_eq, decide_eq_false_iff_not, beq_iff_eq, beq_eq_false_iff_ne, bne_iff_ne, ne_eq, bne_eq_false_iff_eq, Bool.or_eq_true, Bool.or_eq_false_iff, Bool.and_eq_true, Bool.and_eq_false_iff, Bool.not_eq_true', Bool.not_eq_false', Int.not_lt, Int.not_le, gt_iff_lt, ge_iff_le] at h35
        have hlt : lateS q now = true := by simp only [lateS, decide_eq_true_eq]; omega
        refine awp_seq ?_
        refine awp_region ?_
        refine seqP (fieldPT rfl rfl rfl) rfl ?_
        refine seqP (loadVT rfl rfl rfl rfl) rfl ?_
        refine seqP (intTT rfl rfl rfl) rfl ?_
        refine seqP (assignT rfl) rfl ?_
        refine ops_nil ?_
        refine awp_if rfl (fun h41 => ?_) (fun h41 => ?_)
        · -- yes
          try simp only [mOr, mAnd, decide_eq_true_eq, decide_eq_false_iff_not, beq_iff_eq, beq_eq_false_iff_ne, bne_iff_ne, ne_eq, bne_eq_false_iff_eq, Bool.or_eq_true, Bool.or_eq_false_iff, Bool.and_eq_true, Bool.and_eq_false_iff, Bool.not_eq_true', Bool.not_eq_false', Int.not_lt, Int.not_le, gt_iff_lt, ge_iff_le] at h41
          have hnx : nextS q now = ⟨q.items, now + 100000, q.runs⟩ := by simp [nextS, hlt, h41]
          have hdr : dropS q now = [] := by simp [dropS, h41]
          refine awp_region ?_
          refine seqP (moveT rfl) rfl ?_
          refine seqP (intnT rfl rfl rfl (wrap_i64 (by omega))) rfl ?_
          refine seqP (fieldPT rfl rfl rfl) rfl ?_
          refine seq0 (storeVT rfl rfl rfl rfl rfl rfl rfl) ?_
          refine ops_nil ?_
          refine awp_seq ?_
          refine awp_turn (turn_subO (tl' := [(1, _), (2, _), (4, _), (5, _), (6, _), (7, _), (8, _)]) (bl' := [(2, some _), (4, some _), (5, some _)]) ⟨rfl, rfl, rfl, rfl, rfl, rfl, rfl, trivial⟩ ⟨rfl, rfl, rfl, trivial⟩) ?_
          refine awp_region ?_
          refine seqP (fieldPT rfl rfl rfl) rfl ?_
          refine seqP (loadVT rfl rfl rfl rfl) rfl ?_
          refine seq2 (callT rfl rfl rfl (callB_of Try.func153 rfl) (sp153 _ 1 (by first | omega | (simp only [List.length_drop]; omega))) trivial) rfl rfl ?_
          refine seqP (moveT rfl) rfl ?_
          refine seqP (extractT rfl rfl) rfl ?_
          refine seqP (extractT rfl rfl) rfl ?_
          refine seqP (assignT rfl) rfl ?_
          refine ops_turn (freezeT 11 153014 rfl rfl (List.length_map ..)) ?_
          refine seqP (assignT rfl) rfl ?_
          refine ops_turn (freezeT 12 153019 rfl rfl (List.length_map ..)) ?_
          refine ops_nil ?_
          refine awp_seq ?_
          refine awp_seq ?_
          refine awp_region ?_
          refine seqP (moveT rfl) rfl ?_
          refine seqP (lenRT rfl rfl (List.length_map ..)) rfl ?_
          refine seqP (intTT rfl rfl rfl) rfl ?_
          refine ops_nil ?_
          refine awp_if rfl (fun h80 => ?_) (fun h80 => ?_)
          · -- yes
            try simp only [mOr, mAnd, decide_eq_true_eq, decide_eq_false_iff_not, beq_iff_eq, beq_eq_false_iff_ne, bne_iff_ne, ne_eq, bne_eq_false_iff_eq, Bool.or_eq_true, Bool.or_eq_false_iff, Bool.and_eq_true, Bool.and_eq_false_iff, Bool.not_eq_true', Bool.not_eq_false', Int.not_lt, Int.not_le, gt_iff_lt, ge_iff_le] at h80
            refine awp_seq ?_
            refine awp_any [0, 0, 0, 1, 11, 27, 63, 127] rfl ?_
            refine .step (rb := []) (wb := []) (ml := []) (callT rfl rfl rfl (callB_of Try.func152 rfl) (spec_wk rfl (sp152 [])) trivial) rfl rfl rfl rfl rfl trivial ?_
            refine .step (rb := [5]) (wb := []) (ml := []) (loadVsT rfl rfl rfl rfl) rfl rfl rfl rfl rfl trivial ?_
            refine .step (rb := []) (wb := []) (ml := []) (moveT rfl) rfl rfl rfl rfl rfl trivial ?_
            refine .step (rb := [4]) (wb := [4]) (ml := []) (storeVT rfl rfl rfl rfl rfl rfl rfl) rfl rfl rfl rfl rfl ⟨rfl, trivial⟩ ?_
            refine .step (rb := [5]) (wb := [5]) (ml := []) (storeVT rfl rfl rfl rfl rfl rfl rfl) rfl rfl rfl rfl rfl ⟨rfl, trivial⟩ ?_
            refine .step (rb := []) (wb := []) (ml := []) (assignT rfl) rfl rfl rfl rfl rfl trivial ?_
            refine .step (rb := []) (wb := []) (ml := []) (assignT rfl) rfl rfl rfl rfl rfl trivial ?_
            refine .step (rb := []) (wb := []) (ml := []) (assignT rfl) rfl rfl rfl rfl rfl trivial ?_
            refine .done (by decide +kernel) ?_
            refine awp_ret ?_
            refine ret_plain (resl_agg rfl rfl rfl rfl rfl (resl_agg rfl rfl rfl rfl rfl (resl_tmp rfl (resl_tmp rfl (resl_tmp rfl resl_nil))))) ?_ rfl
            have h1 : (nextS q now).items = [] := by
              rw [hnx]; refine List.eq_nil_of_length_eq_zero ?_; simp only [List.length_take] at h80; show List.length _ = 0; first | omega | (simp only [List.length_drop] at h80 ⊢; omega)
            simp only [takeS, if_pos h17, if_neg hne, if_pos h1, hdr]; rfl
          · -- no
            try simp only [mOr, mAnd, decide_eq_true_eq, decide_eq_false_iff_not, beq_iff_eq, beq_eq_false_iff_ne, bne_iff_ne, ne_eq, bne_eq_false_iff_eq, Bool.or_eq_true, Bool.or_eq_false_iff, Bool.and_eq_true, Bool.and_eq_false_iff, Bool.not_eq_true', Bool.not_eq_false', Int.not_lt, Int.not_le, gt_iff_lt, ge_iff_le] at h80
            refine awp_skip ?_
            refine awp_seq ?_
            refine awp_region ?_
            refine seqP (moveT rfl) rfl ?_
            refine seqP (fieldPT rfl rfl rfl) rfl ?_
            refine seq0 (storeVT rfl rfl rfl rfl rfl rfl rfl) ?_
            refine ops_nil ?_
            refine awp_seq ?_
            refine awp_any [0, 0, 2, 6, 0, 1, 47, 111, 255, 511] rfl ?_
            refine .step (rb := [2]) (wb := []) (ml := []) (loadVsT rfl rfl rfl rfl) rfl rfl rfl rfl rfl trivial ?_
            refine .step (rb := []) (wb := []) (ml := []) (moveT rfl) rfl rfl rfl rfl rfl trivial ?_
            refine .step (rb := []) (wb := []) (ml := []) (indexRT rfl rfl rfl (by decide) (idx_getD (i := 0) (z := default) (by simp only [List.length_take, List.length_drop] at h80 ⊢; omega)) rfl) rfl rfl rfl rfl rfl trivial ?_
            refine .step (rb := []) (wb := []) (ml := []) (loadRsT rfl rfl rfl rfl rfl) rfl rfl rfl rfl rfl trivial ?_
            refine .step (rb := []) (wb := []) (ml := []) (moveT rfl) rfl rfl rfl rfl rfl trivial ?_
            refine .step (rb := [4]) (wb := [4]) (ml := []) (storeVT rfl rfl rfl rfl rfl rfl rfl) rfl rfl rfl rfl rfl ⟨rfl, trivial⟩ ?_
            refine .step (rb := [5]) (wb := [5]) (ml := []) (storeVT rfl rfl rfl rfl rfl rfl rfl) rfl rfl rfl rfl rfl ⟨rfl, trivial⟩ ?_
            refine .step (rb := []) (wb := []) (ml := []) (assignT rfl) rfl rfl rfl rfl rfl trivial ?_
            refine .step (rb := []) (wb := []) (ml := []) (assignT rfl) rfl rfl rfl rfl rfl trivial ?_
            refine .step (rb := []) (wb := []) (ml := []) (assignT rfl) rfl rfl rfl rfl rfl trivial ?_
            refine .done (by decide +kernel) ?_
            refine awp_ret ?_
            refine ret_plain (resl_agg rfl rfl rfl rfl rfl (resl_agg rfl rfl rfl rfl rfl (resl_tmp rfl (resl_tmp rfl (resl_tmp rfl resl_nil))))) ?_ rfl
            have h1 : ¬ (nextS q now).items = [] := by rw [hnx]; intro h; (try simp only at h); simp [h] at h80
            simp only [hnx] at h1
            simp only [takeS, if_pos h17, if_neg hne, hnx, if_neg h1, hdr, take1_getD, runsS]; rfl
        · -- no
          try simp only [mOr, mAnd, decide_eq_true_eq, decide_eq_false_iff_not, beq_iff_eq, beq_eq_false_iff_ne, bne_iff_ne, ne_eq, bne_eq_false_iff_eq, Bool.or_eq_true, Bool.or_eq_false_iff, Bool.and_eq_true, Bool.and_eq_false_iff, Bool.not_eq_true', Bool.not_eq_false', Int.not_lt, Int.not_le, gt_iff_lt, ge_iff_le] at h41
          refine awp_seq ?_
          refine awp_region ?_
          refine seqP (moveT rfl) rfl ?_
          refine seqP (fieldPT rfl rfl rfl) rfl ?_
          refine seqP (loadVT rfl rfl rfl rfl) rfl ?_
          refine seqP (intTT rfl rfl rfl) rfl ?_
          refine seqP (assignT rfl) rfl ?_
          refine ops_nil ?_
          refine awp_if rfl (fun h48 => ?_) (fun h48 => ?_)
          · -- yes
            try simp only [mOr, mAnd, decide_eq_true_eq, decide_eq_false_iff_not, beq_iff_eq, beq_eq_false_iff_ne, bne_iff_ne, ne_eq, bne_eq_false_iff_eq, Bool.or_eq_true, Bool.or_eq_false_iff, Bool.and_eq_true, Bool.and_eq_false_iff, Bool.not_eq_true', Bool.not_eq_false', Int.not_lt, Int.not_le, gt_iff_lt, ge_iff_le] at h48
            have hnx : nextS q now = ⟨q.items.drop 1, now + (100000 : Int).tdiv (runsS q + 1), runsS q⟩ := by simp [nextS, hlt, h41, h48]
            have hdr : dropS q now = q.items.take 1 := by simp [dropS, hlt, h41, h48]
            refine awp_seq ?_
            refine awp_region ?_
            refine seqP (fieldPT rfl rfl rfl) rfl ?_
            refine seqP (loadVT rfl rfl rfl rfl) rfl ?_
            refine seq2 (callT rfl rfl rfl (callB_of Try.func153 rfl) (sp153 _ 1 (by first | omega | (simp only [List.length_drop]; omega))) trivial) rfl rfl ?_
            refine seqP (moveT rfl) rfl ?_
            refine seqP (extractT rfl rfl) rfl ?_
            refine ops_turn (freezeT 57 153014 rfl rfl (List.length_map ..)) ?_
            refine seqP (extractT rfl rfl) rfl ?_
            refine ops_turn (freezeT 58 153019 rfl rfl (List.length_map ..)) ?_
            refine seqP (assignT rfl) rfl ?_
            refine seqP (fieldPT rfl rfl rfl) rfl ?_
            refine seq0 (storeVT rfl rfl rfl rfl rfl rfl rfl) ?_
            refine ops_nil ?_
            refine awp_seq ?_
            refine awp_region ?_
            refine seqP (fieldPT rfl rfl rfl) rfl ?_
            refine seqP (loadVT rfl rfl rfl rfl) rfl ?_
            refine seqP (intnT rfl rfl rfl (wrap_i64 (by have := (check_ok hck).1; omega))) rfl ?_
            refine seqP (minT rfl rfl) rfl ?_
            refine seqP (fieldPT rfl rfl rfl) rfl ?_
            refine seq0 (storeVT rfl rfl rfl rfl rfl rfl rfl) ?_
            refine ops_nil ?_
            refine awp_region ?_
            refine seqP (moveT rfl) rfl ?_
            refine seqP (fieldPT rfl rfl rfl) rfl ?_
            refine seqP (loadVT rfl rfl rfl rfl) rfl ?_
            refine seqP (intnT rfl rfl rfl (wrap_i64 (by have := runs_b hck; omega))) rfl ?_
            refine seqP (quoT rfl rfl (by have := runs_b hck; omega) (wrap_i64 (by have := tdiv_b hck; omega))) rfl ?_
            refine seqP (intnT rfl rfl rfl (wrap_i64 (by have := tdiv_b hck; omega))) rfl ?_
            refine seqP (fieldPT rfl rfl rfl) rfl ?_
            refine seq0 (storeVT rfl rfl rfl rfl rfl rfl rfl) ?_
            refine ops_nil ?_
            refine awp_seq ?_
            refine awp_turn (turn_subO (tl' := [(1, _), (2, _), (4, _), (5, _), (6, _), (7, _), (8, _)]) (bl' := [(2, some _), (4, some _), (5, some _)]) ⟨rfl, rfl, rfl, rfl, rfl, rfl, rfl, trivial⟩ ⟨rfl, rfl, rfl, trivial⟩) ?_
            refine awp_region ?_
            refine seqP (fieldPT rfl rfl rfl) rfl ?_
            refine seqP (loadVT rfl rfl rfl rfl) rfl ?_
            refine seq2 (callT rfl rfl rfl (callB_of Try.func153 rfl) (sp153 _ 1 (by first | omega | (simp only [List.length_drop]; omega))) trivial) rfl rfl ?_
            refine seqP (moveT rfl) rfl ?_
            refine seqP (extractT rfl rfl) rfl ?_
            refine seqP (extractT rfl rfl) rfl ?_
            refine seqP (assignT rfl) rfl ?_
            refine ops_turn (freezeT 11 153014 rfl rfl (List.length_map ..)) ?_
            refine seqP (assignT rfl) rfl ?_
            refine ops_turn (freezeT 12 153019 rfl rfl (List.length_map ..)) ?_
            refine ops_nil ?_
            refine awp_seq ?_
            refine awp_seq ?_
            refine awp_region ?_
            refine seqP (moveT rfl) rfl ?_
            refine seqP (lenRT rfl rfl (List.length_map ..)) rfl ?_
            refine seqP (intTT rfl rfl rfl) rfl ?_
            refine ops_nil ?_
            refine awp_if rfl (fun h80 => ?_) (fun h80 => ?_)
            · -- yes
              try simp only [mOr, mAnd, decide_eq_true_eq, decide_eq_false_iff_not, beq_iff_eq, beq_eq_false_iff_ne, bne_iff_ne, ne_eq, bne_eq_false_iff_eq, Bool.or_eq_true, Bool.or_eq_false_iff, Bool.and_eq_true, Bool.and_eq_false_iff, Bool.not_eq_true', Bool.not_eq_false', Int.not_lt, Int.not_le, gt_iff_lt, ge_iff_le] at h80
              refine awp_seq ?_
              refine awp_any [0, 0, 0, 1, 11, 27, 63, 127] rfl ?_
              refine .step (rb := []) (wb := []) (ml := []) (callT rfl rfl rfl (callB_of Try.func152 rfl) (spec_wk rfl (sp152 [])) trivial) rfl rfl rfl rfl rfl trivial ?_
              refine .step (rb := [5]) (wb := []) (ml := []) (loadVsT rfl rfl rfl rfl) rfl rfl rfl rfl rfl trivial ?_
              refine .step (rb := []) (wb := []) (ml := []) (moveT rfl) rfl rfl rfl rfl rfl trivial ?_
              refine .step (rb := [4]) (wb := [4]) (ml := []) (storeVT rfl rfl rfl rfl rfl rfl rfl) rfl rfl rfl rfl rfl ⟨rfl, trivial⟩ ?_
              refine .step (rb := [5]) (wb := [5]) (ml := []) (storeVT rfl rfl rfl rfl rfl rfl rfl) rfl rfl rfl rfl rfl ⟨rfl, trivial⟩ ?_
              refine .step (rb := []) (wb := []) (ml := []) (assignT rfl) rfl rfl rfl rfl rfl trivial ?_
              refine .step (rb := []) (wb := []) (ml := []) (assignT rfl) rfl rfl rfl rfl rfl trivial ?_
              refine .step (rb := []) (wb := []) (ml := []) (assignT rfl) rfl rfl rfl rfl rfl trivial ?_
              refine .done (by decide +kernel) ?_
              refine awp_ret ?_
              refine ret_plain (resl_agg rfl rfl rfl rfl rfl (resl_agg rfl rfl rfl rfl rfl (resl_tmp rfl (resl_tmp rfl (resl_tmp rfl resl_nil))))) ?_ rfl
              have h1 : (nextS q now).items = [] := by
                rw [hnx]; refine List.eq_nil_of_length_eq_zero ?_; simp only [List.length_take] at h80; show List.length _ = 0; first | omega | (simp only [List.length_drop] at h80 ⊢; omega)
              simp only [takeS, if_pos h17, if_neg hne, if_pos h1, hdr]; rfl
            · -- no
              try simp only [mOr, mAnd, decide_eq_true_eq, decide_eq_false_iff_not, beq_iff_eq, beq_eq_false_iff_ne, bne_iff_ne, ne_eq, bne_eq_false_iff_eq, Bool.or_eq_true, Bool.or_eq_false_iff, Bool.and_eq_true, Bool.and_eq_false_iff, Bool.not_eq_true', Bool.not_eq_false', Int.not_lt, Int.not_le, gt_iff_lt, ge_iff_le] at h80
              refine awp_skip ?_
              refine awp_seq ?_
              refine awp_region ?_
              refine seqP (moveT rfl) rfl ?_
              refine seqP (fieldPT rfl rfl rfl) rfl ?_
              refine seq0 (storeVT rfl rfl rfl rfl rfl rfl rfl) ?_
              refine ops_nil ?_
              refine awp_seq ?_
              refine awp_any [0, 0, 2, 6, 0, 1, 47, 111, 255, 511] rfl ?_
              refine .step (rb := [2]) (wb := []) (ml := []) (loadVsT rfl rfl rfl rfl) rfl rfl rfl rfl rfl trivial ?_
              refine .step (rb := []) (wb := []) (ml := []) (moveT rfl) rfl rfl rfl rfl rfl trivial ?_
              refine .step (rb := []) (wb := []) (ml := []) (indexRT rfl rfl rfl (by decide) (idx_getD (i := 0) (z := default) (by simp only [List.length_take, List.length_drop] at h80 ⊢; omega)) rfl) rfl rfl rfl rfl rfl trivial ?_
              refine .step (rb := []) (wb := []) (ml := []) (loadRsT rfl rfl rfl rfl rfl) rfl rfl rfl rfl rfl trivial ?_
              refine .step (rb := []) (wb := []) (ml := []) (moveT rfl) rfl rfl rfl rfl rfl trivial ?_
              refine .step (rb := [4]) (wb := [4]) (ml := []) (storeVT rfl rfl rfl rfl rfl rfl rfl) rfl rfl rfl rfl rfl ⟨rfl, trivial⟩ ?_
              refine .step (rb := [5]) (wb := [5]) (ml := []) (storeVT rfl rfl rfl rfl rfl rfl rfl) rfl rfl rfl rfl rfl ⟨rfl, trivial⟩ ?_
              refine .step (rb := []) (wb := []) (ml := []) (assignT rfl) rfl rfl rfl rfl rfl trivial ?_
              refine .step (rb := []) (wb := []) (ml := []) (assignT rfl) rfl rfl rfl rfl rfl trivial ?_
              refine .step (rb := []) (wb := []) (ml := []) (assignT rfl) rfl rfl rfl rfl rfl trivial ?_
              refine .done (by decide +kernel) ?_
              refine awp_ret ?_
              refine ret_plain (resl_agg rfl rfl rfl rfl rfl (resl_agg rfl rfl rfl rfl rfl (resl_tmp rfl (resl_tmp rfl (resl_tmp rfl resl_nil))))) ?_ rfl
              have h1 : ¬ (nextS q now).items = [] := by rw [hnx]; intro h; (try simp only at h); simp [h] at h80
              simp only [hnx] at h1
              simp only [takeS, if_pos h17, if_neg hne, hnx, if_neg h1, hdr, take1_getD, runsS]; rfl
          · -- no
            try simp only [mOr, mAnd, decide_eq_true_eq, decide_eq_false_iff_not, beq_iff_eq, beq_eq_false_iff_ne, bne_iff_ne, ne_eq, bne_eq_false_iff_eq, Bool.or_eq_true, Bool.or_eq_false_iff, Bool.and_eq_true, Bool.and_eq_false_iff, Bool.not_eq_true', Bool.not_eq_false', Int.not_lt, Int.not_le, gt_iff_lt, ge_iff_le] at h48
            have hnx : nextS q now = q := by simp only [nextS, hlt, Bool.true_eq_false, if_false, if_neg h41, if_neg (show ¬ q.until_ ≤ now by omega)]
            have hdr : dropS q now = [] := by simp only [dropS]; rw [if_neg (by omega)]
            refine awp_skip ?_
            refine awp_seq ?_
            refine awp_turn (turn_subO (tl' := [(1, _), (2, _), (4, _), (5, _), (6, _), (7, _), (8, _)]) (bl' := [(2, some _), (4, some _), (5, some _)]) ⟨rfl, rfl, rfl, rfl, rfl, rfl, rfl, trivial⟩ ⟨rfl, rfl, rfl, trivial⟩) ?_
            refine awp_region ?_
            refine seqP (fieldPT rfl rfl rfl) rfl ?_
            refine seqP (loadVT rfl rfl rfl rfl) rfl ?_
            refine seq2 (callT rfl rfl rfl (callB_of Try.func153 rfl) (sp153 _ 1 (by first | omega | (simp only [List.length_drop]; omega))) trivial) rfl rfl ?_
            refine seqP (moveT rfl) rfl ?_
            refine seqP (extractT rfl rfl) rfl ?_
            refine seqP (extractT rfl rfl) rfl ?_
            refine seqP (assignT rfl) rfl ?_
            refine ops_turn (freezeT 11 153014 rfl rfl (List.length_map ..)) ?_
            refine seqP (assignT rfl) rfl ?_
            refine ops_turn (freezeT 12 153019 rfl rfl (List.length_map ..)) ?_
            refine ops_nil ?_
            refine awp_seq ?_
            refine awp_seq ?_
            refine awp_region ?_
            refine seqP (moveT rfl) rfl ?_
            refine seqP (lenRT rfl rfl (List.length_map ..)) rfl ?_
            refine seqP (intTT rfl rfl rfl) rfl ?_
            refine ops_nil ?_
            refine awp_if rfl (fun h80 => ?_) (fun h80 => ?_)
            · -- yes
              try simp only [mOr, mAnd, decide_eq_true_eq, decide_eq_false_iff_not, beq_iff_eq, beq_eq_false_iff_ne, bne_iff_ne, ne_eq, bne_eq_false_iff_eq, Bool.or_eq_true, Bool.or_eq_false_iff, Bool.and_eq_true, Bool.and_eq_false_iff, Bool.not_eq_true', Bool.not_eq_false', Int.not_lt, Int.not_le, gt_iff_lt, ge_iff_le] at h80
              refine awp_seq ?_
              refine awp_any [0, 0, 0, 1, 11, 27, 63, 127] rfl ?_
              refine .step (rb := []) (wb := []) (ml := []) (callT rfl rfl rfl (callB_of Try.func152 rfl) (spec_wk rfl (sp152 [])) trivial) rfl rfl rfl rfl rfl trivial ?_
              refine .step (rb := [5]) (wb := []) (ml := []) (loadVsT rfl rfl rfl rfl) rfl rfl rfl rfl rfl trivial ?_
              refine .step (rb := []) (wb := []) (ml := []) (moveT rfl) rfl rfl rfl rfl rfl trivial ?_
              refine .step (rb := [4]) (wb := [4]) (ml := []) (storeVT rfl rfl rfl rfl rfl rfl rfl) rfl rfl rfl rfl rfl ⟨rfl, trivial⟩ ?_
              refine .step (rb := [5]) (wb := [5]) (ml := []) (storeVT rfl rfl rfl rfl rfl rfl rfl) rfl rfl rfl rfl rfl ⟨rfl, trivial⟩ ?_
              refine .step (rb := []) (wb := []) (ml := []) (assignT rfl) rfl rfl rfl rfl rfl trivial ?_
              refine .step (rb := []) (wb := []) (ml := []) (assignT rfl) rfl rfl rfl rfl rfl trivial ?_
              refine .step (rb := []) (wb := []) (ml := []) (assignT rfl) rfl rfl rfl rfl rfl trivial ?_
              refine .done (by decide +kernel) ?_
              refine awp_ret ?_
              refine ret_plain (resl_agg rfl rfl rfl rfl rfl (resl_agg rfl rfl rfl rfl rfl (resl_tmp rfl (resl_tmp rfl (resl_tmp rfl resl_nil))))) ?_ rfl
              have h1 : (nextS q now).items = [] := by
                rw [hnx]; refine List.eq_nil_of_length_eq_zero ?_; simp only [List.length_take] at h80; show List.length _ = 0; first | omega | (simp only [List.length_drop] at h80 ⊢; omega)
              simp only [takeS, if_pos h17, if_neg hne, if_pos h1, hdr]; rfl
            · -- no
              try simp only [mOr, mAnd, decide_eq_true_eq, decide_eq_false_iff_not, beq_iff_eq, beq_eq_false_iff_ne, bne_iff_ne, ne_eq, bne_eq_false_iff_eq, Bool.or_eq_true, Bool.or_eq_false_iff, Bool.and_eq_true, Bool.and_eq_false_iff, Bool.not_eq_true', Bool.not_eq_false', Int.not_lt, Int.not_le, gt_iff_lt, ge_iff_le] at h80
              refine awp_skip ?_
              refine awp_seq ?_
              refine awp_region ?_
              refine seqP (moveT rfl) rfl ?_
              refine seqP (fieldPT rfl rfl rfl) rfl ?_
              refine seq0 (storeVT rfl rfl rfl rfl rfl rfl rfl) ?_
              refine ops_nil ?_
              refine awp_seq ?_
              refine awp_any [0, 0, 2, 6, 0, 1, 47, 111, 255, 511] rfl ?_
              refine .step (rb := [2]) (wb := []) (ml := []) (loadVsT rfl rfl rfl rfl) rfl rfl rfl rfl rfl trivial ?_
              refine .step (rb := []) (wb := []) (ml := []) (moveT rfl) rfl rfl rfl rfl rfl trivial ?_
              refine .step (rb := []) (wb := []) (ml := []) (indexRT rfl rfl rfl (by decide) (idx_getD (i := 0) (z := default) (by simp only [List.length_take, List.length_drop] at h80 ⊢; omega)) rfl) rfl rfl rfl rfl rfl trivial ?_
              refine .step (rb := []) (wb := []) (ml := []) (loadRsT rfl rfl rfl rfl rfl) rfl rfl rfl rfl rfl trivial ?_
              refine .step (rb := []) (wb := []) (ml := []) (moveT rfl) rfl rfl rfl rfl rfl trivial ?_
              refine .step (rb := [4]) (wb := [4]) (ml := []) (storeVT rfl rfl rfl rfl rfl rfl rfl) rfl rfl rfl rfl rfl ⟨rfl, trivial⟩ ?_
              refine .step (rb := [5]) (wb := [5]) (ml := []) (storeVT rfl rfl rfl rfl rfl rfl rfl) rfl rfl rfl rfl rfl ⟨rfl, trivial⟩ ?_
              refine .step (rb := []) (wb := []) (ml := []) (assignT rfl) rfl rfl rfl rfl rfl trivial ?_
              refine .step (rb := []) (wb := []) (ml := []) (assignT rfl) rfl rfl rfl rfl rfl trivial ?_
              refine .step (rb := []) (wb := []) (ml := []) (assignT rfl) rfl rfl rfl rfl rfl trivial ?_
              refine .done (by decide +kernel) ?_
              refine awp_ret ?_
              refine ret_plain (resl_agg rfl rfl rfl rfl rfl (resl_agg rfl rfl rfl rfl rfl (resl_tmp rfl (resl_tmp rfl (resl_tmp rfl resl_nil))))) ?_ rfl
              have h1 : ¬ (nextS q now).items = [] := by rw [hnx]; intro h; (try simp only at h); simp [h] at h80
              simp only [hnx] at h1
              simp only [takeS, if_pos h17, if_neg hne, hnx, if_neg h1, hdr, take1_getD, runsS]; rfl

end Go.Proofs.Ytencghlmckbmlaa
