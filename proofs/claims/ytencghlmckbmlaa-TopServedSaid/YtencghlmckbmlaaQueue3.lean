/- Walks: queue, the rest (printed by gen.py). -/
import Derived.Test.YtencghlmckbmlaaQueue2
set_option linter.unusedVariables false
set_option linter.unusedSimpArgs false
set_option maxRecDepth 100000
namespace Go.Proofs.Ytencghlmckbmlaa
open Go Go.RowKit

def Fifo.zero : Fifo := ⟨[], 0, 0⟩

theorem itemsOk_at : ∀ {l : List Item} {last : Int}, itemsOk last l = true → ∀ x ∈ l, last ≤ x.at_ ∧ x.at_ ≤ 1099511627776 ∧ 0 ≤ x.bytes ∧ x.bytes ≤ 2304
  | y :: r, last, h, x, hx => by
    simp only [itemsOk, Bool.and_eq_true, Bool.not_eq_true', itemBad, Bool.or_eq_false_iff, decide_eq_false_iff_not] at h
    obtain ⟨⟨⟨⟨h1, h2⟩, h3⟩, h4⟩, h5⟩ := h
    rcases List.mem_cons.1 hx with rfl | hx
    · omega
    · have := itemsOk_at h5 x hx; omega

theorem check_ok {q : Fifo} (h : checkS q = 0) : (q.items.length ≤ 256 ∧ 0 ≤ q.until_ ∧ q.until_ ≤ 2199023255552 ∧ 0 ≤ q.runs ∧ q.runs ≤ 256) ∧ itemsOk 0 q.items = true := by
  unfold checkS at h
  split at h
  · cases h
  · rename_i h1
    split at h
    · rename_i h2
      refine ⟨?_, h2⟩
      simp only [headBad, Bool.or_eq_true, decide_eq_true_eq, not_or] at h1
      omega
    · cases h

theorem check_item {q : Fifo} (h : checkS q = 0) {i : Nat} (hi : i < q.items.length) : 0 ≤ (q.items.getD i default).at_ ∧ (q.items.getD i default).at_ ≤ 1099511627776 ∧ 0 ≤ (q.items.getD i default).bytes ∧ (q.items.getD i default).bytes ≤ 2304 := by
  refine itemsOk_at (check_ok h).2 _ ?_
  rw [List.getD_eq_getElem?_getD, List.getElem?_eq_getElem hi]
  exact List.getElem_mem hi

theorem asked_ok {q : Fifo} {now : Int} (h : askedS q now = 0) : checkS q = 0 ∧ latestS q.items ≤ now ∧ 0 ≤ now ∧ now ≤ 1099511627776 := by
  unfold askedS at h
  split at h
  · rename_i h1
    split at h
    · cases h
    · rename_i h2
      have : 0 ≤ latestS q.items := by
        unfold latestS
        split
        · rename_i x hx
          exact (itemsOk_at (check_ok h1).2 x (List.mem_of_getLast? hx)).1
        · omega
      omega
  · rename_i h1; exact absurd h h1

def putS (q : Fifo) (id bytes now : Int) : Fifo × Int :=
  if askedS q now = 8 then (.zero, 8) else if askedS q now ≠ 0 ∨ bytes < 0 ∨ bytes > 2304 then (.zero, 2) else if q.items.length = 256 then (.zero, 22)
  else (⟨q.items ++ [⟨id, bytes, now⟩], q.until_, q.runs⟩, 0)

def ageN (now life : Int) : List Item → Nat
  | [] => 0
  | x :: r => if life < now - x.at_ then ageN now life r + 1 else 0

def ageS (q : Fifo) (now life : Int) : Fifo × List Item × Int :=
  if askedS q now = 0 then (if life < 0 ∨ life > 1099511627776 then (.zero, [], 2) else (⟨q.items.drop (ageN now life q.items), q.until_, q.runs⟩, q.items.take (ageN now life q.items), 0))
  else (.zero, [], askedS q now)


theorem sp151 (l : List Item) (hl : l.length ≤ 100000000) : Spec Try.prog 151 [.d (.s (l.map encItem))] [] (.own 151007 0 3 l.length) [(151007, some (.row 3 (l.map encItem)))] [151007] := by
  refine enter 8 [] Try.func151 rfl rfl blOk_nil rfl rfl fun X w0 E0 => ?_
  refine awp_seq ?_
  refine awp_region ?_
  refine seqP (assignT rfl) rfl ?_
  refine ops_nil ?_
  refine awp_seq ?_
  refine awp_seq ?_
  refine awp_region ?_
  refine seqP (moveT rfl) rfl ?_
  refine seqEqNil (k := 0) rfl (sliceT (k := 3) rfl) rfl fun b4 hb4 => ?_
  refine ops_nil ?_
  refine awp_if rfl (fun h4 => ?_) (fun h4 => ?_)
  · -- yes
    have hnil := List.map_eq_nil_iff.1 (hb4 h4); subst hnil
    refine awp_seq ?_
    refine awp_region ?_
    refine seqP (assignT rfl) rfl ?_
    refine ops_turn (turn_bind 2 151007 3 (by rfl) (by rfl)) ?_
    refine ops_nil ?_
    refine awp_ret ?_
    refine ret_blocks (resl_tmp rfl resl_nil) ?_ rfl ⟨rfl, rfl, rfl, trivial⟩ trivial
    rfl
  · -- no
    try simp only [mOr, mAnd, decide_eq_true_eq, decide_eq_false_iff_not, beq_iff_eq, beq_eq_false_iff_ne, bne_iff_ne, ne_eq, bne_eq_false_iff_eq, Bool.or_eq_true, Bool.or_eq_false_iff, Bool.and_eq_true, Bool.and_eq_false_iff, Bool.not_eq_true', Bool.not_eq_false', Int.not_lt, Int.not_le, gt_iff_lt, ge_iff_le] at h4
    refine awp_skip ?_
    refine awp_seq ?_
    refine awp_region ?_
    refine seq1 (lit0T (n' := 5) rfl) rfl rfl ?_
    refine seqP (moveT rfl) rfl ?_
    refine seq2 (appendT (b' := 151007) rfl rfl rfl rfl rfl rfl rfl item_rows ((Nat.zero_add _).trans (List.length_map ..)) (List.nil_append _) (by omega) (by omega)) rfl rfl ?_
    refine seqP (assignT rfl) rfl ?_
    refine ops_nil ?_
    refine awp_ret ?_
    refine ret_blocks (resl_tmp rfl resl_nil) ?_ rfl ⟨rfl, rfl, rfl, trivial⟩ trivial
    rfl

theorem sp152 (l : List Item) : Spec Try.prog 152 [.d (.s (l.map encItem))] [] (Fifo.av ⟨l, 0, 0⟩) [] [] := by
  refine enter 5 [] Try.func152 rfl rfl blOk_nil rfl rfl fun X w0 E0 => ?_
  refine awp_seq ?_
  refine awp_region ?_
  refine seq1 (allocT rfl rfl) rfl rfl ?_
  refine ops_nil ?_
  refine awp_seq ?_
  refine awp_region ?_
  refine seqP (moveT rfl) rfl ?_
  refine seqP (buildT rfl rfl rfl rfl) rfl ?_
  refine seq0 (storeVT rfl rfl rfl rfl rfl rfl rfl) ?_
  refine ops_nil ?_
  refine awp_ret ?_
  refine ret_plain (resl_agg rfl rfl rfl rfl rfl resl_nil) ?_ rfl
  rfl

theorem sp74 (q : Fifo) (id bytes now : Int) (hl : q.items.length ≤ 100000000) : Spec Try.prog 74 [q.av, .d (vi id), .d (vi bytes), .d (vi now)] [] (.tup [(putS q id bytes now).1.av, .d (vi (putS q id bytes now).2)]) [] [] := by
  refine enter 48 [] Try.func74 rfl rfl blOk_nil rfl rfl fun X w0 E0 => ?_
  refine awp_seq ?_
  refine awp_region ?_
  refine seq1 (boxT rfl rfl rfl) rfl rfl ?_
  refine seq1 (allocT rfl rfl) rfl rfl ?_
  refine seqP (assignT rfl) rfl ?_
  refine ops_nil ?_
  refine awp_seq ?_
  refine awp_region ?_
  refine seqP (loadVsT rfl rfl rfl rfl) rfl ?_
  refine seqP (moveT rfl) rfl ?_
  refine seqP (callT rfl rfl rfl (callB_of Try.func150 rfl) (sp150 q now hl) trivial) rfl ?_
  refine seqP (assignT rfl) rfl ?_
  refine ops_nil ?_
  refine awp_seq ?_
  refine awp_block ?_
  refine awp_seq ?_
  refine awp_region ?_
  refine seqP (moveT rfl) rfl ?_
  refine seqP (intTT rfl rfl rfl) rfl ?_
  refine seqP (assignT rfl) rfl ?_
  refine ops_nil ?_
  refine awp_if rfl (fun h14 => ?_) (fun h14 => ?_)
  · -- yes
    try simp only [mOr, mAnd, decide_eq_true_eq, decide_eq_false_iff_not, beq_iff_eq, beq_eq_false_iff_ne, bne_iff_ne, ne_eq, bne_eq_false_iff_eq, Bool.or_eq_true, Bool.or_eq_false_iff, Bool.and_eq_true, Bool.and_eq_false_iff, Bool.not_eq_true', Bool.not_eq_false', Int.not_lt, Int.not_le, gt_iff_lt, ge_iff_le] at h14
    refine awp_seq ?_
    refine awp_region ?_
    refine seqP (buildT rfl rfl rfl rfl) rfl ?_
    refine seqP (moveT rfl) rfl ?_
    refine seq0 (storeVT rfl rfl rfl rfl rfl rfl rfl) ?_
    refine seqP (assignT rfl) rfl ?_
    refine ops_nil ?_
    refine awp_ret ?_
    refine ret_plain (resl_agg rfl rfl rfl rfl rfl (resl_tmp rfl resl_nil)) ?_ rfl
    simp only [putS, if_pos h14, h14]; rfl
  · -- no
    try simp only [mOr, mAnd, decide_eq_true_eq, decide_eq_false_iff_not, beq_iff_eq, beq_eq_false_iff_ne, bne_iff_ne, ne_eq, bne_eq_false_iff_eq, Bool.or_eq_true, Bool.or_eq_false_iff, Bool.and_eq_true, Bool.and_eq_false_iff, Bool.not_eq_true', Bool.not_eq_false', Int.not_lt, Int.not_le, gt_iff_lt, ge_iff_le] at h14
    refine awp_seq ?_
    refine awp_region ?_
    refine seqP (moveT rfl) rfl ?_
    refine seqP (intTT rfl rfl rfl) rfl ?_
    refine seqP (moveT rfl) rfl ?_
    refine seqM 2 (g := 25) (x := ?_) rfl rfl (fun Q g22 hJ => ?_) (fun Q g22 hJ => ?_) ?_
    rotate_left 1
    · -- taken
      refine seqP (moveT rfl) rfl ?_
      refine seqGy rfl rfl ?_
      refine seqP (intTT rfl rfl rfl) rfl ?_
      refine seqP (pickNT rfl rfl) rfl ?_
      refine hJ 3 _ ?_
      exact ⟨.inl rfl, .inl rfl, .inr (congrArg (fun b => AV.d (D.v (Value.bool b))) g22), rfl⟩
    · -- left
      refine seqGn rfl rfl ?_
      refine seqP (pickYT rfl rfl) rfl ?_
      refine hJ 3 _ ?_
      exact ⟨.inl rfl, .inl rfl, .inr (congrArg (fun b => AV.d (D.v (Value.bool b))) g22), rfl⟩
    refine seqP (moveT rfl) rfl ?_
    refine seqM 2 (g := 29) (x := ?_) rfl rfl (fun Q g26 hJ => ?_) (fun Q g26 hJ => ?_) ?_
    rotate_left 1
    · -- taken
      refine seqP (moveT rfl) rfl ?_
      refine seqGy rfl rfl ?_
      refine seqP (intTT rfl rfl rfl) rfl ?_
      refine seqP (pickNT rfl rfl) rfl ?_
      refine hJ 3 _ ?_
      exact ⟨.inl rfl, .inl rfl, .inr (congrArg (fun b => AV.d (D.v (Value.bool b))) g26), rfl⟩
    · -- left
      refine seqGn rfl rfl ?_
      refine seqP (pickYT rfl rfl) rfl ?_
      refine hJ 3 _ ?_
      exact ⟨.inl rfl, .inl rfl, .inr (congrArg (fun b => AV.d (D.v (Value.bool b))) g26), rfl⟩
    refine seqP (assignT rfl) rfl ?_
    refine ops_nil ?_
    refine awp_if rfl (fun h19 => ?_) (fun h19 => ?_)
    · -- yes
      try simp only [mOr, mAnd, decide_eq_true_eq, decide_eq_false_iff_not, beq_iff_eq, beq_eq_false_iff_ne, bne_iff_ne, ne_eq, bne_eq_false_iff_eq, Bool.or_eq_true, Bool.or_eq_false_iff, Bool.and_eq_true, Bool.and_eq_false_iff, Bool.not_eq_true', Bool.not_eq_false', Int.not_lt, Int.not_le, gt_iff_lt, ge_iff_le] at h19
      refine awp_seq ?_
      refine awp_region ?_
      refine seqP (buildT rfl rfl rfl rfl) rfl ?_
      refine seq0 (storeVT rfl rfl rfl rfl rfl rfl rfl) ?_
      refine seqP (assignT rfl) rfl ?_
      refine ops_nil ?_
      refine awp_ret ?_
      refine ret_plain (resl_agg rfl rfl rfl rfl rfl (resl_tmp rfl resl_nil)) ?_ rfl
      have h1 : askedS q now ≠ 0 ∨ bytes < 0 ∨ bytes > 2304 := by omega
      simp only [putS, if_neg h14, if_pos h1]; rfl
    · -- no
      try simp only [mOr, mAnd, decide_eq_true_eq, decide_eq_false_iff_not, beq_iff_eq, beq_eq_false_iff_ne, bne_iff_ne, ne_eq, bne_eq_false_iff_eq, Bool.or_eq_true, Bool.or_eq_false_iff, Bool.and_eq_true, Bool.and_eq_false_iff, Bool.not_eq_true', Bool.not_eq_false', Int.not_lt, Int.not_le, gt_iff_lt, ge_iff_le] at h19
      refine awp_seq ?_
      refine awp_region ?_
      refine seqP (fieldPT rfl rfl rfl) rfl ?_
      refine seqP (loadVT rfl rfl rfl rfl) rfl ?_
      refine seqP (lenRT rfl rfl (List.length_map ..)) rfl ?_
      refine seqP (intTT rfl rfl rfl) rfl ?_
      refine seqP (assignT rfl) rfl ?_
      refine ops_nil ?_
      refine awp_if rfl (fun h31 => ?_) (fun h31 => ?_)
      · -- yes
        try simp only [mOr, mAnd, decide_eq_true_eq, decide_eq_false_iff_not, beq_iff_eq, beq_eq_false_iff_ne, bne_iff_ne, ne_eq, bne_eq_false_iff_eq, Bool.or_eq_true, Bool.or_eq_false_iff, Bool.and_eq_true, Bool.and_eq_false_iff, Bool.not_eq_true', Bool.not_eq_false', Int.not_lt, Int.not_le, gt_iff_lt, ge_iff_le] at h31
        refine awp_seq ?_
        refine awp_region ?_
        refine seqP (buildT rfl rfl rfl rfl) rfl ?_
        refine seq0 (storeVT rfl rfl rfl rfl rfl rfl rfl) ?_
        refine seqP (assignT rfl) rfl ?_
        refine ops_nil ?_
        refine awp_ret ?_
        refine ret_plain (resl_agg rfl rfl rfl rfl rfl (resl_tmp rfl resl_nil)) ?_ rfl
        have h1 : ¬ (askedS q now ≠ 0 ∨ bytes < 0 ∨ bytes > 2304) := by omega
        have h2 : q.items.length = 256 := by omega
        simp only [putS, if_neg h14, if_neg h1, if_pos h2]; rfl
      · -- no
        try simp only [mOr, mAnd, decide_eq_true_eq, decide_eq_false_iff_not, beq_iff_eq, beq_eq_false_iff_ne, bne_iff_ne, ne_eq, bne_eq_false_iff_eq, Bool.or_eq_true, Bool.or_eq_false_iff, Bool.and_eq_true, Bool.and_eq_false_iff, Bool.not_eq_true', Bool.not_eq_false', Int.not_lt, Int.not_le, gt_iff_lt, ge_iff_le] at h31
        refine awp_skip ?_
        refine awp_seq ?_
        refine awp_region ?_
        refine seqP (fieldPT rfl rfl rfl) rfl ?_
        refine seqP (loadVT rfl rfl rfl rfl) rfl ?_
        refine seq1 (callT rfl rfl rfl (callB_of Try.func151 rfl) (sp151 q.items hl) trivial) rfl rfl ?_
        refine seqP (moveT rfl) rfl ?_
        refine seqP (moveT rfl) rfl ?_
        refine seqP (moveT rfl) rfl ?_
        refine seqP (buildT rfl rfl rfl rfl) rfl ?_
        refine seqP (litT rfl rfl rfl rfl rfl rfl rfl rfl) rfl ?_
        refine seq2 (appendT (b' := 45) rfl rfl rfl rfl rfl rfl (List.length_map ..) (fun row h => by simp at h; subst h; rfl) rfl (show _ = (q.items ++ [(⟨id, bytes, now⟩ : Item)]).map encItem by simp [encItem]) (by simp; omega) (by simp; omega)) rfl rfl ?_
        refine ops_turn (freezeT 45 45 rfl rfl (by simp)) ?_
        refine seqP (fieldPT rfl rfl rfl) rfl ?_
        refine seq0 (storeVT rfl rfl rfl rfl rfl rfl rfl) ?_
        refine ops_nil ?_
        refine awp_seq ?_
        refine awp_region ?_
        refine seqP (loadVsT rfl rfl rfl rfl) rfl ?_
        refine seq0 (storeVT rfl rfl rfl rfl rfl rfl rfl) ?_
        refine seqP (assignT rfl) rfl ?_
        refine ops_nil ?_
        refine awp_ret ?_
        refine ret_plain (resl_agg rfl rfl rfl rfl rfl (resl_tmp rfl resl_nil)) ?_ rfl
        have h1 : ¬ (askedS q now ≠ 0 ∨ bytes < 0 ∨ bytes > 2304) := by omega
        have h2 : ¬ q.items.length = 256 := by omega
        simp only [putS, if_neg h14, if_neg h1, if_neg h2]; rfl

theorem sp77 (q : Fifo) (now life : Int) (hl : q.items.length ≤ 100000000) : Spec Try.prog 77 [q.av, .d (vi now), .d (vi life)] []
    (.tup [(ageS q now life).1.av, .d (.s ((ageS q now life).2.1.map encItem)), .d (vi (ageS q now life).2.2)]) [] [] := by
  refine enter 54 [] Try.func77 rfl rfl blOk_nil rfl rfl fun X w0 E0 => ?_
  refine awp_seq ?_
  refine awp_region ?_
  refine seq1 (boxT rfl rfl rfl) rfl rfl ?_
  refine seq1 (allocT rfl rfl) rfl rfl ?_
  refine seqP (assignT rfl) rfl ?_
  refine seqP (assignT rfl) rfl ?_
  refine ops_nil ?_
  refine awp_seq ?_
  refine awp_seq ?_
  refine awp_region ?_
  refine seqP (loadVsT rfl rfl rfl rfl) rfl ?_
  refine seqP (moveT rfl) rfl ?_
  refine seqP (callT rfl rfl rfl (callB_of Try.func150 rfl) (sp150 q now hl) trivial) rfl ?_
  refine seqP (assignT rfl) rfl ?_
  refine ops_nil ?_
  refine awp_seq ?_
  refine awp_region ?_
  refine seqP (moveT rfl) rfl ?_
  refine seqP (intTT rfl rfl rfl) rfl ?_
  refine ops_nil ?_
  refine awp_if rfl (fun h15 => ?_) (fun h15 => ?_)
  · -- yes
    try simp only [mOr, mAnd, decide_eq_true_eq, decide_eq_false_iff_not, beq_iff_eq, beq_eq_false_iff_ne, bne_iff_ne, ne_eq, bne_eq_false_iff_eq, Bool.or_eq_true, Bool.or_eq_false_iff, Bool.and_eq_true, Bool.and_eq_false_iff, Bool.not_eq_true', Bool.not_eq_false', Int.not_lt, Int.not_le, gt_iff_lt, ge_iff_le] at h15
    refine awp_seq ?_
    refine awp_region ?_
    refine seqP (loadVsT rfl rfl rfl rfl) rfl ?_
    refine seqP (moveT rfl) rfl ?_
    refine seq0 (storeVT rfl rfl rfl rfl rfl rfl rfl) ?_
    refine seqP (assignT rfl) rfl ?_
    refine seqP (assignT rfl) rfl ?_
    refine ops_nil ?_
    refine awp_ret ?_
    refine ret_plain (resl_agg rfl rfl rfl rfl rfl (resl_tmp rfl (resl_tmp rfl resl_nil))) ?_ rfl
    simp only [ageS, if_neg h15]; rfl
  · -- no
    simp only [bne_eq_false_iff_eq] at h15
    obtain ⟨hck, hlast, hn0, hn1⟩ := asked_ok h15
    refine awp_skip ?_
    refine awp_seq ?_
    refine awp_seq ?_
    refine awp_region ?_
    refine seqP (moveT rfl) rfl ?_
    refine seqP (intTT rfl rfl rfl) rfl ?_
    refine seqP (moveT rfl) rfl ?_
    refine seqM 2 (g := 23) (x := ?_) rfl rfl (fun Q g20 hJ => ?_) (fun Q g20 hJ => ?_) ?_
    rotate_left 1
    · -- taken
      refine seqP (moveT rfl) rfl ?_
      refine seqGy rfl rfl ?_
      refine seqP (intTT rfl rfl rfl) rfl ?_
      refine seqP (pickNT rfl rfl) rfl ?_
      refine hJ 3 _ ?_
      exact ⟨.inl rfl, .inl rfl, .inr (congrArg (fun b => AV.d (D.v (Value.bool b))) g20), rfl⟩
    · -- left
      refine seqGn rfl rfl ?_
      refine seqP (pickYT rfl rfl) rfl ?_
      refine hJ 3 _ ?_
      exact ⟨.inl rfl, .inl rfl, .inr (congrArg (fun b => AV.d (D.v (Value.bool b))) g20), rfl⟩
    refine ops_nil ?_
    refine awp_if rfl (fun h23 => ?_) (fun h23 => ?_)
    · -- yes
      try simp only [mOr, mAnd, decide_eq_true_eq, decide_eq_false_iff_not, beq_iff_eq, beq_eq_false_iff_ne, bne_iff_ne, ne_eq, bne_eq_false_iff_eq, Bool.or_eq_true, Bool.or_eq_false_iff, Bool.and_eq_true, Bool.and_eq_false_iff, Bool.not_eq_true', Bool.not_eq_false', Int.not_lt, Int.not_le, gt_iff_lt, ge_iff_le] at h23
      refine awp_seq ?_
      refine awp_region ?_
      refine seqP (loadVsT rfl rfl rfl rfl) rfl ?_
      refine seq0 (storeVT rfl rfl rfl rfl rfl rfl rfl) ?_
      refine seqP (assignT rfl) rfl ?_
      refine seqP (assignT rfl) rfl ?_
      refine ops_nil ?_
      refine awp_ret ?_
      refine ret_plain (resl_agg rfl rfl rfl rfl rfl (resl_tmp rfl (resl_tmp rfl resl_nil))) ?_ rfl
      simp only [ageS, if_pos h15, if_pos h23]; rfl
    · -- no
      try simp only [mOr, mAnd, decide_eq_true_eq, decide_eq_false_iff_not, beq_iff_eq, beq_eq_false_iff_ne, bne_iff_ne, ne_eq, bne_eq_false_iff_eq, Bool.or_eq_true, Bool.or_eq_false_iff, Bool.and_eq_true, Bool.and_eq_false_iff, Bool.not_eq_true', Bool.not_eq_false', Int.not_lt, Int.not_le, gt_iff_lt, ge_iff_le] at h23
      refine awp_skip ?_
      refine awp_seq ?_
      refine awp_region ?_
      refine seqP (assignT rfl) rfl ?_
      refine ops_nil ?_
      refine awp_seq ?_
      refine awp_block ?_
      refine awp_loop (ι := Nat) (fun p => ⟨[(1, .d (vi now)), (2, .d (vi life)), (3, .ptr 3 0 0 0), (6, .ptr 6 0 0 0), (10, .d (vi (p : Nat)))], [(3, some (.var [.d (.s (q.items.map encItem)), .d (vi q.until_), .d (vi q.runs)])), (6, some (.var [.nil, .d (vi 0), .d (vi 0)]))]⟩) (fun p => p ≤ q.items.length ∧ ageN now life (q.items.drop p) + p = ageN now life q.items) (fun p => q.items.length - p) 0 ⟨Nat.zero_le _, rfl⟩ (turn_sub ⟨⟨rfl, rfl, rfl, rfl, rfl, trivial⟩, ⟨rfl, rfl, trivial⟩⟩) (fun p hP => ?_)
      refine awp_seq ?_
      refine awp_seq ?_
      refine awp_region ?_
      refine seqP (moveT rfl) rfl ?_
      refine seqP (fieldPT rfl rfl rfl) rfl ?_
      refine seqP (loadVT rfl rfl rfl rfl) rfl ?_
      refine seqP (lenRT rfl rfl (List.length_map ..)) rfl ?_
      refine seqP (intTT rfl rfl rfl) rfl ?_
      refine seqP (moveT rfl) rfl ?_
      refine seqM 10 (g := 41) (x := ?_) rfl rfl (fun Q g30 hJ => ?_) (fun Q g30 hJ => ?_) ?_
      rotate_left 1
      · -- taken
        refine seqP (moveT rfl) rfl ?_
        refine seqGy rfl rfl ?_
        refine seqP (fieldPT rfl rfl rfl) rfl ?_
        refine seqGy rfl rfl ?_
        refine seqP (loadVT rfl rfl rfl rfl) rfl ?_
        refine seqGy rfl rfl ?_
        refine seqP (moveT rfl) rfl ?_
        refine seqGy rfl rfl ?_
        refine seqP (indexRT rfl rfl rfl (by omega) (idx_getD (z := default) (by have := of_decide_eq_true g30; omega)) rfl) rfl ?_
        refine seqGy rfl rfl ?_
        refine seqP (fieldRT rfl rfl rfl) rfl ?_
        refine seqGy rfl rfl ?_
        refine seqP (loadRT rfl rfl rfl) rfl ?_
        refine seqGy rfl rfl ?_
        refine seqP (intnT rfl rfl rfl (wrap_i64 (by have := of_decide_eq_true g30; have := check_item hck (i := p) (by omega); omega))) rfl ?_
        refine seqGy rfl rfl ?_
        refine seqP (moveT rfl) rfl ?_
        refine seqGy rfl rfl ?_
        refine seqP (intTT rfl rfl rfl) rfl ?_
        refine seqP (pickYT rfl rfl) rfl ?_
        refine hJ 11 _ ?_
        exact ⟨.inl rfl, .inl rfl, .inl rfl, .inl rfl, .inl rfl, .inl rfl, .inl rfl, .inl rfl, .inl rfl, .inl rfl, .inr (congrArg (fun b => AV.d (D.v (Value.bool b))) g30), rfl⟩
      · -- left
        refine seqGn rfl rfl ?_
        refine seqGn rfl rfl ?_
        refine seqGn rfl rfl ?_
        refine seqGn rfl rfl ?_
        refine seqGn rfl rfl ?_
        refine seqGn rfl rfl ?_
        refine seqGn rfl rfl ?_
        refine seqGn rfl rfl ?_
        refine seqGn rfl rfl ?_
        refine seqP (pickNT rfl rfl) rfl ?_
        refine hJ 11 _ ?_
        exact ⟨.inl rfl, .inl rfl, .inl rfl, .inl rfl, .inl rfl, .inl rfl, .inl rfl, .inl rfl, .inl rfl, .inl rfl, .inr (congrArg (fun b => AV.d (D.v (Value.bool b))) g30), rfl⟩
      refine ops_nil ?_
      refine awp_if rfl (fun h41 => ?_) (fun h41 => ?_)
      · -- yes
        try simp only [mOr, mAnd, decide_eq_true_eq, decide_eq_false_iff_not, beq_iff_eq, beq_eq_false_iff_ne, bne_iff_ne, ne_eq, bne_eq_false_iff_eq, Bool.or_eq_true, Bool.or_eq_false_iff, Bool.and_eq_true, Bool.and_eq_false_iff, Bool.not_eq_true', Bool.not_eq_false', Int.not_lt, Int.not_le, gt_iff_lt, ge_iff_le] at h41
        refine awp_skip ?_
        refine awp_block ?_
        refine awp_region ?_
        refine seqP (moveT rfl) rfl ?_
        refine seqP (intnT rfl rfl rfl (wrap_succ (by omega))) rfl ?_
        refine seqP (assignT rfl) rfl ?_
        refine ops_nil ?_
        refine ⟨(p + 1), ⟨by omega, ?_⟩, (turn_sub ⟨⟨rfl, rfl, rfl, rfl, rfl, trivial⟩, ⟨rfl, rfl, trivial⟩⟩), by show q.items.length - (p + 1) < q.items.length - p; omega⟩
        have := hP.2
        rw [drop_cons (x := q.items.getD p default) (by rw [List.getD_eq_getElem?_getD, List.getElem?_eq_getElem (by omega)]; rfl)] at this
        simp only [ageN, if_pos h41.2] at this
        omega
      · -- no
        try simp only [mOr, mAnd, decide_eq_true_eq, decide_eq_false_iff_not, beq_iff_eq, beq_eq_false_iff_ne, bne_iff_ne, ne_eq, bne_eq_false_iff_eq, Bool.or_eq_true, Bool.or_eq_false_iff, Bool.and_eq_true, Bool.and_eq_false_iff, Bool.not_eq_true', Bool.not_eq_false', Int.not_lt, Int.not_le, gt_iff_lt, ge_iff_le] at h41
        refine awp_exit ?_
        refine awp_seq ?_
        refine awp_region ?_
        refine seqP (fieldPT rfl rfl rfl) rfl ?_
        refine seqP (loadVT rfl rfl rfl rfl) rfl ?_
        refine seqP (moveT rfl) rfl ?_
        refine seq2 (callT rfl rfl rfl (callB_of Try.func153 rfl) (sp153 q.items p (by omega)) trivial) rfl rfl ?_
        refine seqP (moveT rfl) rfl ?_
        refine seqP (extractT rfl rfl) rfl ?_
        refine ops_turn (freezeT 49 153014 rfl rfl (List.length_map ..)) ?_
        refine seqP (extractT rfl rfl) rfl ?_
        refine ops_turn (freezeT 50 153019 rfl rfl (List.length_map ..)) ?_
        refine seqP (assignT rfl) rfl ?_
        refine seqP (fieldPT rfl rfl rfl) rfl ?_
        refine seq0 (storeVT rfl rfl rfl rfl rfl rfl rfl) ?_
        refine ops_nil ?_
        refine awp_seq ?_
        refine awp_region ?_
        refine seqP (loadVsT rfl rfl rfl rfl) rfl ?_
        refine seqP (moveT rfl) rfl ?_
        refine seq0 (storeVT rfl rfl rfl rfl rfl rfl rfl) ?_
        refine seqP (assignT rfl) rfl ?_
        refine seqP (assignT rfl) rfl ?_
        refine ops_nil ?_
        refine awp_ret ?_
        refine ret_plain (resl_agg rfl rfl rfl rfl rfl (resl_tmp rfl (resl_tmp rfl resl_nil))) ?_ rfl
        have h1 : ¬ (life < 0 ∨ life > 1099511627776) := by omega
        have hp : ageN now life q.items = p := by
          rw [← hP.2]
          rcases Nat.lt_or_ge p q.items.length with h | h
          · rw [drop_cons (x := q.items.getD p default) (by rw [List.getD_eq_getElem?_getD, List.getElem?_eq_getElem h]; rfl)]
            simp only [ageN]
            rw [if_neg (by omega)]; omega
          · rw [List.drop_eq_nil_of_le h]; simp [ageN]
        simp only [ageS, if_pos h15, if_neg h1, hp]; rfl

end Go.Proofs.Ytencghlmckbmlaa
