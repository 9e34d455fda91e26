/- Walks: wispFlow.move (printed by gen.py). -/
import Derived.Test.YtencghlmckbmlaaFlow2
set_option linter.unusedVariables false
set_option linter.unusedSimpArgs false
set_option maxRecDepth 100000
set_option maxHeartbeats 4000000
namespace Go.Proofs.Ytencghlmckbmlaa
open Go Go.RowKit

theorem age_items {q : Fifo} {now life : Int} : ∀ x ∈ (ageS q now life).2.1, x ∈ q.items := fun x hx => by
  unfold ageS at hx
  split at hx
  · split at hx
    · cases hx
    · exact List.mem_of_mem_take hx
  · cases hx

theorem drop_items {q : Fifo} {now : Int} : ∀ x ∈ (takeS q now).2.2.2.1, x ∈ q.items := fun x hx => by
  have h : ∀ x ∈ dropS q now, x ∈ q.items := fun x hx => by
    unfold dropS at hx
    split at hx
    · exact List.mem_of_mem_take hx
    · cases hx
  unfold takeS at hx
  split at hx
  · split at hx
    · cases hx
    · split at hx
      · exact h x hx
      · exact h x hx
  · cases hx

theorem take_item {q : Fifo} {now : Int} (hi : ∀ x ∈ q.items, ItemOk x) : ItemOk (takeS q now).2.1 := by
  have hz : ItemOk Item.zero := by unfold ItemOk Item.zero; simp
  have hn : ∀ x ∈ (nextS q now).items, x ∈ q.items := fun x hx => by
    unfold nextS at hx
    split at hx
    · exact hx
    · split at hx
      · exact hx
      · split at hx
        · exact List.mem_of_mem_drop hx
        · exact hx
  unfold takeS
  split
  · split
    · exact hz
    · split
      · exact hz
      · rename_i h
        refine hi _ (hn _ ?_)
        show (nextS q now).items.getD 0 default ∈ (nextS q now).items
        cases hl : (nextS q now).items with
        | nil => exact absurd hl h
        | cons a r => simp
  · exact hz

theorem len_age {q : Fifo} {now life : Int} : (ageS q now life).2.1.length ≤ q.items.length := by
  unfold ageS
  split
  · split
    · simp
    · simp only [List.length_take]; omega
  · simp

theorem len_drop {q : Fifo} {now : Int} : (takeS q now).2.2.2.1.length ≤ q.items.length := by
  have h : (dropS q now).length ≤ q.items.length := by
    unfold dropS
    split
    · simp only [List.length_take]; omega
    · simp
  unfold takeS
  split
  · split
    · simp
    · split <;> exact h
  · simp

theorem fifo_set {l : List Fifo} {i : Nat} {q : Fifo} : (l.map encFifo).set i [.s (q.items.map encItem), vi q.until_, vi q.runs] = (l.set i q).map encFifo := by rw [List.map_set]; rfl

theorem getD_fifo {qs : List Fifo} {C : Fifo → Prop} (h : ∀ q ∈ qs, C q) (h0 : C Fifo.zero) (i : Nat) : C (qs.getD i default) := by
  rw [List.getD_eq_getElem?_getD]
  cases hi : qs[i]? with
  | none => exact h0
  | some q => exact h q (List.mem_of_getElem? hi)

theorem len_choose {s : Shares} {bs : List Bool} : (choose s bs).2.1.list.length ≤ s.list.length := by
  unfold choose
  split
  · split
    · split
      · show (pickS _ _ _).1.length ≤ _; rw [pick_len]; omega
      · exact Nat.le_refl _
    · simp [Shares.zero]
  · simp [Shares.zero]


theorem sp31 (p : Par) (ts : Shares) (qs : List Fifo) (m : Mv) (id now : Int) (hn : 1 ≤ p.n) (hn8 : p.n ≤ 8) (hf : p.first < p.n) (hl0 : 0 ≤ p.later) (hl1 : p.later ≤ 1073741824) (hm0 : 0 ≤ p.names) (hm1 : p.names ≤ 1000)
    (hqs : qs.length = p.n) (hq : ∀ q ∈ qs, q.items.length ≤ 100000 ∧ ∀ x ∈ q.items, ItemOk x) (hk : 0 ≤ m.kind) (hN : 0 ≤ m.n) (hid : 0 ≤ id ∧ id ≤ 1000) (hnow : 0 ≤ now ∧ now ≤ 1000000000) (hts : ts.list.length ≤ 1000000) :
    Spec Try.prog 31 [.ptr 9001 0 0 0, .agg [.d (.v (.int .u8 m.kind)), .d (vi m.wait), .d (vi m.n)], .d (vi id), .d (vi now)] [(9001, some (.var [.d (.s (ts.list.map encShare)), .d (vi ts.turn), .own 9002 0 3 p.n, .d (vi (p.first : Nat)), .d (vi p.later), .d (vi p.names)])), (9002, some (.row 3 (qs.map encFifo)))]
      (.tup [.agg [.d (vi (moveS p ts qs m id now).1.who), .d (.s ((moveS p ts qs m id now).1.items.map encItem)), .d (vi (moveS p ts qs m id now).1.e)], .d (vb (moveS p ts qs m id now).1.ok)])
      [(9001, some (.var [.d (.s ((moveS p ts qs m id now).2.1.list.map encShare)), .d (vi (moveS p ts qs m id now).2.1.turn), .own 9002 0 3 p.n, .d (vi (p.first : Nat)), .d (vi p.later), .d (vi p.names)])), (9002, some (.row 3 ((moveS p ts qs m id now).2.2.map encFifo)))] [] := by
  have hqd : ∀ i, (qs.getD i default).items.length ≤ 100000 ∧ ∀ x ∈ (qs.getD i default).items, ItemOk x := getD_fifo (C := fun q => q.items.length ≤ 100000 ∧ ∀ x ∈ q.items, ItemOk x) hq ⟨by simp [Fifo.zero], fun x hx => by simp [Fifo.zero] at hx⟩
  have hnz : (p.n : Int) ≠ 0 := by omega
  have hmn0 : 0 ≤ m.n % (p.n : Int) := Int.emod_nonneg _ hnz
  have hmn1 : m.n % (p.n : Int) < p.n := Int.emod_lt_of_pos _ (by omega)
  have hs0 : 0 ≤ (m.n % (p.n : Int) + p.first) % (p.n : Int) := Int.emod_nonneg _ hnz
  have hs1 : (m.n % (p.n : Int) + p.first) % (p.n : Int) < p.n := Int.emod_lt_of_pos _ (by omega)
  have hf0 : 0 ≤ (p.first : Int) % (p.n : Int) := Int.emod_nonneg _ hnz
  have hf1 : (p.first : Int) % (p.n : Int) < p.n := Int.emod_lt_of_pos _ (by omega)
  have hsl : slot p m.n < qs.length := by unfold slot; omega
  refine enter 244 [9001, 9002] Try.func31 rfl rfl (blOk_of rfl rfl ⟨rfl, rfl, trivial⟩) rfl rfl fun X w0 E0 => ?_
  refine awp_seq ?_
  refine awp_region ?_
  refine seq1 (boxT rfl rfl rfl) rfl rfl ?_
  refine seq1 (allocT rfl rfl) rfl rfl ?_
  refine seqP (assignT rfl) rfl ?_
  refine ops_nil ?_
  refine awp_seq ?_
  refine awp_region ?_
  refine seqP (moveT rfl) rfl ?_
  refine seqP (moveT rfl) rfl ?_
  refine seqP (nilPT rfl) rfl ?_
  refine seqP (fieldPT rfl rfl rfl) rfl ?_
  refine seqP (loadVT rfl rfl rfl rfl) rfl ?_
  refine seqP (intnT rfl rfl rfl (wrap_i64 ⟨by omega, by omega⟩)) rfl ?_
  refine seqP (assignT rfl) rfl ?_
  refine ops_nil ?_
  refine awp_seq ?_
  refine awp_region ?_
  refine seqP (moveT rfl) rfl ?_
  refine seqP (nilPT rfl) rfl ?_
  refine seqP (fieldPT rfl rfl rfl) rfl ?_
  refine seqP (loadVT rfl rfl rfl rfl) rfl ?_
  refine seqP (lenWT rfl rfl) rfl ?_
  refine seqP (assignT rfl) rfl ?_
  refine ops_nil ?_
  refine awp_seq ?_
  refine awp_any [0, 1, 0, 7, 0, 16, 48, 112, 255, 0, 1023, 2047] rfl ?_
  refine .step (rb := []) (wb := []) (ml := [5]) (fieldPT rfl rfl rfl) rfl rfl rfl rfl rfl trivial ?_
  refine .step (rb := [5]) (wb := []) (ml := []) (loadVT rfl rfl rfl rfl) rfl rfl rfl rfl rfl trivial ?_
  refine .step (rb := []) (wb := []) (ml := []) (moveT rfl) rfl rfl rfl rfl rfl trivial ?_
  refine .step (rb := []) (wb := []) (ml := []) (remT rfl rfl (by omega) (tmod_nn (by omega))) rfl rfl rfl rfl rfl trivial ?_
  refine .step (rb := []) (wb := []) (ml := [9001]) (moveT rfl) rfl rfl rfl rfl rfl trivial ?_
  refine .step (rb := []) (wb := []) (ml := [9001]) (nilPT rfl) rfl rfl rfl rfl rfl trivial ?_
  refine .step (rb := []) (wb := []) (ml := [9001]) (fieldPT rfl rfl rfl) rfl rfl rfl rfl rfl trivial ?_
  refine .step (rb := [9001]) (wb := []) (ml := []) (loadVT rfl rfl rfl rfl) rfl rfl rfl rfl rfl trivial ?_
  refine .step (rb := []) (wb := []) (ml := []) (intnT rfl rfl rfl (wrap_i64 ⟨by omega, by omega⟩)) rfl rfl rfl rfl rfl trivial ?_
  refine .step (rb := []) (wb := []) (ml := []) (moveT rfl) rfl rfl rfl rfl rfl trivial ?_
  refine .step (rb := []) (wb := []) (ml := []) (remT rfl rfl (by omega) (tmod_nn (by omega))) rfl rfl rfl rfl rfl trivial ?_
  refine .step (rb := []) (wb := []) (ml := []) (assignT rfl) rfl rfl rfl rfl rfl trivial ?_
  refine .done (by decide +kernel) ?_
  refine awp_seq ?_
  refine awp_seq ?_
  refine awp_region ?_
  refine seqP (fieldPT rfl rfl rfl) rfl ?_
  refine seqP (loadVT rfl rfl rfl rfl) rfl ?_
  refine seqP (remT rfl rfl (by omega) (tmod_nn (by omega))) rfl ?_
  refine ops_nil ?_
  refine awp_block ?_
  refine awp_seq ?_
  refine awp_seq ?_
  refine awp_region ?_
  refine seqP (intTT rfl rfl rfl) rfl ?_
  refine seqP (assignT rfl) rfl ?_
  refine ops_nil ?_
  refine awp_ifS rfl (fun h53 => ?_) (fun h53 => ?_)
  · -- yes
    try simp only [mOr, mAnd, decide_eq_true_eq, decide_eq_false_iff_not, beq_iff_eq, beq_eq_false_iff_ne, bne_iff_ne, ne_eq, bne_eq_false_iff_eq, Bool.or_eq_true, Bool.or_eq_false_iff, Bool.and_eq_true, Bool.and_eq_false_iff, Bool.not_eq_true', Bool.not_eq_false', Int.not_lt, Int.not_le, gt_iff_lt, ge_iff_le] at h53
    refine awp_skip ?_
    refine awp_ifY rfl ?_
    refine awp_seq ?_
    refine awp_any [0, 1, 3, 7, 0, 31, 63, 0, 0, 256, 768, 1792, 3968, 0, 8192, 24576, 0, 131071, 262143, 524287, 524287, 0, 3145727, 8388607] rfl ?_
    refine .step (rb := []) (wb := []) (ml := [9001]) (moveT rfl) rfl rfl rfl rfl rfl trivial ?_
    refine .step (rb := []) (wb := []) (ml := [9001]) (nilPT rfl) rfl rfl rfl rfl rfl trivial ?_
    refine .step (rb := []) (wb := []) (ml := [9001]) (fieldPT rfl rfl rfl) rfl rfl rfl rfl rfl trivial ?_
    refine .step (rb := [9001]) (wb := []) (ml := [9002]) (loadVT rfl rfl rfl rfl) rfl rfl rfl rfl rfl trivial ?_
    refine .step (rb := []) (wb := []) (ml := []) (moveT rfl) rfl rfl rfl rfl rfl trivial ?_
    refine .step (rb := []) (wb := []) (ml := [9002]) (indexWT rfl rfl rfl (by omega) (by omega) (Nat.zero_add _)) rfl rfl rfl rfl rfl trivial ?_
    refine .step (rb := [9002]) (wb := []) (ml := []) (loadWsT rfl rfl rfl (row_getD (z := default) hsl) rfl rfl rfl) rfl rfl rfl rfl rfl trivial ?_
    refine .step (rb := []) (wb := []) (ml := []) (moveT rfl) rfl rfl rfl rfl rfl trivial ?_
    refine .step (rb := []) (wb := []) (ml := [9001]) (moveT rfl) rfl rfl rfl rfl rfl trivial ?_
    refine .step (rb := []) (wb := []) (ml := [9001]) (nilPT rfl) rfl rfl rfl rfl rfl trivial ?_
    refine .step (rb := []) (wb := []) (ml := [9001]) (fieldPT rfl rfl rfl) rfl rfl rfl rfl rfl trivial ?_
    refine .step (rb := [9001]) (wb := []) (ml := []) (loadVT rfl rfl rfl rfl) rfl rfl rfl rfl rfl trivial ?_
    refine .step (rb := []) (wb := []) (ml := []) (intnT rfl rfl rfl (wrap_i64 ⟨by omega, by omega⟩)) rfl rfl rfl rfl rfl trivial ?_
    refine .step (rb := []) (wb := []) (ml := [5]) (fieldPT rfl rfl rfl) rfl rfl rfl rfl rfl trivial ?_
    refine .step (rb := [5]) (wb := []) (ml := []) (loadVT rfl rfl rfl rfl) rfl rfl rfl rfl rfl trivial ?_
    refine .step (rb := []) (wb := []) (ml := []) (remT rfl rfl (by omega) (tmod_nn (by omega))) rfl rfl rfl rfl rfl trivial ?_
    refine .step (rb := []) (wb := []) (ml := []) (moveT rfl) rfl rfl rfl rfl rfl trivial ?_
    refine .step (rb := []) (wb := []) (ml := []) (callT rfl rfl rfl (callB_of Try.func74 rfl) (sp74 (qs.getD (slot p m.n) default) _ _ _ (by have := (hqd (slot p m.n)).1; omega)) trivial) rfl rfl rfl rfl rfl trivial ?_
    refine .step (rb := []) (wb := []) (ml := []) (moveT rfl) rfl rfl rfl rfl rfl trivial ?_
    refine .step (rb := []) (wb := []) (ml := []) (extractT rfl rfl) rfl rfl rfl rfl rfl trivial ?_
    refine .step (rb := []) (wb := []) (ml := []) (extractT rfl rfl) rfl rfl rfl rfl rfl trivial ?_
    refine .step (rb := []) (wb := [12]) (ml := [12]) (allocT rfl rfl) rfl rfl rfl rfl rfl ⟨rfl, trivial⟩ ?_
    refine .step (rb := [12]) (wb := [12]) (ml := []) (storeVT rfl rfl rfl rfl rfl rfl rfl) rfl rfl rfl rfl rfl ⟨rfl, trivial⟩ ?_
    refine .step (rb := []) (wb := []) (ml := []) (assignT rfl) rfl rfl rfl rfl rfl trivial ?_
    refine .done (by decide +kernel) ?_
    refine awp_seq ?_
    refine awp_seq ?_
    refine awp_region ?_
    refine seqP (moveT rfl) rfl ?_
    refine seqP (intTT rfl rfl rfl) rfl ?_
    refine ops_nil ?_
    refine awp_if rfl (fun h79 => ?_) (fun h79 => ?_)
    · -- yes
      try simp only [mOr, mAnd, decide_eq_true_eq, decide_eq_false_iff_not, beq_iff_eq, beq_eq_false_iff_ne, bne_iff_ne, ne_eq, bne_eq_false_iff_eq, Bool.or_eq_true, Bool.or_eq_false_iff, Bool.and_eq_true, Bool.and_eq_false_iff, Bool.not_eq_true', Bool.not_eq_false', Int.not_lt, Int.not_le, gt_iff_lt, ge_iff_le] at h79
      refine awp_any [0, 1, 3, 7, 0, 0, 63, 127] rfl ?_
      refine .step (rb := []) (wb := []) (ml := [9001]) (moveT rfl) rfl rfl rfl rfl rfl trivial ?_
      refine .step (rb := []) (wb := []) (ml := [9001]) (nilPT rfl) rfl rfl rfl rfl rfl trivial ?_
      refine .step (rb := []) (wb := []) (ml := [9001]) (fieldPT rfl rfl rfl) rfl rfl rfl rfl rfl trivial ?_
      refine .step (rb := [9001]) (wb := []) (ml := [9002]) (loadVT rfl rfl rfl rfl) rfl rfl rfl rfl rfl trivial ?_
      refine .step (rb := []) (wb := []) (ml := []) (moveT rfl) rfl rfl rfl rfl rfl trivial ?_
      refine .step (rb := [12]) (wb := []) (ml := []) (loadVsT rfl rfl rfl rfl) rfl rfl rfl rfl rfl trivial ?_
      refine .step (rb := []) (wb := []) (ml := [9002]) (indexWT rfl rfl rfl (by omega) (by omega) (Nat.zero_add _)) rfl rfl rfl rfl rfl trivial ?_
      refine .step (rb := [9002]) (wb := [9002]) (ml := []) (storeWT rfl rfl rfl rfl rfl (row_getD (z := default) hsl) rfl rfl rfl) rfl rfl rfl rfl rfl ⟨rfl, trivial⟩ ?_
      refine .done (by decide +kernel) ?_
      refine awp_seq ?_
      refine awp_region ?_
      refine seqP (fieldPT rfl rfl rfl) rfl ?_
      refine seqP (loadVT rfl rfl rfl rfl) rfl ?_
      refine seqP (moveT rfl) rfl ?_
      refine seqP (remT rfl rfl (by omega) (tmod_nn (by omega))) rfl ?_
      refine seqP (moveT rfl) rfl ?_
      refine seqP (buildT rfl rfl rfl rfl) rfl ?_
      refine seq0 (storeVT rfl rfl rfl rfl rfl rfl rfl) ?_
      refine seqP (assignT rfl) rfl ?_
      refine ops_nil ?_
      refine awp_ret ?_
      have hk8 : m.kind % 8 = 0 ∨ m.kind % 8 = 1 ∨ m.kind % 8 = 2 := by omega
      simp only [moveS, if_pos hk8, if_pos h79]
      refine ret_blocks (resl_agg rfl rfl rfl rfl rfl (resl_tmp rfl resl_nil)) ?_ rfl ⟨rfl, rfl, rfl, (congrArg (fun r => some (Blk.row 3 r)) fifo_set), rfl, rfl, trivial⟩ ⟨.inl rfl, .inl rfl, trivial⟩
      rfl
    · -- no
      try simp only [mOr, mAnd, decide_eq_true_eq, decide_eq_false_iff_not, beq_iff_eq, beq_eq_false_iff_ne, bne_iff_ne, ne_eq, bne_eq_false_iff_eq, Bool.or_eq_true, Bool.or_eq_false_iff, Bool.and_eq_true, Bool.and_eq_false_iff, Bool.not_eq_true', Bool.not_eq_false', Int.not_lt, Int.not_le, gt_iff_lt, ge_iff_le] at h79
      refine awp_skip ?_
      refine awp_seq ?_
      refine awp_region ?_
      refine seqP (fieldPT rfl rfl rfl) rfl ?_
      refine seqP (loadVT rfl rfl rfl rfl) rfl ?_
      refine seqP (moveT rfl) rfl ?_
      refine seqP (remT rfl rfl (by omega) (tmod_nn (by omega))) rfl ?_
      refine seqP (moveT rfl) rfl ?_
      refine seqP (buildT rfl rfl rfl rfl) rfl ?_
      refine seq0 (storeVT rfl rfl rfl rfl rfl rfl rfl) ?_
      refine seqP (assignT rfl) rfl ?_
      refine ops_nil ?_
      refine awp_ret ?_
      have hk8 : m.kind % 8 = 0 ∨ m.kind % 8 = 1 ∨ m.kind % 8 = 2 := by omega
      simp only [moveS, if_pos hk8, if_neg h79]
      refine ret_blocks (resl_agg rfl rfl rfl rfl rfl (resl_tmp rfl resl_nil)) ?_ rfl ⟨rfl, rfl, rfl, rfl, rfl, rfl, trivial⟩ ⟨.inl rfl, .inl rfl, trivial⟩
      rfl
  · -- no
    try simp only [mOr, mAnd, decide_eq_true_eq, decide_eq_false_iff_not, beq_iff_eq, beq_eq_false_iff_ne, bne_iff_ne, ne_eq, bne_eq_false_iff_eq, Bool.or_eq_true, Bool.or_eq_false_iff, Bool.and_eq_true, Bool.and_eq_false_iff, Bool.not_eq_true', Bool.not_eq_false', Int.not_lt, Int.not_le, gt_iff_lt, ge_iff_le] at h53
    refine awp_seq ?_
    refine awp_region ?_
    refine seqP (intTT rfl rfl rfl) rfl ?_
    refine seqP (assignT rfl) rfl ?_
    refine ops_nil ?_
    refine awp_ifS rfl (fun h53 => ?_) (fun h53 => ?_)
    · -- yes
      try simp only [mOr, mAnd, decide_eq_true_eq, decide_eq_false_iff_not, beq_iff_eq, beq_eq_false_iff_ne, bne_iff_ne, ne_eq, bne_eq_false_iff_eq, Bool.or_eq_true, Bool.or_eq_false_iff, Bool.and_eq_true, Bool.and_eq_false_iff, Bool.not_eq_true', Bool.not_eq_false', Int.not_lt, Int.not_le, gt_iff_lt, ge_iff_le] at h53
      refine awp_skip ?_
      refine awp_ifY rfl ?_
      refine awp_seq ?_
      refine awp_any [0, 1, 3, 7, 0, 31, 63, 0, 0, 256, 768, 1792, 3968, 0, 8192, 24576, 0, 131071, 262143, 524287, 524287, 0, 3145727, 8388607] rfl ?_
      refine .step (rb := []) (wb := []) (ml := [9001]) (moveT rfl) rfl rfl rfl rfl rfl trivial ?_
      refine .step (rb := []) (wb := []) (ml := [9001]) (nilPT rfl) rfl rfl rfl rfl rfl trivial ?_
      refine .step (rb := []) (wb := []) (ml := [9001]) (fieldPT rfl rfl rfl) rfl rfl rfl rfl rfl trivial ?_
      refine .step (rb := [9001]) (wb := []) (ml := [9002]) (loadVT rfl rfl rfl rfl) rfl rfl rfl rfl rfl trivial ?_
      refine .step (rb := []) (wb := []) (ml := []) (moveT rfl) rfl rfl rfl rfl rfl trivial ?_
      refine .step (rb := []) (wb := []) (ml := [9002]) (indexWT rfl rfl rfl (by omega) (by omega) (Nat.zero_add _)) rfl rfl rfl rfl rfl trivial ?_
      refine .step (rb := [9002]) (wb := []) (ml := []) (loadWsT rfl rfl rfl (row_getD (z := default) hsl) rfl rfl rfl) rfl rfl rfl rfl rfl trivial ?_
      refine .step (rb := []) (wb := []) (ml := []) (moveT rfl) rfl rfl rfl rfl rfl trivial ?_
      refine .step (rb := []) (wb := []) (ml := [9001]) (moveT rfl) rfl rfl rfl rfl rfl trivial ?_
      refine .step (rb := []) (wb := []) (ml := [9001]) (nilPT rfl) rfl rfl rfl rfl rfl trivial ?_
      refine .step (rb := []) (wb := []) (ml := [9001]) (fieldPT rfl rfl rfl) rfl rfl rfl rfl rfl trivial ?_
      refine .step (rb := [9001]) (wb := []) (ml := []) (loadVT rfl rfl rfl rfl) rfl rfl rfl rfl rfl trivial ?_
      refine .step (rb := []) (wb := []) (ml := []) (intnT rfl rfl rfl (wrap_i64 ⟨by omega, by omega⟩)) rfl rfl rfl rfl rfl trivial ?_
      refine .step (rb := []) (wb := []) (ml := [5]) (fieldPT rfl rfl rfl) rfl rfl rfl rfl rfl trivial ?_
      refine .step (rb := [5]) (wb := []) (ml := []) (loadVT rfl rfl rfl rfl) rfl rfl rfl rfl rfl trivial ?_
      refine .step (rb := []) (wb := []) (ml := []) (remT rfl rfl (by omega) (tmod_nn (by omega))) rfl rfl rfl rfl rfl trivial ?_
      refine .step (rb := []) (wb := []) (ml := []) (moveT rfl) rfl rfl rfl rfl rfl trivial ?_
      refine .step (rb := []) (wb := []) (ml := []) (callT rfl rfl rfl (callB_of Try.func74 rfl) (sp74 (qs.getD (slot p m.n) default) _ _ _ (by have := (hqd (slot p m.n)).1; omega)) trivial) rfl rfl rfl rfl rfl trivial ?_
      refine .step (rb := []) (wb := []) (ml := []) (moveT rfl) rfl rfl rfl rfl rfl trivial ?_
      refine .step (rb := []) (wb := []) (ml := []) (extractT rfl rfl) rfl rfl rfl rfl rfl trivial ?_
      refine .step (rb := []) (wb := []) (ml := []) (extractT rfl rfl) rfl rfl rfl rfl rfl trivial ?_
      refine .step (rb := []) (wb := [12]) (ml := [12]) (allocT rfl rfl) rfl rfl rfl rfl rfl ⟨rfl, trivial⟩ ?_
      refine .step (rb := [12]) (wb := [12]) (ml := []) (storeVT rfl rfl rfl rfl rfl rfl rfl) rfl rfl rfl rfl rfl ⟨rfl, trivial⟩ ?_
      refine .step (rb := []) (wb := []) (ml := []) (assignT rfl) rfl rfl rfl rfl rfl trivial ?_
      refine .done (by decide +kernel) ?_
      refine awp_seq ?_
      refine awp_seq ?_
      refine awp_region ?_
      refine seqP (moveT rfl) rfl ?_
      refine seqP (intTT rfl rfl rfl) rfl ?_
      refine ops_nil ?_
      refine awp_if rfl (fun h79 => ?_) (fun h79 => ?_)
      · -- yes
        try simp only [mOr, mAnd, decide_eq_true_eq, decide_eq_false_iff_not, beq_iff_eq, beq_eq_false_iff_ne, bne_iff_ne, ne_eq, bne_eq_false_iff_eq, Bool.or_eq_true, Bool.or_eq_false_iff, Bool.and_eq_true, Bool.and_eq_false_iff, Bool.not_eq_true', Bool.not_eq_false', Int.not_lt, Int.not_le, gt_iff_lt, ge_iff_le] at h79
        refine awp_any [0, 1, 3, 7, 0, 0, 63, 127] rfl ?_
        refine .step (rb := []) (wb := []) (ml := [9001]) (moveT rfl) rfl rfl rfl rfl rfl trivial ?_
        refine .step (rb := []) (wb := []) (ml := [9001]) (nilPT rfl) rfl rfl rfl rfl rfl trivial ?_
        refine .step (rb := []) (wb := []) (ml := [9001]) (fieldPT rfl rfl rfl) rfl rfl rfl rfl rfl trivial ?_
        refine .step (rb := [9001]) (wb := []) (ml := [9002]) (loadVT rfl rfl rfl rfl) rfl rfl rfl rfl rfl trivial ?_
        refine .step (rb := []) (wb := []) (ml := []) (moveT rfl) rfl rfl rfl rfl rfl trivial ?_
        refine .step (rb := [12]) (wb := []) (ml := []) (loadVsT rfl rfl rfl rfl) rfl rfl rfl rfl rfl trivial ?_
        refine .step (rb := []) (wb := []) (ml := [9002]) (indexWT rfl rfl rfl (by omega) (by omega) (Nat.zero_add _)) rfl rfl rfl rfl rfl trivial ?_
        refine .step (rb := [9002]) (wb := [9002]) (ml := []) (storeWT rfl rfl rfl rfl rfl (row_getD (z := default) hsl) rfl rfl rfl) rfl rfl rfl rfl rfl ⟨rfl, trivial⟩ ?_
        refine .done (by decide +kernel) ?_
        refine awp_seq ?_
        refine awp_region ?_
        refine seqP (fieldPT rfl rfl rfl) rfl ?_
        refine seqP (loadVT rfl rfl rfl rfl) rfl ?_
        refine seqP (moveT rfl) rfl ?_
        refine seqP (remT rfl rfl (by omega) (tmod_nn (by omega))) rfl ?_
        refine seqP (moveT rfl) rfl ?_
        refine seqP (buildT rfl rfl rfl rfl) rfl ?_
        refine seq0 (storeVT rfl rfl rfl rfl rfl rfl rfl) ?_
        refine seqP (assignT rfl) rfl ?_
        refine ops_nil ?_
        refine awp_ret ?_
        have hk8 : m.kind % 8 = 0 ∨ m.kind % 8 = 1 ∨ m.kind % 8 = 2 := by omega
        simp only [moveS, if_pos hk8, if_pos h79]
        refine ret_blocks (resl_agg rfl rfl rfl rfl rfl (resl_tmp rfl resl_nil)) ?_ rfl ⟨rfl, rfl, rfl, (congrArg (fun r => some (Blk.row 3 r)) fifo_set), rfl, rfl, trivial⟩ ⟨.inl rfl, .inl rfl, trivial⟩
        rfl
      · -- no
        try simp only [mOr, mAnd, decide_eq_true_eq, decide_eq_false_iff_not, beq_iff_eq, beq_eq_false_iff_ne, bne_iff_ne, ne_eq, bne_eq_false_iff_eq, Bool.or_eq_true, Bool.or_eq_false_iff, Bool.and_eq_true, Bool.and_eq_false_iff, Bool.not_eq_true', Bool.not_eq_false', Int.not_lt, Int.not_le, gt_iff_lt, ge_iff_le] at h79
        refine awp_skip ?_
        refine awp_seq ?_
        refine awp_region ?_
        refine seqP (fieldPT rfl rfl rfl) rfl ?_
        refine seqP (loadVT rfl rfl rfl rfl) rfl ?_
        refine seqP (moveT rfl) rfl ?_
        refine seqP (remT rfl rfl (by omega) (tmod_nn (by omega))) rfl ?_
        refine seqP (moveT rfl) rfl ?_
        refine seqP (buildT rfl rfl rfl rfl) rfl ?_
        refine seq0 (storeVT rfl rfl rfl rfl rfl rfl rfl) ?_
        refine seqP (assignT rfl) rfl ?_
        refine ops_nil ?_
        refine awp_ret ?_
        have hk8 : m.kind % 8 = 0 ∨ m.kind % 8 = 1 ∨ m.kind % 8 = 2 := by omega
        simp only [moveS, if_pos hk8, if_neg h79]
        refine ret_blocks (resl_agg rfl rfl rfl rfl rfl (resl_tmp rfl resl_nil)) ?_ rfl ⟨rfl, rfl, rfl, rfl, rfl, rfl, trivial⟩ ⟨.inl rfl, .inl rfl, trivial⟩
        rfl
    · -- no
      try simp only [mOr, mAnd, decide_eq_true_eq, decide_eq_false_iff_not, beq_iff_eq, beq_eq_false_iff_ne, bne_iff_ne, ne_eq, bne_eq_false_iff_eq, Bool.or_eq_true, Bool.or_eq_false_iff, Bool.and_eq_true, Bool.and_eq_false_iff, Bool.not_eq_true', Bool.not_eq_false', Int.not_lt, Int.not_le, gt_iff_lt, ge_iff_le] at h53
      refine awp_region ?_
      refine seqP (intTT rfl rfl rfl) rfl ?_
      refine seqP (assignT rfl) rfl ?_
      refine ops_nil ?_
      refine awp_ifS rfl (fun h53 => ?_) (fun h53 => ?_)
      · -- yes
        try simp only [mOr, mAnd, decide_eq_true_eq, decide_eq_false_iff_not, beq_iff_eq, beq_eq_false_iff_ne, bne_iff_ne, ne_eq, bne_eq_false_iff_eq, Bool.or_eq_true, Bool.or_eq_false_iff, Bool.and_eq_true, Bool.and_eq_false_iff, Bool.not_eq_true', Bool.not_eq_false', Int.not_lt, Int.not_le, gt_iff_lt, ge_iff_le] at h53
        refine awp_seq ?_
        refine awp_any [0, 1, 3, 7, 0, 31, 63, 0, 0, 256, 768, 1792, 3968, 0, 8192, 24576, 0, 131071, 262143, 524287, 524287, 0, 3145727, 8388607] rfl ?_
        refine .step (rb := []) (wb := []) (ml := [9001]) (moveT rfl) rfl rfl rfl rfl rfl trivial ?_
        refine .step (rb := []) (wb := []) (ml := [9001]) (nilPT rfl) rfl rfl rfl rfl rfl trivial ?_
        refine .step (rb := []) (wb := []) (ml := [9001]) (fieldPT rfl rfl rfl) rfl rfl rfl rfl rfl trivial ?_
        refine .step (rb := [9001]) (wb := []) (ml := [9002]) (loadVT rfl rfl rfl rfl) rfl rfl rfl rfl rfl trivial ?_
        refine .step (rb := []) (wb := []) (ml := []) (moveT rfl) rfl rfl rfl rfl rfl trivial ?_
        refine .step (rb := []) (wb := []) (ml := [9002]) (indexWT rfl rfl rfl (by omega) (by omega) (Nat.zero_add _)) rfl rfl rfl rfl rfl trivial ?_
        refine .step (rb := [9002]) (wb := []) (ml := []) (loadWsT rfl rfl rfl (row_getD (z := default) hsl) rfl rfl rfl) rfl rfl rfl rfl rfl trivial ?_
        refine .step (rb := []) (wb := []) (ml := []) (moveT rfl) rfl rfl rfl rfl rfl trivial ?_
        refine .step (rb := []) (wb := []) (ml := [9001]) (moveT rfl) rfl rfl rfl rfl rfl trivial ?_
        refine .step (rb := []) (wb := []) (ml := [9001]) (nilPT rfl) rfl rfl rfl rfl rfl trivial ?_
        refine .step (rb := []) (wb := []) (ml := [9001]) (fieldPT rfl rfl rfl) rfl rfl rfl rfl rfl trivial ?_
        refine .step (rb := [9001]) (wb := []) (ml := []) (loadVT rfl rfl rfl rfl) rfl rfl rfl rfl rfl trivial ?_
        refine .step (rb := []) (wb := []) (ml := []) (intnT rfl rfl rfl (wrap_i64 ⟨by omega, by omega⟩)) rfl rfl rfl rfl rfl trivial ?_
        refine .step (rb := []) (wb := []) (ml := [5]) (fieldPT rfl rfl rfl) rfl rfl rfl rfl rfl trivial ?_
        refine .step (rb := [5]) (wb := []) (ml := []) (loadVT rfl rfl rfl rfl) rfl rfl rfl rfl rfl trivial ?_
        refine .step (rb := []) (wb := []) (ml := []) (remT rfl rfl (by omega) (tmod_nn (by omega))) rfl rfl rfl rfl rfl trivial ?_
        refine .step (rb := []) (wb := []) (ml := []) (moveT rfl) rfl rfl rfl rfl rfl trivial ?_
        refine .step (rb := []) (wb := []) (ml := []) (callT rfl rfl rfl (callB_of Try.func74 rfl) (sp74 (qs.getD (slot p m.n) default) _ _ _ (by have := (hqd (slot p m.n)).1; omega)) trivial) rfl rfl rfl rfl rfl trivial ?_
        refine .step (rb := []) (wb := []) (ml := []) (moveT rfl) rfl rfl rfl rfl rfl trivial ?_
        refine .step (rb := []) (wb := []) (ml := []) (extractT rfl rfl) rfl rfl rfl rfl rfl trivial ?_
        refine .step (rb := []) (wb := []) (ml := []) (extractT rfl rfl) rfl rfl rfl rfl rfl trivial ?_
        refine .step (rb := []) (wb := [12]) (ml := [12]) (allocT rfl rfl) rfl rfl rfl rfl rfl ⟨rfl, trivial⟩ ?_
        refine .step (rb := [12]) (wb := [12]) (ml := []) (storeVT rfl rfl rfl rfl rfl rfl rfl) rfl rfl rfl rfl rfl ⟨rfl, trivial⟩ ?_
        refine .step (rb := []) (wb := []) (ml := []) (assignT rfl) rfl rfl rfl rfl rfl trivial ?_
        refine .done (by decide +kernel) ?_
        refine awp_seq ?_
        refine awp_seq ?_
        refine awp_region ?_
        refine seqP (moveT rfl) rfl ?_
        refine seqP (intTT rfl rfl rfl) rfl ?_
        refine ops_nil ?_
        refine awp_if rfl (fun h79 => ?_) (fun h79 => ?_)
        · -- yes
          try simp only [mOr, mAnd, decide_eq_true_eq, decide_eq_false_iff_not, beq_iff_eq, beq_eq_false_iff_ne, bne_iff_ne, ne_eq, bne_eq_false_iff_eq, Bool.or_eq_true, Bool.or_eq_false_iff, Bool.and_eq_true, Bool.and_eq_false_iff, Bool.not_eq_true', Bool.not_eq_false', Int.not_lt, Int.not_le, gt_iff_lt, ge_iff_le] at h79
          refine awp_any [0, 1, 3, 7, 0, 0, 63, 127] rfl ?_
          refine .step (rb := []) (wb := []) (ml := [9001]) (moveT rfl) rfl rfl rfl rfl rfl trivial ?_
          refine .step (rb := []) (wb := []) (ml := [9001]) (nilPT rfl) rfl rfl rfl rfl rfl trivial ?_
          refine .step (rb := []) (wb := []) (ml := [9001]) (fieldPT rfl rfl rfl) rfl rfl rfl rfl rfl trivial ?_
          refine .step (rb := [9001]) (wb := []) (ml := [9002]) (loadVT rfl rfl rfl rfl) rfl rfl rfl rfl rfl trivial ?_
          refine .step (rb := []) (wb := []) (ml := []) (moveT rfl) rfl rfl rfl rfl rfl trivial ?_
          refine .step (rb := [12]) (wb := []) (ml := []) (loadVsT rfl rfl rfl rfl) rfl rfl rfl rfl rfl trivial ?_
          refine .step (rb := []) (wb := []) (ml := [9002]) (indexWT rfl rfl rfl (by omega) (by omega) (Nat.zero_add _)) rfl rfl rfl rfl rfl trivial ?_
          refine .step (rb := [9002]) (wb := [9002]) (ml := []) (storeWT rfl rfl rfl rfl rfl (row_getD (z := default) hsl) rfl rfl rfl) rfl rfl rfl rfl rfl ⟨rfl, trivial⟩ ?_
          refine .done (by decide +kernel) ?_
          refine awp_seq ?_
          refine awp_region ?_
          refine seqP (fieldPT rfl rfl rfl) rfl ?_
          refine seqP (loadVT rfl rfl rfl rfl) rfl ?_
          refine seqP (moveT rfl) rfl ?_
          refine seqP (remT rfl rfl (by omega) (tmod_nn (by omega))) rfl ?_
          refine seqP (moveT rfl) rfl ?_
          refine seqP (buildT rfl rfl rfl rfl) rfl ?_
          refine seq0 (storeVT rfl rfl rfl rfl rfl rfl rfl) ?_
          refine seqP (assignT rfl) rfl ?_
          refine ops_nil ?_
          refine awp_ret ?_
          have hk8 : m.kind % 8 = 0 ∨ m.kind % 8 = 1 ∨ m.kind % 8 = 2 := by omega
          simp only [moveS, if_pos hk8, if_pos h79]
          refine ret_blocks (resl_agg rfl rfl rfl rfl rfl (resl_tmp rfl resl_nil)) ?_ rfl ⟨rfl, rfl, rfl, (congrArg (fun r => some (Blk.row 3 r)) fifo_set), rfl, rfl, trivial⟩ ⟨.inl rfl, .inl rfl, trivial⟩
          rfl
        · -- no
          try simp only [mOr, mAnd, decide_eq_true_eq, decide_eq_false_iff_not, beq_iff_eq, beq_eq_false_iff_ne, bne_iff_ne, ne_eq, bne_eq_false_iff_eq, Bool.or_eq_true, Bool.or_eq_false_iff, Bool.and_eq_true, Bool.and_eq_false_iff, Bool.not_eq_true', Bool.not_eq_false', Int.not_lt, Int.not_le, gt_iff_lt, ge_iff_le] at h79
          refine awp_skip ?_
          refine awp_seq ?_
          refine awp_region ?_
          refine seqP (fieldPT rfl rfl rfl) rfl ?_
          refine seqP (loadVT rfl rfl rfl rfl) rfl ?_
          refine seqP (moveT rfl) rfl ?_
          refine seqP (remT rfl rfl (by omega) (tmod_nn (by omega))) rfl ?_
          refine seqP (moveT rfl) rfl ?_
          refine seqP (buildT rfl rfl rfl rfl) rfl ?_
          refine seq0 (storeVT rfl rfl rfl rfl rfl rfl rfl) ?_
          refine seqP (assignT rfl) rfl ?_
          refine ops_nil ?_
          refine awp_ret ?_
          have hk8 : m.kind % 8 = 0 ∨ m.kind % 8 = 1 ∨ m.kind % 8 = 2 := by omega
          simp only [moveS, if_pos hk8, if_neg h79]
          refine ret_blocks (resl_agg rfl rfl rfl rfl rfl (resl_tmp rfl resl_nil)) ?_ rfl ⟨rfl, rfl, rfl, rfl, rfl, rfl, trivial⟩ ⟨.inl rfl, .inl rfl, trivial⟩
          rfl
      · -- no
        try simp only [mOr, mAnd, decide_eq_true_eq, decide_eq_false_iff_not, beq_iff_eq, beq_eq_false_iff_ne, bne_iff_ne, ne_eq, bne_eq_false_iff_eq, Bool.or_eq_true, Bool.or_eq_false_iff, Bool.and_eq_true, Bool.and_eq_false_iff, Bool.not_eq_true', Bool.not_eq_false', Int.not_lt, Int.not_le, gt_iff_lt, ge_iff_le] at h53
        refine awp_seq ?_
        refine awp_region ?_
        refine seqP (intTT rfl rfl rfl) rfl ?_
        refine seqP (assignT rfl) rfl ?_
        refine ops_nil ?_
        refine awp_if rfl (fun h93 => ?_) (fun h93 => ?_)
        · -- yes
          try simp only [mOr, mAnd, decide_eq_true_eq, decide_eq_false_iff_not, beq_iff_eq, beq_eq_false_iff_ne, bne_iff_ne, ne_eq, bne_eq_false_iff_eq, Bool.or_eq_true, Bool.or_eq_false_iff, Bool.and_eq_true, Bool.and_eq_false_iff, Bool.not_eq_true', Bool.not_eq_false', Int.not_lt, Int.not_le, gt_iff_lt, ge_iff_le] at h93
          refine awp_seq ?_
          refine awp_any [0, 1, 3, 7, 0, 31, 63, 0, 0, 256, 768, 1792, 4095, 8191, 16383, 16383, 16383, 0, 163839, 458751, 1048575] rfl ?_
          refine .step (rb := []) (wb := []) (ml := [9001]) (moveT rfl) rfl rfl rfl rfl rfl trivial ?_
          refine .step (rb := []) (wb := []) (ml := [9001]) (nilPT rfl) rfl rfl rfl rfl rfl trivial ?_
          refine .step (rb := []) (wb := []) (ml := [9001]) (fieldPT rfl rfl rfl) rfl rfl rfl rfl rfl trivial ?_
          refine .step (rb := [9001]) (wb := []) (ml := [9002]) (loadVT rfl rfl rfl rfl) rfl rfl rfl rfl rfl trivial ?_
          refine .step (rb := []) (wb := []) (ml := []) (moveT rfl) rfl rfl rfl rfl rfl trivial ?_
          refine .step (rb := []) (wb := []) (ml := [9002]) (indexWT rfl rfl rfl (by omega) (by omega) (Nat.zero_add _)) rfl rfl rfl rfl rfl trivial ?_
          refine .step (rb := [9002]) (wb := []) (ml := []) (loadWsT rfl rfl rfl (row_getD (z := default) hsl) rfl rfl rfl) rfl rfl rfl rfl rfl trivial ?_
          refine .step (rb := []) (wb := []) (ml := []) (moveT rfl) rfl rfl rfl rfl rfl trivial ?_
          refine .step (rb := []) (wb := []) (ml := [5]) (fieldPT rfl rfl rfl) rfl rfl rfl rfl rfl trivial ?_
          refine .step (rb := [5]) (wb := []) (ml := []) (loadVT rfl rfl rfl rfl) rfl rfl rfl rfl rfl trivial ?_
          refine .step (rb := []) (wb := []) (ml := []) (remT rfl rfl (by omega) (tmod_nn (by omega))) rfl rfl rfl rfl rfl trivial ?_
          refine .step (rb := []) (wb := []) (ml := []) (intnT rfl rfl rfl (wrap_i64 ⟨by omega, by omega⟩)) rfl rfl rfl rfl rfl trivial ?_
          refine .step (rb := []) (wb := []) (ml := []) (callT rfl rfl rfl (callB_of Try.func77 rfl) (sp77 (qs.getD (slot p m.n) default) _ _ (by have := (hqd (slot p m.n)).1; omega)) trivial) rfl rfl rfl rfl rfl trivial ?_
          refine .step (rb := []) (wb := []) (ml := []) (moveT rfl) rfl rfl rfl rfl rfl trivial ?_
          refine .step (rb := []) (wb := []) (ml := []) (extractT rfl rfl) rfl rfl rfl rfl rfl trivial ?_
          refine .step (rb := []) (wb := []) (ml := []) (extractT rfl rfl) rfl rfl rfl rfl rfl trivial ?_
          refine .step (rb := []) (wb := []) (ml := []) (extractT rfl rfl) rfl rfl rfl rfl rfl trivial ?_
          refine .step (rb := []) (wb := [14]) (ml := [14]) (allocT rfl rfl) rfl rfl rfl rfl rfl ⟨rfl, trivial⟩ ?_
          refine .step (rb := [14]) (wb := [14]) (ml := []) (storeVT rfl rfl rfl rfl rfl rfl rfl) rfl rfl rfl rfl rfl ⟨rfl, trivial⟩ ?_
          refine .step (rb := []) (wb := []) (ml := []) (assignT rfl) rfl rfl rfl rfl rfl trivial ?_
          refine .step (rb := []) (wb := []) (ml := []) (assignT rfl) rfl rfl rfl rfl rfl trivial ?_
          refine .done (by decide +kernel) ?_
          refine awp_seq ?_
          refine awp_seq ?_
          refine awp_region ?_
          refine seqP (moveT rfl) rfl ?_
          refine seqP (intTT rfl rfl rfl) rfl ?_
          refine ops_nil ?_
          refine awp_if rfl (fun h113 => ?_) (fun h113 => ?_)
          · -- yes
            try simp only [mOr, mAnd, decide_eq_true_eq, decide_eq_false_iff_not, beq_iff_eq, beq_eq_false_iff_ne, bne_iff_ne, ne_eq, bne_eq_false_iff_eq, Bool.or_eq_true, Bool.or_eq_false_iff, Bool.and_eq_true, Bool.and_eq_false_iff, Bool.not_eq_true', Bool.not_eq_false', Int.not_lt, Int.not_le, gt_iff_lt, ge_iff_le] at h113
            refine awp_any [0, 1, 3, 7, 0, 0, 63, 127] rfl ?_
            refine .step (rb := []) (wb := []) (ml := [9001]) (moveT rfl) rfl rfl rfl rfl rfl trivial ?_
            refine .step (rb := []) (wb := []) (ml := [9001]) (nilPT rfl) rfl rfl rfl rfl rfl trivial ?_
            refine .step (rb := []) (wb := []) (ml := [9001]) (fieldPT rfl rfl rfl) rfl rfl rfl rfl rfl trivial ?_
            refine .step (rb := [9001]) (wb := []) (ml := [9002]) (loadVT rfl rfl rfl rfl) rfl rfl rfl rfl rfl trivial ?_
            refine .step (rb := []) (wb := []) (ml := []) (moveT rfl) rfl rfl rfl rfl rfl trivial ?_
            refine .step (rb := [14]) (wb := []) (ml := []) (loadVsT rfl rfl rfl rfl) rfl rfl rfl rfl rfl trivial ?_
            refine .step (rb := []) (wb := []) (ml := [9002]) (indexWT rfl rfl rfl (by omega) (by omega) (Nat.zero_add _)) rfl rfl rfl rfl rfl trivial ?_
            refine .step (rb := [9002]) (wb := [9002]) (ml := []) (storeWT rfl rfl rfl rfl rfl (row_getD (z := default) hsl) rfl rfl rfl) rfl rfl rfl rfl rfl ⟨rfl, trivial⟩ ?_
            refine .done (by decide +kernel) ?_
            refine awp_seq ?_
            refine awp_any [0, 1, 0, 7, 0, 0, 48, 0, 255, 511, 1023] rfl ?_
            refine .step (rb := []) (wb := []) (ml := [5]) (fieldPT rfl rfl rfl) rfl rfl rfl rfl rfl trivial ?_
            refine .step (rb := [5]) (wb := []) (ml := []) (loadVT rfl rfl rfl rfl) rfl rfl rfl rfl rfl trivial ?_
            refine .step (rb := []) (wb := []) (ml := []) (moveT rfl) rfl rfl rfl rfl rfl trivial ?_
            refine .step (rb := []) (wb := []) (ml := []) (remT rfl rfl (by omega) (tmod_nn (by omega))) rfl rfl rfl rfl rfl trivial ?_
            refine .step (rb := []) (wb := []) (ml := [9001]) (moveT rfl) rfl rfl rfl rfl rfl trivial ?_
            refine .step (rb := []) (wb := []) (ml := []) (moveT rfl) rfl rfl rfl rfl rfl trivial ?_
            refine .step (rb := [9001, 9002]) (wb := []) (ml := []) (callT rfl rfl rfl (callB_of Try.func33 rfl) (sp33d _ _ _ _ p.later p.names p.n (ageS (qs.getD (slot p m.n) default) (now + p.later) (3000 * (m.n % 50))).2.1 (by have := len_age (q := (qs.getD (slot p m.n) default)) (now := (now + p.later)) (life := 3000 * (m.n % 50)); have := (hqd (slot p m.n)).1; omega) hl0 (by omega) hm0 (by omega) (fun x hx => by have := (hqd (slot p m.n)).2 x (age_items x hx); unfold ItemOk at this; omega)) ⟨rfl, rfl, trivial⟩) rfl rfl rfl rfl rfl trivial ?_
            refine .step (rb := []) (wb := []) (ml := []) (moveT rfl) rfl rfl rfl rfl rfl trivial ?_
            refine .step (rb := []) (wb := []) (ml := []) (buildT rfl rfl rfl rfl) rfl rfl rfl rfl rfl trivial ?_
            refine .step (rb := [8]) (wb := [8]) (ml := []) (storeVT rfl rfl rfl rfl rfl rfl rfl) rfl rfl rfl rfl rfl ⟨rfl, trivial⟩ ?_
            refine .step (rb := []) (wb := []) (ml := []) (assignT rfl) rfl rfl rfl rfl rfl trivial ?_
            refine .done (by decide +kernel) ?_
            refine awp_ret ?_
            have hk8 : ¬ (m.kind % 8 = 0 ∨ m.kind % 8 = 1 ∨ m.kind % 8 = 2) := by omega
            simp only [moveS, if_neg hk8, if_pos h93, if_pos h113]
            refine ret_blocks (resl_agg rfl rfl rfl rfl rfl (resl_tmp rfl resl_nil)) ?_ rfl ⟨rfl, rfl, rfl, (congrArg (fun r => some (Blk.row 3 r)) fifo_set), rfl, rfl, trivial⟩ ⟨.inl rfl, .inl rfl, trivial⟩
            rfl
          · -- no
            try simp only [mOr, mAnd, decide_eq_true_eq, decide_eq_false_iff_not, beq_iff_eq, beq_eq_false_iff_ne, bne_iff_ne, ne_eq, bne_eq_false_iff_eq, Bool.or_eq_true, Bool.or_eq_false_iff, Bool.and_eq_true, Bool.and_eq_false_iff, Bool.not_eq_true', Bool.not_eq_false', Int.not_lt, Int.not_le, gt_iff_lt, ge_iff_le] at h113
            refine awp_skip ?_
            refine awp_seq ?_
            refine awp_any [0, 1, 0, 7, 0, 0, 48, 0, 255, 511, 1023] rfl ?_
            refine .step (rb := []) (wb := []) (ml := [5]) (fieldPT rfl rfl rfl) rfl rfl rfl rfl rfl trivial ?_
            refine .step (rb := [5]) (wb := []) (ml := []) (loadVT rfl rfl rfl rfl) rfl rfl rfl rfl rfl trivial ?_
            refine .step (rb := []) (wb := []) (ml := []) (moveT rfl) rfl rfl rfl rfl rfl trivial ?_
            refine .step (rb := []) (wb := []) (ml := []) (remT rfl rfl (by omega) (tmod_nn (by omega))) rfl rfl rfl rfl rfl trivial ?_
            refine .step (rb := []) (wb := []) (ml := [9001]) (moveT rfl) rfl rfl rfl rfl rfl trivial ?_
            refine .step (rb := []) (wb := []) (ml := []) (moveT rfl) rfl rfl rfl rfl rfl trivial ?_
            refine .step (rb := [9001, 9002]) (wb := []) (ml := []) (callT rfl rfl rfl (callB_of Try.func33 rfl) (sp33d _ _ _ _ p.later p.names p.n (ageS (qs.getD (slot p m.n) default) (now + p.later) (3000 * (m.n % 50))).2.1 (by have := len_age (q := (qs.getD (slot p m.n) default)) (now := (now + p.later)) (life := 3000 * (m.n % 50)); have := (hqd (slot p m.n)).1; omega) hl0 (by omega) hm0 (by omega) (fun x hx => by have := (hqd (slot p m.n)).2 x (age_items x hx); unfold ItemOk at this; omega)) ⟨rfl, rfl, trivial⟩) rfl rfl rfl rfl rfl trivial ?_
            refine .step (rb := []) (wb := []) (ml := []) (moveT rfl) rfl rfl rfl rfl rfl trivial ?_
            refine .step (rb := []) (wb := []) (ml := []) (buildT rfl rfl rfl rfl) rfl rfl rfl rfl rfl trivial ?_
            refine .step (rb := [8]) (wb := [8]) (ml := []) (storeVT rfl rfl rfl rfl rfl rfl rfl) rfl rfl rfl rfl rfl ⟨rfl, trivial⟩ ?_
            refine .step (rb := []) (wb := []) (ml := []) (assignT rfl) rfl rfl rfl rfl rfl trivial ?_
            refine .done (by decide +kernel) ?_
            refine awp_ret ?_
            have hk8 : ¬ (m.kind % 8 = 0 ∨ m.kind % 8 = 1 ∨ m.kind % 8 = 2) := by omega
            simp only [moveS, if_neg hk8, if_pos h93, if_neg h113]
            refine ret_blocks (resl_agg rfl rfl rfl rfl rfl (resl_tmp rfl resl_nil)) ?_ rfl ⟨rfl, rfl, rfl, rfl, rfl, rfl, trivial⟩ ⟨.inl rfl, .inl rfl, trivial⟩
            rfl
        · -- no
          try simp only [mOr, mAnd, decide_eq_true_eq, decide_eq_false_iff_not, beq_iff_eq, beq_eq_false_iff_ne, bne_iff_ne, ne_eq, bne_eq_false_iff_eq, Bool.or_eq_true, Bool.or_eq_false_iff, Bool.and_eq_true, Bool.and_eq_false_iff, Bool.not_eq_true', Bool.not_eq_false', Int.not_lt, Int.not_le, gt_iff_lt, ge_iff_le] at h93
          refine awp_skip ?_
          refine awp_seq ?_
          refine awp_region ?_
          refine seqP (assignT rfl) rfl ?_
          refine ops_nil ?_
          refine awp_seq ?_
          refine awp_seq ?_
          refine awp_turn (turn_bind 17 31500 1 (by rfl) (by rfl)) ?_
          refine awp_region ?_
          refine seqP (moveT rfl) rfl ?_
          refine seqP (nilPT rfl) rfl ?_
          refine seqP (fieldPT rfl rfl rfl) rfl ?_
          refine seqP (loadVT rfl rfl rfl rfl) rfl ?_
          refine seqP (lenWT rfl rfl) rfl ?_
          refine seqP (moveT rfl) rfl ?_
          refine ops_nil ?_
          refine awp_block ?_
          refine awp_loop (ι := Nat) (fun k => ⟨[(0, .ptr 9001 0 0 0), (3, .d (vi (now + p.later))), (5, .ptr 5 0 0 0), (8, .ptr 8 0 0 0), (9, .d (vb false)), (10, .d (vi (p.n : Nat))), (17, .own 31500 0 1 k), (133, .own 9002 0 3 p.n), (134, .d (vi (p.n : Nat))), (135, .d (vi (k : Nat)))], [(9001, some (.var [.d (.s (ts.list.map encShare)), .d (vi ts.turn), .own 9002 0 3 p.n, .d (vi (p.first : Nat)), .d (vi p.later), .d (vi p.names)])), (9002, some (.row 3 (qs.map encFifo))), (5, some (.var [.d (.v (.int .u8 m.kind)), .d (vi m.wait), .d (vi m.n)])), (8, some (.var [.d (vi 0), .nil, .d (vi 0)])), (31500, some (.row 1 ((busyOf (qs.take k)).map encBool)))]⟩) (fun k => k ≤ p.n) (fun k => p.n - k) 0 (Nat.zero_le _) (turn_sub ⟨⟨rfl, rfl, rfl, rfl, rfl, rfl, rfl, rfl, rfl, rfl, trivial⟩, ⟨rfl, rfl, rfl, rfl, rfl, trivial⟩⟩) (fun k hP => ?_)
          refine awp_seq ?_
          refine awp_region ?_
          refine seqP (intTT rfl rfl rfl) rfl ?_
          refine ops_nil ?_
          refine awp_seq ?_
          refine awp_if rfl (fun h136 => ?_) (fun h136 => ?_)
          · -- yes
            try simp only [mOr, mAnd, decide_eq_true_eq, decide_eq_false_iff_not, beq_iff_eq, beq_eq_false_iff_ne, bne_iff_ne, ne_eq, bne_eq_false_iff_eq, Bool.or_eq_true, Bool.or_eq_false_iff, Bool.and_eq_true, Bool.and_eq_false_iff, Bool.not_eq_true', Bool.not_eq_false', Int.not_lt, Int.not_le, gt_iff_lt, ge_iff_le] at h136
            refine awp_skip ?_
            refine awp_seq ?_
            refine awp_block ?_
            refine awp_seq ?_
            refine awp_region ?_
            refine seqP (indexWT rfl rfl rfl (by omega) (by omega) (show 0 + ((k : Nat) : Int).toNat = k by simp)) rfl ?_
            refine seqP (loadWsT rfl rfl rfl (row_getD (z := default) (by omega)) rfl rfl rfl) rfl ?_
            refine seq1 (allocT rfl rfl) rfl rfl ?_
            refine seq0 (storeVT rfl rfl rfl rfl rfl rfl rfl) ?_
            refine ops_nil ?_
            refine awp_region ?_
            refine seqP (moveT rfl) rfl ?_
            refine seqP (fieldPT rfl rfl rfl) rfl ?_
            refine seqP (loadVT rfl rfl rfl rfl) rfl ?_
            refine seqP (lenRT rfl rfl (List.length_map ..)) rfl ?_
            refine seqP (intTT rfl rfl rfl) rfl ?_
            refine seqP (litT rfl rfl rfl rfl rfl rfl rfl rfl) rfl ?_
            refine seq2 (appendT (b' := 145) rfl rfl rfl rfl rfl rfl (by simp only [busyOf, List.length_map, List.length_take]; omega) (fun row h => by simp at h; subst h; rfl) (show k + 1 = k + 1 from rfl) (show _ = (busyOf (qs.take (k + 1))).map encBool by rw [busyOf, busyOf, List.map_map, List.map_map]; exact take_map_succ (f := encBool ∘ fun q : Fifo => decide ((q.items.length : Int) > 0)) (by rw [List.getD_eq_getElem?_getD, List.getElem?_eq_getElem (by omega)]; rfl)) (by omega) (by omega)) rfl rfl ?_
            refine seqP (assignT rfl) rfl ?_
            refine ops_nil ?_
            refine awp_region ?_
            refine seqP (intnT rfl rfl rfl (wrap_succ (by omega))) rfl ?_
            refine seqP (moveT rfl) rfl ?_
            refine ops_nil ?_
            refine ⟨(k + 1), (by show k + 1 ≤ _; omega), (turn_ren (fun n => bif Nat.beq n 31500 then 145 else n) ⟨rfl, rfl, rfl, rfl, rfl, rfl, rfl, rfl, rfl, rfl, trivial⟩ ⟨rfl, rfl, rfl, rfl, rfl, trivial⟩ rfl rfl), by show p.n - (k + 1) < p.n - k; omega⟩
          · -- no
            try simp only [mOr, mAnd, decide_eq_true_eq, decide_eq_false_iff_not, beq_iff_eq, beq_eq_false_iff_ne, bne_iff_ne, ne_eq, bne_eq_false_iff_eq, Bool.or_eq_true, Bool.or_eq_false_iff, Bool.and_eq_true, Bool.and_eq_false_iff, Bool.not_eq_true', Bool.not_eq_false', Int.not_lt, Int.not_le, gt_iff_lt, ge_iff_le] at h136
            refine awp_exit ?_
            refine awp_seq ?_
            have hkk : qs.take k = qs := List.take_of_length_le (by omega)
            simp only [hkk]
            refine awp_region ?_
            refine seqP (moveT rfl) rfl ?_
            refine seqP (nilPT rfl) rfl ?_
            refine seqP (fieldPT rfl rfl rfl) rfl ?_
            refine seqP (loadVsT rfl rfl rfl rfl) rfl ?_
            refine seqP (moveT rfl) rfl ?_
            refine ops_turn (freezeT 152 31500 rfl rfl (by simp only [busyOf, List.length_map]; omega)) ?_
            refine seqP (callT rfl rfl rfl (callB_of Try.func78 rfl) (sp78 ts (busyOf qs) (by omega) (by simp only [busyOf, List.length_map]; omega)) trivial) rfl ?_
            refine seqP (moveT rfl) rfl ?_
            refine seqP (extractT rfl rfl) rfl ?_
            refine seqP (extractT rfl rfl) rfl ?_
            refine seqP (extractT rfl rfl) rfl ?_
            refine seq1 (allocT rfl rfl) rfl rfl ?_
            refine seqP (assignT rfl) rfl ?_
            refine seq0 (storeVT rfl rfl rfl rfl rfl rfl rfl) ?_
            refine seqP (assignT rfl) rfl ?_
            refine ops_nil ?_
            refine awp_seq ?_
            refine awp_seq ?_
            refine awp_region ?_
            refine seqP (moveT rfl) rfl ?_
            refine seqP (intTT rfl rfl rfl) rfl ?_
            refine seqP (moveT rfl) rfl ?_
            refine seqM 3 (g := 163) (x := ?_) rfl rfl (fun Q g159 hJ => ?_) (fun Q g159 hJ => ?_) ?_
            rotate_left 1
            · -- taken
              refine seqP (moveT rfl) rfl ?_
              refine seqGy rfl rfl ?_
              refine seqP (moveT rfl) rfl ?_
              refine seqGy rfl rfl ?_
              refine seqP (intTT rfl rfl rfl) rfl ?_
              refine seqP (pickNT rfl rfl) rfl ?_
              refine hJ 4 _ ?_
              exact ⟨.inl rfl, .inl rfl, .inl rfl, .inr (congrArg (fun b => AV.d (D.v (Value.bool b))) g159), rfl⟩
            · -- left
              refine seqGn rfl rfl ?_
              refine seqGn rfl rfl ?_
              refine seqP (pickYT rfl rfl) rfl ?_
              refine hJ 4 _ ?_
              exact ⟨.inl rfl, .inl rfl, .inl rfl, .inr (congrArg (fun b => AV.d (D.v (Value.bool b))) g159), rfl⟩
            refine ops_nil ?_
            refine awp_if rfl (fun h163 => ?_) (fun h163 => ?_)
            · -- yes
              try simp only [mOr, mAnd, decide_eq_true_eq, decide_eq_false_iff_not, beq_iff_eq, beq_eq_false_iff_ne, bne_iff_ne, ne_eq, bne_eq_false_iff_eq, Bool.or_eq_true, Bool.or_eq_false_iff, Bool.and_eq_true, Bool.and_eq_false_iff, Bool.not_eq_true', Bool.not_eq_false', Int.not_lt, Int.not_le, gt_iff_lt, ge_iff_le] at h163
              refine awp_seq ?_
              refine awp_region ?_
              refine seqP (buildT rfl rfl rfl rfl) rfl ?_
              refine seq0 (storeVT rfl rfl rfl rfl rfl rfl rfl) ?_
              refine seqP (assignT rfl) rfl ?_
              refine ops_nil ?_
              refine awp_ret ?_
              have hk8 : ¬ (m.kind % 8 = 0 ∨ m.kind % 8 = 1 ∨ m.kind % 8 = 2) := by omega
              have hc : (choose ts (busyOf qs)).2.2 ≠ 0 ∨ (choose ts (busyOf qs)).1 ≥ p.n := by omega
              simp only [moveS, if_neg hk8, if_neg h93, if_pos hc]
              refine ret_blocks (resl_agg rfl rfl rfl rfl rfl (resl_tmp rfl resl_nil)) ?_ rfl ⟨rfl, rfl, rfl, rfl, rfl, rfl, trivial⟩ ⟨.inl rfl, .inl rfl, trivial⟩
              rfl
            · -- no
              try simp only [mOr, mAnd, decide_eq_true_eq, decide_eq_false_iff_not, beq_iff_eq, beq_eq_false_iff_ne, bne_iff_ne, ne_eq, bne_eq_false_iff_eq, Bool.or_eq_true, Bool.or_eq_false_iff, Bool.and_eq_true, Bool.and_eq_false_iff, Bool.not_eq_true', Bool.not_eq_false', Int.not_lt, Int.not_le, gt_iff_lt, ge_iff_le] at h163
              refine awp_skip ?_
              refine awp_seq ?_
              refine awp_region ?_
              refine seqP (moveT rfl) rfl ?_
              refine seqP (loadVsT rfl rfl rfl rfl) rfl ?_
              refine seqP (nilPT rfl) rfl ?_
              refine seqP (fieldPT rfl rfl rfl) rfl ?_
              refine seq0 (storeVT rfl rfl rfl rfl rfl rfl rfl) ?_
              refine ops_nil ?_
              refine awp_seq ?_
              refine awp_seq ?_
              refine awp_region ?_
              refine seqP (moveT rfl) rfl ?_
              refine seqP (intTT rfl rfl rfl) rfl ?_
              refine ops_nil ?_
              refine awp_if rfl (fun h170 => ?_) (fun h170 => ?_)
              · -- yes
                try simp only [mOr, mAnd, decide_eq_true_eq, decide_eq_false_iff_not, beq_iff_eq, beq_eq_false_iff_ne, bne_iff_ne, ne_eq, bne_eq_false_iff_eq, Bool.or_eq_true, Bool.or_eq_false_iff, Bool.and_eq_true, Bool.and_eq_false_iff, Bool.not_eq_true', Bool.not_eq_false', Int.not_lt, Int.not_le, gt_iff_lt, ge_iff_le] at h170
                refine awp_seq ?_
                refine awp_region ?_
                refine seqP (buildT rfl rfl rfl rfl) rfl ?_
                refine seq0 (storeVT rfl rfl rfl rfl rfl rfl rfl) ?_
                refine seqP (assignT rfl) rfl ?_
                refine ops_nil ?_
                refine awp_ret ?_
                have hk8 : ¬ (m.kind % 8 = 0 ∨ m.kind % 8 = 1 ∨ m.kind % 8 = 2) := by omega
                have hc : ¬ ((choose ts (busyOf qs)).2.2 ≠ 0 ∨ (choose ts (busyOf qs)).1 ≥ p.n) := by omega
                simp only [moveS, if_neg hk8, if_neg h93, if_neg hc, if_pos h170]
                refine ret_blocks (resl_agg rfl rfl rfl rfl rfl (resl_tmp rfl resl_nil)) ?_ rfl ⟨rfl, rfl, rfl, rfl, rfl, rfl, trivial⟩ ⟨.inl rfl, .inl rfl, trivial⟩
                rfl
              · -- no
                try simp only [mOr, mAnd, decide_eq_true_eq, decide_eq_false_iff_not, beq_iff_eq, beq_eq_false_iff_ne, bne_iff_ne, ne_eq, bne_eq_false_iff_eq, Bool.or_eq_true, Bool.or_eq_false_iff, Bool.and_eq_true, Bool.and_eq_false_iff, Bool.not_eq_true', Bool.not_eq_false', Int.not_lt, Int.not_le, gt_iff_lt, ge_iff_le] at h170
                refine awp_skip ?_
                refine awp_seq ?_
                refine awp_region ?_
                refine seqP (moveT rfl) rfl ?_
                refine seqP (nilPT rfl) rfl ?_
                refine seqP (fieldPT rfl rfl rfl) rfl ?_
                refine seqP (loadVT rfl rfl rfl rfl) rfl ?_
                refine seqP (moveT rfl) rfl ?_
                refine seqP (indexWT rfl rfl rfl (by omega) (by omega) (Nat.zero_add _)) rfl ?_
                refine seqP (loadWsT rfl rfl rfl (row_getD (z := default) (by omega)) rfl rfl rfl) rfl ?_
                refine seqP (moveT rfl) rfl ?_
                refine seqP (callT rfl rfl rfl (callB_of Try.func75 rfl) (sp75 (qs.getD (choose ts (busyOf qs)).1.toNat default) _ (by have := (hqd (choose ts (busyOf qs)).1.toNat).1; omega)) trivial) rfl ?_
                refine seqP (moveT rfl) rfl ?_
                refine seqP (extractT rfl rfl) rfl ?_
                refine seqP (extractT rfl rfl) rfl ?_
                refine seqP (extractT rfl rfl) rfl ?_
                refine seqP (extractT rfl rfl) rfl ?_
                refine seqP (extractT rfl rfl) rfl ?_
                refine seq1 (allocT rfl rfl) rfl rfl ?_
                refine seq1 (allocT rfl rfl) rfl rfl ?_
                refine seq0 (storeVT rfl rfl rfl rfl rfl rfl rfl) ?_
                refine seq0 (storeVT rfl rfl rfl rfl rfl rfl rfl) ?_
                refine seqP (assignT rfl) rfl ?_
                refine seqP (assignT rfl) rfl ?_
                refine seqP (assignT rfl) rfl ?_
                refine ops_nil ?_
                refine awp_seq ?_
                refine awp_seq ?_
                refine awp_region ?_
                refine seqP (moveT rfl) rfl ?_
                refine seqP (intTT rfl rfl rfl) rfl ?_
                refine ops_nil ?_
                refine awp_if rfl (fun h188 => ?_) (fun h188 => ?_)
                · -- yes
                  try simp only [mOr, mAnd, decide_eq_true_eq, decide_eq_false_iff_not, beq_iff_eq, beq_eq_false_iff_ne, bne_iff_ne, ne_eq, bne_eq_false_iff_eq, Bool.or_eq_true, Bool.or_eq_false_iff, Bool.and_eq_true, Bool.and_eq_false_iff, Bool.not_eq_true', Bool.not_eq_false', Int.not_lt, Int.not_le, gt_iff_lt, ge_iff_le] at h188
                  refine awp_seq ?_
                  refine awp_region ?_
                  refine seqP (buildT rfl rfl rfl rfl) rfl ?_
                  refine seq0 (storeVT rfl rfl rfl rfl rfl rfl rfl) ?_
                  refine seqP (assignT rfl) rfl ?_
                  refine ops_nil ?_
                  refine awp_ret ?_
                  have hk8 : ¬ (m.kind % 8 = 0 ∨ m.kind % 8 = 1 ∨ m.kind % 8 = 2) := by omega
                  have hc : ¬ ((choose ts (busyOf qs)).2.2 ≠ 0 ∨ (choose ts (busyOf qs)).1 ≥ p.n) := by omega
                  have h1 : ¬ (choose ts (busyOf qs)).1 < 0 := by omega
                  have h2 : (takeS (qs.getD (choose ts (busyOf qs)).1.toNat default) (now + p.later)).2.2.2.2 ≠ 0 := by simpa using h188
                  simp only [moveS, if_neg hk8, if_neg h93, if_neg hc, if_neg h1, if_pos h2]
                  refine ret_blocks (resl_agg rfl rfl rfl rfl rfl (resl_tmp rfl resl_nil)) ?_ rfl ⟨rfl, rfl, rfl, rfl, rfl, rfl, trivial⟩ ⟨.inl rfl, .inl rfl, trivial⟩
                  rfl
                · -- no
                  try simp only [mOr, mAnd, decide_eq_true_eq, decide_eq_false_iff_not, beq_iff_eq, beq_eq_false_iff_ne, bne_iff_ne, ne_eq, bne_eq_false_iff_eq, Bool.or_eq_true, Bool.or_eq_false_iff, Bool.and_eq_true, Bool.and_eq_false_iff, Bool.not_eq_true', Bool.not_eq_false', Int.not_lt, Int.not_le, gt_iff_lt, ge_iff_le] at h188
                  refine awp_skip ?_
                  refine awp_seq ?_
                  refine awp_any [0, 1, 3, 7, 0, 0, 63, 127] rfl ?_
                  refine .step (rb := []) (wb := []) (ml := [9001]) (moveT rfl) rfl rfl rfl rfl rfl trivial ?_
                  refine .step (rb := []) (wb := []) (ml := [9001]) (nilPT rfl) rfl rfl rfl rfl rfl trivial ?_
                  refine .step (rb := []) (wb := []) (ml := [9001]) (fieldPT rfl rfl rfl) rfl rfl rfl rfl rfl trivial ?_
                  refine .step (rb := [9001]) (wb := []) (ml := [9002]) (loadVT rfl rfl rfl rfl) rfl rfl rfl rfl rfl trivial ?_
                  refine .step (rb := []) (wb := []) (ml := []) (moveT rfl) rfl rfl rfl rfl rfl trivial ?_
                  refine .step (rb := [23]) (wb := []) (ml := []) (loadVsT rfl rfl rfl rfl) rfl rfl rfl rfl rfl trivial ?_
                  refine .step (rb := []) (wb := []) (ml := [9002]) (indexWT rfl rfl rfl (by omega) (by omega) (Nat.zero_add _)) rfl rfl rfl rfl rfl trivial ?_
                  refine .step (rb := [9002]) (wb := [9002]) (ml := []) (storeWT rfl rfl rfl rfl rfl (row_getD (z := default) (by omega)) rfl rfl rfl) rfl rfl rfl rfl rfl ⟨rfl, trivial⟩ ?_
                  refine .done (by decide +kernel) ?_
                  refine awp_seq ?_
                  refine awp_any [0, 0, 2, 6, 14, 0, 62, 127, 0, 511, 0, 2047, 0, 0, 12288, 32767, 0, 131071] rfl ?_
                  refine .step (rb := []) (wb := []) (ml := []) (moveT rfl) rfl rfl rfl rfl rfl trivial ?_
                  refine .step (rb := []) (wb := []) (ml := [9001]) (moveT rfl) rfl rfl rfl rfl rfl trivial ?_
                  refine .step (rb := []) (wb := []) (ml := [9001]) (nilPT rfl) rfl rfl rfl rfl rfl trivial ?_
                  refine .step (rb := []) (wb := []) (ml := [9001]) (fieldPT rfl rfl rfl) rfl rfl rfl rfl rfl trivial ?_
                  refine .step (rb := [9001]) (wb := []) (ml := []) (loadVT rfl rfl rfl rfl) rfl rfl rfl rfl rfl trivial ?_
                  refine .step (rb := []) (wb := []) (ml := []) (moveT rfl) rfl rfl rfl rfl rfl trivial ?_
                  refine .step (rb := []) (wb := []) (ml := []) (remT rfl rfl (by omega) (tmod_nn (by omega))) rfl rfl rfl rfl rfl trivial ?_
                  refine .step (rb := []) (wb := []) (ml := []) (intnT rfl rfl rfl (wrap_i64 ⟨by omega, by omega⟩)) rfl rfl rfl rfl rfl trivial ?_
                  refine .step (rb := []) (wb := []) (ml := []) (moveT rfl) rfl rfl rfl rfl rfl trivial ?_
                  refine .step (rb := []) (wb := []) (ml := []) (intnT rfl rfl rfl (wrap_i64 ⟨by omega, by omega⟩)) rfl rfl rfl rfl rfl trivial ?_
                  refine .step (rb := []) (wb := []) (ml := []) (moveT rfl) rfl rfl rfl rfl rfl trivial ?_
                  refine .step (rb := []) (wb := []) (ml := []) (remT rfl rfl (by omega) (tmod_nn (by omega))) rfl rfl rfl rfl rfl trivial ?_
                  refine .step (rb := []) (wb := []) (ml := [9001]) (moveT rfl) rfl rfl rfl rfl rfl trivial ?_
                  refine .step (rb := []) (wb := []) (ml := []) (moveT rfl) rfl rfl rfl rfl rfl trivial ?_
                  refine .step (rb := [9001, 9002]) (wb := [33500]) (ml := [33500]) (callT rfl rfl rfl (callB_of Try.func33 rfl) (sp33 _ _ _ _ p.later p.names p.n (takeS (qs.getD (choose ts (busyOf qs)).1.toNat default) (now + p.later)).2.2.2.1 (by have := len_drop (q := (qs.getD (choose ts (busyOf qs)).1.toNat default)) (now := (now + p.later)); have := (hqd (choose ts (busyOf qs)).1.toNat).1; omega) hl0 (by omega) hm0 (by omega) (fun x hx => by have := (hqd (choose ts (busyOf qs)).1.toNat).2 x (drop_items x hx); unfold ItemOk at this; omega)) ⟨rfl, rfl, trivial⟩) rfl rfl rfl rfl rfl ⟨rfl, trivial⟩ ?_
                  refine .step (rb := []) (wb := []) (ml := [33500]) (buildT rfl rfl rfl rfl) rfl rfl rfl rfl rfl trivial ?_
                  refine .step (rb := []) (wb := [27]) (ml := [27]) (allocT rfl rfl) rfl rfl rfl rfl rfl ⟨rfl, trivial⟩ ?_
                  refine .step (rb := [27]) (wb := [27]) (ml := [33500]) (storeVT rfl rfl rfl rfl rfl rfl rfl) rfl rfl rfl rfl rfl ⟨rfl, trivial⟩ ?_
                  refine .done (by decide +kernel) ?_
                  refine awp_seq ?_
                  refine awp_seq ?_
                  refine awp_region ?_
                  refine seqP (moveT rfl) rfl ?_
                  refine ops_nil ?_
                  refine awp_if rfl (fun h213 => ?_) (fun h213 => ?_)
                  · -- yes
                    try simp only [mOr, mAnd, decide_eq_true_eq, decide_eq_false_iff_not, beq_iff_eq, beq_eq_false_iff_ne, bne_iff_ne, ne_eq, bne_eq_false_iff_eq, Bool.or_eq_true, Bool.or_eq_false_iff, Bool.and_eq_true, Bool.and_eq_false_iff, Bool.not_eq_true', Bool.not_eq_false', Int.not_lt, Int.not_le, gt_iff_lt, ge_iff_le] at h213
                    refine awp_seq ?_
                    refine awp_any [0, 1, 0, 0, 8, 28, 63, 127, 255] rfl ?_
                    refine .step (rb := []) (wb := []) (ml := [27]) (fieldPT rfl rfl rfl) rfl rfl rfl rfl rfl trivial ?_
                    refine .step (rb := [27]) (wb := []) (ml := [33500]) (loadVT rfl rfl rfl rfl) rfl rfl rfl rfl rfl trivial ?_
                    refine .step (rb := []) (wb := []) (ml := [9001]) (moveT rfl) rfl rfl rfl rfl rfl trivial ?_
                    refine .step (rb := [24]) (wb := []) (ml := []) (loadVsT rfl rfl rfl rfl) rfl rfl rfl rfl rfl trivial ?_
                    refine .step (rb := []) (wb := []) (ml := []) (litT rfl rfl rfl rfl rfl rfl rfl rfl) rfl rfl rfl rfl rfl trivial ?_
                    refine .step (rb := [9001, 9002]) (wb := []) (ml := []) (callT rfl rfl rfl (callB_of Try.func33 rfl) (sp33d _ _ _ _ p.later p.names p.n [(takeS (qs.getD (choose ts (busyOf qs)).1.toNat default) (now + p.later)).2.1] (by simp) hl0 (by omega) hm0 (by omega) (fun x hx => by have h := take_item (q := (qs.getD (choose ts (busyOf qs)).1.toNat default)) (now := (now + p.later)) (hqd (choose ts (busyOf qs)).1.toNat).2; have e := List.mem_singleton.1 hx; subst e; unfold ItemOk at h; omega)) ⟨rfl, rfl, trivial⟩) rfl rfl rfl rfl rfl trivial ?_
                    refine .step (rb := [33500]) (wb := [220, 33500]) (ml := [220]) (appendT (b' := 220) rfl rfl rfl rfl rfl rfl (by simp only [List.length_map]) item_rows rfl (List.map_append ..).symm (by have := len_drop (q := (qs.getD (choose ts (busyOf qs)).1.toNat default)) (now := (now + p.later)); have := (hqd (choose ts (busyOf qs)).1.toNat).1; simp only [List.length_map, List.length_cons, List.length_nil]; omega) (by have := len_drop (q := (qs.getD (choose ts (busyOf qs)).1.toNat default)) (now := (now + p.later)); have := (hqd (choose ts (busyOf qs)).1.toNat).1; simp only [List.length_map, List.length_cons, List.length_nil]; omega)) rfl rfl rfl rfl rfl ⟨rfl, trivial⟩ ?_
                    refine .step (rb := []) (wb := []) (ml := [27]) (fieldPT rfl rfl rfl) rfl rfl rfl rfl rfl trivial ?_
                    refine .step (rb := [27]) (wb := [27]) (ml := [220]) (storeVT rfl rfl rfl rfl rfl rfl rfl) rfl rfl rfl rfl rfl ⟨rfl, trivial⟩ ?_
                    refine .done (by decide +kernel) ?_
                    refine awp_seq ?_
                    refine awp_any [0, 0, 2, 6, 14, 0, 0, 64, 192, 448, 1022, 2046, 4094, 4094, 8191, 24575, 57343, 131071, 262143] rfl ?_
                    refine .step (rb := []) (wb := []) (ml := [9001]) (moveT rfl) rfl rfl rfl rfl rfl trivial ?_
                    refine .step (rb := []) (wb := []) (ml := [9001]) (moveT rfl) rfl rfl rfl rfl rfl trivial ?_
                    refine .step (rb := []) (wb := []) (ml := [9001]) (nilPT rfl) rfl rfl rfl rfl rfl trivial ?_
                    refine .step (rb := []) (wb := []) (ml := [9001]) (fieldPT rfl rfl rfl) rfl rfl rfl rfl rfl trivial ?_
                    refine .step (rb := [9001]) (wb := []) (ml := []) (loadVsT rfl rfl rfl rfl) rfl rfl rfl rfl rfl trivial ?_
                    refine .step (rb := []) (wb := []) (ml := []) (moveT rfl) rfl rfl rfl rfl rfl trivial ?_
                    refine .step (rb := []) (wb := []) (ml := [24]) (fieldPT rfl rfl rfl) rfl rfl rfl rfl rfl trivial ?_
                    refine .step (rb := [24]) (wb := []) (ml := []) (loadVT rfl rfl rfl rfl) rfl rfl rfl rfl rfl trivial ?_
                    refine .step (rb := []) (wb := []) (ml := []) (intnT rfl rfl rfl (wrap_i64 (by have := take_item (q := (qs.getD (choose ts (busyOf qs)).1.toNat default)) (now := (now + p.later)) (hqd (choose ts (busyOf qs)).1.toNat).2; unfold ItemOk at this; omega))) rfl rfl rfl rfl rfl trivial ?_
                    refine .step (rb := []) (wb := []) (ml := []) (intnT rfl rfl rfl (wrap_i64 (by have := take_item (q := (qs.getD (choose ts (busyOf qs)).1.toNat default)) (now := (now + p.later)) (hqd (choose ts (busyOf qs)).1.toNat).2; unfold ItemOk at this; omega))) rfl rfl rfl rfl rfl trivial ?_
                    refine .step (rb := []) (wb := []) (ml := []) (callT rfl rfl rfl (callB_of Try.func79 rfl) (sp79 (choose ts (busyOf qs)).2.1 _ _ (by have := len_choose (s := ts) (bs := busyOf qs); omega)) trivial) rfl rfl rfl rfl rfl trivial ?_
                    refine .step (rb := []) (wb := []) (ml := []) (moveT rfl) rfl rfl rfl rfl rfl trivial ?_
                    refine .step (rb := []) (wb := []) (ml := []) (extractT rfl rfl) rfl rfl rfl rfl rfl trivial ?_
                    refine .step (rb := []) (wb := []) (ml := []) (extractT rfl rfl) rfl rfl rfl rfl rfl trivial ?_
                    refine .step (rb := []) (wb := []) (ml := [9001]) (nilPT rfl) rfl rfl rfl rfl rfl trivial ?_
                    refine .step (rb := []) (wb := []) (ml := [9001]) (fieldPT rfl rfl rfl) rfl rfl rfl rfl rfl trivial ?_
                    refine .step (rb := [9001]) (wb := [9001]) (ml := [9002]) (storeVT rfl rfl rfl rfl rfl rfl rfl) rfl rfl rfl rfl rfl ⟨rfl, trivial⟩ ?_
                    refine .step (rb := []) (wb := []) (ml := [27]) (fieldPT rfl rfl rfl) rfl rfl rfl rfl rfl trivial ?_
                    refine .step (rb := [27]) (wb := [27]) (ml := [220]) (storeVT rfl rfl rfl rfl rfl rfl rfl) rfl rfl rfl rfl rfl ⟨rfl, trivial⟩ ?_
                    refine .done (by decide +kernel) ?_
                    refine awp_seq ?_
                    refine awp_region ?_
                    refine seqP (fieldPT rfl rfl rfl) rfl ?_
                    refine seqP (loadVT rfl rfl rfl rfl) rfl ?_
                    refine seqP (intTT rfl rfl rfl) rfl ?_
                    refine ops_nil ?_
                    refine awp_if rfl (fun h241 => ?_) (fun h241 => ?_)
                    · -- yes
                      try simp only [mOr, mAnd, decide_eq_true_eq, decide_eq_false_iff_not, beq_iff_eq, beq_eq_false_iff_ne, bne_iff_ne, ne_eq, bne_eq_false_iff_eq, Bool.or_eq_true, Bool.or_eq_false_iff, Bool.and_eq_true, Bool.and_eq_false_iff, Bool.not_eq_true', Bool.not_eq_false', Int.not_lt, Int.not_le, gt_iff_lt, ge_iff_le] at h241
                      refine awp_seq ?_
                      refine awp_turn (turn_freezeC 27 1 220 rfl rfl rfl (by simp only [List.length_append, List.length_map, List.length_cons, List.length_nil]) rfl) ?_
                      refine awp_region ?_
                      refine seqP (loadVsT rfl rfl rfl rfl) rfl ?_
                      refine seq0 (storeVT rfl rfl rfl rfl rfl rfl rfl) ?_
                      refine seqP (assignT rfl) rfl ?_
                      refine ops_nil ?_
                      refine awp_ret ?_
                      have hk8 : ¬ (m.kind % 8 = 0 ∨ m.kind % 8 = 1 ∨ m.kind % 8 = 2) := by omega
                      have hc : ¬ ((choose ts (busyOf qs)).2.2 ≠ 0 ∨ (choose ts (busyOf qs)).1 ≥ p.n) := by omega
                      have h1 : ¬ (choose ts (busyOf qs)).1 < 0 := by omega
                      have h2 : ¬ (takeS (qs.getD (choose ts (busyOf qs)).1.toNat default) (now + p.later)).2.2.2.2 ≠ 0 := by omega
                      have h3 : ((chargeS (choose ts (busyOf qs)).2.1 (choose ts (busyOf qs)).1 (1 + 14 * (takeS (qs.getD (choose ts (busyOf qs)).1.toNat default) (now + p.later)).2.1.bytes)).2 == 0) = false := by simpa using h241
                      simp only [moveS, if_neg hk8, if_neg h93, if_neg hc, if_neg h1, if_neg h2, if_pos h213, h3]
                      refine ret_blocks (resl_agg rfl rfl rfl rfl rfl (resl_tmp rfl resl_nil)) ?_ rfl ⟨rfl, rfl, rfl, (congrArg (fun r => some (Blk.row 3 r)) fifo_set), rfl, rfl, trivial⟩ ⟨.inl rfl, .inl rfl, trivial⟩
                      rfl
                    · -- no
                      try simp only [mOr, mAnd, decide_eq_true_eq, decide_eq_false_iff_not, beq_iff_eq, beq_eq_false_iff_ne, bne_iff_ne, ne_eq, bne_eq_false_iff_eq, Bool.or_eq_true, Bool.or_eq_false_iff, Bool.and_eq_true, Bool.and_eq_false_iff, Bool.not_eq_true', Bool.not_eq_false', Int.not_lt, Int.not_le, gt_iff_lt, ge_iff_le] at h241
                      refine awp_skip ?_
                      refine awp_seq ?_
                      refine awp_turn (turn_freezeC 27 1 220 rfl rfl rfl (by simp only [List.length_append, List.length_map, List.length_cons, List.length_nil]) rfl) ?_
                      refine awp_region ?_
                      refine seqP (loadVsT rfl rfl rfl rfl) rfl ?_
                      refine seq0 (storeVT rfl rfl rfl rfl rfl rfl rfl) ?_
                      refine seqP (assignT rfl) rfl ?_
                      refine ops_nil ?_
                      refine awp_ret ?_
                      have hk8 : ¬ (m.kind % 8 = 0 ∨ m.kind % 8 = 1 ∨ m.kind % 8 = 2) := by omega
                      have hc : ¬ ((choose ts (busyOf qs)).2.2 ≠ 0 ∨ (choose ts (busyOf qs)).1 ≥ p.n) := by omega
                      have h1 : ¬ (choose ts (busyOf qs)).1 < 0 := by omega
                      have h2 : ¬ (takeS (qs.getD (choose ts (busyOf qs)).1.toNat default) (now + p.later)).2.2.2.2 ≠ 0 := by omega
                      have h3 : ((chargeS (choose ts (busyOf qs)).2.1 (choose ts (busyOf qs)).1 (1 + 14 * (takeS (qs.getD (choose ts (busyOf qs)).1.toNat default) (now + p.later)).2.1.bytes)).2 == 0) = true := by simpa using h241
                      simp only [moveS, if_neg hk8, if_neg h93, if_neg hc, if_neg h1, if_neg h2, if_pos h213, h3]
                      refine ret_blocks (resl_agg rfl rfl rfl rfl rfl (resl_tmp rfl resl_nil)) ?_ rfl ⟨rfl, rfl, rfl, (congrArg (fun r => some (Blk.row 3 r)) fifo_set), rfl, rfl, trivial⟩ ⟨.inl rfl, .inl rfl, trivial⟩
                      rfl
                  · -- no
                    try simp only [mOr, mAnd, decide_eq_true_eq, decide_eq_false_iff_not, beq_iff_eq, beq_eq_false_iff_ne, bne_iff_ne, ne_eq, bne_eq_false_iff_eq, Bool.or_eq_true, Bool.or_eq_false_iff, Bool.and_eq_true, Bool.and_eq_false_iff, Bool.not_eq_true', Bool.not_eq_false', Int.not_lt, Int.not_le, gt_iff_lt, ge_iff_le] at h213
                    refine awp_skip ?_
                    refine awp_seq ?_
                    refine awp_turn (turn_freezeC 27 1 33500 rfl rfl rfl (by simp only [List.length_append, List.length_map, List.length_cons, List.length_nil]) rfl) ?_
                    refine awp_region ?_
                    refine seqP (loadVsT rfl rfl rfl rfl) rfl ?_
                    refine seq0 (storeVT rfl rfl rfl rfl rfl rfl rfl) ?_
                    refine seqP (assignT rfl) rfl ?_
                    refine ops_nil ?_
                    refine awp_ret ?_
                    have hk8 : ¬ (m.kind % 8 = 0 ∨ m.kind % 8 = 1 ∨ m.kind % 8 = 2) := by omega
                    have hc : ¬ ((choose ts (busyOf qs)).2.2 ≠ 0 ∨ (choose ts (busyOf qs)).1 ≥ p.n) := by omega
                    have h1 : ¬ (choose ts (busyOf qs)).1 < 0 := by omega
                    have h2 : ¬ (takeS (qs.getD (choose ts (busyOf qs)).1.toNat default) (now + p.later)).2.2.2.2 ≠ 0 := by omega
                    simp only [moveS, if_neg hk8, if_neg h93, if_neg hc, if_neg h1, if_neg h2, h213]
                    refine ret_blocks (resl_agg rfl rfl rfl rfl rfl (resl_tmp rfl resl_nil)) ?_ rfl ⟨rfl, rfl, rfl, (congrArg (fun r => some (Blk.row 3 r)) fifo_set), rfl, rfl, trivial⟩ ⟨.inl rfl, .inl rfl, trivial⟩
                    rfl

end Go.Proofs.Ytencghlmckbmlaa
