/- Walks: what airtime.Run calls (printed by gen.py). -/
import Derived.Test.YtencghlmckbmlaaAir3
set_option linter.unusedVariables false
set_option linter.unusedSimpArgs false
set_option maxRecDepth 100000
set_option maxHeartbeats 4000000
namespace Go.Proofs.Ytencghlmckbmlaa
open Go Go.RowKit

def badI (a : Int) : Bool := decide (a < 1) || decide (a > 32767)
def idxI (l : List Int) : Int := if l.any badI = true then (l.findIdx badI : Nat) else -1
def encRow (l : List Int) : List D := [.s (l.map encInt)]
theorem row_rows {l : List (List Int)} : ∀ row ∈ l.map encRow, row.length = 1 := fun row h => by
  obtain ⟨x, _, rfl⟩ := List.mem_map.1 h; rfl
def busyR (fr : List (List Int)) (i : Nat) : Bool := decide (((fr.getD i default).length : Int) > 0)


theorem sp145 (a : Int) : Spec Try.prog 145 [.d (vi a)] [] (.d (vb (badI a))) [] [] := by
  refine enter 9 [] Try.func145 rfl rfl blOk_nil rfl rfl fun X w0 E0 => ?_
  refine awp_seq ?_
  refine awp_region ?_
  refine seqP (assignT rfl) rfl ?_
  refine ops_nil ?_
  refine awp_seq ?_
  refine awp_region ?_
  refine seqP (moveT rfl) rfl ?_
  refine seqP (intTT rfl rfl rfl) rfl ?_
  refine seqP (moveT rfl) rfl ?_
  refine seqM 2 (g := 8) (x := ?_) rfl rfl (fun Q g5 hJ => ?_) (fun Q g5 hJ => ?_) ?_
  rotate_left 1
  · -- taken
    refine seqP (moveT rfl) rfl ?_
    refine seqGy rfl rfl ?_
    refine seqP (intTT rfl rfl rfl) rfl ?_
    refine seqP (pickNT rfl rfl) rfl ?_
    refine hJ 3 _ ?_
    exact ⟨.inl rfl, .inl rfl, .inr (congrArg (fun b => AV.d (D.v (Value.bool b))) g5), rfl⟩
  · -- left
    refine seqGn rfl rfl ?_
    refine seqP (pickYT rfl rfl) rfl ?_
    refine hJ 3 _ ?_
    exact ⟨.inl rfl, .inl rfl, .inr (congrArg (fun b => AV.d (D.v (Value.bool b))) g5), rfl⟩
  refine seqP (assignT rfl) rfl ?_
  refine ops_nil ?_
  refine awp_ret ?_
  refine ret_plain (resl_tmp rfl resl_nil) ?_ rfl
  simp only [mOr]; rfl

theorem sp190 (l : List Int) (hl : l.length ≤ 100000000) : Spec Try.prog 190 [.d (.s (l.map encInt)), .clo 145 [] []] [] (.d (vi (idxI l))) [] [] := by
  refine enter 19 [] Try.func190 rfl rfl blOk_nil rfl rfl fun X w0 E0 => ?_
  refine awp_seq ?_
  refine awp_region ?_
  refine seqP (assignT rfl) rfl ?_
  refine ops_nil ?_
  refine awp_seq ?_
  refine awp_seq ?_
  refine awp_region ?_
  refine seqP (moveT rfl) rfl ?_
  refine seqP (lenRT rfl rfl (List.length_map ..)) rfl ?_
  refine seqP (moveT rfl) rfl ?_
  refine ops_nil ?_
  refine awp_block ?_
  refine awp_loop (ι := Nat) (fun p => ⟨[(0, .d (.s (l.map encInt))), (1, .clo 145 [] []), (7, .d (vi l.length)), (8, .d (vi (p : Nat)))], []⟩) (fun p => p ≤ l.length ∧ (l.take p).any badI = false) (fun p => l.length - p) 0 ⟨Nat.zero_le _, by simp⟩ (turn_sub ⟨⟨rfl, rfl, rfl, rfl, trivial⟩, trivial⟩) (fun p hP => ?_)
  refine awp_seq ?_
  refine awp_region ?_
  refine seqP (intTT rfl rfl rfl) rfl ?_
  refine ops_nil ?_
  refine awp_seq ?_
  refine awp_if rfl (fun h9 => ?_) (fun h9 => ?_)
  · -- yes
    try simp only [mOr, mAnd, decide_eq_true_eq, decide_eq_false_iff_not, beq_iff_eq, beq_eq_false_iff_ne, bne_iff_ne, ne_eq, bne_eq_false_iff_eq, Bool.or_eq_true, Bool.or_eq_false_iff, Bool.and_eq_true, Bool.and_eq_false_iff, Bool.not_eq_true', Bool.not_eq_false', Int.not_lt, Int.not_le, gt_iff_lt, ge_iff_le] at h9
    refine awp_skip ?_
    refine awp_seq ?_
    refine awp_block ?_
    refine awp_seq ?_
    refine awp_region ?_
    refine seqP (moveT rfl) rfl ?_
    refine seqP (assignT rfl) rfl ?_
    refine ops_nil ?_
    refine awp_seq ?_
    refine awp_region ?_
    refine seqP (moveT rfl) rfl ?_
    refine seqP (moveT rfl) rfl ?_
    refine seqP (moveT rfl) rfl ?_
    obtain ⟨x, hx⟩ : ∃ x, l[p]? = some x := ⟨_, List.getElem?_eq_getElem (by omega)⟩
    refine seqP (indexRT rfl rfl rfl (by omega) (idx_map hx) rfl) rfl ?_
    refine seqP (loadRT rfl rfl rfl) rfl ?_
    refine seqP (callT rfl rfl rfl (callB_of Try.func145 rfl) (sp145 x) trivial) rfl ?_
    refine ops_nil ?_
    refine awp_if rfl (fun h16 => ?_) (fun h16 => ?_)
    · -- yes
      skip
      refine awp_seq ?_
      refine awp_region ?_
      refine seqP (moveT rfl) rfl ?_
      refine seqP (assignT rfl) rfl ?_
      refine ops_nil ?_
      refine awp_ret ?_
      refine ret_plain (resl_tmp rfl resl_nil) ?_ rfl
      obtain ⟨h1, h2⟩ := any_take hx hP.2 h16
      simp only [idxI, if_pos h1, h2]; rfl
    · -- no
      skip
      refine awp_skip ?_
      refine awp_region ?_
      refine seqP (intnT rfl rfl rfl (wrap_succ (by omega))) rfl ?_
      refine seqP (moveT rfl) rfl ?_
      refine ops_nil ?_
      refine ⟨(p + 1), ⟨by omega, any_take_succ hx hP.2 h16⟩, (turn_sub ⟨⟨rfl, rfl, rfl, rfl, trivial⟩, trivial⟩), by show l.length - (p + 1) < l.length - p; omega⟩
  · -- no
    try simp only [mOr, mAnd, decide_eq_true_eq, decide_eq_false_iff_not, beq_iff_eq, beq_eq_false_iff_ne, bne_iff_ne, ne_eq, bne_eq_false_iff_eq, Bool.or_eq_true, Bool.or_eq_false_iff, Bool.and_eq_true, Bool.and_eq_false_iff, Bool.not_eq_true', Bool.not_eq_false', Int.not_lt, Int.not_le, gt_iff_lt, ge_iff_le] at h9
    refine awp_exit ?_
    refine awp_seq ?_
    refine awp_region ?_
    refine seqP (assignT rfl) rfl ?_
    refine ops_nil ?_
    refine awp_ret ?_
    refine ret_plain (resl_tmp rfl resl_nil) ?_ rfl
    have h1 : ¬ l.any badI = true := by
      have := hP.2
      rw [List.take_of_length_le (by omega)] at this; rw [this]; simp
    simp only [idxI, if_neg h1]; rfl

theorem sp109 (l : List Int) (hl : l.length ≤ 100000000) : Spec Try.prog 109 [.d (.s (l.map encInt)), .clo 145 [] []] [] (.d (vb (l.any badI))) [] [] := by
  refine enter 9 [] Try.func109 rfl rfl blOk_nil rfl rfl fun X w0 E0 => ?_
  refine awp_seq ?_
  refine awp_region ?_
  refine seqP (assignT rfl) rfl ?_
  refine ops_nil ?_
  refine awp_seq ?_
  refine awp_region ?_
  refine seqP (moveT rfl) rfl ?_
  refine seqP (moveT rfl) rfl ?_
  refine seqP (callT rfl rfl rfl (callB_of Try.func190 rfl) (sp190 l hl) trivial) rfl ?_
  refine seqP (intTT rfl rfl rfl) rfl ?_
  refine seqP (assignT rfl) rfl ?_
  refine ops_nil ?_
  refine awp_ret ?_
  refine ret_plain (resl_tmp rfl resl_nil) ?_ rfl
  have h1 : decide (idxI l ≥ 0) = l.any badI := by
    unfold idxI
    cases l.any badI <;> simp
  rw [← h1]; rfl

theorem sp147 (l : List (List Int)) (hl : l.length ≤ 100000000) : Spec Try.prog 147 [.d (.s (l.map encRow))] [] (.own 147007 0 1 l.length) [(147007, some (.row 1 (l.map encRow)))] [147007] := by
  refine enter 8 [] Try.func147 rfl rfl blOk_nil rfl rfl fun X w0 E0 => ?_
  refine awp_seq ?_
  refine awp_region ?_
  refine seqP (assignT rfl) rfl ?_
  refine ops_nil ?_
  refine awp_seq ?_
  refine awp_seq ?_
  refine awp_region ?_
  refine seqP (moveT rfl) rfl ?_
  refine seqEqNil (k := 0) rfl (sliceT (k := 1) rfl) rfl fun b4 hb4 => ?_
  refine ops_nil ?_
  refine awp_if rfl (fun h4 => ?_) (fun h4 => ?_)
  · -- yes
    have hnil := List.map_eq_nil_iff.1 (hb4 h4); subst hnil
    refine awp_seq ?_
    refine awp_region ?_
    refine seqP (assignT rfl) rfl ?_
    refine ops_turn (turn_bind 2 147007 1 (by rfl) (by rfl)) ?_
    refine ops_nil ?_
    refine awp_ret ?_
    refine ret_blocks (resl_tmp rfl resl_nil) ?_ rfl ⟨rfl, rfl, rfl, trivial⟩ trivial
    rfl
  · -- no
    try simp only [mOr, mAnd, decide_eq_true_eq, decide_eq_false_iff_not, beq_iff_eq, beq_eq_false_iff_ne, bne_iff_ne, ne_eq, bne_eq_false_iff_eq, Bool.or_eq_true, Bool.or_eq_false_iff, Bool.and_eq_true, Bool.and_eq_false_iff, Bool.not_eq_true', Bool.not_eq_false', Int.not_lt, Int.not_le, gt_iff_lt, ge_iff_le] at h4
    refine awp_skip ?_
    refine awp_seq ?_
    refine awp_region ?_
    refine seq1 (lit0T (n' := 5) rfl) rfl rfl ?_
    refine seqP (moveT rfl) rfl ?_
    refine seq2 (appendT (b' := 147007) rfl rfl rfl rfl rfl rfl rfl row_rows ((Nat.zero_add _).trans (List.length_map ..)) (List.nil_append _) (by omega) (by omega)) rfl rfl ?_
    refine seqP (assignT rfl) rfl ?_
    refine ops_nil ?_
    refine awp_ret ?_
    refine ret_blocks (resl_tmp rfl resl_nil) ?_ rfl ⟨rfl, rfl, rfl, trivial⟩ trivial
    rfl

theorem sp149 (fr : List (List Int)) (n i : Nat) (hn : fr.length = n) (hi : i < n) : Spec Try.prog 149 [.d (vi i), .ptr 73012 0 0 0] [(73012, some (.var [.own 147007 0 1 n])), (147007, some (.row 1 (fr.map encRow)))] (.d (vb (busyR fr i))) [] [] := by
  refine enter 10 [73012, 147007] Try.func149 rfl rfl (blOk_of rfl rfl ⟨rfl, rfl, trivial⟩) rfl rfl fun X w0 E0 => ?_
  refine awp_seq ?_
  refine awp_region ?_
  refine seqP (assignT rfl) rfl ?_
  refine ops_nil ?_
  refine awp_seq ?_
  refine awp_region ?_
  refine seqP (loadVT rfl rfl rfl rfl) rfl ?_
  refine seqP (moveT rfl) rfl ?_
  refine seqP (indexWT rfl rfl rfl (by omega) (by omega) (show 0 + ((i : Nat) : Int).toNat = i by simp)) rfl ?_
  refine seqP (loadWT rfl rfl rfl (row_getD (z := default) (by omega)) rfl) rfl ?_
  refine seqP (lenRT rfl rfl (List.length_map ..)) rfl ?_
  refine seqP (intTT rfl rfl rfl) rfl ?_
  refine seqP (assignT rfl) rfl ?_
  refine ops_nil ?_
  refine awp_ret ?_
  refine ret_blocks (resl_tmp rfl resl_nil) ?_ rfl trivial ⟨.inr rfl, .inr rfl, trivial⟩
  rfl

theorem sp148b (L : List Share) (t n : Nat) (hlen : L.length = n) (ht : t < n) (hn : n ≤ 32) (hodd : L.any oddS = false) (fr : List (List Int)) (hfr : fr.length = n) (hbusy : ∃ j, j < n ∧ busyR fr j = true) : Spec Try.prog 148 [.ptr 146010 0 0 0, .clo 149 [] [.ptr 73012 0 0 0]] [(146010, some (.var [.own 206007 0 2 n, .d (vi (t : Nat))])), (206007, some (.row 2 (L.map encShare))), (73012, some (.var [.own 147007 0 1 n])), (147007, some (.row 1 (fr.map encRow)))] (.d (vi ((pickS (busyR fr) L t).2 : Nat))) [(146010, some (.var [.own 206007 0 2 n, .d (vi ((pickS (busyR fr) L t).2 : Nat))])), (206007, some (.row 2 ((pickS (busyR fr) L t).1.map encShare)))] [] := by
  obtain ⟨j, hj, hbj⟩ := hbusy
  refine enter 62 [146010, 206007, 73012, 147007] Try.func148 rfl rfl (blOk_of rfl rfl ⟨rfl, rfl, rfl, rfl, trivial⟩) rfl rfl fun X w0 E0 => ?_
  refine awp_seq ?_
  refine awp_region ?_
  refine seqP (assignT rfl) rfl ?_
  refine ops_nil ?_
  refine awp_seq ?_
  refine awp_region ?_
  refine seqP (moveT rfl) rfl ?_
  refine seqP (mkFuncT rfl rfl) rfl ?_
  refine seqP (assignT rfl) rfl ?_
  refine ops_nil ?_
  refine awp_block ?_
  refine awp_loop (ι := List Share × Nat × Nat) (fun p => ⟨[(0, .ptr 146010 0 0 0), (1, .clo 149 [] [.ptr 73012 0 0 0]), (5, .clo 207 [.ptr 146010 0 0 0] [])], [(146010, some (.var [.own 206007 0 2 n, .d (vi (p.2.1 : Nat))])), (206007, some (.row 2 (p.1.map encShare))), (73012, some (.var [.own 147007 0 1 n])), (147007, some (.row 1 (fr.map encRow)))]⟩) (fun p => Wheel (busyR fr) n j (pickS (busyR fr) L t) p.1 p.2.1 p.2.2) (fun p => p.2.2) (L, t, 2000000) (wheel_start hlen ht hn hj hodd) (turn_sub ⟨⟨rfl, rfl, rfl, trivial⟩, ⟨rfl, rfl, rfl, rfl, trivial⟩⟩) (fun p hP => ?_)
  refine awp_block ?_
  refine awp_seq ?_
  refine awp_any [0, 1, 3, 7, 15, 0, 32, 96, 224, 480, 1023, 2047] rfl ?_
  refine .step (rb := []) (wb := []) (ml := [146010]) (moveT rfl) rfl rfl rfl rfl rfl trivial ?_
  refine .step (rb := []) (wb := []) (ml := [146010]) (nilPT rfl) rfl rfl rfl rfl rfl trivial ?_
  refine .step (rb := []) (wb := []) (ml := [146010]) (fieldPT rfl rfl rfl) rfl rfl rfl rfl rfl trivial ?_
  refine .step (rb := []) (wb := []) (ml := [146010]) (fieldPT rfl rfl rfl) rfl rfl rfl rfl rfl trivial ?_
  refine .step (rb := [146010]) (wb := []) (ml := [206007]) (loadVT rfl rfl rfl rfl) rfl rfl rfl rfl rfl trivial ?_
  refine .step (rb := []) (wb := []) (ml := [146010]) (moveT rfl) rfl rfl rfl rfl rfl trivial ?_
  refine .step (rb := []) (wb := []) (ml := [146010]) (nilPT rfl) rfl rfl rfl rfl rfl trivial ?_
  refine .step (rb := []) (wb := []) (ml := [146010]) (fieldPT rfl rfl rfl) rfl rfl rfl rfl rfl trivial ?_
  refine .step (rb := []) (wb := []) (ml := [146010]) (fieldPT rfl rfl rfl) rfl rfl rfl rfl rfl trivial ?_
  refine .step (rb := [146010]) (wb := []) (ml := []) (loadVT rfl rfl rfl rfl) rfl rfl rfl rfl rfl trivial ?_
  refine .step (rb := []) (wb := []) (ml := [206007]) (indexWT rfl rfl rfl (by omega) (by have := hP.turn; show ((p.2.1 : Nat) : Int) < ((n : Nat) : Int); omega) (show 0 + ((p.2.1 : Nat) : Int).toNat = p.2.1 by simp)) rfl rfl rfl rfl rfl trivial ?_
  refine .step (rb := []) (wb := []) (ml := [206007]) (assignT rfl) rfl rfl rfl rfl rfl trivial ?_
  refine .done (by decide +kernel) ?_
  refine awp_seq ?_
  refine awp_block ?_
  refine awp_seq ?_
  refine awp_region ?_
  refine seqP (moveT rfl) rfl ?_
  refine seqP (moveT rfl) rfl ?_
  refine seqP (nilPT rfl) rfl ?_
  refine seqP (fieldPT rfl rfl rfl) rfl ?_
  refine seqP (fieldPT rfl rfl rfl) rfl ?_
  refine seqP (loadVT rfl rfl rfl rfl) rfl ?_
  refine seqP (callT rfl rfl rfl (callB_of Try.func149 rfl) (sp149 fr n p.2.1 hfr hP.turn) ⟨rfl, rfl, trivial⟩) rfl ?_
  refine seqP (notT rfl) rfl ?_
  refine seqP (assignT rfl) rfl ?_
  refine ops_nil ?_
  refine awp_if rfl (fun h32 => ?_) (fun h32 => ?_)
  · -- yes
    replace h32 : (busyR fr) p.2.1 = false := by simpa using h32
    obtain ⟨g, hg, hW⟩ := wheel_idle hP hj hbj h32
    refine awp_region ?_
    refine seqP (moveT rfl) rfl ?_
    refine seqP (moveT rfl) rfl ?_
    refine seqP (nilPT rfl) rfl ?_
    refine seqP (fieldPT rfl rfl rfl) rfl ?_
    refine seqP (loadWT rfl rfl rfl (row_getD (z := default) (by rw [hP.len]; exact hP.turn)) rfl) rfl ?_
    refine seqP (minT rfl rfl) rfl ?_
    refine seqP (nilPT rfl) rfl ?_
    refine seqP (fieldPT rfl rfl rfl) rfl ?_
    refine seq0 (storeWT rfl rfl rfl rfl rfl (row_getD (z := default) (by rw [hP.len]; exact hP.turn)) rfl rfl rfl) ?_
    refine ops_nil ?_
    refine awp_region ?_
    refine seqP (moveT rfl) rfl ?_
    refine seq1 (callT rfl rfl rfl (callB_of Try.func207 rfl) (sp207 _ n p.2.1 hP.turn (by omega)) ⟨rfl, rfl, trivial⟩) rfl rfl ?_
    refine ops_nil ?_
    refine ⟨(_, _, g), hW, (turn_sub ⟨⟨rfl, rfl, rfl, trivial⟩, ⟨rfl, (congrArg (fun r => some (Blk.row 2 r)) shares_set), rfl, rfl, trivial⟩⟩), by show g < p.2.2; omega⟩
  · -- no
    replace h32 : (busyR fr) p.2.1 = true := by simpa using h32
    refine awp_seq ?_
    refine awp_region ?_
    refine seqP (moveT rfl) rfl ?_
    refine seqP (nilPT rfl) rfl ?_
    refine seqP (fieldPT rfl rfl rfl) rfl ?_
    refine seqP (loadWT rfl rfl rfl (row_getD (z := default) (by rw [hP.len]; exact hP.turn)) rfl) rfl ?_
    refine seqP (intTT rfl rfl rfl) rfl ?_
    refine seqP (assignT rfl) rfl ?_
    refine ops_nil ?_
    refine awp_if rfl (fun h49 => ?_) (fun h49 => ?_)
    · -- yes
      try simp only [mOr, mAnd, decide_eq_true_eq, decide_eq_false_iff_not, beq_iff_eq, beq_eq_false_iff_ne, bne_iff_ne, ne_eq, bne_eq_false_iff_eq, Bool.or_eq_true, Bool.or_eq_false_iff, Bool.and_eq_true, Bool.and_eq_false_iff, Bool.not_eq_true', Bool.not_eq_false', Int.not_lt, Int.not_le, gt_iff_lt, ge_iff_le] at h49
      have hR := wheel_done hP h32 h49
      refine awp_seq ?_
      refine awp_region ?_
      refine seqP (moveT rfl) rfl ?_
      refine seqP (nilPT rfl) rfl ?_
      refine seqP (fieldPT rfl rfl rfl) rfl ?_
      refine seqP (fieldPT rfl rfl rfl) rfl ?_
      refine seqP (loadVT rfl rfl rfl rfl) rfl ?_
      refine seqP (assignT rfl) rfl ?_
      refine ops_nil ?_
      refine awp_ret ?_
      refine ret_blocks (resl_tmp rfl resl_nil) ?_ rfl ⟨(by rw [hR]; rfl), rfl, rfl, (by rw [hR]; rfl), rfl, rfl, trivial⟩ ⟨.inl rfl, .inl rfl, .inr rfl, .inr rfl, trivial⟩
      show AV.d (vi (p.2.1 : Nat)) = _; rw [hR]
    · -- no
      try simp only [mOr, mAnd, decide_eq_true_eq, decide_eq_false_iff_not, beq_iff_eq, beq_eq_false_iff_ne, bne_iff_ne, ne_eq, bne_eq_false_iff_eq, Bool.or_eq_true, Bool.or_eq_false_iff, Bool.and_eq_true, Bool.and_eq_false_iff, Bool.not_eq_true', Bool.not_eq_false', Int.not_lt, Int.not_le, gt_iff_lt, ge_iff_le] at h49
      obtain ⟨g, hg, hW⟩ := wheel_fill hP hj h32 (by omega)
      have ho := odd_ok (odd_getD hP.odd (by rw [hP.len]; exact hP.turn : p.2.1 < p.1.length))
      refine awp_any [0, 1, 3, 7, 0, 16, 48, 112, 240, 511, 1023, 2047, 4095] rfl ?_
      refine .step (rb := []) (wb := []) (ml := [206007]) (moveT rfl) rfl rfl rfl rfl rfl trivial ?_
      refine .step (rb := []) (wb := []) (ml := [206007]) (nilPT rfl) rfl rfl rfl rfl rfl trivial ?_
      refine .step (rb := []) (wb := []) (ml := [206007]) (fieldPT rfl rfl rfl) rfl rfl rfl rfl rfl trivial ?_
      refine .step (rb := [206007]) (wb := []) (ml := []) (loadWT rfl rfl rfl (row_getD (z := default) (by rw [hP.len]; exact hP.turn)) rfl) rfl rfl rfl rfl rfl trivial ?_
      refine .step (rb := []) (wb := []) (ml := [206007]) (moveT rfl) rfl rfl rfl rfl rfl trivial ?_
      refine .step (rb := []) (wb := []) (ml := [206007]) (nilPT rfl) rfl rfl rfl rfl rfl trivial ?_
      refine .step (rb := []) (wb := []) (ml := [206007]) (fieldPT rfl rfl rfl) rfl rfl rfl rfl rfl trivial ?_
      refine .step (rb := [206007]) (wb := []) (ml := []) (loadWT rfl rfl rfl (row_getD (z := default) (by rw [hP.len]; exact hP.turn)) rfl) rfl rfl rfl rfl rfl trivial ?_
      refine .step (rb := []) (wb := []) (ml := []) (intnT rfl rfl rfl (wrap_i64 (by omega))) rfl rfl rfl rfl rfl trivial ?_
      refine .step (rb := []) (wb := []) (ml := []) (intnT rfl rfl rfl (wrap_i64 (by omega))) rfl rfl rfl rfl rfl trivial ?_
      refine .step (rb := []) (wb := []) (ml := [206007]) (nilPT rfl) rfl rfl rfl rfl rfl trivial ?_
      refine .step (rb := []) (wb := []) (ml := [206007]) (fieldPT rfl rfl rfl) rfl rfl rfl rfl rfl trivial ?_
      refine .step (rb := [206007]) (wb := [206007]) (ml := []) (storeWT rfl rfl rfl rfl rfl (row_getD (z := default) (by rw [hP.len]; exact hP.turn)) rfl rfl rfl) rfl rfl rfl rfl rfl ⟨rfl, trivial⟩ ?_
      refine .done (by decide +kernel) ?_
      refine awp_region ?_
      refine seqP (moveT rfl) rfl ?_
      refine seq1 (callT rfl rfl rfl (callB_of Try.func207 rfl) (sp207 _ n p.2.1 hP.turn (by omega)) ⟨rfl, rfl, trivial⟩) rfl rfl ?_
      refine ops_nil ?_
      refine ⟨(_, _, g), hW, (turn_sub ⟨⟨rfl, rfl, rfl, trivial⟩, ⟨rfl, (congrArg (fun r => some (Blk.row 2 r)) shares_set), rfl, rfl, trivial⟩⟩), by show g < p.2.2; omega⟩

end Go.Proofs.Ytencghlmckbmlaa
