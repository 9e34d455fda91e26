/- Walks: wispMoved, wispOrder, wispSame (printed by gen.py). -/
import Derived.Test.YtencghlmckbmlaaWorld2
set_option linter.unusedVariables false
set_option linter.unusedSimpArgs false
set_option maxRecDepth 100000
set_option maxHeartbeats 4000000
namespace Go.Proofs.Ytencghlmckbmlaa
open Go Go.RowKit


theorem draw_eq {by_ : List Int} {q k : Nat} (h0 : 0 ≤ by_.getD (((q + 1 : Nat) : Int) % (by_.length : Int)).toNat default) (hk : drawS by_ (q + 1) = k) : Int.tmod (by_.getD (((q + 1 : Nat) : Int) % (by_.length : Int)).toNat default) (((q + 1 : Nat) : Int) + 1) = ((k : Nat) : Int) := by
  rw [tmod_nn h0, ← hk]
  unfold drawS
  have := Int.emod_nonneg (by_.getD (((q + 1 : Nat) : Int) % (by_.length : Int)).toNat default) (show ((q + 1 : Nat) : Int) + 1 ≠ 0 by omega)
  omega
theorem ints_set {L : List Nat} {n i : Nat} {x : Nat} (hL : L.length = n) : ((ints L).map encInt).set i [vi ((x : Nat) : Int)] = (ints (L.set i x)).map encInt := by
  simp only [ints, List.map_set]; rfl
theorem swap_row {L : List Nat} {n i k : Nat} (hL : L.length = n) (hi : i < n) (hk : k < n) : (((ints L).map encInt).set i [vi ((ints L).getD k default)]).set k [vi ((ints L).getD i default)] = (ints (swapS L i k)).map encInt := by
  rw [ints_get (by omega), ints_get (by omega), ints_set hL, ints_set (n := n) (by simpa using hL)]; rfl

theorem sp42 (x y way dx dy : Int) (x0 : -10000 ≤ x) (x1 : x ≤ 10000) (y0 : -10000 ≤ y) (y1 : y ≤ 10000) (a0 : -10000 ≤ dx) (a1 : dx ≤ 10000) (b0 : -10000 ≤ dy) (b1 : dy ≤ 10000) : Spec Try.prog 42 [.d (vi x), .d (vi y), .d (.v (.int .u8 way)), .d (vi dx), .d (vi dy)] [] (.tup [.d (vi (movedS x y way dx dy).1), .d (vi (movedS x y way dx dy).2)]) [] [] := by
  refine enter 33 [] Try.func42 rfl rfl blOk_nil rfl rfl fun X w0 E0 => ?_
  refine awp_seq ?_
  refine awp_region ?_
  refine seqP (assignT rfl) rfl ?_
  refine seqP (assignT rfl) rfl ?_
  refine ops_nil ?_
  refine awp_seq ?_
  refine awp_seq ?_
  refine awp_region ?_
  refine seqP (moveT rfl) rfl ?_
  refine seqP (intnT rfl rfl rfl rfl) rfl ?_
  refine seqP (intTT rfl rfl rfl) rfl ?_
  refine ops_nil ?_
  refine awp_if rfl (fun h14 => ?_) (fun h14 => ?_)
  · -- yes
    skip
    refine awp_region ?_
    refine seqP (moveT rfl) rfl ?_
    refine seqP (negT rfl (wrap_i64 ⟨by omega, by omega⟩)) rfl ?_
    refine seqP (assignT rfl) rfl ?_
    refine ops_nil ?_
    refine awp_seq ?_
    refine awp_seq ?_
    refine awp_region ?_
    refine seqP (moveT rfl) rfl ?_
    refine seqP (intnT rfl rfl rfl rfl) rfl ?_
    refine seqP (intTT rfl rfl rfl) rfl ?_
    refine ops_nil ?_
    refine awp_if rfl (fun h19 => ?_) (fun h19 => ?_)
    · -- yes
      skip
      refine awp_region ?_
      refine seqP (moveT rfl) rfl ?_
      refine seqP (negT rfl (wrap_i64 ⟨by omega, by omega⟩)) rfl ?_
      refine seqP (assignT rfl) rfl ?_
      refine ops_nil ?_
      refine awp_seq ?_
      refine awp_seq ?_
      refine awp_region ?_
      refine seqP (moveT rfl) rfl ?_
      refine seqP (intnT rfl rfl rfl rfl) rfl ?_
      refine seqP (intTT rfl rfl rfl) rfl ?_
      refine ops_nil ?_
      refine awp_if rfl (fun h24 => ?_) (fun h24 => ?_)
      · -- yes
        skip
        refine awp_region ?_
        refine seqP (moveT rfl) rfl ?_
        refine seqP (moveT rfl) rfl ?_
        refine seqP (assignT rfl) rfl ?_
        refine seqP (assignT rfl) rfl ?_
        refine ops_nil ?_
        refine awp_seq ?_
        refine awp_region ?_
        refine seqP (moveT rfl) rfl ?_
        refine seqP (moveT rfl) rfl ?_
        refine seqP (intnT rfl rfl rfl (wrap_i64 ⟨by omega, by omega⟩)) rfl ?_
        refine seqP (moveT rfl) rfl ?_
        refine seqP (moveT rfl) rfl ?_
        refine seqP (intnT rfl rfl rfl (wrap_i64 ⟨by omega, by omega⟩)) rfl ?_
        refine seqP (assignT rfl) rfl ?_
        refine seqP (assignT rfl) rfl ?_
        refine ops_nil ?_
        refine awp_ret ?_
        have e : movedS x y way dx dy = ((0 - y) + dx, (0 - x) + dy) := by
          simp only [movedS, flipS]
          rw [if_pos (show bitS way _ = true from h24), if_pos (show bitS way _ = true from h19), if_pos (show bitS way _ = true from h14)]
        rw [e]
        refine ret_plain (resl_tmp rfl (resl_tmp rfl resl_nil)) ?_ rfl
        rfl
      · -- no
        skip
        refine awp_skip ?_
        refine awp_seq ?_
        refine awp_region ?_
        refine seqP (moveT rfl) rfl ?_
        refine seqP (moveT rfl) rfl ?_
        refine seqP (intnT rfl rfl rfl (wrap_i64 ⟨by omega, by omega⟩)) rfl ?_
        refine seqP (moveT rfl) rfl ?_
        refine seqP (moveT rfl) rfl ?_
        refine seqP (intnT rfl rfl rfl (wrap_i64 ⟨by omega, by omega⟩)) rfl ?_
        refine seqP (assignT rfl) rfl ?_
        refine seqP (assignT rfl) rfl ?_
        refine ops_nil ?_
        refine awp_ret ?_
        have e : movedS x y way dx dy = ((0 - x) + dx, (0 - y) + dy) := by
          simp only [movedS, flipS]
          rw [if_neg (show ¬ bitS way _ = true from by rw [show bitS way _ = false from h24]; decide), if_pos (show bitS way _ = true from h14), if_pos (show bitS way _ = true from h19)]
        rw [e]
        refine ret_plain (resl_tmp rfl (resl_tmp rfl resl_nil)) ?_ rfl
        rfl
    · -- no
      skip
      refine awp_skip ?_
      refine awp_seq ?_
      refine awp_seq ?_
      refine awp_region ?_
      refine seqP (moveT rfl) rfl ?_
      refine seqP (intnT rfl rfl rfl rfl) rfl ?_
      refine seqP (intTT rfl rfl rfl) rfl ?_
      refine ops_nil ?_
      refine awp_if rfl (fun h24 => ?_) (fun h24 => ?_)
      · -- yes
        skip
        refine awp_region ?_
        refine seqP (moveT rfl) rfl ?_
        refine seqP (moveT rfl) rfl ?_
        refine seqP (assignT rfl) rfl ?_
        refine seqP (assignT rfl) rfl ?_
        refine ops_nil ?_
        refine awp_seq ?_
        refine awp_region ?_
        refine seqP (moveT rfl) rfl ?_
        refine seqP (moveT rfl) rfl ?_
        refine seqP (intnT rfl rfl rfl (wrap_i64 ⟨by omega, by omega⟩)) rfl ?_
        refine seqP (moveT rfl) rfl ?_
        refine seqP (moveT rfl) rfl ?_
        refine seqP (intnT rfl rfl rfl (wrap_i64 ⟨by omega, by omega⟩)) rfl ?_
        refine seqP (assignT rfl) rfl ?_
        refine seqP (assignT rfl) rfl ?_
        refine ops_nil ?_
        refine awp_ret ?_
        have e : movedS x y way dx dy = (y + dx, (0 - x) + dy) := by
          simp only [movedS, flipS]
          rw [if_pos (show bitS way _ = true from h24), if_neg (show ¬ bitS way _ = true from by rw [show bitS way _ = false from h19]; decide), if_pos (show bitS way _ = true from h14)]
        rw [e]
        refine ret_plain (resl_tmp rfl (resl_tmp rfl resl_nil)) ?_ rfl
        rfl
      · -- no
        skip
        refine awp_skip ?_
        refine awp_seq ?_
        refine awp_region ?_
        refine seqP (moveT rfl) rfl ?_
        refine seqP (moveT rfl) rfl ?_
        refine seqP (intnT rfl rfl rfl (wrap_i64 ⟨by omega, by omega⟩)) rfl ?_
        refine seqP (moveT rfl) rfl ?_
        refine seqP (moveT rfl) rfl ?_
        refine seqP (intnT rfl rfl rfl (wrap_i64 ⟨by omega, by omega⟩)) rfl ?_
        refine seqP (assignT rfl) rfl ?_
        refine seqP (assignT rfl) rfl ?_
        refine ops_nil ?_
        refine awp_ret ?_
        have e : movedS x y way dx dy = ((0 - x) + dx, y + dy) := by
          simp only [movedS, flipS]
          rw [if_neg (show ¬ bitS way _ = true from by rw [show bitS way _ = false from h24]; decide), if_pos (show bitS way _ = true from h14), if_neg (show ¬ bitS way _ = true from by rw [show bitS way _ = false from h19]; decide)]
        rw [e]
        refine ret_plain (resl_tmp rfl (resl_tmp rfl resl_nil)) ?_ rfl
        rfl
  · -- no
    skip
    refine awp_skip ?_
    refine awp_seq ?_
    refine awp_seq ?_
    refine awp_region ?_
    refine seqP (moveT rfl) rfl ?_
    refine seqP (intnT rfl rfl rfl rfl) rfl ?_
    refine seqP (intTT rfl rfl rfl) rfl ?_
    refine ops_nil ?_
    refine awp_if rfl (fun h19 => ?_) (fun h19 => ?_)
    · -- yes
      skip
      refine awp_region ?_
      refine seqP (moveT rfl) rfl ?_
      refine seqP (negT rfl (wrap_i64 ⟨by omega, by omega⟩)) rfl ?_
      refine seqP (assignT rfl) rfl ?_
      refine ops_nil ?_
      refine awp_seq ?_
      refine awp_seq ?_
      refine awp_region ?_
      refine seqP (moveT rfl) rfl ?_
      refine seqP (intnT rfl rfl rfl rfl) rfl ?_
      refine seqP (intTT rfl rfl rfl) rfl ?_
      refine ops_nil ?_
      refine awp_if rfl (fun h24 => ?_) (fun h24 => ?_)
      · -- yes
        skip
        refine awp_region ?_
        refine seqP (moveT rfl) rfl ?_
        refine seqP (moveT rfl) rfl ?_
        refine seqP (assignT rfl) rfl ?_
        refine seqP (assignT rfl) rfl ?_
        refine ops_nil ?_
        refine awp_seq ?_
        refine awp_region ?_
        refine seqP (moveT rfl) rfl ?_
        refine seqP (moveT rfl) rfl ?_
        refine seqP (intnT rfl rfl rfl (wrap_i64 ⟨by omega, by omega⟩)) rfl ?_
        refine seqP (moveT rfl) rfl ?_
        refine seqP (moveT rfl) rfl ?_
        refine seqP (intnT rfl rfl rfl (wrap_i64 ⟨by omega, by omega⟩)) rfl ?_
        refine seqP (assignT rfl) rfl ?_
        refine seqP (assignT rfl) rfl ?_
        refine ops_nil ?_
        refine awp_ret ?_
        have e : movedS x y way dx dy = ((0 - y) + dx, x + dy) := by
          simp only [movedS, flipS]
          rw [if_pos (show bitS way _ = true from h24), if_pos (show bitS way _ = true from h19), if_neg (show ¬ bitS way _ = true from by rw [show bitS way _ = false from h14]; decide)]
        rw [e]
        refine ret_plain (resl_tmp rfl (resl_tmp rfl resl_nil)) ?_ rfl
        rfl
      · -- no
        skip
        refine awp_skip ?_
        refine awp_seq ?_
        refine awp_region ?_
        refine seqP (moveT rfl) rfl ?_
        refine seqP (moveT rfl) rfl ?_
        refine seqP (intnT rfl rfl rfl (wrap_i64 ⟨by omega, by omega⟩)) rfl ?_
        refine seqP (moveT rfl) rfl ?_
        refine seqP (moveT rfl) rfl ?_
        refine seqP (intnT rfl rfl rfl (wrap_i64 ⟨by omega, by omega⟩)) rfl ?_
        refine seqP (assignT rfl) rfl ?_
        refine seqP (assignT rfl) rfl ?_
        refine ops_nil ?_
        refine awp_ret ?_
        have e : movedS x y way dx dy = (x + dx, (0 - y) + dy) := by
          simp only [movedS, flipS]
          rw [if_neg (show ¬ bitS way _ = true from by rw [show bitS way _ = false from h24]; decide), if_neg (show ¬ bitS way _ = true from by rw [show bitS way _ = false from h14]; decide), if_pos (show bitS way _ = true from h19)]
        rw [e]
        refine ret_plain (resl_tmp rfl (resl_tmp rfl resl_nil)) ?_ rfl
        rfl
    · -- no
      skip
      refine awp_skip ?_
      refine awp_seq ?_
      refine awp_seq ?_
      refine awp_region ?_
      refine seqP (moveT rfl) rfl ?_
      refine seqP (intnT rfl rfl rfl rfl) rfl ?_
      refine seqP (intTT rfl rfl rfl) rfl ?_
      refine ops_nil ?_
      refine awp_if rfl (fun h24 => ?_) (fun h24 => ?_)
      · -- yes
        skip
        refine awp_region ?_
        refine seqP (moveT rfl) rfl ?_
        refine seqP (moveT rfl) rfl ?_
        refine seqP (assignT rfl) rfl ?_
        refine seqP (assignT rfl) rfl ?_
        refine ops_nil ?_
        refine awp_seq ?_
        refine awp_region ?_
        refine seqP (moveT rfl) rfl ?_
        refine seqP (moveT rfl) rfl ?_
        refine seqP (intnT rfl rfl rfl (wrap_i64 ⟨by omega, by omega⟩)) rfl ?_
        refine seqP (moveT rfl) rfl ?_
        refine seqP (moveT rfl) rfl ?_
        refine seqP (intnT rfl rfl rfl (wrap_i64 ⟨by omega, by omega⟩)) rfl ?_
        refine seqP (assignT rfl) rfl ?_
        refine seqP (assignT rfl) rfl ?_
        refine ops_nil ?_
        refine awp_ret ?_
        have e : movedS x y way dx dy = (y + dx, x + dy) := by
          simp only [movedS, flipS]
          rw [if_pos (show bitS way _ = true from h24), if_neg (show ¬ bitS way _ = true from by rw [show bitS way _ = false from h19]; decide), if_neg (show ¬ bitS way _ = true from by rw [show bitS way _ = false from h14]; decide)]
        rw [e]
        refine ret_plain (resl_tmp rfl (resl_tmp rfl resl_nil)) ?_ rfl
        rfl
      · -- no
        skip
        refine awp_skip ?_
        refine awp_seq ?_
        refine awp_region ?_
        refine seqP (moveT rfl) rfl ?_
        refine seqP (moveT rfl) rfl ?_
        refine seqP (intnT rfl rfl rfl (wrap_i64 ⟨by omega, by omega⟩)) rfl ?_
        refine seqP (moveT rfl) rfl ?_
        refine seqP (moveT rfl) rfl ?_
        refine seqP (intnT rfl rfl rfl (wrap_i64 ⟨by omega, by omega⟩)) rfl ?_
        refine seqP (assignT rfl) rfl ?_
        refine seqP (assignT rfl) rfl ?_
        refine ops_nil ?_
        refine awp_ret ?_
        have e : movedS x y way dx dy = (x + dx, y + dy) := by
          simp only [movedS, flipS]
          rw [if_neg (show ¬ bitS way _ = true from by rw [show bitS way _ = false from h24]; decide), if_neg (show ¬ bitS way _ = true from by rw [show bitS way _ = false from h14]; decide), if_neg (show ¬ bitS way _ = true from by rw [show bitS way _ = false from h19]; decide)]
        rw [e]
        refine ret_plain (resl_tmp rfl (resl_tmp rfl resl_nil)) ?_ rfl
        rfl

theorem sp8 (n : Nat) (by_ : List Int) (h1 : 1 ≤ n) (h2 : n ≤ 1000) (hl : by_.length ≤ 9223372036854775807) (hb : ∀ x ∈ by_, 0 ≤ x ∧ x ≤ 255) : Spec Try.prog 8 [.d (vi (n : Nat)), .d (.s (by_.map encU8))] [] (.d (.s ((ints (orderS n by_)).map encInt))) [] [] := by
  refine enter 58 [] Try.func8 rfl rfl blOk_nil rfl rfl fun X w0 E0 => ?_
  refine awp_seq ?_
  refine awp_region ?_
  refine seqP (assignT rfl) rfl ?_
  refine ops_nil ?_
  refine awp_seq ?_
  refine awp_region ?_
  refine seqP (moveT rfl) rfl ?_
  refine seq1 (makeT (n' := 8010) rfl rfl rfl rfl rfl (by omega) (by omega) (by omega) (by omega) (Int.toNat_natCast n)) rfl rfl ?_
  refine seqP (assignT rfl) rfl ?_
  refine ops_nil ?_
  refine awp_seq ?_
  refine awp_seq ?_
  refine awp_region ?_
  refine seqP (moveT rfl) rfl ?_
  refine seqP (lenWT rfl rfl) rfl ?_
  refine seqP (moveT rfl) rfl ?_
  refine ops_nil ?_
  refine awp_block ?_
  refine awp_loop (ι := Nat × List Int) (fun v => ⟨[(0, .d (vi (n : Nat))), (1, .d (.s (by_.map encU8))), (5, .own 8010 0 1 n), (12, .d (vi (n : Nat))), (13, .d (vi (v.1 : Nat)))], [(8010, some (.row 1 (v.2.map encInt)))]⟩) (fun v => v.1 ≤ n ∧ v.2.length = n ∧ ∀ j, j < v.1 → v.2.getD j default = (j : Nat)) (fun v => n - v.1) (0, List.replicate n 0) ⟨Nat.zero_le _, by simp, fun j hj => absurd hj (Nat.not_lt_zero _)⟩ (turn_sub ⟨⟨rfl, rfl, rfl, rfl, rfl, trivial⟩, ⟨(by rw [List.map_replicate]; rfl), trivial⟩⟩) (fun v hP => ?_)
  obtain ⟨p, L⟩ := v
  obtain ⟨hp, hL, hj⟩ := hP
  simp only at hp hL hj ⊢
  refine awp_seq ?_
  refine awp_region ?_
  refine seqP (intTT rfl rfl rfl) rfl ?_
  refine ops_nil ?_
  refine awp_seq ?_
  refine awp_if rfl (fun h14 => ?_) (fun h14 => ?_)
  · -- yes
    try simp only [mOr, mAnd, decide_eq_true_eq, decide_eq_false_iff_not, beq_iff_eq, beq_eq_false_iff_ne, bne_iff_ne, ne_eq, bne_eq_false_iff_eq, Bool.or_eq_true, Bool.or_eq_false_iff, Bool.and_eq_true, Bool.and_eq_false_iff, Bool.not_eq_true', Bool.not_eq_false', Int.not_lt, Int.not_le, gt_iff_lt, ge_iff_le] at h14
    refine awp_skip ?_
    refine awp_seq ?_
    refine awp_block ?_
    refine awp_seq ?_
    refine awp_region ?_
    refine seqP (moveT rfl) rfl ?_
    refine seqP (assignT rfl) rfl ?_
    refine ops_nil ?_
    refine awp_region ?_
    refine seqP (moveT rfl) rfl ?_
    refine seqP (moveT rfl) rfl ?_
    refine seqP (moveT rfl) rfl ?_
    refine seqP (indexWT rfl rfl rfl (by omega) (by omega) (show 0 + ((p : Nat) : Int).toNat = p by simp)) rfl ?_
    refine seq0 (storeWT rfl rfl rfl rfl rfl (row_getD (z := default) (by omega)) rfl rfl rfl) ?_
    refine ops_nil ?_
    refine awp_region ?_
    refine seqP (intnT rfl rfl rfl (wrap_succ (by omega))) rfl ?_
    refine seqP (moveT rfl) rfl ?_
    refine ops_nil ?_
    refine ⟨(p + 1, L.set p (p : Nat)), ⟨by show p + 1 ≤ n; omega, by simpa using hL, fun j hj2 => by
            by_cases e : p = j
            · subst e; exact getD_set_eq' (by omega)
            · rw [show ((p + 1, L.set p ((p : Nat) : Int)) : Nat × List Int).2.getD j default = L.getD j default from getD_set_ne2 e]; exact hj j (by have : j < p + 1 := hj2; omega)⟩, (turn_sub ⟨⟨rfl, rfl, rfl, rfl, rfl, trivial⟩, ⟨(congrArg (fun r => some (Blk.row 1 r)) List.map_set.symm), trivial⟩⟩), by show n - (p + 1) < n - p; omega⟩
  · -- no
    try simp only [mOr, mAnd, decide_eq_true_eq, decide_eq_false_iff_not, beq_iff_eq, beq_eq_false_iff_ne, bne_iff_ne, ne_eq, bne_eq_false_iff_eq, Bool.or_eq_true, Bool.or_eq_false_iff, Bool.and_eq_true, Bool.and_eq_false_iff, Bool.not_eq_true', Bool.not_eq_false', Int.not_lt, Int.not_le, gt_iff_lt, ge_iff_le] at h14
    refine awp_exit ?_
    refine awp_seq ?_
    refine awp_seq ?_
    obtain rfl : p = n := by omega
    have hLe : L = ints (List.range p) := List.ext_getElem? fun j => by
      by_cases hjp : j < p
      · have h3 := hj j hjp
        rw [List.getD_eq_getElem?_getD, List.getElem?_eq_getElem (by omega)] at h3
        have h4 : L[j] = (j : Nat) := h3
        rw [List.getElem?_eq_getElem (by omega), h4]
        simp [ints, hjp]
      · rw [List.getElem?_eq_none (by omega), List.getElem?_eq_none (by simp [ints]; omega)]
    subst hLe
    refine awp_region ?_
    refine seqP (moveT rfl) rfl ?_
    refine seqP (intnT rfl rfl rfl (show IntKind.i64.wrap ((p : Int) - 1) = ((p - 1 : Nat) : Int) by rw [wrap_i64 ⟨by omega, by omega⟩]; omega)) rfl ?_
    refine seqP (assignT rfl) rfl ?_
    refine ops_nil ?_
    refine awp_block ?_
    refine awp_loop (ι := Nat × List Nat) (fun v => ⟨[(1, .d (.s (by_.map encU8))), (5, .own 8010 0 1 p), (7, .d (vi (v.1 : Nat)))], [(8010, some (.row 1 ((ints v.2).map encInt)))]⟩) (fun v => v.1 < p ∧ v.2.length = p ∧ shuf by_ v.1 v.2 = orderS p by_) (fun v => v.1) (p - 1, List.range p) ⟨by show p - 1 < p; omega, by simp, rfl⟩ (turn_sub ⟨⟨rfl, rfl, rfl, trivial⟩, ⟨rfl, trivial⟩⟩) (fun v hV => ?_)
    obtain ⟨i, L⟩ := v
    obtain ⟨hi, hL, hR⟩ := hV
    simp only at hi hL hR ⊢
    have hil := ints_len (L := L)
    refine awp_seq ?_
    refine awp_seq ?_
    refine awp_region ?_
    refine seqP (moveT rfl) rfl ?_
    refine seqP (intTT rfl rfl rfl) rfl ?_
    refine seqP (moveT rfl) rfl ?_
    refine seqM 3 (g := 29) (x := ?_) rfl rfl (fun Q g25 hJ => ?_) (fun Q g25 hJ => ?_) ?_
    rotate_left 1
    · -- taken
      refine seqP (moveT rfl) rfl ?_
      refine seqGy rfl rfl ?_
      refine seqP (lenRT rfl rfl (List.length_map ..)) rfl ?_
      refine seqGy rfl rfl ?_
      refine seqP (intTT rfl rfl rfl) rfl ?_
      refine seqP (pickYT rfl rfl) rfl ?_
      refine hJ 4 _ ?_
      exact ⟨.inl rfl, .inl rfl, .inl rfl, .inr (congrArg (fun b => AV.d (D.v (Value.bool b))) g25), rfl⟩
    · -- left
      refine seqGn rfl rfl ?_
      refine seqGn rfl rfl ?_
      refine seqP (pickNT rfl rfl) rfl ?_
      refine hJ 4 _ ?_
      exact ⟨.inl rfl, .inl rfl, .inl rfl, .inr (congrArg (fun b => AV.d (D.v (Value.bool b))) g25), rfl⟩
    refine ops_nil ?_
    refine awp_if rfl (fun h29 => ?_) (fun h29 => ?_)
    · -- yes
      simp [mAnd] at h29
      obtain ⟨q, rfl⟩ : ∃ q, i = q + 1 := ⟨i - 1, by omega⟩
      have hbl : by_.length > 0 := h29.2
      refine awp_skip ?_
      refine awp_seq ?_
      refine awp_block ?_
      refine awp_seq ?_
      refine awp_region ?_
      refine seqP (moveT rfl) rfl ?_
      refine seqP (moveT rfl) rfl ?_
      refine seqP (moveT rfl) rfl ?_
      refine seqP (lenRT rfl rfl (List.length_map ..)) rfl ?_
      refine seqP (remT rfl rfl (by omega) (tmod_nn (by omega))) rfl ?_
      have hm0 := Int.emod_nonneg ((q + 1 : Nat) : Int) (show (by_.length : Int) ≠ 0 by omega)
      have hm1 := Int.emod_lt_of_pos ((q + 1 : Nat) : Int) (show (0 : Int) < (by_.length : Int) by omega)
      refine seqP (indexRT rfl rfl rfl hm0 (row_getD (z := default) (by omega)) rfl) rfl ?_
      refine seqP (loadRT rfl rfl rfl) rfl ?_
      have hbx := hb _ (mem_getD (l := by_) (i := (((q + 1 : Nat) : Int) % (by_.length : Int)).toNat) (by omega))
      refine seqP (convT rfl rfl rfl (wrap_i64 ⟨by omega, by omega⟩)) rfl ?_
      refine seqP (moveT rfl) rfl ?_
      refine seqP (intnT rfl rfl rfl (wrap_i64 ⟨by omega, by omega⟩)) rfl ?_
      obtain ⟨k, hk⟩ : ∃ k, drawS by_ (q + 1) = k := ⟨_, rfl⟩
      have hkp : k < p := by have := draw_lt (by_ := by_) (i := q + 1); omega
      have hR2 : shuf by_ q (swapS L (q + 1) k) = orderS p by_ := by
        rw [← hR, ← hk]; show _ = (if by_.length > 0 then _ else _); rw [if_pos hbl]
      refine seqP (remT rfl rfl (by omega) (show _ = ((k : Nat) : Int) from draw_eq hbx.1 hk)) rfl ?_
      refine seqP (assignT rfl) rfl ?_
      refine ops_nil ?_
      refine awp_any [0, 0, 0, 0, 0, 0, 48, 112, 0, 0, 768, 1792, 4083, 8179, 16383, 32767] rfl ?_
      refine .step (rb := []) (wb := []) (ml := [8010]) (moveT rfl) rfl rfl rfl rfl rfl trivial ?_
      refine .step (rb := []) (wb := []) (ml := []) (moveT rfl) rfl rfl rfl rfl rfl trivial ?_
      refine .step (rb := []) (wb := []) (ml := [8010]) (moveT rfl) rfl rfl rfl rfl rfl trivial ?_
      refine .step (rb := []) (wb := []) (ml := []) (moveT rfl) rfl rfl rfl rfl rfl trivial ?_
      refine .step (rb := []) (wb := []) (ml := [8010]) (moveT rfl) rfl rfl rfl rfl rfl trivial ?_
      refine .step (rb := []) (wb := []) (ml := []) (moveT rfl) rfl rfl rfl rfl rfl trivial ?_
      refine .step (rb := []) (wb := []) (ml := [8010]) (indexWT rfl rfl rfl (by omega) (by omega) (show 0 + ((k : Nat) : Int).toNat = k by simp)) rfl rfl rfl rfl rfl trivial ?_
      refine .step (rb := [8010]) (wb := []) (ml := []) (loadWT rfl rfl rfl (row_getD (z := default) (by omega)) rfl) rfl rfl rfl rfl rfl trivial ?_
      refine .step (rb := []) (wb := []) (ml := [8010]) (moveT rfl) rfl rfl rfl rfl rfl trivial ?_
      refine .step (rb := []) (wb := []) (ml := []) (moveT rfl) rfl rfl rfl rfl rfl trivial ?_
      refine .step (rb := []) (wb := []) (ml := [8010]) (indexWT rfl rfl rfl (by omega) (by omega) (show 0 + ((q + 1 : Nat) : Int).toNat = q + 1 by simp)) rfl rfl rfl rfl rfl trivial ?_
      refine .step (rb := [8010]) (wb := []) (ml := []) (loadWT rfl rfl rfl (row_getD (z := default) (by omega)) rfl) rfl rfl rfl rfl rfl trivial ?_
      refine .step (rb := []) (wb := []) (ml := [8010]) (indexWT rfl rfl rfl (by omega) (by omega) (show 0 + ((q + 1 : Nat) : Int).toNat = q + 1 by simp)) rfl rfl rfl rfl rfl trivial ?_
      refine .step (rb := [8010]) (wb := [8010]) (ml := []) (storeWT rfl rfl rfl rfl rfl (row_getD (z := default) (by omega)) rfl rfl rfl) rfl rfl rfl rfl rfl ⟨rfl, trivial⟩ ?_
      refine .step (rb := []) (wb := []) (ml := [8010]) (indexWT rfl rfl rfl (by omega) (by omega) (show 0 + ((k : Nat) : Int).toNat = k by simp)) rfl rfl rfl rfl rfl trivial ?_
      refine .step (rb := [8010]) (wb := [8010]) (ml := []) (storeWT rfl rfl rfl rfl rfl (by rw [ints_get (show k < L.length by omega), ints_set hL]; exact row_getD (z := default) (by simp [ints]; omega)) rfl rfl rfl) rfl rfl rfl rfl rfl ⟨rfl, trivial⟩ ?_
      refine .done (by decide +kernel) ?_
      refine awp_region ?_
      refine seqP (moveT rfl) rfl ?_
      refine seqP (intnT rfl rfl rfl (wrap_i64 ⟨by omega, by omega⟩)) rfl ?_
      refine seqP (assignT rfl) rfl ?_
      refine ops_nil ?_
      refine ⟨(q, swapS L (q + 1) k), ⟨by show q < p; omega, by show (swapS L (q + 1) k).length = p; simp [swapS, hL], hR2⟩, (turn_sub ⟨⟨rfl, rfl, (by show AV.d (vi (((q + 1 : Nat) : Int) - 1)) = AV.d (vi ((q : Nat) : Int)); rw [show (((q + 1 : Nat) : Int) - 1) = ((q : Nat) : Int) by omega]), trivial⟩, ⟨(by show some (Blk.row 1 _) = some (Blk.row 1 ((ints (swapS L (q + 1) k)).map encInt)); rw [swap_row hL (show q + 1 < p by omega) hkp]), trivial⟩⟩), by show q < q + 1; omega⟩
    · -- no
      simp [mAnd] at h29
      refine awp_exit ?_
      refine awp_seq ?_
      have hRe : L = orderS p by_ := by
        rw [← hR]
        cases i with
        | zero => rfl
        | succ i => 
          show _ = (if by_.length > 0 then _ else _)
          rw [if_neg (by rw [h29 (by omega)]; simp)]
      refine awp_region ?_
      refine seqP (moveT rfl) rfl ?_
      refine seqP (assignT rfl) rfl ?_
      refine ops_turn (freezeT 4 8010 rfl rfl (by simp only [List.length_map, ints_len]; exact hL)) ?_
      rw [hRe]
      refine ops_nil ?_
      refine awp_ret ?_
      refine ret_plain (resl_tmp rfl resl_nil) ?_ rfl
      rfl

theorem sp11 (a b to : List Int) (hl : a.length = b.length) (hb : b.length ≤ 1000) (hto : to.length ≤ 1000) (hasc : ∀ i, i + 1 < b.length → b.getD i default < b.getD (i + 1) default) (hin : ∀ x ∈ a, 0 ≤ x ∧ x < to.length ∧ to.getD x.toNat default ∈ b) :
    Spec Try.prog 11 [.d (.s (a.map encInt)), .d (.s (b.map encInt)), .d (.s (to.map encInt))] [] (.d (vb true)) [] [] := by
  refine enter 63 [] Try.func11 rfl rfl blOk_nil rfl rfl fun X w0 E0 => ?_
  refine awp_seq ?_
  refine awp_region ?_
  refine seqP (assignT rfl) rfl ?_
  refine ops_nil ?_
  refine awp_seq ?_
  refine awp_seq ?_
  refine awp_region ?_
  refine seqP (moveT rfl) rfl ?_
  refine seqP (lenRT rfl rfl (List.length_map ..)) rfl ?_
  refine seqP (moveT rfl) rfl ?_
  refine seqP (lenRT rfl rfl (List.length_map ..)) rfl ?_
  refine seqP (neqFT rfl rfl (by omega)) rfl ?_
  refine ops_nil ?_
  refine awp_ifN rfl ?_
  refine awp_skip ?_
  refine awp_seq ?_
  refine awp_region ?_
  refine seqMap 11007 rfl rfl fun gm => ?_
  refine seqP (assignT rfl) rfl ?_
  refine ops_nil ?_
  refine awp_seq ?_
  refine awp_seq ?_
  refine awp_region ?_
  refine seqP (moveT rfl) rfl ?_
  refine seqP (lenRT rfl rfl (List.length_map ..)) rfl ?_
  refine seqP (moveT rfl) rfl ?_
  refine ops_nil ?_
  refine awp_block ?_
  refine awp_loop (ι := Nat) (fun p => ⟨[(0, .d (.s (a.map encInt))), (1, .d (.s (b.map encInt))), (2, .d (.s (to.map encInt))), (7, .d (.v (.map (some gm)))), (18, .d (.s (b.map encInt))), (19, .d (vi b.length)), (20, .d (vi (p : Nat)))], [(11007, some (.mp gm (b.take p)))]⟩) (fun p => p ≤ b.length) (fun p => b.length - p) 0 (Nat.zero_le _) (turn_sub ⟨⟨rfl, rfl, rfl, rfl, rfl, rfl, rfl, trivial⟩, ⟨rfl, trivial⟩⟩) (fun p hP => ?_)
  refine awp_seq ?_
  refine awp_region ?_
  refine seqP (intTT rfl rfl rfl) rfl ?_
  refine ops_nil ?_
  refine awp_seq ?_
  refine awp_if rfl (fun h21 => ?_) (fun h21 => ?_)
  · -- yes
    try simp only [mOr, mAnd, decide_eq_true_eq, decide_eq_false_iff_not, beq_iff_eq, beq_eq_false_iff_ne, bne_iff_ne, ne_eq, bne_eq_false_iff_eq, Bool.or_eq_true, Bool.or_eq_false_iff, Bool.and_eq_true, Bool.and_eq_false_iff, Bool.not_eq_true', Bool.not_eq_false', Int.not_lt, Int.not_le, gt_iff_lt, ge_iff_le] at h21
    refine awp_skip ?_
    refine awp_seq ?_
    refine awp_block ?_
    refine awp_seq ?_
    have hpl : p < b.length := by omega
    refine awp_region ?_
    refine seqP (moveT rfl) rfl ?_
    refine seqP (indexRT rfl rfl rfl (by omega) (idx_getD (z := default) hpl) rfl) rfl ?_
    refine seqP (loadRT rfl rfl rfl) rfl ?_
    refine seqP (assignT rfl) rfl ?_
    refine seqP (assignT rfl) rfl ?_
    refine ops_nil ?_
    refine awp_seq ?_
    refine awp_seq ?_
    refine awp_region ?_
    refine seqP (moveT rfl) rfl ?_
    refine seqP (intTT rfl rfl rfl) rfl ?_
    refine seqP (moveT rfl) rfl ?_
    refine seqM 7 (g := 35) (x := ?_) rfl rfl (fun Q g27 hJ => ?_) (fun Q g27 hJ => ?_) ?_
    rotate_left 1
    · -- taken
      have hp0 : 0 < p := by simp at g27; omega
      refine seqP (moveT rfl) rfl ?_
      refine seqGy rfl rfl ?_
      refine seqP (moveT rfl) rfl ?_
      refine seqGy rfl rfl ?_
      refine seqP (intnT rfl rfl rfl (wrap_i64 ⟨by omega, by omega⟩)) rfl ?_
      refine seqGy rfl rfl ?_
      refine seqP (indexRT rfl rfl rfl (by omega) (row_getD (z := default) (by omega)) rfl) rfl ?_
      refine seqGy rfl rfl ?_
      refine seqP (loadRT rfl rfl rfl) rfl ?_
      refine seqGy rfl rfl ?_
      refine seqP (moveT rfl) rfl ?_
      refine seqGy rfl rfl ?_
      refine seqP (geqF rfl rfl (by have h3 := hasc (p - 1) (by omega); rw [show ((p : Int) - 1).toNat = p - 1 by omega]; rw [show p - 1 + 1 = p by omega] at h3; omega)) rfl ?_
      refine seqP (pickYT rfl rfl) rfl ?_
      refine hJ 8 _ ?_
      exact ⟨.inl rfl, .inl rfl, .inl rfl, .inl rfl, .inl rfl, .inl rfl, .inl rfl, .inr (congrArg (fun b => AV.d (D.v (Value.bool b))) g27), rfl⟩
    · -- left
      refine seqGn rfl rfl ?_
      refine seqGn rfl rfl ?_
      refine seqGn rfl rfl ?_
      refine seqGn rfl rfl ?_
      refine seqGn rfl rfl ?_
      refine seqGn rfl rfl ?_
      refine seqP (pickNT rfl rfl) rfl ?_
      refine hJ 8 _ ?_
      exact ⟨.inl rfl, .inl rfl, .inl rfl, .inl rfl, .inl rfl, .inl rfl, .inl rfl, .inr (congrArg (fun b => AV.d (D.v (Value.bool b))) g27), rfl⟩
    refine ops_nil ?_
    refine awp_if rfl (fun h35 => ?_) (fun h35 => ?_)
    · -- yes
      exfalso
      simp [mAnd] at h35
    · -- no
      try simp only [mOr, mAnd, decide_eq_true_eq, decide_eq_false_iff_not, beq_iff_eq, beq_eq_false_iff_ne, bne_iff_ne, ne_eq, bne_eq_false_iff_eq, Bool.or_eq_true, Bool.or_eq_false_iff, Bool.and_eq_true, Bool.and_eq_false_iff, Bool.not_eq_true', Bool.not_eq_false', Int.not_lt, Int.not_le, gt_iff_lt, ge_iff_le] at h35
      refine awp_skip ?_
      refine awp_region ?_
      refine seqP (moveT rfl) rfl ?_
      refine seqP (moveT rfl) rfl ?_
      refine seq0 (mapUpT 11007 rfl rfl rfl rfl (asc_take hasc hpl) (show b.take p ++ [b.getD p default] = b.take (p + 1) by rw [List.take_add_one, List.getElem?_eq_getElem hpl, List.getD_eq_getElem?_getD, List.getElem?_eq_getElem hpl]; rfl)) ?_
      refine ops_nil ?_
      refine awp_region ?_
      refine seqP (intnT rfl rfl rfl (wrap_succ (by omega))) rfl ?_
      refine seqP (moveT rfl) rfl ?_
      refine ops_nil ?_
      refine ⟨(p + 1), (by show p + 1 ≤ _; omega), (turn_sub ⟨⟨rfl, rfl, rfl, rfl, rfl, rfl, rfl, trivial⟩, ⟨rfl, trivial⟩⟩), by show b.length - (p + 1) < b.length - p; omega⟩
  · -- no
    try simp only [mOr, mAnd, decide_eq_true_eq, decide_eq_false_iff_not, beq_iff_eq, beq_eq_false_iff_ne, bne_iff_ne, ne_eq, bne_eq_false_iff_eq, Bool.or_eq_true, Bool.or_eq_false_iff, Bool.and_eq_true, Bool.and_eq_false_iff, Bool.not_eq_true', Bool.not_eq_false', Int.not_lt, Int.not_le, gt_iff_lt, ge_iff_le] at h21
    refine awp_exit ?_
    refine awp_seq ?_
    refine awp_seq ?_
    refine awp_region ?_
    refine seqP (moveT rfl) rfl ?_
    refine seqP (lenRT rfl rfl (List.length_map ..)) rfl ?_
    refine seqP (moveT rfl) rfl ?_
    refine ops_nil ?_
    refine awp_block ?_
    refine awp_loop (ι := Nat) (fun q => ⟨[(2, .d (.s (to.map encInt))), (7, .d (.v (.map (some gm)))), (39, .d (.s (a.map encInt))), (40, .d (vi a.length)), (41, .d (vi (q : Nat)))], [(11007, some (.mp gm b))]⟩) (fun q => q ≤ a.length) (fun q => a.length - q) 0 (Nat.zero_le _) (turn_sub ⟨⟨rfl, rfl, rfl, rfl, rfl, trivial⟩, ⟨(by show some (Blk.mp gm (b.take p)) = some (Blk.mp gm b); rw [List.take_of_length_le (by omega)]), trivial⟩⟩) (fun q hQ => ?_)
    refine awp_seq ?_
    refine awp_region ?_
    refine seqP (intTT rfl rfl rfl) rfl ?_
    refine ops_nil ?_
    refine awp_seq ?_
    refine awp_if rfl (fun h42 => ?_) (fun h42 => ?_)
    · -- yes
      try simp only [mOr, mAnd, decide_eq_true_eq, decide_eq_false_iff_not, beq_iff_eq, beq_eq_false_iff_ne, bne_iff_ne, ne_eq, bne_eq_false_iff_eq, Bool.or_eq_true, Bool.or_eq_false_iff, Bool.and_eq_true, Bool.and_eq_false_iff, Bool.not_eq_true', Bool.not_eq_false', Int.not_lt, Int.not_le, gt_iff_lt, ge_iff_le] at h42
      refine awp_skip ?_
      refine awp_seq ?_
      refine awp_block ?_
      refine awp_seq ?_
      have hql : q < a.length := by omega
      obtain ⟨x, hx⟩ : ∃ x, a.getD q default = x := ⟨_, rfl⟩
      have hxi := hin x (hx ▸ mem_getD hql)
      refine awp_region ?_
      refine seqP (indexRT rfl rfl rfl (by omega) (show _ = some (encInt x) from hx ▸ idx_getD (z := default) hql) rfl) rfl ?_
      refine seqP (loadRT rfl rfl rfl) rfl ?_
      refine seqP (assignT rfl) rfl ?_
      refine ops_nil ?_
      refine awp_seq ?_
      refine awp_region ?_
      refine seqP (moveT rfl) rfl ?_
      refine seqP (lssF rfl rfl (by omega)) rfl ?_
      refine seqP (moveT rfl) rfl ?_
      refine seqGy rfl rfl ?_
      refine seqP (moveT rfl) rfl ?_
      refine seqGy rfl rfl ?_
      refine seqP (moveT rfl) rfl ?_
      refine seqGy rfl rfl ?_
      refine seqP (lenRT rfl rfl (List.length_map ..)) rfl ?_
      refine seqGy rfl rfl ?_
      refine seqP (geqF rfl rfl (by omega)) rfl ?_
      refine seqP (pickNT rfl rfl) rfl ?_
      refine seqP (moveT rfl) rfl ?_
      refine seqGy rfl rfl ?_
      refine seqP (moveT rfl) rfl ?_
      refine seqGy rfl rfl ?_
      refine seqP (moveT rfl) rfl ?_
      refine seqGy rfl rfl ?_
      refine seqP (moveT rfl) rfl ?_
      refine seqGy rfl rfl ?_
      refine seqP (indexRT rfl rfl rfl hxi.1 (row_getD (z := default) (by omega)) rfl) rfl ?_
      refine seqGy rfl rfl ?_
      refine seqP (loadRT rfl rfl rfl) rfl ?_
      refine seqGy rfl rfl ?_
      refine seqP (lookupT 11007 rfl rfl rfl hxi.2.2) rfl ?_
      refine seqGy rfl rfl ?_
      refine seqP (notYT rfl) rfl ?_
      refine seqP (pickNT rfl rfl) rfl ?_
      refine ops_nil ?_
      refine awp_ifN rfl ?_
      refine awp_skip ?_
      refine awp_region ?_
      refine seqP (intnT rfl rfl rfl (wrap_succ (by omega))) rfl ?_
      refine seqP (moveT rfl) rfl ?_
      refine ops_nil ?_
      refine ⟨(q + 1), (by show q + 1 ≤ _; omega), (turn_sub ⟨⟨rfl, rfl, rfl, rfl, rfl, trivial⟩, ⟨rfl, trivial⟩⟩), by show a.length - (q + 1) < a.length - q; omega⟩
    · -- no
      try simp only [mOr, mAnd, decide_eq_true_eq, decide_eq_false_iff_not, beq_iff_eq, beq_eq_false_iff_ne, bne_iff_ne, ne_eq, bne_eq_false_iff_eq, Bool.or_eq_true, Bool.or_eq_false_iff, Bool.and_eq_true, Bool.and_eq_false_iff, Bool.not_eq_true', Bool.not_eq_false', Int.not_lt, Int.not_le, gt_iff_lt, ge_iff_le] at h42
      refine awp_exit ?_
      refine awp_seq ?_
      refine awp_region ?_
      refine seqP (assignT rfl) rfl ?_
      refine ops_nil ?_
      refine awp_ret ?_
      refine ret_plain (resl_tmp rfl resl_nil) ?_ rfl
      rfl

end Go.Proofs.Ytencghlmckbmlaa
