/- Walks: airtime.Check (printed by gen.py). -/
import Derived.Test.YtencghlmckbmlaaAny
set_option linter.unusedVariables false
set_option linter.unusedSimpArgs false
set_option maxRecDepth 100000
namespace Go.Proofs.Ytencghlmckbmlaa
open Go Go.RowKit

structure Share where
  weight : Int
  credit : Int
deriving Inhabited

def encShare (x : Share) : List D := [vi x.weight, vi x.credit]

structure Shares where
  list : List Share
  turn : Int

def Shares.av (s : Shares) : AV := .agg [.d (.s (s.list.map encShare)), .d (vi s.turn)]

def oddS (x : Share) : Bool := decide (x.weight < 1) || decide (x.weight > 16) || decide (x.credit < -32767) || decide (x.credit > 1000 * x.weight)
def ckBad (s : Shares) : Bool := decide ((s.list.length : Int) < 1) || decide ((s.list.length : Int) > 32) || decide (s.turn < 0) || decide (s.turn ≥ s.list.length) || s.list.any oddS
def ckS (s : Shares) : Int := if ckBad s = true then 8 else 0
def idxS (l : List Share) : Int := if l.any oddS = true then (l.findIdx oddS : Nat) else -1

theorem share_rows {l : List Share} : ∀ row ∈ l.map encShare, row.length = 2 := fun row h => by
  obtain ⟨x, _, rfl⟩ := List.mem_map.1 h; rfl

theorem any_take {α : Type} {l : List α} {p : α → Bool} {i : Nat} {x : α} (hx : l[i]? = some x) (h : (l.take i).any p = false) (hp : p x = true) : l.any p = true ∧ l.findIdx p = i := by
  have h1 := List.any_eq_false.1 h
  obtain ⟨hi, hxi⟩ := List.getElem?_eq_some_iff.1 hx
  refine ⟨List.any_eq_true.2 ⟨x, List.mem_of_getElem? hx, hp⟩, ?_⟩
  rw [List.findIdx_eq hi]
  refine ⟨by rw [hxi]; exact hp, fun j hj => ?_⟩
  have := h1 (l[j]'(by omega)) (by
    refine List.mem_of_getElem? (i := j) ?_
    rw [List.getElem?_take_of_lt hj, List.getElem?_eq_getElem (by omega)])
  simpa using this

theorem any_take_succ {α : Type} {l : List α} {p : α → Bool} {i : Nat} {x : α} (hx : l[i]? = some x) (h : (l.take i).any p = false) (hp : p x = false) : (l.take (i + 1)).any p = false := by
  rw [List.take_add_one, List.any_append, h, hx]; simp [hp]


theorem sp154 (x : Share) : Spec Try.prog 154 [.agg [.d (vi x.weight), .d (vi x.credit)]] [] (.d (vb (oddS x))) [] [] := by
  refine enter 24 [] Try.func154 rfl rfl blOk_nil rfl rfl fun X w0 E0 => ?_
  refine awp_seq ?_
  refine awp_region ?_
  refine seq1 (boxT rfl rfl rfl) rfl rfl ?_
  refine seqP (assignT rfl) rfl ?_
  refine ops_nil ?_
  refine awp_seq ?_
  refine awp_region ?_
  refine seqP (fieldPT rfl rfl rfl) rfl ?_
  refine seqP (loadVT rfl rfl rfl rfl) rfl ?_
  refine seqP (intTT rfl rfl rfl) rfl ?_
  refine seqP (moveT rfl) rfl ?_
  refine seqM 3 (g := 10) (x := ?_) rfl rfl (fun Q g6 hJ => ?_) (fun Q g6 hJ => ?_) ?_
  rotate_left 1
  · -- taken
    refine seqP (fieldPT rfl rfl rfl) rfl ?_
    refine seqGy rfl rfl ?_
    refine seqP (loadVT rfl rfl rfl rfl) rfl ?_
    refine seqGy rfl rfl ?_
    refine seqP (intTT rfl rfl rfl) rfl ?_
    refine seqP (pickNT rfl rfl) rfl ?_
    refine hJ 4 _ ?_
    exact ⟨.inl rfl, .inl rfl, .inl rfl, .inr (congrArg (fun b => AV.d (D.v (Value.bool b))) g6), rfl⟩
  · -- left
    refine seqGn rfl rfl ?_
    refine seqGn rfl rfl ?_
    refine seqP (pickYT rfl rfl) rfl ?_
    refine hJ 4 _ ?_
    exact ⟨.inl rfl, .inl rfl, .inl rfl, .inr (congrArg (fun b => AV.d (D.v (Value.bool b))) g6), rfl⟩
  refine seqP (moveT rfl) rfl ?_
  refine seqM 3 (g := 15) (x := ?_) rfl rfl (fun Q g11 hJ => ?_) (fun Q g11 hJ => ?_) ?_
  rotate_left 1
  · -- taken
    refine seqP (fieldPT rfl rfl rfl) rfl ?_
    refine seqGy rfl rfl ?_
    refine seqP (loadVT rfl rfl rfl rfl) rfl ?_
    refine seqGy rfl rfl ?_
    refine seqP (intTT rfl rfl rfl) rfl ?_
    refine seqP (pickNT rfl rfl) rfl ?_
    refine hJ 4 _ ?_
    exact ⟨.inl rfl, .inl rfl, .inl rfl, .inr (congrArg (fun b => AV.d (D.v (Value.bool b))) g11), rfl⟩
  · -- left
    refine seqGn rfl rfl ?_
    refine seqGn rfl rfl ?_
    refine seqP (pickYT rfl rfl) rfl ?_
    refine hJ 4 _ ?_
    exact ⟨.inl rfl, .inl rfl, .inl rfl, .inr (congrArg (fun b => AV.d (D.v (Value.bool b))) g11), rfl⟩
  refine seqP (moveT rfl) rfl ?_
  refine seqM 6 (g := 23) (x := ?_) rfl rfl (fun Q g16 hJ => ?_) (fun Q g16 hJ => ?_) ?_
  rotate_left 1
  · -- taken
    refine seqP (fieldPT rfl rfl rfl) rfl ?_
    refine seqGy rfl rfl ?_
    refine seqP (loadVT rfl rfl rfl rfl) rfl ?_
    refine seqGy rfl rfl ?_
    refine seqP (fieldPT rfl rfl rfl) rfl ?_
    refine seqGy rfl rfl ?_
    refine seqP (loadVT rfl rfl rfl rfl) rfl ?_
    refine seqGy rfl rfl ?_
    refine seqP (intnT rfl rfl rfl (wrap_i64 (by have g := g16; simp only [mOr, Bool.or_eq_false_iff, decide_eq_false_iff_not] at g; omega))) rfl ?_
    refine seqGy rfl rfl ?_
    refine seqP (intTT rfl rfl rfl) rfl ?_
    refine seqP (pickNT rfl rfl) rfl ?_
    refine hJ 7 _ ?_
    exact ⟨.inl rfl, .inl rfl, .inl rfl, .inl rfl, .inl rfl, .inl rfl, .inr (congrArg (fun b => AV.d (D.v (Value.bool b))) g16), rfl⟩
  · -- left
    refine seqGn rfl rfl ?_
    refine seqGn rfl rfl ?_
    refine seqGn rfl rfl ?_
    refine seqGn rfl rfl ?_
    refine seqGn rfl rfl ?_
    refine seqP (pickYT rfl rfl) rfl ?_
    refine hJ 7 _ ?_
    exact ⟨.inl rfl, .inl rfl, .inl rfl, .inl rfl, .inl rfl, .inl rfl, .inr (congrArg (fun b => AV.d (D.v (Value.bool b))) g16), rfl⟩
  refine seqP (assignT rfl) rfl ?_
  refine ops_nil ?_
  refine awp_ret ?_
  refine ret_plain (resl_tmp rfl resl_nil) ?_ rfl
  simp only [mOr]; rfl

theorem sp210 (l : List Share) (hl : l.length ≤ 100000000) : Spec Try.prog 210 [.d (.s (l.map encShare)), .clo 154 [] []] [] (.d (vi (idxS l))) [] [] := by
  refine enter 19 [] Try.func210 rfl rfl blOk_nil rfl rfl fun X w0 E0 => ?_
  refine awp_seq ?_
  refine awp_region ?_
  refine seqP (assignT rfl) rfl ?_
  refine ops_nil ?_
  refine awp_seq ?_
  refine awp_seq ?_
  refine awp_region ?_
  refine seqP (moveT rfl) rfl ?_
  refine seqP (lenRT rfl rfl (List.length_map ..)) rfl ?_
  refine seqP (moveT rfl) rfl ?_
  refine ops_nil ?_
  refine awp_block ?_
  refine awp_loop (ι := Nat) (fun p => ⟨[(0, .d (.s (l.map encShare))), (1, .clo 154 [] []), (7, .d (vi l.length)), (8, .d (vi (p : Nat)))], []⟩) (fun p => p ≤ l.length ∧ (l.take p).any oddS = false) (fun p => l.length - p) 0 ⟨Nat.zero_le _, by simp⟩ (turn_sub ⟨⟨rfl, rfl, rfl, rfl, trivial⟩, trivial⟩) (fun p hP => ?_)
  refine awp_seq ?_
  refine awp_region ?_
  refine seqP (intTT rfl rfl rfl) rfl ?_
  refine ops_nil ?_
  refine awp_seq ?_
  refine awp_if rfl (fun h9 => ?_) (fun h9 => ?_)
  · -- yes
    try simp only [mOr, mAnd, decide_eq_true_eq, decide_eq_false_iff_not, beq_iff_eq, beq_eq_false_iff_ne, bne_iff_ne, ne_eq, bne_eq_false_iff_eq, Bool.or_eq_true, Bool.or_eq_false_iff, Bool.and_eq_true, Bool.and_eq_false_iff, Bool.not_eq_true', Bool.not_eq_false', Int.not_lt, Int.not_le, gt_iff_lt, ge_iff_le] at h9
    refine awp_skip ?_
    refine awp_seq ?_
    refine awp_block ?_
    refine awp_seq ?_
    refine awp_region ?_
    refine seqP (moveT rfl) rfl ?_
    refine seqP (assignT rfl) rfl ?_
    refine ops_nil ?_
    refine awp_seq ?_
    refine awp_region ?_
    refine seqP (moveT rfl) rfl ?_
    refine seqP (moveT rfl) rfl ?_
    refine seqP (moveT rfl) rfl ?_
    obtain ⟨x, hx⟩ : ∃ x, l[p]? = some x := ⟨_, List.getElem?_eq_getElem (by omega)⟩
    refine seqP (indexRT rfl rfl rfl (by omega) (idx_map hx) rfl) rfl ?_
    refine seqP (loadRsT rfl rfl rfl rfl rfl) rfl ?_
    refine seqP (callT rfl rfl rfl (callB_of Try.func154 rfl) (sp154 x) trivial) rfl ?_
    refine ops_nil ?_
    refine awp_if rfl (fun h16 => ?_) (fun h16 => ?_)
    · -- yes
      skip
      refine awp_seq ?_
      refine awp_region ?_
      refine seqP (moveT rfl) rfl ?_
      refine seqP (assignT rfl) rfl ?_
      refine ops_nil ?_
      refine awp_ret ?_
      refine ret_plain (resl_tmp rfl resl_nil) ?_ rfl
      obtain ⟨h1, h2⟩ := any_take hx hP.2 h16
      simp only [idxS, if_pos h1, h2]; rfl
    · -- no
      skip
      refine awp_skip ?_
      refine awp_region ?_
      refine seqP (intnT rfl rfl rfl (wrap_succ (by omega))) rfl ?_
      refine seqP (moveT rfl) rfl ?_
      refine ops_nil ?_
      refine ⟨(p + 1), ⟨by omega, any_take_succ hx hP.2 h16⟩, (turn_sub ⟨⟨rfl, rfl, rfl, rfl, trivial⟩, trivial⟩), by show l.length - (p + 1) < l.length - p; omega⟩
  · -- no
    try simp only [mOr, mAnd, decide_eq_true_eq, decide_eq_false_iff_not, beq_iff_eq, beq_eq_false_iff_ne, bne_iff_ne, ne_eq, bne_eq_false_iff_eq, Bool.or_eq_true, Bool.or_eq_false_iff, Bool.and_eq_true, Bool.and_eq_false_iff, Bool.not_eq_true', Bool.not_eq_false', Int.not_lt, Int.not_le, gt_iff_lt, ge_iff_le] at h9
    refine awp_exit ?_
    refine awp_seq ?_
    refine awp_region ?_
    refine seqP (assignT rfl) rfl ?_
    refine ops_nil ?_
    refine awp_ret ?_
    refine ret_plain (resl_tmp rfl resl_nil) ?_ rfl
    have h1 : ¬ l.any oddS = true := by
      have := hP.2
      rw [List.take_of_length_le (by omega)] at this; rw [this]; simp
    simp only [idxS, if_neg h1]; rfl

theorem sp155 (l : List Share) (hl : l.length ≤ 100000000) : Spec Try.prog 155 [.d (.s (l.map encShare)), .clo 154 [] []] [] (.d (vb (l.any oddS))) [] [] := by
  refine enter 9 [] Try.func155 rfl rfl blOk_nil rfl rfl fun X w0 E0 => ?_
  refine awp_seq ?_
  refine awp_region ?_
  refine seqP (assignT rfl) rfl ?_
  refine ops_nil ?_
  refine awp_seq ?_
  refine awp_region ?_
  refine seqP (moveT rfl) rfl ?_
  refine seqP (moveT rfl) rfl ?_
  refine seqP (callT rfl rfl rfl (callB_of Try.func210 rfl) (sp210 l hl) trivial) rfl ?_
  refine seqP (intTT rfl rfl rfl) rfl ?_
  refine seqP (assignT rfl) rfl ?_
  refine ops_nil ?_
  refine awp_ret ?_
  refine ret_plain (resl_tmp rfl resl_nil) ?_ rfl
  have h1 : decide (idxS l ≥ 0) = l.any oddS := by
    unfold idxS
    cases l.any oddS <;> simp
  rw [← h1]; rfl

theorem sp76 (s : Shares) (hl : s.list.length ≤ 100000000) : Spec Try.prog 76 [s.av] [] (.d (vi (ckS s))) [] [] := by
  refine enter 31 [] Try.func76 rfl rfl blOk_nil rfl rfl fun X w0 E0 => ?_
  refine awp_seq ?_
  refine awp_region ?_
  refine seq1 (boxT rfl rfl rfl) rfl rfl ?_
  refine seqP (assignT rfl) rfl ?_
  refine ops_nil ?_
  refine awp_seq ?_
  refine awp_region ?_
  refine seqP (assignT rfl) rfl ?_
  refine ops_nil ?_
  refine awp_seq ?_
  refine awp_seq ?_
  refine awp_region ?_
  refine seqP (fieldPT rfl rfl rfl) rfl ?_
  refine seqP (loadVT rfl rfl rfl rfl) rfl ?_
  refine seqP (lenRT rfl rfl (List.length_map ..)) rfl ?_
  refine seqP (assignT rfl) rfl ?_
  refine ops_nil ?_
  refine awp_seq ?_
  refine awp_region ?_
  refine seqP (moveT rfl) rfl ?_
  refine seqP (intTT rfl rfl rfl) rfl ?_
  refine seqP (moveT rfl) rfl ?_
  refine seqM 2 (g := 13) (x := ?_) rfl rfl (fun Q g10 hJ => ?_) (fun Q g10 hJ => ?_) ?_
  rotate_left 1
  · -- taken
    refine seqP (moveT rfl) rfl ?_
    refine seqGy rfl rfl ?_
    refine seqP (intTT rfl rfl rfl) rfl ?_
    refine seqP (pickNT rfl rfl) rfl ?_
    refine hJ 3 _ ?_
    exact ⟨.inl rfl, .inl rfl, .inr (congrArg (fun b => AV.d (D.v (Value.bool b))) g10), rfl⟩
  · -- left
    refine seqGn rfl rfl ?_
    refine seqP (pickYT rfl rfl) rfl ?_
    refine hJ 3 _ ?_
    exact ⟨.inl rfl, .inl rfl, .inr (congrArg (fun b => AV.d (D.v (Value.bool b))) g10), rfl⟩
  refine seqP (moveT rfl) rfl ?_
  refine seqM 3 (g := 18) (x := ?_) rfl rfl (fun Q g14 hJ => ?_) (fun Q g14 hJ => ?_) ?_
  rotate_left 1
  · -- taken
    refine seqP (fieldPT rfl rfl rfl) rfl ?_
    refine seqGy rfl rfl ?_
    refine seqP (loadVT rfl rfl rfl rfl) rfl ?_
    refine seqGy rfl rfl ?_
    refine seqP (intTT rfl rfl rfl) rfl ?_
    refine seqP (pickNT rfl rfl) rfl ?_
    refine hJ 4 _ ?_
    exact ⟨.inl rfl, .inl rfl, .inl rfl, .inr (congrArg (fun b => AV.d (D.v (Value.bool b))) g14), rfl⟩
  · -- left
    refine seqGn rfl rfl ?_
    refine seqGn rfl rfl ?_
    refine seqP (pickYT rfl rfl) rfl ?_
    refine hJ 4 _ ?_
    exact ⟨.inl rfl, .inl rfl, .inl rfl, .inr (congrArg (fun b => AV.d (D.v (Value.bool b))) g14), rfl⟩
  refine seqP (moveT rfl) rfl ?_
  refine seqM 4 (g := 24) (x := ?_) rfl rfl (fun Q g19 hJ => ?_) (fun Q g19 hJ => ?_) ?_
  rotate_left 1
  · -- taken
    refine seqP (fieldPT rfl rfl rfl) rfl ?_
    refine seqGy rfl rfl ?_
    refine seqP (loadVT rfl rfl rfl rfl) rfl ?_
    refine seqGy rfl rfl ?_
    refine seqP (moveT rfl) rfl ?_
    refine seqGy rfl rfl ?_
    refine seqP (intTT rfl rfl rfl) rfl ?_
    refine seqP (pickNT rfl rfl) rfl ?_
    refine hJ 5 _ ?_
    exact ⟨.inl rfl, .inl rfl, .inl rfl, .inl rfl, .inr (congrArg (fun b => AV.d (D.v (Value.bool b))) g19), rfl⟩
  · -- left
    refine seqGn rfl rfl ?_
    refine seqGn rfl rfl ?_
    refine seqGn rfl rfl ?_
    refine seqP (pickYT rfl rfl) rfl ?_
    refine hJ 5 _ ?_
    exact ⟨.inl rfl, .inl rfl, .inl rfl, .inl rfl, .inr (congrArg (fun b => AV.d (D.v (Value.bool b))) g19), rfl⟩
  refine seqP (moveT rfl) rfl ?_
  refine seqM 4 (g := 30) (x := ?_) rfl rfl (fun Q g25 hJ => ?_) (fun Q g25 hJ => ?_) ?_
  rotate_left 1
  · -- taken
    refine seqP (fieldPT rfl rfl rfl) rfl ?_
    refine seqGy rfl rfl ?_
    refine seqP (loadVT rfl rfl rfl rfl) rfl ?_
    refine seqGy rfl rfl ?_
    refine seqP (moveT rfl) rfl ?_
    refine seqGy rfl rfl ?_
    refine seqP (callT rfl rfl rfl (callB_of Try.func155 rfl) (sp155 s.list hl) trivial) rfl ?_
    refine seqP (pickNT rfl rfl) rfl ?_
    refine hJ 5 _ ?_
    exact ⟨.inl rfl, .inl rfl, .inl rfl, .inl rfl, .inr (congrArg (fun b => AV.d (D.v (Value.bool b))) g25), rfl⟩
  · -- left
    refine seqGn rfl rfl ?_
    refine seqGn rfl rfl ?_
    refine seqGn rfl rfl ?_
    refine seqP (pickYT rfl rfl) rfl ?_
    refine hJ 5 _ ?_
    exact ⟨.inl rfl, .inl rfl, .inl rfl, .inl rfl, .inr (congrArg (fun b => AV.d (D.v (Value.bool b))) g25), rfl⟩
  refine ops_nil ?_
  refine awp_if rfl (fun h30 => ?_) (fun h30 => ?_)
  · -- yes
    simp only [mOr] at h30
    refine awp_seq ?_
    refine awp_region ?_
    refine seqP (assignT rfl) rfl ?_
    refine ops_nil ?_
    refine awp_ret ?_
    refine ret_plain (resl_tmp rfl resl_nil) ?_ rfl
    simp only [ckS, if_pos (show ckBad s = true from h30)]; rfl
  · -- no
    simp only [mOr] at h30
    refine awp_skip ?_
    refine awp_seq ?_
    refine awp_region ?_
    refine seqP (assignT rfl) rfl ?_
    refine ops_nil ?_
    refine awp_ret ?_
    refine ret_plain (resl_tmp rfl resl_nil) ?_ rfl
    have h1 : ¬ ckBad s = true := by rw [show ckBad s = false from h30]; simp
    simp only [ckS, if_neg h1]; rfl

end Go.Proofs.Ytencghlmckbmlaa
