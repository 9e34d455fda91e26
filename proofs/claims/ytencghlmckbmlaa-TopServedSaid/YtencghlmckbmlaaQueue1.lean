/- Walks: queue (printed by gen.py). -/
import Derived.Test.YtencghlmckbmlaaAny
set_option linter.unusedVariables false
set_option linter.unusedSimpArgs false
set_option maxRecDepth 100000
namespace Go.Proofs.Ytencghlmckbmlaa
open Go Go.RowKit

structure Item where
  id : Int
  bytes : Int
  at_ : Int
deriving Inhabited, DecidableEq

def encItem (x : Item) : List D := [vi x.id, vi x.bytes, vi x.at_]

structure Fifo where
  items : List Item
  until_ : Int
  runs : Int

def encFifo (q : Fifo) : List D := [.s (q.items.map encItem), vi q.until_, vi q.runs]
def Fifo.av (q : Fifo) : AV := .agg [.d (.s (q.items.map encItem)), .d (vi q.until_), .d (vi q.runs)]

def latestS (l : List Item) : Int := match l.getLast? with | some x => x.at_ | none => 0



theorem sp209 (q : Fifo) (hl : q.items.length ≤ 100000000) : Spec Try.prog 209 [q.av] [] (.d (vi (latestS q.items))) [] [] := by
  refine enter 16 [] Try.func209 rfl rfl blOk_nil rfl rfl fun X w0 E0 => ?_
  refine awp_seq ?_
  refine awp_region ?_
  refine seq1 (boxT rfl rfl rfl) rfl rfl ?_
  refine seqP (assignT rfl) rfl ?_
  refine ops_nil ?_
  refine awp_seq ?_
  refine awp_seq ?_
  refine awp_region ?_
  refine seqP (fieldPT rfl rfl rfl) rfl ?_
  refine seqP (loadVT rfl rfl rfl rfl) rfl ?_
  refine seqP (lenRT rfl rfl (List.length_map ..)) rfl ?_
  refine seqP (intTT rfl rfl rfl) rfl ?_
  refine ops_nil ?_
  refine awp_if rfl (fun h6 => ?_) (fun h6 => ?_)
  · -- yes
    try simp only [mOr, mAnd, decide_eq_true_eq, decide_eq_false_iff_not, beq_iff_eq, beq_eq_false_iff_ne, bne_iff_ne, ne_eq, bne_eq_false_iff_eq, Bool.or_eq_true, Bool.or_eq_false_iff, Bool.and_eq_true, Bool.and_eq_false_iff, Bool.not_eq_true', Bool.not_eq_false', Int.not_lt, Int.not_le, gt_iff_lt, ge_iff_le] at h6
    refine awp_seq ?_
    refine awp_region ?_
    refine seqP (assignT rfl) rfl ?_
    refine ops_nil ?_
    refine awp_ret ?_
    refine ret_plain (resl_tmp rfl resl_nil) ?_ rfl
    show AV.d (vi 0) = _; have : q.items = [] := List.eq_nil_of_length_eq_zero (by omega)
    simp [latestS, this]
  · -- no
    try simp only [mOr, mAnd, decide_eq_true_eq, decide_eq_false_iff_not, beq_iff_eq, beq_eq_false_iff_ne, bne_iff_ne, ne_eq, bne_eq_false_iff_eq, Bool.or_eq_true, Bool.or_eq_false_iff, Bool.and_eq_true, Bool.and_eq_false_iff, Bool.not_eq_true', Bool.not_eq_false', Int.not_lt, Int.not_le, gt_iff_lt, ge_iff_le] at h6
    refine awp_skip ?_
    refine awp_seq ?_
    refine awp_region ?_
    refine seqP (fieldPT rfl rfl rfl) rfl ?_
    refine seqP (loadVT rfl rfl rfl rfl) rfl ?_
    refine seqP (fieldPT rfl rfl rfl) rfl ?_
    refine seqP (loadVT rfl rfl rfl rfl) rfl ?_
    refine seqP (lenRT rfl rfl (List.length_map ..)) rfl ?_
    refine seqP (intnT rfl rfl rfl (wrap_i64 ⟨by omega, by omega⟩)) rfl ?_
    obtain ⟨x, hx⟩ : ∃ x, q.items.getLast? = some x := ⟨_, List.getLast?_eq_some_getLast (fun h => by simp [h] at h6)⟩
    refine seqP (indexRT rfl rfl rfl (by omega) (by rw [List.getElem?_map, show ((q.items.length : Int) - 1).toNat = q.items.length - 1 by omega, ← List.getLast?_eq_getElem?, hx]; rfl) rfl) rfl ?_
    refine seqP (fieldRT rfl rfl rfl) rfl ?_
    refine seqP (loadRT rfl rfl rfl) rfl ?_
    refine seqP (assignT rfl) rfl ?_
    refine ops_nil ?_
    refine awp_ret ?_
    refine ret_plain (resl_tmp rfl resl_nil) ?_ rfl
    simp only [latestS, hx]; rfl

def headBad (q : Fifo) : Bool := decide (q.items.length > (256 : Int)) || decide (q.until_ < 0) || decide (q.until_ > 2199023255552) || decide (q.runs < 0) || decide (q.runs > 256) || (q.until_ == 0 && q.runs != 0)
def itemBad (last : Int) (x : Item) : Bool := decide (x.at_ < last) || decide (x.at_ > 1099511627776) || decide (x.bytes < 0) || decide (x.bytes > 2304)
def itemsOk : Int → List Item → Bool
  | _, [] => true
  | last, x :: r => !itemBad last x && itemsOk x.at_ r
def checkS (q : Fifo) : Int := if headBad q then 8 else if itemsOk 0 q.items then 0 else 8

theorem drop_cons {α : Type} {l : List α} {i : Nat} {x : α} (h : l[i]? = some x) : l.drop i = x :: l.drop (i + 1) := by
  obtain ⟨h1, h2⟩ := List.getElem?_eq_some_iff.1 h
  rw [List.drop_eq_getElem_cons h1, h2]


theorem sp208 (q : Fifo) (hl : q.items.length ≤ 100000000) : Spec Try.prog 208 [q.av] [] (.d (vi (checkS q))) [] [] := by
  refine enter 69 [] Try.func208 rfl rfl blOk_nil rfl rfl fun X w0 E0 => ?_
  refine awp_seq ?_
  refine awp_region ?_
  refine seq1 (boxT rfl rfl rfl) rfl rfl ?_
  refine seqP (assignT rfl) rfl ?_
  refine ops_nil ?_
  refine awp_seq ?_
  refine awp_seq ?_
  refine awp_region ?_
  refine seqP (fieldPT rfl rfl rfl) rfl ?_
  refine seqP (loadVT rfl rfl rfl rfl) rfl ?_
  refine seqP (lenRT rfl rfl (List.length_map ..)) rfl ?_
  refine seqP (intTT rfl rfl rfl) rfl ?_
  refine seqP (moveT rfl) rfl ?_
  refine seqM 3 (g := 14) (x := ?_) rfl rfl (fun Q g10 hJ => ?_) (fun Q g10 hJ => ?_) ?_
  rotate_left 1
  · -- taken
    refine seqP (fieldPT rfl rfl rfl) rfl ?_
    refine seqGy rfl rfl ?_
    refine seqP (loadVT rfl rfl rfl rfl) rfl ?_
    refine seqGy rfl rfl ?_
    refine seqP (intTT rfl rfl rfl) rfl ?_
    refine seqP (pickNT rfl rfl) rfl ?_
    refine hJ 4 _ ?_
    exact ⟨.inl rfl, .inl rfl, .inl rfl, .inr (congrArg (fun b => AV.d (D.v (Value.bool b))) g10), rfl⟩
  · -- left
    refine seqGn rfl rfl ?_
    refine seqGn rfl rfl ?_
    refine seqP (pickYT rfl rfl) rfl ?_
    refine hJ 4 _ ?_
    exact ⟨.inl rfl, .inl rfl, .inl rfl, .inr (congrArg (fun b => AV.d (D.v (Value.bool b))) g10), rfl⟩
  refine seqP (moveT rfl) rfl ?_
  refine seqM 3 (g := 19) (x := ?_) rfl rfl (fun Q g15 hJ => ?_) (fun Q g15 hJ => ?_) ?_
  rotate_left 1
  · -- taken
    refine seqP (fieldPT rfl rfl rfl) rfl ?_
    refine seqGy rfl rfl ?_
    refine seqP (loadVT rfl rfl rfl rfl) rfl ?_
    refine seqGy rfl rfl ?_
    refine seqP (intTT rfl rfl rfl) rfl ?_
    refine seqP (pickNT rfl rfl) rfl ?_
    refine hJ 4 _ ?_
    exact ⟨.inl rfl, .inl rfl, .inl rfl, .inr (congrArg (fun b => AV.d (D.v (Value.bool b))) g15), rfl⟩
  · -- left
    refine seqGn rfl rfl ?_
    refine seqGn rfl rfl ?_
    refine seqP (pickYT rfl rfl) rfl ?_
    refine hJ 4 _ ?_
    exact ⟨.inl rfl, .inl rfl, .inl rfl, .inr (congrArg (fun b => AV.d (D.v (Value.bool b))) g15), rfl⟩
  refine seqP (moveT rfl) rfl ?_
  refine seqM 3 (g := 24) (x := ?_) rfl rfl (fun Q g20 hJ => ?_) (fun Q g20 hJ => ?_) ?_
  rotate_left 1
  · -- taken
    refine seqP (fieldPT rfl rfl rfl) rfl ?_
    refine seqGy rfl rfl ?_
    refine seqP (loadVT rfl rfl rfl rfl) rfl ?_
    refine seqGy rfl rfl ?_
    refine seqP (intTT rfl rfl rfl) rfl ?_
    refine seqP (pickNT rfl rfl) rfl ?_
    refine hJ 4 _ ?_
    exact ⟨.inl rfl, .inl rfl, .inl rfl, .inr (congrArg (fun b => AV.d (D.v (Value.bool b))) g20), rfl⟩
  · -- left
    refine seqGn rfl rfl ?_
    refine seqGn rfl rfl ?_
    refine seqP (pickYT rfl rfl) rfl ?_
    refine hJ 4 _ ?_
    exact ⟨.inl rfl, .inl rfl, .inl rfl, .inr (congrArg (fun b => AV.d (D.v (Value.bool b))) g20), rfl⟩
  refine seqP (moveT rfl) rfl ?_
  refine seqM 3 (g := 29) (x := ?_) rfl rfl (fun Q g25 hJ => ?_) (fun Q g25 hJ => ?_) ?_
  rotate_left 1
  · -- taken
    refine seqP (fieldPT rfl rfl rfl) rfl ?_
    refine seqGy rfl rfl ?_
    refine seqP (loadVT rfl rfl rfl rfl) rfl ?_
    refine seqGy rfl rfl ?_
    refine seqP (intTT rfl rfl rfl) rfl ?_
    refine seqP (pickNT rfl rfl) rfl ?_
    refine hJ 4 _ ?_
    exact ⟨.inl rfl, .inl rfl, .inl rfl, .inr (congrArg (fun b => AV.d (D.v (Value.bool b))) g25), rfl⟩
  · -- left
    refine seqGn rfl rfl ?_
    refine seqGn rfl rfl ?_
    refine seqP (pickYT rfl rfl) rfl ?_
    refine hJ 4 _ ?_
    exact ⟨.inl rfl, .inl rfl, .inl rfl, .inr (congrArg (fun b => AV.d (D.v (Value.bool b))) g25), rfl⟩
  refine seqP (moveT rfl) rfl ?_
  refine seqM 8 (g := 39) (x := ?_) rfl rfl (fun Q g30 hJ => ?_) (fun Q g30 hJ => ?_) ?_
  rotate_left 1
  · -- taken
    refine seqP (fieldPT rfl rfl rfl) rfl ?_
    refine seqGy rfl rfl ?_
    refine seqP (loadVT rfl rfl rfl rfl) rfl ?_
    refine seqGy rfl rfl ?_
    refine seqP (intTT rfl rfl rfl) rfl ?_
    refine seqGy rfl rfl ?_
    refine seqP (moveT rfl) rfl ?_
    refine seqM 3 (g := 38) (x := ?_) rfl rfl (fun Q g34 hJ => ?_) (fun Q g34 hJ => ?_) ?_
    rotate_left 1
    · -- taken
      refine seqP (fieldPT rfl rfl rfl) rfl ?_
      refine seqGy rfl rfl ?_
      refine seqP (loadVT rfl rfl rfl rfl) rfl ?_
      refine seqGy rfl rfl ?_
      refine seqP (intTT rfl rfl rfl) rfl ?_
      refine seqGy rfl rfl ?_
      refine seqP (pickYT rfl rfl) rfl ?_
      refine hJ 4 _ ?_
      exact ⟨.inl rfl, .inl rfl, .inl rfl, .inr (congrArg (fun b => AV.d (D.v (Value.bool b))) g34), rfl⟩
    · -- left
      refine seqGn rfl rfl ?_
      refine seqGn rfl rfl ?_
      refine seqGy rfl rfl ?_
      refine seqP (pickNT rfl rfl) rfl ?_
      refine hJ 4 _ ?_
      exact ⟨.inl rfl, .inl rfl, .inl rfl, .inr (congrArg (fun b => AV.d (D.v (Value.bool b))) g34), rfl⟩
    refine seqP (pickNT rfl rfl) rfl ?_
    refine hJ 6 _ ?_
    exact ⟨.inl rfl, .inl rfl, .inl rfl, .inl rfl, .inl rfl, .inr (congrArg (fun b => AV.d (D.v (Value.bool b))) g30), rfl⟩
  · -- left
    refine seqGn rfl rfl ?_
    refine seqGn rfl rfl ?_
    refine seqGn rfl rfl ?_
    refine seqGo rfl rfl ?_
    refine seqGo rfl rfl ?_
    refine seqGo rfl rfl ?_
    refine seqGn rfl rfl ?_
    refine seqP (pickYT rfl rfl) rfl ?_
    refine hJ 9 _ ?_
    exact ⟨.inl rfl, .inl rfl, .inl rfl, .inl rfl, .inl rfl, .inl rfl, .inl rfl, .inl rfl, .inr (congrArg (fun b => AV.d (D.v (Value.bool b))) g30), rfl⟩
  refine ops_nil ?_
  refine awp_if rfl (fun h39 => ?_) (fun h39 => ?_)
  · -- yes
    simp only [mOr, mAnd, mY] at h39
    replace h39 : headBad q = true := h39
    refine awp_seq ?_
    refine awp_region ?_
    refine seqP (assignT rfl) rfl ?_
    refine ops_nil ?_
    refine awp_ret ?_
    refine ret_plain (resl_tmp rfl resl_nil) ?_ rfl
    simp only [checkS, h39]; rfl
  · -- no
    simp only [mOr, mAnd, mY] at h39
    replace h39 : headBad q = false := h39
    refine awp_skip ?_
    refine awp_seq ?_
    refine awp_region ?_
    refine seqP (assignT rfl) rfl ?_
    refine ops_nil ?_
    refine awp_seq ?_
    refine awp_seq ?_
    refine awp_region ?_
    refine seqP (fieldPT rfl rfl rfl) rfl ?_
    refine seqP (loadVT rfl rfl rfl rfl) rfl ?_
    refine seqP (lenRT rfl rfl (List.length_map ..)) rfl ?_
    refine seqP (moveT rfl) rfl ?_
    refine ops_nil ?_
    refine awp_block ?_
    refine awp_loop (ι := Nat × Int) (fun p => ⟨[(41, .d (.s (q.items.map encItem))), (42, .d (vi q.items.length)), (43, .d (vi (p.1 : Nat))), (3, .d (vi p.2))], []⟩) (fun p => p.1 ≤ q.items.length ∧ itemsOk p.2 (q.items.drop p.1) = itemsOk 0 q.items) (fun p => q.items.length - p.1) (0, 0) ⟨Nat.zero_le _, rfl⟩ (turn_sub ⟨⟨rfl, rfl, rfl, rfl, trivial⟩, trivial⟩) (fun p hP => ?_)
    refine awp_seq ?_
    refine awp_region ?_
    refine seqP (intTT rfl rfl rfl) rfl ?_
    refine ops_nil ?_
    refine awp_seq ?_
    refine awp_if rfl (fun h44 => ?_) (fun h44 => ?_)
    · -- yes
      try simp only [mOr, mAnd, decide_eq_true_eq, decide_eq_false_iff_not, beq_iff_eq, beq_eq_false_iff_ne, bne_iff_ne, ne_eq, bne_eq_false_iff_eq, Bool.or_eq_true, Bool.or_eq_false_iff, Bool.and_eq_true, Bool.and_eq_false_iff, Bool.not_eq_true', Bool.not_eq_false', Int.not_lt, Int.not_le, gt_iff_lt, ge_iff_le] at h44
      refine awp_skip ?_
      refine awp_seq ?_
      refine awp_block ?_
      refine awp_seq ?_
      refine awp_region ?_
      obtain ⟨x, hx⟩ : ∃ x, q.items[p.1]? = some x := ⟨_, List.getElem?_eq_getElem (by omega)⟩
      refine seqP (indexRT rfl rfl rfl (by omega) (idx_map hx) rfl) rfl ?_
      refine seqP (loadRsT rfl rfl rfl rfl rfl) rfl ?_
      refine seq1 (allocT rfl rfl) rfl rfl ?_
      refine seq0 (storeVT rfl rfl rfl rfl rfl rfl rfl) ?_
      refine ops_nil ?_
      refine awp_seq ?_
      refine awp_seq ?_
      refine awp_region ?_
      refine seqP (fieldPT rfl rfl rfl) rfl ?_
      refine seqP (loadVT rfl rfl rfl rfl) rfl ?_
      refine seqP (moveT rfl) rfl ?_
      refine seqP (intTT rfl rfl rfl) rfl ?_
      refine seqP (moveT rfl) rfl ?_
      refine seqM 3 (g := 55) (x := ?_) rfl rfl (fun Q g51 hJ => ?_) (fun Q g51 hJ => ?_) ?_
      rotate_left 1
      · -- taken
        refine seqP (fieldPT rfl rfl rfl) rfl ?_
        refine seqGy rfl rfl ?_
        refine seqP (loadVT rfl rfl rfl rfl) rfl ?_
        refine seqGy rfl rfl ?_
        refine seqP (intTT rfl rfl rfl) rfl ?_
        refine seqP (pickNT rfl rfl) rfl ?_
        refine hJ 4 _ ?_
        exact ⟨.inl rfl, .inl rfl, .inl rfl, .inr (congrArg (fun b => AV.d (D.v (Value.bool b))) g51), rfl⟩
      · -- left
        refine seqGn rfl rfl ?_
        refine seqGn rfl rfl ?_
        refine seqP (pickYT rfl rfl) rfl ?_
        refine hJ 4 _ ?_
        exact ⟨.inl rfl, .inl rfl, .inl rfl, .inr (congrArg (fun b => AV.d (D.v (Value.bool b))) g51), rfl⟩
      refine seqP (moveT rfl) rfl ?_
      refine seqM 3 (g := 60) (x := ?_) rfl rfl (fun Q g56 hJ => ?_) (fun Q g56 hJ => ?_) ?_
      rotate_left 1
      · -- taken
        refine seqP (fieldPT rfl rfl rfl) rfl ?_
        refine seqGy rfl rfl ?_
        refine seqP (loadVT rfl rfl rfl rfl) rfl ?_
        refine seqGy rfl rfl ?_
        refine seqP (intTT rfl rfl rfl) rfl ?_
        refine seqP (pickNT rfl rfl) rfl ?_
        refine hJ 4 _ ?_
        exact ⟨.inl rfl, .inl rfl, .inl rfl, .inr (congrArg (fun b => AV.d (D.v (Value.bool b))) g56), rfl⟩
      · -- left
        refine seqGn rfl rfl ?_
        refine seqGn rfl rfl ?_
        refine seqP (pickYT rfl rfl) rfl ?_
        refine hJ 4 _ ?_
        exact ⟨.inl rfl, .inl rfl, .inl rfl, .inr (congrArg (fun b => AV.d (D.v (Value.bool b))) g56), rfl⟩
      refine seqP (moveT rfl) rfl ?_
      refine seqM 3 (g := 65) (x := ?_) rfl rfl (fun Q g61 hJ => ?_) (fun Q g61 hJ => ?_) ?_
      rotate_left 1
      · -- taken
        refine seqP (fieldPT rfl rfl rfl) rfl ?_
        refine seqGy rfl rfl ?_
        refine seqP (loadVT rfl rfl rfl rfl) rfl ?_
        refine seqGy rfl rfl ?_
        refine seqP (intTT rfl rfl rfl) rfl ?_
        refine seqP (pickNT rfl rfl) rfl ?_
        refine hJ 4 _ ?_
        exact ⟨.inl rfl, .inl rfl, .inl rfl, .inr (congrArg (fun b => AV.d (D.v (Value.bool b))) g61), rfl⟩
      · -- left
        refine seqGn rfl rfl ?_
        refine seqGn rfl rfl ?_
        refine seqP (pickYT rfl rfl) rfl ?_
        refine hJ 4 _ ?_
        exact ⟨.inl rfl, .inl rfl, .inl rfl, .inr (congrArg (fun b => AV.d (D.v (Value.bool b))) g61), rfl⟩
      refine ops_nil ?_
      refine awp_if rfl (fun h65 => ?_) (fun h65 => ?_)
      · -- yes
        simp only [mOr] at h65
        replace h65 : itemBad p.2 x = true := h65
        refine awp_seq ?_
        refine awp_region ?_
        refine seqP (assignT rfl) rfl ?_
        refine ops_nil ?_
        refine awp_ret ?_
        refine ret_plain (resl_tmp rfl resl_nil) ?_ rfl
        have h1 : itemsOk 0 q.items = false := by
          rw [← hP.2, drop_cons hx]; simp only [itemsOk, h65]; rfl
        simp only [checkS, h39, h1]; rfl
      · -- no
        simp only [mOr] at h65
        replace h65 : itemBad p.2 x = false := h65
        refine awp_skip ?_
        refine awp_region ?_
        refine seqP (fieldPT rfl rfl rfl) rfl ?_
        refine seqP (loadVT rfl rfl rfl rfl) rfl ?_
        refine seqP (assignT rfl) rfl ?_
        refine ops_nil ?_
        refine awp_region ?_
        refine seqP (intnT rfl rfl rfl (wrap_succ (by omega))) rfl ?_
        refine seqP (moveT rfl) rfl ?_
        refine ops_nil ?_
        refine ⟨(p.1 + 1, x.at_), ⟨by show p.1 + 1 ≤ _; omega, ?_⟩, (turn_sub ⟨⟨rfl, rfl, rfl, rfl, trivial⟩, trivial⟩), by show _ - (p.1 + 1) < _ - p.1; omega⟩
        have := hP.2
        rw [drop_cons hx] at this
        simp only [itemsOk, h65, Bool.not_false, Bool.true_and] at this
        exact this
    · -- no
      try simp only [mOr, mAnd, decide_eq_true_eq, decide_eq_false_iff_not, beq_iff_eq, beq_eq_false_iff_ne, bne_iff_ne, ne_eq, bne_eq_false_iff_eq, Bool.or_eq_true, Bool.or_eq_false_iff, Bool.and_eq_true, Bool.and_eq_false_iff, Bool.not_eq_true', Bool.not_eq_false', Int.not_lt, Int.not_le, gt_iff_lt, ge_iff_le] at h44
      refine awp_exit ?_
      refine awp_seq ?_
      refine awp_region ?_
      refine seqP (assignT rfl) rfl ?_
      refine ops_nil ?_
      refine awp_ret ?_
      refine ret_plain (resl_tmp rfl resl_nil) ?_ rfl
      have h1 : itemsOk 0 q.items = true := by
        rw [← hP.2, List.drop_eq_nil_of_le (by omega)]; rfl
      simp only [checkS, h39, h1]; rfl

end Go.Proofs.Ytencghlmckbmlaa
