/- Walks: tame, SameItems, wispFlow.items (printed by gen.py). -/
import Derived.Test.YtencghlmckbmlaaQueue4
import Derived.Test.YtencghlmckbmlaaAir3
import Derived.Test.YtencghlmckbmlaaEq
set_option linter.unusedVariables false
set_option linter.unusedSimpArgs false
set_option maxRecDepth 100000
namespace Go.Proofs.Ytencghlmckbmlaa
open Go Go.RowKit

structure Mv where
  kind : Int
  wait : Int
  n : Int
deriving Inhabited

def encMv (m : Mv) : List D := [.v (.int .u8 m.kind), vi m.wait, vi m.n]
def mvBad (m : Mv) : Bool := decide (m.wait < 0) || decide (m.wait > 1000000) || decide (m.n < 0)
def tameS (l : List Mv) (most : Int) : Bool := decide ((l.length : Int) ≤ most) && !l.any mvBad

theorem eq_item (x y : Item) : eqNums [(.i64, x.id), (.i64, x.bytes), (.i64, x.at_)] [(.i64, y.id), (.i64, y.bytes), (.i64, y.at_)] = decide (x = y) := by
  obtain ⟨a, b, c⟩ := x
  obtain ⟨a', b', c'⟩ := y
  simp only [eqNums, Bool.and_true, Item.mk.injEq, Bool.decide_and]
  rfl

def backI (later names : Int) (x : Item) : Item := ⟨x.id - names, x.bytes, x.at_ - later⟩


theorem sp17 (l : List Mv) (most : Int) (hl : l.length ≤ 9223372036854775807) : Spec Try.prog 17 [.d (.s (l.map encMv)), .d (vi most)] [] (.d (vb (tameS l most))) [] [] := by
  refine enter 44 [] Try.func17 rfl rfl blOk_nil rfl rfl fun X w0 E0 => ?_
  refine awp_seq ?_
  refine awp_region ?_
  refine seqP (assignT rfl) rfl ?_
  refine ops_nil ?_
  refine awp_seq ?_
  refine awp_seq ?_
  refine awp_region ?_
  refine seqP (assignT rfl) rfl ?_
  refine ops_nil ?_
  refine awp_block ?_
  refine awp_loop (ι := Nat) (fun p => ⟨[(0, .d (.s (l.map encMv))), (1, .d (vi most)), (5, .d (vi (p : Nat)))], []⟩) (fun p => p ≤ l.length ∧ (l.take p).any mvBad = false) (fun p => l.length - p) 0 ⟨Nat.zero_le _, by simp⟩ (turn_sub ⟨⟨rfl, rfl, rfl, trivial⟩, trivial⟩) (fun p hP => ?_)
  refine awp_seq ?_
  refine awp_seq ?_
  refine awp_region ?_
  refine seqP (moveT rfl) rfl ?_
  refine seqP (moveT rfl) rfl ?_
  refine seqP (lenRT rfl rfl (List.length_map ..)) rfl ?_
  refine seqP (intTT rfl rfl rfl) rfl ?_
  refine seqP (moveT rfl) rfl ?_
  refine seqM 4 (g := 15) (x := ?_) rfl rfl (fun Q g10 hJ => ?_) (fun Q g10 hJ => ?_) ?_
  rotate_left 1
  · -- taken
    refine seqP (moveT rfl) rfl ?_
    refine seqGy rfl rfl ?_
    refine seqP (lenRT rfl rfl (List.length_map ..)) rfl ?_
    refine seqGy rfl rfl ?_
    refine seqP (moveT rfl) rfl ?_
    refine seqGy rfl rfl ?_
    refine seqP (intTT rfl rfl rfl) rfl ?_
    refine seqP (pickYT rfl rfl) rfl ?_
    refine hJ 5 _ ?_
    exact ⟨.inl rfl, .inl rfl, .inl rfl, .inl rfl, .inr (congrArg (fun b => AV.d (D.v (Value.bool b))) g10), rfl⟩
  · -- left
    refine seqGn rfl rfl ?_
    refine seqGn rfl rfl ?_
    refine seqGn rfl rfl ?_
    refine seqP (pickNT rfl rfl) rfl ?_
    refine hJ 5 _ ?_
    exact ⟨.inl rfl, .inl rfl, .inl rfl, .inl rfl, .inr (congrArg (fun b => AV.d (D.v (Value.bool b))) g10), rfl⟩
  refine ops_nil ?_
  refine awp_if rfl (fun h15 => ?_) (fun h15 => ?_)
  · -- yes
    try simp only [mOr, mAnd, decide_eq_true_eq, decide_eq_false_iff_not, beq_iff_eq, beq_eq_false_iff_ne, bne_iff_ne, ne_eq, bne_eq_false_iff_eq, Bool.or_eq_true, Bool.or_eq_false_iff, Bool.and_eq_true, Bool.and_eq_false_iff, Bool.not_eq_true', Bool.not_eq_false', Int.not_lt, Int.not_le, gt_iff_lt, ge_iff_le] at h15
    refine awp_skip ?_
    refine awp_seq ?_
    refine awp_block ?_
    refine awp_seq ?_
    refine awp_region ?_
    obtain ⟨x, hx⟩ : ∃ x, l[p]? = some x := ⟨_, List.getElem?_eq_getElem (by omega)⟩
    refine seqP (moveT rfl) rfl ?_
    refine seqP (moveT rfl) rfl ?_
    refine seqP (indexRT rfl rfl rfl (by omega) (idx_map hx) rfl) rfl ?_
    refine seqP (fieldRT rfl rfl rfl) rfl ?_
    refine seqP (loadRT rfl rfl rfl) rfl ?_
    refine seqP (intTT rfl rfl rfl) rfl ?_
    refine seqP (moveT rfl) rfl ?_
    refine seqM 6 (g := 31) (x := ?_) rfl rfl (fun Q g24 hJ => ?_) (fun Q g24 hJ => ?_) ?_
    rotate_left 1
    · -- taken
      refine seqP (moveT rfl) rfl ?_
      refine seqGy rfl rfl ?_
      refine seqP (moveT rfl) rfl ?_
      refine seqGy rfl rfl ?_
      refine seqP (indexRT rfl rfl rfl (by omega) (idx_map hx) rfl) rfl ?_
      refine seqGy rfl rfl ?_
      refine seqP (fieldRT rfl rfl rfl) rfl ?_
      refine seqGy rfl rfl ?_
      refine seqP (loadRT rfl rfl rfl) rfl ?_
      refine seqGy rfl rfl ?_
      refine seqP (intTT rfl rfl rfl) rfl ?_
      refine seqP (pickNT rfl rfl) rfl ?_
      refine hJ 7 _ ?_
      exact ⟨.inl rfl, .inl rfl, .inl rfl, .inl rfl, .inl rfl, .inl rfl, .inr (congrArg (fun b => AV.d (D.v (Value.bool b))) g24), rfl⟩
    · -- left
      refine seqGn rfl rfl ?_
      refine seqGn rfl rfl ?_
      refine seqGn rfl rfl ?_
      refine seqGn rfl rfl ?_
      refine seqGn rfl rfl ?_
      refine seqP (pickYT rfl rfl) rfl ?_
      refine hJ 7 _ ?_
      exact ⟨.inl rfl, .inl rfl, .inl rfl, .inl rfl, .inl rfl, .inl rfl, .inr (congrArg (fun b => AV.d (D.v (Value.bool b))) g24), rfl⟩
    refine seqP (moveT rfl) rfl ?_
    refine seqM 6 (g := 39) (x := ?_) rfl rfl (fun Q g32 hJ => ?_) (fun Q g32 hJ => ?_) ?_
    rotate_left 1
    · -- taken
      refine seqP (moveT rfl) rfl ?_
      refine seqGy rfl rfl ?_
      refine seqP (moveT rfl) rfl ?_
      refine seqGy rfl rfl ?_
      refine seqP (indexRT rfl rfl rfl (by omega) (idx_map hx) rfl) rfl ?_
      refine seqGy rfl rfl ?_
      refine seqP (fieldRT rfl rfl rfl) rfl ?_
      refine seqGy rfl rfl ?_
      refine seqP (loadRT rfl rfl rfl) rfl ?_
      refine seqGy rfl rfl ?_
      refine seqP (intTT rfl rfl rfl) rfl ?_
      refine seqP (pickNT rfl rfl) rfl ?_
      refine hJ 7 _ ?_
      exact ⟨.inl rfl, .inl rfl, .inl rfl, .inl rfl, .inl rfl, .inl rfl, .inr (congrArg (fun b => AV.d (D.v (Value.bool b))) g32), rfl⟩
    · -- left
      refine seqGn rfl rfl ?_
      refine seqGn rfl rfl ?_
      refine seqGn rfl rfl ?_
      refine seqGn rfl rfl ?_
      refine seqGn rfl rfl ?_
      refine seqP (pickYT rfl rfl) rfl ?_
      refine hJ 7 _ ?_
      exact ⟨.inl rfl, .inl rfl, .inl rfl, .inl rfl, .inl rfl, .inl rfl, .inr (congrArg (fun b => AV.d (D.v (Value.bool b))) g32), rfl⟩
    refine ops_nil ?_
    refine awp_if rfl (fun h39 => ?_) (fun h39 => ?_)
    · -- yes
      simp only [mOr] at h39
      replace h39 : mvBad x = true := h39
      refine awp_seq ?_
      refine awp_region ?_
      refine seqP (assignT rfl) rfl ?_
      refine ops_nil ?_
      refine awp_ret ?_
      refine ret_plain (resl_tmp rfl resl_nil) ?_ rfl
      have h1 := (any_take hx hP.2 h39).1
      simp only [tameS, h1, Bool.not_true, Bool.and_false]; rfl
    · -- no
      simp only [mOr] at h39
      replace h39 : mvBad x = false := h39
      refine awp_skip ?_
      refine awp_region ?_
      refine seqP (moveT rfl) rfl ?_
      refine seqP (intnT rfl rfl rfl (wrap_succ (by omega))) rfl ?_
      refine seqP (assignT rfl) rfl ?_
      refine ops_nil ?_
      refine ⟨(p + 1), ⟨by omega, any_take_succ hx hP.2 h39⟩, (turn_sub ⟨⟨rfl, rfl, rfl, trivial⟩, trivial⟩), by show l.length - (p + 1) < l.length - p; omega⟩
  · -- no
    try simp only [mOr, mAnd, decide_eq_true_eq, decide_eq_false_iff_not, beq_iff_eq, beq_eq_false_iff_ne, bne_iff_ne, ne_eq, bne_eq_false_iff_eq, Bool.or_eq_true, Bool.or_eq_false_iff, Bool.and_eq_true, Bool.and_eq_false_iff, Bool.not_eq_true', Bool.not_eq_false', Int.not_lt, Int.not_le, gt_iff_lt, ge_iff_le] at h15
    refine awp_exit ?_
    refine awp_seq ?_
    refine awp_region ?_
    refine seqP (moveT rfl) rfl ?_
    refine seqP (lenRT rfl rfl (List.length_map ..)) rfl ?_
    refine seqP (moveT rfl) rfl ?_
    refine seqP (intTT rfl rfl rfl) rfl ?_
    refine seqP (assignT rfl) rfl ?_
    refine ops_nil ?_
    refine awp_ret ?_
    refine ret_plain (resl_tmp rfl resl_nil) ?_ rfl
    have h2 : tameS l most = decide ((l.length : Int) ≤ most) := by
      by_cases h : (l.length : Int) ≤ most
      · have h3 := hP.2
        rw [List.take_of_length_le (by omega)] at h3
        simp only [tameS, h3, h, decide_true, Bool.not_false, Bool.and_self]
      · simp only [tameS, h, decide_false, Bool.false_and]
    rw [h2]; rfl

theorem sp32 (l m : List Item) (hl : l.length ≤ 100000000) (hm : m.length ≤ 100000000) : Spec Try.prog 32 [.d (.s (l.map encItem)), .d (.s (m.map encItem))] [] (.d (vb (decide (l = m)))) [] [] := by
  refine enter 26 [] Try.func32 rfl rfl blOk_nil rfl rfl fun X w0 E0 => ?_
  refine awp_seq ?_
  refine awp_region ?_
  refine seqP (assignT rfl) rfl ?_
  refine ops_nil ?_
  refine awp_seq ?_
  refine awp_seq ?_
  refine awp_region ?_
  refine seqP (moveT rfl) rfl ?_
  refine seqP (lenRT rfl rfl (List.length_map ..)) rfl ?_
  refine seqP (moveT rfl) rfl ?_
  refine seqP (lenRT rfl rfl (List.length_map ..)) rfl ?_
  refine seqP (intTT rfl rfl rfl) rfl ?_
  refine ops_nil ?_
  refine awp_if rfl (fun h10 => ?_) (fun h10 => ?_)
  · -- yes
    have hne : l.length ≠ m.length := fun h => by simp [h] at h10
    refine awp_seq ?_
    refine awp_region ?_
    refine seqP (assignT rfl) rfl ?_
    refine ops_nil ?_
    refine awp_ret ?_
    refine ret_plain (resl_tmp rfl resl_nil) ?_ rfl
    have h1 : decide (l = m) = false := by simp only [decide_eq_false_iff_not]; intro h; exact hne (by rw [h])
    rw [h1]; rfl
  · -- no
    simp only [bne_eq_false_iff_eq] at h10
    have hlm : l.length = m.length := by omega
    refine awp_skip ?_
    refine awp_seq ?_
    refine awp_seq ?_
    refine awp_region ?_
    refine seqP (assignT rfl) rfl ?_
    refine ops_nil ?_
    refine awp_block ?_
    refine awp_loop (ι := Nat) (fun p => ⟨[(0, .d (.s (l.map encItem))), (1, .d (.s (m.map encItem))), (5, .d (vi (p : Nat)))], []⟩) (fun p => p ≤ l.length ∧ l.take p = m.take p) (fun p => l.length - p) 0 ⟨Nat.zero_le _, by simp⟩ (turn_sub ⟨⟨rfl, rfl, rfl, trivial⟩, trivial⟩) (fun p hP => ?_)
    refine awp_seq ?_
    refine awp_seq ?_
    refine awp_region ?_
    refine seqP (moveT rfl) rfl ?_
    refine seqP (moveT rfl) rfl ?_
    refine seqP (lenRT rfl rfl (List.length_map ..)) rfl ?_
    refine seqP (intTT rfl rfl rfl) rfl ?_
    refine ops_nil ?_
    refine awp_if rfl (fun h14 => ?_) (fun h14 => ?_)
    · -- yes
      try simp only [mOr, mAnd, decide_eq_true_eq, decide_eq_false_iff_not, beq_iff_eq, beq_eq_false_iff_ne, bne_iff_ne, ne_eq, bne_eq_false_iff_eq, Bool.or_eq_true, Bool.or_eq_false_iff, Bool.and_eq_true, Bool.and_eq_false_iff, Bool.not_eq_true', Bool.not_eq_false', Int.not_lt, Int.not_le, gt_iff_lt, ge_iff_le] at h14
      refine awp_skip ?_
      refine awp_seq ?_
      refine awp_block ?_
      refine awp_seq ?_
      obtain ⟨x, hx⟩ : ∃ x, l[p]? = some x := ⟨_, List.getElem?_eq_getElem (by omega)⟩
      obtain ⟨y, hy⟩ : ∃ y, m[p]? = some y := ⟨_, List.getElem?_eq_getElem (by omega)⟩
      refine awp_any [0, 0, 3, 7, 0, 0, 48, 112, 255] rfl ?_
      refine .step (rb := []) (wb := []) (ml := []) (moveT rfl) rfl rfl rfl rfl rfl trivial ?_
      refine .step (rb := []) (wb := []) (ml := []) (moveT rfl) rfl rfl rfl rfl rfl trivial ?_
      refine .step (rb := []) (wb := []) (ml := []) (indexRT rfl rfl rfl (by omega) (idx_map hx) rfl) rfl rfl rfl rfl rfl trivial ?_
      refine .step (rb := []) (wb := []) (ml := []) (loadRsT rfl rfl rfl rfl rfl) rfl rfl rfl rfl rfl trivial ?_
      refine .step (rb := []) (wb := []) (ml := []) (moveT rfl) rfl rfl rfl rfl rfl trivial ?_
      refine .step (rb := []) (wb := []) (ml := []) (moveT rfl) rfl rfl rfl rfl rfl trivial ?_
      refine .step (rb := []) (wb := []) (ml := []) (indexRT rfl rfl rfl (by omega) (idx_map hy) rfl) rfl rfl rfl rfl rfl trivial ?_
      refine .step (rb := []) (wb := []) (ml := []) (loadRsT rfl rfl rfl rfl rfl) rfl rfl rfl rfl rfl trivial ?_
      refine .step (rb := []) (wb := []) (ml := []) (neqST flat195 size195 rfl rfl rfl rfl rfl rfl) rfl rfl rfl rfl rfl trivial ?_
      refine .done (by decide +kernel) ?_
      refine awp_if rfl (fun h25 => ?_) (fun h25 => ?_)
      · -- yes
        rw [eq_item] at h25
        have hxy : x ≠ y := by simpa using h25
        refine awp_seq ?_
        refine awp_region ?_
        refine seqP (assignT rfl) rfl ?_
        refine ops_nil ?_
        refine awp_ret ?_
        refine ret_plain (resl_tmp rfl resl_nil) ?_ rfl
        have h1 : decide (l = m) = false := by simp only [decide_eq_false_iff_not]; intro h; rw [h, hy] at hx; exact hxy (Option.some.inj hx).symm
        rw [h1]; rfl
      · -- no
        rw [eq_item] at h25
        have hxy : x = y := by simpa using h25
        refine awp_skip ?_
        refine awp_region ?_
        refine seqP (moveT rfl) rfl ?_
        refine seqP (intnT rfl rfl rfl (wrap_succ (by omega))) rfl ?_
        refine seqP (assignT rfl) rfl ?_
        refine ops_nil ?_
        refine ⟨(p + 1), ⟨by omega, by rw [List.take_add_one, List.take_add_one, hx, hy, hP.2, hxy]⟩, (turn_sub ⟨⟨rfl, rfl, rfl, trivial⟩, trivial⟩), by show l.length - (p + 1) < l.length - p; omega⟩
    · -- no
      try simp only [mOr, mAnd, decide_eq_true_eq, decide_eq_false_iff_not, beq_iff_eq, beq_eq_false_iff_ne, bne_iff_ne, ne_eq, bne_eq_false_iff_eq, Bool.or_eq_true, Bool.or_eq_false_iff, Bool.and_eq_true, Bool.and_eq_false_iff, Bool.not_eq_true', Bool.not_eq_false', Int.not_lt, Int.not_le, gt_iff_lt, ge_iff_le] at h14
      refine awp_exit ?_
      refine awp_seq ?_
      refine awp_region ?_
      refine seqP (assignT rfl) rfl ?_
      refine ops_nil ?_
      refine awp_ret ?_
      refine ret_plain (resl_tmp rfl resl_nil) ?_ rfl
      have h1 : decide (l = m) = true := by
        have := hP.2
        rw [List.take_of_length_le (by omega), List.take_of_length_le (by omega)] at this
        simp [this]
      rw [h1]; rfl

theorem sp33 (ts rows : List (List D)) (turn first later names : Int) (n : Nat) (l : List Item) (hl : l.length ≤ 100000000) (h1 : 0 ≤ later) (h2 : later ≤ 1099511627776) (h3 : 0 ≤ names) (h4 : names ≤ 1000000)
    (hit : ∀ x ∈ l, -1099511627776 ≤ x.id ∧ x.id ≤ 1099511627776 ∧ 0 ≤ x.at_ ∧ x.at_ ≤ 1099511627776) : Spec Try.prog 33 [.ptr 9001 0 0 0, .d (.s (l.map encItem))] [(9001, some (.var [.d (.s ts), .d (vi turn), .own 9002 0 3 n, .d (vi first), .d (vi later), .d (vi names)])), (9002, some (.row 3 rows))] (.own 33500 0 3 l.length)
    [(33500, some (.row 3 ((l.map (backI later names)).map encItem)))] [33500] := by
  refine enter 36 [9001, 9002] Try.func33 rfl rfl (blOk_of rfl rfl ⟨rfl, rfl, trivial⟩) rfl rfl fun X w0 E0 => ?_
  refine awp_seq ?_
  refine awp_region ?_
  refine seqP (assignT rfl) rfl ?_
  refine ops_nil ?_
  refine awp_seq ?_
  refine awp_region ?_
  refine seqP (assignT rfl) rfl ?_
  refine ops_nil ?_
  refine awp_seq ?_
  refine awp_seq ?_
  refine awp_turn (turn_bind 5 33500 3 (by rfl) (by rfl)) ?_
  refine awp_region ?_
  refine seqP (moveT rfl) rfl ?_
  refine seqP (lenRT rfl rfl (List.length_map ..)) rfl ?_
  refine seqP (moveT rfl) rfl ?_
  refine ops_nil ?_
  refine awp_block ?_
  refine awp_loop (ι := Nat) (fun p => ⟨[(0, .ptr 9001 0 0 0), (5, .own 33500 0 3 p), (8, .d (.s (l.map encItem))), (9, .d (vi l.length)), (10, .d (vi (p : Nat)))], [(9001, some (.var [.d (.s ts), .d (vi turn), .own 9002 0 3 n, .d (vi first), .d (vi later), .d (vi names)])), (9002, some (.row 3 rows)), (33500, some (.row 3 (((l.take p).map (backI later names)).map encItem)))]⟩) (fun p => p ≤ l.length) (fun p => l.length - p) 0 (Nat.zero_le _) (turn_sub ⟨⟨rfl, rfl, rfl, rfl, rfl, trivial⟩, ⟨rfl, rfl, rfl, trivial⟩⟩) (fun p hP => ?_)
  refine awp_seq ?_
  refine awp_region ?_
  refine seqP (intTT rfl rfl rfl) rfl ?_
  refine ops_nil ?_
  refine awp_seq ?_
  refine awp_if rfl (fun h11 => ?_) (fun h11 => ?_)
  · -- yes
    try simp only [mOr, mAnd, decide_eq_true_eq, decide_eq_false_iff_not, beq_iff_eq, beq_eq_false_iff_ne, bne_iff_ne, ne_eq, bne_eq_false_iff_eq, Bool.or_eq_true, Bool.or_eq_false_iff, Bool.and_eq_true, Bool.and_eq_false_iff, Bool.not_eq_true', Bool.not_eq_false', Int.not_lt, Int.not_le, gt_iff_lt, ge_iff_le] at h11
    refine awp_skip ?_
    refine awp_seq ?_
    refine awp_block ?_
    refine awp_seq ?_
    refine awp_region ?_
    obtain ⟨x, hx⟩ : ∃ x, l[p]? = some x := ⟨_, List.getElem?_eq_getElem (by omega)⟩
    have hxb := hit x (List.mem_of_getElem? hx)
    refine seqP (indexRT rfl rfl rfl (by omega) (idx_map hx) rfl) rfl ?_
    refine seqP (loadRsT rfl rfl rfl rfl rfl) rfl ?_
    refine seq1 (allocT rfl rfl) rfl rfl ?_
    refine seq0 (storeVT rfl rfl rfl rfl rfl rfl rfl) ?_
    refine ops_nil ?_
    refine awp_seq ?_
    refine awp_any [0, 1, 0, 4, 12, 28, 63, 0, 128, 0, 512, 1536, 3584, 8064, 511, 16895, 65535, 131071] rfl ?_
    refine .step (rb := []) (wb := []) (ml := [7]) (fieldPT rfl rfl rfl) rfl rfl rfl rfl rfl trivial ?_
    refine .step (rb := [7]) (wb := []) (ml := []) (loadVT rfl rfl rfl rfl) rfl rfl rfl rfl rfl trivial ?_
    refine .step (rb := []) (wb := []) (ml := [9001]) (moveT rfl) rfl rfl rfl rfl rfl trivial ?_
    refine .step (rb := []) (wb := []) (ml := [9001]) (nilPT rfl) rfl rfl rfl rfl rfl trivial ?_
    refine .step (rb := []) (wb := []) (ml := [9001]) (fieldPT rfl rfl rfl) rfl rfl rfl rfl rfl trivial ?_
    refine .step (rb := [9001]) (wb := []) (ml := []) (loadVT rfl rfl rfl rfl) rfl rfl rfl rfl rfl trivial ?_
    refine .step (rb := []) (wb := []) (ml := []) (intnT rfl rfl rfl (wrap_i64 ⟨by omega, by omega⟩)) rfl rfl rfl rfl rfl trivial ?_
    refine .step (rb := []) (wb := []) (ml := [7]) (fieldPT rfl rfl rfl) rfl rfl rfl rfl rfl trivial ?_
    refine .step (rb := [7]) (wb := []) (ml := []) (loadVT rfl rfl rfl rfl) rfl rfl rfl rfl rfl trivial ?_
    refine .step (rb := []) (wb := []) (ml := [9001]) (moveT rfl) rfl rfl rfl rfl rfl trivial ?_
    refine .step (rb := []) (wb := []) (ml := [9001]) (nilPT rfl) rfl rfl rfl rfl rfl trivial ?_
    refine .step (rb := []) (wb := []) (ml := [9001]) (fieldPT rfl rfl rfl) rfl rfl rfl rfl rfl trivial ?_
    refine .step (rb := [9001]) (wb := []) (ml := []) (loadVT rfl rfl rfl rfl) rfl rfl rfl rfl rfl trivial ?_
    refine .step (rb := []) (wb := []) (ml := []) (intnT rfl rfl rfl (wrap_i64 ⟨by omega, by omega⟩)) rfl rfl rfl rfl rfl trivial ?_
    refine .step (rb := []) (wb := []) (ml := [7]) (fieldPT rfl rfl rfl) rfl rfl rfl rfl rfl trivial ?_
    refine .step (rb := [7]) (wb := [7]) (ml := []) (storeVT rfl rfl rfl rfl rfl rfl rfl) rfl rfl rfl rfl rfl ⟨rfl, trivial⟩ ?_
    refine .step (rb := []) (wb := []) (ml := [7]) (fieldPT rfl rfl rfl) rfl rfl rfl rfl rfl trivial ?_
    refine .step (rb := [7]) (wb := [7]) (ml := []) (storeVT rfl rfl rfl rfl rfl rfl rfl) rfl rfl rfl rfl rfl ⟨rfl, trivial⟩ ?_
    refine .done (by decide +kernel) ?_
    refine awp_region ?_
    refine seqP (moveT rfl) rfl ?_
    refine seqP (loadVsT rfl rfl rfl rfl) rfl ?_
    refine seqP (litT rfl rfl rfl rfl rfl rfl rfl rfl) rfl ?_
    refine seq2 (appendT (b' := 33) rfl rfl rfl rfl rfl rfl (by simp only [List.length_map, List.length_take]; omega) (fun row h => by simp at h; subst h; rfl) (show p + 1 = p + 1 from rfl) (show _ = ((l.take (p + 1)).map (backI later names)).map encItem by rw [List.map_map, List.map_map]; exact take_map_succ (f := encItem ∘ backI later names) hx) (by omega) (by omega)) rfl rfl ?_
    refine seqP (assignT rfl) rfl ?_
    refine ops_nil ?_
    refine awp_region ?_
    refine seqP (intnT rfl rfl rfl (wrap_succ (by omega))) rfl ?_
    refine seqP (moveT rfl) rfl ?_
    refine ops_nil ?_
    refine ⟨(p + 1), (by show p + 1 ≤ _; omega), (turn_ren (fun n => bif Nat.beq n 33500 then 33 else n) ⟨rfl, rfl, rfl, rfl, rfl, trivial⟩ ⟨rfl, rfl, rfl, trivial⟩ rfl rfl), by show l.length - (p + 1) < l.length - p; omega⟩
  · -- no
    try simp only [mOr, mAnd, decide_eq_true_eq, decide_eq_false_iff_not, beq_iff_eq, beq_eq_false_iff_ne, bne_iff_ne, ne_eq, bne_eq_false_iff_eq, Bool.or_eq_true, Bool.or_eq_false_iff, Bool.and_eq_true, Bool.and_eq_false_iff, Bool.not_eq_true', Bool.not_eq_false', Int.not_lt, Int.not_le, gt_iff_lt, ge_iff_le] at h11
    refine awp_exit ?_
    refine awp_seq ?_
    refine awp_region ?_
    refine seqP (moveT rfl) rfl ?_
    refine seqP (assignT rfl) rfl ?_
    obtain rfl : p = l.length := by omega
    simp only [List.take_length]
    refine ops_nil ?_
    refine awp_ret ?_
    refine ret_blocks (resl_tmp rfl resl_nil) ?_ rfl ⟨rfl, rfl, rfl, trivial⟩ ⟨.inr rfl, .inr rfl, trivial⟩
    rfl

end Go.Proofs.Ytencghlmckbmlaa
