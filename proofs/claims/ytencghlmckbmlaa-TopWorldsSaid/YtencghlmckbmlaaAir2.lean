/- Walks: airtime.twin, New, Charge (printed by gen.py). -/
import Derived.Test.YtencghlmckbmlaaAir1
import Derived.Test.YtencghlmckbmlaaCell
set_option linter.unusedVariables false
set_option linter.unusedSimpArgs false
set_option maxRecDepth 100000
namespace Go.Proofs.Ytencghlmckbmlaa
open Go Go.RowKit

def encInt (w : Int) : List D := [vi w]
def mkL (ws : List Int) : List Share := ws.map fun w => ⟨w, 0⟩
def Shares.zero : Shares := ⟨[], 0⟩
def newS (ws : List Int) : Shares × Int := if ckS ⟨mkL ws, 0⟩ = 0 then (⟨mkL ws, 0⟩, 0) else (.zero, 2)

theorem ck_ok {s : Shares} (h : ckS s = 0) : 1 ≤ s.list.length ∧ s.list.length ≤ 32 ∧ 0 ≤ s.turn ∧ s.turn < s.list.length ∧ s.list.any oddS = false := by
  unfold ckS at h
  split at h
  · cases h
  · rename_i h1
    simp only [ckBad, Bool.or_eq_true, decide_eq_true_eq, not_or] at h1
    refine ⟨by omega, by omega, by omega, by omega, ?_⟩
    cases hc : s.list.any oddS with
    | true => exact absurd hc h1.2
    | false => rfl

theorem odd_ok {x : Share} (h : oddS x = false) : 1 ≤ x.weight ∧ x.weight ≤ 16 ∧ -32767 ≤ x.credit ∧ x.credit ≤ 1000 * x.weight := by
  simp only [oddS, Bool.or_eq_false_iff, decide_eq_false_iff_not] at h
  omega

theorem ck_share {s : Shares} (h : ckS s = 0) {i : Nat} (hi : i < s.list.length) : 1 ≤ (s.list.getD i default).weight ∧ (s.list.getD i default).weight ≤ 16 ∧ -32767 ≤ (s.list.getD i default).credit ∧ (s.list.getD i default).credit ≤ 1000 * (s.list.getD i default).weight := by
  refine odd_ok ?_
  have h1 := List.any_eq_false.1 (ck_ok h).2.2.2.2 (s.list.getD i default) (by rw [List.getD_eq_getElem?_getD, List.getElem?_eq_getElem hi]; exact List.getElem_mem hi)
  simpa using h1

def chargeS (s : Shares) (who air : Int) : Shares × Int :=
  if ckS s = 0 then
    (if who < 0 ∨ who ≥ s.list.length ∨ air < 1 ∨ air > 32767 then (.zero, 2)
    else if (s.list.getD who.toNat default).credit ≤ 0 then (.zero, 20)
    else (⟨s.list.set who.toNat ⟨(s.list.getD who.toNat default).weight, (s.list.getD who.toNat default).credit - air⟩, s.turn⟩, 0))
  else (.zero, ckS s)


theorem sp206 (l : List Share) (hl : l.length ≤ 100000000) : Spec Try.prog 206 [.d (.s (l.map encShare))] [] (.own 206007 0 2 l.length) [(206007, some (.row 2 (l.map encShare)))] [206007] := by
  refine enter 8 [] Try.func206 rfl rfl blOk_nil rfl rfl fun X w0 E0 => ?_
  refine awp_seq ?_
  refine awp_region ?_
  refine seqP (assignT rfl) rfl ?_
  refine ops_nil ?_
  refine awp_seq ?_
  refine awp_seq ?_
  refine awp_region ?_
  refine seqP (moveT rfl) rfl ?_
  refine seqEqNil (k := 0) rfl (sliceT (k := 2) rfl) rfl fun b4 hb4 => ?_
  refine ops_nil ?_
  refine awp_if rfl (fun h4 => ?_) (fun h4 => ?_)
  · -- yes
    have hnil := List.map_eq_nil_iff.1 (hb4 h4); subst hnil
    refine awp_seq ?_
    refine awp_region ?_
    refine seqP (assignT rfl) rfl ?_
    refine ops_turn (turn_bind 2 206007 2 (by rfl) (by rfl)) ?_
    refine ops_nil ?_
    refine awp_ret ?_
    refine ret_blocks (resl_tmp rfl resl_nil) ?_ rfl ⟨rfl, rfl, rfl, trivial⟩ trivial
    rfl
  · -- no
    try simp only [mOr, mAnd, decide_eq_true_eq, decide_eq_false_iff_not, beq_iff_eq, beq_eq_false_iff_ne, bne_iff_ne, ne_eq, bne_eq_false_iff_eq, Bool.or_eq_true, Bool.or_eq_false_iff, Bool.and_eq_true, Bool.and_eq_false_iff, Bool.not_eq_true', Bool.not_eq_false', Int.not_lt, Int.not_le, gt_iff_lt, ge_iff_le] at h4
    refine awp_skip ?_
    refine awp_seq ?_
    refine awp_region ?_
    refine seq1 (lit0T (n' := 5) rfl) rfl rfl ?_
    refine seqP (moveT rfl) rfl ?_
    refine seq2 (appendT (b' := 206007) rfl rfl rfl rfl rfl rfl rfl share_rows ((Nat.zero_add _).trans (List.length_map ..)) (List.nil_append _) (by omega) (by omega)) rfl rfl ?_
    refine seqP (assignT rfl) rfl ?_
    refine ops_nil ?_
    refine awp_ret ?_
    refine ret_blocks (resl_tmp rfl resl_nil) ?_ rfl ⟨rfl, rfl, rfl, trivial⟩ trivial
    rfl

theorem sp146 (s : Shares) (hl : s.list.length ≤ 100000000) : Spec Try.prog 146 [s.av] [] (.ptr 146010 0 0 0) [(146010, some (.var [.own 206007 0 2 s.list.length, .d (vi s.turn)])), (206007, some (.row 2 (s.list.map encShare)))] [146010, 206007] := by
  refine enter 11 [] Try.func146 rfl rfl blOk_nil rfl rfl fun X w0 E0 => ?_
  refine awp_seq ?_
  refine awp_region ?_
  refine seq1 (boxT rfl rfl rfl) rfl rfl ?_
  refine seqP (assignT rfl) rfl ?_
  refine ops_nil ?_
  refine awp_seq ?_
  refine awp_any [0, 1, 3, 0, 8, 31, 63, 127, 255] rfl ?_
  refine .step (rb := []) (wb := []) (ml := [1]) (fieldPT rfl rfl rfl) rfl rfl rfl rfl rfl trivial ?_
  refine .step (rb := [1]) (wb := []) (ml := []) (loadVT rfl rfl rfl rfl) rfl rfl rfl rfl rfl trivial ?_
  refine .step (rb := []) (wb := [206007]) (ml := [206007]) (callT rfl rfl rfl (callB_of Try.func206 rfl) (sp206 s.list hl) trivial) rfl rfl rfl rfl rfl ⟨rfl, trivial⟩ ?_
  refine .step (rb := []) (wb := []) (ml := [1]) (fieldPT rfl rfl rfl) rfl rfl rfl rfl rfl trivial ?_
  refine .step (rb := [1]) (wb := []) (ml := []) (loadVT rfl rfl rfl rfl) rfl rfl rfl rfl rfl trivial ?_
  refine .step (rb := []) (wb := []) (ml := [206007]) (buildT rfl rfl rfl rfl) rfl rfl rfl rfl rfl trivial ?_
  refine .step (rb := []) (wb := []) (ml := [206007]) (buildT rfl rfl rfl rfl) rfl rfl rfl rfl rfl trivial ?_
  refine .step (rb := []) (wb := [146010]) (ml := [146010, 206007]) (boxN 146010 rfl rfl rfl) rfl rfl rfl rfl rfl ⟨rfl, trivial⟩ ?_
  refine .step (rb := []) (wb := []) (ml := [146010]) (assignT rfl) rfl rfl rfl rfl rfl trivial ?_
  refine .done (by decide +kernel) ?_
  refine awp_ret ?_
  refine ret_blocks (resl_tmp rfl resl_nil) ?_ rfl ⟨rfl, rfl, rfl, rfl, rfl, rfl, trivial⟩ trivial
  rfl

theorem sp30 (ws : List Int) (hl : ws.length ≤ 1000000) : Spec Try.prog 30 [.d (.s (ws.map encInt))] [] (.tup [(newS ws).1.av, .d (vi (newS ws).2)]) [] [] := by
  refine enter 26 [] Try.func30 rfl rfl blOk_nil rfl rfl fun X w0 E0 => ?_
  refine awp_seq ?_
  refine awp_region ?_
  refine seq1 (allocT rfl rfl) rfl rfl ?_
  refine seqP (assignT rfl) rfl ?_
  refine ops_nil ?_
  refine awp_seq ?_
  refine awp_region ?_
  refine seq1 (allocT rfl rfl) rfl rfl ?_
  refine ops_nil ?_
  refine awp_seq ?_
  refine awp_seq ?_
  refine awp_turn (turn_bindC 4 0 30500 2 (by rfl) (by rfl) (by rfl) (by rfl)) ?_
  refine awp_region ?_
  refine seqP (moveT rfl) rfl ?_
  refine seqP (lenRT rfl rfl (List.length_map ..)) rfl ?_
  refine seqP (moveT rfl) rfl ?_
  refine ops_nil ?_
  refine awp_block ?_
  refine awp_loop (ι := Nat) (fun p => ⟨[(2, .ptr 2 0 0 0), (4, .ptr 4 0 0 0), (7, .d (.s (ws.map encInt))), (8, .d (vi ws.length)), (9, .d (vi (p : Nat)))], [(2, some (.var [.nil, .d (vi 0)])), (4, some (.var [.own 30500 0 2 p, .d (vi 0)])), (30500, some (.row 2 ((mkL (ws.take p)).map encShare)))]⟩) (fun p => p ≤ ws.length) (fun p => ws.length - p) 0 (Nat.zero_le _) (turn_sub ⟨⟨rfl, rfl, rfl, rfl, rfl, trivial⟩, ⟨rfl, rfl, rfl, trivial⟩⟩) (fun p hP => ?_)
  refine awp_seq ?_
  refine awp_region ?_
  refine seqP (intTT rfl rfl rfl) rfl ?_
  refine ops_nil ?_
  refine awp_seq ?_
  refine awp_if rfl (fun h10 => ?_) (fun h10 => ?_)
  · -- yes
    try simp only [mOr, mAnd, decide_eq_true_eq, decide_eq_false_iff_not, beq_iff_eq, beq_eq_false_iff_ne, bne_iff_ne, ne_eq, bne_eq_false_iff_eq, Bool.or_eq_true, Bool.or_eq_false_iff, Bool.and_eq_true, Bool.and_eq_false_iff, Bool.not_eq_true', Bool.not_eq_false', Int.not_lt, Int.not_le, gt_iff_lt, ge_iff_le] at h10
    refine awp_skip ?_
    refine awp_seq ?_
    refine awp_block ?_
    refine awp_seq ?_
    refine awp_region ?_
    obtain ⟨x, hx⟩ : ∃ x, ws[p]? = some x := ⟨_, List.getElem?_eq_getElem (by omega)⟩
    refine seqP (indexRT rfl rfl rfl (by omega) (idx_map hx) rfl) rfl ?_
    refine seqP (loadRT rfl rfl rfl) rfl ?_
    refine seqP (assignT rfl) rfl ?_
    refine ops_nil ?_
    refine awp_region ?_
    refine seqP (fieldPT rfl rfl rfl) rfl ?_
    refine seqP (loadVT rfl rfl rfl rfl) rfl ?_
    refine seqP (moveT rfl) rfl ?_
    refine seqP (buildT rfl rfl rfl rfl) rfl ?_
    refine seqP (litT rfl rfl rfl rfl rfl rfl rfl rfl) rfl ?_
    refine seq2 (appendT (b' := 18) rfl rfl rfl rfl rfl rfl (by simp only [mkL, List.length_map, List.length_take]; omega) (fun row h => by simp at h; subst h; rfl) (show p + 1 = p + 1 from rfl) (show _ = (mkL (ws.take (p + 1))).map encShare by simp only [mkL, List.map_map]; exact take_map_succ (f := fun w => encShare ⟨w, 0⟩) hx) (by omega) (by omega)) rfl rfl ?_
    refine seqP (fieldPT rfl rfl rfl) rfl ?_
    refine seq0 (storeVT rfl rfl rfl rfl rfl rfl rfl) ?_
    refine ops_nil ?_
    refine awp_region ?_
    refine seqP (intnT rfl rfl rfl (wrap_succ (by omega))) rfl ?_
    refine seqP (moveT rfl) rfl ?_
    refine ops_nil ?_
    refine ⟨(p + 1), (by show p + 1 ≤ _; omega), (turn_ren (fun n => bif Nat.beq n 30500 then 18 else n) ⟨rfl, rfl, rfl, rfl, rfl, trivial⟩ ⟨rfl, rfl, rfl, trivial⟩ rfl rfl), by show ws.length - (p + 1) < ws.length - p; omega⟩
  · -- no
    try simp only [mOr, mAnd, decide_eq_true_eq, decide_eq_false_iff_not, beq_iff_eq, beq_eq_false_iff_ne, bne_iff_ne, ne_eq, bne_eq_false_iff_eq, Bool.or_eq_true, Bool.or_eq_false_iff, Bool.and_eq_true, Bool.and_eq_false_iff, Bool.not_eq_true', Bool.not_eq_false', Int.not_lt, Int.not_le, gt_iff_lt, ge_iff_le] at h10
    refine awp_exit ?_
    refine awp_seq ?_
    refine awp_seq ?_
    refine awp_turn (turn_freezeC 4 0 30500 rfl rfl rfl (by simp only [mkL, List.length_map, List.length_take]; omega) rfl) ?_
    refine awp_region ?_
    refine seqP (loadVsT rfl rfl rfl rfl) rfl ?_
    refine seqP (callT rfl rfl rfl (callB_of Try.func76 rfl) (sp76 ⟨mkL (ws.take p), 0⟩ (by simp only [mkL, List.length_map, List.length_take]; omega)) trivial) rfl ?_
    refine seqP (intTT rfl rfl rfl) rfl ?_
    refine ops_nil ?_
    refine awp_if rfl (fun h23 => ?_) (fun h23 => ?_)
    · -- yes
      have htk : ws.take p = ws := List.take_of_length_le (by omega)
      simp only [bne_iff_ne, ne_eq, htk] at h23
      refine awp_seq ?_
      refine awp_region ?_
      refine seqP (buildT rfl rfl rfl rfl) rfl ?_
      refine seq0 (storeVT rfl rfl rfl rfl rfl rfl rfl) ?_
      refine seqP (assignT rfl) rfl ?_
      refine ops_nil ?_
      refine awp_ret ?_
      refine ret_plain (resl_agg rfl rfl rfl rfl rfl (resl_tmp rfl resl_nil)) ?_ rfl
      simp only [newS, if_neg h23]; rfl
    · -- no
      have htk : ws.take p = ws := List.take_of_length_le (by omega)
      simp only [bne_eq_false_iff_eq, htk] at h23
      refine awp_skip ?_
      refine awp_seq ?_
      refine awp_region ?_
      refine seqP (loadVsT rfl rfl rfl rfl) rfl ?_
      refine seq0 (storeVT rfl rfl rfl rfl rfl rfl rfl) ?_
      refine seqP (assignT rfl) rfl ?_
      refine ops_nil ?_
      refine awp_ret ?_
      refine ret_plain (resl_agg rfl rfl rfl rfl rfl (resl_tmp rfl resl_nil)) ?_ rfl
      simp only [newS, if_pos h23, htk]; rfl

theorem sp79 (s : Shares) (who air : Int) (hl : s.list.length ≤ 100000000) : Spec Try.prog 79 [s.av, .d (vi who), .d (vi air)] [] (.tup [(chargeS s who air).1.av, .d (vi (chargeS s who air).2)]) [] [] := by
  refine enter 61 [] Try.func79 rfl rfl blOk_nil rfl rfl fun X w0 E0 => ?_
  refine awp_seq ?_
  refine awp_region ?_
  refine seq1 (boxT rfl rfl rfl) rfl rfl ?_
  refine seq1 (allocT rfl rfl) rfl rfl ?_
  refine seqP (assignT rfl) rfl ?_
  refine ops_nil ?_
  refine awp_seq ?_
  refine awp_seq ?_
  refine awp_region ?_
  refine seqP (loadVsT rfl rfl rfl rfl) rfl ?_
  refine seqP (callT rfl rfl rfl (callB_of Try.func76 rfl) (sp76 s hl) trivial) rfl ?_
  refine seqP (assignT rfl) rfl ?_
  refine ops_nil ?_
  refine awp_seq ?_
  refine awp_region ?_
  refine seqP (moveT rfl) rfl ?_
  refine seqP (intTT rfl rfl rfl) rfl ?_
  refine ops_nil ?_
  refine awp_if rfl (fun h13 => ?_) (fun h13 => ?_)
  · -- yes
    try simp only [mOr, mAnd, decide_eq_true_eq, decide_eq_false_iff_not, beq_iff_eq, beq_eq_false_iff_ne, bne_iff_ne, ne_eq, bne_eq_false_iff_eq, Bool.or_eq_true, Bool.or_eq_false_iff, Bool.and_eq_true, Bool.and_eq_false_iff, Bool.not_eq_true', Bool.not_eq_false', Int.not_lt, Int.not_le, gt_iff_lt, ge_iff_le] at h13
    refine awp_seq ?_
    refine awp_region ?_
    refine seqP (buildT rfl rfl rfl rfl) rfl ?_
    refine seqP (moveT rfl) rfl ?_
    refine seq0 (storeVT rfl rfl rfl rfl rfl rfl rfl) ?_
    refine seqP (assignT rfl) rfl ?_
    refine ops_nil ?_
    refine awp_ret ?_
    refine ret_plain (resl_agg rfl rfl rfl rfl rfl (resl_tmp rfl resl_nil)) ?_ rfl
    have h1 : ¬ ckS s = 0 := by simpa using h13
    simp only [chargeS, if_neg h1]; rfl
  · -- no
    simp only [bne_eq_false_iff_eq] at h13
    refine awp_skip ?_
    refine awp_seq ?_
    refine awp_seq ?_
    refine awp_region ?_
    refine seqP (moveT rfl) rfl ?_
    refine seqP (intTT rfl rfl rfl) rfl ?_
    refine seqP (moveT rfl) rfl ?_
    refine seqM 5 (g := 24) (x := ?_) rfl rfl (fun Q g18 hJ => ?_) (fun Q g18 hJ => ?_) ?_
    rotate_left 1
    · -- taken
      refine seqP (moveT rfl) rfl ?_
      refine seqGy rfl rfl ?_
      refine seqP (fieldPT rfl rfl rfl) rfl ?_
      refine seqGy rfl rfl ?_
      refine seqP (loadVT rfl rfl rfl rfl) rfl ?_
      refine seqGy rfl rfl ?_
      refine seqP (lenRT rfl rfl (List.length_map ..)) rfl ?_
      refine seqGy rfl rfl ?_
      refine seqP (intTT rfl rfl rfl) rfl ?_
      refine seqP (pickNT rfl rfl) rfl ?_
      refine hJ 6 _ ?_
      exact ⟨.inl rfl, .inl rfl, .inl rfl, .inl rfl, .inl rfl, .inr (congrArg (fun b => AV.d (D.v (Value.bool b))) g18), rfl⟩
    · -- left
      refine seqGn rfl rfl ?_
      refine seqGn rfl rfl ?_
      refine seqGn rfl rfl ?_
      refine seqGn rfl rfl ?_
      refine seqP (pickYT rfl rfl) rfl ?_
      refine hJ 6 _ ?_
      exact ⟨.inl rfl, .inl rfl, .inl rfl, .inl rfl, .inl rfl, .inr (congrArg (fun b => AV.d (D.v (Value.bool b))) g18), rfl⟩
    refine seqP (moveT rfl) rfl ?_
    refine seqM 2 (g := 28) (x := ?_) rfl rfl (fun Q g25 hJ => ?_) (fun Q g25 hJ => ?_) ?_
    rotate_left 1
    · -- taken
      refine seqP (moveT rfl) rfl ?_
      refine seqGy rfl rfl ?_
      refine seqP (intTT rfl rfl rfl) rfl ?_
      refine seqP (pickNT rfl rfl) rfl ?_
      refine hJ 3 _ ?_
      exact ⟨.inl rfl, .inl rfl, .inr (congrArg (fun b => AV.d (D.v (Value.bool b))) g25), rfl⟩
    · -- left
      refine seqGn rfl rfl ?_
      refine seqP (pickYT rfl rfl) rfl ?_
      refine hJ 3 _ ?_
      exact ⟨.inl rfl, .inl rfl, .inr (congrArg (fun b => AV.d (D.v (Value.bool b))) g25), rfl⟩
    refine seqP (moveT rfl) rfl ?_
    refine seqM 2 (g := 32) (x := ?_) rfl rfl (fun Q g29 hJ => ?_) (fun Q g29 hJ => ?_) ?_
    rotate_left 1
    · -- taken
      refine seqP (moveT rfl) rfl ?_
      refine seqGy rfl rfl ?_
      refine seqP (intTT rfl rfl rfl) rfl ?_
      refine seqP (pickNT rfl rfl) rfl ?_
      refine hJ 3 _ ?_
      exact ⟨.inl rfl, .inl rfl, .inr (congrArg (fun b => AV.d (D.v (Value.bool b))) g29), rfl⟩
    · -- left
      refine seqGn rfl rfl ?_
      refine seqP (pickYT rfl rfl) rfl ?_
      refine hJ 3 _ ?_
      exact ⟨.inl rfl, .inl rfl, .inr (congrArg (fun b => AV.d (D.v (Value.bool b))) g29), rfl⟩
    refine ops_nil ?_
    refine awp_if rfl (fun h32 => ?_) (fun h32 => ?_)
    · -- yes
      try simp only [mOr, mAnd, decide_eq_true_eq, decide_eq_false_iff_not, beq_iff_eq, beq_eq_false_iff_ne, bne_iff_ne, ne_eq, bne_eq_false_iff_eq, Bool.or_eq_true, Bool.or_eq_false_iff, Bool.and_eq_true, Bool.and_eq_false_iff, Bool.not_eq_true', Bool.not_eq_false', Int.not_lt, Int.not_le, gt_iff_lt, ge_iff_le] at h32
      refine awp_seq ?_
      refine awp_region ?_
      refine seqP (buildT rfl rfl rfl rfl) rfl ?_
      refine seq0 (storeVT rfl rfl rfl rfl rfl rfl rfl) ?_
      refine seqP (assignT rfl) rfl ?_
      refine ops_nil ?_
      refine awp_ret ?_
      refine ret_plain (resl_agg rfl rfl rfl rfl rfl (resl_tmp rfl resl_nil)) ?_ rfl
      have h1 : who < 0 ∨ who ≥ s.list.length ∨ air < 1 ∨ air > 32767 := by omega
      simp only [chargeS, if_pos h13, if_pos h1]; rfl
    · -- no
      try simp only [mOr, mAnd, decide_eq_true_eq, decide_eq_false_iff_not, beq_iff_eq, beq_eq_false_iff_ne, bne_iff_ne, ne_eq, bne_eq_false_iff_eq, Bool.or_eq_true, Bool.or_eq_false_iff, Bool.and_eq_true, Bool.and_eq_false_iff, Bool.not_eq_true', Bool.not_eq_false', Int.not_lt, Int.not_le, gt_iff_lt, ge_iff_le] at h32
      obtain ⟨w, rfl⟩ : ∃ w : Nat, who = w := ⟨who.toNat, by omega⟩
      have hw : w < s.list.length := by omega
      have hsh := ck_share h13 hw
      refine awp_skip ?_
      refine awp_seq ?_
      refine awp_seq ?_
      refine awp_region ?_
      refine seqP (fieldPT rfl rfl rfl) rfl ?_
      refine seqP (loadVT rfl rfl rfl rfl) rfl ?_
      refine seqP (moveT rfl) rfl ?_
      refine seqP (indexRT rfl rfl rfl (by omega) (idx_getD (z := default) hw) rfl) rfl ?_
      refine seqP (fieldRT rfl rfl rfl) rfl ?_
      refine seqP (loadRT rfl rfl rfl) rfl ?_
      refine seqP (intTT rfl rfl rfl) rfl ?_
      refine ops_nil ?_
      refine awp_if rfl (fun h40 => ?_) (fun h40 => ?_)
      · -- yes
        try simp only [mOr, mAnd, decide_eq_true_eq, decide_eq_false_iff_not, beq_iff_eq, beq_eq_false_iff_ne, bne_iff_ne, ne_eq, bne_eq_false_iff_eq, Bool.or_eq_true, Bool.or_eq_false_iff, Bool.and_eq_true, Bool.and_eq_false_iff, Bool.not_eq_true', Bool.not_eq_false', Int.not_lt, Int.not_le, gt_iff_lt, ge_iff_le] at h40
        refine awp_seq ?_
        refine awp_region ?_
        refine seqP (buildT rfl rfl rfl rfl) rfl ?_
        refine seq0 (storeVT rfl rfl rfl rfl rfl rfl rfl) ?_
        refine seqP (assignT rfl) rfl ?_
        refine ops_nil ?_
        refine awp_ret ?_
        refine ret_plain (resl_agg rfl rfl rfl rfl rfl (resl_tmp rfl resl_nil)) ?_ rfl
        have h1 : ¬ ((w : Int) < 0 ∨ (w : Int) ≥ s.list.length ∨ air < 1 ∨ air > 32767) := by omega
        simp only [chargeS, if_pos h13, if_neg h1, Int.toNat_natCast, if_pos h40]; rfl
      · -- no
        try simp only [mOr, mAnd, decide_eq_true_eq, decide_eq_false_iff_not, beq_iff_eq, beq_eq_false_iff_ne, bne_iff_ne, ne_eq, bne_eq_false_iff_eq, Bool.or_eq_true, Bool.or_eq_false_iff, Bool.and_eq_true, Bool.and_eq_false_iff, Bool.not_eq_true', Bool.not_eq_false', Int.not_lt, Int.not_le, gt_iff_lt, ge_iff_le] at h40
        refine awp_skip ?_
        refine awp_seq ?_
        refine awp_region ?_
        refine seqP (loadVsT rfl rfl rfl rfl) rfl ?_
        refine seq2 (callT rfl rfl rfl (callB_of Try.func146 rfl) (sp146 s hl) trivial) rfl rfl ?_
        refine seqP (assignT rfl) rfl ?_
        refine ops_nil ?_
        refine awp_seq ?_
        refine awp_region ?_
        refine seqP (moveT rfl) rfl ?_
        refine seqP (nilPT rfl) rfl ?_
        refine seqP (fieldPT rfl rfl rfl) rfl ?_
        refine seqP (fieldPT rfl rfl rfl) rfl ?_
        refine seqP (loadVT rfl rfl rfl rfl) rfl ?_
        refine seqP (moveT rfl) rfl ?_
        refine seqP (indexWT rfl rfl rfl (by omega) (by omega) (show 0 + ((w : Nat) : Int).toNat = w by simp)) rfl ?_
        refine seqP (fieldPT rfl rfl rfl) rfl ?_
        refine seqP (loadWT rfl rfl rfl (row_getD (z := default) hw) rfl) rfl ?_
        refine seqP (moveT rfl) rfl ?_
        refine seqP (intnT rfl rfl rfl (wrap_i64 ⟨by omega, by omega⟩)) rfl ?_
        refine seqP (indexWT rfl rfl rfl (by omega) (by omega) (show 0 + ((w : Nat) : Int).toNat = w by simp)) rfl ?_
        refine seqP (fieldPT rfl rfl rfl) rfl ?_
        refine seq0 (storeWT rfl rfl rfl rfl rfl (row_getD (z := default) hw) rfl rfl rfl) ?_
        refine ops_nil ?_
        refine awp_seq ?_
        refine awp_turn (turn_freezeC 146010 0 206007 rfl rfl rfl (by simp) rfl) ?_
        refine awp_region ?_
        refine seqP (moveT rfl) rfl ?_
        refine seqP (nilPT rfl) rfl ?_
        refine seqP (fieldPT rfl rfl rfl) rfl ?_
        refine seqP (loadVsT rfl rfl rfl rfl) rfl ?_
        refine seq0 (storeVT rfl rfl rfl rfl rfl rfl rfl) ?_
        refine seqP (assignT rfl) rfl ?_
        refine ops_nil ?_
        refine awp_ret ?_
        refine ret_plain (resl_agg rfl rfl rfl rfl rfl (resl_tmp rfl resl_nil)) ?_ rfl
        have h1 : ¬ ((w : Int) < 0 ∨ (w : Int) ≥ s.list.length ∨ air < 1 ∨ air > 32767) := by omega
        have h2 : ¬ (s.list.getD w default).credit ≤ 0 := by omega
        simp only [chargeS, if_pos h13, if_neg h1, Int.toNat_natCast, if_neg h2, Shares.av, List.map_set]; rfl

end Go.Proofs.Ytencghlmckbmlaa
