/- Walks: wispAir (printed by gen.py). -/
import Derived.Test.YtencghlmckbmlaaWorld4
set_option linter.unusedVariables false
set_option linter.unusedSimpArgs false
set_option maxRecDepth 100000
set_option maxHeartbeats 8000000
namespace Go.Proofs.Ytencghlmckbmlaa
open Go Go.RowKit


theorem sp9 (l : List Place) (sh : List Int) (to : List Nat) (way dx dy : Int) (n : Nat) (hn : l.length = n) (hn1 : 1 ≤ n) (hn10 : n ≤ 10) (hto : Perm n to) (hok : ∀ x ∈ l, PlaceOk x) (hsl : sh.length ≤ 100) (hsh : ∀ x ∈ sh, 0 ≤ x ∧ x ≤ 65535) (x0 : -4000 ≤ dx) (x1 : dx ≤ 4000) (y0 : -4000 ≤ dy) (y1 : dy ≤ 4000) :
    Spec Try.prog 9 [.d (.s (l.map encP)), .d (.s (sh.map encU16)), .d (.s ((ints to).map encInt)), .d (.v (.int .u8 way)), .d (vi dx), .d (vi dy)] [] (.tup [(airA l sh).av, (airB l sh to way dx dy).av]) [] [] := by
  refine enter 168 [] Try.func9 rfl rfl blOk_nil rfl rfl fun X w0 E0 => ?_
  refine awp_seq ?_
  refine awp_region ?_
  refine seq1 (allocT rfl rfl) rfl rfl ?_
  refine seq1 (allocT rfl rfl) rfl rfl ?_
  refine ops_nil ?_
  refine awp_seq ?_
  refine awp_region ?_
  refine seqP (moveT rfl) rfl ?_
  refine seqP (lenRT rfl rfl ((List.length_map ..).trans hn)) rfl ?_
  refine seqP (assignT rfl) rfl ?_
  refine ops_nil ?_
  refine awp_seq ?_
  refine awp_any [0, 0, 2, 6, 0, 0, 49, 127] rfl ?_
  refine .step (rb := []) (wb := []) (ml := []) (buildT rfl rfl rfl rfl) rfl rfl rfl rfl rfl trivial ?_
  refine .step (rb := []) (wb := []) (ml := []) (moveT rfl) rfl rfl rfl rfl rfl trivial ?_
  refine .step (rb := []) (wb := [9029]) (ml := [9029]) (makeT (n' := 9029) rfl rfl rfl rfl rfl (by omega) (by omega) (by omega) (by omega) (Int.toNat_natCast n)) rfl rfl rfl rfl rfl ⟨rfl, trivial⟩ ?_
  refine .step (rb := []) (wb := []) (ml := [9029]) (buildT rfl rfl rfl rfl) rfl rfl rfl rfl rfl trivial ?_
  refine .step (rb := []) (wb := [15]) (ml := [15]) (allocT rfl rfl) rfl rfl rfl rfl rfl ⟨rfl, trivial⟩ ?_
  refine .step (rb := []) (wb := [16]) (ml := [16]) (allocT rfl rfl) rfl rfl rfl rfl rfl ⟨rfl, trivial⟩ ?_
  refine .step (rb := [15]) (wb := [15]) (ml := []) (storeVT rfl rfl rfl rfl rfl rfl rfl) rfl rfl rfl rfl rfl ⟨rfl, trivial⟩ ?_
  refine .step (rb := [16]) (wb := [16]) (ml := [9029]) (storeVT rfl rfl rfl rfl rfl rfl rfl) rfl rfl rfl rfl rfl ⟨rfl, trivial⟩ ?_
  refine .done (by decide +kernel) ?_
  refine awp_seq ?_
  refine awp_seq ?_
  refine awp_turn (turn_bindC 15 0 9900 4 (by rfl) (by rfl) (by rfl) (by rfl)) ?_
  refine awp_region ?_
  refine seqP (moveT rfl) rfl ?_
  refine seqP (lenRT rfl rfl ((List.length_map ..).trans hn)) rfl ?_
  refine seqP (moveT rfl) rfl ?_
  refine ops_nil ?_
  refine awp_block ?_
  refine awp_loop (ι := Nat) (fun p => ⟨[(0, .d (.s (l.map encP))), (1, .d (.s (sh.map encU16))), (2, .d (.s ((ints to).map encInt))), (3, .d (.v (.int .u8 way))), (4, .d (vi dx)), (5, .d (vi dy)), (12, .ptr 12 0 0 0), (13, .ptr 13 0 0 0), (14, .d (vi (n : Nat))), (15, .ptr 15 0 0 0), (16, .ptr 16 0 0 0), (31, .d (.s (l.map encP))), (32, .d (vi (n : Nat))), (33, .d (vi (p : Nat)))], [(12, some (.var [.nil, .nil])), (13, some (.var [.nil, .nil])), (15, some (.var [.own 9900 0 4 p, .nil])), (16, some (.var [.own 9029 0 4 n, .nil])), (9900, some (.row 4 (((l.take p).map radioA).map encRadio))), (9029, some (.row 4 ((setF to (fun j => moveR way dx dy (radioA (l.getD j default))) default n p).map encRadio)))]⟩) (fun p => p ≤ n) (fun p => n - p) 0 (Nat.zero_le _) (turn_sub ⟨⟨rfl, rfl, rfl, rfl, rfl, rfl, rfl, rfl, rfl, rfl, rfl, rfl, rfl, rfl, trivial⟩, ⟨rfl, rfl, rfl, rfl, rfl, (by show some (Blk.row 4 (List.replicate n _)) = some (Blk.row 4 ((List.replicate n (default : Radio)).map encRadio)); rw [List.map_replicate]; rfl), trivial⟩⟩) (fun p hP => ?_)
  refine awp_seq ?_
  refine awp_region ?_
  refine seqP (intTT rfl rfl rfl) rfl ?_
  refine ops_nil ?_
  refine awp_seq ?_
  refine awp_if rfl (fun h34 => ?_) (fun h34 => ?_)
  · -- yes
    try simp only [mOr, mAnd, decide_eq_true_eq, decide_eq_false_iff_not, beq_iff_eq, beq_eq_false_iff_ne, bne_iff_ne, ne_eq, bne_eq_false_iff_eq, Bool.or_eq_true, Bool.or_eq_false_iff, Bool.and_eq_true, Bool.and_eq_false_iff, Bool.not_eq_true', Bool.not_eq_false', Int.not_lt, Int.not_le, gt_iff_lt, ge_iff_le] at h34
    refine awp_skip ?_
    refine awp_seq ?_
    refine awp_block ?_
    refine awp_seq ?_
    have hpl : p < l.length := by omega
    have hpt : p < to.length := by have := hto.len; omega
    obtain ⟨q, hq⟩ : ∃ q, l.getD p default = q := ⟨_, rfl⟩
    have hqo : PlaceOk q := hq ▸ hok _ (mem_getD hpl)
    have hqb := place_b hqo
    have hqp0 := hqo.p0
    have hqp1 := hqo.p1
    have hqc0 := hqo.c0
    have hqc1 := hqo.c1
    have hqx0 := hqo.x0
    have hqx1 := hqo.x1
    have hqy0 := hqo.y0
    have hqy1 := hqo.y1
    have hql : l[p]? = some q := by rw [← hq, List.getD_eq_getElem?_getD, List.getElem?_eq_getElem hpl]; rfl
    refine awp_region ?_
    refine seqP (moveT rfl) rfl ?_
    refine seqP (indexRT rfl rfl rfl (by omega) (idx_map hql) rfl) rfl ?_
    refine seqP (loadRsT rfl rfl rfl rfl rfl) rfl ?_
    refine seq1 (allocT rfl rfl) rfl rfl ?_
    refine seqP (assignT rfl) rfl ?_
    refine seq0 (storeVT rfl rfl rfl rfl rfl rfl rfl) ?_
    refine ops_nil ?_
    refine awp_seq ?_
    refine awp_region ?_
    refine seqP (fieldPT rfl rfl rfl) rfl ?_
    refine seqP (loadVT rfl rfl rfl rfl) rfl ?_
    refine seqP (convT rfl rfl rfl (wrap_i64 ⟨by omega, by omega⟩)) rfl ?_
    refine seqP (remT rfl rfl (by omega) rfl) rfl ?_
    refine seqP (fieldPT rfl rfl rfl) rfl ?_
    refine seqP (loadVT rfl rfl rfl rfl) rfl ?_
    refine seqP (convT rfl rfl rfl (wrap_i64 ⟨by omega, by omega⟩)) rfl ?_
    refine seqP (remT rfl rfl (by omega) rfl) rfl ?_
    refine seqP (fieldPT rfl rfl rfl) rfl ?_
    refine seqP (loadVT rfl rfl rfl rfl) rfl ?_
    refine seqP (convT rfl rfl rfl (wrap_i64 ⟨by omega, by omega⟩)) rfl ?_
    refine seqP (fieldPT rfl rfl rfl) rfl ?_
    refine seqP (loadVT rfl rfl rfl rfl) rfl ?_
    refine seqP (convT rfl rfl rfl (wrap_i64 ⟨by omega, by omega⟩)) rfl ?_
    refine seqP (remT rfl rfl (by omega) (tmod_nn (by omega))) rfl ?_
    refine seqP (intnT rfl rfl rfl (wrap_i64 ⟨by omega, by omega⟩)) rfl ?_
    refine seqP (buildT rfl rfl rfl rfl) rfl ?_
    refine seq1 (allocT rfl rfl) rfl rfl ?_
    refine seq0 (storeVT rfl rfl rfl rfl rfl rfl rfl) ?_
    refine ops_nil ?_
    refine awp_seq ?_
    refine awp_region ?_
    refine seqP (fieldPT rfl rfl rfl) rfl ?_
    refine seqP (loadVT rfl rfl rfl rfl) rfl ?_
    refine seqP (loadVsT rfl rfl rfl rfl) rfl ?_
    refine seqP (litT rfl rfl rfl rfl rfl rfl rfl rfl) rfl ?_
    refine seq2 (appendT (b' := 59) rfl rfl rfl rfl rfl rfl (by simp only [List.length_map, List.length_take]; omega) (fun row h => by simp at h; subst h; rfl) (show p + 1 = p + 1 from rfl) (show _ = ((l.take (p + 1)).map radioA).map encRadio by rw [List.map_map, List.map_map]; exact take_map_succ (f := encRadio ∘ radioA) hql) (by omega) (by omega)) rfl rfl ?_
    refine seqP (fieldPT rfl rfl rfl) rfl ?_
    refine seq0 (storeVT rfl rfl rfl rfl rfl rfl rfl) ?_
    refine ops_nil ?_
    refine awp_seq ?_
    refine awp_region ?_
    refine seqP (fieldPT rfl rfl rfl) rfl ?_
    refine seqP (loadVT rfl rfl rfl rfl) rfl ?_
    refine seqP (fieldPT rfl rfl rfl) rfl ?_
    refine seqP (loadVT rfl rfl rfl rfl) rfl ?_
    refine seqP (moveT rfl) rfl ?_
    refine seqP (moveT rfl) rfl ?_
    refine seqP (moveT rfl) rfl ?_
    refine seqP (callT rfl rfl rfl (callB_of Try.func42 rfl) (sp42 _ _ way dx dy (by omega) (by omega) (by omega) (by omega) (by omega) (by omega) (by omega) (by omega)) trivial) rfl ?_
    refine seqP (moveT rfl) rfl ?_
    refine seqP (extractT rfl rfl) rfl ?_
    refine seqP (extractT rfl rfl) rfl ?_
    refine seqP (fieldPT rfl rfl rfl) rfl ?_
    refine seq0 (storeVT rfl rfl rfl rfl rfl rfl rfl) ?_
    refine seqP (fieldPT rfl rfl rfl) rfl ?_
    refine seq0 (storeVT rfl rfl rfl rfl rfl rfl rfl) ?_
    refine ops_nil ?_
    refine awp_any [0, 1, 0, 0, 12, 28, 0, 127, 255] rfl ?_
    refine .step (rb := []) (wb := []) (ml := [16]) (fieldPT rfl rfl rfl) rfl rfl rfl rfl rfl trivial ?_
    refine .step (rb := [16]) (wb := []) (ml := [9029]) (loadVT rfl rfl rfl rfl) rfl rfl rfl rfl rfl trivial ?_
    refine .step (rb := []) (wb := []) (ml := []) (moveT rfl) rfl rfl rfl rfl rfl trivial ?_
    refine .step (rb := []) (wb := []) (ml := []) (moveT rfl) rfl rfl rfl rfl rfl trivial ?_
    refine .step (rb := []) (wb := []) (ml := []) (indexRT rfl rfl rfl (by omega) (show _ = some (encInt ((to.getD p default : Nat) : Int)) from (idx_getD (z := default) (by rw [ints_len]; exact hpt)).trans (by rw [ints_get hpt])) rfl) rfl rfl rfl rfl rfl trivial ?_
    refine .step (rb := []) (wb := []) (ml := []) (loadRT rfl rfl rfl) rfl rfl rfl rfl rfl trivial ?_
    refine .step (rb := [19]) (wb := []) (ml := []) (loadVsT rfl rfl rfl rfl) rfl rfl rfl rfl rfl trivial ?_
    have htp := hto.lt p (by omega)
    refine .step (rb := []) (wb := []) (ml := [9029]) (indexWT rfl rfl rfl (by omega) (by omega) (show 0 + ((to.getD p default : Nat) : Int).toNat = to.getD p default by simp)) rfl rfl rfl rfl rfl trivial ?_
    refine .step (rb := [9029]) (wb := [9029]) (ml := []) (storeWT rfl rfl rfl rfl rfl (row_getD (z := default) (by rw [setF_len]; exact htp)) rfl rfl rfl) rfl rfl rfl rfl rfl ⟨rfl, trivial⟩ ?_
    refine .done (by decide +kernel) ?_
    refine awp_region ?_
    refine seqP (intnT rfl rfl rfl (wrap_succ (by omega))) rfl ?_
    refine seqP (moveT rfl) rfl ?_
    refine ops_nil ?_
    refine ⟨(p + 1), (by show p + 1 ≤ n; omega), (turn_ren (fun n => bif Nat.beq n 9900 then 59 else n) ⟨rfl, rfl, rfl, rfl, rfl, rfl, rfl, rfl, rfl, rfl, rfl, rfl, rfl, rfl, trivial⟩ ⟨rfl, rfl, rfl, rfl, rfl, (congrArg (fun r => some (Blk.row 4 r)) (by rw [setF_succ, List.map_set, hq]; rfl)), trivial⟩ rfl rfl), by show n - (p + 1) < n - p; omega⟩
  · -- no
    try simp only [mOr, mAnd, decide_eq_true_eq, decide_eq_false_iff_not, beq_iff_eq, beq_eq_false_iff_ne, bne_iff_ne, ne_eq, bne_eq_false_iff_eq, Bool.or_eq_true, Bool.or_eq_false_iff, Bool.and_eq_true, Bool.and_eq_false_iff, Bool.not_eq_true', Bool.not_eq_false', Int.not_lt, Int.not_le, gt_iff_lt, ge_iff_le] at h34
    refine awp_exit ?_
    refine awp_seq ?_
    refine awp_seq ?_
    obtain rfl : n = p := by omega
    have hpe : l.take n = l := List.take_of_length_le (by omega)
    simp only [hpe]
    refine awp_turn (turn_freezeC 15 0 9900 rfl rfl rfl (by simp only [List.length_map]; exact hn) rfl) ?_
    refine awp_region ?_
    refine seqP (moveT rfl) rfl ?_
    refine seqP (lenRT rfl rfl (List.length_map ..)) rfl ?_
    refine seqP (intTT rfl rfl rfl) rfl ?_
    refine ops_nil ?_
    refine awp_if rfl (fun h85 => ?_) (fun h85 => ?_)
    · -- yes
      have hs0 : sh.length = 0 := by simp only [beq_iff_eq] at h85; omega
      refine awp_seq ?_
      refine awp_turn (turn_freezeC 16 0 9029 rfl rfl rfl (by simp only [List.length_map, setF_len]) rfl) ?_
      refine awp_any [0, 0, 1, 7] rfl ?_
      refine .step (rb := [15]) (wb := []) (ml := []) (loadVsT rfl rfl rfl rfl) rfl rfl rfl rfl rfl trivial ?_
      refine .step (rb := [16]) (wb := []) (ml := []) (loadVsT rfl rfl rfl rfl) rfl rfl rfl rfl rfl trivial ?_
      refine .step (rb := [12]) (wb := [12]) (ml := []) (storeVT rfl rfl rfl rfl rfl rfl rfl) rfl rfl rfl rfl rfl ⟨rfl, trivial⟩ ?_
      refine .step (rb := [13]) (wb := [13]) (ml := []) (storeVT rfl rfl rfl rfl rfl rfl rfl) rfl rfl rfl rfl rfl ⟨rfl, trivial⟩ ?_
      refine .done (by decide +kernel) ?_
      refine awp_ret ?_
      have e1 : airA l sh = ⟨l.map radioA, []⟩ := by simp only [airA, if_pos hs0]
      have e2 : airB l sh to way dx dy = ⟨setF to (fun j => moveR way dx dy (radioA (l.getD j default))) default n n, []⟩ := by simp only [airB, if_pos hs0, hn]
      rw [e1, e2]
      refine ret_plain (resl_agg rfl rfl rfl rfl rfl (resl_agg rfl rfl rfl rfl rfl resl_nil)) ?_ rfl
      rfl
    · -- no
      have hs0 : ¬ sh.length = 0 := by simp only [beq_eq_false_iff_ne, ne_eq] at h85; omega
      refine awp_skip ?_
      refine awp_seq ?_
      refine awp_turn (turn_freezeC 16 0 9029 rfl rfl rfl (by simp only [List.length_map, setF_len]) rfl) ?_
      refine awp_region ?_
      refine seqP (moveT rfl) rfl ?_
      refine seq1 (makeCT (n' := 9089) rfl rfl rfl rfl (by omega) (by omega)) rfl rfl ?_
      refine seqP (fieldPT rfl rfl rfl) rfl ?_
      refine seq0 (storeVT rfl rfl rfl rfl rfl rfl rfl) ?_
      refine ops_nil ?_
      refine awp_seq ?_
      refine awp_seq ?_
      refine awp_turn (turn_fn_bind 9089 0 20000 1 (f' := famB 1) (nm' := (List.range 1).map (20000 + ·)) (hs' := famB_says) rfl rfl famB_new (fun j _ hj => famB_first hj) rfl) ?_
      refine awp_turn (turn_fn_bind 9089 1 20001 1 (f' := famB 2) (nm' := (List.range 2).map (20000 + ·)) (hs' := famB_says) rfl famB_at famB_new (fun j _ hj => famB_other hj) rfl) ?_
      refine awp_turn (turn_fn_bind 9089 2 20002 1 (f' := famB 3) (nm' := (List.range 3).map (20000 + ·)) (hs' := famB_says) rfl famB_at famB_new (fun j _ hj => famB_other hj) rfl) ?_
      refine awp_turn (turn_fn_bind 9089 3 20003 1 (f' := famB 4) (nm' := (List.range 4).map (20000 + ·)) (hs' := famB_says) rfl famB_at famB_new (fun j _ hj => famB_other hj) rfl) ?_
      refine awp_turn (turn_fn_bind 9089 4 20004 1 (f' := famB 5) (nm' := (List.range 5).map (20000 + ·)) (hs' := famB_says) rfl famB_at famB_new (fun j _ hj => famB_other hj) rfl) ?_
      refine awp_turn (turn_fn_bind 9089 5 20005 1 (f' := famB 6) (nm' := (List.range 6).map (20000 + ·)) (hs' := famB_says) rfl famB_at famB_new (fun j _ hj => famB_other hj) rfl) ?_
      refine awp_turn (turn_fn_bind 9089 6 20006 1 (f' := famB 7) (nm' := (List.range 7).map (20000 + ·)) (hs' := famB_says) rfl famB_at famB_new (fun j _ hj => famB_other hj) rfl) ?_
      refine awp_turn (turn_fn_bind 9089 7 20007 1 (f' := famB 8) (nm' := (List.range 8).map (20000 + ·)) (hs' := famB_says) rfl famB_at famB_new (fun j _ hj => famB_other hj) rfl) ?_
      refine awp_turn (turn_fn_bind 9089 8 20008 1 (f' := famB 9) (nm' := (List.range 9).map (20000 + ·)) (hs' := famB_says) rfl famB_at famB_new (fun j _ hj => famB_other hj) rfl) ?_
      refine awp_turn (turn_fn_bind 9089 9 20009 1 (f' := famB 10) (nm' := (List.range 10).map (20000 + ·)) (hs' := famB_says) rfl famB_at famB_new (fun j _ hj => famB_other hj) rfl) ?_
      refine awp_region ?_
      refine seqP (fieldPT rfl rfl rfl) rfl ?_
      refine seqP (loadVT rfl rfl rfl rfl) rfl ?_
      refine seqP (lenWT rfl rfl) rfl ?_
      refine seqP (moveT rfl) rfl ?_
      refine ops_nil ?_
      refine awp_block ?_
      refine awp_loop (ι := Nat) (fun i => ⟨[(0, .d (.s (l.map encP))), (1, .d (.s (sh.map encU16))), (2, .d (.s ((ints to).map encInt))), (3, .d (.v (.int .u8 way))), (4, .d (vi dx)), (5, .d (vi dy)), (12, .ptr 12 0 0 0), (13, .ptr 13 0 0 0), (14, .d (vi (n : Nat))), (15, .ptr 15 0 0 0), (16, .ptr 16 0 0 0), (93, .d (vi (n : Nat))), (94, .d (vi (i : Nat)))], [(12, some (.var [.nil, .nil])), (13, some (.var [.nil, .nil])), (15, some (.var [.d (.s ((l.map radioA).map encRadio)), .nil])), (16, some (.var [.d (.s ((setF to (fun j => moveR way dx dy (radioA (l.getD j default))) default n n).map encRadio)), .own 9089 0 1 n])), (9089, some (.cells n (famF (fun j => if j < i then n else 0)) fnames fam_says)), (20000, some (.row 1 ((famZ n i 0).map encInt))), (20001, some (.row 1 ((famZ n i 1).map encInt))), (20002, some (.row 1 ((famZ n i 2).map encInt))), (20003, some (.row 1 ((famZ n i 3).map encInt))), (20004, some (.row 1 ((famZ n i 4).map encInt))), (20005, some (.row 1 ((famZ n i 5).map encInt))), (20006, some (.row 1 ((famZ n i 6).map encInt))), (20007, some (.row 1 ((famZ n i 7).map encInt))), (20008, some (.row 1 ((famZ n i 8).map encInt))), (20009, some (.row 1 ((famZ n i 9).map encInt)))]⟩) (fun i => i ≤ n) (fun i => n - i) 0 (Nat.zero_le _) (turn_sub ⟨⟨rfl, rfl, rfl, rfl, rfl, rfl, rfl, rfl, rfl, rfl, rfl, rfl, rfl, trivial⟩, ⟨rfl, rfl, rfl, rfl, (congrArg some (cells_eq famB_end rfl)), rfl, rfl, rfl, rfl, rfl, rfl, rfl, rfl, rfl, rfl, trivial⟩⟩) (fun i hI => ?_)
      refine awp_seq ?_
      refine awp_region ?_
      refine seqP (intTT rfl rfl rfl) rfl ?_
      refine ops_nil ?_
      refine awp_seq ?_
      refine awp_if rfl (fun h95 => ?_) (fun h95 => ?_)
      · -- yes
        try simp only [mOr, mAnd, decide_eq_true_eq, decide_eq_false_iff_not, beq_iff_eq, beq_eq_false_iff_ne, bne_iff_ne, ne_eq, bne_eq_false_iff_eq, Bool.or_eq_true, Bool.or_eq_false_iff, Bool.and_eq_true, Bool.and_eq_false_iff, Bool.not_eq_true', Bool.not_eq_false', Int.not_lt, Int.not_le, gt_iff_lt, ge_iff_le] at h95
        refine awp_skip ?_
        refine awp_seq ?_
        refine awp_block ?_
        refine awp_seq ?_
        refine awp_region ?_
        refine seqP (moveT rfl) rfl ?_
        refine seqP (assignT rfl) rfl ?_
        refine ops_nil ?_
        have hin : i < n := by omega
        rcases (show i = 0 ∨ i = 1 ∨ i = 2 ∨ i = 3 ∨ i = 4 ∨ i = 5 ∨ i = 6 ∨ i = 7 ∨ i = 8 ∨ i = 9 by omega) with rfl | rfl | rfl | rfl | rfl | rfl | rfl | rfl | rfl | rfl
        ·
          refine awp_any [0, 1, 0, 0, 8, 31, 63] rfl ?_
          refine .step (rb := []) (wb := []) (ml := [16]) (fieldPT rfl rfl rfl) rfl rfl rfl rfl rfl trivial ?_
          refine .step (rb := [16]) (wb := []) (ml := [9089]) (loadVT rfl rfl rfl rfl) rfl rfl rfl rfl rfl trivial ?_
          refine .step (rb := []) (wb := []) (ml := []) (moveT rfl) rfl rfl rfl rfl rfl trivial ?_
          refine .step (rb := []) (wb := []) (ml := []) (moveT rfl) rfl rfl rfl rfl rfl trivial ?_
          refine .step (rb := []) (wb := [9101]) (ml := [9101]) (makeT (n' := 9101) rfl rfl rfl rfl rfl (by omega) (by omega) (by omega) (by omega) (Int.toNat_natCast n)) rfl rfl rfl rfl rfl ⟨rfl, trivial⟩ ?_
          refine .step (rb := []) (wb := []) (ml := [9089]) (indexWT rfl rfl rfl (by omega) (by omega) (show 0 + ((0 : Nat) : Int).toNat = 0 by rfl)) rfl rfl rfl rfl rfl trivial ?_
          refine .step (rb := [9089]) (wb := [9089]) (ml := [9101, 20001, 20002, 20003, 20004, 20005, 20006, 20007, 20008, 20009]) (storeCT (famM 0 n 9101) (fnames.map (fun m => bif Nat.beq m (20000 + 0) then 9101 else m)) (famM_says (by decide)) rfl rfl rfl rfl rfl hin (if_pos rfl) (fun j _ hj => if_neg hj)) rfl rfl rfl rfl rfl ⟨rfl, trivial⟩ ?_
          refine .done (by decide +kernel) ?_
          refine awp_region ?_
          refine seqP (intnT rfl rfl rfl (wrap_succ (by omega))) rfl ?_
          refine seqP (moveT rfl) rfl ?_
          refine ops_nil ?_
          refine ⟨(0 + 1), (by show 0 + 1 ≤ n; omega), (turn_ren (fun n => bif Nat.beq n 20000 then 9101 else n) ⟨rfl, rfl, rfl, rfl, rfl, rfl, rfl, rfl, rfl, rfl, rfl, rfl, rfl, trivial⟩ ⟨rfl, rfl, rfl, rfl, (congrArg some (cells_eq (famM_ren (p := 0) (by decide)).symm rfl)), (by show some (Blk.row 1 (List.replicate n [vi 0])) = some (Blk.row 1 ((famZ n (0 + 1) 0).map encInt)); rw [show famZ n (0 + 1) 0 = List.replicate n 0 from rfl, List.map_replicate]; rfl), rfl, rfl, rfl, rfl, rfl, rfl, rfl, rfl, rfl, trivial⟩ rfl rfl), by show n - (0 + 1) < n - 0; omega⟩
        ·
          refine awp_any [0, 1, 0, 0, 8, 31, 63] rfl ?_
          refine .step (rb := []) (wb := []) (ml := [16]) (fieldPT rfl rfl rfl) rfl rfl rfl rfl rfl trivial ?_
          refine .step (rb := [16]) (wb := []) (ml := [9089]) (loadVT rfl rfl rfl rfl) rfl rfl rfl rfl rfl trivial ?_
          refine .step (rb := []) (wb := []) (ml := []) (moveT rfl) rfl rfl rfl rfl rfl trivial ?_
          refine .step (rb := []) (wb := []) (ml := []) (moveT rfl) rfl rfl rfl rfl rfl trivial ?_
          refine .step (rb := []) (wb := [9101]) (ml := [9101]) (makeT (n' := 9101) rfl rfl rfl rfl rfl (by omega) (by omega) (by omega) (by omega) (Int.toNat_natCast n)) rfl rfl rfl rfl rfl ⟨rfl, trivial⟩ ?_
          refine .step (rb := []) (wb := []) (ml := [9089]) (indexWT rfl rfl rfl (by omega) (by omega) (show 0 + ((1 : Nat) : Int).toNat = 1 by rfl)) rfl rfl rfl rfl rfl trivial ?_
          refine .step (rb := [9089]) (wb := [9089]) (ml := [9101, 20000, 20002, 20003, 20004, 20005, 20006, 20007, 20008, 20009]) (storeCT (famM 1 n 9101) (fnames.map (fun m => bif Nat.beq m (20000 + 1) then 9101 else m)) (famM_says (by decide)) rfl rfl rfl rfl rfl hin (if_pos rfl) (fun j _ hj => if_neg hj)) rfl rfl rfl rfl rfl ⟨rfl, trivial⟩ ?_
          refine .done (by decide +kernel) ?_
          refine awp_region ?_
          refine seqP (intnT rfl rfl rfl (wrap_succ (by omega))) rfl ?_
          refine seqP (moveT rfl) rfl ?_
          refine ops_nil ?_
          refine ⟨(1 + 1), (by show 1 + 1 ≤ n; omega), (turn_ren (fun n => bif Nat.beq n 20001 then 9101 else n) ⟨rfl, rfl, rfl, rfl, rfl, rfl, rfl, rfl, rfl, rfl, rfl, rfl, rfl, trivial⟩ ⟨rfl, rfl, rfl, rfl, (congrArg some (cells_eq (famM_ren (p := 1) (by decide)).symm rfl)), rfl, (by show some (Blk.row 1 (List.replicate n [vi 0])) = some (Blk.row 1 ((famZ n (1 + 1) 1).map encInt)); rw [show famZ n (1 + 1) 1 = List.replicate n 0 from rfl, List.map_replicate]; rfl), rfl, rfl, rfl, rfl, rfl, rfl, rfl, rfl, trivial⟩ rfl rfl), by show n - (1 + 1) < n - 1; omega⟩
        ·
          refine awp_any [0, 1, 0, 0, 8, 31, 63] rfl ?_
          refine .step (rb := []) (wb := []) (ml := [16]) (fieldPT rfl rfl rfl) rfl rfl rfl rfl rfl trivial ?_
          refine .step (rb := [16]) (wb := []) (ml := [9089]) (loadVT rfl rfl rfl rfl) rfl rfl rfl rfl rfl trivial ?_
          refine .step (rb := []) (wb := []) (ml := []) (moveT rfl) rfl rfl rfl rfl rfl trivial ?_
          refine .step (rb := []) (wb := []) (ml := []) (moveT rfl) rfl rfl rfl rfl rfl trivial ?_
          refine .step (rb := []) (wb := [9101]) (ml := [9101]) (makeT (n' := 9101) rfl rfl rfl rfl rfl (by omega) (by omega) (by omega) (by omega) (Int.toNat_natCast n)) rfl rfl rfl rfl rfl ⟨rfl, trivial⟩ ?_
          refine .step (rb := []) (wb := []) (ml := [9089]) (indexWT rfl rfl rfl (by omega) (by omega) (show 0 + ((2 : Nat) : Int).toNat = 2 by rfl)) rfl rfl rfl rfl rfl trivial ?_
          refine .step (rb := [9089]) (wb := [9089]) (ml := [9101, 20000, 20001, 20003, 20004, 20005, 20006, 20007, 20008, 20009]) (storeCT (famM 2 n 9101) (fnames.map (fun m => bif Nat.beq m (20000 + 2) then 9101 else m)) (famM_says (by decide)) rfl rfl rfl rfl rfl hin (if_pos rfl) (fun j _ hj => if_neg hj)) rfl rfl rfl rfl rfl ⟨rfl, trivial⟩ ?_
          refine .done (by decide +kernel) ?_
          refine awp_region ?_
          refine seqP (intnT rfl rfl rfl (wrap_succ (by omega))) rfl ?_
          refine seqP (moveT rfl) rfl ?_
          refine ops_nil ?_
          refine ⟨(2 + 1), (by show 2 + 1 ≤ n; omega), (turn_ren (fun n => bif Nat.beq n 20002 then 9101 else n) ⟨rfl, rfl, rfl, rfl, rfl, rfl, rfl, rfl, rfl, rfl, rfl, rfl, rfl, trivial⟩ ⟨rfl, rfl, rfl, rfl, (congrArg some (cells_eq (famM_ren (p := 2) (by decide)).symm rfl)), rfl, rfl, (by show some (Blk.row 1 (List.replicate n [vi 0])) = some (Blk.row 1 ((famZ n (2 + 1) 2).map encInt)); rw [show famZ n (2 + 1) 2 = List.replicate n 0 from rfl, List.map_replicate]; rfl), rfl, rfl, rfl, rfl, rfl, rfl, rfl, trivial⟩ rfl rfl), by show n - (2 + 1) < n - 2; omega⟩
        ·
          refine awp_any [0, 1, 0, 0, 8, 31, 63] rfl ?_
          refine .step (rb := []) (wb := []) (ml := [16]) (fieldPT rfl rfl rfl) rfl rfl rfl rfl rfl trivial ?_
          refine .step (rb := [16]) (wb := []) (ml := [9089]) (loadVT rfl rfl rfl rfl) rfl rfl rfl rfl rfl trivial ?_
          refine .step (rb := []) (wb := []) (ml := []) (moveT rfl) rfl rfl rfl rfl rfl trivial ?_
          refine .step (rb := []) (wb := []) (ml := []) (moveT rfl) rfl rfl rfl rfl rfl trivial ?_
          refine .step (rb := []) (wb := [9101]) (ml := [9101]) (makeT (n' := 9101) rfl rfl rfl rfl rfl (by omega) (by omega) (by omega) (by omega) (Int.toNat_natCast n)) rfl rfl rfl rfl rfl ⟨rfl, trivial⟩ ?_
          refine .step (rb := []) (wb := []) (ml := [9089]) (indexWT rfl rfl rfl (by omega) (by omega) (show 0 + ((3 : Nat) : Int).toNat = 3 by rfl)) rfl rfl rfl rfl rfl trivial ?_
          refine .step (rb := [9089]) (wb := [9089]) (ml := [9101, 20000, 20001, 20002, 20004, 20005, 20006, 20007, 20008, 20009]) (storeCT (famM 3 n 9101) (fnames.map (fun m => bif Nat.beq m (20000 + 3) then 9101 else m)) (famM_says (by decide)) rfl rfl rfl rfl rfl hin (if_pos rfl) (fun j _ hj => if_neg hj)) rfl rfl rfl rfl rfl ⟨rfl, trivial⟩ ?_
          refine .done (by decide +kernel) ?_
          refine awp_region ?_
          refine seqP (intnT rfl rfl rfl (wrap_succ (by omega))) rfl ?_
          refine seqP (moveT rfl) rfl ?_
          refine ops_nil ?_
          refine ⟨(3 + 1), (by show 3 + 1 ≤ n; omega), (turn_ren (fun n => bif Nat.beq n 20003 then 9101 else n) ⟨rfl, rfl, rfl, rfl, rfl, rfl, rfl, rfl, rfl, rfl, rfl, rfl, rfl, trivial⟩ ⟨rfl, rfl, rfl, rfl, (congrArg some (cells_eq (famM_ren (p := 3) (by decide)).symm rfl)), rfl, rfl, rfl, (by show some (Blk.row 1 (List.replicate n [vi 0])) = some (Blk.row 1 ((famZ n (3 + 1) 3).map encInt)); rw [show famZ n (3 + 1) 3 = List.replicate n 0 from rfl, List.map_replicate]; rfl), rfl, rfl, rfl, rfl, rfl, rfl, trivial⟩ rfl rfl), by show n - (3 + 1) < n - 3; omega⟩
        ·
          refine awp_any [0, 1, 0, 0, 8, 31, 63] rfl ?_
          refine .step (rb := []) (wb := []) (ml := [16]) (fieldPT rfl rfl rfl) rfl rfl rfl rfl rfl trivial ?_
          refine .step (rb := [16]) (wb := []) (ml := [9089]) (loadVT rfl rfl rfl rfl) rfl rfl rfl rfl rfl trivial ?_
          refine .step (rb := []) (wb := []) (ml := []) (moveT rfl) rfl rfl rfl rfl rfl trivial ?_
          refine .step (rb := []) (wb := []) (ml := []) (moveT rfl) rfl rfl rfl rfl rfl trivial ?_
          refine .step (rb := []) (wb := [9101]) (ml := [9101]) (makeT (n' := 9101) rfl rfl rfl rfl rfl (by omega) (by omega) (by omega) (by omega) (Int.toNat_natCast n)) rfl rfl rfl rfl rfl ⟨rfl, trivial⟩ ?_
          refine .step (rb := []) (wb := []) (ml := [9089]) (indexWT rfl rfl rfl (by omega) (by omega) (show 0 + ((4 : Nat) : Int).toNat = 4 by rfl)) rfl rfl rfl rfl rfl trivial ?_
          refine .step (rb := [9089]) (wb := [9089]) (ml := [9101, 20000, 20001, 20002, 20003, 20005, 20006, 20007, 20008, 20009]) (storeCT (famM 4 n 9101) (fnames.map (fun m => bif Nat.beq m (20000 + 4) then 9101 else m)) (famM_says (by decide)) rfl rfl rfl rfl rfl hin (if_pos rfl) (fun j _ hj => if_neg hj)) rfl rfl rfl rfl rfl ⟨rfl, trivial⟩ ?_
          refine .done (by decide +kernel) ?_
          refine awp_region ?_
          refine seqP (intnT rfl rfl rfl (wrap_succ (by omega))) rfl ?_
          refine seqP (moveT rfl) rfl ?_
          refine ops_nil ?_
          refine ⟨(4 + 1), (by show 4 + 1 ≤ n; omega), (turn_ren (fun n => bif Nat.beq n 20004 then 9101 else n) ⟨rfl, rfl, rfl, rfl, rfl, rfl, rfl, rfl, rfl, rfl, rfl, rfl, rfl, trivial⟩ ⟨rfl, rfl, rfl, rfl, (congrArg some (cells_eq (famM_ren (p := 4) (by decide)).symm rfl)), rfl, rfl, rfl, rfl, (by show some (Blk.row 1 (List.replicate n [vi 0])) = some (Blk.row 1 ((famZ n (4 + 1) 4).map encInt)); rw [show famZ n (4 + 1) 4 = List.replicate n 0 from rfl, List.map_replicate]; rfl), rfl, rfl, rfl, rfl, rfl, trivial⟩ rfl rfl), by show n - (4 + 1) < n - 4; omega⟩
        ·
          refine awp_any [0, 1, 0, 0, 8, 31, 63] rfl ?_
          refine .step (rb := []) (wb := []) (ml := [16]) (fieldPT rfl rfl rfl) rfl rfl rfl rfl rfl trivial ?_
          refine .step (rb := [16]) (wb := []) (ml := [9089]) (loadVT rfl rfl rfl rfl) rfl rfl rfl rfl rfl trivial ?_
          refine .step (rb := []) (wb := []) (ml := []) (moveT rfl) rfl rfl rfl rfl rfl trivial ?_
          refine .step (rb := []) (wb := []) (ml := []) (moveT rfl) rfl rfl rfl rfl rfl trivial ?_
          refine .step (rb := []) (wb := [9101]) (ml := [9101]) (makeT (n' := 9101) rfl rfl rfl rfl rfl (by omega) (by omega) (by omega) (by omega) (Int.toNat_natCast n)) rfl rfl rfl rfl rfl ⟨rfl, trivial⟩ ?_
          refine .step (rb := []) (wb := []) (ml := [9089]) (indexWT rfl rfl rfl (by omega) (by omega) (show 0 + ((5 : Nat) : Int).toNat = 5 by rfl)) rfl rfl rfl rfl rfl trivial ?_
          refine .step (rb := [9089]) (wb := [9089]) (ml := [9101, 20000, 20001, 20002, 20003, 20004, 20006, 20007, 20008, 20009]) (storeCT (famM 5 n 9101) (fnames.map (fun m => bif Nat.beq m (20000 + 5) then 9101 else m)) (famM_says (by decide)) rfl rfl rfl rfl rfl hin (if_pos rfl) (fun j _ hj => if_neg hj)) rfl rfl rfl rfl rfl ⟨rfl, trivial⟩ ?_
          refine .done (by decide +kernel) ?_
          refine awp_region ?_
          refine seqP (intnT rfl rfl rfl (wrap_succ (by omega))) rfl ?_
          refine seqP (moveT rfl) rfl ?_
          refine ops_nil ?_
          refine ⟨(5 + 1), (by show 5 + 1 ≤ n; omega), (turn_ren (fun n => bif Nat.beq n 20005 then 9101 else n) ⟨rfl, rfl, rfl, rfl, rfl, rfl, rfl, rfl, rfl, rfl, rfl, rfl, rfl, trivial⟩ ⟨rfl, rfl, rfl, rfl, (congrArg some (cells_eq (famM_ren (p := 5) (by decide)).symm rfl)), rfl, rfl, rfl, rfl, rfl, (by show some (Blk.row 1 (List.replicate n [vi 0])) = some (Blk.row 1 ((famZ n (5 + 1) 5).map encInt)); rw [show famZ n (5 + 1) 5 = List.replicate n 0 from rfl, List.map_replicate]; rfl), rfl, rfl, rfl, rfl, trivial⟩ rfl rfl), by show n - (5 + 1) < n - 5; omega⟩
        ·
          refine awp_any [0, 1, 0, 0, 8, 31, 63] rfl ?_
          refine .step (rb := []) (wb := []) (ml := [16]) (fieldPT rfl rfl rfl) rfl rfl rfl rfl rfl trivial ?_
          refine .step (rb := [16]) (wb := []) (ml := [9089]) (loadVT rfl rfl rfl rfl) rfl rfl rfl rfl rfl trivial ?_
          refine .step (rb := []) (wb := []) (ml := []) (moveT rfl) rfl rfl rfl rfl rfl trivial ?_
          refine .step (rb := []) (wb := []) (ml := []) (moveT rfl) rfl rfl rfl rfl rfl trivial ?_
          refine .step (rb := []) (wb := [9101]) (ml := [9101]) (makeT (n' := 9101) rfl rfl rfl rfl rfl (by omega) (by omega) (by omega) (by omega) (Int.toNat_natCast n)) rfl rfl rfl rfl rfl ⟨rfl, trivial⟩ ?_
          refine .step (rb := []) (wb := []) (ml := [9089]) (indexWT rfl rfl rfl (by omega) (by omega) (show 0 + ((6 : Nat) : Int).toNat = 6 by rfl)) rfl rfl rfl rfl rfl trivial ?_
          refine .step (rb := [9089]) (wb := [9089]) (ml := [9101, 20000, 20001, 20002, 20003, 20004, 20005, 20007, 20008, 20009]) (storeCT (famM 6 n 9101) (fnames.map (fun m => bif Nat.beq m (20000 + 6) then 9101 else m)) (famM_says (by decide)) rfl rfl rfl rfl rfl hin (if_pos rfl) (fun j _ hj => if_neg hj)) rfl rfl rfl rfl rfl ⟨rfl, trivial⟩ ?_
          refine .done (by decide +kernel) ?_
          refine awp_region ?_
          refine seqP (intnT rfl rfl rfl (wrap_succ (by omega))) rfl ?_
          refine seqP (moveT rfl) rfl ?_
          refine ops_nil ?_
          refine ⟨(6 + 1), (by show 6 + 1 ≤ n; omega), (turn_ren (fun n => bif Nat.beq n 20006 then 9101 else n) ⟨rfl, rfl, rfl, rfl, rfl, rfl, rfl, rfl, rfl, rfl, rfl, rfl, rfl, trivial⟩ ⟨rfl, rfl, rfl, rfl, (congrArg some (cells_eq (famM_ren (p := 6) (by decide)).symm rfl)), rfl, rfl, rfl, rfl, rfl, rfl, (by show some (Blk.row 1 (List.replicate n [vi 0])) = some (Blk.row 1 ((famZ n (6 + 1) 6).map encInt)); rw [show famZ n (6 + 1) 6 = List.replicate n 0 from rfl, List.map_replicate]; rfl), rfl, rfl, rfl, trivial⟩ rfl rfl), by show n - (6 + 1) < n - 6; omega⟩
        ·
          refine awp_any [0, 1, 0, 0, 8, 31, 63] rfl ?_
          refine .step (rb := []) (wb := []) (ml := [16]) (fieldPT rfl rfl rfl) rfl rfl rfl rfl rfl trivial ?_
          refine .step (rb := [16]) (wb := []) (ml := [9089]) (loadVT rfl rfl rfl rfl) rfl rfl rfl rfl rfl trivial ?_
          refine .step (rb := []) (wb := []) (ml := []) (moveT rfl) rfl rfl rfl rfl rfl trivial ?_
          refine .step (rb := []) (wb := []) (ml := []) (moveT rfl) rfl rfl rfl rfl rfl trivial ?_
          refine .step (rb := []) (wb := [9101]) (ml := [9101]) (makeT (n' := 9101) rfl rfl rfl rfl rfl (by omega) (by omega) (by omega) (by omega) (Int.toNat_natCast n)) rfl rfl rfl rfl rfl ⟨rfl, trivial⟩ ?_
          refine .step (rb := []) (wb := []) (ml := [9089]) (indexWT rfl rfl rfl (by omega) (by omega) (show 0 + ((7 : Nat) : Int).toNat = 7 by rfl)) rfl rfl rfl rfl rfl trivial ?_
          refine .step (rb := [9089]) (wb := [9089]) (ml := [9101, 20000, 20001, 20002, 20003, 20004, 20005, 20006, 20008, 20009]) (storeCT (famM 7 n 9101) (fnames.map (fun m => bif Nat.beq m (20000 + 7) then 9101 else m)) (famM_says (by decide)) rfl rfl rfl rfl rfl hin (if_pos rfl) (fun j _ hj => if_neg hj)) rfl rfl rfl rfl rfl ⟨rfl, trivial⟩ ?_
          refine .done (by decide +kernel) ?_
          refine awp_region ?_
          refine seqP (intnT rfl rfl rfl (wrap_succ (by omega))) rfl ?_
          refine seqP (moveT rfl) rfl ?_
          refine ops_nil ?_
          refine ⟨(7 + 1), (by show 7 + 1 ≤ n; omega), (turn_ren (fun n => bif Nat.beq n 20007 then 9101 else n) ⟨rfl, rfl, rfl, rfl, rfl, rfl, rfl, rfl, rfl, rfl, rfl, rfl, rfl, trivial⟩ ⟨rfl, rfl, rfl, rfl, (congrArg some (cells_eq (famM_ren (p := 7) (by decide)).symm rfl)), rfl, rfl, rfl, rfl, rfl, rfl, rfl, (by show some (Blk.row 1 (List.replicate n [vi 0])) = some (Blk.row 1 ((famZ n (7 + 1) 7).map encInt)); rw [show famZ n (7 + 1) 7 = List.replicate n 0 from rfl, List.map_replicate]; rfl), rfl, rfl, trivial⟩ rfl rfl), by show n - (7 + 1) < n - 7; omega⟩
        ·
          refine awp_any [0, 1, 0, 0, 8, 31, 63] rfl ?_
          refine .step (rb := []) (wb := []) (ml := [16]) (fieldPT rfl rfl rfl) rfl rfl rfl rfl rfl trivial ?_
          refine .step (rb := [16]) (wb := []) (ml := [9089]) (loadVT rfl rfl rfl rfl) rfl rfl rfl rfl rfl trivial ?_
          refine .step (rb := []) (wb := []) (ml := []) (moveT rfl) rfl rfl rfl rfl rfl trivial ?_
          refine .step (rb := []) (wb := []) (ml := []) (moveT rfl) rfl rfl rfl rfl rfl trivial ?_
          refine .step (rb := []) (wb := [9101]) (ml := [9101]) (makeT (n' := 9101) rfl rfl rfl rfl rfl (by omega) (by omega) (by omega) (by omega) (Int.toNat_natCast n)) rfl rfl rfl rfl rfl ⟨rfl, trivial⟩ ?_
          refine .step (rb := []) (wb := []) (ml := [9089]) (indexWT rfl rfl rfl (by omega) (by omega) (show 0 + ((8 : Nat) : Int).toNat = 8 by rfl)) rfl rfl rfl rfl rfl trivial ?_
          refine .step (rb := [9089]) (wb := [9089]) (ml := [9101, 20000, 20001, 20002, 20003, 20004, 20005, 20006, 20007, 20009]) (storeCT (famM 8 n 9101) (fnames.map (fun m => bif Nat.beq m (20000 + 8) then 9101 else m)) (famM_says (by decide)) rfl rfl rfl rfl rfl hin (if_pos rfl) (fun j _ hj => if_neg hj)) rfl rfl rfl rfl rfl ⟨rfl, trivial⟩ ?_
          refine .done (by decide +kernel) ?_
          refine awp_region ?_
          refine seqP (intnT rfl rfl rfl (wrap_succ (by omega))) rfl ?_
          refine seqP (moveT rfl) rfl ?_
          refine ops_nil ?_
          refine ⟨(8 + 1), (by show 8 + 1 ≤ n; omega), (turn_ren (fun n => bif Nat.beq n 20008 then 9101 else n) ⟨rfl, rfl, rfl, rfl, rfl, rfl, rfl, rfl, rfl, rfl, rfl, rfl, rfl, trivial⟩ ⟨rfl, rfl, rfl, rfl, (congrArg some (cells_eq (famM_ren (p := 8) (by decide)).symm rfl)), rfl, rfl, rfl, rfl, rfl, rfl, rfl, rfl, (by show some (Blk.row 1 (List.replicate n [vi 0])) = some (Blk.row 1 ((famZ n (8 + 1) 8).map encInt)); rw [show famZ n (8 + 1) 8 = List.replicate n 0 from rfl, List.map_replicate]; rfl), rfl, trivial⟩ rfl rfl), by show n - (8 + 1) < n - 8; omega⟩
        ·
          refine awp_any [0, 1, 0, 0, 8, 31, 63] rfl ?_
          refine .step (rb := []) (wb := []) (ml := [16]) (fieldPT rfl rfl rfl) rfl rfl rfl rfl rfl trivial ?_
          refine .step (rb := [16]) (wb := []) (ml := [9089]) (loadVT rfl rfl rfl rfl) rfl rfl rfl rfl rfl trivial ?_
          refine .step (rb := []) (wb := []) (ml := []) (moveT rfl) rfl rfl rfl rfl rfl trivial ?_
          refine .step (rb := []) (wb := []) (ml := []) (moveT rfl) rfl rfl rfl rfl rfl trivial ?_
          refine .step (rb := []) (wb := [9101]) (ml := [9101]) (makeT (n' := 9101) rfl rfl rfl rfl rfl (by omega) (by omega) (by omega) (by omega) (Int.toNat_natCast n)) rfl rfl rfl rfl rfl ⟨rfl, trivial⟩ ?_
          refine .step (rb := []) (wb := []) (ml := [9089]) (indexWT rfl rfl rfl (by omega) (by omega) (show 0 + ((9 : Nat) : Int).toNat = 9 by rfl)) rfl rfl rfl rfl rfl trivial ?_
          refine .step (rb := [9089]) (wb := [9089]) (ml := [9101, 20000, 20001, 20002, 20003, 20004, 20005, 20006, 20007, 20008]) (storeCT (famM 9 n 9101) (fnames.map (fun m => bif Nat.beq m (20000 + 9) then 9101 else m)) (famM_says (by decide)) rfl rfl rfl rfl rfl hin (if_pos rfl) (fun j _ hj => if_neg hj)) rfl rfl rfl rfl rfl ⟨rfl, trivial⟩ ?_
          refine .done (by decide +kernel) ?_
          refine awp_region ?_
          refine seqP (intnT rfl rfl rfl (wrap_succ (by omega))) rfl ?_
          refine seqP (moveT rfl) rfl ?_
          refine ops_nil ?_
          refine ⟨(9 + 1), (by show 9 + 1 ≤ n; omega), (turn_ren (fun n => bif Nat.beq n 20009 then 9101 else n) ⟨rfl, rfl, rfl, rfl, rfl, rfl, rfl, rfl, rfl, rfl, rfl, rfl, rfl, trivial⟩ ⟨rfl, rfl, rfl, rfl, (congrArg some (cells_eq (famM_ren (p := 9) (by decide)).symm rfl)), rfl, rfl, rfl, rfl, rfl, rfl, rfl, rfl, rfl, (by show some (Blk.row 1 (List.replicate n [vi 0])) = some (Blk.row 1 ((famZ n (9 + 1) 9).map encInt)); rw [show famZ n (9 + 1) 9 = List.replicate n 0 from rfl, List.map_replicate]; rfl), trivial⟩ rfl rfl), by show n - (9 + 1) < n - 9; omega⟩
      · -- no
        try simp only [mOr, mAnd, decide_eq_true_eq, decide_eq_false_iff_not, beq_iff_eq, beq_eq_false_iff_ne, bne_iff_ne, ne_eq, bne_eq_false_iff_eq, Bool.or_eq_true, Bool.or_eq_false_iff, Bool.and_eq_true, Bool.and_eq_false_iff, Bool.not_eq_true', Bool.not_eq_false', Int.not_lt, Int.not_le, gt_iff_lt, ge_iff_le] at h95
        refine awp_exit ?_
        refine awp_seq ?_
        refine awp_seq ?_
        obtain rfl : n = i := by omega
        refine awp_turn (turn_bindC 15 1 9901 1 (by rfl) (by rfl) (by rfl) (by rfl)) ?_
        refine awp_region ?_
        refine seqP (moveT rfl) rfl ?_
        refine seqP (lenRT rfl rfl ((List.length_map ..).trans hn)) rfl ?_
        refine seqP (moveT rfl) rfl ?_
        refine ops_nil ?_
        refine awp_block ?_
        refine awp_loop (ι := Nat) (fun i => ⟨[(0, .d (.s (l.map encP))), (1, .d (.s (sh.map encU16))), (2, .d (.s ((ints to).map encInt))), (3, .d (.v (.int .u8 way))), (4, .d (vi dx)), (5, .d (vi dy)), (12, .ptr 12 0 0 0), (13, .ptr 13 0 0 0), (14, .d (vi (n : Nat))), (15, .ptr 15 0 0 0), (16, .ptr 16 0 0 0), (105, .d (vi (n : Nat))), (106, .d (vi (i : Nat)))], [(12, some (.var [.nil, .nil])), (13, some (.var [.nil, .nil])), (15, some (.var [.d (.s ((l.map radioA).map encRadio)), .own 9901 0 1 i])), (16, some (.var [.d (.s ((setF to (fun j => moveR way dx dy (radioA (l.getD j default))) default n n).map encRadio)), .own 9089 0 1 n])), (9089, some (.cells n (famF (fun j => if j < n then n else 0)) fnames fam_says)), (9901, some (.row 1 (((List.range i).map (rowS n sh)).map encRow))), (20000, some (.row 1 ((famS n sh to i 0).map encInt))), (20001, some (.row 1 ((famS n sh to i 1).map encInt))), (20002, some (.row 1 ((famS n sh to i 2).map encInt))), (20003, some (.row 1 ((famS n sh to i 3).map encInt))), (20004, some (.row 1 ((famS n sh to i 4).map encInt))), (20005, some (.row 1 ((famS n sh to i 5).map encInt))), (20006, some (.row 1 ((famS n sh to i 6).map encInt))), (20007, some (.row 1 ((famS n sh to i 7).map encInt))), (20008, some (.row 1 ((famS n sh to i 8).map encInt))), (20009, some (.row 1 ((famS n sh to i 9).map encInt)))]⟩) (fun i => i ≤ n) (fun i => n - i) 0 (Nat.zero_le _) (turn_sub ⟨⟨rfl, rfl, rfl, rfl, rfl, rfl, rfl, rfl, rfl, rfl, rfl, rfl, rfl, trivial⟩, ⟨rfl, rfl, rfl, rfl, rfl, rfl, rfl, rfl, rfl, rfl, rfl, rfl, rfl, rfl, rfl, rfl, trivial⟩⟩) (fun i hI => ?_)
        refine awp_seq ?_
        refine awp_region ?_
        refine seqP (intTT rfl rfl rfl) rfl ?_
        refine ops_nil ?_
        refine awp_seq ?_
        refine awp_if rfl (fun h107 => ?_) (fun h107 => ?_)
        · -- yes
          try simp only [mOr, mAnd, decide_eq_true_eq, decide_eq_false_iff_not, beq_iff_eq, beq_eq_false_iff_ne, bne_iff_ne, ne_eq, bne_eq_false_iff_eq, Bool.or_eq_true, Bool.or_eq_false_iff, Bool.and_eq_true, Bool.and_eq_false_iff, Bool.not_eq_true', Bool.not_eq_false', Int.not_lt, Int.not_le, gt_iff_lt, ge_iff_le] at h107
          refine awp_skip ?_
          refine awp_seq ?_
          refine awp_block ?_
          refine awp_seq ?_
          have hin : i < n := by omega
          have hmul : i * n ≤ 10 * 10 := Nat.mul_le_mul (by omega) hn10
          have hmul2 : (i : Int) * (n : Int) = ((i * n : Nat) : Int) := by rw [Int.natCast_mul]
          obtain ⟨x, hx⟩ : ∃ x, to.getD i default = x := ⟨_, rfl⟩
          have hxn : x < n := hx ▸ hto.lt i hin
          have htl := hto.len
          have htx : ((ints to).map encInt)[((i : Nat) : Int).toNat]? = some (encInt ((x : Nat) : Int)) := (idx_getD (z := default) (by rw [ints_len]; omega)).trans (by rw [ints_get (by omega), hx])
          refine awp_region ?_
          refine seqP (moveT rfl) rfl ?_
          refine seqP (assignT rfl) rfl ?_
          refine ops_nil ?_
          refine awp_seq ?_
          refine awp_region ?_
          refine seqP (moveT rfl) rfl ?_
          refine seq1 (makeT (n' := 9110) rfl rfl rfl rfl rfl (by omega) (by omega) (by omega) (by omega) (Int.toNat_natCast n)) rfl rfl ?_
          refine seqP (assignT rfl) rfl ?_
          refine ops_nil ?_
          refine awp_seq ?_
          refine awp_seq ?_
          refine awp_region ?_
          refine seqP (moveT rfl) rfl ?_
          refine seqP (lenWT rfl rfl) rfl ?_
          refine seqP (moveT rfl) rfl ?_
          refine ops_nil ?_
          refine awp_block ?_
          refine awp_loop (ι := Nat × List Int) (fun v => ⟨[(0, .d (.s (l.map encP))), (1, .d (.s (sh.map encU16))), (2, .d (.s ((ints to).map encInt))), (3, .d (.v (.int .u8 way))), (4, .d (vi dx)), (5, .d (vi dy)), (12, .ptr 12 0 0 0), (13, .ptr 13 0 0 0), (14, .d (vi (n : Nat))), (15, .ptr 15 0 0 0), (16, .ptr 16 0 0 0), (21, .d (vi (i : Nat))), (22, .own 9110 0 1 n), (105, .d (vi (n : Nat))), (106, .d (vi (i : Nat))), (112, .d (vi (n : Nat))), (113, .d (vi (v.1 : Nat)))], [(12, some (.var [.nil, .nil])), (13, some (.var [.nil, .nil])), (15, some (.var [.d (.s ((l.map radioA).map encRadio)), .own 9901 0 1 i])), (16, some (.var [.d (.s ((setF to (fun j => moveR way dx dy (radioA (l.getD j default))) default n n).map encRadio)), .own 9089 0 1 n])), (9089, some (.cells n (famF (fun j => if j < n then n else 0)) fnames fam_says)), (9901, some (.row 1 (((List.range i).map (rowS n sh)).map encRow))), (9110, some (.row 1 (v.2.map encInt))), (20000, some (.row 1 ((famS n sh to i 0).map encInt))), (20001, some (.row 1 ((famS n sh to i 1).map encInt))), (20002, some (.row 1 ((famS n sh to i 2).map encInt))), (20003, some (.row 1 ((famS n sh to i 3).map encInt))), (20004, some (.row 1 ((famS n sh to i 4).map encInt))), (20005, some (.row 1 ((famS n sh to i 5).map encInt))), (20006, some (.row 1 ((famS n sh to i 6).map encInt))), (20007, some (.row 1 ((famS n sh to i 7).map encInt))), (20008, some (.row 1 ((famS n sh to i 8).map encInt))), (20009, some (.row 1 ((famS n sh to i 9).map encInt)))]⟩) (fun v => v.1 ≤ n ∧ v.2.length = n ∧ ∀ j, j < n → v.2.getD j default = if j < v.1 then shad n sh i j else 0) (fun v => n - v.1) (0, List.replicate n 0) ⟨Nat.zero_le _, by simp, fun j hj => by simp [List.getD_eq_getElem?_getD, List.getElem?_replicate, hj]⟩ (turn_sub ⟨⟨rfl, rfl, rfl, rfl, rfl, rfl, rfl, rfl, rfl, rfl, rfl, rfl, rfl, rfl, rfl, rfl, rfl, trivial⟩, ⟨rfl, rfl, rfl, rfl, rfl, rfl, (by rw [List.map_replicate]; rfl), rfl, rfl, rfl, rfl, rfl, rfl, rfl, rfl, rfl, rfl, trivial⟩⟩) (fun v hV => ?_)
          obtain ⟨q, L⟩ := v
          obtain ⟨hq, hLl, hLg⟩ := hV
          simp only at hq hLl hLg ⊢
          refine awp_seq ?_
          refine awp_region ?_
          refine seqP (intTT rfl rfl rfl) rfl ?_
          refine ops_nil ?_
          refine awp_seq ?_
          refine awp_if rfl (fun h114 => ?_) (fun h114 => ?_)
          · -- yes
            try simp only [mOr, mAnd, decide_eq_true_eq, decide_eq_false_iff_not, beq_iff_eq, beq_eq_false_iff_ne, bne_iff_ne, ne_eq, bne_eq_false_iff_eq, Bool.or_eq_true, Bool.or_eq_false_iff, Bool.and_eq_true, Bool.and_eq_false_iff, Bool.not_eq_true', Bool.not_eq_false', Int.not_lt, Int.not_le, gt_iff_lt, ge_iff_le] at h114
            refine awp_skip ?_
            refine awp_seq ?_
            refine awp_block ?_
            refine awp_seq ?_
            have hqn : q < n := by omega
            refine awp_region ?_
            refine seqP (moveT rfl) rfl ?_
            refine seqP (assignT rfl) rfl ?_
            refine ops_nil ?_
            refine awp_seq ?_
            refine awp_region ?_
            refine seqP (moveT rfl) rfl ?_
            refine seqP (moveT rfl) rfl ?_
            refine seqP (intTT rfl rfl rfl) rfl ?_
            refine ops_nil ?_
            refine awp_if rfl (fun h118 => ?_) (fun h118 => ?_)
            · -- yes
              have hne : i ≠ q := by simp at h118; omega
              refine awp_region ?_
              refine seqP (moveT rfl) rfl ?_
              refine seqP (moveT rfl) rfl ?_
              refine seqP (moveT rfl) rfl ?_
              refine seqP (moveT rfl) rfl ?_
              refine seqP (moveT rfl) rfl ?_
              refine seqP (intnT rfl rfl rfl (wrap_i64 ⟨by omega, by omega⟩)) rfl ?_
              refine seqP (moveT rfl) rfl ?_
              refine seqP (intnT rfl rfl rfl (wrap_i64 ⟨by omega, by omega⟩)) rfl ?_
              refine seqP (moveT rfl) rfl ?_
              refine seqP (lenRT rfl rfl (List.length_map ..)) rfl ?_
              refine seqP (remT rfl rfl (by omega) (tmod_nn (by omega))) rfl ?_
              have hm0 := Int.emod_nonneg ((i : Int) * (n : Int) + (q : Int)) (show (sh.length : Int) ≠ 0 by omega)
              have hm1 := Int.emod_lt_of_pos ((i : Int) * (n : Int) + (q : Int)) (show (0 : Int) < (sh.length : Int) by omega)
              have hsx := hsh _ (mem_getD (l := sh) (i := (((i : Int) * (n : Int) + (q : Int)) % (sh.length : Int)).toNat) (by omega))
              refine seqP (indexRT rfl rfl rfl hm0 (row_getD (z := default) (by omega)) rfl) rfl ?_
              refine seqP (loadRT rfl rfl rfl) rfl ?_
              refine seqP (convT rfl rfl rfl (wrap_i64 ⟨by omega, by omega⟩)) rfl ?_
              refine seqP (remT rfl rfl (by omega) (show _ = shad n sh i q by rw [tmod_nn hsx.1]; unfold shad; rw [if_pos hne])) rfl ?_
              refine seqP (indexWT rfl rfl rfl (by omega) (by omega) (show 0 + ((q : Nat) : Int).toNat = q by simp)) rfl ?_
              refine seq0 (storeWT rfl rfl rfl rfl rfl (row_getD (z := default) (by omega)) rfl rfl rfl) ?_
              refine ops_nil ?_
              refine awp_region ?_
              refine seqP (intnT rfl rfl rfl (wrap_succ (by omega))) rfl ?_
              refine seqP (moveT rfl) rfl ?_
              refine ops_nil ?_
              refine ⟨(q + 1, L.set q (shad n sh i q)), ⟨by show q + 1 ≤ n; omega, by simpa using hLl, fill_step hLl hqn hLg⟩, (turn_sub ⟨⟨rfl, rfl, rfl, rfl, rfl, rfl, rfl, rfl, rfl, rfl, rfl, rfl, rfl, rfl, rfl, rfl, rfl, trivial⟩, ⟨rfl, rfl, rfl, rfl, rfl, rfl, (congrArg (fun r => some (Blk.row 1 r)) List.map_set.symm), rfl, rfl, rfl, rfl, rfl, rfl, rfl, rfl, rfl, rfl, trivial⟩⟩), by show n - (q + 1) < n - q; omega⟩
            · -- no
              have hiq : i = q := by simp at h118; omega
              refine awp_skip ?_
              refine awp_region ?_
              refine seqP (intnT rfl rfl rfl (wrap_succ (by omega))) rfl ?_
              refine seqP (moveT rfl) rfl ?_
              refine ops_nil ?_
              refine ⟨(q + 1, L), ⟨by show q + 1 ≤ n; omega, hLl, fill_skip (by rw [← hiq]; simp [shad]) hLg⟩, (turn_sub ⟨⟨rfl, rfl, rfl, rfl, rfl, rfl, rfl, rfl, rfl, rfl, rfl, rfl, rfl, rfl, rfl, rfl, rfl, trivial⟩, ⟨rfl, rfl, rfl, rfl, rfl, rfl, rfl, rfl, rfl, rfl, rfl, rfl, rfl, rfl, rfl, rfl, rfl, trivial⟩⟩), by show n - (q + 1) < n - q; omega⟩
          · -- no
            try simp only [mOr, mAnd, decide_eq_true_eq, decide_eq_false_iff_not, beq_iff_eq, beq_eq_false_iff_ne, bne_iff_ne, ne_eq, bne_eq_false_iff_eq, Bool.or_eq_true, Bool.or_eq_false_iff, Bool.and_eq_true, Bool.and_eq_false_iff, Bool.not_eq_true', Bool.not_eq_false', Int.not_lt, Int.not_le, gt_iff_lt, ge_iff_le] at h114
            refine awp_exit ?_
            refine awp_seq ?_
            obtain rfl : n = q := by omega
            have hLe : L = rowS n sh i := fill_end hLl hLg
            subst hLe
            refine awp_turn (freezeT 22 9110 rfl rfl (by rw [List.length_map]; exact hLl)) ?_
            refine awp_region ?_
            refine seqP (fieldPT rfl rfl rfl) rfl ?_
            refine seqP (loadVT rfl rfl rfl rfl) rfl ?_
            refine seqP (moveT rfl) rfl ?_
            refine seqP (litT rfl rfl rfl rfl rfl rfl rfl rfl) rfl ?_
            refine seq2 (appendT (b' := 140) rfl rfl rfl rfl rfl rfl (by simp) (fun row h => by simp at h; subst h; rfl) (show i + 1 = i + 1 from rfl) (show _ = ((List.range (i + 1)).map (rowS n sh)).map encRow by rw [List.range_succ, List.map_append, List.map_append]; rfl) (by omega) (by omega)) rfl rfl ?_
            refine seqP (fieldPT rfl rfl rfl) rfl ?_
            refine seq0 (storeVT rfl rfl rfl rfl rfl rfl rfl) ?_
            refine ops_nil ?_
            refine awp_seq ?_
            refine awp_region ?_
            refine seqP (moveT rfl) rfl ?_
            refine seqP (lenRT rfl rfl ((List.length_map ..).trans hLl)) rfl ?_
            refine seqP (moveT rfl) rfl ?_
            refine ops_nil ?_
            refine awp_block ?_
            refine awp_loop (ι := Nat) (fun q => ⟨[(0, .d (.s (l.map encP))), (1, .d (.s (sh.map encU16))), (2, .d (.s ((ints to).map encInt))), (3, .d (.v (.int .u8 way))), (4, .d (vi dx)), (5, .d (vi dy)), (12, .ptr 12 0 0 0), (13, .ptr 13 0 0 0), (14, .d (vi (n : Nat))), (15, .ptr 15 0 0 0), (16, .ptr 16 0 0 0), (21, .d (vi (i : Nat))), (22, .d (.s ((rowS n sh i).map encInt))), (105, .d (vi (n : Nat))), (106, .d (vi (i : Nat))), (143, .d (vi (n : Nat))), (144, .d (vi (q : Nat)))], [(12, some (.var [.nil, .nil])), (13, some (.var [.nil, .nil])), (15, some (.var [.d (.s ((l.map radioA).map encRadio)), .own 140 0 1 (i + 1)])), (16, some (.var [.d (.s ((setF to (fun j => moveR way dx dy (radioA (l.getD j default))) default n n).map encRadio)), .own 9089 0 1 n])), (9089, some (.cells n (famF (fun j => if j < n then n else 0)) fnames fam_says)), (140, some (.row 1 (((List.range (i + 1)).map (rowS n sh)).map encRow))), (20000, some (.row 1 ((famG n sh to i q 0).map encInt))), (20001, some (.row 1 ((famG n sh to i q 1).map encInt))), (20002, some (.row 1 ((famG n sh to i q 2).map encInt))), (20003, some (.row 1 ((famG n sh to i q 3).map encInt))), (20004, some (.row 1 ((famG n sh to i q 4).map encInt))), (20005, some (.row 1 ((famG n sh to i q 5).map encInt))), (20006, some (.row 1 ((famG n sh to i q 6).map encInt))), (20007, some (.row 1 ((famG n sh to i q 7).map encInt))), (20008, some (.row 1 ((famG n sh to i q 8).map encInt))), (20009, some (.row 1 ((famG n sh to i q 9).map encInt)))]⟩) (fun q => q ≤ n) (fun q => n - q) 0 (Nat.zero_le _) (turn_sub ⟨⟨rfl, rfl, rfl, rfl, rfl, rfl, rfl, rfl, rfl, rfl, rfl, rfl, rfl, rfl, rfl, rfl, rfl, trivial⟩, ⟨rfl, rfl, rfl, rfl, rfl, rfl, (by rw [famG_zero hto hin]; rfl), (by rw [famG_zero hto hin]; rfl), (by rw [famG_zero hto hin]; rfl), (by rw [famG_zero hto hin]; rfl), (by rw [famG_zero hto hin]; rfl), (by rw [famG_zero hto hin]; rfl), (by rw [famG_zero hto hin]; rfl), (by rw [famG_zero hto hin]; rfl), (by rw [famG_zero hto hin]; rfl), (by rw [famG_zero hto hin]; rfl), trivial⟩⟩) (fun q hQ => ?_)
            refine awp_seq ?_
            refine awp_region ?_
            refine seqP (intTT rfl rfl rfl) rfl ?_
            refine ops_nil ?_
            refine awp_seq ?_
            refine awp_if rfl (fun h145 => ?_) (fun h145 => ?_)
            · -- yes
              try simp only [mOr, mAnd, decide_eq_true_eq, decide_eq_false_iff_not, beq_iff_eq, beq_eq_false_iff_ne, bne_iff_ne, ne_eq, bne_eq_false_iff_eq, Bool.or_eq_true, Bool.or_eq_false_iff, Bool.and_eq_true, Bool.and_eq_false_iff, Bool.not_eq_true', Bool.not_eq_false', Int.not_lt, Int.not_le, gt_iff_lt, ge_iff_le] at h145
              refine awp_skip ?_
              refine awp_seq ?_
              refine awp_block ?_
              refine awp_seq ?_
              have hqn : q < n := by omega
              have htq := hto.lt q hqn
              have htqr : ((ints to).map encInt)[((q : Nat) : Int).toNat]? = some (encInt ((to.getD q default : Nat) : Int)) := (idx_getD (z := default) (by rw [ints_len]; omega)).trans (by rw [ints_get (by omega)])
              have hrq : ((rowS n sh i).map encInt)[((q : Nat) : Int).toNat]? = some (encInt (shad n sh i q)) := (idx_getD (z := default) (by omega)).trans (by rw [rowS_get hqn])
              have hgl : (famG n sh to i q x).length = n := by rw [famG_len hto hin, if_pos hxn]
              refine awp_region ?_
              refine seqP (moveT rfl) rfl ?_
              refine seqP (assignT rfl) rfl ?_
              refine ops_nil ?_
              clear htl hmul hmul2
              rcases (show x = 0 ∨ x = 1 ∨ x = 2 ∨ x = 3 ∨ x = 4 ∨ x = 5 ∨ x = 6 ∨ x = 7 ∨ x = 8 ∨ x = 9 by omega) with rfl | rfl | rfl | rfl | rfl | rfl | rfl | rfl | rfl | rfl
              ·
                refine awp_any [0, 1, 0, 0, 12, 28, 63, 127, 0, 0, 768, 1792, 0, 0, 12288, 28672, 65535, 131071] rfl ?_
                refine .step (rb := []) (wb := []) (ml := [16]) (fieldPT rfl rfl rfl) rfl rfl rfl rfl rfl trivial ?_
                refine .step (rb := [16]) (wb := []) (ml := [9089]) (loadVT rfl rfl rfl rfl) rfl rfl rfl rfl rfl trivial ?_
                refine .step (rb := []) (wb := []) (ml := []) (moveT rfl) rfl rfl rfl rfl rfl trivial ?_
                refine .step (rb := []) (wb := []) (ml := []) (moveT rfl) rfl rfl rfl rfl rfl trivial ?_
                refine .step (rb := []) (wb := []) (ml := []) (indexRT rfl rfl rfl (by omega) htx rfl) rfl rfl rfl rfl rfl trivial ?_
                refine .step (rb := []) (wb := []) (ml := []) (loadRT rfl rfl rfl) rfl rfl rfl rfl rfl trivial ?_
                refine .step (rb := []) (wb := []) (ml := [9089]) (indexWT rfl rfl rfl (by omega) (by omega) (show 0 + ((0 : Nat) : Int).toNat = 0 by rfl)) rfl rfl rfl rfl rfl trivial ?_
                refine .step (rb := [9089]) (wb := []) (ml := [20000]) (loadCT rfl rfl rfl hxn (show famF _ 0 = .own 20000 0 1 n from famF_get (by decide) hxn)) rfl rfl rfl rfl rfl trivial ?_
                refine .step (rb := []) (wb := []) (ml := []) (moveT rfl) rfl rfl rfl rfl rfl trivial ?_
                refine .step (rb := []) (wb := []) (ml := []) (moveT rfl) rfl rfl rfl rfl rfl trivial ?_
                refine .step (rb := []) (wb := []) (ml := []) (indexRT rfl rfl rfl (by omega) htqr rfl) rfl rfl rfl rfl rfl trivial ?_
                refine .step (rb := []) (wb := []) (ml := []) (loadRT rfl rfl rfl) rfl rfl rfl rfl rfl trivial ?_
                refine .step (rb := []) (wb := []) (ml := []) (moveT rfl) rfl rfl rfl rfl rfl trivial ?_
                refine .step (rb := []) (wb := []) (ml := []) (moveT rfl) rfl rfl rfl rfl rfl trivial ?_
                refine .step (rb := []) (wb := []) (ml := []) (indexRT rfl rfl rfl (by omega) hrq rfl) rfl rfl rfl rfl rfl trivial ?_
                refine .step (rb := []) (wb := []) (ml := []) (loadRT rfl rfl rfl) rfl rfl rfl rfl rfl trivial ?_
                refine .step (rb := []) (wb := []) (ml := [20000]) (indexWT rfl rfl rfl (by omega) (by omega) (show 0 + ((to.getD q default : Nat) : Int).toNat = to.getD q default by simp)) rfl rfl rfl rfl rfl trivial ?_
                refine .step (rb := [20000]) (wb := [20000]) (ml := []) (storeWT rfl rfl rfl rfl rfl (row_getD (z := default) (by rw [hgl]; exact htq)) rfl rfl rfl) rfl rfl rfl rfl rfl ⟨rfl, trivial⟩ ?_
                refine .done (by decide +kernel) ?_
                refine awp_region ?_
                refine seqP (intnT rfl rfl rfl (wrap_succ (by omega))) rfl ?_
                refine seqP (moveT rfl) rfl ?_
                refine ops_nil ?_
                refine ⟨(q + 1), (by show q + 1 ≤ n; omega), (turn_sub ⟨⟨rfl, rfl, rfl, rfl, rfl, rfl, rfl, rfl, rfl, rfl, rfl, rfl, rfl, rfl, rfl, rfl, rfl, trivial⟩, ⟨rfl, rfl, rfl, rfl, rfl, rfl, (show some (Blk.row 1 (((famG n sh to i q 0).map encInt).set (to.getD q default) [vi (shad n sh i q)])) = some (Blk.row 1 ((famG n sh to i (q + 1) 0).map encInt)) by rw [famG_step hx, List.map_set]; rfl), (show some (Blk.row 1 ((famG n sh to i q 1).map encInt)) = some (Blk.row 1 ((famG n sh to i (q + 1) 1).map encInt)) by rw [famG_other (v := 1) hx (by decide)]), (show some (Blk.row 1 ((famG n sh to i q 2).map encInt)) = some (Blk.row 1 ((famG n sh to i (q + 1) 2).map encInt)) by rw [famG_other (v := 2) hx (by decide)]), (show some (Blk.row 1 ((famG n sh to i q 3).map encInt)) = some (Blk.row 1 ((famG n sh to i (q + 1) 3).map encInt)) by rw [famG_other (v := 3) hx (by decide)]), (show some (Blk.row 1 ((famG n sh to i q 4).map encInt)) = some (Blk.row 1 ((famG n sh to i (q + 1) 4).map encInt)) by rw [famG_other (v := 4) hx (by decide)]), (show some (Blk.row 1 ((famG n sh to i q 5).map encInt)) = some (Blk.row 1 ((famG n sh to i (q + 1) 5).map encInt)) by rw [famG_other (v := 5) hx (by decide)]), (show some (Blk.row 1 ((famG n sh to i q 6).map encInt)) = some (Blk.row 1 ((famG n sh to i (q + 1) 6).map encInt)) by rw [famG_other (v := 6) hx (by decide)]), (show some (Blk.row 1 ((famG n sh to i q 7).map encInt)) = some (Blk.row 1 ((famG n sh to i (q + 1) 7).map encInt)) by rw [famG_other (v := 7) hx (by decide)]), (show some (Blk.row 1 ((famG n sh to i q 8).map encInt)) = some (Blk.row 1 ((famG n sh to i (q + 1) 8).map encInt)) by rw [famG_other (v := 8) hx (by decide)]), (show some (Blk.row 1 ((famG n sh to i q 9).map encInt)) = some (Blk.row 1 ((famG n sh to i (q + 1) 9).map encInt)) by rw [famG_other (v := 9) hx (by decide)]), trivial⟩⟩), by show n - (q + 1) < n - q; omega⟩
              ·
                refine awp_any [0, 1, 0, 0, 12, 28, 63, 127, 0, 0, 768, 1792, 0, 0, 12288, 28672, 65535, 131071] rfl ?_
                refine .step (rb := []) (wb := []) (ml := [16]) (fieldPT rfl rfl rfl) rfl rfl rfl rfl rfl trivial ?_
                refine .step (rb := [16]) (wb := []) (ml := [9089]) (loadVT rfl rfl rfl rfl) rfl rfl rfl rfl rfl trivial ?_
                refine .step (rb := []) (wb := []) (ml := []) (moveT rfl) rfl rfl rfl rfl rfl trivial ?_
                refine .step (rb := []) (wb := []) (ml := []) (moveT rfl) rfl rfl rfl rfl rfl trivial ?_
                refine .step (rb := []) (wb := []) (ml := []) (indexRT rfl rfl rfl (by omega) htx rfl) rfl rfl rfl rfl rfl trivial ?_
                refine .step (rb := []) (wb := []) (ml := []) (loadRT rfl rfl rfl) rfl rfl rfl rfl rfl trivial ?_
                refine .step (rb := []) (wb := []) (ml := [9089]) (indexWT rfl rfl rfl (by omega) (by omega) (show 0 + ((1 : Nat) : Int).toNat = 1 by rfl)) rfl rfl rfl rfl rfl trivial ?_
                refine .step (rb := [9089]) (wb := []) (ml := [20001]) (loadCT rfl rfl rfl hxn (show famF _ 1 = .own 20001 0 1 n from famF_get (by decide) hxn)) rfl rfl rfl rfl rfl trivial ?_
                refine .step (rb := []) (wb := []) (ml := []) (moveT rfl) rfl rfl rfl rfl rfl trivial ?_
                refine .step (rb := []) (wb := []) (ml := []) (moveT rfl) rfl rfl rfl rfl rfl trivial ?_
                refine .step (rb := []) (wb := []) (ml := []) (indexRT rfl rfl rfl (by omega) htqr rfl) rfl rfl rfl rfl rfl trivial ?_
                refine .step (rb := []) (wb := []) (ml := []) (loadRT rfl rfl rfl) rfl rfl rfl rfl rfl trivial ?_
                refine .step (rb := []) (wb := []) (ml := []) (moveT rfl) rfl rfl rfl rfl rfl trivial ?_
                refine .step (rb := []) (wb := []) (ml := []) (moveT rfl) rfl rfl rfl rfl rfl trivial ?_
                refine .step (rb := []) (wb := []) (ml := []) (indexRT rfl rfl rfl (by omega) hrq rfl) rfl rfl rfl rfl rfl trivial ?_
                refine .step (rb := []) (wb := []) (ml := []) (loadRT rfl rfl rfl) rfl rfl rfl rfl rfl trivial ?_
                refine .step (rb := []) (wb := []) (ml := [20001]) (indexWT rfl rfl rfl (by omega) (by omega) (show 0 + ((to.getD q default : Nat) : Int).toNat = to.getD q default by simp)) rfl rfl rfl rfl rfl trivial ?_
                refine .step (rb := [20001]) (wb := [20001]) (ml := []) (storeWT rfl rfl rfl rfl rfl (row_getD (z := default) (by rw [hgl]; exact htq)) rfl rfl rfl) rfl rfl rfl rfl rfl ⟨rfl, trivial⟩ ?_
                refine .done (by decide +kernel) ?_
                refine awp_region ?_
                refine seqP (intnT rfl rfl rfl (wrap_succ (by omega))) rfl ?_
                refine seqP (moveT rfl) rfl ?_
                refine ops_nil ?_
                refine ⟨(q + 1), (by show q + 1 ≤ n; omega), (turn_sub ⟨⟨rfl, rfl, rfl, rfl, rfl, rfl, rfl, rfl, rfl, rfl, rfl, rfl, rfl, rfl, rfl, rfl, rfl, trivial⟩, ⟨rfl, rfl, rfl, rfl, rfl, rfl, (show some (Blk.row 1 ((famG n sh to i q 0).map encInt)) = some (Blk.row 1 ((famG n sh to i (q + 1) 0).map encInt)) by rw [famG_other (v := 0) hx (by decide)]), (show some (Blk.row 1 (((famG n sh to i q 1).map encInt).set (to.getD q default) [vi (shad n sh i q)])) = some (Blk.row 1 ((famG n sh to i (q + 1) 1).map encInt)) by rw [famG_step hx, List.map_set]; rfl), (show some (Blk.row 1 ((famG n sh to i q 2).map encInt)) = some (Blk.row 1 ((famG n sh to i (q + 1) 2).map encInt)) by rw [famG_other (v := 2) hx (by decide)]), (show some (Blk.row 1 ((famG n sh to i q 3).map encInt)) = some (Blk.row 1 ((famG n sh to i (q + 1) 3).map encInt)) by rw [famG_other (v := 3) hx (by decide)]), (show some (Blk.row 1 ((famG n sh to i q 4).map encInt)) = some (Blk.row 1 ((famG n sh to i (q + 1) 4).map encInt)) by rw [famG_other (v := 4) hx (by decide)]), (show some (Blk.row 1 ((famG n sh to i q 5).map encInt)) = some (Blk.row 1 ((famG n sh to i (q + 1) 5).map encInt)) by rw [famG_other (v := 5) hx (by decide)]), (show some (Blk.row 1 ((famG n sh to i q 6).map encInt)) = some (Blk.row 1 ((famG n sh to i (q + 1) 6).map encInt)) by rw [famG_other (v := 6) hx (by decide)]), (show some (Blk.row 1 ((famG n sh to i q 7).map encInt)) = some (Blk.row 1 ((famG n sh to i (q + 1) 7).map encInt)) by rw [famG_other (v := 7) hx (by decide)]), (show some (Blk.row 1 ((famG n sh to i q 8).map encInt)) = some (Blk.row 1 ((famG n sh to i (q + 1) 8).map encInt)) by rw [famG_other (v := 8) hx (by decide)]), (show some (Blk.row 1 ((famG n sh to i q 9).map encInt)) = some (Blk.row 1 ((famG n sh to i (q + 1) 9).map encInt)) by rw [famG_other (v := 9) hx (by decide)]), trivial⟩⟩), by show n - (q + 1) < n - q; omega⟩
              ·
                refine awp_any [0, 1, 0, 0, 12, 28, 63, 127, 0, 0, 768, 1792, 0, 0, 12288, 28672, 65535, 131071] rfl ?_
                refine .step (rb := []) (wb := []) (ml := [16]) (fieldPT rfl rfl rfl) rfl rfl rfl rfl rfl trivial ?_
                refine .step (rb := [16]) (wb := []) (ml := [9089]) (loadVT rfl rfl rfl rfl) rfl rfl rfl rfl rfl trivial ?_
                refine .step (rb := []) (wb := []) (ml := []) (moveT rfl) rfl rfl rfl rfl rfl trivial ?_
                refine .step (rb := []) (wb := []) (ml := []) (moveT rfl) rfl rfl rfl rfl rfl trivial ?_
                refine .step (rb := []) (wb := []) (ml := []) (indexRT rfl rfl rfl (by omega) htx rfl) rfl rfl rfl rfl rfl trivial ?_
                refine .step (rb := []) (wb := []) (ml := []) (loadRT rfl rfl rfl) rfl rfl rfl rfl rfl trivial ?_
                refine .step (rb := []) (wb := []) (ml := [9089]) (indexWT rfl rfl rfl (by omega) (by omega) (show 0 + ((2 : Nat) : Int).toNat = 2 by rfl)) rfl rfl rfl rfl rfl trivial ?_
                refine .step (rb := [9089]) (wb := []) (ml := [20002]) (loadCT rfl rfl rfl hxn (show famF _ 2 = .own 20002 0 1 n from famF_get (by decide) hxn)) rfl rfl rfl rfl rfl trivial ?_
                refine .step (rb := []) (wb := []) (ml := []) (moveT rfl) rfl rfl rfl rfl rfl trivial ?_
                refine .step (rb := []) (wb := []) (ml := []) (moveT rfl) rfl rfl rfl rfl rfl trivial ?_
                refine .step (rb := []) (wb := []) (ml := []) (indexRT rfl rfl rfl (by omega) htqr rfl) rfl rfl rfl rfl rfl trivial ?_
                refine .step (rb := []) (wb := []) (ml := []) (loadRT rfl rfl rfl) rfl rfl rfl rfl rfl trivial ?_
                refine .step (rb := []) (wb := []) (ml := []) (moveT rfl) rfl rfl rfl rfl rfl trivial ?_
                refine .step (rb := []) (wb := []) (ml := []) (moveT rfl) rfl rfl rfl rfl rfl trivial ?_
                refine .step (rb := []) (wb := []) (ml := []) (indexRT rfl rfl rfl (by omega) hrq rfl) rfl rfl rfl rfl rfl trivial ?_
                refine .step (rb := []) (wb := []) (ml := []) (loadRT rfl rfl rfl) rfl rfl rfl rfl rfl trivial ?_
                refine .step (rb := []) (wb := []) (ml := [20002]) (indexWT rfl rfl rfl (by omega) (by omega) (show 0 + ((to.getD q default : Nat) : Int).toNat = to.getD q default by simp)) rfl rfl rfl rfl rfl trivial ?_
                refine .step (rb := [20002]) (wb := [20002]) (ml := []) (storeWT rfl rfl rfl rfl rfl (row_getD (z := default) (by rw [hgl]; exact htq)) rfl rfl rfl) rfl rfl rfl rfl rfl ⟨rfl, trivial⟩ ?_
                refine .done (by decide +kernel) ?_
                refine awp_region ?_
                refine seqP (intnT rfl rfl rfl (wrap_succ (by omega))) rfl ?_
                refine seqP (moveT rfl) rfl ?_
                refine ops_nil ?_
                refine ⟨(q + 1), (by show q + 1 ≤ n; omega), (turn_sub ⟨⟨rfl, rfl, rfl, rfl, rfl, rfl, rfl, rfl, rfl, rfl, rfl, rfl, rfl, rfl, rfl, rfl, rfl, trivial⟩, ⟨rfl, rfl, rfl, rfl, rfl, rfl, (show some (Blk.row 1 ((famG n sh to i q 0).map encInt)) = some (Blk.row 1 ((famG n sh to i (q + 1) 0).map encInt)) by rw [famG_other (v := 0) hx (by decide)]), (show some (Blk.row 1 ((famG n sh to i q 1).map encInt)) = some (Blk.row 1 ((famG n sh to i (q + 1) 1).map encInt)) by rw [famG_other (v := 1) hx (by decide)]), (show some (Blk.row 1 (((famG n sh to i q 2).map encInt).set (to.getD q default) [vi (shad n sh i q)])) = some (Blk.row 1 ((famG n sh to i (q + 1) 2).map encInt)) by rw [famG_step hx, List.map_set]; rfl), (show some (Blk.row 1 ((famG n sh to i q 3).map encInt)) = some (Blk.row 1 ((famG n sh to i (q + 1) 3).map encInt)) by rw [famG_other (v := 3) hx (by decide)]), (show some (Blk.row 1 ((famG n sh to i q 4).map encInt)) = some (Blk.row 1 ((famG n sh to i (q + 1) 4).map encInt)) by rw [famG_other (v := 4) hx (by decide)]), (show some (Blk.row 1 ((famG n sh to i q 5).map encInt)) = some (Blk.row 1 ((famG n sh to i (q + 1) 5).map encInt)) by rw [famG_other (v := 5) hx (by decide)]), (show some (Blk.row 1 ((famG n sh to i q 6).map encInt)) = some (Blk.row 1 ((famG n sh to i (q + 1) 6).map encInt)) by rw [famG_other (v := 6) hx (by decide)]), (show some (Blk.row 1 ((famG n sh to i q 7).map encInt)) = some (Blk.row 1 ((famG n sh to i (q + 1) 7).map encInt)) by rw [famG_other (v := 7) hx (by decide)]), (show some (Blk.row 1 ((famG n sh to i q 8).map encInt)) = some (Blk.row 1 ((famG n sh to i (q + 1) 8).map encInt)) by rw [famG_other (v := 8) hx (by decide)]), (show some (Blk.row 1 ((famG n sh to i q 9).map encInt)) = some (Blk.row 1 ((famG n sh to i (q + 1) 9).map encInt)) by rw [famG_other (v := 9) hx (by decide)]), trivial⟩⟩), by show n - (q + 1) < n - q; omega⟩
              ·
                refine awp_any [0, 1, 0, 0, 12, 28, 63, 127, 0, 0, 768, 1792, 0, 0, 12288, 28672, 65535, 131071] rfl ?_
                refine .step (rb := []) (wb := []) (ml := [16]) (fieldPT rfl rfl rfl) rfl rfl rfl rfl rfl trivial ?_
                refine .step (rb := [16]) (wb := []) (ml := [9089]) (loadVT rfl rfl rfl rfl) rfl rfl rfl rfl rfl trivial ?_
                refine .step (rb := []) (wb := []) (ml := []) (moveT rfl) rfl rfl rfl rfl rfl trivial ?_
                refine .step (rb := []) (wb := []) (ml := []) (moveT rfl) rfl rfl rfl rfl rfl trivial ?_
                refine .step (rb := []) (wb := []) (ml := []) (indexRT rfl rfl rfl (by omega) htx rfl) rfl rfl rfl rfl rfl trivial ?_
                refine .step (rb := []) (wb := []) (ml := []) (loadRT rfl rfl rfl) rfl rfl rfl rfl rfl trivial ?_
                refine .step (rb := []) (wb := []) (ml := [9089]) (indexWT rfl rfl rfl (by omega) (by omega) (show 0 + ((3 : Nat) : Int).toNat = 3 by rfl)) rfl rfl rfl rfl rfl trivial ?_
                refine .step (rb := [9089]) (wb := []) (ml := [20003]) (loadCT rfl rfl rfl hxn (show famF _ 3 = .own 20003 0 1 n from famF_get (by decide) hxn)) rfl rfl rfl rfl rfl trivial ?_
                refine .step (rb := []) (wb := []) (ml := []) (moveT rfl) rfl rfl rfl rfl rfl trivial ?_
                refine .step (rb := []) (wb := []) (ml := []) (moveT rfl) rfl rfl rfl rfl rfl trivial ?_
                refine .step (rb := []) (wb := []) (ml := []) (indexRT rfl rfl rfl (by omega) htqr rfl) rfl rfl rfl rfl rfl trivial ?_
                refine .step (rb := []) (wb := []) (ml := []) (loadRT rfl rfl rfl) rfl rfl rfl rfl rfl trivial ?_
                refine .step (rb := []) (wb := []) (ml := []) (moveT rfl) rfl rfl rfl rfl rfl trivial ?_
                refine .step (rb := []) (wb := []) (ml := []) (moveT rfl) rfl rfl rfl rfl rfl trivial ?_
                refine .step (rb := []) (wb := []) (ml := []) (indexRT rfl rfl rfl (by omega) hrq rfl) rfl rfl rfl rfl rfl trivial ?_
                refine .step (rb := []) (wb := []) (ml := []) (loadRT rfl rfl rfl) rfl rfl rfl rfl rfl trivial ?_
                refine .step (rb := []) (wb := []) (ml := [20003]) (indexWT rfl rfl rfl (by omega) (by omega) (show 0 + ((to.getD q default : Nat) : Int).toNat = to.getD q default by simp)) rfl rfl rfl rfl rfl trivial ?_
                refine .step (rb := [20003]) (wb := [20003]) (ml := []) (storeWT rfl rfl rfl rfl rfl (row_getD (z := default) (by rw [hgl]; exact htq)) rfl rfl rfl) rfl rfl rfl rfl rfl ⟨rfl, trivial⟩ ?_
                refine .done (by decide +kernel) ?_
                refine awp_region ?_
                refine seqP (intnT rfl rfl rfl (wrap_succ (by omega))) rfl ?_
                refine seqP (moveT rfl) rfl ?_
                refine ops_nil ?_
                refine ⟨(q + 1), (by show q + 1 ≤ n; omega), (turn_sub ⟨⟨rfl, rfl, rfl, rfl, rfl, rfl, rfl, rfl, rfl, rfl, rfl, rfl, rfl, rfl, rfl, rfl, rfl, trivial⟩, ⟨rfl, rfl, rfl, rfl, rfl, rfl, (show some (Blk.row 1 ((famG n sh to i q 0).map encInt)) = some (Blk.row 1 ((famG n sh to i (q + 1) 0).map encInt)) by rw [famG_other (v := 0) hx (by decide)]), (show some (Blk.row 1 ((famG n sh to i q 1).map encInt)) = some (Blk.row 1 ((famG n sh to i (q + 1) 1).map encInt)) by rw [famG_other (v := 1) hx (by decide)]), (show some (Blk.row 1 ((famG n sh to i q 2).map encInt)) = some (Blk.row 1 ((famG n sh to i (q + 1) 2).map encInt)) by rw [famG_other (v := 2) hx (by decide)]), (show some (Blk.row 1 (((famG n sh to i q 3).map encInt).set (to.getD q default) [vi (shad n sh i q)])) = some (Blk.row 1 ((famG n sh to i (q + 1) 3).map encInt)) by rw [famG_step hx, List.map_set]; rfl), (show some (Blk.row 1 ((famG n sh to i q 4).map encInt)) = some (Blk.row 1 ((famG n sh to i (q + 1) 4).map encInt)) by rw [famG_other (v := 4) hx (by decide)]), (show some (Blk.row 1 ((famG n sh to i q 5).map encInt)) = some (Blk.row 1 ((famG n sh to i (q + 1) 5).map encInt)) by rw [famG_other (v := 5) hx (by decide)]), (show some (Blk.row 1 ((famG n sh to i q 6).map encInt)) = some (Blk.row 1 ((famG n sh to i (q + 1) 6).map encInt)) by rw [famG_other (v := 6) hx (by decide)]), (show some (Blk.row 1 ((famG n sh to i q 7).map encInt)) = some (Blk.row 1 ((famG n sh to i (q + 1) 7).map encInt)) by rw [famG_other (v := 7) hx (by decide)]), (show some (Blk.row 1 ((famG n sh to i q 8).map encInt)) = some (Blk.row 1 ((famG n sh to i (q + 1) 8).map encInt)) by rw [famG_other (v := 8) hx (by decide)]), (show some (Blk.row 1 ((famG n sh to i q 9).map encInt)) = some (Blk.row 1 ((famG n sh to i (q + 1) 9).map encInt)) by rw [famG_other (v := 9) hx (by decide)]), trivial⟩⟩), by show n - (q + 1) < n - q; omega⟩
              ·
                refine awp_any [0, 1, 0, 0, 12, 28, 63, 127, 0, 0, 768, 1792, 0, 0, 12288, 28672, 65535, 131071] rfl ?_
                refine .step (rb := []) (wb := []) (ml := [16]) (fieldPT rfl rfl rfl) rfl rfl rfl rfl rfl trivial ?_
                refine .step (rb := [16]) (wb := []) (ml := [9089]) (loadVT rfl rfl rfl rfl) rfl rfl rfl rfl rfl trivial ?_
                refine .step (rb := []) (wb := []) (ml := []) (moveT rfl) rfl rfl rfl rfl rfl trivial ?_
                refine .step (rb := []) (wb := []) (ml := []) (moveT rfl) rfl rfl rfl rfl rfl trivial ?_
                refine .step (rb := []) (wb := []) (ml := []) (indexRT rfl rfl rfl (by omega) htx rfl) rfl rfl rfl rfl rfl trivial ?_
                refine .step (rb := []) (wb := []) (ml := []) (loadRT rfl rfl rfl) rfl rfl rfl rfl rfl trivial ?_
                refine .step (rb := []) (wb := []) (ml := [9089]) (indexWT rfl rfl rfl (by omega) (by omega) (show 0 + ((4 : Nat) : Int).toNat = 4 by rfl)) rfl rfl rfl rfl rfl trivial ?_
                refine .step (rb := [9089]) (wb := []) (ml := [20004]) (loadCT rfl rfl rfl hxn (show famF _ 4 = .own 20004 0 1 n from famF_get (by decide) hxn)) rfl rfl rfl rfl rfl trivial ?_
                refine .step (rb := []) (wb := []) (ml := []) (moveT rfl) rfl rfl rfl rfl rfl trivial ?_
                refine .step (rb := []) (wb := []) (ml := []) (moveT rfl) rfl rfl rfl rfl rfl trivial ?_
                refine .step (rb := []) (wb := []) (ml := []) (indexRT rfl rfl rfl (by omega) htqr rfl) rfl rfl rfl rfl rfl trivial ?_
                refine .step (rb := []) (wb := []) (ml := []) (loadRT rfl rfl rfl) rfl rfl rfl rfl rfl trivial ?_
                refine .step (rb := []) (wb := []) (ml := []) (moveT rfl) rfl rfl rfl rfl rfl trivial ?_
                refine .step (rb := []) (wb := []) (ml := []) (moveT rfl) rfl rfl rfl rfl rfl trivial ?_
                refine .step (rb := []) (wb := []) (ml := []) (indexRT rfl rfl rfl (by omega) hrq rfl) rfl rfl rfl rfl rfl trivial ?_
                refine .step (rb := []) (wb := []) (ml := []) (loadRT rfl rfl rfl) rfl rfl rfl rfl rfl trivial ?_
                refine .step (rb := []) (wb := []) (ml := [20004]) (indexWT rfl rfl rfl (by omega) (by omega) (show 0 + ((to.getD q default : Nat) : Int).toNat = to.getD q default by simp)) rfl rfl rfl rfl rfl trivial ?_
                refine .step (rb := [20004]) (wb := [20004]) (ml := []) (storeWT rfl rfl rfl rfl rfl (row_getD (z := default) (by rw [hgl]; exact htq)) rfl rfl rfl) rfl rfl rfl rfl rfl ⟨rfl, trivial⟩ ?_
                refine .done (by decide +kernel) ?_
                refine awp_region ?_
                refine seqP (intnT rfl rfl rfl (wrap_succ (by omega))) rfl ?_
                refine seqP (moveT rfl) rfl ?_
                refine ops_nil ?_
                refine ⟨(q + 1), (by show q + 1 ≤ n; omega), (turn_sub ⟨⟨rfl, rfl, rfl, rfl, rfl, rfl, rfl, rfl, rfl, rfl, rfl, rfl, rfl, rfl, rfl, rfl, rfl, trivial⟩, ⟨rfl, rfl, rfl, rfl, rfl, rfl, (show some (Blk.row 1 ((famG n sh to i q 0).map encInt)) = some (Blk.row 1 ((famG n sh to i (q + 1) 0).map encInt)) by rw [famG_other (v := 0) hx (by decide)]), (show some (Blk.row 1 ((famG n sh to i q 1).map encInt)) = some (Blk.row 1 ((famG n sh to i (q + 1) 1).map encInt)) by rw [famG_other (v := 1) hx (by decide)]), (show some (Blk.row 1 ((famG n sh to i q 2).map encInt)) = some (Blk.row 1 ((famG n sh to i (q + 1) 2).map encInt)) by rw [famG_other (v := 2) hx (by decide)]), (show some (Blk.row 1 ((famG n sh to i q 3).map encInt)) = some (Blk.row 1 ((famG n sh to i (q + 1) 3).map encInt)) by rw [famG_other (v := 3) hx (by decide)]), (show some (Blk.row 1 (((famG n sh to i q 4).map encInt).set (to.getD q default) [vi (shad n sh i q)])) = some (Blk.row 1 ((famG n sh to i (q + 1) 4).map encInt)) by rw [famG_step hx, List.map_set]; rfl), (show some (Blk.row 1 ((famG n sh to i q 5).map encInt)) = some (Blk.row 1 ((famG n sh to i (q + 1) 5).map encInt)) by rw [famG_other (v := 5) hx (by decide)]), (show some (Blk.row 1 ((famG n sh to i q 6).map encInt)) = some (Blk.row 1 ((famG n sh to i (q + 1) 6).map encInt)) by rw [famG_other (v := 6) hx (by decide)]), (show some (Blk.row 1 ((famG n sh to i q 7).map encInt)) = some (Blk.row 1 ((famG n sh to i (q + 1) 7).map encInt)) by rw [famG_other (v := 7) hx (by decide)]), (show some (Blk.row 1 ((famG n sh to i q 8).map encInt)) = some (Blk.row 1 ((famG n sh to i (q + 1) 8).map encInt)) by rw [famG_other (v := 8) hx (by decide)]), (show some (Blk.row 1 ((famG n sh to i q 9).map encInt)) = some (Blk.row 1 ((famG n sh to i (q + 1) 9).map encInt)) by rw [famG_other (v := 9) hx (by decide)]), trivial⟩⟩), by show n - (q + 1) < n - q; omega⟩
              ·
                refine awp_any [0, 1, 0, 0, 12, 28, 63, 127, 0, 0, 768, 1792, 0, 0, 12288, 28672, 65535, 131071] rfl ?_
                refine .step (rb := []) (wb := []) (ml := [16]) (fieldPT rfl rfl rfl) rfl rfl rfl rfl rfl trivial ?_
                refine .step (rb := [16]) (wb := []) (ml := [9089]) (loadVT rfl rfl rfl rfl) rfl rfl rfl rfl rfl trivial ?_
                refine .step (rb := []) (wb := []) (ml := []) (moveT rfl) rfl rfl rfl rfl rfl trivial ?_
                refine .step (rb := []) (wb := []) (ml := []) (moveT rfl) rfl rfl rfl rfl rfl trivial ?_
                refine .step (rb := []) (wb := []) (ml := []) (indexRT rfl rfl rfl (by omega) htx rfl) rfl rfl rfl rfl rfl trivial ?_
                refine .step (rb := []) (wb := []) (ml := []) (loadRT rfl rfl rfl) rfl rfl rfl rfl rfl trivial ?_
                refine .step (rb := []) (wb := []) (ml := [9089]) (indexWT rfl rfl rfl (by omega) (by omega) (show 0 + ((5 : Nat) : Int).toNat = 5 by rfl)) rfl rfl rfl rfl rfl trivial ?_
                refine .step (rb := [9089]) (wb := []) (ml := [20005]) (loadCT rfl rfl rfl hxn (show famF _ 5 = .own 20005 0 1 n from famF_get (by decide) hxn)) rfl rfl rfl rfl rfl trivial ?_
                refine .step (rb := []) (wb := []) (ml := []) (moveT rfl) rfl rfl rfl rfl rfl trivial ?_
                refine .step (rb := []) (wb := []) (ml := []) (moveT rfl) rfl rfl rfl rfl rfl trivial ?_
                refine .step (rb := []) (wb := []) (ml := []) (indexRT rfl rfl rfl (by omega) htqr rfl) rfl rfl rfl rfl rfl trivial ?_
                refine .step (rb := []) (wb := []) (ml := []) (loadRT rfl rfl rfl) rfl rfl rfl rfl rfl trivial ?_
                refine .step (rb := []) (wb := []) (ml := []) (moveT rfl) rfl rfl rfl rfl rfl trivial ?_
                refine .step (rb := []) (wb := []) (ml := []) (moveT rfl) rfl rfl rfl rfl rfl trivial ?_
                refine .step (rb := []) (wb := []) (ml := []) (indexRT rfl rfl rfl (by omega) hrq rfl) rfl rfl rfl rfl rfl trivial ?_
                refine .step (rb := []) (wb := []) (ml := []) (loadRT rfl rfl rfl) rfl rfl rfl rfl rfl trivial ?_
                refine .step (rb := []) (wb := []) (ml := [20005]) (indexWT rfl rfl rfl (by omega) (by omega) (show 0 + ((to.getD q default : Nat) : Int).toNat = to.getD q default by simp)) rfl rfl rfl rfl rfl trivial ?_
                refine .step (rb := [20005]) (wb := [20005]) (ml := []) (storeWT rfl rfl rfl rfl rfl (row_getD (z := default) (by rw [hgl]; exact htq)) rfl rfl rfl) rfl rfl rfl rfl rfl ⟨rfl, trivial⟩ ?_
                refine .done (by decide +kernel) ?_
                refine awp_region ?_
                refine seqP (intnT rfl rfl rfl (wrap_succ (by omega))) rfl ?_
                refine seqP (moveT rfl) rfl ?_
                refine ops_nil ?_
                refine ⟨(q + 1), (by show q + 1 ≤ n; omega), (turn_sub ⟨⟨rfl, rfl, rfl, rfl, rfl, rfl, rfl, rfl, rfl, rfl, rfl, rfl, rfl, rfl, rfl, rfl, rfl, trivial⟩, ⟨rfl, rfl, rfl, rfl, rfl, rfl, (show some (Blk.row 1 ((famG n sh to i q 0).map encInt)) = some (Blk.row 1 ((famG n sh to i (q + 1) 0).map encInt)) by rw [famG_other (v := 0) hx (by decide)]), (show some (Blk.row 1 ((famG n sh to i q 1).map encInt)) = some (Blk.row 1 ((famG n sh to i (q + 1) 1).map encInt)) by rw [famG_other (v := 1) hx (by decide)]), (show some (Blk.row 1 ((famG n sh to i q 2).map encInt)) = some (Blk.row 1 ((famG n sh to i (q + 1) 2).map encInt)) by rw [famG_other (v := 2) hx (by decide)]), (show some (Blk.row 1 ((famG n sh to i q 3).map encInt)) = some (Blk.row 1 ((famG n sh to i (q + 1) 3).map encInt)) by rw [famG_other (v := 3) hx (by decide)]), (show some (Blk.row 1 ((famG n sh to i q 4).map encInt)) = some (Blk.row 1 ((famG n sh to i (q + 1) 4).map encInt)) by rw [famG_other (v := 4) hx (by decide)]), (show some (Blk.row 1 (((famG n sh to i q 5).map encInt).set (to.getD q default) [vi (shad n sh i q)])) = some (Blk.row 1 ((famG n sh to i (q + 1) 5).map encInt)) by rw [famG_step hx, List.map_set]; rfl), (show some (Blk.row 1 ((famG n sh to i q 6).map encInt)) = some (Blk.row 1 ((famG n sh to i (q + 1) 6).map encInt)) by rw [famG_other (v := 6) hx (by decide)]), (show some (Blk.row 1 ((famG n sh to i q 7).map encInt)) = some (Blk.row 1 ((famG n sh to i (q + 1) 7).map encInt)) by rw [famG_other (v := 7) hx (by decide)]), (show some (Blk.row 1 ((famG n sh to i q 8).map encInt)) = some (Blk.row 1 ((famG n sh to i (q + 1) 8).map encInt)) by rw [famG_other (v := 8) hx (by decide)]), (show some (Blk.row 1 ((famG n sh to i q 9).map encInt)) = some (Blk.row 1 ((famG n sh to i (q + 1) 9).map encInt)) by rw [famG_other (v := 9) hx (by decide)]), trivial⟩⟩), by show n - (q + 1) < n - q; omega⟩
              ·
                refine awp_any [0, 1, 0, 0, 12, 28, 63, 127, 0, 0, 768, 1792, 0, 0, 12288, 28672, 65535, 131071] rfl ?_
                refine .step (rb := []) (wb := []) (ml := [16]) (fieldPT rfl rfl rfl) rfl rfl rfl rfl rfl trivial ?_
                refine .step (rb := [16]) (wb := []) (ml := [9089]) (loadVT rfl rfl rfl rfl) rfl rfl rfl rfl rfl trivial ?_
                refine .step (rb := []) (wb := []) (ml := []) (moveT rfl) rfl rfl rfl rfl rfl trivial ?_
                refine .step (rb := []) (wb := []) (ml := []) (moveT rfl) rfl rfl rfl rfl rfl trivial ?_
                refine .step (rb := []) (wb := []) (ml := []) (indexRT rfl rfl rfl (by omega) htx rfl) rfl rfl rfl rfl rfl trivial ?_
                refine .step (rb := []) (wb := []) (ml := []) (loadRT rfl rfl rfl) rfl rfl rfl rfl rfl trivial ?_
                refine .step (rb := []) (wb := []) (ml := [9089]) (indexWT rfl rfl rfl (by omega) (by omega) (show 0 + ((6 : Nat) : Int).toNat = 6 by rfl)) rfl rfl rfl rfl rfl trivial ?_
                refine .step (rb := [9089]) (wb := []) (ml := [20006]) (loadCT rfl rfl rfl hxn (show famF _ 6 = .own 20006 0 1 n from famF_get (by decide) hxn)) rfl rfl rfl rfl rfl trivial ?_
                refine .step (rb := []) (wb := []) (ml := []) (moveT rfl) rfl rfl rfl rfl rfl trivial ?_
                refine .step (rb := []) (wb := []) (ml := []) (moveT rfl) rfl rfl rfl rfl rfl trivial ?_
                refine .step (rb := []) (wb := []) (ml := []) (indexRT rfl rfl rfl (by omega) htqr rfl) rfl rfl rfl rfl rfl trivial ?_
                refine .step (rb := []) (wb := []) (ml := []) (loadRT rfl rfl rfl) rfl rfl rfl rfl rfl trivial ?_
                refine .step (rb := []) (wb := []) (ml := []) (moveT rfl) rfl rfl rfl rfl rfl trivial ?_
                refine .step (rb := []) (wb := []) (ml := []) (moveT rfl) rfl rfl rfl rfl rfl trivial ?_
                refine .step (rb := []) (wb := []) (ml := []) (indexRT rfl rfl rfl (by omega) hrq rfl) rfl rfl rfl rfl rfl trivial ?_
                refine .step (rb := []) (wb := []) (ml := []) (loadRT rfl rfl rfl) rfl rfl rfl rfl rfl trivial ?_
                refine .step (rb := []) (wb := []) (ml := [20006]) (indexWT rfl rfl rfl (by omega) (by omega) (show 0 + ((to.getD q default : Nat) : Int).toNat = to.getD q default by simp)) rfl rfl rfl rfl rfl trivial ?_
                refine .step (rb := [20006]) (wb := [20006]) (ml := []) (storeWT rfl rfl rfl rfl rfl (row_getD (z := default) (by rw [hgl]; exact htq)) rfl rfl rfl) rfl rfl rfl rfl rfl ⟨rfl, trivial⟩ ?_
                refine .done (by decide +kernel) ?_
                refine awp_region ?_
                refine seqP (intnT rfl rfl rfl (wrap_succ (by omega))) rfl ?_
                refine seqP (moveT rfl) rfl ?_
                refine ops_nil ?_
                refine ⟨(q + 1), (by show q + 1 ≤ n; omega), (turn_sub ⟨⟨rfl, rfl, rfl, rfl, rfl, rfl, rfl, rfl, rfl, rfl, rfl, rfl, rfl, rfl, rfl, rfl, rfl, trivial⟩, ⟨rfl, rfl, rfl, rfl, rfl, rfl, (show some (Blk.row 1 ((famG n sh to i q 0).map encInt)) = some (Blk.row 1 ((famG n sh to i (q + 1) 0).map encInt)) by rw [famG_other (v := 0) hx (by decide)]), (show some (Blk.row 1 ((famG n sh to i q 1).map encInt)) = some (Blk.row 1 ((famG n sh to i (q + 1) 1).map encInt)) by rw [famG_other (v := 1) hx (by decide)]), (show some (Blk.row 1 ((famG n sh to i q 2).map encInt)) = some (Blk.row 1 ((famG n sh to i (q + 1) 2).map encInt)) by rw [famG_other (v := 2) hx (by decide)]), (show some (Blk.row 1 ((famG n sh to i q 3).map encInt)) = some (Blk.row 1 ((famG n sh to i (q + 1) 3).map encInt)) by rw [famG_other (v := 3) hx (by decide)]), (show some (Blk.row 1 ((famG n sh to i q 4).map encInt)) = some (Blk.row 1 ((famG n sh to i (q + 1) 4).map encInt)) by rw [famG_other (v := 4) hx (by decide)]), (show some (Blk.row 1 ((famG n sh to i q 5).map encInt)) = some (Blk.row 1 ((famG n sh to i (q + 1) 5).map encInt)) by rw [famG_other (v := 5) hx (by decide)]), (show some (Blk.row 1 (((famG n sh to i q 6).map encInt).set (to.getD q default) [vi (shad n sh i q)])) = some (Blk.row 1 ((famG n sh to i (q + 1) 6).map encInt)) by rw [famG_step hx, List.map_set]; rfl), (show some (Blk.row 1 ((famG n sh to i q 7).map encInt)) = some (Blk.row 1 ((famG n sh to i (q + 1) 7).map encInt)) by rw [famG_other (v := 7) hx (by decide)]), (show some (Blk.row 1 ((famG n sh to i q 8).map encInt)) = some (Blk.row 1 ((famG n sh to i (q + 1) 8).map encInt)) by rw [famG_other (v := 8) hx (by decide)]), (show some (Blk.row 1 ((famG n sh to i q 9).map encInt)) = some (Blk.row 1 ((famG n sh to i (q + 1) 9).map encInt)) by rw [famG_other (v := 9) hx (by decide)]), trivial⟩⟩), by show n - (q + 1) < n - q; omega⟩
              ·
                refine awp_any [0, 1, 0, 0, 12, 28, 63, 127, 0, 0, 768, 1792, 0, 0, 12288, 28672, 65535, 131071] rfl ?_
                refine .step (rb := []) (wb := []) (ml := [16]) (fieldPT rfl rfl rfl) rfl rfl rfl rfl rfl trivial ?_
                refine .step (rb := [16]) (wb := []) (ml := [9089]) (loadVT rfl rfl rfl rfl) rfl rfl rfl rfl rfl trivial ?_
                refine .step (rb := []) (wb := []) (ml := []) (moveT rfl) rfl rfl rfl rfl rfl trivial ?_
                refine .step (rb := []) (wb := []) (ml := []) (moveT rfl) rfl rfl rfl rfl rfl trivial ?_
                refine .step (rb := []) (wb := []) (ml := []) (indexRT rfl rfl rfl (by omega) htx rfl) rfl rfl rfl rfl rfl trivial ?_
                refine .step (rb := []) (wb := []) (ml := []) (loadRT rfl rfl rfl) rfl rfl rfl rfl rfl trivial ?_
                refine .step (rb := []) (wb := []) (ml := [9089]) (indexWT rfl rfl rfl (by omega) (by omega) (show 0 + ((7 : Nat) : Int).toNat = 7 by rfl)) rfl rfl rfl rfl rfl trivial ?_
                refine .step (rb := [9089]) (wb := []) (ml := [20007]) (loadCT rfl rfl rfl hxn (show famF _ 7 = .own 20007 0 1 n from famF_get (by decide) hxn)) rfl rfl rfl rfl rfl trivial ?_
                refine .step (rb := []) (wb := []) (ml := []) (moveT rfl) rfl rfl rfl rfl rfl trivial ?_
                refine .step (rb := []) (wb := []) (ml := []) (moveT rfl) rfl rfl rfl rfl rfl trivial ?_
                refine .step (rb := []) (wb := []) (ml := []) (indexRT rfl rfl rfl (by omega) htqr rfl) rfl rfl rfl rfl rfl trivial ?_
                refine .step (rb := []) (wb := []) (ml := []) (loadRT rfl rfl rfl) rfl rfl rfl rfl rfl trivial ?_
                refine .step (rb := []) (wb := []) (ml := []) (moveT rfl) rfl rfl rfl rfl rfl trivial ?_
                refine .step (rb := []) (wb := []) (ml := []) (moveT rfl) rfl rfl rfl rfl rfl trivial ?_
                refine .step (rb := []) (wb := []) (ml := []) (indexRT rfl rfl rfl (by omega) hrq rfl) rfl rfl rfl rfl rfl trivial ?_
                refine .step (rb := []) (wb := []) (ml := []) (loadRT rfl rfl rfl) rfl rfl rfl rfl rfl trivial ?_
                refine .step (rb := []) (wb := []) (ml := [20007]) (indexWT rfl rfl rfl (by omega) (by omega) (show 0 + ((to.getD q default : Nat) : Int).toNat = to.getD q default by simp)) rfl rfl rfl rfl rfl trivial ?_
                refine .step (rb := [20007]) (wb := [20007]) (ml := []) (storeWT rfl rfl rfl rfl rfl (row_getD (z := default) (by rw [hgl]; exact htq)) rfl rfl rfl) rfl rfl rfl rfl rfl ⟨rfl, trivial⟩ ?_
                refine .done (by decide +kernel) ?_
                refine awp_region ?_
                refine seqP (intnT rfl rfl rfl (wrap_succ (by omega))) rfl ?_
                refine seqP (moveT rfl) rfl ?_
                refine ops_nil ?_
                refine ⟨(q + 1), (by show q + 1 ≤ n; omega), (turn_sub ⟨⟨rfl, rfl, rfl, rfl, rfl, rfl, rfl, rfl, rfl, rfl, rfl, rfl, rfl, rfl, rfl, rfl, rfl, trivial⟩, ⟨rfl, rfl, rfl, rfl, rfl, rfl, (show some (Blk.row 1 ((famG n sh to i q 0).map encInt)) = some (Blk.row 1 ((famG n sh to i (q + 1) 0).map encInt)) by rw [famG_other (v := 0) hx (by decide)]), (show some (Blk.row 1 ((famG n sh to i q 1).map encInt)) = some (Blk.row 1 ((famG n sh to i (q + 1) 1).map encInt)) by rw [famG_other (v := 1) hx (by decide)]), (show some (Blk.row 1 ((famG n sh to i q 2).map encInt)) = some (Blk.row 1 ((famG n sh to i (q + 1) 2).map encInt)) by rw [famG_other (v := 2) hx (by decide)]), (show some (Blk.row 1 ((famG n sh to i q 3).map encInt)) = some (Blk.row 1 ((famG n sh to i (q + 1) 3).map encInt)) by rw [famG_other (v := 3) hx (by decide)]), (show some (Blk.row 1 ((famG n sh to i q 4).map encInt)) = some (Blk.row 1 ((famG n sh to i (q + 1) 4).map encInt)) by rw [famG_other (v := 4) hx (by decide)]), (show some (Blk.row 1 ((famG n sh to i q 5).map encInt)) = some (Blk.row 1 ((famG n sh to i (q + 1) 5).map encInt)) by rw [famG_other (v := 5) hx (by decide)]), (show some (Blk.row 1 ((famG n sh to i q 6).map encInt)) = some (Blk.row 1 ((famG n sh to i (q + 1) 6).map encInt)) by rw [famG_other (v := 6) hx (by decide)]), (show some (Blk.row 1 (((famG n sh to i q 7).map encInt).set (to.getD q default) [vi (shad n sh i q)])) = some (Blk.row 1 ((famG n sh to i (q + 1) 7).map encInt)) by rw [famG_step hx, List.map_set]; rfl), (show some (Blk.row 1 ((famG n sh to i q 8).map encInt)) = some (Blk.row 1 ((famG n sh to i (q + 1) 8).map encInt)) by rw [famG_other (v := 8) hx (by decide)]), (show some (Blk.row 1 ((famG n sh to i q 9).map encInt)) = some (Blk.row 1 ((famG n sh to i (q + 1) 9).map encInt)) by rw [famG_other (v := 9) hx (by decide)]), trivial⟩⟩), by show n - (q + 1) < n - q; omega⟩
              ·
                refine awp_any [0, 1, 0, 0, 12, 28, 63, 127, 0, 0, 768, 1792, 0, 0, 12288, 28672, 65535, 131071] rfl ?_
                refine .step (rb := []) (wb := []) (ml := [16]) (fieldPT rfl rfl rfl) rfl rfl rfl rfl rfl trivial ?_
                refine .step (rb := [16]) (wb := []) (ml := [9089]) (loadVT rfl rfl rfl rfl) rfl rfl rfl rfl rfl trivial ?_
                refine .step (rb := []) (wb := []) (ml := []) (moveT rfl) rfl rfl rfl rfl rfl trivial ?_
                refine .step (rb := []) (wb := []) (ml := []) (moveT rfl) rfl rfl rfl rfl rfl trivial ?_
                refine .step (rb := []) (wb := []) (ml := []) (indexRT rfl rfl rfl (by omega) htx rfl) rfl rfl rfl rfl rfl trivial ?_
                refine .step (rb := []) (wb := []) (ml := []) (loadRT rfl rfl rfl) rfl rfl rfl rfl rfl trivial ?_
                refine .step (rb := []) (wb := []) (ml := [9089]) (indexWT rfl rfl rfl (by omega) (by omega) (show 0 + ((8 : Nat) : Int).toNat = 8 by rfl)) rfl rfl rfl rfl rfl trivial ?_
                refine .step (rb := [9089]) (wb := []) (ml := [20008]) (loadCT rfl rfl rfl hxn (show famF _ 8 = .own 20008 0 1 n from famF_get (by decide) hxn)) rfl rfl rfl rfl rfl trivial ?_
                refine .step (rb := []) (wb := []) (ml := []) (moveT rfl) rfl rfl rfl rfl rfl trivial ?_
                refine .step (rb := []) (wb := []) (ml := []) (moveT rfl) rfl rfl rfl rfl rfl trivial ?_
                refine .step (rb := []) (wb := []) (ml := []) (indexRT rfl rfl rfl (by omega) htqr rfl) rfl rfl rfl rfl rfl trivial ?_
                refine .step (rb := []) (wb := []) (ml := []) (loadRT rfl rfl rfl) rfl rfl rfl rfl rfl trivial ?_
                refine .step (rb := []) (wb := []) (ml := []) (moveT rfl) rfl rfl rfl rfl rfl trivial ?_
                refine .step (rb := []) (wb := []) (ml := []) (moveT rfl) rfl rfl rfl rfl rfl trivial ?_
                refine .step (rb := []) (wb := []) (ml := []) (indexRT rfl rfl rfl (by omega) hrq rfl) rfl rfl rfl rfl rfl trivial ?_
                refine .step (rb := []) (wb := []) (ml := []) (loadRT rfl rfl rfl) rfl rfl rfl rfl rfl trivial ?_
                refine .step (rb := []) (wb := []) (ml := [20008]) (indexWT rfl rfl rfl (by omega) (by omega) (show 0 + ((to.getD q default : Nat) : Int).toNat = to.getD q default by simp)) rfl rfl rfl rfl rfl trivial ?_
                refine .step (rb := [20008]) (wb := [20008]) (ml := []) (storeWT rfl rfl rfl rfl rfl (row_getD (z := default) (by rw [hgl]; exact htq)) rfl rfl rfl) rfl rfl rfl rfl rfl ⟨rfl, trivial⟩ ?_
                refine .done (by decide +kernel) ?_
                refine awp_region ?_
                refine seqP (intnT rfl rfl rfl (wrap_succ (by omega))) rfl ?_
                refine seqP (moveT rfl) rfl ?_
                refine ops_nil ?_
                refine ⟨(q + 1), (by show q + 1 ≤ n; omega), (turn_sub ⟨⟨rfl, rfl, rfl, rfl, rfl, rfl, rfl, rfl, rfl, rfl, rfl, rfl, rfl, rfl, rfl, rfl, rfl, trivial⟩, ⟨rfl, rfl, rfl, rfl, rfl, rfl, (show some (Blk.row 1 ((famG n sh to i q 0).map encInt)) = some (Blk.row 1 ((famG n sh to i (q + 1) 0).map encInt)) by rw [famG_other (v := 0) hx (by decide)]), (show some (Blk.row 1 ((famG n sh to i q 1).map encInt)) = some (Blk.row 1 ((famG n sh to i (q + 1) 1).map encInt)) by rw [famG_other (v := 1) hx (by decide)]), (show some (Blk.row 1 ((famG n sh to i q 2).map encInt)) = some (Blk.row 1 ((famG n sh to i (q + 1) 2).map encInt)) by rw [famG_other (v := 2) hx (by decide)]), (show some (Blk.row 1 ((famG n sh to i q 3).map encInt)) = some (Blk.row 1 ((famG n sh to i (q + 1) 3).map encInt)) by rw [famG_other (v := 3) hx (by decide)]), (show some (Blk.row 1 ((famG n sh to i q 4).map encInt)) = some (Blk.row 1 ((famG n sh to i (q + 1) 4).map encInt)) by rw [famG_other (v := 4) hx (by decide)]), (show some (Blk.row 1 ((famG n sh to i q 5).map encInt)) = some (Blk.row 1 ((famG n sh to i (q + 1) 5).map encInt)) by rw [famG_other (v := 5) hx (by decide)]), (show some (Blk.row 1 ((famG n sh to i q 6).map encInt)) = some (Blk.row 1 ((famG n sh to i (q + 1) 6).map encInt)) by rw [famG_other (v := 6) hx (by decide)]), (show some (Blk.row 1 ((famG n sh to i q 7).map encInt)) = some (Blk.row 1 ((famG n sh to i (q + 1) 7).map encInt)) by rw [famG_other (v := 7) hx (by decide)]), (show some (Blk.row 1 (((famG n sh to i q 8).map encInt).set (to.getD q default) [vi (shad n sh i q)])) = some (Blk.row 1 ((famG n sh to i (q + 1) 8).map encInt)) by rw [famG_step hx, List.map_set]; rfl), (show some (Blk.row 1 ((famG n sh to i q 9).map encInt)) = some (Blk.row 1 ((famG n sh to i (q + 1) 9).map encInt)) by rw [famG_other (v := 9) hx (by decide)]), trivial⟩⟩), by show n - (q + 1) < n - q; omega⟩
              ·
                refine awp_any [0, 1, 0, 0, 12, 28, 63, 127, 0, 0, 768, 1792, 0, 0, 12288, 28672, 65535, 131071] rfl ?_
                refine .step (rb := []) (wb := []) (ml := [16]) (fieldPT rfl rfl rfl) rfl rfl rfl rfl rfl trivial ?_
                refine .step (rb := [16]) (wb := []) (ml := [9089]) (loadVT rfl rfl rfl rfl) rfl rfl rfl rfl rfl trivial ?_
                refine .step (rb := []) (wb := []) (ml := []) (moveT rfl) rfl rfl rfl rfl rfl trivial ?_
                refine .step (rb := []) (wb := []) (ml := []) (moveT rfl) rfl rfl rfl rfl rfl trivial ?_
                refine .step (rb := []) (wb := []) (ml := []) (indexRT rfl rfl rfl (by omega) htx rfl) rfl rfl rfl rfl rfl trivial ?_
                refine .step (rb := []) (wb := []) (ml := []) (loadRT rfl rfl rfl) rfl rfl rfl rfl rfl trivial ?_
                refine .step (rb := []) (wb := []) (ml := [9089]) (indexWT rfl rfl rfl (by omega) (by omega) (show 0 + ((9 : Nat) : Int).toNat = 9 by rfl)) rfl rfl rfl rfl rfl trivial ?_
                refine .step (rb := [9089]) (wb := []) (ml := [20009]) (loadCT rfl rfl rfl hxn (show famF _ 9 = .own 20009 0 1 n from famF_get (by decide) hxn)) rfl rfl rfl rfl rfl trivial ?_
                refine .step (rb := []) (wb := []) (ml := []) (moveT rfl) rfl rfl rfl rfl rfl trivial ?_
                refine .step (rb := []) (wb := []) (ml := []) (moveT rfl) rfl rfl rfl rfl rfl trivial ?_
                refine .step (rb := []) (wb := []) (ml := []) (indexRT rfl rfl rfl (by omega) htqr rfl) rfl rfl rfl rfl rfl trivial ?_
                refine .step (rb := []) (wb := []) (ml := []) (loadRT rfl rfl rfl) rfl rfl rfl rfl rfl trivial ?_
                refine .step (rb := []) (wb := []) (ml := []) (moveT rfl) rfl rfl rfl rfl rfl trivial ?_
                refine .step (rb := []) (wb := []) (ml := []) (moveT rfl) rfl rfl rfl rfl rfl trivial ?_
                refine .step (rb := []) (wb := []) (ml := []) (indexRT rfl rfl rfl (by omega) hrq rfl) rfl rfl rfl rfl rfl trivial ?_
                refine .step (rb := []) (wb := []) (ml := []) (loadRT rfl rfl rfl) rfl rfl rfl rfl rfl trivial ?_
                refine .step (rb := []) (wb := []) (ml := [20009]) (indexWT rfl rfl rfl (by omega) (by omega) (show 0 + ((to.getD q default : Nat) : Int).toNat = to.getD q default by simp)) rfl rfl rfl rfl rfl trivial ?_
                refine .step (rb := [20009]) (wb := [20009]) (ml := []) (storeWT rfl rfl rfl rfl rfl (row_getD (z := default) (by rw [hgl]; exact htq)) rfl rfl rfl) rfl rfl rfl rfl rfl ⟨rfl, trivial⟩ ?_
                refine .done (by decide +kernel) ?_
                refine awp_region ?_
                refine seqP (intnT rfl rfl rfl (wrap_succ (by omega))) rfl ?_
                refine seqP (moveT rfl) rfl ?_
                refine ops_nil ?_
                refine ⟨(q + 1), (by show q + 1 ≤ n; omega), (turn_sub ⟨⟨rfl, rfl, rfl, rfl, rfl, rfl, rfl, rfl, rfl, rfl, rfl, rfl, rfl, rfl, rfl, rfl, rfl, trivial⟩, ⟨rfl, rfl, rfl, rfl, rfl, rfl, (show some (Blk.row 1 ((famG n sh to i q 0).map encInt)) = some (Blk.row 1 ((famG n sh to i (q + 1) 0).map encInt)) by rw [famG_other (v := 0) hx (by decide)]), (show some (Blk.row 1 ((famG n sh to i q 1).map encInt)) = some (Blk.row 1 ((famG n sh to i (q + 1) 1).map encInt)) by rw [famG_other (v := 1) hx (by decide)]), (show some (Blk.row 1 ((famG n sh to i q 2).map encInt)) = some (Blk.row 1 ((famG n sh to i (q + 1) 2).map encInt)) by rw [famG_other (v := 2) hx (by decide)]), (show some (Blk.row 1 ((famG n sh to i q 3).map encInt)) = some (Blk.row 1 ((famG n sh to i (q + 1) 3).map encInt)) by rw [famG_other (v := 3) hx (by decide)]), (show some (Blk.row 1 ((famG n sh to i q 4).map encInt)) = some (Blk.row 1 ((famG n sh to i (q + 1) 4).map encInt)) by rw [famG_other (v := 4) hx (by decide)]), (show some (Blk.row 1 ((famG n sh to i q 5).map encInt)) = some (Blk.row 1 ((famG n sh to i (q + 1) 5).map encInt)) by rw [famG_other (v := 5) hx (by decide)]), (show some (Blk.row 1 ((famG n sh to i q 6).map encInt)) = some (Blk.row 1 ((famG n sh to i (q + 1) 6).map encInt)) by rw [famG_other (v := 6) hx (by decide)]), (show some (Blk.row 1 ((famG n sh to i q 7).map encInt)) = some (Blk.row 1 ((famG n sh to i (q + 1) 7).map encInt)) by rw [famG_other (v := 7) hx (by decide)]), (show some (Blk.row 1 ((famG n sh to i q 8).map encInt)) = some (Blk.row 1 ((famG n sh to i (q + 1) 8).map encInt)) by rw [famG_other (v := 8) hx (by decide)]), (show some (Blk.row 1 (((famG n sh to i q 9).map encInt).set (to.getD q default) [vi (shad n sh i q)])) = some (Blk.row 1 ((famG n sh to i (q + 1) 9).map encInt)) by rw [famG_step hx, List.map_set]; rfl), trivial⟩⟩), by show n - (q + 1) < n - q; omega⟩
            · -- no
              try simp only [mOr, mAnd, decide_eq_true_eq, decide_eq_false_iff_not, beq_iff_eq, beq_eq_false_iff_ne, bne_iff_ne, ne_eq, bne_eq_false_iff_eq, Bool.or_eq_true, Bool.or_eq_false_iff, Bool.and_eq_true, Bool.and_eq_false_iff, Bool.not_eq_true', Bool.not_eq_false', Int.not_lt, Int.not_le, gt_iff_lt, ge_iff_le] at h145
              refine awp_exit ?_
              obtain rfl : n = q := by omega
              refine awp_region ?_
              refine seqP (intnT rfl rfl rfl (wrap_succ (by omega))) rfl ?_
              refine seqP (moveT rfl) rfl ?_
              refine ops_nil ?_
              refine ⟨(i + 1), (by show i + 1 ≤ n; omega), (turn_ren (fun n => bif Nat.beq n 9901 then 140 else n) ⟨rfl, rfl, rfl, rfl, rfl, rfl, rfl, rfl, rfl, rfl, rfl, rfl, rfl, trivial⟩ ⟨rfl, rfl, rfl, rfl, (congrArg some (cells_eq (famF_ren (f := fun m => bif Nat.beq m 9901 then 140 else m) (by decide)).symm rfl)), rfl, rfl, rfl, rfl, rfl, rfl, rfl, rfl, rfl, rfl, rfl, trivial⟩ rfl rfl), by show n - (i + 1) < n - i; omega⟩
        · -- no
          try simp only [mOr, mAnd, decide_eq_true_eq, decide_eq_false_iff_not, beq_iff_eq, beq_eq_false_iff_ne, bne_iff_ne, ne_eq, bne_eq_false_iff_eq, Bool.or_eq_true, Bool.or_eq_false_iff, Bool.and_eq_true, Bool.and_eq_false_iff, Bool.not_eq_true', Bool.not_eq_false', Int.not_lt, Int.not_le, gt_iff_lt, ge_iff_le] at h107
          refine awp_exit ?_
          refine awp_seq ?_
          obtain rfl : n = i := by omega
          refine awp_turn (turn_freezeC 15 1 9901 rfl rfl rfl (by simp) rfl) ?_
          refine awp_turn (turn_fn_freeze 9089 0 20000 (f' := famD n (famS n sh to n) 1) (nm' := fnames) (hs' := famD_says) rfl (by rw [← famD_zero (F := famS n sh to n)]; exact famD_at (by decide)) rfl (by rw [List.length_map, famS_len hto (Nat.le_refl _)]) famD_new (fun j _ hj => famD_other hj)) ?_
          refine awp_turn (turn_fn_freeze 9089 1 20001 (f' := famD n (famS n sh to n) 2) (nm' := fnames) (hs' := famD_says) rfl (famD_at (by decide)) rfl (by rw [List.length_map, famS_len hto (Nat.le_refl _)]) famD_new (fun j _ hj => famD_other hj)) ?_
          refine awp_turn (turn_fn_freeze 9089 2 20002 (f' := famD n (famS n sh to n) 3) (nm' := fnames) (hs' := famD_says) rfl (famD_at (by decide)) rfl (by rw [List.length_map, famS_len hto (Nat.le_refl _)]) famD_new (fun j _ hj => famD_other hj)) ?_
          refine awp_turn (turn_fn_freeze 9089 3 20003 (f' := famD n (famS n sh to n) 4) (nm' := fnames) (hs' := famD_says) rfl (famD_at (by decide)) rfl (by rw [List.length_map, famS_len hto (Nat.le_refl _)]) famD_new (fun j _ hj => famD_other hj)) ?_
          refine awp_turn (turn_fn_freeze 9089 4 20004 (f' := famD n (famS n sh to n) 5) (nm' := fnames) (hs' := famD_says) rfl (famD_at (by decide)) rfl (by rw [List.length_map, famS_len hto (Nat.le_refl _)]) famD_new (fun j _ hj => famD_other hj)) ?_
          refine awp_turn (turn_fn_freeze 9089 5 20005 (f' := famD n (famS n sh to n) 6) (nm' := fnames) (hs' := famD_says) rfl (famD_at (by decide)) rfl (by rw [List.length_map, famS_len hto (Nat.le_refl _)]) famD_new (fun j _ hj => famD_other hj)) ?_
          refine awp_turn (turn_fn_freeze 9089 6 20006 (f' := famD n (famS n sh to n) 7) (nm' := fnames) (hs' := famD_says) rfl (famD_at (by decide)) rfl (by rw [List.length_map, famS_len hto (Nat.le_refl _)]) famD_new (fun j _ hj => famD_other hj)) ?_
          refine awp_turn (turn_fn_freeze 9089 7 20007 (f' := famD n (famS n sh to n) 8) (nm' := fnames) (hs' := famD_says) rfl (famD_at (by decide)) rfl (by rw [List.length_map, famS_len hto (Nat.le_refl _)]) famD_new (fun j _ hj => famD_other hj)) ?_
          refine awp_turn (turn_fn_freeze 9089 8 20008 (f' := famD n (famS n sh to n) 9) (nm' := fnames) (hs' := famD_says) rfl (famD_at (by decide)) rfl (by rw [List.length_map, famS_len hto (Nat.le_refl _)]) famD_new (fun j _ hj => famD_other hj)) ?_
          refine awp_turn (turn_fn_freeze 9089 9 20009 (f' := famD n (famS n sh to n) 10) (nm' := fnames) (hs' := famD_says) rfl (famD_at (by decide)) rfl (by rw [List.length_map, famS_len hto (Nat.le_refl _)]) famD_new (fun j _ hj => famD_other hj)) ?_
          refine awp_turn (turn_cells_row 9089 (fun i => .s ((famS n sh to n i).map encInt)) rfl (fun i hi => famD_all (by omega))) ?_
          refine awp_turn (turn_freezeC 16 1 9089 rfl rfl rfl (by simp) rfl) ?_
          refine awp_any [0, 0, 1, 7] rfl ?_
          refine .step (rb := [15]) (wb := []) (ml := []) (loadVsT rfl rfl rfl rfl) rfl rfl rfl rfl rfl trivial ?_
          refine .step (rb := [16]) (wb := []) (ml := []) (loadVsT rfl rfl rfl rfl) rfl rfl rfl rfl rfl trivial ?_
          refine .step (rb := [12]) (wb := [12]) (ml := []) (storeVT rfl rfl rfl rfl rfl rfl rfl) rfl rfl rfl rfl rfl ⟨rfl, trivial⟩ ?_
          refine .step (rb := [13]) (wb := [13]) (ml := []) (storeVT rfl rfl rfl rfl rfl rfl rfl) rfl rfl rfl rfl rfl ⟨rfl, trivial⟩ ?_
          refine .done (by decide +kernel) ?_
          refine awp_ret ?_
          have e1 : airA l sh = ⟨l.map radioA, (List.range n).map (rowS n sh)⟩ := by simp only [airA, if_neg hs0, hn]
          have e2 : airB l sh to way dx dy = ⟨setF to (fun j => moveR way dx dy (radioA (l.getD j default))) default n n, (List.range n).map (famS n sh to n)⟩ := by simp only [airB, if_neg hs0, hn]
          rw [e1, e2]
          simp only [Air.av, encRow, List.map_map]
          refine ret_plain (resl_agg rfl rfl rfl rfl rfl (resl_agg rfl rfl rfl rfl rfl resl_nil)) ?_ rfl
          rfl

end Go.Proofs.Ytencghlmckbmlaa
