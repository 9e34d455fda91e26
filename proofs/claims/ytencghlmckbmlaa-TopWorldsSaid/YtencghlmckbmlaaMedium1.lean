/- Walks: medium.Check, sensed, asked, Busy, Idle on valid worlds and lists (printed by gen.py). -/
import Derived.Test.YtencghlmckbmlaaMedium0
set_option linter.unusedVariables false
set_option linter.unusedSimpArgs false
set_option maxRecDepth 100000
set_option maxHeartbeats 4000000
namespace Go.Proofs.Ytencghlmckbmlaa
open Go Go.RowKit


theorem free_take {L : List Sending} {sp t : Int} {p : Nat} {s : Sending} (hs : L[p]? = some s) (h : ∀ x ∈ L.take p, blocks sp t x = false) (hb : blocks sp t s = false) : ∀ x ∈ L.take (p + 1), blocks sp t x = false := fun x hx => by
  rw [List.take_add_one, hs] at hx
  rcases List.mem_append.1 hx with hx | hx
  · exact h x hx
  · simp at hx; subst hx; exact hb
def idxT (t : Int) (l : List Sending) : Int := if l.any (activeS t) = true then (l.findIdx (activeS t) : Nat) else -1
theorem sensed_no {w : Air} {l : List Sending} {j p : Nat} {s : Sending} (hs : l[p]? = some s) (h : senseP w j s = false) : sensedS w (l.take (p + 1)) j = sensedS w (l.take p) j := by
  simp only [sensedS, List.take_add_one, hs, Option.toList_some, List.filter_append, List.filter_cons, h, List.filter_nil]; simp
theorem sensed_yes {w : Air} {l : List Sending} {j p : Nat} {s : Sending} (hs : l[p]? = some s) (h : senseP w j s = true) : sensedS w (l.take (p + 1)) j = sensedS w (l.take p) j ++ [s] := by
  simp only [sensedS, List.take_add_one, hs, Option.toList_some, List.filter_append, List.filter_cons, h, List.filter_nil]; simp

theorem sp106 (a b : Sending) : Spec Try.prog 106 [a.av, b.av] [] (.d (vb (overlapS a b))) [] [] := by
  refine enter 17 [] Try.func106 rfl rfl blOk_nil rfl rfl fun X w0 E0 => ?_
  refine awp_seq ?_
  refine awp_region ?_
  refine seq1 (boxT rfl rfl rfl) rfl rfl ?_
  refine seq1 (boxT rfl rfl rfl) rfl rfl ?_
  refine seqP (assignT rfl) rfl ?_
  refine ops_nil ?_
  refine awp_seq ?_
  refine awp_region ?_
  refine seqP (fieldPT rfl rfl rfl) rfl ?_
  refine seqP (loadVT rfl rfl rfl rfl) rfl ?_
  refine seqP (fieldPT rfl rfl rfl) rfl ?_
  refine seqP (loadVT rfl rfl rfl rfl) rfl ?_
  refine seqP (intTT rfl rfl rfl) rfl ?_
  refine seqP (moveT rfl) rfl ?_
  refine seqM 5 (g := 16) (x := ?_) rfl rfl (fun Q g10 hJ => ?_) (fun Q g10 hJ => ?_) ?_
  rotate_left 1
  · -- taken
    refine seqP (fieldPT rfl rfl rfl) rfl ?_
    refine seqGy rfl rfl ?_
    refine seqP (loadVT rfl rfl rfl rfl) rfl ?_
    refine seqGy rfl rfl ?_
    refine seqP (fieldPT rfl rfl rfl) rfl ?_
    refine seqGy rfl rfl ?_
    refine seqP (loadVT rfl rfl rfl rfl) rfl ?_
    refine seqGy rfl rfl ?_
    refine seqP (intTT rfl rfl rfl) rfl ?_
    refine seqP (pickYT rfl rfl) rfl ?_
    refine hJ 6 _ ?_
    exact ⟨.inl rfl, .inl rfl, .inl rfl, .inl rfl, .inl rfl, .inr (congrArg (fun b => AV.d (D.v (Value.bool b))) g10), rfl⟩
  · -- left
    refine seqGn rfl rfl ?_
    refine seqGn rfl rfl ?_
    refine seqGn rfl rfl ?_
    refine seqGn rfl rfl ?_
    refine seqP (pickNT rfl rfl) rfl ?_
    refine hJ 6 _ ?_
    exact ⟨.inl rfl, .inl rfl, .inl rfl, .inl rfl, .inl rfl, .inr (congrArg (fun b => AV.d (D.v (Value.bool b))) g10), rfl⟩
  refine seqP (assignT rfl) rfl ?_
  refine ops_nil ?_
  refine awp_ret ?_
  refine ret_plain (resl_tmp rfl resl_nil) ?_ rfl
  simp only [mAnd]; rfl

theorem sp105 (s x : Sending) : Spec Try.prog 105 [x.av, .ptr 46007 0 0 0] [(46007, some (.var s.cells))] (.d (vb (clashS x s))) [] [] := by
  refine enter 14 [46007] Try.func105 rfl rfl (blOk_of rfl rfl ⟨rfl, trivial⟩) rfl rfl fun X w0 E0 => ?_
  refine awp_seq ?_
  refine awp_region ?_
  refine seq1 (boxT rfl rfl rfl) rfl rfl ?_
  refine seqP (assignT rfl) rfl ?_
  refine ops_nil ?_
  refine awp_seq ?_
  refine awp_region ?_
  refine seqP (fieldPT rfl rfl rfl) rfl ?_
  refine seqP (loadVT rfl rfl rfl rfl) rfl ?_
  refine seqP (fieldPT rfl rfl rfl) rfl ?_
  refine seqP (loadVT rfl rfl rfl rfl) rfl ?_
  refine seqP (intTT rfl rfl rfl) rfl ?_
  refine seqP (moveT rfl) rfl ?_
  refine seqM 3 (g := 13) (x := ?_) rfl rfl (fun Q g9 hJ => ?_) (fun Q g9 hJ => ?_) ?_
  rotate_left 1
  · -- taken
    refine seqP (loadVsT rfl rfl rfl rfl) rfl ?_
    refine seqGy rfl rfl ?_
    refine seqP (loadVsT rfl rfl rfl rfl) rfl ?_
    refine seqGy rfl rfl ?_
    refine seqP (callT rfl rfl rfl (callB_of Try.func106 rfl) (sp106 x s) trivial) rfl ?_
    refine seqP (pickYT rfl rfl) rfl ?_
    refine hJ 4 _ ?_
    exact ⟨.inl rfl, .inl rfl, .inl rfl, .inr (congrArg (fun b => AV.d (D.v (Value.bool b))) g9), rfl⟩
  · -- left
    refine seqGn rfl rfl ?_
    refine seqGn rfl rfl ?_
    refine seqP (pickNT rfl rfl) rfl ?_
    refine hJ 4 _ ?_
    exact ⟨.inl rfl, .inl rfl, .inl rfl, .inr (congrArg (fun b => AV.d (D.v (Value.bool b))) g9), rfl⟩
  refine seqP (assignT rfl) rfl ?_
  refine ops_nil ?_
  refine awp_ret ?_
  refine ret_blocks (resl_tmp rfl resl_nil) ?_ rfl trivial ⟨.inr rfl, trivial⟩
  simp only [mAnd]; rfl

theorem c105 (s x : Sending) (h : clashS x s = false) : Spec Try.prog 105 [x.av, .ptr 46007 0 0 0] [(46007, some (.var s.cells))] (.d (vb false)) [] [] := by
  have := sp105 s x; rwa [h] at this

theorem sp49ci (s : Sending) (l : List Sending) (hl : l.length ≤ 100000000) (hok : ∀ x ∈ l, clashS x s = false) : Spec Try.prog 110 [.d (.s (l.map encS)), .clo 105 [] [.ptr 46007 0 0 0]] [(46007, some (.var s.cells))] (.d (vi (-1))) [] [] := by
  refine enter 19 [46007] Try.func110 rfl rfl (blOk_of rfl rfl ⟨rfl, trivial⟩) rfl rfl fun X w0 E0 => ?_
  refine awp_seq ?_
  refine awp_region ?_
  refine seqP (assignT rfl) rfl ?_
  refine ops_nil ?_
  refine awp_seq ?_
  refine awp_seq ?_
  refine awp_region ?_
  refine seqP (moveT rfl) rfl ?_
  refine seqP (lenRT rfl rfl (List.length_map ..)) rfl ?_
  refine seqP (moveT rfl) rfl ?_
  refine ops_nil ?_
  refine awp_block ?_
  refine awp_loop (ι := Nat) (fun p => ⟨[(0, .d (.s (l.map encS))), (1, .clo 105 [] [.ptr 46007 0 0 0]), (7, .d (vi l.length)), (8, .d (vi (p : Nat)))], [(46007, some (.var s.cells))]⟩) (fun p => p ≤ l.length) (fun p => l.length - p) 0 (Nat.zero_le _) (turn_sub ⟨⟨rfl, rfl, rfl, rfl, trivial⟩, ⟨rfl, trivial⟩⟩) (fun p hP => ?_)
  refine awp_seq ?_
  refine awp_region ?_
  refine seqP (intTT rfl rfl rfl) rfl ?_
  refine ops_nil ?_
  refine awp_seq ?_
  refine awp_if rfl (fun h9 => ?_) (fun h9 => ?_)
  · -- yes
    try simp only [mOr, mAnd, decide_eq_true_eq, decide_eq_false_iff_not, beq_iff_eq, beq_eq_false_iff_ne, bne_iff_ne, ne_eq, bne_eq_false_iff_eq, Bool.or_eq_true, Bool.or_eq_false_iff, Bool.and_eq_true, Bool.and_eq_false_iff, Bool.not_eq_true', Bool.not_eq_false', Int.not_lt, Int.not_le, gt_iff_lt, ge_iff_le] at h9
    refine awp_skip ?_
    refine awp_seq ?_
    refine awp_block ?_
    refine awp_seq ?_
    refine awp_region ?_
    refine seqP (moveT rfl) rfl ?_
    refine seqP (assignT rfl) rfl ?_
    refine ops_nil ?_
    refine awp_seq ?_
    refine awp_region ?_
    refine seqP (moveT rfl) rfl ?_
    refine seqP (moveT rfl) rfl ?_
    refine seqP (moveT rfl) rfl ?_
    obtain ⟨x, hx⟩ : ∃ x, l[p]? = some x := ⟨_, List.getElem?_eq_getElem (by omega)⟩
    have hxm := List.mem_of_getElem? hx
    refine seqP (indexRT rfl rfl rfl (by omega) (idx_map hx) rfl) rfl ?_
    refine seqP (loadRsT rfl rfl rfl rfl rfl) rfl ?_
    refine seqP (callT rfl rfl rfl (callB_of Try.func105 rfl) (c105 s x (hok x hxm)) ⟨rfl, trivial⟩) rfl ?_
    refine ops_nil ?_
    refine awp_ifN rfl ?_
    refine awp_skip ?_
    refine awp_region ?_
    refine seqP (intnT rfl rfl rfl (wrap_succ (by omega))) rfl ?_
    refine seqP (moveT rfl) rfl ?_
    refine ops_nil ?_
    refine ⟨(p + 1), (by show p + 1 ≤ _; omega), (turn_sub ⟨⟨rfl, rfl, rfl, rfl, trivial⟩, ⟨rfl, trivial⟩⟩), by show l.length - (p + 1) < l.length - p; omega⟩
  · -- no
    try simp only [mOr, mAnd, decide_eq_true_eq, decide_eq_false_iff_not, beq_iff_eq, beq_eq_false_iff_ne, bne_iff_ne, ne_eq, bne_eq_false_iff_eq, Bool.or_eq_true, Bool.or_eq_false_iff, Bool.and_eq_true, Bool.and_eq_false_iff, Bool.not_eq_true', Bool.not_eq_false', Int.not_lt, Int.not_le, gt_iff_lt, ge_iff_le] at h9
    refine awp_exit ?_
    refine awp_seq ?_
    refine awp_region ?_
    refine seqP (assignT rfl) rfl ?_
    refine ops_nil ?_
    refine awp_ret ?_
    refine ret_blocks (resl_tmp rfl resl_nil) ?_ rfl trivial ⟨.inr rfl, trivial⟩
    rfl

theorem sp49c (s : Sending) (l : List Sending) (hl : l.length ≤ 100000000) (hok : ∀ x ∈ l, clashS x s = false) : Spec Try.prog 49 [.d (.s (l.map encS)), .clo 105 [] [.ptr 46007 0 0 0]] [(46007, some (.var s.cells))] (.d (vb false)) [] [] := by
  refine enter 9 [46007] Try.func49 rfl rfl (blOk_of rfl rfl ⟨rfl, trivial⟩) rfl rfl fun X w0 E0 => ?_
  refine awp_seq ?_
  refine awp_region ?_
  refine seqP (assignT rfl) rfl ?_
  refine ops_nil ?_
  refine awp_seq ?_
  refine awp_region ?_
  refine seqP (moveT rfl) rfl ?_
  refine seqP (moveT rfl) rfl ?_
  refine seqP (callT rfl rfl rfl (callB_of Try.func110 rfl) (sp49ci s l hl hok) ⟨rfl, trivial⟩) rfl ?_
  refine seqP (show Step Try.prog _ _ _ (.d (vb false)) [] [] from intTT rfl rfl rfl) rfl ?_
  refine seqP (assignT rfl) rfl ?_
  refine ops_nil ?_
  refine awp_ret ?_
  refine ret_blocks (resl_tmp rfl resl_nil) ?_ rfl trivial ⟨.inr rfl, trivial⟩
  rfl

theorem sp46 (w : Air) (l : List Sending) (h : AirOk w) (hL : ListOk w l) : Spec Try.prog 46 [w.av, .d (.s (l.map encS))] [] (.d (vi 0)) [] [] := by
  have hn32 := h.n32
  have hl64 := hL.len
  refine enter 69 [] Try.func46 rfl rfl blOk_nil rfl rfl fun X w0 E0 => ?_
  refine awp_seq ?_
  refine awp_region ?_
  refine seq1 (boxT rfl rfl rfl) rfl rfl ?_
  refine seqP (assignT rfl) rfl ?_
  refine ops_nil ?_
  refine awp_seq ?_
  refine awp_seq ?_
  refine awp_region ?_
  refine seqP (loadVsT rfl rfl rfl rfl) rfl ?_
  refine seqP (callT rfl rfl rfl (callB_of Try.func103 rfl) (sp103 w h) trivial) rfl ?_
  refine seqP (assignT rfl) rfl ?_
  refine ops_nil ?_
  refine awp_seq ?_
  refine awp_region ?_
  refine seqP (moveT rfl) rfl ?_
  refine seqP (neqFT rfl rfl rfl) rfl ?_
  refine ops_nil ?_
  refine awp_ifN rfl ?_
  refine awp_skip ?_
  refine awp_seq ?_
  refine awp_seq ?_
  refine awp_region ?_
  refine seqP (moveT rfl) rfl ?_
  refine seqP (lenRT rfl rfl (List.length_map ..)) rfl ?_
  refine seqP (gtrF rfl rfl (by omega)) rfl ?_
  refine ops_nil ?_
  refine awp_ifN rfl ?_
  refine awp_skip ?_
  refine awp_seq ?_
  refine awp_seq ?_
  refine awp_region ?_
  refine seqP (moveT rfl) rfl ?_
  refine seqP (lenRT rfl rfl (List.length_map ..)) rfl ?_
  refine seqP (moveT rfl) rfl ?_
  refine ops_nil ?_
  refine awp_block ?_
  refine awp_loop (ι := Nat) (fun p => ⟨[(1, .d (.s (l.map encS))), (2, .ptr 2 0 0 0), (17, .d (.s (l.map encS))), (18, .d (vi l.length)), (19, .d (vi (p : Nat)))], [(2, some (.var w.cells))]⟩) (fun p => p ≤ l.length) (fun p => l.length - p) 0 (Nat.zero_le _) (turn_sub ⟨⟨rfl, rfl, rfl, rfl, rfl, trivial⟩, ⟨rfl, trivial⟩⟩) (fun p hP => ?_)
  refine awp_seq ?_
  refine awp_region ?_
  refine seqP (intTT rfl rfl rfl) rfl ?_
  refine ops_nil ?_
  refine awp_seq ?_
  refine awp_if rfl (fun h20 => ?_) (fun h20 => ?_)
  · -- yes
    try simp only [mOr, mAnd, decide_eq_true_eq, decide_eq_false_iff_not, beq_iff_eq, beq_eq_false_iff_ne, bne_iff_ne, ne_eq, bne_eq_false_iff_eq, Bool.or_eq_true, Bool.or_eq_false_iff, Bool.and_eq_true, Bool.and_eq_false_iff, Bool.not_eq_true', Bool.not_eq_false', Int.not_lt, Int.not_le, gt_iff_lt, ge_iff_le] at h20
    refine awp_skip ?_
    refine awp_seq ?_
    refine awp_block ?_
    refine awp_seq ?_
    have hpl : p < l.length := by omega
    obtain ⟨s, hs⟩ : ∃ s, l.getD p default = s := ⟨_, rfl⟩
    have hso : SendOk w s := hs ▸ hL.ok _ (mem_getD hpl)
    have hap := hL.apart p hpl
    rw [hs] at hap
    have hx1 := hso.node
    have hx2 := hso.s0
    have hx3 := hso.se
    have hx4 := hso.e1
    have hx5 := hso.n0
    have hx6 := hso.n1
    refine awp_region ?_
    refine seqP (moveT rfl) rfl ?_
    refine seqP (indexRT rfl rfl rfl (by omega) (show _ = some (encS s) from hs ▸ idx_getD (z := default) hpl) rfl) rfl ?_
    refine seqP (loadRsT rfl rfl rfl rfl rfl) rfl ?_
    refine seq1 (allocN 46007 rfl rfl) rfl rfl ?_
    refine seqP (assignT rfl) rfl ?_
    refine seq0 (storeVT rfl rfl rfl rfl rfl rfl rfl) ?_
    refine ops_nil ?_
    refine awp_seq ?_
    refine awp_seq ?_
    refine awp_region ?_
    refine seqP (fieldPT rfl rfl rfl) rfl ?_
    refine seqP (loadVT rfl rfl rfl rfl) rfl ?_
    refine seqP (lssF rfl rfl (by omega)) rfl ?_
    refine seqP (moveT rfl) rfl ?_
    refine seqGy rfl rfl ?_
    refine seqP (fieldPT rfl rfl rfl) rfl ?_
    refine seqGy rfl rfl ?_
    refine seqP (loadVT rfl rfl rfl rfl) rfl ?_
    refine seqGy rfl rfl ?_
    refine seqP (fieldPT rfl rfl rfl) rfl ?_
    refine seqGy rfl rfl ?_
    refine seqP (loadVT rfl rfl rfl rfl) rfl ?_
    refine seqGy rfl rfl ?_
    refine seqP (lenRT rfl rfl (List.length_map ..)) rfl ?_
    refine seqGy rfl rfl ?_
    refine seqP (geqF rfl rfl (by omega)) rfl ?_
    refine seqP (pickNT rfl rfl) rfl ?_
    refine seqP (moveT rfl) rfl ?_
    refine seqGy rfl rfl ?_
    refine seqP (fieldPT rfl rfl rfl) rfl ?_
    refine seqGy rfl rfl ?_
    refine seqP (loadVT rfl rfl rfl rfl) rfl ?_
    refine seqGy rfl rfl ?_
    refine seqP (lssF rfl rfl (by omega)) rfl ?_
    refine seqP (pickNT rfl rfl) rfl ?_
    refine seqP (moveT rfl) rfl ?_
    refine seqGy rfl rfl ?_
    refine seqP (fieldPT rfl rfl rfl) rfl ?_
    refine seqGy rfl rfl ?_
    refine seqP (loadVT rfl rfl rfl rfl) rfl ?_
    refine seqGy rfl rfl ?_
    refine seqP (fieldPT rfl rfl rfl) rfl ?_
    refine seqGy rfl rfl ?_
    refine seqP (loadVT rfl rfl rfl rfl) rfl ?_
    refine seqGy rfl rfl ?_
    refine seqP (leqF rfl rfl (by omega)) rfl ?_
    refine seqP (pickNT rfl rfl) rfl ?_
    refine seqP (moveT rfl) rfl ?_
    refine seqGy rfl rfl ?_
    refine seqP (fieldPT rfl rfl rfl) rfl ?_
    refine seqGy rfl rfl ?_
    refine seqP (loadVT rfl rfl rfl rfl) rfl ?_
    refine seqGy rfl rfl ?_
    refine seqP (gtrF rfl rfl (by omega)) rfl ?_
    refine seqP (pickNT rfl rfl) rfl ?_
    refine seqP (moveT rfl) rfl ?_
    refine seqGy rfl rfl ?_
    refine seqP (fieldPT rfl rfl rfl) rfl ?_
    refine seqGy rfl rfl ?_
    refine seqP (loadVT rfl rfl rfl rfl) rfl ?_
    refine seqGy rfl rfl ?_
    refine seqP (lssF rfl rfl (by omega)) rfl ?_
    refine seqP (pickNT rfl rfl) rfl ?_
    refine seqP (moveT rfl) rfl ?_
    refine seqGy rfl rfl ?_
    refine seqP (fieldPT rfl rfl rfl) rfl ?_
    refine seqGy rfl rfl ?_
    refine seqP (loadVT rfl rfl rfl rfl) rfl ?_
    refine seqGy rfl rfl ?_
    refine seqP (gtrF rfl rfl (by omega)) rfl ?_
    refine seqP (pickNT rfl rfl) rfl ?_
    refine ops_nil ?_
    refine awp_ifN rfl ?_
    refine awp_skip ?_
    refine awp_seq ?_
    refine awp_region ?_
    refine seqP (mkFuncT rfl rfl) rfl ?_
    refine seqP (assignT rfl) rfl ?_
    refine ops_nil ?_
    refine awp_seq ?_
    refine awp_region ?_
    refine seqP (moveT rfl) rfl ?_
    refine seqP (moveT rfl) rfl ?_
    refine seqP (sliceRT rfl rfl (List.length_map ..) rfl rfl send_rows (by decide) (by omega) (by omega) (show _ = (l.take p).map encS by simp)) rfl ?_
    refine seqP (moveT rfl) rfl ?_
    refine seqP (callT rfl rfl rfl (callB_of Try.func49 rfl) (sp49c s (l.take p) (by simp only [List.length_take]; omega) hap) ⟨rfl, trivial⟩) rfl ?_
    refine ops_nil ?_
    refine awp_ifN rfl ?_
    refine awp_skip ?_
    refine awp_region ?_
    refine seqP (intnT rfl rfl rfl (wrap_succ (by omega))) rfl ?_
    refine seqP (moveT rfl) rfl ?_
    refine ops_nil ?_
    refine ⟨(p + 1), (by show p + 1 ≤ _; omega), (turn_sub ⟨⟨rfl, rfl, rfl, rfl, rfl, trivial⟩, ⟨rfl, trivial⟩⟩), by show l.length - (p + 1) < l.length - p; omega⟩
  · -- no
    try simp only [mOr, mAnd, decide_eq_true_eq, decide_eq_false_iff_not, beq_iff_eq, beq_eq_false_iff_ne, bne_iff_ne, ne_eq, bne_eq_false_iff_eq, Bool.or_eq_true, Bool.or_eq_false_iff, Bool.and_eq_true, Bool.and_eq_false_iff, Bool.not_eq_true', Bool.not_eq_false', Int.not_lt, Int.not_le, gt_iff_lt, ge_iff_le] at h20
    refine awp_exit ?_
    refine awp_seq ?_
    refine awp_region ?_
    refine seqP (assignT rfl) rfl ?_
    refine ops_nil ?_
    refine awp_ret ?_
    refine ret_plain (resl_tmp rfl resl_nil) ?_ rfl
    rfl

theorem sp112 (w : Air) (j : Nat) (x : Sending) (h : AirOk w) (hj : j < w.radios.length) (hx : x.node < w.radios.length) : Spec Try.prog 112 [x.av, .ptr 50003 0 0 0, .ptr 50005 0 0 0] [(50003, some (.var w.cells)), (50005, some (.var [.d (vi (j : Nat))]))] (.d (vb (senseP w j x))) [] [] := by
  refine enter 22 [50003, 50005] Try.func112 rfl rfl (blOk_of rfl rfl ⟨rfl, rfl, trivial⟩) rfl rfl fun X w0 E0 => ?_
  refine awp_seq ?_
  refine awp_region ?_
  refine seq1 (boxT rfl rfl rfl) rfl rfl ?_
  refine seqP (assignT rfl) rfl ?_
  refine ops_nil ?_
  refine awp_seq ?_
  refine awp_region ?_
  refine seqP (loadVsT rfl rfl rfl rfl) rfl ?_
  refine seqP (loadVT rfl rfl rfl rfl) rfl ?_
  refine seqP (fieldPT rfl rfl rfl) rfl ?_
  refine seqP (loadVT rfl rfl rfl rfl) rfl ?_
  refine seqP (callT rfl rfl rfl (callB_of Try.func13 rfl) (sp13 w j x.node h hx hj) trivial) rfl ?_
  refine seqP (moveT rfl) rfl ?_
  refine seqP (extractT rfl rfl) rfl ?_
  refine seqP (extractT rfl rfl) rfl ?_
  refine seqP (assignT rfl) rfl ?_
  refine seqP (assignT rfl) rfl ?_
  refine ops_nil ?_
  refine awp_seq ?_
  refine awp_region ?_
  refine seqP (moveT rfl) rfl ?_
  refine seqP (moveT rfl) rfl ?_
  refine seqM 4 (g := 21) (x := ?_) rfl rfl (fun Q g16 hJ => ?_) (fun Q g16 hJ => ?_) ?_
  rotate_left 1
  · -- taken
    refine seqP (fieldPT rfl rfl rfl) rfl ?_
    refine seqGy rfl rfl ?_
    refine seqP (loadVT rfl rfl rfl rfl) rfl ?_
    refine seqGy rfl rfl ?_
    refine seqP (loadVT rfl rfl rfl rfl) rfl ?_
    refine seqGy rfl rfl ?_
    refine seqP (intTT rfl rfl rfl) rfl ?_
    refine seqP (pickNT rfl rfl) rfl ?_
    refine hJ 5 _ ?_
    exact ⟨.inl rfl, .inl rfl, .inl rfl, .inl rfl, .inr (congrArg (fun b => AV.d (D.v (Value.bool b))) g16), rfl⟩
  · -- left
    refine seqGn rfl rfl ?_
    refine seqGn rfl rfl ?_
    refine seqGn rfl rfl ?_
    refine seqP (pickYT rfl rfl) rfl ?_
    refine hJ 5 _ ?_
    exact ⟨.inl rfl, .inl rfl, .inl rfl, .inl rfl, .inr (congrArg (fun b => AV.d (D.v (Value.bool b))) g16), rfl⟩
  refine seqP (assignT rfl) rfl ?_
  refine ops_nil ?_
  refine awp_ret ?_
  refine ret_blocks (resl_tmp rfl resl_nil) ?_ rfl trivial ⟨.inr rfl, .inr rfl, trivial⟩
  simp only [mOr]; rfl

theorem sp111 (w : Air) (j : Nat) (l : List Sending) (h : AirOk w) (hj : j < w.radios.length) (hl : l.length ≤ 100000) (hx : ∀ x ∈ l, x.node < w.radios.length) : Spec Try.prog 111 [.d (.s (l.map encS)), .clo 112 [] [.ptr 50003 0 0 0, .ptr 50005 0 0 0]] [(50003, some (.var w.cells)), (50005, some (.var [.d (vi (j : Nat))]))] (.d (.s ((sensedS w l j).map encS))) [] [] := by
  refine enter 22 [50003, 50005] Try.func111 rfl rfl (blOk_of rfl rfl ⟨rfl, rfl, trivial⟩) rfl rfl fun X w0 E0 => ?_
  refine awp_seq ?_
  refine awp_region ?_
  refine seqP (assignT rfl) rfl ?_
  refine ops_nil ?_
  refine awp_seq ?_
  refine awp_seq ?_
  refine awp_turn (turn_bind 4 111900 4 (by rfl) (by rfl)) ?_
  refine awp_region ?_
  refine seqP (moveT rfl) rfl ?_
  refine seqP (lenRT rfl rfl (List.length_map ..)) rfl ?_
  refine seqP (moveT rfl) rfl ?_
  refine ops_nil ?_
  refine awp_block ?_
  refine awp_loop (ι := Nat) (fun p => ⟨[(1, .clo 112 [] [.ptr 50003 0 0 0, .ptr 50005 0 0 0]), (4, .own 111900 0 4 (sensedS w (l.take p) j).length), (7, .d (.s (l.map encS))), (8, .d (vi l.length)), (9, .d (vi (p : Nat)))], [(50003, some (.var w.cells)), (50005, some (.var [.d (vi (j : Nat))])), (111900, some (.row 4 ((sensedS w (l.take p) j).map encS)))]⟩) (fun p => p ≤ l.length) (fun p => l.length - p) 0 (Nat.zero_le _) (turn_sub ⟨⟨rfl, rfl, rfl, rfl, rfl, trivial⟩, ⟨rfl, rfl, rfl, trivial⟩⟩) (fun p hP => ?_)
  refine awp_seq ?_
  refine awp_region ?_
  refine seqP (intTT rfl rfl rfl) rfl ?_
  refine ops_nil ?_
  refine awp_seq ?_
  refine awp_if rfl (fun h10 => ?_) (fun h10 => ?_)
  · -- yes
    try simp only [mOr, mAnd, decide_eq_true_eq, decide_eq_false_iff_not, beq_iff_eq, beq_eq_false_iff_ne, bne_iff_ne, ne_eq, bne_eq_false_iff_eq, Bool.or_eq_true, Bool.or_eq_false_iff, Bool.and_eq_true, Bool.and_eq_false_iff, Bool.not_eq_true', Bool.not_eq_false', Int.not_lt, Int.not_le, gt_iff_lt, ge_iff_le] at h10
    refine awp_skip ?_
    refine awp_seq ?_
    refine awp_block ?_
    refine awp_seq ?_
    obtain ⟨s, hs⟩ : ∃ s, l[p]? = some s := ⟨_, List.getElem?_eq_getElem (by omega)⟩
    have hsm := List.mem_of_getElem? hs
    refine awp_region ?_
    refine seqP (indexRT rfl rfl rfl (by omega) (idx_map hs) rfl) rfl ?_
    refine seqP (loadRsT rfl rfl rfl rfl rfl) rfl ?_
    refine seq1 (allocT rfl rfl) rfl rfl ?_
    refine seq0 (storeVT rfl rfl rfl rfl rfl rfl rfl) ?_
    refine ops_nil ?_
    refine awp_seq ?_
    refine awp_region ?_
    refine seqP (moveT rfl) rfl ?_
    refine seqP (loadVsT rfl rfl rfl rfl) rfl ?_
    refine seqP (callT rfl rfl rfl (callB_of Try.func112 rfl) (sp112 w j s h hj (hx s hsm)) ⟨rfl, rfl, trivial⟩) rfl ?_
    refine ops_nil ?_
    refine awp_if rfl (fun h15 => ?_) (fun h15 => ?_)
    · -- yes
      skip
      refine awp_region ?_
      refine seqP (moveT rfl) rfl ?_
      refine seqP (loadVsT rfl rfl rfl rfl) rfl ?_
      refine seqP (litT rfl rfl rfl rfl rfl rfl rfl rfl) rfl ?_
      have hsl : (sensedS w (l.take p) j).length ≤ 100000 := by have := List.length_filter_le (senseP w j) (l.take p); simp only [List.length_take] at this; simp only [sensedS]; omega
      have hsl1 : (sensedS w (l.take (p + 1)) j).length ≤ 100001 := by have := List.length_filter_le (senseP w j) (l.take (p + 1)); simp only [List.length_take] at this; simp only [sensedS]; omega
      refine seq2 (appendT (b' := 19) rfl rfl rfl rfl rfl rfl (List.length_map ..) (fun row h => by simp at h; subst h; rfl) (show (sensedS w (l.take p) j).length + 1 = (sensedS w (l.take (p + 1)) j).length by rw [sensed_yes hs h15]; simp) (show _ = (sensedS w (l.take (p + 1)) j).map encS by rw [sensed_yes hs h15, List.map_append]; rfl) (by omega) (by omega)) rfl rfl ?_
      refine seqP (assignT rfl) rfl ?_
      refine ops_nil ?_
      refine awp_region ?_
      refine seqP (intnT rfl rfl rfl (wrap_succ (by omega))) rfl ?_
      refine seqP (moveT rfl) rfl ?_
      refine ops_nil ?_
      refine ⟨(p + 1), (by show p + 1 ≤ _; omega), (turn_ren (fun n => bif Nat.beq n 111900 then 19 else n) ⟨rfl, rfl, rfl, rfl, rfl, trivial⟩ ⟨rfl, rfl, rfl, trivial⟩ rfl rfl), by show l.length - (p + 1) < l.length - p; omega⟩
    · -- no
      skip
      refine awp_skip ?_
      refine awp_region ?_
      refine seqP (intnT rfl rfl rfl (wrap_succ (by omega))) rfl ?_
      refine seqP (moveT rfl) rfl ?_
      refine ops_nil ?_
      refine ⟨(p + 1), (by show p + 1 ≤ _; omega), (turn_sub ⟨⟨rfl, (by rw [sensed_no hs h15]; rfl), rfl, rfl, rfl, trivial⟩, ⟨rfl, rfl, (by rw [sensed_no hs h15]; rfl), trivial⟩⟩), by show l.length - (p + 1) < l.length - p; omega⟩
  · -- no
    try simp only [mOr, mAnd, decide_eq_true_eq, decide_eq_false_iff_not, beq_iff_eq, beq_eq_false_iff_ne, bne_iff_ne, ne_eq, bne_eq_false_iff_eq, Bool.or_eq_true, Bool.or_eq_false_iff, Bool.and_eq_true, Bool.and_eq_false_iff, Bool.not_eq_true', Bool.not_eq_false', Int.not_lt, Int.not_le, gt_iff_lt, ge_iff_le] at h10
    refine awp_exit ?_
    refine awp_seq ?_
    have hpe : l.take p = l := List.take_of_length_le (by omega)
    simp only [hpe]
    refine awp_region ?_
    refine seqP (moveT rfl) rfl ?_
    refine seqP (assignT rfl) rfl ?_
    refine ops_turn (freezeT 4 111900 rfl rfl (List.length_map ..)) ?_
    refine ops_nil ?_
    refine awp_ret ?_
    refine ret_blocks (resl_tmp rfl resl_nil) ?_ rfl trivial ⟨.inr rfl, .inr rfl, trivial⟩
    rfl

theorem sp50 (w : Air) (l : List Sending) (j : Nat) (h : AirOk w) (hj : j < w.radios.length) (hl : l.length ≤ 100000) (hx : ∀ x ∈ l, x.node < w.radios.length) : Spec Try.prog 50 [w.av, .d (.s (l.map encS)), .d (vi (j : Nat))] [] (.d (.s ((sensedS w l j).map encS))) [] [] := by
  refine enter 10 [] Try.func50 rfl rfl blOk_nil rfl rfl fun X w0 E0 => ?_
  refine awp_seq ?_
  refine awp_region ?_
  refine seq1 (boxN 50003 rfl rfl rfl) rfl rfl ?_
  refine seq1 (boxN 50005 rfl rfl rfl) rfl rfl ?_
  refine seqP (assignT rfl) rfl ?_
  refine ops_nil ?_
  refine awp_seq ?_
  refine awp_region ?_
  refine seqP (moveT rfl) rfl ?_
  refine seqP (mkFuncT rfl rfl) rfl ?_
  refine seqP (callT rfl rfl rfl (callB_of Try.func111 rfl) (sp111 w j l h hj hl hx) ⟨rfl, rfl, trivial⟩) rfl ?_
  refine seqP (assignT rfl) rfl ?_
  refine ops_nil ?_
  refine awp_ret ?_
  refine ret_plain (resl_tmp rfl resl_nil) ?_ rfl
  rfl

theorem sp108 (t : Int) (h0 : 0 ≤ t) (h1 : t ≤ 1099511627776) : Spec Try.prog 108 [.d (vi t)] [] (.d (vb false)) [] [] := by
  refine enter 9 [] Try.func108 rfl rfl blOk_nil rfl rfl fun X w0 E0 => ?_
  refine awp_seq ?_
  refine awp_region ?_
  refine seqP (assignT rfl) rfl ?_
  refine ops_nil ?_
  refine awp_seq ?_
  refine awp_region ?_
  refine seqP (moveT rfl) rfl ?_
  refine seqP (lssF rfl rfl (by omega)) rfl ?_
  refine seqP (moveT rfl) rfl ?_
  refine seqGy rfl rfl ?_
  refine seqP (moveT rfl) rfl ?_
  refine seqGy rfl rfl ?_
  refine seqP (gtrF rfl rfl (by omega)) rfl ?_
  refine seqP (pickNT rfl rfl) rfl ?_
  refine seqP (assignT rfl) rfl ?_
  refine ops_nil ?_
  refine awp_ret ?_
  refine ret_plain (resl_tmp rfl resl_nil) ?_ rfl
  rfl

theorem sp109ti  (l : List Int) (hl : l.length ≤ 100000000) (hok : ∀ x ∈ l, 0 ≤ x ∧ x ≤ 1099511627776) : Spec Try.prog 190 [.d (.s (l.map encInt)), .clo 108 [] []] [] (.d (vi (-1))) [] [] := by
  refine enter 19 [] Try.func190 rfl rfl blOk_nil rfl rfl fun X w0 E0 => ?_
  refine awp_seq ?_
  refine awp_region ?_
  refine seqP (assignT rfl) rfl ?_
  refine ops_nil ?_
  refine awp_seq ?_
  refine awp_seq ?_
  refine awp_region ?_
  refine seqP (moveT rfl) rfl ?_
  refine seqP (lenRT rfl rfl (List.length_map ..)) rfl ?_
  refine seqP (moveT rfl) rfl ?_
  refine ops_nil ?_
  refine awp_block ?_
  refine awp_loop (ι := Nat) (fun p => ⟨[(0, .d (.s (l.map encInt))), (1, .clo 108 [] []), (7, .d (vi l.length)), (8, .d (vi (p : Nat)))], []⟩) (fun p => p ≤ l.length) (fun p => l.length - p) 0 (Nat.zero_le _) (turn_sub ⟨⟨rfl, rfl, rfl, rfl, trivial⟩, trivial⟩) (fun p hP => ?_)
  refine awp_seq ?_
  refine awp_region ?_
  refine seqP (intTT rfl rfl rfl) rfl ?_
  refine ops_nil ?_
  refine awp_seq ?_
  refine awp_if rfl (fun h9 => ?_) (fun h9 => ?_)
  · -- yes
    try simp only [mOr, mAnd, decide_eq_true_eq, decide_eq_false_iff_not, beq_iff_eq, beq_eq_false_iff_ne, bne_iff_ne, ne_eq, bne_eq_false_iff_eq, Bool.or_eq_true, Bool.or_eq_false_iff, Bool.and_eq_true, Bool.and_eq_false_iff, Bool.not_eq_true', Bool.not_eq_false', Int.not_lt, Int.not_le, gt_iff_lt, ge_iff_le] at h9
    refine awp_skip ?_
    refine awp_seq ?_
    refine awp_block ?_
    refine awp_seq ?_
    refine awp_region ?_
    refine seqP (moveT rfl) rfl ?_
    refine seqP (assignT rfl) rfl ?_
    refine ops_nil ?_
    refine awp_seq ?_
    refine awp_region ?_
    refine seqP (moveT rfl) rfl ?_
    refine seqP (moveT rfl) rfl ?_
    refine seqP (moveT rfl) rfl ?_
    obtain ⟨x, hx⟩ : ∃ x, l[p]? = some x := ⟨_, List.getElem?_eq_getElem (by omega)⟩
    have hxm := List.mem_of_getElem? hx
    refine seqP (indexRT rfl rfl rfl (by omega) (idx_map hx) rfl) rfl ?_
    refine seqP (loadRT rfl rfl rfl) rfl ?_
    refine seqP (callT rfl rfl rfl (callB_of Try.func108 rfl) (sp108 x (hok x hxm).1 (hok x hxm).2) trivial) rfl ?_
    refine ops_nil ?_
    refine awp_ifN rfl ?_
    refine awp_skip ?_
    refine awp_region ?_
    refine seqP (intnT rfl rfl rfl (wrap_succ (by omega))) rfl ?_
    refine seqP (moveT rfl) rfl ?_
    refine ops_nil ?_
    refine ⟨(p + 1), (by show p + 1 ≤ _; omega), (turn_sub ⟨⟨rfl, rfl, rfl, rfl, trivial⟩, trivial⟩), by show l.length - (p + 1) < l.length - p; omega⟩
  · -- no
    try simp only [mOr, mAnd, decide_eq_true_eq, decide_eq_false_iff_not, beq_iff_eq, beq_eq_false_iff_ne, bne_iff_ne, ne_eq, bne_eq_false_iff_eq, Bool.or_eq_true, Bool.or_eq_false_iff, Bool.and_eq_true, Bool.and_eq_false_iff, Bool.not_eq_true', Bool.not_eq_false', Int.not_lt, Int.not_le, gt_iff_lt, ge_iff_le] at h9
    refine awp_exit ?_
    refine awp_seq ?_
    refine awp_region ?_
    refine seqP (assignT rfl) rfl ?_
    refine ops_nil ?_
    refine awp_ret ?_
    refine ret_plain (resl_tmp rfl resl_nil) ?_ rfl
    rfl

theorem sp109t  (l : List Int) (hl : l.length ≤ 100000000) (hok : ∀ x ∈ l, 0 ≤ x ∧ x ≤ 1099511627776) : Spec Try.prog 109 [.d (.s (l.map encInt)), .clo 108 [] []] [] (.d (vb false)) [] [] := by
  refine enter 9 [] Try.func109 rfl rfl blOk_nil rfl rfl fun X w0 E0 => ?_
  refine awp_seq ?_
  refine awp_region ?_
  refine seqP (assignT rfl) rfl ?_
  refine ops_nil ?_
  refine awp_seq ?_
  refine awp_region ?_
  refine seqP (moveT rfl) rfl ?_
  refine seqP (moveT rfl) rfl ?_
  refine seqP (callT rfl rfl rfl (callB_of Try.func190 rfl) (sp109ti  l hl hok) trivial) rfl ?_
  refine seqP (show Step Try.prog _ _ _ (.d (vb false)) [] [] from intTT rfl rfl rfl) rfl ?_
  refine seqP (assignT rfl) rfl ?_
  refine ops_nil ?_
  refine awp_ret ?_
  refine ret_plain (resl_tmp rfl resl_nil) ?_ rfl
  rfl

theorem sp48 (w : Air) (l : List Sending) (j : Nat) (ts : List Int) (h : AirOk w) (hL : ListOk w l) (hj : j < w.radios.length) (hl : ts.length ≤ 1000) (hok : ∀ x ∈ ts, 0 ≤ x ∧ x ≤ 1099511627776) : Spec Try.prog 48 [w.av, .d (.s (l.map encS)), .d (vi (j : Nat)), .d (.s (ts.map encInt))] [] (.d (vi 0)) [] [] := by
  refine enter 31 [] Try.func48 rfl rfl blOk_nil rfl rfl fun X w0 E0 => ?_
  refine awp_seq ?_
  refine awp_region ?_
  refine seq1 (boxT rfl rfl rfl) rfl rfl ?_
  refine seqP (assignT rfl) rfl ?_
  refine ops_nil ?_
  refine awp_seq ?_
  refine awp_seq ?_
  refine awp_region ?_
  refine seqP (loadVsT rfl rfl rfl rfl) rfl ?_
  refine seqP (moveT rfl) rfl ?_
  refine seqP (callT rfl rfl rfl (callB_of Try.func46 rfl) (sp46 w l h hL) trivial) rfl ?_
  refine seqP (assignT rfl) rfl ?_
  refine ops_nil ?_
  refine awp_seq ?_
  refine awp_region ?_
  refine seqP (moveT rfl) rfl ?_
  refine seqP (neqFT rfl rfl rfl) rfl ?_
  refine ops_nil ?_
  refine awp_ifN rfl ?_
  refine awp_skip ?_
  refine awp_seq ?_
  refine awp_region ?_
  refine seqP (assignT rfl) rfl ?_
  refine ops_nil ?_
  refine awp_seq ?_
  refine awp_seq ?_
  refine awp_region ?_
  refine seqP (moveT rfl) rfl ?_
  refine seqP (lssF rfl rfl (by omega)) rfl ?_
  refine seqP (moveT rfl) rfl ?_
  refine seqGy rfl rfl ?_
  refine seqP (moveT rfl) rfl ?_
  refine seqGy rfl rfl ?_
  refine seqP (fieldPT rfl rfl rfl) rfl ?_
  refine seqGy rfl rfl ?_
  refine seqP (loadVT rfl rfl rfl rfl) rfl ?_
  refine seqGy rfl rfl ?_
  refine seqP (lenRT rfl rfl (List.length_map ..)) rfl ?_
  refine seqGy rfl rfl ?_
  refine seqP (geqF rfl rfl (by omega)) rfl ?_
  refine seqP (pickNT rfl rfl) rfl ?_
  refine seqP (moveT rfl) rfl ?_
  refine seqGy rfl rfl ?_
  refine seqP (moveT rfl) rfl ?_
  refine seqGy rfl rfl ?_
  refine seqP (moveT rfl) rfl ?_
  refine seqGy rfl rfl ?_
  refine seqP (callT rfl rfl rfl (callB_of Try.func109 rfl) (sp109t ts (by omega) hok) trivial) rfl ?_
  refine seqP (pickNT rfl rfl) rfl ?_
  refine ops_nil ?_
  refine awp_ifN rfl ?_
  refine awp_skip ?_
  refine awp_seq ?_
  refine awp_region ?_
  refine seqP (assignT rfl) rfl ?_
  refine ops_nil ?_
  refine awp_ret ?_
  refine ret_plain (resl_tmp rfl resl_nil) ?_ rfl
  rfl

theorem sp51 (t : Int) (x : Sending) : Spec Try.prog 51 [x.av, .ptr 15007 0 0 0] [(15007, some (.var [.d (vi t)]))] (.d (vb (activeS t x))) [] [] := by
  refine enter 14 [15007] Try.func51 rfl rfl (blOk_of rfl rfl ⟨rfl, trivial⟩) rfl rfl fun X w0 E0 => ?_
  refine awp_seq ?_
  refine awp_region ?_
  refine seq1 (boxT rfl rfl rfl) rfl rfl ?_
  refine seqP (assignT rfl) rfl ?_
  refine ops_nil ?_
  refine awp_seq ?_
  refine awp_region ?_
  refine seqP (fieldPT rfl rfl rfl) rfl ?_
  refine seqP (loadVT rfl rfl rfl rfl) rfl ?_
  refine seqP (loadVT rfl rfl rfl rfl) rfl ?_
  refine seqP (intTT rfl rfl rfl) rfl ?_
  refine seqP (moveT rfl) rfl ?_
  refine seqM 4 (g := 13) (x := ?_) rfl rfl (fun Q g8 hJ => ?_) (fun Q g8 hJ => ?_) ?_
  rotate_left 1
  · -- taken
    refine seqP (fieldPT rfl rfl rfl) rfl ?_
    refine seqGy rfl rfl ?_
    refine seqP (loadVT rfl rfl rfl rfl) rfl ?_
    refine seqGy rfl rfl ?_
    refine seqP (loadVT rfl rfl rfl rfl) rfl ?_
    refine seqGy rfl rfl ?_
    refine seqP (intTT rfl rfl rfl) rfl ?_
    refine seqP (pickYT rfl rfl) rfl ?_
    refine hJ 5 _ ?_
    exact ⟨.inl rfl, .inl rfl, .inl rfl, .inl rfl, .inr (congrArg (fun b => AV.d (D.v (Value.bool b))) g8), rfl⟩
  · -- left
    refine seqGn rfl rfl ?_
    refine seqGn rfl rfl ?_
    refine seqGn rfl rfl ?_
    refine seqP (pickNT rfl rfl) rfl ?_
    refine hJ 5 _ ?_
    exact ⟨.inl rfl, .inl rfl, .inl rfl, .inl rfl, .inr (congrArg (fun b => AV.d (D.v (Value.bool b))) g8), rfl⟩
  refine seqP (assignT rfl) rfl ?_
  refine ops_nil ?_
  refine awp_ret ?_
  refine ret_blocks (resl_tmp rfl resl_nil) ?_ rfl trivial ⟨.inr rfl, trivial⟩
  simp only [mAnd]; rfl

theorem sp110 (t : Int) (l : List Sending) (hl : l.length ≤ 100000000) : Spec Try.prog 110 [.d (.s (l.map encS)), .clo 51 [] [.ptr 15007 0 0 0]] [(15007, some (.var [.d (vi t)]))] (.d (vi (idxT t l))) [] [] := by
  refine enter 19 [15007] Try.func110 rfl rfl (blOk_of rfl rfl ⟨rfl, trivial⟩) rfl rfl fun X w0 E0 => ?_
  refine awp_seq ?_
  refine awp_region ?_
  refine seqP (assignT rfl) rfl ?_
  refine ops_nil ?_
  refine awp_seq ?_
  refine awp_seq ?_
  refine awp_region ?_
  refine seqP (moveT rfl) rfl ?_
  refine seqP (lenRT rfl rfl (List.length_map ..)) rfl ?_
  refine seqP (moveT rfl) rfl ?_
  refine ops_nil ?_
  refine awp_block ?_
  refine awp_loop (ι := Nat) (fun p => ⟨[(0, .d (.s (l.map encS))), (1, .clo 51 [] [.ptr 15007 0 0 0]), (7, .d (vi l.length)), (8, .d (vi (p : Nat)))], [(15007, some (.var [.d (vi t)]))]⟩) (fun p => p ≤ l.length ∧ (l.take p).any (activeS t) = false) (fun p => l.length - p) 0 ⟨Nat.zero_le _, by simp⟩ (turn_sub ⟨⟨rfl, rfl, rfl, rfl, trivial⟩, ⟨rfl, trivial⟩⟩) (fun p hP => ?_)
  refine awp_seq ?_
  refine awp_region ?_
  refine seqP (intTT rfl rfl rfl) rfl ?_
  refine ops_nil ?_
  refine awp_seq ?_
  refine awp_if rfl (fun h9 => ?_) (fun h9 => ?_)
  · -- yes
    try simp only [mOr, mAnd, decide_eq_true_eq, decide_eq_false_iff_not, beq_iff_eq, beq_eq_false_iff_ne, bne_iff_ne, ne_eq, bne_eq_false_iff_eq, Bool.or_eq_true, Bool.or_eq_false_iff, Bool.and_eq_true, Bool.and_eq_false_iff, Bool.not_eq_true', Bool.not_eq_false', Int.not_lt, Int.not_le, gt_iff_lt, ge_iff_le] at h9
    refine awp_skip ?_
    refine awp_seq ?_
    refine awp_block ?_
    refine awp_seq ?_
    refine awp_region ?_
    refine seqP (moveT rfl) rfl ?_
    refine seqP (assignT rfl) rfl ?_
    refine ops_nil ?_
    refine awp_seq ?_
    refine awp_region ?_
    refine seqP (moveT rfl) rfl ?_
    refine seqP (moveT rfl) rfl ?_
    refine seqP (moveT rfl) rfl ?_
    obtain ⟨x, hx⟩ : ∃ x, l[p]? = some x := ⟨_, List.getElem?_eq_getElem (by omega)⟩
    refine seqP (indexRT rfl rfl rfl (by omega) (idx_map hx) rfl) rfl ?_
    refine seqP (loadRsT rfl rfl rfl rfl rfl) rfl ?_
    refine seqP (callT rfl rfl rfl (callB_of Try.func51 rfl) (sp51 t x) ⟨rfl, trivial⟩) rfl ?_
    refine ops_nil ?_
    refine awp_if rfl (fun h16 => ?_) (fun h16 => ?_)
    · -- yes
      skip
      refine awp_seq ?_
      refine awp_region ?_
      refine seqP (moveT rfl) rfl ?_
      refine seqP (assignT rfl) rfl ?_
      refine ops_nil ?_
      refine awp_ret ?_
      refine ret_blocks (resl_tmp rfl resl_nil) ?_ rfl trivial ⟨.inr rfl, trivial⟩
      obtain ⟨h1, h2⟩ := any_take hx hP.2 h16
      simp only [idxT, if_pos h1, h2]; rfl
    · -- no
      skip
      refine awp_skip ?_
      refine awp_region ?_
      refine seqP (intnT rfl rfl rfl (wrap_succ (by omega))) rfl ?_
      refine seqP (moveT rfl) rfl ?_
      refine ops_nil ?_
      refine ⟨(p + 1), ⟨by omega, any_take_succ hx hP.2 h16⟩, (turn_sub ⟨⟨rfl, rfl, rfl, rfl, trivial⟩, ⟨rfl, trivial⟩⟩), by show l.length - (p + 1) < l.length - p; omega⟩
  · -- no
    try simp only [mOr, mAnd, decide_eq_true_eq, decide_eq_false_iff_not, beq_iff_eq, beq_eq_false_iff_ne, bne_iff_ne, ne_eq, bne_eq_false_iff_eq, Bool.or_eq_true, Bool.or_eq_false_iff, Bool.and_eq_true, Bool.and_eq_false_iff, Bool.not_eq_true', Bool.not_eq_false', Int.not_lt, Int.not_le, gt_iff_lt, ge_iff_le] at h9
    refine awp_exit ?_
    refine awp_seq ?_
    refine awp_region ?_
    refine seqP (assignT rfl) rfl ?_
    refine ops_nil ?_
    refine awp_ret ?_
    refine ret_blocks (resl_tmp rfl resl_nil) ?_ rfl trivial ⟨.inr rfl, trivial⟩
    have h1 : ¬ l.any (activeS t) = true := by
      have := hP.2
      rw [List.take_of_length_le (by omega)] at this; rw [this]; simp
    simp only [idxT, if_neg h1]; rfl

theorem sp49 (t : Int) (l : List Sending) (hl : l.length ≤ 100000000) : Spec Try.prog 49 [.d (.s (l.map encS)), .clo 51 [] [.ptr 15007 0 0 0]] [(15007, some (.var [.d (vi t)]))] (.d (vb (l.any (activeS t)))) [] [] := by
  refine enter 9 [15007] Try.func49 rfl rfl (blOk_of rfl rfl ⟨rfl, trivial⟩) rfl rfl fun X w0 E0 => ?_
  refine awp_seq ?_
  refine awp_region ?_
  refine seqP (assignT rfl) rfl ?_
  refine ops_nil ?_
  refine awp_seq ?_
  refine awp_region ?_
  refine seqP (moveT rfl) rfl ?_
  refine seqP (moveT rfl) rfl ?_
  refine seqP (callT rfl rfl rfl (callB_of Try.func110 rfl) (sp110 t l hl) ⟨rfl, trivial⟩) rfl ?_
  refine seqP (intTT rfl rfl rfl) rfl ?_
  refine seqP (assignT rfl) rfl ?_
  refine ops_nil ?_
  refine awp_ret ?_
  refine ret_blocks (resl_tmp rfl resl_nil) ?_ rfl trivial ⟨.inr rfl, trivial⟩
  have h1 : decide (idxT t l ≥ 0) = l.any (activeS t) := by
    unfold idxT
    cases l.any (activeS t) <;> simp
  rw [← h1]; rfl

theorem sp15 (w : Air) (l : List Sending) (j : Nat) (t : Int) (h : AirOk w) (hL : ListOk w l) (hj : j < w.radios.length) (h0 : 0 ≤ t) (h1 : t ≤ 1099511627776) : Spec Try.prog 15 [w.av, .d (.s (l.map encS)), .d (vi (j : Nat)), .d (vi t)] [] (.tup [.d (vb (busyS w l j t)), .d (vi 0)]) [] [] := by
  have hlen := hL.len
  have hlt : (sensedS w l j).length ≤ l.length := List.length_filter_le ..
  refine enter 26 [] Try.func15 rfl rfl blOk_nil rfl rfl fun X w0 E0 => ?_
  refine awp_seq ?_
  refine awp_region ?_
  refine seq1 (boxT rfl rfl rfl) rfl rfl ?_
  refine seq1 (boxN 15007 rfl rfl rfl) rfl rfl ?_
  refine seqP (assignT rfl) rfl ?_
  refine seqP (assignT rfl) rfl ?_
  refine ops_nil ?_
  refine awp_seq ?_
  refine awp_seq ?_
  refine awp_region ?_
  refine seqP (loadVsT rfl rfl rfl rfl) rfl ?_
  refine seqP (moveT rfl) rfl ?_
  refine seqP (moveT rfl) rfl ?_
  refine seqP (loadVT rfl rfl rfl rfl) rfl ?_
  refine seqP (litT rfl rfl rfl rfl rfl rfl rfl rfl) rfl ?_
  refine seqP (callT rfl rfl rfl (callB_of Try.func48 rfl) (sp48 w l j [t] h hL hj (Nat.le_of_ble_eq_true rfl) (by intro x hx; simp at hx; subst hx; omega)) trivial) rfl ?_
  refine seqP (assignT rfl) rfl ?_
  refine ops_nil ?_
  refine awp_seq ?_
  refine awp_region ?_
  refine seqP (moveT rfl) rfl ?_
  refine seqP (neqFT rfl rfl rfl) rfl ?_
  refine ops_nil ?_
  refine awp_ifN rfl ?_
  refine awp_skip ?_
  refine awp_seq ?_
  refine awp_region ?_
  refine seqP (loadVsT rfl rfl rfl rfl) rfl ?_
  refine seqP (moveT rfl) rfl ?_
  refine seqP (moveT rfl) rfl ?_
  refine seqP (callT rfl rfl rfl (callB_of Try.func50 rfl) (sp50 w l j h hj (by omega) fun x hx => (hL.ok x hx).node) trivial) rfl ?_
  refine seqP (mkFuncT rfl rfl) rfl ?_
  refine seqP (callT rfl rfl rfl (callB_of Try.func49 rfl) (sp49 t (sensedS w l j) (by omega)) ⟨rfl, trivial⟩) rfl ?_
  refine seqP (assignT rfl) rfl ?_
  refine seqP (assignT rfl) rfl ?_
  refine ops_nil ?_
  refine awp_ret ?_
  refine ret_plain (resl_tmp rfl (resl_tmp rfl resl_nil)) ?_ rfl
  rfl

theorem sp16 (w : Air) (l : List Sending) (j : Nat) (f sp T : Int) (h : AirOk w) (hL : ListOk w l) (hj : j < w.radios.length) (h0 : 0 ≤ f) (h1 : f ≤ 1099511627776) (p0 : 0 ≤ sp) (p1 : sp ≤ 1099511627776) (hT : if sp = 0 then T = f else IdleIs (sensedS w l j) sp f T) :
    Spec Try.prog 16 [w.av, .d (.s (l.map encS)), .d (vi (j : Nat)), .d (vi f), .d (vi sp)] [] (.tup [.d (vi T), .d (vi 0)]) [] [] := by
  have hlen := hL.len
  have hlt : (sensedS w l j).length ≤ l.length := List.length_filter_le ..
  refine enter 59 [] Try.func16 rfl rfl blOk_nil rfl rfl fun X w0 E0 => ?_
  refine awp_seq ?_
  refine awp_region ?_
  refine seq1 (boxT rfl rfl rfl) rfl rfl ?_
  refine seqP (assignT rfl) rfl ?_
  refine seqP (assignT rfl) rfl ?_
  refine ops_nil ?_
  refine awp_seq ?_
  refine awp_seq ?_
  refine awp_region ?_
  refine seqP (loadVsT rfl rfl rfl rfl) rfl ?_
  refine seqP (moveT rfl) rfl ?_
  refine seqP (moveT rfl) rfl ?_
  refine seqP (moveT rfl) rfl ?_
  refine seqP (moveT rfl) rfl ?_
  refine seqP (litT rfl rfl rfl rfl rfl rfl rfl rfl) rfl ?_
  refine seqP (callT rfl rfl rfl (callB_of Try.func48 rfl) (sp48 w l j [f, sp] h hL hj (Nat.le_of_ble_eq_true rfl) (by intro x hx; simp at hx; rcases hx with rfl | rfl <;> omega)) trivial) rfl ?_
  refine seqP (assignT rfl) rfl ?_
  refine ops_nil ?_
  refine awp_seq ?_
  refine awp_region ?_
  refine seqP (moveT rfl) rfl ?_
  refine seqP (neqFT rfl rfl rfl) rfl ?_
  refine ops_nil ?_
  refine awp_ifN rfl ?_
  refine awp_skip ?_
  refine awp_seq ?_
  refine awp_seq ?_
  refine awp_region ?_
  refine seqP (moveT rfl) rfl ?_
  refine seqP (intTT rfl rfl rfl) rfl ?_
  refine ops_nil ?_
  refine awp_if rfl (fun h28 => ?_) (fun h28 => ?_)
  · -- yes
    have hs0 : sp = 0 := by simpa using h28
    rw [if_pos hs0] at hT
    subst hT
    refine awp_seq ?_
    refine awp_region ?_
    refine seqP (moveT rfl) rfl ?_
    refine seqP (assignT rfl) rfl ?_
    refine seqP (assignT rfl) rfl ?_
    refine ops_nil ?_
    refine awp_ret ?_
    refine ret_plain (resl_tmp rfl (resl_tmp rfl resl_nil)) ?_ rfl
    rfl
  · -- no
    have hs0 : ¬ sp = 0 := by simpa using h28
    rw [if_neg hs0] at hT
    have hTf := hT.ge
    refine awp_skip ?_
    refine awp_seq ?_
    refine awp_region ?_
    refine seqP (moveT rfl) rfl ?_
    refine seqP (assignT rfl) rfl ?_
    refine ops_nil ?_
    refine awp_seq ?_
    refine awp_seq ?_
    refine awp_region ?_
    refine seqP (assignT rfl) rfl ?_
    refine ops_nil ?_
    refine awp_block ?_
    refine awp_loop (ι := Nat × Int × Bool) (fun v => ⟨[(1, .d (.s (l.map encS))), (2, .d (vi (j : Nat))), (4, .d (vi sp)), (5, .ptr 5 0 0 0), (13, .d (vi v.2.1)), (14, .d (vb v.2.2))], [(5, some (.var w.cells))]⟩) (fun v => f ≤ v.2.1 ∧ v.2.1 ≤ T ∧ v.2.1 ≤ 1099511627776 + sp ∧ (v.2.2 = true → cnt sp (sensedS w l j) v.2.1 < v.1) ∧ (v.2.2 = false → v.2.1 = T)) (fun v => v.1) (cnt sp (sensedS w l j) f + 1, f, true) ⟨Int.le_refl _, hTf, by show f ≤ _; omega, fun _ => Nat.lt_succ_self _, fun e => by cases e⟩ (turn_sub ⟨⟨rfl, rfl, rfl, rfl, rfl, rfl, trivial⟩, ⟨rfl, trivial⟩⟩) (fun v hP => ?_)
    obtain ⟨g, t, ag⟩ := v
    obtain ⟨ht0, ht1, ht2, hag, hna⟩ := hP
    simp only at ht0 ht1 ht2 hag hna ⊢
    refine awp_seq ?_
    refine awp_seq ?_
    refine awp_region ?_
    refine seqP (moveT rfl) rfl ?_
    refine ops_nil ?_
    refine awp_if rfl (fun h31 => ?_) (fun h31 => ?_)
    · -- yes
      have hc := hag h31
      refine awp_skip ?_
      refine awp_block ?_
      refine awp_seq ?_
      refine awp_region ?_
      refine seqP (assignT rfl) rfl ?_
      refine ops_nil ?_
      refine awp_seq ?_
      refine awp_region ?_
      refine seqP (loadVsT rfl rfl rfl rfl) rfl ?_
      refine seqP (moveT rfl) rfl ?_
      refine seqP (moveT rfl) rfl ?_
      refine seqP (callT rfl rfl rfl (callB_of Try.func50 rfl) (sp50 w l j h hj (by omega) fun x hx => (hL.ok x hx).node) trivial) rfl ?_
      refine seqP (lenRT rfl rfl (List.length_map ..)) rfl ?_
      refine seqP (moveT rfl) rfl ?_
      refine ops_nil ?_
      refine awp_block ?_
      refine awp_loop (ι := Nat × Int × Bool) (fun u => ⟨[(1, .d (.s (l.map encS))), (2, .d (vi (j : Nat))), (4, .d (vi sp)), (5, .ptr 5 0 0 0), (13, .d (vi u.2.1)), (14, .d (vb u.2.2)), (35, .d (.s ((sensedS w l j).map encS))), (36, .d (vi (sensedS w l j).length)), (37, .d (vi (u.1 : Nat)))], [(5, some (.var w.cells))]⟩) (fun u => u.1 ≤ (sensedS w l j).length ∧ t ≤ u.2.1 ∧ u.2.1 ≤ T ∧ u.2.1 ≤ 1099511627776 + sp ∧ (u.2.2 = true → cnt sp (sensedS w l j) u.2.1 < cnt sp (sensedS w l j) t) ∧ (u.2.2 = false → u.2.1 = t ∧ ∀ x ∈ (sensedS w l j).take u.1, blocks sp t x = false)) (fun u => (sensedS w l j).length - u.1) (0, t, false) ⟨Nat.zero_le _, Int.le_refl _, ht1, ht2, (fun e => by cases e), fun _ => ⟨rfl, fun x hx => by simp at hx⟩⟩ (turn_sub ⟨⟨rfl, rfl, rfl, rfl, rfl, rfl, rfl, rfl, rfl, trivial⟩, ⟨rfl, trivial⟩⟩) (fun u hU => ?_)
      obtain ⟨p, t1, a1⟩ := u
      obtain ⟨hp, hv0, hv1, hv2, hv3, hv4⟩ := hU
      simp only at hp hv0 hv1 hv2 hv3 hv4 ⊢
      refine awp_seq ?_
      refine awp_region ?_
      refine seqP (intTT rfl rfl rfl) rfl ?_
      refine ops_nil ?_
      refine awp_seq ?_
      refine awp_if rfl (fun h38 => ?_) (fun h38 => ?_)
      · -- yes
        try simp only [mOr, mAnd, decide_eq_true_eq, decide_eq_false_iff_not, beq_iff_eq, beq_eq_false_iff_ne, bne_iff_ne, ne_eq, bne_eq_false_iff_eq, Bool.or_eq_true, Bool.or_eq_false_iff, Bool.and_eq_true, Bool.and_eq_false_iff, Bool.not_eq_true', Bool.not_eq_false', Int.not_lt, Int.not_le, gt_iff_lt, ge_iff_le] at h38
        refine awp_skip ?_
        refine awp_seq ?_
        refine awp_block ?_
        refine awp_seq ?_
        obtain ⟨s, hs⟩ : ∃ s, (sensedS w l j)[p]? = some s := ⟨_, List.getElem?_eq_getElem (by omega)⟩
        have hsm := List.mem_of_getElem? hs
        have hso := hL.ok s (List.mem_filter.1 hsm).1
        have hse := hso.e1
        have hs0 := hso.s0
        have hss := hso.se
        refine awp_region ?_
        refine seqP (indexRT rfl rfl rfl (by omega) (idx_map hs) rfl) rfl ?_
        refine seqP (loadRsT rfl rfl rfl rfl rfl) rfl ?_
        refine seq1 (allocT rfl rfl) rfl rfl ?_
        refine seq0 (storeVT rfl rfl rfl rfl rfl rfl rfl) ?_
        refine ops_nil ?_
        refine awp_seq ?_
        refine awp_region ?_
        refine seqP (fieldPT rfl rfl rfl) rfl ?_
        refine seqP (loadVT rfl rfl rfl rfl) rfl ?_
        refine seqP (moveT rfl) rfl ?_
        refine seqP (intTT rfl rfl rfl) rfl ?_
        refine seqP (moveT rfl) rfl ?_
        refine seqM 6 (g := 52) (x := ?_) rfl rfl (fun Q g45 hJ => ?_) (fun Q g45 hJ => ?_) ?_
        rotate_left 1
        · -- taken
          refine seqP (fieldPT rfl rfl rfl) rfl ?_
          refine seqGy rfl rfl ?_
          refine seqP (loadVT rfl rfl rfl rfl) rfl ?_
          refine seqGy rfl rfl ?_
          refine seqP (moveT rfl) rfl ?_
          refine seqGy rfl rfl ?_
          refine seqP (moveT rfl) rfl ?_
          refine seqGy rfl rfl ?_
          refine seqP (intnT rfl rfl rfl (wrap_i64 ⟨by omega, by omega⟩)) rfl ?_
          refine seqGy rfl rfl ?_
          refine seqP (intTT rfl rfl rfl) rfl ?_
          refine seqP (pickYT rfl rfl) rfl ?_
          refine hJ 7 _ ?_
          exact ⟨.inl rfl, .inl rfl, .inl rfl, .inl rfl, .inl rfl, .inl rfl, .inr (congrArg (fun b => AV.d (D.v (Value.bool b))) g45), rfl⟩
        · -- left
          refine seqGn rfl rfl ?_
          refine seqGn rfl rfl ?_
          refine seqGn rfl rfl ?_
          refine seqGn rfl rfl ?_
          refine seqGn rfl rfl ?_
          refine seqP (pickNT rfl rfl) rfl ?_
          refine hJ 7 _ ?_
          exact ⟨.inl rfl, .inl rfl, .inl rfl, .inl rfl, .inl rfl, .inl rfl, .inr (congrArg (fun b => AV.d (D.v (Value.bool b))) g45), rfl⟩
        refine ops_nil ?_
        refine awp_if rfl (fun h52 => ?_) (fun h52 => ?_)
        · -- yes
          simp only [mAnd] at h52
          have hbl : blocks sp t1 s = true := h52
          have hbl2 := blocks_iff.1 hbl
          refine awp_region ?_
          refine seqP (fieldPT rfl rfl rfl) rfl ?_
          refine seqP (loadVT rfl rfl rfl rfl) rfl ?_
          refine seqP (moveT rfl) rfl ?_
          refine seqP (intnT rfl rfl rfl (wrap_i64 ⟨by omega, by omega⟩)) rfl ?_
          refine seqP (assignT rfl) rfl ?_
          refine seqP (assignT rfl) rfl ?_
          refine ops_nil ?_
          refine awp_region ?_
          refine seqP (intnT rfl rfl rfl (wrap_succ (by omega))) rfl ?_
          refine seqP (moveT rfl) rfl ?_
          refine ops_nil ?_
          refine ⟨(p + 1, s.end_ + sp, true), ⟨by show p + 1 ≤ _; omega, by show t ≤ s.end_ + sp; omega, hT.step hsm hv1 hbl, by show s.end_ + sp ≤ _; omega, fun _ => Nat.lt_of_lt_of_le (cnt_lt (sp := sp) (show t1 ≤ s.end_ + sp by omega) hsm (show s.end_ + sp > t1 by omega) (Int.le_refl _)) (cnt_le hv0), fun e => by cases e⟩, (turn_sub ⟨⟨rfl, rfl, rfl, rfl, rfl, rfl, rfl, rfl, rfl, trivial⟩, ⟨rfl, trivial⟩⟩), by show (sensedS w l j).length - (p + 1) < (sensedS w l j).length - p; omega⟩
        · -- no
          simp only [mAnd] at h52
          have hbl : blocks sp t1 s = false := h52
          refine awp_skip ?_
          refine awp_region ?_
          refine seqP (intnT rfl rfl rfl (wrap_succ (by omega))) rfl ?_
          refine seqP (moveT rfl) rfl ?_
          refine ops_nil ?_
          refine ⟨(p + 1, t1, a1), ⟨by show p + 1 ≤ _; omega, hv0, hv1, hv2, hv3, fun e => by obtain ⟨e1, e2⟩ := hv4 e; subst e1; exact ⟨rfl, free_take hs e2 hbl⟩⟩, (turn_sub ⟨⟨rfl, rfl, rfl, rfl, rfl, rfl, rfl, rfl, rfl, trivial⟩, ⟨rfl, trivial⟩⟩), by show (sensedS w l j).length - (p + 1) < (sensedS w l j).length - p; omega⟩
      · -- no
        try simp only [mOr, mAnd, decide_eq_true_eq, decide_eq_false_iff_not, beq_iff_eq, beq_eq_false_iff_ne, bne_iff_ne, ne_eq, bne_eq_false_iff_eq, Bool.or_eq_true, Bool.or_eq_false_iff, Bool.and_eq_true, Bool.and_eq_false_iff, Bool.not_eq_true', Bool.not_eq_false', Int.not_lt, Int.not_le, gt_iff_lt, ge_iff_le] at h38
        refine awp_exit ?_
        refine ⟨(g - 1, t1, a1), ⟨by show f ≤ t1; omega, hv1, hv2, (fun e => by have := hv3 e; show cnt sp (sensedS w l j) t1 < g - 1; omega), (fun e => by obtain ⟨e1, e2⟩ := hv4 e; have e3 : t1 = t := e1; subst e3; exact hT.eq ht0 ht1 fun x hx => e2 x (by rw [List.take_of_length_le (by omega)]; exact hx))⟩, (turn_sub ⟨⟨rfl, rfl, rfl, rfl, rfl, rfl, trivial⟩, ⟨rfl, trivial⟩⟩), by show g - 1 < g; omega⟩
    · -- no
      have hTt := hna h31
      subst hTt
      refine awp_exit ?_
      refine awp_seq ?_
      refine awp_region ?_
      refine seqP (moveT rfl) rfl ?_
      refine seqP (assignT rfl) rfl ?_
      refine seqP (assignT rfl) rfl ?_
      refine ops_nil ?_
      refine awp_ret ?_
      refine ret_plain (resl_tmp rfl (resl_tmp rfl resl_nil)) ?_ rfl
      rfl

end Go.Proofs.Ytencghlmckbmlaa
