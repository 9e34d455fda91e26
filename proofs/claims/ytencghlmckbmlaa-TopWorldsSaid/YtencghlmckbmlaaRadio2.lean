/- Walks: radio.Check, asked, level, hears, Level, Hears, Neighbours on worlds that are valid (printed by gen.py). -/
import Derived.Test.YtencghlmckbmlaaRadio1
set_option linter.unusedVariables false
set_option linter.unusedSimpArgs false
set_option maxRecDepth 100000
set_option maxHeartbeats 4000000
namespace Go.Proofs.Ytencghlmckbmlaa
open Go Go.RowKit


theorem sp186 (r : Radio) (h : RadioOk r) : Spec Try.prog 186 [.agg [.d (vi r.x), .d (vi r.y), .d (vi r.power), .d (vi r.chan)]] [] (.d (vb true)) [] [] := by
  refine enter 21 [] Try.func186 rfl rfl blOk_nil rfl rfl fun X w0 E0 => ?_
  refine awp_seq ?_
  refine awp_region ?_
  refine seq1 (boxT rfl rfl rfl) rfl rfl ?_
  refine seqP (assignT rfl) rfl ?_
  refine ops_nil ?_
  refine awp_seq ?_
  refine awp_region ?_
  refine seqP (fieldPT rfl rfl rfl) rfl ?_
  refine seqP (loadVT rfl rfl rfl rfl) rfl ?_
  refine seqP (callT rfl rfl rfl (callB_of Try.func100 rfl) (c100 h.x0 h.x1) trivial) rfl ?_
  refine seqP (moveT rfl) rfl ?_
  refine seqGy rfl rfl ?_
  refine seqP (fieldPT rfl rfl rfl) rfl ?_
  refine seqGy rfl rfl ?_
  refine seqP (loadVT rfl rfl rfl rfl) rfl ?_
  refine seqGy rfl rfl ?_
  refine seqP (callT rfl rfl rfl (callB_of Try.func100 rfl) (c100 h.y0 h.y1) trivial) rfl ?_
  refine seqP (pickYT rfl rfl) rfl ?_
  refine seqP (moveT rfl) rfl ?_
  refine seqGy rfl rfl ?_
  refine seqP (fieldPT rfl rfl rfl) rfl ?_
  refine seqGy rfl rfl ?_
  refine seqP (loadVT rfl rfl rfl rfl) rfl ?_
  refine seqGy rfl rfl ?_
  refine seqP (callT rfl rfl rfl (callB_of Try.func100 rfl) (c100 h.p0 h.p1) trivial) rfl ?_
  refine seqP (pickYT rfl rfl) rfl ?_
  refine seqP (moveT rfl) rfl ?_
  refine seqGy rfl rfl ?_
  refine seqP (fieldPT rfl rfl rfl) rfl ?_
  refine seqGy rfl rfl ?_
  refine seqP (loadVT rfl rfl rfl rfl) rfl ?_
  refine seqGy rfl rfl ?_
  refine seqP (callT rfl rfl rfl (callB_of Try.func100 rfl) (c100 h.c0 h.c1) trivial) rfl ?_
  refine seqP (pickYT rfl rfl) rfl ?_
  refine seqP (assignT rfl) rfl ?_
  refine ops_nil ?_
  refine awp_ret ?_
  refine ret_plain (resl_tmp rfl resl_nil) ?_ rfl
  rfl

theorem sp185 (r : Radio) (h : RadioOk r) : Spec Try.prog 185 [.agg [.d (vi r.x), .d (vi r.y), .d (vi r.power), .d (vi r.chan)]] [] (.d (vb false)) [] [] := by
  refine enter 6 [] Try.func185 rfl rfl blOk_nil rfl rfl fun X w0 E0 => ?_
  refine awp_seq ?_
  refine awp_region ?_
  refine seq1 (boxT rfl rfl rfl) rfl rfl ?_
  refine seqP (assignT rfl) rfl ?_
  refine ops_nil ?_
  refine awp_seq ?_
  refine awp_region ?_
  refine seqP (loadVsT rfl rfl rfl rfl) rfl ?_
  refine seqP (callT rfl rfl rfl (callB_of Try.func186 rfl) (sp186 r h) trivial) rfl ?_
  refine seqP (notYT rfl) rfl ?_
  refine seqP (assignT rfl) rfl ?_
  refine ops_nil ?_
  refine awp_ret ?_
  refine ret_plain (resl_tmp rfl resl_nil) ?_ rfl
  rfl

theorem sp184i  (l : List Radio) (hl : l.length ≤ 100000000) (hok : ∀ r ∈ l, RadioOk r) : Spec Try.prog 223 [.d (.s (l.map encRadio)), .clo 185 [] []] [] (.d (vi (-1))) [] [] := by
  refine enter 19 [] Try.func223 rfl rfl blOk_nil rfl rfl fun X w0 E0 => ?_
  refine awp_seq ?_
  refine awp_region ?_
  refine seqP (assignT rfl) rfl ?_
  refine ops_nil ?_
  refine awp_seq ?_
  refine awp_seq ?_
  refine awp_region ?_
  refine seqP (moveT rfl) rfl ?_
  refine seqP (lenRT rfl rfl (List.length_map ..)) rfl ?_
  refine seqP (moveT rfl) rfl ?_
  refine ops_nil ?_
  refine awp_block ?_
  refine awp_loop (ι := Nat) (fun p => ⟨[(0, .d (.s (l.map encRadio))), (1, .clo 185 [] []), (7, .d (vi l.length)), (8, .d (vi (p : Nat)))], []⟩) (fun p => p ≤ l.length) (fun p => l.length - p) 0 (Nat.zero_le _) (turn_sub ⟨⟨rfl, rfl, rfl, rfl, trivial⟩, trivial⟩) (fun p hP => ?_)
  refine awp_seq ?_
  refine awp_region ?_
  refine seqP (intTT rfl rfl rfl) rfl ?_
  refine ops_nil ?_
  refine awp_seq ?_
  refine awp_if rfl (fun h9 => ?_) (fun h9 => ?_)
  · -- yes
    try simp only [mOr, mAnd, decide_eq_true_eq, decide_eq_false_iff_not, beq_iff_eq, beq_eq_false_iff_ne, bne_iff_ne, ne_eq, bne_eq_false_iff_eq, Bool.or_eq_true, Bool.or_eq_false_iff, Bool.and_eq_true, Bool.and_eq_false_iff, Bool.not_eq_true', Bool.not_eq_false', Int.not_lt, Int.not_le, gt_iff_lt, ge_iff_le] at h9
    refine awp_skip ?_
    refine awp_seq ?_
    refine awp_block ?_
    refine awp_seq ?_
    refine awp_region ?_
    refine seqP (moveT rfl) rfl ?_
    refine seqP (assignT rfl) rfl ?_
    refine ops_nil ?_
    refine awp_seq ?_
    refine awp_region ?_
    refine seqP (moveT rfl) rfl ?_
    refine seqP (moveT rfl) rfl ?_
    refine seqP (moveT rfl) rfl ?_
    obtain ⟨x, hx⟩ : ∃ x, l[p]? = some x := ⟨_, List.getElem?_eq_getElem (by omega)⟩
    have hxm := List.mem_of_getElem? hx
    refine seqP (indexRT rfl rfl rfl (by omega) (idx_map hx) rfl) rfl ?_
    refine seqP (loadRsT rfl rfl rfl rfl rfl) rfl ?_
    refine seqP (callT rfl rfl rfl (callB_of Try.func185 rfl) (sp185 x (hok x hxm)) trivial) rfl ?_
    refine ops_nil ?_
    refine awp_ifN rfl ?_
    refine awp_skip ?_
    refine awp_region ?_
    refine seqP (intnT rfl rfl rfl (wrap_succ (by omega))) rfl ?_
    refine seqP (moveT rfl) rfl ?_
    refine ops_nil ?_
    refine ⟨(p + 1), (by show p + 1 ≤ _; omega), (turn_sub ⟨⟨rfl, rfl, rfl, rfl, trivial⟩, trivial⟩), by show l.length - (p + 1) < l.length - p; omega⟩
  · -- no
    try simp only [mOr, mAnd, decide_eq_true_eq, decide_eq_false_iff_not, beq_iff_eq, beq_eq_false_iff_ne, bne_iff_ne, ne_eq, bne_eq_false_iff_eq, Bool.or_eq_true, Bool.or_eq_false_iff, Bool.and_eq_true, Bool.and_eq_false_iff, Bool.not_eq_true', Bool.not_eq_false', Int.not_lt, Int.not_le, gt_iff_lt, ge_iff_le] at h9
    refine awp_exit ?_
    refine awp_seq ?_
    refine awp_region ?_
    refine seqP (assignT rfl) rfl ?_
    refine ops_nil ?_
    refine awp_ret ?_
    refine ret_plain (resl_tmp rfl resl_nil) ?_ rfl
    rfl

theorem sp184  (l : List Radio) (hl : l.length ≤ 100000000) (hok : ∀ r ∈ l, RadioOk r) : Spec Try.prog 184 [.d (.s (l.map encRadio)), .clo 185 [] []] [] (.d (vb false)) [] [] := by
  refine enter 9 [] Try.func184 rfl rfl blOk_nil rfl rfl fun X w0 E0 => ?_
  refine awp_seq ?_
  refine awp_region ?_
  refine seqP (assignT rfl) rfl ?_
  refine ops_nil ?_
  refine awp_seq ?_
  refine awp_region ?_
  refine seqP (moveT rfl) rfl ?_
  refine seqP (moveT rfl) rfl ?_
  refine seqP (callT rfl rfl rfl (callB_of Try.func223 rfl) (sp184i  l hl hok) trivial) rfl ?_
  refine seqP (show Step Try.prog _ _ _ (.d (vb false)) [] [] from intTT rfl rfl rfl) rfl ?_
  refine seqP (assignT rfl) rfl ?_
  refine ops_nil ?_
  refine awp_ret ?_
  refine ret_plain (resl_tmp rfl resl_nil) ?_ rfl
  rfl

theorem sp187 (x : Int) (h0 : 0 ≤ x) (h1 : x ≤ 600) : Spec Try.prog 187 [.d (vi x)] [] (.d (vb false)) [] [] := by
  refine enter 6 [] Try.func187 rfl rfl blOk_nil rfl rfl fun X w0 E0 => ?_
  refine awp_seq ?_
  refine awp_region ?_
  refine seqP (assignT rfl) rfl ?_
  refine ops_nil ?_
  refine awp_seq ?_
  refine awp_region ?_
  refine seqP (moveT rfl) rfl ?_
  refine seqP (callT rfl rfl rfl (callB_of Try.func100 rfl) (c100 h0 h1) trivial) rfl ?_
  refine seqP (notYT rfl) rfl ?_
  refine seqP (assignT rfl) rfl ?_
  refine ops_nil ?_
  refine awp_ret ?_
  refine ret_plain (resl_tmp rfl resl_nil) ?_ rfl
  rfl

theorem sp109ci  (l : List Int) (hl : l.length ≤ 100000000) (hok : ∀ x ∈ l, 0 ≤ x ∧ x ≤ 600) : Spec Try.prog 190 [.d (.s (l.map encInt)), .clo 187 [] []] [] (.d (vi (-1))) [] [] := by
  refine enter 19 [] Try.func190 rfl rfl blOk_nil rfl rfl fun X w0 E0 => ?_
  refine awp_seq ?_
  refine awp_region ?_
  refine seqP (assignT rfl) rfl ?_
  refine ops_nil ?_
  refine awp_seq ?_
  refine awp_seq ?_
  refine awp_region ?_
  refine seqP (moveT rfl) rfl ?_
  refine seqP (lenRT rfl rfl (List.length_map ..)) rfl ?_
  refine seqP (moveT rfl) rfl ?_
  refine ops_nil ?_
  refine awp_block ?_
  refine awp_loop (ι := Nat) (fun p => ⟨[(0, .d (.s (l.map encInt))), (1, .clo 187 [] []), (7, .d (vi l.length)), (8, .d (vi (p : Nat)))], []⟩) (fun p => p ≤ l.length) (fun p => l.length - p) 0 (Nat.zero_le _) (turn_sub ⟨⟨rfl, rfl, rfl, rfl, trivial⟩, trivial⟩) (fun p hP => ?_)
  refine awp_seq ?_
  refine awp_region ?_
  refine seqP (intTT rfl rfl rfl) rfl ?_
  refine ops_nil ?_
  refine awp_seq ?_
  refine awp_if rfl (fun h9 => ?_) (fun h9 => ?_)
  · -- yes
    try simp only [mOr, mAnd, decide_eq_true_eq, decide_eq_false_iff_not, beq_iff_eq, beq_eq_false_iff_ne, bne_iff_ne, ne_eq, bne_eq_false_iff_eq, Bool.or_eq_true, Bool.or_eq_false_iff, Bool.and_eq_true, Bool.and_eq_false_iff, Bool.not_eq_true', Bool.not_eq_false', Int.not_lt, Int.not_le, gt_iff_lt, ge_iff_le] at h9
    refine awp_skip ?_
    refine awp_seq ?_
    refine awp_block ?_
    refine awp_seq ?_
    refine awp_region ?_
    refine seqP (moveT rfl) rfl ?_
    refine seqP (assignT rfl) rfl ?_
    refine ops_nil ?_
    refine awp_seq ?_
    refine awp_region ?_
    refine seqP (moveT rfl) rfl ?_
    refine seqP (moveT rfl) rfl ?_
    refine seqP (moveT rfl) rfl ?_
    obtain ⟨x, hx⟩ : ∃ x, l[p]? = some x := ⟨_, List.getElem?_eq_getElem (by omega)⟩
    have hxm := List.mem_of_getElem? hx
    refine seqP (indexRT rfl rfl rfl (by omega) (idx_map hx) rfl) rfl ?_
    refine seqP (loadRT rfl rfl rfl) rfl ?_
    refine seqP (callT rfl rfl rfl (callB_of Try.func187 rfl) (sp187 x (hok x hxm).1 (hok x hxm).2) trivial) rfl ?_
    refine ops_nil ?_
    refine awp_ifN rfl ?_
    refine awp_skip ?_
    refine awp_region ?_
    refine seqP (intnT rfl rfl rfl (wrap_succ (by omega))) rfl ?_
    refine seqP (moveT rfl) rfl ?_
    refine ops_nil ?_
    refine ⟨(p + 1), (by show p + 1 ≤ _; omega), (turn_sub ⟨⟨rfl, rfl, rfl, rfl, trivial⟩, trivial⟩), by show l.length - (p + 1) < l.length - p; omega⟩
  · -- no
    try simp only [mOr, mAnd, decide_eq_true_eq, decide_eq_false_iff_not, beq_iff_eq, beq_eq_false_iff_ne, bne_iff_ne, ne_eq, bne_eq_false_iff_eq, Bool.or_eq_true, Bool.or_eq_false_iff, Bool.and_eq_true, Bool.and_eq_false_iff, Bool.not_eq_true', Bool.not_eq_false', Int.not_lt, Int.not_le, gt_iff_lt, ge_iff_le] at h9
    refine awp_exit ?_
    refine awp_seq ?_
    refine awp_region ?_
    refine seqP (assignT rfl) rfl ?_
    refine ops_nil ?_
    refine awp_ret ?_
    refine ret_plain (resl_tmp rfl resl_nil) ?_ rfl
    rfl

theorem sp109c  (l : List Int) (hl : l.length ≤ 100000000) (hok : ∀ x ∈ l, 0 ≤ x ∧ x ≤ 600) : Spec Try.prog 109 [.d (.s (l.map encInt)), .clo 187 [] []] [] (.d (vb false)) [] [] := by
  refine enter 9 [] Try.func109 rfl rfl blOk_nil rfl rfl fun X w0 E0 => ?_
  refine awp_seq ?_
  refine awp_region ?_
  refine seqP (assignT rfl) rfl ?_
  refine ops_nil ?_
  refine awp_seq ?_
  refine awp_region ?_
  refine seqP (moveT rfl) rfl ?_
  refine seqP (moveT rfl) rfl ?_
  refine seqP (callT rfl rfl rfl (callB_of Try.func190 rfl) (sp109ci  l hl hok) trivial) rfl ?_
  refine seqP (show Step Try.prog _ _ _ (.d (vb false)) [] [] from intTT rfl rfl rfl) rfl ?_
  refine seqP (assignT rfl) rfl ?_
  refine ops_nil ?_
  refine awp_ret ?_
  refine ret_plain (resl_tmp rfl resl_nil) ?_ rfl
  rfl

theorem sp103 (w : Air) (h : AirOk w) : Spec Try.prog 103 [w.av] [] (.d (vi 0)) [] [] := by
  have hn1 := h.n1
  have hn32 := h.n32
  have hsh := h.sh
  refine enter 57 [] Try.func103 rfl rfl blOk_nil rfl rfl fun X w0 E0 => ?_
  refine awp_seq ?_
  refine awp_region ?_
  refine seq1 (boxT rfl rfl rfl) rfl rfl ?_
  refine seqP (assignT rfl) rfl ?_
  refine ops_nil ?_
  refine awp_seq ?_
  refine awp_region ?_
  refine seqP (fieldPT rfl rfl rfl) rfl ?_
  refine seqP (loadVT rfl rfl rfl rfl) rfl ?_
  refine seqP (lenRT rfl rfl (List.length_map ..)) rfl ?_
  refine seqP (assignT rfl) rfl ?_
  refine ops_nil ?_
  refine awp_seq ?_
  refine awp_seq ?_
  refine awp_region ?_
  refine seqP (moveT rfl) rfl ?_
  refine seqP (intTT rfl rfl rfl) rfl ?_
  refine seqP (moveT rfl) rfl ?_
  refine seqM 2 (g := 15) (x := ?_) rfl rfl (fun Q g12 hJ => ?_) (fun Q g12 hJ => ?_) ?_
  rotate_left 1
  · -- taken
    refine seqP (moveT rfl) rfl ?_
    refine seqGy rfl rfl ?_
    refine seqP (intTT rfl rfl rfl) rfl ?_
    refine seqP (pickNT rfl rfl) rfl ?_
    refine hJ 3 _ ?_
    exact ⟨.inl rfl, .inl rfl, .inr (congrArg (fun b => AV.d (D.v (Value.bool b))) g12), rfl⟩
  · -- left
    refine seqGn rfl rfl ?_
    refine seqP (pickYT rfl rfl) rfl ?_
    refine hJ 3 _ ?_
    exact ⟨.inl rfl, .inl rfl, .inr (congrArg (fun b => AV.d (D.v (Value.bool b))) g12), rfl⟩
  refine seqP (moveT rfl) rfl ?_
  refine seqM 11 (g := 28) (x := ?_) rfl rfl (fun Q g16 hJ => ?_) (fun Q g16 hJ => ?_) ?_
  rotate_left 1
  · -- taken
    refine seqP (fieldPT rfl rfl rfl) rfl ?_
    refine seqGy rfl rfl ?_
    refine seqP (loadVT rfl rfl rfl rfl) rfl ?_
    refine seqGy rfl rfl ?_
    refine seqP (lenRT rfl rfl (List.length_map ..)) rfl ?_
    refine seqGy rfl rfl ?_
    refine seqP (intTT rfl rfl rfl) rfl ?_
    refine seqGy rfl rfl ?_
    refine seqP (moveT rfl) rfl ?_
    refine seqM 5 (g := 27) (x := ?_) rfl rfl (fun Q g21 hJ => ?_) (fun Q g21 hJ => ?_) ?_
    rotate_left 1
    · -- taken
      refine seqP (fieldPT rfl rfl rfl) rfl ?_
      refine seqGy rfl rfl ?_
      refine seqP (loadVT rfl rfl rfl rfl) rfl ?_
      refine seqGy rfl rfl ?_
      refine seqP (lenRT rfl rfl (List.length_map ..)) rfl ?_
      refine seqGy rfl rfl ?_
      refine seqP (moveT rfl) rfl ?_
      refine seqGy rfl rfl ?_
      refine seqP (intTT rfl rfl rfl) rfl ?_
      refine seqGy rfl rfl ?_
      refine seqP (pickYT rfl rfl) rfl ?_
      refine hJ 6 _ ?_
      exact ⟨.inl rfl, .inl rfl, .inl rfl, .inl rfl, .inl rfl, .inr (congrArg (fun b => AV.d (D.v (Value.bool b))) g21), rfl⟩
    · -- left
      refine seqGn rfl rfl ?_
      refine seqGn rfl rfl ?_
      refine seqGn rfl rfl ?_
      refine seqGn rfl rfl ?_
      refine seqGy rfl rfl ?_
      refine seqP (pickNT rfl rfl) rfl ?_
      refine hJ 6 _ ?_
      exact ⟨.inl rfl, .inl rfl, .inl rfl, .inl rfl, .inl rfl, .inr (congrArg (fun b => AV.d (D.v (Value.bool b))) g21), rfl⟩
    refine seqP (pickNT rfl rfl) rfl ?_
    refine hJ 7 _ ?_
    exact ⟨.inl rfl, .inl rfl, .inl rfl, .inl rfl, .inl rfl, .inl rfl, .inr (congrArg (fun b => AV.d (D.v (Value.bool b))) g16), rfl⟩
  · -- left
    refine seqGn rfl rfl ?_
    refine seqGn rfl rfl ?_
    refine seqGn rfl rfl ?_
    refine seqGn rfl rfl ?_
    refine seqGo rfl rfl ?_
    refine seqGo rfl rfl ?_
    refine seqGo rfl rfl ?_
    refine seqGo rfl rfl ?_
    refine seqGo rfl rfl ?_
    refine seqGn rfl rfl ?_
    refine seqP (pickYT rfl rfl) rfl ?_
    refine hJ 12 _ ?_
    exact ⟨.inl rfl, .inl rfl, .inl rfl, .inl rfl, .inl rfl, .inl rfl, .inl rfl, .inl rfl, .inl rfl, .inl rfl, .inl rfl, .inr (congrArg (fun b => AV.d (D.v (Value.bool b))) g16), rfl⟩
  refine ops_nil ?_
  refine awp_if rfl (fun h28 => ?_) (fun h28 => ?_)
  · -- yes
    exfalso
    simp at h28
    rcases h28 with h | ⟨h1, h2⟩
    · omega
    · rcases hsh with h3 | h3
      · exact h1 (List.length_eq_zero_iff.1 h3)
      · exact h2 (by rw [h3])
  · -- no
    try simp only [mOr, mAnd, decide_eq_true_eq, decide_eq_false_iff_not, beq_iff_eq, beq_eq_false_iff_ne, bne_iff_ne, ne_eq, bne_eq_false_iff_eq, Bool.or_eq_true, Bool.or_eq_false_iff, Bool.and_eq_true, Bool.and_eq_false_iff, Bool.not_eq_true', Bool.not_eq_false', Int.not_lt, Int.not_le, gt_iff_lt, ge_iff_le] at h28
    refine awp_skip ?_
    refine awp_seq ?_
    refine awp_seq ?_
    refine awp_region ?_
    refine seqP (fieldPT rfl rfl rfl) rfl ?_
    refine seqP (loadVT rfl rfl rfl rfl) rfl ?_
    refine seqP (callT rfl rfl rfl (callB_of Try.func184 rfl) (sp184 w.radios (by omega) h.rad) trivial) rfl ?_
    refine ops_nil ?_
    refine awp_ifN rfl ?_
    refine awp_skip ?_
    refine awp_seq ?_
    refine awp_seq ?_
    refine awp_region ?_
    refine seqP (fieldPT rfl rfl rfl) rfl ?_
    refine seqP (loadVT rfl rfl rfl rfl) rfl ?_
    refine seqP (lenRT rfl rfl (List.length_map ..)) rfl ?_
    refine seqP (moveT rfl) rfl ?_
    refine ops_nil ?_
    refine awp_block ?_
    refine awp_loop (ι := Nat) (fun p => ⟨[(1, .ptr 1 0 0 0), (3, .d (vi w.radios.length)), (33, .d (.s (w.shadow.map encRow))), (34, .d (vi w.shadow.length)), (35, .d (vi (p : Nat)))], [(1, some (.var w.cells))]⟩) (fun p => p ≤ w.shadow.length) (fun p => w.shadow.length - p) 0 (Nat.zero_le _) (turn_sub ⟨⟨rfl, rfl, rfl, rfl, rfl, trivial⟩, ⟨rfl, trivial⟩⟩) (fun p hP => ?_)
    refine awp_seq ?_
    refine awp_region ?_
    refine seqP (intTT rfl rfl rfl) rfl ?_
    refine ops_nil ?_
    refine awp_seq ?_
    refine awp_if rfl (fun h36 => ?_) (fun h36 => ?_)
    · -- yes
      try simp only [mOr, mAnd, decide_eq_true_eq, decide_eq_false_iff_not, beq_iff_eq, beq_eq_false_iff_ne, bne_iff_ne, ne_eq, bne_eq_false_iff_eq, Bool.or_eq_true, Bool.or_eq_false_iff, Bool.and_eq_true, Bool.and_eq_false_iff, Bool.not_eq_true', Bool.not_eq_false', Int.not_lt, Int.not_le, gt_iff_lt, ge_iff_le] at h36
      refine awp_skip ?_
      refine awp_seq ?_
      refine awp_block ?_
      refine awp_seq ?_
      have hps : p < w.shadow.length := by omega
      have hrow := h.rows p hps
      have hrl := hrow.len
      refine awp_region ?_
      refine seqP (moveT rfl) rfl ?_
      refine seqP (indexRT rfl rfl rfl (by omega) (idx_getD (z := default) hps) rfl) rfl ?_
      refine seqP (loadRT rfl rfl rfl) rfl ?_
      refine seqP (assignT rfl) rfl ?_
      refine seqP (assignT rfl) rfl ?_
      refine ops_nil ?_
      refine awp_seq ?_
      refine awp_region ?_
      refine seqP (assignT rfl) rfl ?_
      refine ops_nil ?_
      refine awp_seq ?_
      refine awp_region ?_
      refine seqP (moveT rfl) rfl ?_
      refine seqP (lenRT rfl rfl ((List.length_map ..).trans hrl)) rfl ?_
      refine seqP (moveT rfl) rfl ?_
      refine seqP (neqFT rfl rfl rfl) rfl ?_
      refine seqP (moveT rfl) rfl ?_
      refine seqGy rfl rfl ?_
      refine seqP (moveT rfl) rfl ?_
      refine seqGy rfl rfl ?_
      refine seqP (moveT rfl) rfl ?_
      refine seqGy rfl rfl ?_
      refine seqP (indexRT rfl rfl rfl (by omega) (idx_getD (z := default) (by omega)) rfl) rfl ?_
      refine seqGy rfl rfl ?_
      refine seqP (loadRT rfl rfl rfl) rfl ?_
      refine seqGy rfl rfl ?_
      refine seqP (neqFT rfl rfl hrow.zero) rfl ?_
      refine seqP (pickNT rfl rfl) rfl ?_
      refine seqP (moveT rfl) rfl ?_
      refine seqGy rfl rfl ?_
      refine seqP (moveT rfl) rfl ?_
      refine seqGy rfl rfl ?_
      refine seqP (moveT rfl) rfl ?_
      refine seqGy rfl rfl ?_
      refine seqP (callT rfl rfl rfl (callB_of Try.func109 rfl) (sp109c _ (by omega) hrow.ok) trivial) rfl ?_
      refine seqP (pickNT rfl rfl) rfl ?_
      refine ops_nil ?_
      refine awp_ifN rfl ?_
      refine awp_skip ?_
      refine awp_region ?_
      refine seqP (intnT rfl rfl rfl (wrap_succ (by omega))) rfl ?_
      refine seqP (moveT rfl) rfl ?_
      refine ops_nil ?_
      refine ⟨(p + 1), (by show p + 1 ≤ _; omega), (turn_sub ⟨⟨rfl, rfl, rfl, rfl, rfl, trivial⟩, ⟨rfl, trivial⟩⟩), by show w.shadow.length - (p + 1) < w.shadow.length - p; omega⟩
    · -- no
      try simp only [mOr, mAnd, decide_eq_true_eq, decide_eq_false_iff_not, beq_iff_eq, beq_eq_false_iff_ne, bne_iff_ne, ne_eq, bne_eq_false_iff_eq, Bool.or_eq_true, Bool.or_eq_false_iff, Bool.and_eq_true, Bool.and_eq_false_iff, Bool.not_eq_true', Bool.not_eq_false', Int.not_lt, Int.not_le, gt_iff_lt, ge_iff_le] at h36
      refine awp_exit ?_
      refine awp_seq ?_
      refine awp_region ?_
      refine seqP (assignT rfl) rfl ?_
      refine ops_nil ?_
      refine awp_ret ?_
      refine ret_plain (resl_tmp rfl resl_nil) ?_ rfl
      rfl

theorem sp188 (w : Air) (x : Int) (h0 : 0 ≤ x) (h1 : x < w.radios.length) (h2 : w.radios.length ≤ 32) : Spec Try.prog 188 [.d (vi x), .ptr 104002 0 0 0] [(104002, some (.var w.cells))] (.d (vb false)) [] [] := by
  refine enter 11 [104002] Try.func188 rfl rfl (blOk_of rfl rfl ⟨rfl, trivial⟩) rfl rfl fun X w0 E0 => ?_
  refine awp_seq ?_
  refine awp_region ?_
  refine seqP (assignT rfl) rfl ?_
  refine ops_nil ?_
  refine awp_seq ?_
  refine awp_region ?_
  refine seqP (moveT rfl) rfl ?_
  refine seqP (fieldPT rfl rfl rfl) rfl ?_
  refine seqP (loadVT rfl rfl rfl rfl) rfl ?_
  refine seqP (lenRT rfl rfl (List.length_map ..)) rfl ?_
  refine seqP (intnT rfl rfl rfl (wrap_i64 ⟨by omega, by omega⟩)) rfl ?_
  refine seqP (callT rfl rfl rfl (callB_of Try.func100 rfl) (c100 (by omega) (by omega)) trivial) rfl ?_
  refine seqP (notYT rfl) rfl ?_
  refine seqP (assignT rfl) rfl ?_
  refine ops_nil ?_
  refine awp_ret ?_
  refine ret_blocks (resl_tmp rfl resl_nil) ?_ rfl trivial ⟨.inr rfl, trivial⟩
  rfl

theorem sp109ni (w : Air) (l : List Int) (hl : l.length ≤ 100000000) (hok : ∀ x ∈ l, 0 ≤ x ∧ x < w.radios.length) (h2 : w.radios.length ≤ 32) : Spec Try.prog 190 [.d (.s (l.map encInt)), .clo 188 [] [.ptr 104002 0 0 0]] [(104002, some (.var w.cells))] (.d (vi (-1))) [] [] := by
  refine enter 19 [104002] Try.func190 rfl rfl (blOk_of rfl rfl ⟨rfl, trivial⟩) rfl rfl fun X w0 E0 => ?_
  refine awp_seq ?_
  refine awp_region ?_
  refine seqP (assignT rfl) rfl ?_
  refine ops_nil ?_
  refine awp_seq ?_
  refine awp_seq ?_
  refine awp_region ?_
  refine seqP (moveT rfl) rfl ?_
  refine seqP (lenRT rfl rfl (List.length_map ..)) rfl ?_
  refine seqP (moveT rfl) rfl ?_
  refine ops_nil ?_
  refine awp_block ?_
  refine awp_loop (ι := Nat) (fun p => ⟨[(0, .d (.s (l.map encInt))), (1, .clo 188 [] [.ptr 104002 0 0 0]), (7, .d (vi l.length)), (8, .d (vi (p : Nat)))], [(104002, some (.var w.cells))]⟩) (fun p => p ≤ l.length) (fun p => l.length - p) 0 (Nat.zero_le _) (turn_sub ⟨⟨rfl, rfl, rfl, rfl, trivial⟩, ⟨rfl, trivial⟩⟩) (fun p hP => ?_)
  refine awp_seq ?_
  refine awp_region ?_
  refine seqP (intTT rfl rfl rfl) rfl ?_
  refine ops_nil ?_
  refine awp_seq ?_
  refine awp_if rfl (fun h9 => ?_) (fun h9 => ?_)
  · -- yes
    try simp only [mOr, mAnd, decide_eq_true_eq, decide_eq_false_iff_not, beq_iff_eq, beq_eq_false_iff_ne, bne_iff_ne, ne_eq, bne_eq_false_iff_eq, Bool.or_eq_true, Bool.or_eq_false_iff, Bool.and_eq_true, Bool.and_eq_false_iff, Bool.not_eq_true', Bool.not_eq_false', Int.not_lt, Int.not_le, gt_iff_lt, ge_iff_le] at h9
    refine awp_skip ?_
    refine awp_seq ?_
    refine awp_block ?_
    refine awp_seq ?_
    refine awp_region ?_
    refine seqP (moveT rfl) rfl ?_
    refine seqP (assignT rfl) rfl ?_
    refine ops_nil ?_
    refine awp_seq ?_
    refine awp_region ?_
    refine seqP (moveT rfl) rfl ?_
    refine seqP (moveT rfl) rfl ?_
    refine seqP (moveT rfl) rfl ?_
    obtain ⟨x, hx⟩ : ∃ x, l[p]? = some x := ⟨_, List.getElem?_eq_getElem (by omega)⟩
    have hxm := List.mem_of_getElem? hx
    refine seqP (indexRT rfl rfl rfl (by omega) (idx_map hx) rfl) rfl ?_
    refine seqP (loadRT rfl rfl rfl) rfl ?_
    refine seqP (callT rfl rfl rfl (callB_of Try.func188 rfl) (sp188 w x (hok x hxm).1 (hok x hxm).2 h2) ⟨rfl, trivial⟩) rfl ?_
    refine ops_nil ?_
    refine awp_ifN rfl ?_
    refine awp_skip ?_
    refine awp_region ?_
    refine seqP (intnT rfl rfl rfl (wrap_succ (by omega))) rfl ?_
    refine seqP (moveT rfl) rfl ?_
    refine ops_nil ?_
    refine ⟨(p + 1), (by show p + 1 ≤ _; omega), (turn_sub ⟨⟨rfl, rfl, rfl, rfl, trivial⟩, ⟨rfl, trivial⟩⟩), by show l.length - (p + 1) < l.length - p; omega⟩
  · -- no
    try simp only [mOr, mAnd, decide_eq_true_eq, decide_eq_false_iff_not, beq_iff_eq, beq_eq_false_iff_ne, bne_iff_ne, ne_eq, bne_eq_false_iff_eq, Bool.or_eq_true, Bool.or_eq_false_iff, Bool.and_eq_true, Bool.and_eq_false_iff, Bool.not_eq_true', Bool.not_eq_false', Int.not_lt, Int.not_le, gt_iff_lt, ge_iff_le] at h9
    refine awp_exit ?_
    refine awp_seq ?_
    refine awp_region ?_
    refine seqP (assignT rfl) rfl ?_
    refine ops_nil ?_
    refine awp_ret ?_
    refine ret_blocks (resl_tmp rfl resl_nil) ?_ rfl trivial ⟨.inr rfl, trivial⟩
    rfl

theorem sp109n (w : Air) (l : List Int) (hl : l.length ≤ 100000000) (hok : ∀ x ∈ l, 0 ≤ x ∧ x < w.radios.length) (h2 : w.radios.length ≤ 32) : Spec Try.prog 109 [.d (.s (l.map encInt)), .clo 188 [] [.ptr 104002 0 0 0]] [(104002, some (.var w.cells))] (.d (vb false)) [] [] := by
  refine enter 9 [104002] Try.func109 rfl rfl (blOk_of rfl rfl ⟨rfl, trivial⟩) rfl rfl fun X w0 E0 => ?_
  refine awp_seq ?_
  refine awp_region ?_
  refine seqP (assignT rfl) rfl ?_
  refine ops_nil ?_
  refine awp_seq ?_
  refine awp_region ?_
  refine seqP (moveT rfl) rfl ?_
  refine seqP (moveT rfl) rfl ?_
  refine seqP (callT rfl rfl rfl (callB_of Try.func190 rfl) (sp109ni w l hl hok h2) ⟨rfl, trivial⟩) rfl ?_
  refine seqP (show Step Try.prog _ _ _ (.d (vb false)) [] [] from intTT rfl rfl rfl) rfl ?_
  refine seqP (assignT rfl) rfl ?_
  refine ops_nil ?_
  refine awp_ret ?_
  refine ret_blocks (resl_tmp rfl resl_nil) ?_ rfl trivial ⟨.inr rfl, trivial⟩
  rfl

theorem sp104 (w : Air) (l : List Int) (hl : l.length ≤ 1000) (hok : ∀ x ∈ l, 0 ≤ x ∧ x < w.radios.length) (h2 : w.radios.length ≤ 32) : Spec Try.prog 104 [w.av, .d (.s (l.map encInt))] [] (.d (vb true)) [] [] := by
  refine enter 9 [] Try.func104 rfl rfl blOk_nil rfl rfl fun X w0 E0 => ?_
  refine awp_seq ?_
  refine awp_region ?_
  refine seq1 (boxN 104002 rfl rfl rfl) rfl rfl ?_
  refine seqP (assignT rfl) rfl ?_
  refine ops_nil ?_
  refine awp_seq ?_
  refine awp_region ?_
  refine seqP (moveT rfl) rfl ?_
  refine seqP (mkFuncT rfl rfl) rfl ?_
  refine seqP (callT rfl rfl rfl (callB_of Try.func109 rfl) (sp109n w l (by omega) hok h2) ⟨rfl, trivial⟩) rfl ?_
  refine seqP (notNT rfl) rfl ?_
  refine seqP (assignT rfl) rfl ?_
  refine ops_nil ?_
  refine awp_ret ?_
  refine ret_plain (resl_tmp rfl resl_nil) ?_ rfl
  rfl

theorem sp43 (w : Air) (l : List Int) (h : AirOk w) (hl : l.length ≤ 1000) (hok : ∀ x ∈ l, 0 ≤ x ∧ x < w.radios.length) : Spec Try.prog 43 [w.av, .d (.s (l.map encInt))] [] (.d (vi 0)) [] [] := by
  refine enter 15 [] Try.func43 rfl rfl blOk_nil rfl rfl fun X w0 E0 => ?_
  refine awp_seq ?_
  refine awp_region ?_
  refine seq1 (boxT rfl rfl rfl) rfl rfl ?_
  refine seqP (assignT rfl) rfl ?_
  refine ops_nil ?_
  refine awp_seq ?_
  refine awp_seq ?_
  refine awp_region ?_
  refine seqP (loadVsT rfl rfl rfl rfl) rfl ?_
  refine seqP (callT rfl rfl rfl (callB_of Try.func103 rfl) (sp103 w h) trivial) rfl ?_
  refine seqP (assignT rfl) rfl ?_
  refine ops_nil ?_
  refine awp_seq ?_
  refine awp_region ?_
  refine seqP (moveT rfl) rfl ?_
  refine seqP (neqFT rfl rfl rfl) rfl ?_
  refine ops_nil ?_
  refine awp_ifN rfl ?_
  refine awp_skip ?_
  refine awp_seq ?_
  refine awp_seq ?_
  refine awp_region ?_
  refine seqP (loadVsT rfl rfl rfl rfl) rfl ?_
  refine seqP (moveT rfl) rfl ?_
  refine seqP (callT rfl rfl rfl (callB_of Try.func104 rfl) (sp104 w l hl hok h.n32) trivial) rfl ?_
  refine seqP (notYT rfl) rfl ?_
  refine ops_nil ?_
  refine awp_ifN rfl ?_
  refine awp_skip ?_
  refine awp_seq ?_
  refine awp_region ?_
  refine seqP (assignT rfl) rfl ?_
  refine ops_nil ?_
  refine awp_ret ?_
  refine ret_plain (resl_tmp rfl resl_nil) ?_ rfl
  rfl

theorem sp45 (w : Air) (i j : Nat) (h : AirOk w) (hi : i < w.radios.length) (hj : j < w.radios.length) : Spec Try.prog 45 [w.av, .d (vi (i : Nat)), .d (vi (j : Nat))] [] (.d (vi (levelS w i j))) [] [] := by
  have hri := h.get hi
  have hrj := h.get hj
  have hr := root_le (((w.radios.getD i default).x - (w.radios.getD j default).x) * ((w.radios.getD i default).x - (w.radios.getD j default).x) + ((w.radios.getD i default).y - (w.radios.getD j default).y) * ((w.radios.getD i default).y - (w.radios.getD j default).y))
  have hls := loss_le hr.1 hr.2
  have hp0 := hri.p0
  have hp1 := hri.p1
  have hsh := h.sh
  have hsb : w.shadow.length > 0 → 0 ≤ (w.shadow.getD i default).getD j default ∧ (w.shadow.getD i default).getD j default ≤ 600 := fun hs => shadow_b h (by omega) hj
  have hle : 385 ≤ lossS (distS (w.radios.getD i default).x (w.radios.getD i default).y (w.radios.getD j default).x (w.radios.getD j default).y) ∧ lossS (distS (w.radios.getD i default).x (w.radios.getD i default).y (w.radios.getD j default).x (w.radios.getD j default).y) ≤ 1345 := hls
  refine enter 58 [] Try.func45 rfl rfl blOk_nil rfl rfl fun X w0 E0 => ?_
  refine awp_seq ?_
  refine awp_region ?_
  refine seq1 (boxT rfl rfl rfl) rfl rfl ?_
  refine seqP (assignT rfl) rfl ?_
  refine ops_nil ?_
  refine awp_seq ?_
  refine awp_any [0, 1, 0, 7, 15, 0, 32, 0, 224, 480, 0, 0, 3103, 8191] rfl ?_
  refine .step (rb := []) (wb := []) (ml := [3]) (fieldPT rfl rfl rfl) rfl rfl rfl rfl rfl trivial ?_
  refine .step (rb := [3]) (wb := []) (ml := []) (loadVT rfl rfl rfl rfl) rfl rfl rfl rfl rfl trivial ?_
  refine .step (rb := []) (wb := []) (ml := []) (moveT rfl) rfl rfl rfl rfl rfl trivial ?_
  refine .step (rb := []) (wb := []) (ml := []) (indexRT rfl rfl rfl (by omega) (idx_getD (z := default) hi) rfl) rfl rfl rfl rfl rfl trivial ?_
  refine .step (rb := []) (wb := []) (ml := []) (loadRsT rfl rfl rfl rfl rfl) rfl rfl rfl rfl rfl trivial ?_
  refine .step (rb := []) (wb := []) (ml := [3]) (fieldPT rfl rfl rfl) rfl rfl rfl rfl rfl trivial ?_
  refine .step (rb := [3]) (wb := []) (ml := []) (loadVT rfl rfl rfl rfl) rfl rfl rfl rfl rfl trivial ?_
  refine .step (rb := []) (wb := []) (ml := []) (moveT rfl) rfl rfl rfl rfl rfl trivial ?_
  refine .step (rb := []) (wb := []) (ml := []) (indexRT rfl rfl rfl (by omega) (idx_getD (z := default) hj) rfl) rfl rfl rfl rfl rfl trivial ?_
  refine .step (rb := []) (wb := []) (ml := []) (loadRsT rfl rfl rfl rfl rfl) rfl rfl rfl rfl rfl trivial ?_
  refine .step (rb := []) (wb := [7]) (ml := [7]) (allocT rfl rfl) rfl rfl rfl rfl rfl ⟨rfl, trivial⟩ ?_
  refine .step (rb := []) (wb := [8]) (ml := [8]) (allocT rfl rfl) rfl rfl rfl rfl rfl ⟨rfl, trivial⟩ ?_
  refine .step (rb := [7]) (wb := [7]) (ml := []) (storeVT rfl rfl rfl rfl rfl rfl rfl) rfl rfl rfl rfl rfl ⟨rfl, trivial⟩ ?_
  refine .step (rb := [8]) (wb := [8]) (ml := []) (storeVT rfl rfl rfl rfl rfl rfl rfl) rfl rfl rfl rfl rfl ⟨rfl, trivial⟩ ?_
  refine .done (by decide +kernel) ?_
  refine awp_seq ?_
  refine awp_region ?_
  refine seqP (fieldPT rfl rfl rfl) rfl ?_
  refine seqP (loadVT rfl rfl rfl rfl) rfl ?_
  refine seqP (fieldPT rfl rfl rfl) rfl ?_
  refine seqP (loadVT rfl rfl rfl rfl) rfl ?_
  refine seqP (fieldPT rfl rfl rfl) rfl ?_
  refine seqP (loadVT rfl rfl rfl rfl) rfl ?_
  refine seqP (fieldPT rfl rfl rfl) rfl ?_
  refine seqP (loadVT rfl rfl rfl rfl) rfl ?_
  refine seqP (callT rfl rfl rfl (callB_of Try.func40 rfl) (sp40 _ _ _ _ hri.x0 hri.x1 hri.y0 hri.y1 hrj.x0 hrj.x1 hrj.y0 hrj.y1) trivial) rfl ?_
  refine seqP (moveT rfl) rfl ?_
  refine seqP (extractT rfl rfl) rfl ?_
  refine seqP (extractT rfl rfl) rfl ?_
  refine seqP (assignT rfl) rfl ?_
  refine seqP (assignT rfl) rfl ?_
  refine ops_nil ?_
  refine awp_seq ?_
  refine awp_region ?_
  refine seqP (moveT rfl) rfl ?_
  refine seqP (callT rfl rfl rfl (callB_of Try.func41 rfl) (sp41 _ hr.1 hr.2) trivial) rfl ?_
  refine seqP (moveT rfl) rfl ?_
  refine seqP (extractT rfl rfl) rfl ?_
  refine seqP (extractT rfl rfl) rfl ?_
  refine seqP (assignT rfl) rfl ?_
  refine seqP (assignT rfl) rfl ?_
  refine ops_nil ?_
  refine awp_seq ?_
  refine awp_seq ?_
  refine awp_region ?_
  refine seqP (fieldPT rfl rfl rfl) rfl ?_
  refine seqP (loadVT rfl rfl rfl rfl) rfl ?_
  refine seqP (lenRT rfl rfl (List.length_map ..)) rfl ?_
  refine seqP (intTT rfl rfl rfl) rfl ?_
  refine ops_nil ?_
  refine awp_if rfl (fun h43 => ?_) (fun h43 => ?_)
  · -- yes
    have hs : w.shadow.length > 0 := by simp only [decide_eq_true_eq] at h43; omega
    have hsx := hsb hs
    refine awp_region ?_
    refine seqP (moveT rfl) rfl ?_
    refine seqP (fieldPT rfl rfl rfl) rfl ?_
    refine seqP (loadVT rfl rfl rfl rfl) rfl ?_
    refine seqP (moveT rfl) rfl ?_
    refine seqP (indexRT rfl rfl rfl (by omega) (idx_getD (z := default) (by omega)) rfl) rfl ?_
    refine seqP (loadRT rfl rfl rfl) rfl ?_
    refine seqP (moveT rfl) rfl ?_
    refine seqP (indexRT rfl rfl rfl (by omega) (idx_getD (z := default) (by have := (h.rows i (by omega)).len; omega)) rfl) rfl ?_
    refine seqP (loadRT rfl rfl rfl) rfl ?_
    refine seqP (intnT rfl rfl rfl (wrap_i64 ⟨by omega, by omega⟩)) rfl ?_
    refine seqP (assignT rfl) rfl ?_
    refine ops_nil ?_
    refine awp_seq ?_
    refine awp_region ?_
    refine seqP (fieldPT rfl rfl rfl) rfl ?_
    refine seqP (loadVT rfl rfl rfl rfl) rfl ?_
    refine seqP (moveT rfl) rfl ?_
    refine seqP (intnT rfl rfl rfl (wrap_i64 ⟨by omega, by omega⟩)) rfl ?_
    refine seqP (assignT rfl) rfl ?_
    refine ops_nil ?_
    refine awp_ret ?_
    refine ret_plain (resl_tmp rfl resl_nil) ?_ rfl
    simp only [levelS, if_pos hs]; rfl
  · -- no
    have hs : ¬ w.shadow.length > 0 := by simp only [decide_eq_false_iff_not] at h43; omega
    refine awp_skip ?_
    refine awp_seq ?_
    refine awp_region ?_
    refine seqP (fieldPT rfl rfl rfl) rfl ?_
    refine seqP (loadVT rfl rfl rfl rfl) rfl ?_
    refine seqP (moveT rfl) rfl ?_
    refine seqP (intnT rfl rfl rfl (wrap_i64 ⟨by omega, by omega⟩)) rfl ?_
    refine seqP (assignT rfl) rfl ?_
    refine ops_nil ?_
    refine awp_ret ?_
    refine ret_plain (resl_tmp rfl resl_nil) ?_ rfl
    simp only [levelS, if_neg hs, Int.add_zero]; rfl

/-- Those that j hears among the first p. -/
def hear (w : Air) (j p : Nat) : List Int := ints ((List.range p).filter (hearsS w j))
theorem hear_no {w : Air} {j p : Nat} (h : hearsS w j p = false) : hear w j (p + 1) = hear w j p := by
  simp only [hear, List.range_succ, List.filter_append, List.filter_cons, h, List.filter_nil]; simp
theorem hear_yes {w : Air} {j p : Nat} (h : hearsS w j p = true) : hear w j (p + 1) = hear w j p ++ [(p : Int)] := by
  simp only [hear, ints, List.range_succ, List.filter_append, List.filter_cons, h, List.filter_nil, List.map_append]; simp
theorem hear_len (w : Air) (j p : Nat) : (hear w j p).length ≤ p := by
  have := List.length_filter_le (hearsS w j) (List.range p)
  simp only [hear, ints, List.length_map]; simpa using this


theorem sp44 (w : Air) (j i : Nat) (h : AirOk w) (hi : i < w.radios.length) (hj : j < w.radios.length) : Spec Try.prog 44 [w.av, .d (vi (j : Nat)), .d (vi (i : Nat))] [] (.d (vb (hearsS w j i))) [] [] := by
  refine enter 32 [] Try.func44 rfl rfl blOk_nil rfl rfl fun X w0 E0 => ?_
  refine awp_seq ?_
  refine awp_region ?_
  refine seq1 (boxT rfl rfl rfl) rfl rfl ?_
  refine seqP (assignT rfl) rfl ?_
  refine ops_nil ?_
  refine awp_seq ?_
  refine awp_any [0, 0, 3, 7, 15, 31, 15, 127, 255, 511, 15, 1039, 15, 7183, 15375, 31759, 65535, 131071, 262143, 524287, 524287, 524287, 4194303, 8388607, 16777215, 33554431] rfl ?_
  refine .step (rb := []) (wb := []) (ml := []) (moveT rfl) rfl rfl rfl rfl rfl trivial ?_
  refine .step (rb := []) (wb := []) (ml := []) (moveT rfl) rfl rfl rfl rfl rfl trivial ?_
  refine .step (rb := []) (wb := []) (ml := []) (intTT rfl rfl rfl) rfl rfl rfl rfl rfl trivial ?_
  refine .step (rb := []) (wb := []) (ml := []) (moveT rfl) rfl rfl rfl rfl rfl trivial ?_
  refine .split (e := 10) rfl (fun g10 => ?_) (fun g10 => ?_)
  ·
    refine .step (rb := []) (wb := []) (ml := [3]) (fieldPT rfl rfl rfl) ⟨_, rfl, rfl⟩ rfl rfl rfl rfl trivial ?_
    refine .step (rb := [3]) (wb := []) (ml := []) (loadVT rfl rfl rfl rfl) ⟨_, rfl, rfl⟩ rfl rfl rfl rfl trivial ?_
    refine .step (rb := []) (wb := []) (ml := []) (moveT rfl) ⟨_, rfl, rfl⟩ rfl rfl rfl rfl trivial ?_
    refine .step (rb := []) (wb := []) (ml := []) (indexRT rfl rfl rfl (by omega) (idx_getD (z := default) hi) rfl) ⟨_, rfl, rfl⟩ rfl rfl rfl rfl trivial ?_
    refine .step (rb := []) (wb := []) (ml := []) (fieldRT rfl rfl rfl) ⟨_, rfl, rfl⟩ rfl rfl rfl rfl trivial ?_
    refine .step (rb := []) (wb := []) (ml := []) (loadRT rfl rfl rfl) ⟨_, rfl, rfl⟩ rfl rfl rfl rfl trivial ?_
    refine .step (rb := []) (wb := []) (ml := [3]) (fieldPT rfl rfl rfl) ⟨_, rfl, rfl⟩ rfl rfl rfl rfl trivial ?_
    refine .step (rb := [3]) (wb := []) (ml := []) (loadVT rfl rfl rfl rfl) ⟨_, rfl, rfl⟩ rfl rfl rfl rfl trivial ?_
    refine .step (rb := []) (wb := []) (ml := []) (moveT rfl) ⟨_, rfl, rfl⟩ rfl rfl rfl rfl trivial ?_
    refine .step (rb := []) (wb := []) (ml := []) (indexRT rfl rfl rfl (by omega) (idx_getD (z := default) hj) rfl) ⟨_, rfl, rfl⟩ rfl rfl rfl rfl trivial ?_
    refine .step (rb := []) (wb := []) (ml := []) (fieldRT rfl rfl rfl) ⟨_, rfl, rfl⟩ rfl rfl rfl rfl trivial ?_
    refine .step (rb := []) (wb := []) (ml := []) (loadRT rfl rfl rfl) ⟨_, rfl, rfl⟩ rfl rfl rfl rfl trivial ?_
    refine .step (rb := []) (wb := []) (ml := []) (intTT rfl rfl rfl) ⟨_, rfl, rfl⟩ rfl rfl rfl rfl trivial ?_
    refine .step (rb := []) (wb := []) (ml := []) (pickYT rfl rfl) rfl rfl rfl rfl rfl trivial ?_
    refine .step (rb := []) (wb := []) (ml := []) (moveT rfl) rfl rfl rfl rfl rfl trivial ?_
    refine .split (e := 25) rfl (fun g25 => ?_) (fun g25 => ?_)
    ·
      refine .step (rb := [3]) (wb := []) (ml := []) (loadVsT rfl rfl rfl rfl) ⟨_, rfl, rfl⟩ rfl rfl rfl rfl trivial ?_
      refine .step (rb := []) (wb := []) (ml := []) (moveT rfl) ⟨_, rfl, rfl⟩ rfl rfl rfl rfl trivial ?_
      refine .step (rb := []) (wb := []) (ml := []) (moveT rfl) ⟨_, rfl, rfl⟩ rfl rfl rfl rfl trivial ?_
      refine .step (rb := []) (wb := []) (ml := []) (callT rfl rfl rfl (callB_of Try.func45 rfl) (sp45 w i j h hi hj) trivial) ⟨_, rfl, rfl⟩ rfl rfl rfl rfl trivial ?_
      refine .step (rb := []) (wb := []) (ml := []) (intTT rfl rfl rfl) ⟨_, rfl, rfl⟩ rfl rfl rfl rfl trivial ?_
      refine .step (rb := []) (wb := []) (ml := []) (pickYT rfl rfl) rfl rfl rfl rfl rfl trivial ?_
      refine .step (rb := []) (wb := []) (ml := []) (assignT rfl) rfl rfl rfl rfl rfl trivial ?_
      refine .done (by decide +kernel) ?_
      refine awp_ret ?_
      refine ret_plain (resl_tmp rfl resl_nil) ?_ rfl
      simp only [hearsS, *]; rfl
    ·
      refine .skip ⟨_, rfl, .inl rfl⟩ rfl ?_
      refine .skip ⟨_, rfl, .inl rfl⟩ rfl ?_
      refine .skip ⟨_, rfl, .inl rfl⟩ rfl ?_
      refine .skip ⟨_, rfl, .inl rfl⟩ rfl ?_
      refine .skip ⟨_, rfl, .inl rfl⟩ rfl ?_
      refine .step (rb := []) (wb := []) (ml := []) (pickNT rfl rfl) rfl rfl rfl rfl rfl trivial ?_
      refine .step (rb := []) (wb := []) (ml := []) (assignT rfl) rfl rfl rfl rfl rfl trivial ?_
      refine .done (by decide +kernel) ?_
      refine awp_ret ?_
      refine ret_plain (resl_tmp rfl resl_nil) ?_ rfl
      simp only [hearsS, *]; rfl
  ·
    refine .skip ⟨_, rfl, .inl rfl⟩ rfl ?_
    refine .skip ⟨_, rfl, .inl rfl⟩ rfl ?_
    refine .skip ⟨_, rfl, .inl rfl⟩ rfl ?_
    refine .skip ⟨_, rfl, .inl rfl⟩ rfl ?_
    refine .skip ⟨_, rfl, .inl rfl⟩ rfl ?_
    refine .skip ⟨_, rfl, .inl rfl⟩ rfl ?_
    refine .skip ⟨_, rfl, .inl rfl⟩ rfl ?_
    refine .skip ⟨_, rfl, .inl rfl⟩ rfl ?_
    refine .skip ⟨_, rfl, .inl rfl⟩ rfl ?_
    refine .skip ⟨_, rfl, .inl rfl⟩ rfl ?_
    refine .skip ⟨_, rfl, .inl rfl⟩ rfl ?_
    refine .skip ⟨_, rfl, .inl rfl⟩ rfl ?_
    refine .skip ⟨_, rfl, .inl rfl⟩ rfl ?_
    refine .step (rb := []) (wb := []) (ml := []) (pickNT rfl rfl) rfl rfl rfl rfl rfl trivial ?_
    refine .step (rb := []) (wb := []) (ml := []) (moveT rfl) rfl rfl rfl rfl rfl trivial ?_
    refine .skip ⟨_, rfl, .inl rfl⟩ rfl ?_
    refine .skip ⟨_, rfl, .inl rfl⟩ rfl ?_
    refine .skip ⟨_, rfl, .inl rfl⟩ rfl ?_
    refine .skip ⟨_, rfl, .inl rfl⟩ rfl ?_
    refine .skip ⟨_, rfl, .inl rfl⟩ rfl ?_
    refine .step (rb := []) (wb := []) (ml := []) (pickNT rfl rfl) rfl rfl rfl rfl rfl trivial ?_
    refine .step (rb := []) (wb := []) (ml := []) (assignT rfl) rfl rfl rfl rfl rfl trivial ?_
    refine .done (by decide +kernel) ?_
    refine awp_ret ?_
    refine ret_plain (resl_tmp rfl resl_nil) ?_ rfl
    simp only [hearsS, *]; rfl

theorem sp12 (w : Air) (i j : Nat) (h : AirOk w) (hi : i < w.radios.length) (hj : j < w.radios.length) : Spec Try.prog 12 [w.av, .d (vi (i : Nat)), .d (vi (j : Nat))] [] (.tup [.d (vi (levelS w i j)), .d (vi 0)]) [] [] := by
  refine enter 21 [] Try.func12 rfl rfl blOk_nil rfl rfl fun X w0 E0 => ?_
  refine awp_seq ?_
  refine awp_region ?_
  refine seq1 (boxT rfl rfl rfl) rfl rfl ?_
  refine seqP (assignT rfl) rfl ?_
  refine seqP (assignT rfl) rfl ?_
  refine ops_nil ?_
  refine awp_seq ?_
  refine awp_seq ?_
  refine awp_region ?_
  refine seqP (loadVsT rfl rfl rfl rfl) rfl ?_
  refine seqP (moveT rfl) rfl ?_
  refine seqP (moveT rfl) rfl ?_
  refine seqP (litT rfl rfl rfl rfl rfl rfl rfl rfl) rfl ?_
  refine seqP (callT rfl rfl rfl (callB_of Try.func43 rfl) (sp43 w [(i : Int), (j : Int)] h (Nat.le_of_ble_eq_true rfl) (by intro x hx; simp at hx; rcases hx with rfl | rfl <;> omega)) trivial) rfl ?_
  refine seqP (assignT rfl) rfl ?_
  refine ops_nil ?_
  refine awp_seq ?_
  refine awp_region ?_
  refine seqP (moveT rfl) rfl ?_
  refine seqP (neqFT rfl rfl rfl) rfl ?_
  refine ops_nil ?_
  refine awp_ifN rfl ?_
  refine awp_skip ?_
  refine awp_seq ?_
  refine awp_region ?_
  refine seqP (loadVsT rfl rfl rfl rfl) rfl ?_
  refine seqP (moveT rfl) rfl ?_
  refine seqP (moveT rfl) rfl ?_
  refine seqP (callT rfl rfl rfl (callB_of Try.func45 rfl) (sp45 w i j h hi hj) trivial) rfl ?_
  refine seqP (assignT rfl) rfl ?_
  refine seqP (assignT rfl) rfl ?_
  refine ops_nil ?_
  refine awp_ret ?_
  refine ret_plain (resl_tmp rfl (resl_tmp rfl resl_nil)) ?_ rfl
  rfl

theorem sp13 (w : Air) (j i : Nat) (h : AirOk w) (hi : i < w.radios.length) (hj : j < w.radios.length) : Spec Try.prog 13 [w.av, .d (vi (j : Nat)), .d (vi (i : Nat))] [] (.tup [.d (vb (hearsS w j i)), .d (vi 0)]) [] [] := by
  refine enter 21 [] Try.func13 rfl rfl blOk_nil rfl rfl fun X w0 E0 => ?_
  refine awp_seq ?_
  refine awp_region ?_
  refine seq1 (boxT rfl rfl rfl) rfl rfl ?_
  refine seqP (assignT rfl) rfl ?_
  refine seqP (assignT rfl) rfl ?_
  refine ops_nil ?_
  refine awp_seq ?_
  refine awp_seq ?_
  refine awp_region ?_
  refine seqP (loadVsT rfl rfl rfl rfl) rfl ?_
  refine seqP (moveT rfl) rfl ?_
  refine seqP (moveT rfl) rfl ?_
  refine seqP (litT rfl rfl rfl rfl rfl rfl rfl rfl) rfl ?_
  refine seqP (callT rfl rfl rfl (callB_of Try.func43 rfl) (sp43 w [(i : Int), (j : Int)] h (Nat.le_of_ble_eq_true rfl) (by intro x hx; simp at hx; rcases hx with rfl | rfl <;> omega)) trivial) rfl ?_
  refine seqP (assignT rfl) rfl ?_
  refine ops_nil ?_
  refine awp_seq ?_
  refine awp_region ?_
  refine seqP (moveT rfl) rfl ?_
  refine seqP (neqFT rfl rfl rfl) rfl ?_
  refine ops_nil ?_
  refine awp_ifN rfl ?_
  refine awp_skip ?_
  refine awp_seq ?_
  refine awp_region ?_
  refine seqP (loadVsT rfl rfl rfl rfl) rfl ?_
  refine seqP (moveT rfl) rfl ?_
  refine seqP (moveT rfl) rfl ?_
  refine seqP (callT rfl rfl rfl (callB_of Try.func44 rfl) (sp44 w j i h hi hj) trivial) rfl ?_
  refine seqP (assignT rfl) rfl ?_
  refine seqP (assignT rfl) rfl ?_
  refine ops_nil ?_
  refine awp_ret ?_
  refine ret_plain (resl_tmp rfl (resl_tmp rfl resl_nil)) ?_ rfl
  rfl

theorem sp10 (w : Air) (j : Nat) (h : AirOk w) (hj : j < w.radios.length) : Spec Try.prog 10 [w.av, .d (vi (j : Nat))] [] (.tup [.d (.s ((neighS w j).map encInt)), .d (vi 0)]) [] [] := by
  have hn32 := h.n32
  refine enter 31 [] Try.func10 rfl rfl blOk_nil rfl rfl fun X w0 E0 => ?_
  refine awp_seq ?_
  refine awp_region ?_
  refine seq1 (boxT rfl rfl rfl) rfl rfl ?_
  refine seqP (assignT rfl) rfl ?_
  refine seqP (assignT rfl) rfl ?_
  refine ops_nil ?_
  refine awp_seq ?_
  refine awp_seq ?_
  refine awp_region ?_
  refine seqP (loadVsT rfl rfl rfl rfl) rfl ?_
  refine seqP (moveT rfl) rfl ?_
  refine seqP (litT rfl rfl rfl rfl rfl rfl rfl rfl) rfl ?_
  refine seqP (callT rfl rfl rfl (callB_of Try.func43 rfl) (sp43 w [(j : Int)] h (Nat.le_of_ble_eq_true rfl) (by intro x hx; simp at hx; subst hx; omega)) trivial) rfl ?_
  refine seqP (assignT rfl) rfl ?_
  refine ops_nil ?_
  refine awp_seq ?_
  refine awp_region ?_
  refine seqP (moveT rfl) rfl ?_
  refine seqP (neqFT rfl rfl rfl) rfl ?_
  refine ops_nil ?_
  refine awp_ifN rfl ?_
  refine awp_skip ?_
  refine awp_seq ?_
  refine awp_seq ?_
  refine awp_turn (turn_bind 4 10900 1 (by rfl) (by rfl)) ?_
  refine awp_region ?_
  refine seqP (fieldPT rfl rfl rfl) rfl ?_
  refine seqP (loadVT rfl rfl rfl rfl) rfl ?_
  refine seqP (lenRT rfl rfl (List.length_map ..)) rfl ?_
  refine seqP (moveT rfl) rfl ?_
  refine ops_nil ?_
  refine awp_block ?_
  refine awp_loop (ι := Nat) (fun p => ⟨[(1, .d (vi (j : Nat))), (2, .ptr 2 0 0 0), (4, .own 10900 0 1 (hear w j p).length), (17, .d (vi w.radios.length)), (18, .d (vi (p : Nat)))], [(2, some (.var w.cells)), (10900, some (.row 1 ((hear w j p).map encInt)))]⟩) (fun p => p ≤ w.radios.length) (fun p => w.radios.length - p) 0 (Nat.zero_le _) (turn_sub ⟨⟨rfl, rfl, rfl, rfl, rfl, trivial⟩, ⟨rfl, rfl, trivial⟩⟩) (fun p hP => ?_)
  refine awp_seq ?_
  refine awp_region ?_
  refine seqP (intTT rfl rfl rfl) rfl ?_
  refine ops_nil ?_
  refine awp_seq ?_
  refine awp_if rfl (fun h19 => ?_) (fun h19 => ?_)
  · -- yes
    try simp only [mOr, mAnd, decide_eq_true_eq, decide_eq_false_iff_not, beq_iff_eq, beq_eq_false_iff_ne, bne_iff_ne, ne_eq, bne_eq_false_iff_eq, Bool.or_eq_true, Bool.or_eq_false_iff, Bool.and_eq_true, Bool.and_eq_false_iff, Bool.not_eq_true', Bool.not_eq_false', Int.not_lt, Int.not_le, gt_iff_lt, ge_iff_le] at h19
    refine awp_skip ?_
    refine awp_seq ?_
    refine awp_block ?_
    refine awp_seq ?_
    refine awp_region ?_
    refine seqP (moveT rfl) rfl ?_
    refine seqP (assignT rfl) rfl ?_
    refine ops_nil ?_
    refine awp_seq ?_
    refine awp_region ?_
    refine seqP (loadVsT rfl rfl rfl rfl) rfl ?_
    refine seqP (moveT rfl) rfl ?_
    refine seqP (moveT rfl) rfl ?_
    refine seqP (callT rfl rfl rfl (callB_of Try.func44 rfl) (sp44 w j p h (by omega) hj) trivial) rfl ?_
    refine ops_nil ?_
    refine awp_if rfl (fun h24 => ?_) (fun h24 => ?_)
    · -- yes
      skip
      refine awp_region ?_
      refine seqP (moveT rfl) rfl ?_
      refine seqP (moveT rfl) rfl ?_
      refine seqP (litT rfl rfl rfl rfl rfl rfl rfl rfl) rfl ?_
      have hhl := hear_len w j p
      have hhl1 := hear_len w j (p + 1)
      refine seq2 (appendT (b' := 28) rfl rfl rfl rfl rfl rfl (List.length_map ..) (fun row h => by simp at h; subst h; rfl) (show (hear w j p).length + 1 = (hear w j (p + 1)).length by rw [hear_yes h24]; simp) (show _ = (hear w j (p + 1)).map encInt by rw [hear_yes h24, List.map_append]; rfl) (by omega) (by omega)) rfl rfl ?_
      refine seqP (assignT rfl) rfl ?_
      refine ops_nil ?_
      refine awp_region ?_
      refine seqP (intnT rfl rfl rfl (wrap_succ (by omega))) rfl ?_
      refine seqP (moveT rfl) rfl ?_
      refine ops_nil ?_
      refine ⟨(p + 1), (by show p + 1 ≤ _; omega), (turn_ren (fun n => bif Nat.beq n 10900 then 28 else n) ⟨rfl, rfl, rfl, rfl, rfl, trivial⟩ ⟨rfl, rfl, trivial⟩ rfl rfl), by show w.radios.length - (p + 1) < w.radios.length - p; omega⟩
    · -- no
      skip
      refine awp_skip ?_
      refine awp_region ?_
      refine seqP (intnT rfl rfl rfl (wrap_succ (by omega))) rfl ?_
      refine seqP (moveT rfl) rfl ?_
      refine ops_nil ?_
      refine ⟨(p + 1), (by show p + 1 ≤ _; omega), (turn_sub ⟨⟨rfl, rfl, (by rw [hear_no h24]; rfl), rfl, rfl, trivial⟩, ⟨rfl, (by rw [hear_no h24]; rfl), trivial⟩⟩), by show w.radios.length - (p + 1) < w.radios.length - p; omega⟩
  · -- no
    try simp only [mOr, mAnd, decide_eq_true_eq, decide_eq_false_iff_not, beq_iff_eq, beq_eq_false_iff_ne, bne_iff_ne, ne_eq, bne_eq_false_iff_eq, Bool.or_eq_true, Bool.or_eq_false_iff, Bool.and_eq_true, Bool.and_eq_false_iff, Bool.not_eq_true', Bool.not_eq_false', Int.not_lt, Int.not_le, gt_iff_lt, ge_iff_le] at h19
    refine awp_exit ?_
    refine awp_seq ?_
    obtain rfl : p = w.radios.length := by omega
    refine awp_region ?_
    refine seqP (moveT rfl) rfl ?_
    refine seqP (assignT rfl) rfl ?_
    refine ops_turn (freezeT 4 10900 rfl rfl (List.length_map ..)) ?_
    refine seqP (assignT rfl) rfl ?_
    refine ops_nil ?_
    refine awp_ret ?_
    refine ret_plain (resl_tmp rfl (resl_tmp rfl resl_nil)) ?_ rfl
    rfl

end Go.Proofs.Ytencghlmckbmlaa
