/- Walks: airtime.Run on good input (printed by gen.py). -/
import Derived.Test.YtencghlmckbmlaaRun1
set_option linter.unusedVariables false
set_option linter.unusedSimpArgs false
set_option maxRecDepth 100000
set_option maxHeartbeats 4000000
namespace Go.Proofs.Ytencghlmckbmlaa
open Go Go.RowKit

structure Picked (busy : Nat → Bool) (n : Nat) (R : List Share × Nat) : Prop where
  len : R.1.length = n
  turn : R.2 < n
  busy : busy R.2 = true
  credit : 0 < (R.1.getD R.2 default).credit
  odd : R.1.any oddS = false

theorem pickF_res {busy : Nat → Bool} {n j : Nat} {R : List Share × Nat} (hj : j < n) (hbj : busy j = true) : ∀ (f : Nat) (L : List Share) (t : Nat), Wheel busy n j R L t f → Picked busy n R
  | 0, L, t, h => by have := h.fuel; omega
  | f + 1, L, t, h => by
    cases hb : busy t with
    | false =>
      obtain ⟨g, hg, hW⟩ := wheel_idle h hj hbj hb
      have : g = f := by omega
      subst this
      exact pickF_res hj hbj g _ _ hW
    | true =>
      by_cases hc : 0 < (L.getD t default).credit
      · have := wheel_done h hb hc
        subst this
        exact ⟨h.len, h.turn, hb, hc, h.odd⟩
      · obtain ⟨g, hg, hW⟩ := wheel_fill h hj hb (by omega)
        have : g = f := by omega
        subst this
        exact pickF_res hj hbj g _ _ hW

theorem pick_res {busy : Nat → Bool} {n j : Nat} {L : List Share} {t : Nat} (hlen : L.length = n) (ht : t < n) (hn : n ≤ 32) (hj : j < n) (hbj : busy j = true) (hodd : L.any oddS = false) : Picked busy n (pickS busy L t) :=
  pickF_res hj hbj _ _ _ (wheel_start hlen ht hn hj hodd)

def runF : Nat → List Share → Nat → List (List Int) → List Int → List Int × List Share × Nat
  | 0, L, t, _, o => (o, L, t)
  | f + 1, L, t, fr, o => runF f ((pickS (busyR fr) L t).1.set (pickS (busyR fr) L t).2 ⟨((pickS (busyR fr) L t).1.getD (pickS (busyR fr) L t).2 default).weight,
      ((pickS (busyR fr) L t).1.getD (pickS (busyR fr) L t).2 default).credit - (fr.getD (pickS (busyR fr) L t).2 default).getD 0 0⟩) (pickS (busyR fr) L t).2
      (fr.set (pickS (busyR fr) L t).2 ((fr.getD (pickS (busyR fr) L t).2 default).drop 1)) (o ++ [(((pickS (busyR fr) L t).2 : Nat) : Int)])

theorem len_total' : ∀ {fr : List (List Int)} {x : List Int}, x ∈ fr → x.length ≤ (fr.map List.length).sum
  | l :: r, x, h => by
    rcases List.mem_cons.1 h with rfl | h
    · simp
    · have := len_total' h; simp; omega

def total (fr : List (List Int)) : Nat := (fr.map List.length).sum

structure Runs (n : Nat) (X : List Int × List Share × Nat) (L : List Share) (t : Nat) (fr : List (List Int)) (o : List Int) (f : Nat) : Prop where
  len : L.length = n
  turn : t < n
  odd : L.any oddS = false
  flen : fr.length = n
  good : ∀ l ∈ fr, l.any badI = false
  left : total fr = f
  out : o.length + f ≤ 10000
  res : runF f L t fr o = X

theorem len_total {fr : List (List Int)} {i : Nat} {x : List Int} (h : fr[i]? = some x) : x.length ≤ total fr := len_total' (List.mem_of_getElem? h)

theorem int_rows {l : List Int} : ∀ row ∈ l.map encInt, row.length = 1 := fun row h => by
  obtain ⟨x, _, rfl⟩ := List.mem_map.1 h; rfl

theorem frs_set {l : List (List Int)} {i : Nat} {x : List Int} : (l.map encRow).set i [.s (x.map encInt)] = (l.set i x).map encRow := by rw [List.map_set]; rfl

theorem drop_one {l : List Int} : ((l.map encInt).take (((l.length : Nat) : Int)).toNat).drop (1 : Int).toNat = (l.drop 1).map encInt := by
  rw [List.take_of_length_le (by simp), ← List.map_drop]; rfl

theorem total_pos : ∀ {fr : List (List Int)}, 0 < total fr → ∃ j, j < fr.length ∧ busyR fr j = true
  | [], h => by simp [total] at h
  | l :: r, h => by
    by_cases hl : 0 < l.length
    · exact ⟨0, by simp, by simp [busyR]; omega⟩
    · have h' : 0 < total r := by simp [total] at h ⊢; omega
      obtain ⟨j, hj, hb⟩ := total_pos h'
      exact ⟨j + 1, by simp; omega, by simpa [busyR] using hb⟩

theorem total_set : ∀ {fr : List (List Int)} {i : Nat}, i < fr.length → 0 < (fr.getD i default).length → total (fr.set i ((fr.getD i default).drop 1)) + 1 = total fr
  | [], i, h, _ => by simp at h
  | l :: r, 0, h, hp => by
    simp [total] at hp ⊢; omega
  | l :: r, i + 1, h, hp => by
    have := total_set (fr := r) (i := i) (by simpa using h) (by simpa using hp)
    simp [total] at this ⊢; omega

theorem total_take {fr : List (List Int)} {i : Nat} {x : List Int} (h : fr[i]? = some x) : total (fr.take (i + 1)) = total (fr.take i) + x.length := by
  rw [List.take_add_one, h]; simp [total]

theorem total_le {fr : List (List Int)} {i : Nat} : total (fr.take i) ≤ total fr := by
  have h := congrArg total (List.take_append_drop i fr)
  simp only [total, List.map_append, List.sum_append] at h
  simp only [total]
  omega

theorem busyR_pos {fr : List (List Int)} {i : Nat} (h : busyR fr i = true) : 0 < (fr.getD i default).length := by
  have := of_decide_eq_true h
  omega


theorem runs_next {n : Nat} {X : List Int × List Share × Nat} {L : List Share} {t : Nat} {fr : List (List Int)} {o : List Int} {f : Nat} (h : Runs n X L t fr o (f + 1)) (hn : n ≤ 32) :
    Picked (busyR fr) n (pickS (busyR fr) L t) ∧ (∃ a r, fr.getD (pickS (busyR fr) L t).2 default = a :: r ∧ 1 ≤ a ∧ a ≤ 32767) ∧
    Runs n X ((pickS (busyR fr) L t).1.set (pickS (busyR fr) L t).2 ⟨((pickS (busyR fr) L t).1.getD (pickS (busyR fr) L t).2 default).weight,
      ((pickS (busyR fr) L t).1.getD (pickS (busyR fr) L t).2 default).credit - (fr.getD (pickS (busyR fr) L t).2 default).getD 0 0⟩) (pickS (busyR fr) L t).2
      (fr.set (pickS (busyR fr) L t).2 ((fr.getD (pickS (busyR fr) L t).2 default).drop 1)) (o ++ [(((pickS (busyR fr) L t).2 : Nat) : Int)]) f := by
  obtain ⟨hlen, ht, hodd, hfl, hgood, hleft, hout, hres⟩ := h
  obtain ⟨j, hj, hb⟩ := total_pos (fr := fr) (by omega)
  have hp := pick_res hlen ht hn (by omega : j < n) hb hodd
  have hlt : (pickS (busyR fr) L t).2 < fr.length := by rw [hfl]; exact hp.turn
  have hmem : fr.getD (pickS (busyR fr) L t).2 default ∈ fr := by
    rw [List.getD_eq_getElem?_getD, List.getElem?_eq_getElem hlt]; exact List.getElem_mem hlt
  have hpos : 0 < (fr.getD (pickS (busyR fr) L t).2 default).length := busyR_pos hp.busy
  have hcons : ∃ a r, fr.getD (pickS (busyR fr) L t).2 default = a :: r ∧ 1 ≤ a ∧ a ≤ 32767 := by
    cases hc : fr.getD (pickS (busyR fr) L t).2 default with
    | nil => rw [hc] at hpos; simp at hpos
    | cons a r =>
      have := hgood _ hmem
      rw [hc] at this
      simp only [List.any_cons, Bool.or_eq_false_iff, badI, decide_eq_false_iff_not] at this
      exact ⟨a, r, rfl, by omega, by omega⟩
  refine ⟨hp, hcons, by simpa using hp.len, hp.turn, ?_, by simpa using hfl, fun l hl => ?_, ?_, by simp; omega, by rw [← hres]; rfl⟩
  · obtain ⟨a, r, hc, h1, h2⟩ := hcons
    have ho := odd_ok (odd_getD hp.odd (by rw [hp.len]; exact hp.turn))
    have hcr := hp.credit
    refine odd_set hp.odd (oddS_false ho.1 ho.2.1 ?_ ?_)
    · show -32767 ≤ _ - _; rw [hc]; simp only [List.getD_cons_zero]; omega
    · show _ - _ ≤ 1000 * _; rw [hc]; simp only [List.getD_cons_zero]; omega
  · rcases List.mem_or_eq_of_mem_set hl with h1 | rfl
    · exact hgood l h1
    · refine List.any_eq_false.2 fun x hx => List.any_eq_false.1 (hgood _ hmem) x (List.mem_of_mem_drop hx)
  · have := total_set hlt hpos; omega


theorem sp73 (s : Shares) (fr : List (List Int)) (hs : ckS s = 0) (hg : ∀ l ∈ fr, l.any badI = false) (hlen : fr.length = s.list.length) (htot : total fr ≤ 10000) :
    Spec Try.prog 73 [s.av, .d (.s (fr.map encRow))] [] (.tup [.d (.s ((runF (total fr) s.list s.turn.toNat fr []).1.map encInt)), Shares.av ⟨(runF (total fr) s.list s.turn.toNat fr []).2.1, ((runF (total fr) s.list s.turn.toNat fr []).2.2 : Nat)⟩, .d (vi 0)]) [] [] := by
  have hck := ck_ok hs
  refine enter 91 [] Try.func73 rfl rfl blOk_nil rfl rfl fun X w0 E0 => ?_
  refine awp_seq ?_
  refine awp_region ?_
  refine seq1 (boxT rfl rfl rfl) rfl rfl ?_
  refine seqP (assignT rfl) rfl ?_
  refine seq1 (allocT rfl rfl) rfl rfl ?_
  refine seqP (assignT rfl) rfl ?_
  refine ops_nil ?_
  refine awp_seq ?_
  refine awp_seq ?_
  refine awp_region ?_
  refine seqP (loadVsT rfl rfl rfl rfl) rfl ?_
  refine seqP (callT rfl rfl rfl (callB_of Try.func76 rfl) (sp76 s (by omega)) trivial) rfl ?_
  refine seqP (assignT rfl) rfl ?_
  refine ops_nil ?_
  refine awp_seq ?_
  refine awp_region ?_
  refine seqP (moveT rfl) rfl ?_
  refine seqP (intTT rfl rfl rfl) rfl ?_
  refine ops_nil ?_
  refine awp_if rfl (fun h17 => ?_) (fun h17 => ?_)
  · -- yes
    exact absurd hs (by simpa using h17)
  · -- no
    try simp only [mOr, mAnd, decide_eq_true_eq, decide_eq_false_iff_not, beq_iff_eq, beq_eq_false_iff_ne, bne_iff_ne, ne_eq, bne_eq_false_iff_eq, Bool.or_eq_true, Bool.or_eq_false_iff, Bool.and_eq_true, Bool.and_eq_false_iff, Bool.not_eq_true', Bool.not_eq_false', Int.not_lt, Int.not_le, gt_iff_lt, ge_iff_le] at h17
    refine awp_skip ?_
    refine awp_seq ?_
    refine awp_region ?_
    refine seqP (assignT rfl) rfl ?_
    refine ops_nil ?_
    refine awp_seq ?_
    refine awp_seq ?_
    refine awp_region ?_
    refine seqP (moveT rfl) rfl ?_
    refine seqP (lenRT rfl rfl (List.length_map ..)) rfl ?_
    refine seqP (moveT rfl) rfl ?_
    refine ops_nil ?_
    refine awp_block ?_
    refine awp_loop (ι := Nat) (fun p => ⟨[(1, .d (.s (fr.map encRow))), (2, .ptr 2 0 0 0), (4, .nil), (5, .ptr 5 0 0 0), (6, .d (vi 0)), (8, .d (vi (total (fr.take p) : Nat))), (20, .d (.s (fr.map encRow))), (21, .d (vi fr.length)), (22, .d (vi (p : Nat)))], [(2, some (.var [.d (.s (s.list.map encShare)), .d (vi s.turn)])), (5, some (.var [.nil, .d (vi 0)]))]⟩) (fun p => p ≤ fr.length) (fun p => fr.length - p) 0 (Nat.zero_le _) (turn_sub ⟨⟨rfl, rfl, rfl, rfl, rfl, rfl, rfl, rfl, rfl, trivial⟩, ⟨rfl, rfl, trivial⟩⟩) (fun p hP => ?_)
    refine awp_seq ?_
    refine awp_region ?_
    refine seqP (intTT rfl rfl rfl) rfl ?_
    refine ops_nil ?_
    refine awp_seq ?_
    refine awp_if rfl (fun h23 => ?_) (fun h23 => ?_)
    · -- yes
      try simp only [mOr, mAnd, decide_eq_true_eq, decide_eq_false_iff_not, beq_iff_eq, beq_eq_false_iff_ne, bne_iff_ne, ne_eq, bne_eq_false_iff_eq, Bool.or_eq_true, Bool.or_eq_false_iff, Bool.and_eq_true, Bool.and_eq_false_iff, Bool.not_eq_true', Bool.not_eq_false', Int.not_lt, Int.not_le, gt_iff_lt, ge_iff_le] at h23
      refine awp_skip ?_
      refine awp_seq ?_
      refine awp_block ?_
      refine awp_seq ?_
      refine awp_region ?_
      obtain ⟨x, hx⟩ : ∃ x, fr[p]? = some x := ⟨_, List.getElem?_eq_getElem (by omega)⟩
      have htk := total_take hx
      have htl := total_le (fr := fr) (i := p + 1)
      refine seqP (indexRT rfl rfl rfl (by omega) (idx_map hx) rfl) rfl ?_
      refine seqP (loadRT rfl rfl rfl) rfl ?_
      refine seqP (assignT rfl) rfl ?_
      refine ops_nil ?_
      refine awp_seq ?_
      refine awp_region ?_
      refine seqP (moveT rfl) rfl ?_
      refine seqP (moveT rfl) rfl ?_
      refine seqP (lenRT rfl rfl (List.length_map ..)) rfl ?_
      refine seqP (intnT rfl rfl rfl (show IntKind.i64.wrap (((total (fr.take p) : Nat) : Int) + ((x.length : Nat) : Int)) = ((total (fr.take (p + 1)) : Nat) : Int) by rw [wrap_i64 ⟨by omega, by omega⟩]; omega)) rfl ?_
      refine seqP (assignT rfl) rfl ?_
      refine ops_nil ?_
      refine awp_seq ?_
      refine awp_region ?_
      refine seqP (moveT rfl) rfl ?_
      refine seqP (callT rfl rfl rfl (callB_of Try.func109 rfl) (sp109 x (by have := len_total hx; omega)) trivial) rfl ?_
      refine ops_nil ?_
      refine awp_if rfl (fun h31 => ?_) (fun h31 => ?_)
      · -- yes
        have hb := hg x (List.mem_of_getElem? hx)
        rw [hb] at h31; cases h31
      · -- no
        try simp only [mOr, mAnd, decide_eq_true_eq, decide_eq_false_iff_not, beq_iff_eq, beq_eq_false_iff_ne, bne_iff_ne, ne_eq, bne_eq_false_iff_eq, Bool.or_eq_true, Bool.or_eq_false_iff, Bool.and_eq_true, Bool.and_eq_false_iff, Bool.not_eq_true', Bool.not_eq_false', Int.not_lt, Int.not_le, gt_iff_lt, ge_iff_le] at h31
        refine awp_skip ?_
        refine awp_region ?_
        refine seqP (intnT rfl rfl rfl (wrap_succ (by omega))) rfl ?_
        refine seqP (moveT rfl) rfl ?_
        refine ops_nil ?_
        refine ⟨(p + 1), (by show p + 1 ≤ _; omega), (turn_sub ⟨⟨rfl, rfl, rfl, rfl, rfl, rfl, rfl, rfl, rfl, trivial⟩, ⟨rfl, rfl, trivial⟩⟩), by show fr.length - (p + 1) < fr.length - p; omega⟩
    · -- no
      try simp only [mOr, mAnd, decide_eq_true_eq, decide_eq_false_iff_not, beq_iff_eq, beq_eq_false_iff_ne, bne_iff_ne, ne_eq, bne_eq_false_iff_eq, Bool.or_eq_true, Bool.or_eq_false_iff, Bool.and_eq_true, Bool.and_eq_false_iff, Bool.not_eq_true', Bool.not_eq_false', Int.not_lt, Int.not_le, gt_iff_lt, ge_iff_le] at h23
      refine awp_exit ?_
      refine awp_seq ?_
      refine awp_seq ?_
      have hpf : fr.take p = fr := List.take_of_length_le (by omega)
      simp only [hpf]
      refine awp_region ?_
      refine seqP (moveT rfl) rfl ?_
      refine seqP (lenRT rfl rfl (List.length_map ..)) rfl ?_
      refine seqP (fieldPT rfl rfl rfl) rfl ?_
      refine seqP (loadVT rfl rfl rfl rfl) rfl ?_
      refine seqP (lenRT rfl rfl (List.length_map ..)) rfl ?_
      refine seqP (intTT rfl rfl rfl) rfl ?_
      refine seqP (moveT rfl) rfl ?_
      refine seqM 2 (g := 43) (x := ?_) rfl rfl (fun Q g40 hJ => ?_) (fun Q g40 hJ => ?_) ?_
      rotate_left 1
      · -- taken
        refine seqP (moveT rfl) rfl ?_
        refine seqGy rfl rfl ?_
        refine seqP (intTT rfl rfl rfl) rfl ?_
        refine seqP (pickNT rfl rfl) rfl ?_
        refine hJ 3 _ ?_
        exact ⟨.inl rfl, .inl rfl, .inr (congrArg (fun b => AV.d (D.v (Value.bool b))) g40), rfl⟩
      · -- left
        refine seqGn rfl rfl ?_
        refine seqP (pickYT rfl rfl) rfl ?_
        refine hJ 3 _ ?_
        exact ⟨.inl rfl, .inl rfl, .inr (congrArg (fun b => AV.d (D.v (Value.bool b))) g40), rfl⟩
      refine ops_nil ?_
      refine awp_if rfl (fun h43 => ?_) (fun h43 => ?_)
      · -- yes
        exfalso
        try simp only [mOr, mAnd, decide_eq_true_eq, decide_eq_false_iff_not, beq_iff_eq, beq_eq_false_iff_ne, bne_iff_ne, ne_eq, bne_eq_false_iff_eq, Bool.or_eq_true, Bool.or_eq_false_iff, Bool.and_eq_true, Bool.and_eq_false_iff, Bool.not_eq_true', Bool.not_eq_false', Int.not_lt, Int.not_le, gt_iff_lt, ge_iff_le] at h43
        omega
      · -- no
        try simp only [mOr, mAnd, decide_eq_true_eq, decide_eq_false_iff_not, beq_iff_eq, beq_eq_false_iff_ne, bne_iff_ne, ne_eq, bne_eq_false_iff_eq, Bool.or_eq_true, Bool.or_eq_false_iff, Bool.and_eq_true, Bool.and_eq_false_iff, Bool.not_eq_true', Bool.not_eq_false', Int.not_lt, Int.not_le, gt_iff_lt, ge_iff_le] at h43
        refine awp_skip ?_
        refine awp_seq ?_
        refine awp_region ?_
        refine seqP (loadVsT rfl rfl rfl rfl) rfl ?_
        refine seq2 (callT rfl rfl rfl (callB_of Try.func146 rfl) (sp146 s (by omega)) trivial) rfl rfl ?_
        refine seqP (moveT rfl) rfl ?_
        refine seq1 (callT rfl rfl rfl (callB_of Try.func147 rfl) (sp147 fr (by omega)) trivial) rfl rfl ?_
        refine seq1 (allocN 73012 rfl rfl) rfl rfl ?_
        refine seqP (assignT rfl) rfl ?_
        refine seq0 (storeVT rfl rfl rfl rfl rfl rfl rfl) ?_
        refine ops_nil ?_
        refine awp_seq ?_
        refine awp_block ?_
        refine awp_turn (turn_bind 4 73500 1 (by rfl) (by rfl)) ?_
        refine awp_loop (ι := List Share × Nat × List (List Int) × List Int × Nat) (fun q => ⟨[(4, .own 73500 0 1 q.2.2.2.1.length), (5, .ptr 5 0 0 0), (6, .d (vi 0)), (8, .d (vi (q.2.2.2.2 : Nat))), (11, .ptr 146010 0 0 0), (12, .ptr 73012 0 0 0)], [(5, some (.var [.nil, .d (vi 0)])), (146010, some (.var [.own 206007 0 2 s.list.length, .d (vi (q.2.1 : Nat))])), (206007, some (.row 2 (q.1.map encShare))), (73012, some (.var [.own 147007 0 1 s.list.length])), (147007, some (.row 1 (q.2.2.1.map encRow))), (73500, some (.row 1 (q.2.2.2.1.map encInt)))]⟩) (fun q => Runs s.list.length (runF (total fr) s.list s.turn.toNat fr []) q.1 q.2.1 q.2.2.1 q.2.2.2.1 q.2.2.2.2) (fun q => q.2.2.2.2) (s.list, s.turn.toNat, fr, [], total fr) ⟨rfl, by show s.turn.toNat < s.list.length; omega, hck.2.2.2.2, hlen, hg, rfl, by simp; exact htot, rfl⟩ (turn_sub ⟨⟨rfl, rfl, rfl, rfl, rfl, rfl, trivial⟩, ⟨rfl, (by rw [show ((s.turn.toNat : Nat) : Int) = s.turn by omega]; rfl), rfl, (by rw [← hlen]; rfl), rfl, rfl, trivial⟩⟩) (fun q hP => ?_)
        refine awp_seq ?_
        refine awp_seq ?_
        refine awp_region ?_
        refine seqP (moveT rfl) rfl ?_
        refine seqP (intTT rfl rfl rfl) rfl ?_
        refine ops_nil ?_
        refine awp_if rfl (fun h50 => ?_) (fun h50 => ?_)
        · -- yes
          try simp only [mOr, mAnd, decide_eq_true_eq, decide_eq_false_iff_not, beq_iff_eq, beq_eq_false_iff_ne, bne_iff_ne, ne_eq, bne_eq_false_iff_eq, Bool.or_eq_true, Bool.or_eq_false_iff, Bool.and_eq_true, Bool.and_eq_false_iff, Bool.not_eq_true', Bool.not_eq_false', Int.not_lt, Int.not_le, gt_iff_lt, ge_iff_le] at h50
          obtain ⟨f, hf⟩ : ∃ f, q.2.2.2.2 = f + 1 := ⟨q.2.2.2.2 - 1, by omega⟩
          obtain ⟨hp, ⟨a, r, hc, ha1, ha2⟩, hR⟩ := runs_next (hf ▸ hP) (by omega)
          obtain ⟨j0, hj0, hb0⟩ := total_pos (fr := q.2.2.1) (by rw [hP.left]; omega)
          have hbusy : ∃ j, j < s.list.length ∧ busyR q.2.2.1 j = true := ⟨j0, by rw [← hP.flen]; exact hj0, hb0⟩
          refine awp_skip ?_
          refine awp_seq ?_
          refine awp_block ?_
          refine awp_seq ?_
          refine awp_region ?_
          refine seqP (moveT rfl) rfl ?_
          refine seqP (mkFuncT rfl rfl) rfl ?_
          refine seq2 (callT rfl rfl rfl (callB_of Try.func148 rfl) (sp148b q.1 q.2.1 s.list.length hP.len hP.turn (by omega) hP.odd q.2.2.1 hP.flen hbusy) ⟨rfl, rfl, rfl, rfl, trivial⟩) rfl rfl ?_
          refine seqP (assignT rfl) rfl ?_
          refine ops_nil ?_
          refine awp_seq ?_
          have hhd : (q.2.2.1.getD (pickS (busyR q.2.2.1) q.1 q.2.1).2 default).getD 0 0 = a := by rw [hc]; rfl
          have hod := odd_ok (odd_getD hp.odd (by rw [hp.len]; exact hp.turn : (pickS (busyR q.2.2.1) q.1 q.2.1).2 < (pickS (busyR q.2.2.1) q.1 q.2.1).1.length))
          refine awp_any [0, 1, 3, 7, 15, 0, 63, 127, 255, 0, 0, 1536, 3584, 7680, 15872, 32767, 65535, 131071, 262143] rfl ?_
          refine .step (rb := []) (wb := []) (ml := [146010]) (moveT rfl) rfl rfl rfl rfl rfl trivial ?_
          refine .step (rb := []) (wb := []) (ml := [146010]) (nilPT rfl) rfl rfl rfl rfl rfl trivial ?_
          refine .step (rb := []) (wb := []) (ml := [146010]) (fieldPT rfl rfl rfl) rfl rfl rfl rfl rfl trivial ?_
          refine .step (rb := []) (wb := []) (ml := [146010]) (fieldPT rfl rfl rfl) rfl rfl rfl rfl rfl trivial ?_
          refine .step (rb := [146010]) (wb := []) (ml := [206007]) (loadVT rfl rfl rfl rfl) rfl rfl rfl rfl rfl trivial ?_
          refine .step (rb := []) (wb := []) (ml := []) (moveT rfl) rfl rfl rfl rfl rfl trivial ?_
          refine .step (rb := []) (wb := []) (ml := [206007]) (indexWT rfl rfl rfl (by omega) (by have := hp.turn; omega) (show 0 + (((pickS (busyR q.2.2.1) q.1 q.2.1).2 : Nat) : Int).toNat = (pickS (busyR q.2.2.1) q.1 q.2.1).2 by simp)) rfl rfl rfl rfl rfl trivial ?_
          refine .step (rb := []) (wb := []) (ml := [206007]) (fieldPT rfl rfl rfl) rfl rfl rfl rfl rfl trivial ?_
          refine .step (rb := [206007]) (wb := []) (ml := []) (loadWT rfl rfl rfl (row_getD (z := default) (by rw [hp.len]; exact hp.turn)) rfl) rfl rfl rfl rfl rfl trivial ?_
          refine .step (rb := [73012]) (wb := []) (ml := [147007]) (loadVT rfl rfl rfl rfl) rfl rfl rfl rfl rfl trivial ?_
          refine .step (rb := []) (wb := []) (ml := []) (moveT rfl) rfl rfl rfl rfl rfl trivial ?_
          refine .step (rb := []) (wb := []) (ml := [147007]) (indexWT rfl rfl rfl (by omega) (by have := hp.turn; omega) (show 0 + (((pickS (busyR q.2.2.1) q.1 q.2.1).2 : Nat) : Int).toNat = (pickS (busyR q.2.2.1) q.1 q.2.1).2 by simp)) rfl rfl rfl rfl rfl trivial ?_
          refine .step (rb := [147007]) (wb := []) (ml := []) (loadWT rfl rfl rfl (row_getD (z := default) (by rw [hP.flen]; exact hp.turn)) rfl) rfl rfl rfl rfl rfl trivial ?_
          refine .step (rb := []) (wb := []) (ml := []) (indexRT rfl rfl rfl (by decide) (idx_getD (i := 0) (z := (0 : Int)) (by rw [hc]; simp)) rfl) rfl rfl rfl rfl rfl trivial ?_
          refine .step (rb := []) (wb := []) (ml := []) (loadRT rfl rfl rfl) rfl rfl rfl rfl rfl trivial ?_
          refine .step (rb := []) (wb := []) (ml := []) (intnT rfl rfl rfl (wrap_i64 (by omega))) rfl rfl rfl rfl rfl trivial ?_
          refine .step (rb := []) (wb := []) (ml := [206007]) (indexWT rfl rfl rfl (by omega) (by have := hp.turn; omega) (show 0 + (((pickS (busyR q.2.2.1) q.1 q.2.1).2 : Nat) : Int).toNat = (pickS (busyR q.2.2.1) q.1 q.2.1).2 by simp)) rfl rfl rfl rfl rfl trivial ?_
          refine .step (rb := []) (wb := []) (ml := [206007]) (fieldPT rfl rfl rfl) rfl rfl rfl rfl rfl trivial ?_
          refine .step (rb := [206007]) (wb := [206007]) (ml := []) (storeWT rfl rfl rfl rfl rfl (row_getD (z := default) (by rw [hp.len]; exact hp.turn)) rfl rfl rfl) rfl rfl rfl rfl rfl ⟨rfl, trivial⟩ ?_
          refine .done (by decide +kernel) ?_
          refine awp_seq ?_
          refine awp_any [0, 0, 0, 0, 12, 28, 60, 127, 255] rfl ?_
          refine .step (rb := [73012]) (wb := []) (ml := [147007]) (loadVT rfl rfl rfl rfl) rfl rfl rfl rfl rfl trivial ?_
          refine .step (rb := []) (wb := []) (ml := []) (moveT rfl) rfl rfl rfl rfl rfl trivial ?_
          refine .step (rb := [73012]) (wb := []) (ml := [147007]) (loadVT rfl rfl rfl rfl) rfl rfl rfl rfl rfl trivial ?_
          refine .step (rb := []) (wb := []) (ml := []) (moveT rfl) rfl rfl rfl rfl rfl trivial ?_
          refine .step (rb := []) (wb := []) (ml := [147007]) (indexWT rfl rfl rfl (by omega) (by have := hp.turn; omega) (show 0 + (((pickS (busyR q.2.2.1) q.1 q.2.1).2 : Nat) : Int).toNat = (pickS (busyR q.2.2.1) q.1 q.2.1).2 by simp)) rfl rfl rfl rfl rfl trivial ?_
          refine .step (rb := [147007]) (wb := []) (ml := []) (loadWT rfl rfl rfl (row_getD (z := default) (by rw [hP.flen]; exact hp.turn)) rfl) rfl rfl rfl rfl rfl trivial ?_
          refine .step (rb := []) (wb := []) (ml := []) (sliceRT rfl rfl (List.length_map ..) rfl rfl int_rows (by decide) (by rw [hc]; simp; omega) (Int.le_refl _) drop_one) rfl rfl rfl rfl rfl trivial ?_
          refine .step (rb := []) (wb := []) (ml := [147007]) (indexWT rfl rfl rfl (by omega) (by have := hp.turn; omega) (show 0 + (((pickS (busyR q.2.2.1) q.1 q.2.1).2 : Nat) : Int).toNat = (pickS (busyR q.2.2.1) q.1 q.2.1).2 by simp)) rfl rfl rfl rfl rfl trivial ?_
          refine .step (rb := [147007]) (wb := [147007]) (ml := []) (storeWT rfl rfl rfl rfl rfl (row_getD (z := default) (by rw [hP.flen]; exact hp.turn)) rfl rfl rfl) rfl rfl rfl rfl rfl ⟨rfl, trivial⟩ ?_
          refine .done (by decide +kernel) ?_
          refine awp_region ?_
          refine seqP (moveT rfl) rfl ?_
          refine seqP (moveT rfl) rfl ?_
          refine seqP (litT rfl rfl rfl rfl rfl rfl rfl rfl) rfl ?_
          refine seq2 (appendT (b' := 85) rfl rfl rfl rfl rfl rfl (List.length_map ..) (fun row h => by simp at h; subst h; rfl) (show q.2.2.2.1.length + 1 = (q.2.2.2.1 ++ [(((pickS (busyR q.2.2.1) q.1 q.2.1).2 : Nat) : Int)]).length by simp) (show _ = (q.2.2.2.1 ++ [(((pickS (busyR q.2.2.1) q.1 q.2.1).2 : Nat) : Int)]).map encInt by rw [List.map_append]; rfl) (by have := hP.out; simp only [List.length_append, List.length_cons, List.length_nil]; omega) (by have := hP.out; simp only [List.length_append, List.length_cons, List.length_nil]; omega)) rfl rfl ?_
          refine seqP (assignT rfl) rfl ?_
          refine ops_nil ?_
          refine awp_region ?_
          refine seqP (moveT rfl) rfl ?_
          refine seqP (intnT rfl rfl rfl (show IntKind.i64.wrap (((q.2.2.2.2 : Nat) : Int) - 1) = ((f : Nat) : Int) by have := hP.out; rw [wrap_i64 ⟨by omega, by omega⟩]; omega)) rfl ?_
          refine seqP (assignT rfl) rfl ?_
          refine ops_nil ?_
          refine ⟨(_, _, _, _, f), hR, (turn_ren (fun n => bif Nat.beq n 73500 then 85 else n) ⟨rfl, rfl, rfl, rfl, rfl, rfl, trivial⟩ ⟨rfl, rfl, (congrArg (fun r => some (Blk.row 2 r)) shares_set), rfl, (congrArg (fun r => some (Blk.row 1 r)) frs_set), rfl, trivial⟩ rfl rfl), by show f < q.2.2.2.2; omega⟩
        · -- no
          try simp only [mOr, mAnd, decide_eq_true_eq, decide_eq_false_iff_not, beq_iff_eq, beq_eq_false_iff_ne, bne_iff_ne, ne_eq, bne_eq_false_iff_eq, Bool.or_eq_true, Bool.or_eq_false_iff, Bool.and_eq_true, Bool.and_eq_false_iff, Bool.not_eq_true', Bool.not_eq_false', Int.not_lt, Int.not_le, gt_iff_lt, ge_iff_le] at h50
          have hX := hP.res
          rw [show q.2.2.2.2 = 0 by omega] at hX
          simp only [runF] at hX
          refine awp_exit ?_
          refine awp_seq ?_
          refine awp_turn (freezeT 4 73500 rfl rfl (List.length_map ..)) ?_
          refine awp_turn (turn_freezeC 146010 0 206007 rfl rfl rfl (by rw [List.length_map]; exact hP.len) rfl) ?_
          refine awp_any [0, 0, 2, 6, 14, 1, 63, 127] rfl ?_
          refine .step (rb := []) (wb := []) (ml := []) (moveT rfl) rfl rfl rfl rfl rfl trivial ?_
          refine .step (rb := []) (wb := []) (ml := [146010]) (moveT rfl) rfl rfl rfl rfl rfl trivial ?_
          refine .step (rb := []) (wb := []) (ml := [146010]) (nilPT rfl) rfl rfl rfl rfl rfl trivial ?_
          refine .step (rb := []) (wb := []) (ml := [146010]) (fieldPT rfl rfl rfl) rfl rfl rfl rfl rfl trivial ?_
          refine .step (rb := [146010]) (wb := []) (ml := []) (loadVsT rfl rfl rfl rfl) rfl rfl rfl rfl rfl trivial ?_
          refine .step (rb := []) (wb := []) (ml := []) (assignT rfl) rfl rfl rfl rfl rfl trivial ?_
          refine .step (rb := [5]) (wb := [5]) (ml := []) (storeVT rfl rfl rfl rfl rfl rfl rfl) rfl rfl rfl rfl rfl ⟨rfl, trivial⟩ ?_
          refine .step (rb := []) (wb := []) (ml := []) (assignT rfl) rfl rfl rfl rfl rfl trivial ?_
          refine .done (by decide +kernel) ?_
          refine awp_ret ?_
          refine ret_plain (resl_tmp rfl (resl_agg rfl rfl rfl rfl rfl (resl_tmp rfl resl_nil))) ?_ rfl
          rw [← hX]; rfl

end Go.Proofs.Ytencghlmckbmlaa
