/- Walks: TopServed (printed by gen.py). -/
import Derived.Test.YtencghlmckbmlaaServedLaw
import Derived.Test.YtencghlmckbmlaaServed1
import Derived.Test.YtencghlmckbmlaaFlowB
import Derived.Test.YtencghlmckbmlaaEq2
set_option linter.unusedVariables false
set_option linter.unusedSimpArgs false
set_option maxRecDepth 100000
set_option maxHeartbeats 4000000
namespace Go.Proofs.Ytencghlmckbmlaa
open Go Go.RowKit

def encU8 (x : Int) : List D := [.v (.int .u8 x)]

theorem rot_tmod {n k p : Nat} : Int.tmod ((p : Int) + (k : Int)) (n : Int) = ((rot n k p : Nat) : Int) := by
  rw [tmod_nn (by omega)]
  unfold rot
  rw [Int.natCast_emod, Int.natCast_add]

theorem tame_all {ms : List Mv} (h : tameS ms 120 = true) : ms.length ≤ 120 ∧ ∀ m ∈ ms, 0 ≤ m.wait ∧ m.wait ≤ 1000000 ∧ 0 ≤ m.n := by
  simp only [tameS, Bool.and_eq_true, decide_eq_true_eq, Bool.not_eq_true'] at h
  refine ⟨by omega, fun m hm => ?_⟩
  have h1 : mvBad m = false := by simpa using List.any_eq_false.1 h.2 m hm
  simp only [mvBad, Bool.or_eq_false_iff, decide_eq_false_iff_not] at h1
  omega

theorem mk_odd {L : List Int} {n : Nat} (hl : L.length = n) (h : ∀ j, j < n → 1 ≤ L.getD j default ∧ L.getD j default ≤ 16) : (mkL L).any oddS = false := by
  refine odd_of_all fun x hx => ?_
  obtain ⟨w, hw, rfl⟩ := List.mem_map.1 hx
  obtain ⟨i, hi, rfl⟩ := List.getElem_of_mem hw
  have := h i (by omega)
  rw [List.getD_eq_getElem?_getD, List.getElem?_eq_getElem hi] at this
  exact oddS_false this.1 this.2 (by show (-32767 : Int) ≤ 0; decide) (by show (0 : Int) ≤ 1000 * L[i]; have : 1 ≤ L[i] := this.1; omega)

theorem new_ok {L : List Int} {n : Nat} (hn : 1 ≤ n) (h8 : n ≤ 8) (hl : L.length = n) (h : ∀ j, j < n → 1 ≤ L.getD j default ∧ L.getD j default ≤ 16) : newS L = (⟨mkL L, 0⟩, 0) := by
  unfold newS
  rw [if_pos]
  exact ck_of (n := n) (by simp [mkL, hl]) hn h8 (Int.le_refl _) (by show (0 : Int) < n; omega) (mk_odd hl h)

theorem c30n {L : List Int} {n : Nat} (hn : 1 ≤ n) (h8 : n ≤ 8) (hl : L.length = n) (h : ∀ j, j < n → 1 ≤ L.getD j default ∧ L.getD j default ≤ 16) :
    Spec Try.prog 30 [.d (.s (L.map encInt))] [] (.tup [Shares.av ⟨mkL L, 0⟩, .d (vi 0)]) [] [] := by
  have := sp30 L (by omega); rwa [new_ok hn h8 hl h] at this

theorem rot_all {n k : Nat} {L M : List Int} (hk : k < n) (h : Rot n k id L M) (hb : ∀ j, j < n → 1 ≤ L.getD j default ∧ L.getD j default ≤ 16) : ∀ j, j < n → 1 ≤ M.getD j default ∧ M.getD j default ≤ 16 := fun j hj => by
  obtain ⟨i, hi, rfl⟩ := rot_surj hk hj
  rw [h.at_ i hi]; exact hb i hi

theorem mk_getD {L : List Int} {j : Nat} (h : j < L.length) : (mkL L).getD j default = ⟨L.getD j default, 0⟩ := by
  unfold mkL
  rw [List.getD_eq_getElem?_getD, List.getElem?_map, List.getElem?_eq_getElem h, List.getD_eq_getElem?_getD, List.getElem?_eq_getElem h]; rfl

theorem rel_start {n k : Nat} {lt : Int} {L M : List Int} (hk : k < n) (h : Rot n k id L M) (hb : ∀ j, j < n → 1 ≤ L.getD j default ∧ L.getD j default ≤ 16) :
    Rel n k lt 0 ⟨mkL L, 0⟩ ⟨mkL M, (k : Nat)⟩ (List.replicate n default) (List.replicate n default) := by
  refine ⟨⟨⟨by simp [mkL, h.la], by simp [mkL, h.lb], fun j hj => ?_⟩, Int.le_refl _, by show (0 : Int) < n; omega, ?_, mk_odd h.la hb⟩, ⟨by simp, by simp, fun j hj => ?_⟩, fun q hq => ?_⟩
  · have e := h.at_ j hj
    show (mkL M).getD (rot n k j) default = (mkL L).getD j default
    rw [mk_getD (L := L) (by rw [h.la]; exact hj), mk_getD (L := M) (by rw [h.lb]; exact rot_lt (by omega)), e]; rfl
  · show ((k : Nat) : Int) = ((rot n k 0 : Nat) : Int)
    rw [rot_eq hk (by omega), if_pos (by omega), Nat.zero_add]
  · have z : ∀ i, (List.replicate n (default : Fifo)).getD i default = Fifo.zero := fun i => by
      rw [List.getD_eq_getElem?_getD, List.getElem?_replicate]
      split <;> rfl
    rw [z, z]; exact shQ_zero.symm
  · rw [List.eq_of_mem_replicate hq]; exact .zero (Int.le_refl _)

section
variable {n k : Nat} {later now : Int} {ta tb : Shares} {qa qb : List Fifo}
theorem Rel.fitA (h : Rel n k later now ta tb qa qb) (h1 : now ≤ 1000000000) : ∀ q ∈ qa, q.items.length ≤ 100000 ∧ ∀ x ∈ q.items, ItemOk x := fun q hq => by
  have := (h.ok q hq)
  refine ⟨by have := this.len; omega, fun x hx => ?_⟩
  have h2 := this.items x hx
  have h3 := itemsOk_at this.sorted x hx
  unfold ItemOk; omega
theorem Rel.fitB (h : Rel n k later now ta tb qa qb) (hk : k < n) (h1 : now ≤ 1000000000) (l0 : 0 ≤ later) (l1 : later ≤ 1073741824) : ∀ q ∈ qb, q.items.length ≤ 100000 ∧ ∀ x ∈ q.items, ItemOk x :=
  h.rot.all hk (P := fun q => QOk now q) h.ok fun q hq => by
    refine ⟨by have := hq.len; simp only [shQ, List.length_map]; omega, fun x hx => ?_⟩
    obtain ⟨y, hy, rfl⟩ := List.mem_map.1 hx
    have h2 := hq.items y hy
    have h3 := itemsOk_at hq.sorted y hy
    refine ⟨?_, ?_, ?_, ?_, ?_, ?_⟩
    · show _ ≤ y.id + 1000; omega
    · show y.id + 1000 ≤ _; omega
    · show 0 ≤ y.at_ + later; omega
    · show y.at_ + later ≤ _; omega
    · exact h3.2.2.1
    · exact h3.2.2.2

theorem c31a {A : Told × Shares × List Fifo} (h : Rel n k later now ta tb qa qb) (hk : k < n) (h8 : n ≤ 8) (h0 : 0 ≤ now) (h1 : now ≤ 1000000000) (l0 : 0 ≤ later) (l1 : later ≤ 1073741824)
    (m : Mv) (id : Int) (i0 : 0 ≤ id) (i1 : id ≤ 1000) (hN : 0 ≤ m.n) (hK : 0 ≤ m.kind) (hA : moveS ⟨n, 0, 0, 0⟩ ta qa m id now = A) :
    Spec Try.prog 31 [.ptr 9001 0 0 0, .agg [.d (.v (.int .u8 m.kind)), .d (vi m.wait), .d (vi m.n)], .d (vi id), .d (vi now)]
      [(9001, some (.var [.d (.s (ta.list.map encShare)), .d (vi ta.turn), .own 9002 0 3 n, .d (vi 0), .d (vi 0), .d (vi 0)])), (9002, some (.row 3 (qa.map encFifo)))]
      (.tup [.agg [.d (vi A.1.who), .d (.s (A.1.items.map encItem)), .d (vi A.1.e)], .d (vb true)])
      [(9001, some (.var [.d (.s (A.2.1.list.map encShare)), .d (vi A.2.1.turn), .own 9002 0 3 n, .d (vi 0), .d (vi 0), .d (vi 0)])), (9002, some (.row 3 (A.2.2.map encFifo)))] [] := by
  subst hA
  have e := (move_law h hk h8 h0 h1 l0 l1 m id i0 i1 hN).1
  have := sp31 ⟨n, 0, 0, 0⟩ ta qa m id now (by show 1 ≤ n; omega) h8 (by show 0 < n; omega) (Int.le_refl _) (by show (0 : Int) ≤ _; omega) (Int.le_refl _) (by show (0 : Int) ≤ _; omega) h.rot.la (h.fitA h1) hK hN ⟨i0, i1⟩ ⟨h0, h1⟩ (by have := h.turns.list.la; omega)
  rw [e] at this
  exact this

theorem c31b {A B : Told × Shares × List Fifo} (h : Rel n k later now ta tb qa qb) (hk : k < n) (h8 : n ≤ 8) (h0 : 0 ≤ now) (h1 : now ≤ 1000000000) (l0 : 0 ≤ later) (l1 : later ≤ 1073741824)
    (m : Mv) (id : Int) (i0 : 0 ≤ id) (i1 : id ≤ 1000) (hN : 0 ≤ m.n) (hK : 0 ≤ m.kind) (hA : moveS ⟨n, 0, 0, 0⟩ ta qa m id now = A) (hB : moveS ⟨n, k, later, 1000⟩ tb qb m id now = B) :
    Spec Try.prog 31 [.ptr 9011 0 0 0, .agg [.d (.v (.int .u8 m.kind)), .d (vi m.wait), .d (vi m.n)], .d (vi id), .d (vi now)]
      [(9011, some (.var [.d (.s (tb.list.map encShare)), .d (vi tb.turn), .own 9012 0 3 n, .d (vi (k : Nat)), .d (vi later), .d (vi 1000)])), (9012, some (.row 3 (qb.map encFifo)))]
      (.tup [.agg [.d (vi A.1.who), .d (.s (A.1.items.map encItem)), .d (vi A.1.e)], .d (vb true)])
      [(9011, some (.var [.d (.s (B.2.1.list.map encShare)), .d (vi B.2.1.turn), .own 9012 0 3 n, .d (vi (k : Nat)), .d (vi later), .d (vi 1000)])), (9012, some (.row 3 (B.2.2.map encFifo)))] [] := by
  subst hA; subst hB
  obtain ⟨e1, e2, e3, e4, e5, e6⟩ := move_law h hk h8 h0 h1 l0 l1 m id i0 i1 hN
  have := sp31b ⟨n, k, later, 1000⟩ tb qb m id now (by show 1 ≤ n; omega) h8 hk l0 l1 (by show (0 : Int) ≤ 1000; omega) (by show (1000 : Int) ≤ _; omega) h.rot.lb (h.fitB hk h1 l0 l1) hK hN ⟨i0, i1⟩ ⟨h0, h1⟩ (by have := h.turns.list.lb; omega)
  rw [e2, e3, e4, e5] at this
  exact this

theorem c32 {l m : List Item} (hl : l.length ≤ 100000000) (h : l = m) : Spec Try.prog 32 [.d (.s (l.map encItem)), .d (.s (m.map encItem))] [] (.d (vb true)) [] [] := by
  subst h
  have := sp32 l l hl hl
  rwa [decide_eq_true rfl] at this

theorem Rel.turn_mod (h : Rel n k later now ta tb qa qb) : (ta.turn + (k : Int)) % (n : Int) = tb.turn := by
  have := h.turns.ta0
  obtain ⟨t, ht⟩ : ∃ t : Nat, ta.turn = t := ⟨ta.turn.toNat, by omega⟩
  rw [h.turns.tb, ht, Int.toNat_natCast, ← rot_tmod, tmod_nn (by omega)]
theorem Rel.told (h : Rel n k later now ta tb qa qb) : True := trivial
end

structure Two where
  p : Nat
  now : Int
  ta : Shares
  tb : Shares
  qa : List Fifo
  qb : List Fifo

theorem len_move {n : Nat} {ta : Shares} {qa : List Fifo} {m : Mv} {id now : Int} (h : ∀ q ∈ qa, q.items.length ≤ 256) : (moveS ⟨n, 0, 0, 0⟩ ta qa m id now).1.items.length ≤ 1000 := by
  have hg : ∀ i, (qa.getD i default).items.length ≤ 256 := getD_fifo (C := fun q => q.items.length ≤ 256) h (by simp [Fifo.zero])
  unfold moveS
  split
  · simp
  · split
    · simp only [List.length_map]
      exact Nat.le_trans len_age (Nat.le_trans (hg _) (by omega))
    · split
      · simp
      · split
        · simp
        · have h2 : (takeS (qa.getD (choose ta (busyOf qa)).1.toNat default) (now + (0 : Int))).2.2.2.1.length ≤ 256 := Nat.le_trans len_drop (hg _)
          simp only
          split
          · simp
          · split
            · simp only [List.length_append, List.length_map, List.length_cons, List.length_nil]; omega
            · simp only [List.length_map]; omega


theorem getD_mem {l : List Int} {p : Nat} (h : p < l.length) : l.getD p default ∈ l := by
  rw [List.getD_eq_getElem?_getD, List.getElem?_eq_getElem h]; exact List.getElem_mem _

theorem set_bound {L : List Int} {n p : Nat} {v : Int} (hl : L.length = n) (hp : p < n) (h : ∀ j, j < p → 1 ≤ L.getD j default ∧ L.getD j default ≤ 16) (h1 : 1 ≤ v) (h2 : v ≤ 16) :
    ∀ j, j < p + 1 → 1 ≤ (L.set p v).getD j default ∧ (L.set p v).getD j default ≤ 16 := fun j hj => by
  by_cases e : p = j
  · subst e; rw [getD_set_eq (by omega)]; exact ⟨h1, h2⟩
  · rw [getD_set_ne e]; exact h j (by omega)


theorem sp5 (ws : List Int) (first later : Int) (ms : List Mv) (n : Nat) (hn : ws.length = n) (hnl : n ≤ 9223372036854775807) (hw : ∀ x ∈ ws, 0 ≤ x ∧ x ≤ 255) (hf : 0 ≤ first ∧ first ≤ 255) (hl : 0 ≤ later ∧ later ≤ 4294967295) (hms : ms.length ≤ 9223372036854775807) (hk8 : ∀ m ∈ ms, 0 ≤ m.kind ∧ m.kind ≤ 255) :
    Spec Try.prog 5 [.d (.s (ws.map encU8)), .d (.v (.int .u8 first)), .d (.v (.int .u32 later)), .d (.s (ms.map encMv))] [] (.d (vb true)) [] [] := by
  refine enter 270 [] Try.func5 rfl rfl blOk_nil rfl rfl fun X w0 E0 => ?_
  refine awp_seq ?_
  refine awp_region ?_
  refine seqP (assignT rfl) rfl ?_
  refine ops_nil ?_
  refine awp_seq ?_
  refine awp_region ?_
  refine seqP (moveT rfl) rfl ?_
  refine seqP (lenRT rfl rfl ((List.length_map ..).trans hn)) rfl ?_
  refine seqP (assignT rfl) rfl ?_
  refine ops_nil ?_
  refine awp_seq ?_
  refine awp_seq ?_
  refine awp_region ?_
  refine seqP (moveT rfl) rfl ?_
  refine seqP (intTT rfl rfl rfl) rfl ?_
  refine seqP (moveT rfl) rfl ?_
  refine seqM 2 (g := 37) (x := ?_) rfl rfl (fun Q g34 hJ => ?_) (fun Q g34 hJ => ?_) ?_
  rotate_left 1
  · -- taken
    refine seqP (moveT rfl) rfl ?_
    refine seqGy rfl rfl ?_
    refine seqP (intTT rfl rfl rfl) rfl ?_
    refine seqP (pickNT rfl rfl) rfl ?_
    refine hJ 3 _ ?_
    exact ⟨.inl rfl, .inl rfl, .inr (congrArg (fun b => AV.d (D.v (Value.bool b))) g34), rfl⟩
  · -- left
    refine seqGn rfl rfl ?_
    refine seqP (pickYT rfl rfl) rfl ?_
    refine hJ 3 _ ?_
    exact ⟨.inl rfl, .inl rfl, .inr (congrArg (fun b => AV.d (D.v (Value.bool b))) g34), rfl⟩
  refine seqP (moveT rfl) rfl ?_
  refine seqM 3 (g := 42) (x := ?_) rfl rfl (fun Q g38 hJ => ?_) (fun Q g38 hJ => ?_) ?_
  rotate_left 1
  · -- taken
    refine seqP (moveT rfl) rfl ?_
    refine seqGy rfl rfl ?_
    refine seqP (callT rfl rfl rfl (callB_of Try.func17 rfl) (sp17 ms 120 hms) trivial) rfl ?_
    refine seqGy rfl rfl ?_
    refine seqP (notT rfl) rfl ?_
    refine seqP (pickNT rfl rfl) rfl ?_
    refine hJ 4 _ ?_
    exact ⟨.inl rfl, .inl rfl, .inl rfl, .inr (congrArg (fun b => AV.d (D.v (Value.bool b))) g38), rfl⟩
  · -- left
    refine seqGn rfl rfl ?_
    refine seqGn rfl rfl ?_
    refine seqP (pickYT rfl rfl) rfl ?_
    refine hJ 4 _ ?_
    exact ⟨.inl rfl, .inl rfl, .inl rfl, .inr (congrArg (fun b => AV.d (D.v (Value.bool b))) g38), rfl⟩
  refine ops_nil ?_
  refine awp_if rfl (fun h42 => ?_) (fun h42 => ?_)
  · -- yes
    try simp only [mOr, mAnd, decide_eq_true_eq, decide_eq_false_iff_not, beq_iff_eq, beq_eq_false_iff_ne, bne_iff_ne, ne_eq, bne_eq_false_iff_eq, Bool.or_eq_true, Bool.or_eq_false_iff, Bool.and_eq_true, Bool.and_eq_false_iff, Bool.not_eq_true', Bool.not_eq_false', Int.not_lt, Int.not_le, gt_iff_lt, ge_iff_le] at h42
    refine awp_seq ?_
    refine awp_region ?_
    refine seqP (callT rfl rfl rfl (callB_of Try.func29 rfl) sp29 trivial) rfl ?_
    refine seqP (assignT rfl) rfl ?_
    refine ops_nil ?_
    refine awp_ret ?_
    refine ret_plain (resl_tmp rfl resl_nil) ?_ rfl
    rfl
  · -- no
    try simp only [mOr, mAnd, decide_eq_true_eq, decide_eq_false_iff_not, beq_iff_eq, beq_eq_false_iff_ne, bne_iff_ne, ne_eq, bne_eq_false_iff_eq, Bool.or_eq_true, Bool.or_eq_false_iff, Bool.and_eq_true, Bool.and_eq_false_iff, Bool.not_eq_true', Bool.not_eq_false', Int.not_lt, Int.not_le, gt_iff_lt, ge_iff_le] at h42
    refine awp_skip ?_
    refine awp_seq ?_
    obtain ⟨hn1, hn8, htame⟩ : 1 ≤ n ∧ n ≤ 8 ∧ tameS ms 120 = true := by
      simp at h42
      refine ⟨by omega, by omega, ?_⟩
      exact h42.2
    obtain ⟨hml, hmall⟩ := tame_all htame
    refine awp_region ?_
    refine seqP (moveT rfl) rfl ?_
    refine seqP (convT rfl rfl rfl (wrap_i64 ⟨by omega, by omega⟩)) rfl ?_
    refine seqP (moveT rfl) rfl ?_
    obtain ⟨k, hk0⟩ : ∃ k : Nat, Int.tmod first (n : Int) = (k : Nat) := ⟨(first % (n : Int)).toNat, by rw [tmod_nn hf.1]; have := Int.emod_nonneg first (show (n : Int) ≠ 0 by omega); omega⟩
    have hk : k < n := by
      have h1 := tmod_nn (b := (n : Int)) hf.1
      have h2 := Int.emod_lt_of_pos first (show (0 : Int) < n by omega)
      omega
    refine seqP (remT rfl rfl (by omega) (hk0)) rfl ?_
    refine seqP (assignT rfl) rfl ?_
    refine ops_nil ?_
    refine awp_seq ?_
    refine awp_any [0, 1, 0, 4, 3, 31] rfl ?_
    refine .step (rb := []) (wb := []) (ml := []) (moveT rfl) rfl rfl rfl rfl rfl trivial ?_
    refine .step (rb := []) (wb := [9021]) (ml := [9021]) (makeT (n' := 9021) rfl rfl rfl rfl rfl (by omega) (by omega) (by omega) (by omega) (Int.toNat_natCast n)) rfl rfl rfl rfl rfl ⟨rfl, trivial⟩ ?_
    refine .step (rb := []) (wb := []) (ml := []) (moveT rfl) rfl rfl rfl rfl rfl trivial ?_
    refine .step (rb := []) (wb := [9022]) (ml := [9022]) (makeT (n' := 9022) rfl rfl rfl rfl rfl (by omega) (by omega) (by omega) (by omega) (Int.toNat_natCast n)) rfl rfl rfl rfl rfl ⟨rfl, trivial⟩ ?_
    refine .step (rb := []) (wb := []) (ml := [9021]) (assignT rfl) rfl rfl rfl rfl rfl trivial ?_
    refine .step (rb := []) (wb := []) (ml := [9022]) (assignT rfl) rfl rfl rfl rfl rfl trivial ?_
    refine .done (by decide +kernel) ?_
    refine awp_seq ?_
    refine awp_seq ?_
    refine awp_region ?_
    refine seqP (moveT rfl) rfl ?_
    refine seqP (lenRT rfl rfl ((List.length_map ..).trans hn)) rfl ?_
    refine seqP (moveT rfl) rfl ?_
    refine ops_nil ?_
    refine awp_block ?_
    refine awp_loop (ι := Nat × List Int × List Int) (fun s => ⟨[(0, .d (.s (ws.map encU8))), (2, .d (.v (.int .u32 later))), (3, .d (.s (ms.map encMv))), (9, .d (vi (n : Nat))), (10, .d (vi (k : Nat))), (11, .own 9021 0 1 n), (12, .own 9022 0 1 n), (53, .d (vi (n : Nat))), (54, .d (vi (s.1 : Nat)))], [(9021, some (.row 1 (s.2.1.map encInt))), (9022, some (.row 1 (s.2.2.map encInt)))]⟩) (fun s => s.1 ≤ n ∧ Rot n k id s.2.1 s.2.2 ∧ ∀ j, j < s.1 → 1 ≤ s.2.1.getD j default ∧ s.2.1.getD j default ≤ 16) (fun s => n - s.1) (0, List.replicate n 0, List.replicate n 0) ⟨Nat.zero_le _, ⟨by simp, by simp, fun j hj => by simp [List.getD_eq_getElem?_getD, List.getElem?_replicate, hj, rot_lt (n := n) (k := k) (j := j) (by omega)]⟩, fun j hj => absurd hj (Nat.not_lt_zero _)⟩ (turn_sub ⟨⟨rfl, rfl, rfl, rfl, rfl, rfl, rfl, rfl, rfl, trivial⟩, ⟨(by rw [List.map_replicate]; rfl), (by rw [List.map_replicate]; rfl), trivial⟩⟩) (fun s hP => ?_)
    obtain ⟨p, L, M⟩ := s
    obtain ⟨hp, hR, hW⟩ := hP
    simp only at hp hR hW ⊢
    refine awp_seq ?_
    refine awp_region ?_
    refine seqP (intTT rfl rfl rfl) rfl ?_
    refine ops_nil ?_
    refine awp_seq ?_
    refine awp_if rfl (fun h55 => ?_) (fun h55 => ?_)
    · -- yes
      try simp only [mOr, mAnd, decide_eq_true_eq, decide_eq_false_iff_not, beq_iff_eq, beq_eq_false_iff_ne, bne_iff_ne, ne_eq, bne_eq_false_iff_eq, Bool.or_eq_true, Bool.or_eq_false_iff, Bool.and_eq_true, Bool.and_eq_false_iff, Bool.not_eq_true', Bool.not_eq_false', Int.not_lt, Int.not_le, gt_iff_lt, ge_iff_le] at h55
      refine awp_skip ?_
      refine awp_seq ?_
      refine awp_block ?_
      refine awp_seq ?_
      have hpn : p < n := by omega
      have hLl := hR.la
      have hMl := hR.lb
      have hx := hw (ws.getD p default) (getD_mem (by omega))
      refine awp_region ?_
      refine seqP (moveT rfl) rfl ?_
      refine seqP (assignT rfl) rfl ?_
      refine ops_nil ?_
      refine awp_seq ?_
      refine awp_region ?_
      refine seqP (moveT rfl) rfl ?_
      refine seqP (moveT rfl) rfl ?_
      refine seqP (moveT rfl) rfl ?_
      refine seqP (moveT rfl) rfl ?_
      refine seqP (indexRT rfl rfl rfl (by omega) (idx_getD (z := (default : Int)) (by omega)) rfl) rfl ?_
      refine seqP (loadRT rfl rfl rfl) rfl ?_
      refine seqP (convT rfl rfl rfl (wrap_i64 ⟨by omega, by omega⟩)) rfl ?_
      refine seqP (remT rfl rfl (by omega) (tmod_nn (by omega))) rfl ?_
      refine seqP (intnT rfl rfl rfl (wrap_i64 ⟨by omega, by omega⟩)) rfl ?_
      refine seqP (indexWT rfl rfl rfl (by omega) (by omega) (show 0 + ((p : Nat) : Int).toNat = p by simp)) rfl ?_
      refine seq0 (storeWT rfl rfl rfl rfl rfl (row_getD (z := default) (by omega)) rfl rfl rfl) ?_
      refine ops_nil ?_
      refine awp_any [0, 0, 0, 6, 0, 30, 0, 0, 192, 448, 1023, 2047] rfl ?_
      refine .step (rb := []) (wb := []) (ml := [9022]) (moveT rfl) rfl rfl rfl rfl rfl trivial ?_
      refine .step (rb := []) (wb := []) (ml := []) (moveT rfl) rfl rfl rfl rfl rfl trivial ?_
      refine .step (rb := []) (wb := []) (ml := []) (moveT rfl) rfl rfl rfl rfl rfl trivial ?_
      refine .step (rb := []) (wb := []) (ml := []) (intnT rfl rfl rfl (wrap_i64 ⟨by omega, by omega⟩)) rfl rfl rfl rfl rfl trivial ?_
      refine .step (rb := []) (wb := []) (ml := []) (moveT rfl) rfl rfl rfl rfl rfl trivial ?_
      refine .step (rb := []) (wb := []) (ml := []) (remT rfl rfl (by omega) (rot_tmod)) rfl rfl rfl rfl rfl trivial ?_
      refine .step (rb := []) (wb := []) (ml := [9021]) (moveT rfl) rfl rfl rfl rfl rfl trivial ?_
      refine .step (rb := []) (wb := []) (ml := []) (moveT rfl) rfl rfl rfl rfl rfl trivial ?_
      refine .step (rb := []) (wb := []) (ml := [9021]) (indexWT rfl rfl rfl (by omega) (by omega) (show 0 + ((p : Nat) : Int).toNat = p by simp)) rfl rfl rfl rfl rfl trivial ?_
      refine .step (rb := [9021]) (wb := []) (ml := []) (loadWT rfl rfl rfl (List.getElem?_set_self (by simp only [List.length_map]; omega)) rfl) rfl rfl rfl rfl rfl trivial ?_
      refine .step (rb := []) (wb := []) (ml := [9022]) (indexWT rfl rfl rfl (by omega) (by have := rot_lt (n := n) (k := k) (j := p) (by omega); omega) (show 0 + ((rot n k p : Nat) : Int).toNat = rot n k p by simp)) rfl rfl rfl rfl rfl trivial ?_
      refine .step (rb := [9022]) (wb := [9022]) (ml := []) (storeWT rfl rfl rfl rfl rfl (row_getD (z := default) (by rw [hMl]; exact rot_lt (by omega))) rfl rfl rfl) rfl rfl rfl rfl rfl ⟨rfl, trivial⟩ ?_
      refine .done (by decide +kernel) ?_
      refine awp_region ?_
      refine seqP (intnT rfl rfl rfl (wrap_succ (by omega))) rfl ?_
      refine seqP (moveT rfl) rfl ?_
      refine ops_nil ?_
      refine ⟨(p + 1, L.set p (1 + (ws.getD p default) % 16), M.set (rot n k p) (1 + (ws.getD p default) % 16)), ⟨by show p + 1 ≤ n; omega, hR.set hk hpn _, set_bound hR.la hpn hW (by omega) (by omega)⟩, (turn_sub ⟨⟨rfl, rfl, rfl, rfl, rfl, rfl, rfl, rfl, rfl, trivial⟩, ⟨(congrArg (fun r => some (Blk.row 1 r)) List.map_set.symm), (congrArg (fun r => some (Blk.row 1 r)) List.map_set.symm), trivial⟩⟩), by show n - (p + 1) < n - p; omega⟩
    · -- no
      try simp only [mOr, mAnd, decide_eq_true_eq, decide_eq_false_iff_not, beq_iff_eq, beq_eq_false_iff_ne, bne_iff_ne, ne_eq, bne_eq_false_iff_eq, Bool.or_eq_true, Bool.or_eq_false_iff, Bool.and_eq_true, Bool.and_eq_false_iff, Bool.not_eq_true', Bool.not_eq_false', Int.not_lt, Int.not_le, gt_iff_lt, ge_iff_le] at h55
      refine awp_exit ?_
      refine awp_seq ?_
      obtain rfl : p = n := by omega
      have hM := rot_all hk hR hW
      refine awp_turn (freezeT 11 9021 rfl rfl (by simp only [List.length_map, hR.la])) ?_
      refine awp_turn (freezeT 12 9022 rfl rfl (by simp only [List.length_map, hR.lb])) ?_
      refine awp_region ?_
      refine seqP (moveT rfl) rfl ?_
      refine seqP (callT rfl rfl rfl (callB_of Try.func30 rfl) (c30n hn1 hn8 hR.la hW) trivial) rfl ?_
      refine seqP (moveT rfl) rfl ?_
      refine seqP (extractT rfl rfl) rfl ?_
      refine seqP (extractT rfl rfl) rfl ?_
      refine seq1 (allocT rfl rfl) rfl rfl ?_
      refine seq0 (storeVT rfl rfl rfl rfl rfl rfl rfl) ?_
      refine seqP (assignT rfl) rfl ?_
      refine ops_nil ?_
      refine awp_seq ?_
      refine awp_region ?_
      refine seqP (moveT rfl) rfl ?_
      refine seqP (callT rfl rfl rfl (callB_of Try.func30 rfl) (c30n hn1 hn8 hR.lb hM) trivial) rfl ?_
      refine seqP (moveT rfl) rfl ?_
      refine seqP (extractT rfl rfl) rfl ?_
      refine seqP (extractT rfl rfl) rfl ?_
      refine seq1 (allocT rfl rfl) rfl rfl ?_
      refine seq0 (storeVT rfl rfl rfl rfl rfl rfl rfl) ?_
      refine seqP (assignT rfl) rfl ?_
      refine ops_nil ?_
      refine awp_seq ?_
      refine awp_seq ?_
      refine awp_region ?_
      refine seqP (moveT rfl) rfl ?_
      refine seqP (neqFT rfl rfl rfl) rfl ?_
      refine seqP (moveT rfl) rfl ?_
      refine seqGy rfl rfl ?_
      refine seqP (moveT rfl) rfl ?_
      refine seqGy rfl rfl ?_
      refine seqP (neqFT rfl rfl rfl) rfl ?_
      refine seqP (pickNT rfl rfl) rfl ?_
      refine ops_nil ?_
      refine awp_ifN rfl ?_
      refine awp_skip ?_
      refine awp_seq ?_
      refine awp_region ?_
      refine seqP (moveT rfl) rfl ?_
      refine seqP (fieldPT rfl rfl rfl) rfl ?_
      refine seq0 (storeVT rfl rfl rfl rfl rfl rfl rfl) ?_
      refine ops_nil ?_
      refine awp_seq ?_
      refine awp_any [0, 0, 2, 7, 15, 31] rfl ?_
      refine .step (rb := [14]) (wb := []) (ml := []) (loadVsT rfl rfl rfl rfl) rfl rfl rfl rfl rfl trivial ?_
      refine .step (rb := []) (wb := []) (ml := []) (moveT rfl) rfl rfl rfl rfl rfl trivial ?_
      refine .step (rb := []) (wb := [9002]) (ml := [9002]) (makeT (n' := 9002) rfl rfl rfl rfl rfl (by omega) (by omega) (by omega) (by omega) (Int.toNat_natCast p)) rfl rfl rfl rfl rfl ⟨rfl, trivial⟩ ?_
      refine .step (rb := []) (wb := []) (ml := [9002]) (buildT rfl rfl rfl rfl) rfl rfl rfl rfl rfl trivial ?_
      refine .step (rb := []) (wb := [9001]) (ml := [9001, 9002]) (boxN 9001 rfl rfl rfl) rfl rfl rfl rfl rfl ⟨rfl, trivial⟩ ?_
      refine .step (rb := []) (wb := []) (ml := [9001]) (assignT rfl) rfl rfl rfl rfl rfl trivial ?_
      refine .done (by decide +kernel) ?_
      refine awp_seq ?_
      refine awp_any [0, 0, 2, 0, 0, 16, 48, 127, 255, 511] rfl ?_
      refine .step (rb := [16]) (wb := []) (ml := []) (loadVsT rfl rfl rfl rfl) rfl rfl rfl rfl rfl trivial ?_
      refine .step (rb := []) (wb := []) (ml := []) (moveT rfl) rfl rfl rfl rfl rfl trivial ?_
      refine .step (rb := []) (wb := [9012]) (ml := [9012]) (makeT (n' := 9012) rfl rfl rfl rfl rfl (by omega) (by omega) (by omega) (by omega) (Int.toNat_natCast p)) rfl rfl rfl rfl rfl ⟨rfl, trivial⟩ ?_
      refine .step (rb := []) (wb := []) (ml := []) (moveT rfl) rfl rfl rfl rfl rfl trivial ?_
      refine .step (rb := []) (wb := []) (ml := []) (moveT rfl) rfl rfl rfl rfl rfl trivial ?_
      refine .step (rb := []) (wb := []) (ml := []) (convT rfl rfl rfl (wrap_i64 ⟨by omega, by omega⟩)) rfl rfl rfl rfl rfl trivial ?_
      obtain ⟨lt, hlt⟩ : ∃ lt : Int, Int.tmod later 1073741824 = lt := ⟨_, rfl⟩
      have hlt0 : 0 ≤ lt ∧ lt ≤ 1073741824 := by rw [tmod_nn hl.1] at hlt; omega
      refine .step (rb := []) (wb := []) (ml := []) (remT rfl rfl (by omega) hlt) rfl rfl rfl rfl rfl trivial ?_
      refine .step (rb := []) (wb := []) (ml := [9012]) (buildT rfl rfl rfl rfl) rfl rfl rfl rfl rfl trivial ?_
      refine .step (rb := []) (wb := [9011]) (ml := [9011, 9012]) (boxN 9011 rfl rfl rfl) rfl rfl rfl rfl rfl ⟨rfl, trivial⟩ ?_
      refine .step (rb := []) (wb := []) (ml := [9011]) (assignT rfl) rfl rfl rfl rfl rfl trivial ?_
      refine .done (by decide +kernel) ?_
      refine awp_seq ?_
      refine awp_region ?_
      refine seqP (assignT rfl) rfl ?_
      refine ops_nil ?_
      refine awp_seq ?_
      refine awp_seq ?_
      refine awp_region ?_
      refine seqP (moveT rfl) rfl ?_
      refine seqP (lenRT rfl rfl (List.length_map ..)) rfl ?_
      refine seqP (moveT rfl) rfl ?_
      refine ops_nil ?_
      refine awp_block ?_
      refine awp_loop (ι := Two) (fun s => ⟨[(3, .d (.s (ms.map encMv))), (9, .d (vi (p : Nat))), (10, .d (vi (k : Nat))), (18, .ptr 9001 0 0 0), (19, .ptr 9011 0 0 0), (20, .d (vi s.now)), (111, .d (.s (ms.map encMv))), (112, .d (vi (ms.length : Nat))), (113, .d (vi (s.p : Nat)))], [(9001, some (.var [.d (.s (s.ta.list.map encShare)), .d (vi s.ta.turn), .own 9002 0 3 p, .d (vi 0), .d (vi 0), .d (vi 0)])), (9002, some (.row 3 (s.qa.map encFifo))), (9011, some (.var [.d (.s (s.tb.list.map encShare)), .d (vi s.tb.turn), .own 9012 0 3 p, .d (vi (k : Nat)), .d (vi lt), .d (vi 1000)])), (9012, some (.row 3 (s.qb.map encFifo)))]⟩) (fun s => s.p ≤ ms.length ∧ 0 ≤ s.now ∧ s.now ≤ 1000000 * s.p ∧ Rel p k lt s.now s.ta s.tb s.qa s.qb) (fun s => ms.length - s.p) ⟨0, 0, ⟨mkL L, 0⟩, ⟨mkL M, (k : Nat)⟩, List.replicate p default, List.replicate p default⟩ ⟨Nat.zero_le _, Int.le_refl _, Int.le_refl _, rel_start hk hR hW⟩ (turn_sub ⟨⟨rfl, rfl, rfl, rfl, rfl, rfl, rfl, rfl, rfl, trivial⟩, ⟨rfl, (by rw [List.map_replicate]; rfl), rfl, (by rw [List.map_replicate]; rfl), trivial⟩⟩) (fun s hP => ?_)
      obtain ⟨i, now, ta, tb, qa, qb⟩ := s
      obtain ⟨hi, hnow0, hnow1, hRel⟩ := hP
      simp only at hi hnow0 hnow1 hRel ⊢
      refine awp_seq ?_
      refine awp_region ?_
      refine seqP (intTT rfl rfl rfl) rfl ?_
      refine ops_nil ?_
      refine awp_seq ?_
      refine awp_if rfl (fun h114 => ?_) (fun h114 => ?_)
      · -- yes
        try simp only [mOr, mAnd, decide_eq_true_eq, decide_eq_false_iff_not, beq_iff_eq, beq_eq_false_iff_ne, bne_iff_ne, ne_eq, bne_eq_false_iff_eq, Bool.or_eq_true, Bool.or_eq_false_iff, Bool.and_eq_true, Bool.and_eq_false_iff, Bool.not_eq_true', Bool.not_eq_false', Int.not_lt, Int.not_le, gt_iff_lt, ge_iff_le] at h114
        refine awp_skip ?_
        refine awp_seq ?_
        refine awp_block ?_
        refine awp_seq ?_
        obtain ⟨m, hm⟩ : ∃ m, ms[i]? = some m := ⟨_, List.getElem?_eq_getElem (by omega)⟩
        have hmm := List.mem_of_getElem? hm
        have hmw := hmall m hmm
        have hmk := hk8 m hmm
        have hRel2 := hRel.later (show now ≤ now + m.wait by omega)
        have hnw : 0 ≤ now + m.wait ∧ now + m.wait ≤ 120000000 := by omega
        obtain ⟨A, hA⟩ : ∃ A, moveS ⟨p, 0, 0, 0⟩ ta qa m (i : Nat) (now + m.wait) = A := ⟨_, rfl⟩
        obtain ⟨B, hB⟩ : ∃ B, moveS ⟨p, k, lt, 1000⟩ tb qb m (i : Nat) (now + m.wait) = B := ⟨_, rfl⟩
        have hRel3 : Rel p k lt (now + m.wait) A.2.1 B.2.1 A.2.2 B.2.2 := by
          rw [← hA, ← hB]
          exact (move_law hRel2 hk hn8 hnw.1 (by omega) hlt0.1 hlt0.2 m (i : Nat) (by omega) (by omega) hmw.2.2).2.2.2.2.2
        have hAl : A.1.items.length ≤ 1000 := by rw [← hA]; exact len_move fun q hq => (hRel.ok q hq).len
        have hT0 := hRel3.turns.ta0
        have hT1 := hRel3.turns.ta1
        refine awp_region ?_
        refine seqP (moveT rfl) rfl ?_
        refine seqP (indexRT rfl rfl rfl (by omega) (idx_map hm) rfl) rfl ?_
        refine seqP (loadRsT rfl rfl rfl rfl rfl) rfl ?_
        refine seq1 (allocT rfl rfl) rfl rfl ?_
        refine seqP (assignT rfl) rfl ?_
        refine seq0 (storeVT rfl rfl rfl rfl rfl rfl rfl) ?_
        refine ops_nil ?_
        refine awp_seq ?_
        refine awp_region ?_
        refine seqP (moveT rfl) rfl ?_
        refine seqP (fieldPT rfl rfl rfl) rfl ?_
        refine seqP (loadVT rfl rfl rfl rfl) rfl ?_
        refine seqP (intnT rfl rfl rfl (wrap_i64 ⟨by omega, by omega⟩)) rfl ?_
        refine seqP (assignT rfl) rfl ?_
        refine ops_nil ?_
        refine awp_seq ?_
        refine awp_region ?_
        refine seqP (moveT rfl) rfl ?_
        refine seqP (loadVsT rfl rfl rfl rfl) rfl ?_
        refine seqP (moveT rfl) rfl ?_
        refine seqP (moveT rfl) rfl ?_
        refine seq2 (callT rfl rfl rfl (callB_of Try.func31 rfl) (c31a hRel2 hk hn8 hnw.1 (by omega) hlt0.1 hlt0.2 m (i : Nat) (by omega) (by omega) hmw.2.2 hmk.1 hA) ⟨rfl, rfl, trivial⟩) rfl rfl ?_
        refine seqP (moveT rfl) rfl ?_
        refine seqP (extractT rfl rfl) rfl ?_
        refine seqP (extractT rfl rfl) rfl ?_
        refine seq1 (allocT rfl rfl) rfl rfl ?_
        refine seq0 (storeVT rfl rfl rfl rfl rfl rfl rfl) ?_
        refine seqP (assignT rfl) rfl ?_
        refine ops_nil ?_
        refine awp_seq ?_
        refine awp_region ?_
        refine seqP (moveT rfl) rfl ?_
        refine seqP (loadVsT rfl rfl rfl rfl) rfl ?_
        refine seqP (moveT rfl) rfl ?_
        refine seqP (moveT rfl) rfl ?_
        refine seq2 (callT rfl rfl rfl (callB_of Try.func31 rfl) (c31b hRel2 hk hn8 hnw.1 (by omega) hlt0.1 hlt0.2 m (i : Nat) (by omega) (by omega) hmw.2.2 hmk.1 hA hB) ⟨rfl, rfl, trivial⟩) rfl rfl ?_
        refine seqP (moveT rfl) rfl ?_
        refine seqP (extractT rfl rfl) rfl ?_
        refine seqP (extractT rfl rfl) rfl ?_
        refine seq1 (allocT rfl rfl) rfl rfl ?_
        refine seq0 (storeVT rfl rfl rfl rfl rfl rfl rfl) ?_
        refine seqP (assignT rfl) rfl ?_
        refine ops_nil ?_
        refine awp_seq ?_
        refine awp_seq ?_
        refine awp_any [0, 1, 3, 7, 15, 31, 63, 127, 255, 127, 639, 2047, 4095, 8191, 16383, 32767, 16383, 81919, 262143, 524287, 1048575, 2097151, 4194303, 2097151, 10485759, 33554431, 67108863, 134217727, 268435455, 536870911, 1073741823, 2147483647, 4294967295, 8589934591, 536870911, 34359738367, 536870911, 137438953471, 536870911, 275414777855, 825170591743, 1924682219519, 4123705475071, 8796093022207, 17592186044415] rfl ?_
        refine .step (rb := []) (wb := []) (ml := []) (moveT rfl) rfl rfl rfl rfl rfl trivial ?_
        refine .step (rb := []) (wb := []) (ml := []) (notYT rfl) rfl rfl rfl rfl rfl trivial ?_
        refine .step (rb := []) (wb := []) (ml := []) (moveT rfl) rfl rfl rfl rfl rfl trivial ?_
        refine .step (rb := []) (wb := []) (ml := []) (moveT rfl) ⟨_, rfl, rfl⟩ rfl rfl rfl rfl trivial ?_
        refine .step (rb := []) (wb := []) (ml := []) (notYT rfl) ⟨_, rfl, rfl⟩ rfl rfl rfl rfl trivial ?_
        refine .step (rb := []) (wb := []) (ml := []) (pickNT rfl rfl) rfl rfl rfl rfl rfl trivial ?_
        refine .step (rb := []) (wb := []) (ml := []) (moveT rfl) rfl rfl rfl rfl rfl trivial ?_
        refine .step (rb := []) (wb := []) (ml := [23]) (fieldPT rfl rfl rfl) ⟨_, rfl, rfl⟩ rfl rfl rfl rfl trivial ?_
        refine .step (rb := [23]) (wb := []) (ml := []) (loadVT rfl rfl rfl rfl) ⟨_, rfl, rfl⟩ rfl rfl rfl rfl trivial ?_
        refine .step (rb := []) (wb := []) (ml := [25]) (fieldPT rfl rfl rfl) ⟨_, rfl, rfl⟩ rfl rfl rfl rfl trivial ?_
        refine .step (rb := [25]) (wb := []) (ml := []) (loadVT rfl rfl rfl rfl) ⟨_, rfl, rfl⟩ rfl rfl rfl rfl trivial ?_
        refine .step (rb := []) (wb := []) (ml := []) (neqFT rfl rfl rfl) ⟨_, rfl, rfl⟩ rfl rfl rfl rfl trivial ?_
        refine .step (rb := []) (wb := []) (ml := []) (pickNT rfl rfl) rfl rfl rfl rfl rfl trivial ?_
        refine .step (rb := []) (wb := []) (ml := []) (moveT rfl) rfl rfl rfl rfl rfl trivial ?_
        refine .step (rb := []) (wb := []) (ml := [23]) (fieldPT rfl rfl rfl) ⟨_, rfl, rfl⟩ rfl rfl rfl rfl trivial ?_
        refine .step (rb := [23]) (wb := []) (ml := []) (loadVT rfl rfl rfl rfl) ⟨_, rfl, rfl⟩ rfl rfl rfl rfl trivial ?_
        refine .step (rb := []) (wb := []) (ml := [25]) (fieldPT rfl rfl rfl) ⟨_, rfl, rfl⟩ rfl rfl rfl rfl trivial ?_
        refine .step (rb := [25]) (wb := []) (ml := []) (loadVT rfl rfl rfl rfl) ⟨_, rfl, rfl⟩ rfl rfl rfl rfl trivial ?_
        refine .step (rb := []) (wb := []) (ml := []) (neqFT rfl rfl rfl) ⟨_, rfl, rfl⟩ rfl rfl rfl rfl trivial ?_
        refine .step (rb := []) (wb := []) (ml := []) (pickNT rfl rfl) rfl rfl rfl rfl rfl trivial ?_
        refine .step (rb := []) (wb := []) (ml := []) (moveT rfl) rfl rfl rfl rfl rfl trivial ?_
        refine .step (rb := []) (wb := []) (ml := [23]) (fieldPT rfl rfl rfl) ⟨_, rfl, rfl⟩ rfl rfl rfl rfl trivial ?_
        refine .step (rb := [23]) (wb := []) (ml := []) (loadVT rfl rfl rfl rfl) ⟨_, rfl, rfl⟩ rfl rfl rfl rfl trivial ?_
        refine .step (rb := []) (wb := []) (ml := [25]) (fieldPT rfl rfl rfl) ⟨_, rfl, rfl⟩ rfl rfl rfl rfl trivial ?_
        refine .step (rb := [25]) (wb := []) (ml := []) (loadVT rfl rfl rfl rfl) ⟨_, rfl, rfl⟩ rfl rfl rfl rfl trivial ?_
        refine .step (rb := []) (wb := []) (ml := []) (callT rfl rfl rfl (callB_of Try.func32 rfl) (c32 (by omega) rfl) trivial) ⟨_, rfl, rfl⟩ rfl rfl rfl rfl trivial ?_
        refine .step (rb := []) (wb := []) (ml := []) (notYT rfl) ⟨_, rfl, rfl⟩ rfl rfl rfl rfl trivial ?_
        refine .step (rb := []) (wb := []) (ml := []) (pickNT rfl rfl) rfl rfl rfl rfl rfl trivial ?_
        refine .step (rb := []) (wb := []) (ml := []) (moveT rfl) rfl rfl rfl rfl rfl trivial ?_
        refine .step (rb := []) (wb := []) (ml := [9001]) (moveT rfl) ⟨_, rfl, rfl⟩ rfl rfl rfl rfl trivial ?_
        refine .step (rb := []) (wb := []) (ml := [9001]) (nilPT rfl) ⟨_, rfl, rfl⟩ rfl rfl rfl rfl trivial ?_
        refine .step (rb := []) (wb := []) (ml := [9001]) (fieldPT rfl rfl rfl) ⟨_, rfl, rfl⟩ rfl rfl rfl rfl trivial ?_
        refine .step (rb := []) (wb := []) (ml := [9001]) (fieldPT rfl rfl rfl) ⟨_, rfl, rfl⟩ rfl rfl rfl rfl trivial ?_
        refine .step (rb := [9001]) (wb := []) (ml := []) (loadVT rfl rfl rfl rfl) ⟨_, rfl, rfl⟩ rfl rfl rfl rfl trivial ?_
        refine .step (rb := []) (wb := []) (ml := []) (moveT rfl) ⟨_, rfl, rfl⟩ rfl rfl rfl rfl trivial ?_
        refine .step (rb := []) (wb := []) (ml := []) (intnT rfl rfl rfl (wrap_i64 ⟨by omega, by omega⟩)) ⟨_, rfl, rfl⟩ rfl rfl rfl rfl trivial ?_
        refine .step (rb := []) (wb := []) (ml := []) (moveT rfl) ⟨_, rfl, rfl⟩ rfl rfl rfl rfl trivial ?_
        refine .step (rb := []) (wb := []) (ml := []) (remT rfl rfl (by omega) (tmod_nn (by omega))) ⟨_, rfl, rfl⟩ rfl rfl rfl rfl trivial ?_
        refine .step (rb := []) (wb := []) (ml := [9011]) (moveT rfl) ⟨_, rfl, rfl⟩ rfl rfl rfl rfl trivial ?_
        refine .step (rb := []) (wb := []) (ml := [9011]) (nilPT rfl) ⟨_, rfl, rfl⟩ rfl rfl rfl rfl trivial ?_
        refine .step (rb := []) (wb := []) (ml := [9011]) (fieldPT rfl rfl rfl) ⟨_, rfl, rfl⟩ rfl rfl rfl rfl trivial ?_
        refine .step (rb := []) (wb := []) (ml := [9011]) (fieldPT rfl rfl rfl) ⟨_, rfl, rfl⟩ rfl rfl rfl rfl trivial ?_
        refine .step (rb := [9011]) (wb := []) (ml := []) (loadVT rfl rfl rfl rfl) ⟨_, rfl, rfl⟩ rfl rfl rfl rfl trivial ?_
        refine .step (rb := []) (wb := []) (ml := []) (neqFT rfl rfl hRel3.turn_mod) ⟨_, rfl, rfl⟩ rfl rfl rfl rfl trivial ?_
        refine .step (rb := []) (wb := []) (ml := []) (pickNT rfl rfl) rfl rfl rfl rfl rfl trivial ?_
        refine .done (by decide +kernel) ?_
        refine awp_ifN rfl ?_
        refine awp_skip ?_
        refine awp_seq ?_
        refine awp_region ?_
        refine seqP (moveT rfl) rfl ?_
        refine seqP (nilPT rfl) rfl ?_
        refine seqP (fieldPT rfl rfl rfl) rfl ?_
        refine seqP (loadVT rfl rfl rfl rfl) rfl ?_
        refine seqP (lenWT rfl rfl) rfl ?_
        refine seqP (moveT rfl) rfl ?_
        refine ops_nil ?_
        refine awp_block ?_
        refine awp_loop (ι := Nat) (fun j => ⟨[(3, .d (.s (ms.map encMv))), (9, .d (vi (p : Nat))), (10, .d (vi (k : Nat))), (18, .ptr 9001 0 0 0), (19, .ptr 9011 0 0 0), (20, .d (vi (now + m.wait))), (111, .d (.s (ms.map encMv))), (112, .d (vi (ms.length : Nat))), (113, .d (vi (i : Nat))), (187, .d (vi (p : Nat))), (188, .d (vi (j : Nat)))], [(9001, some (.var [.d (.s (A.2.1.list.map encShare)), .d (vi A.2.1.turn), .own 9002 0 3 p, .d (vi 0), .d (vi 0), .d (vi 0)])), (9002, some (.row 3 (A.2.2.map encFifo))), (9011, some (.var [.d (.s (B.2.1.list.map encShare)), .d (vi B.2.1.turn), .own 9012 0 3 p, .d (vi (k : Nat)), .d (vi lt), .d (vi 1000)])), (9012, some (.row 3 (B.2.2.map encFifo)))]⟩) (fun j => j ≤ p) (fun j => p - j) 0 (Nat.zero_le _) (turn_sub ⟨⟨rfl, rfl, rfl, rfl, rfl, rfl, rfl, rfl, rfl, rfl, rfl, trivial⟩, ⟨rfl, rfl, rfl, rfl, trivial⟩⟩) (fun j hP => ?_)
        refine awp_seq ?_
        refine awp_region ?_
        refine seqP (intTT rfl rfl rfl) rfl ?_
        refine ops_nil ?_
        refine awp_seq ?_
        refine awp_if rfl (fun h189 => ?_) (fun h189 => ?_)
        · -- yes
          try simp only [mOr, mAnd, decide_eq_true_eq, decide_eq_false_iff_not, beq_iff_eq, beq_eq_false_iff_ne, bne_iff_ne, ne_eq, bne_eq_false_iff_eq, Bool.or_eq_true, Bool.or_eq_false_iff, Bool.and_eq_true, Bool.and_eq_false_iff, Bool.not_eq_true', Bool.not_eq_false', Int.not_lt, Int.not_le, gt_iff_lt, ge_iff_le] at h189
          refine awp_skip ?_
          refine awp_seq ?_
          refine awp_block ?_
          refine awp_seq ?_
          have hj : j < p := by omega
          obtain ⟨q, hq⟩ : ∃ q, A.2.2.getD j default = q := ⟨_, rfl⟩
          have hqo : QOk (now + m.wait) q := hq ▸ hRel3.get hj
          have hqb : B.2.2.getD (rot p k j) default = shQ lt q := hq ▸ hRel3.rot.at_ j hj
          have hsh : B.2.1.list.getD (rot p k j) default = A.2.1.list.getD j default := hRel3.turns.list.at_ j hj
          have hql := hqo.len
          have hu0 := hqo.u0
          have hu1 := hqo.u1
          have hal := hRel3.rot.la
          have hbl := hRel3.rot.lb
          have hcl := hRel3.turns.list.la
          have hdl := hRel3.turns.list.lb
          have hrl := rot_lt (n := p) (k := k) (j := j) (by omega)
          refine awp_region ?_
          refine seqP (moveT rfl) rfl ?_
          refine seqP (assignT rfl) rfl ?_
          refine ops_nil ?_
          refine awp_seq ?_
          refine awp_any [0, 1, 3, 7, 0, 31, 63, 0, 128, 384, 896, 0, 0, 6144, 0, 30720, 65408, 130944, 0, 0, 786559, 2097151] rfl ?_
          refine .step (rb := []) (wb := []) (ml := [9001]) (moveT rfl) rfl rfl rfl rfl rfl trivial ?_
          refine .step (rb := []) (wb := []) (ml := [9001]) (nilPT rfl) rfl rfl rfl rfl rfl trivial ?_
          refine .step (rb := []) (wb := []) (ml := [9001]) (fieldPT rfl rfl rfl) rfl rfl rfl rfl rfl trivial ?_
          refine .step (rb := [9001]) (wb := []) (ml := [9002]) (loadVT rfl rfl rfl rfl) rfl rfl rfl rfl rfl trivial ?_
          refine .step (rb := []) (wb := []) (ml := []) (moveT rfl) rfl rfl rfl rfl rfl trivial ?_
          refine .step (rb := []) (wb := []) (ml := [9002]) (indexWT rfl rfl rfl (by omega) (by omega) (show 0 + ((j : Nat) : Int).toNat = j by simp)) rfl rfl rfl rfl rfl trivial ?_
          refine .step (rb := [9002]) (wb := []) (ml := []) (loadWsT rfl rfl rfl (show _ = some (encFifo q) from hq ▸ row_getD (z := default) (by omega)) rfl rfl rfl) rfl rfl rfl rfl rfl trivial ?_
          refine .step (rb := []) (wb := []) (ml := [9011]) (moveT rfl) rfl rfl rfl rfl rfl trivial ?_
          refine .step (rb := []) (wb := []) (ml := [9011]) (nilPT rfl) rfl rfl rfl rfl rfl trivial ?_
          refine .step (rb := []) (wb := []) (ml := [9011]) (fieldPT rfl rfl rfl) rfl rfl rfl rfl rfl trivial ?_
          refine .step (rb := [9011]) (wb := []) (ml := [9012]) (loadVT rfl rfl rfl rfl) rfl rfl rfl rfl rfl trivial ?_
          refine .step (rb := []) (wb := []) (ml := []) (moveT rfl) rfl rfl rfl rfl rfl trivial ?_
          refine .step (rb := []) (wb := []) (ml := []) (moveT rfl) rfl rfl rfl rfl rfl trivial ?_
          refine .step (rb := []) (wb := []) (ml := []) (intnT rfl rfl rfl (wrap_i64 ⟨by omega, by omega⟩)) rfl rfl rfl rfl rfl trivial ?_
          refine .step (rb := []) (wb := []) (ml := []) (moveT rfl) rfl rfl rfl rfl rfl trivial ?_
          refine .step (rb := []) (wb := []) (ml := []) (remT rfl rfl (by omega) (rot_tmod)) rfl rfl rfl rfl rfl trivial ?_
          refine .step (rb := []) (wb := []) (ml := [9012]) (indexWT rfl rfl rfl (by omega) (by omega) (show 0 + ((rot p k j : Nat) : Int).toNat = rot p k j by simp)) rfl rfl rfl rfl rfl trivial ?_
          refine .step (rb := [9012]) (wb := []) (ml := []) (loadWsT rfl rfl rfl (show _ = some [.s ((q.items.map (shI lt)).map encItem), vi (if q.until_ > 0 then q.until_ + lt else q.until_), vi q.runs] from (row_getD (z := default) (by omega)).trans (congrArg (fun x => some (encFifo x)) hqb)) rfl rfl rfl) rfl rfl rfl rfl rfl trivial ?_
          refine .step (rb := []) (wb := [28]) (ml := [28]) (allocT rfl rfl) rfl rfl rfl rfl rfl ⟨rfl, trivial⟩ ?_
          refine .step (rb := []) (wb := [29]) (ml := [29]) (allocT rfl rfl) rfl rfl rfl rfl rfl ⟨rfl, trivial⟩ ?_
          refine .step (rb := [28]) (wb := [28]) (ml := []) (storeVT rfl rfl rfl rfl rfl rfl rfl) rfl rfl rfl rfl rfl ⟨rfl, trivial⟩ ?_
          refine .step (rb := [29]) (wb := [29]) (ml := []) (storeVT rfl rfl rfl rfl rfl rfl rfl) rfl rfl rfl rfl rfl ⟨rfl, trivial⟩ ?_
          refine .done (by decide +kernel) ?_
          refine awp_seq ?_
          refine awp_seq ?_
          refine awp_region ?_
          refine seqP (fieldPT rfl rfl rfl) rfl ?_
          refine seqP (loadVT rfl rfl rfl rfl) rfl ?_
          refine seqP (intTT rfl rfl rfl) rfl ?_
          refine ops_nil ?_
          refine awp_if rfl (fun h211 => ?_) (fun h211 => ?_)
          · -- yes
            have hup : q.until_ > 0 := by
              simp only [decide_eq_true_eq] at h211
              by_cases h : q.until_ > 0
              · exact h
              · rw [if_neg h] at h211; exact absurd h211 h
            refine awp_any [0, 1, 0, 4, 12, 28, 63, 127, 255] rfl ?_
            refine .step (rb := []) (wb := []) (ml := [29]) (fieldPT rfl rfl rfl) rfl rfl rfl rfl rfl trivial ?_
            refine .step (rb := [29]) (wb := []) (ml := []) (loadVT rfl rfl rfl rfl) rfl rfl rfl rfl rfl trivial ?_
            refine .step (rb := []) (wb := []) (ml := [9011]) (moveT rfl) rfl rfl rfl rfl rfl trivial ?_
            refine .step (rb := []) (wb := []) (ml := [9011]) (nilPT rfl) rfl rfl rfl rfl rfl trivial ?_
            refine .step (rb := []) (wb := []) (ml := [9011]) (fieldPT rfl rfl rfl) rfl rfl rfl rfl rfl trivial ?_
            refine .step (rb := [9011]) (wb := []) (ml := []) (loadVT rfl rfl rfl rfl) rfl rfl rfl rfl rfl trivial ?_
            refine .step (rb := []) (wb := []) (ml := []) (intnT rfl rfl rfl (show _ = q.until_ by rw [if_pos hup, wrap_i64 ⟨by omega, by omega⟩]; omega)) rfl rfl rfl rfl rfl trivial ?_
            refine .step (rb := []) (wb := []) (ml := [29]) (fieldPT rfl rfl rfl) rfl rfl rfl rfl rfl trivial ?_
            refine .step (rb := [29]) (wb := [29]) (ml := []) (storeVT rfl rfl rfl rfl rfl rfl rfl) rfl rfl rfl rfl rfl ⟨rfl, trivial⟩ ?_
            refine .done (by decide +kernel) ?_
            refine awp_seq ?_
            refine awp_any [0, 1, 0, 4, 15, 31, 63, 127, 63, 319, 1023, 2047, 4095, 8191, 8191, 24575, 65535, 8191, 8191, 270335, 1048575, 2097151, 4194303, 8388607, 16777215, 33554431, 67108863, 134217727, 268435455, 536870911, 33554431, 2147483647, 4294967295, 33554431, 8623489023, 25803358207, 60163096575, 128882573311, 33554431, 33554431, 824667275263, 33554431, 4123202158591, 8787536642047, 17583629664255, 35184372088831, 70368744177663] rfl ?_
            refine .step (rb := []) (wb := []) (ml := [28]) (fieldPT rfl rfl rfl) rfl rfl rfl rfl rfl trivial ?_
            refine .step (rb := [28]) (wb := []) (ml := []) (loadVT rfl rfl rfl rfl) rfl rfl rfl rfl rfl trivial ?_
            refine .step (rb := []) (wb := []) (ml := [29]) (fieldPT rfl rfl rfl) rfl rfl rfl rfl rfl trivial ?_
            refine .step (rb := [29]) (wb := []) (ml := []) (loadVT rfl rfl rfl rfl) rfl rfl rfl rfl rfl trivial ?_
            refine .step (rb := []) (wb := []) (ml := []) (neqFT rfl rfl rfl) rfl rfl rfl rfl rfl trivial ?_
            refine .step (rb := []) (wb := []) (ml := []) (moveT rfl) rfl rfl rfl rfl rfl trivial ?_
            refine .step (rb := []) (wb := []) (ml := [28]) (fieldPT rfl rfl rfl) ⟨_, rfl, rfl⟩ rfl rfl rfl rfl trivial ?_
            refine .step (rb := [28]) (wb := []) (ml := []) (loadVT rfl rfl rfl rfl) ⟨_, rfl, rfl⟩ rfl rfl rfl rfl trivial ?_
            refine .step (rb := []) (wb := []) (ml := [29]) (fieldPT rfl rfl rfl) ⟨_, rfl, rfl⟩ rfl rfl rfl rfl trivial ?_
            refine .step (rb := [29]) (wb := []) (ml := []) (loadVT rfl rfl rfl rfl) ⟨_, rfl, rfl⟩ rfl rfl rfl rfl trivial ?_
            refine .step (rb := []) (wb := []) (ml := []) (neqFT rfl rfl rfl) ⟨_, rfl, rfl⟩ rfl rfl rfl rfl trivial ?_
            refine .step (rb := []) (wb := []) (ml := []) (pickNT rfl rfl) rfl rfl rfl rfl rfl trivial ?_
            refine .step (rb := []) (wb := []) (ml := []) (moveT rfl) rfl rfl rfl rfl rfl trivial ?_
            refine .step (rb := []) (wb := []) (ml := [9001]) (moveT rfl) ⟨_, rfl, rfl⟩ rfl rfl rfl rfl trivial ?_
            refine .step (rb := []) (wb := []) (ml := [28]) (fieldPT rfl rfl rfl) ⟨_, rfl, rfl⟩ rfl rfl rfl rfl trivial ?_
            refine .step (rb := [28]) (wb := []) (ml := []) (loadVT rfl rfl rfl rfl) ⟨_, rfl, rfl⟩ rfl rfl rfl rfl trivial ?_
            refine .step (rb := [9001, 9002]) (wb := []) (ml := []) (callT rfl rfl rfl (callB_of Try.func33 rfl) (sp33d _ _ _ _ 0 0 p q.items (by omega) (by omega) (by omega) (by omega) (by omega) (fun x hx => by have h2 := hqo.items x hx; have h3 := itemsOk_at hqo.sorted x hx; omega)) ⟨rfl, rfl, trivial⟩) ⟨_, rfl, rfl⟩ rfl rfl rfl rfl trivial ?_
            refine .step (rb := []) (wb := []) (ml := [9011]) (moveT rfl) ⟨_, rfl, rfl⟩ rfl rfl rfl rfl trivial ?_
            refine .step (rb := []) (wb := []) (ml := [29]) (fieldPT rfl rfl rfl) ⟨_, rfl, rfl⟩ rfl rfl rfl rfl trivial ?_
            refine .step (rb := [29]) (wb := []) (ml := []) (loadVT rfl rfl rfl rfl) ⟨_, rfl, rfl⟩ rfl rfl rfl rfl trivial ?_
            refine .step (rb := [9011, 9012]) (wb := []) (ml := []) (callT rfl rfl rfl (callB_of Try.func33 rfl) (sp33e _ _ _ _ lt 1000 p (q.items.map (shI lt)) (by simp only [List.length_map]; omega) (by omega) (by omega) (by omega) (by omega) (fun x hx => by obtain ⟨y, hy, rfl⟩ := List.mem_map.1 hx; have h2 := hqo.items y hy; have h3 := itemsOk_at hqo.sorted y hy; show _ ≤ y.id + 1000 ∧ y.id + 1000 ≤ _ ∧ 0 ≤ y.at_ + lt ∧ y.at_ + lt ≤ _; omega)) ⟨rfl, rfl, trivial⟩) ⟨_, rfl, rfl⟩ rfl rfl rfl rfl trivial ?_
            refine .step (rb := []) (wb := []) (ml := []) (callT rfl rfl rfl (callB_of Try.func32 rfl) (c32 (by simp only [List.length_map]; omega) (by rw [map_back_zero, map_back_sh])) trivial) ⟨_, rfl, rfl⟩ rfl rfl rfl rfl trivial ?_
            refine .step (rb := []) (wb := []) (ml := []) (notYT rfl) ⟨_, rfl, rfl⟩ rfl rfl rfl rfl trivial ?_
            refine .step (rb := []) (wb := []) (ml := []) (pickNT rfl rfl) rfl rfl rfl rfl rfl trivial ?_
            refine .step (rb := []) (wb := []) (ml := []) (moveT rfl) rfl rfl rfl rfl rfl trivial ?_
            refine .step (rb := []) (wb := []) (ml := [9001]) (moveT rfl) ⟨_, rfl, rfl⟩ rfl rfl rfl rfl trivial ?_
            refine .step (rb := []) (wb := []) (ml := [9001]) (nilPT rfl) ⟨_, rfl, rfl⟩ rfl rfl rfl rfl trivial ?_
            refine .step (rb := []) (wb := []) (ml := [9001]) (fieldPT rfl rfl rfl) ⟨_, rfl, rfl⟩ rfl rfl rfl rfl trivial ?_
            refine .step (rb := []) (wb := []) (ml := [9001]) (fieldPT rfl rfl rfl) ⟨_, rfl, rfl⟩ rfl rfl rfl rfl trivial ?_
            refine .step (rb := [9001]) (wb := []) (ml := []) (loadVT rfl rfl rfl rfl) ⟨_, rfl, rfl⟩ rfl rfl rfl rfl trivial ?_
            refine .step (rb := []) (wb := []) (ml := []) (moveT rfl) ⟨_, rfl, rfl⟩ rfl rfl rfl rfl trivial ?_
            refine .step (rb := []) (wb := []) (ml := []) (indexRT rfl rfl rfl (by omega) (idx_getD (z := default) (by omega)) rfl) ⟨_, rfl, rfl⟩ rfl rfl rfl rfl trivial ?_
            refine .step (rb := []) (wb := []) (ml := []) (loadRsT rfl rfl rfl rfl rfl) ⟨_, rfl, rfl⟩ rfl rfl rfl rfl trivial ?_
            refine .step (rb := []) (wb := []) (ml := [9011]) (moveT rfl) ⟨_, rfl, rfl⟩ rfl rfl rfl rfl trivial ?_
            refine .step (rb := []) (wb := []) (ml := [9011]) (nilPT rfl) ⟨_, rfl, rfl⟩ rfl rfl rfl rfl trivial ?_
            refine .step (rb := []) (wb := []) (ml := [9011]) (fieldPT rfl rfl rfl) ⟨_, rfl, rfl⟩ rfl rfl rfl rfl trivial ?_
            refine .step (rb := []) (wb := []) (ml := [9011]) (fieldPT rfl rfl rfl) ⟨_, rfl, rfl⟩ rfl rfl rfl rfl trivial ?_
            refine .step (rb := [9011]) (wb := []) (ml := []) (loadVT rfl rfl rfl rfl) ⟨_, rfl, rfl⟩ rfl rfl rfl rfl trivial ?_
            refine .step (rb := []) (wb := []) (ml := []) (moveT rfl) ⟨_, rfl, rfl⟩ rfl rfl rfl rfl trivial ?_
            refine .step (rb := []) (wb := []) (ml := []) (moveT rfl) ⟨_, rfl, rfl⟩ rfl rfl rfl rfl trivial ?_
            refine .step (rb := []) (wb := []) (ml := []) (intnT rfl rfl rfl (wrap_i64 ⟨by omega, by omega⟩)) ⟨_, rfl, rfl⟩ rfl rfl rfl rfl trivial ?_
            refine .step (rb := []) (wb := []) (ml := []) (moveT rfl) ⟨_, rfl, rfl⟩ rfl rfl rfl rfl trivial ?_
            refine .step (rb := []) (wb := []) (ml := []) (remT rfl rfl (by omega) (rot_tmod)) ⟨_, rfl, rfl⟩ rfl rfl rfl rfl trivial ?_
            refine .step (rb := []) (wb := []) (ml := []) (indexRT rfl rfl rfl (by omega) (idx_getD (z := default) (by omega)) rfl) ⟨_, rfl, rfl⟩ rfl rfl rfl rfl trivial ?_
            refine .step (rb := []) (wb := []) (ml := []) (loadRsT rfl rfl rfl rfl rfl) ⟨_, rfl, rfl⟩ rfl rfl rfl rfl trivial ?_
            refine .step (rb := []) (wb := []) (ml := []) (neqSFT flat112 size112 rfl rfl rfl rfl rfl (by rw [hsh])) ⟨_, rfl, rfl⟩ rfl rfl rfl rfl trivial ?_
            refine .step (rb := []) (wb := []) (ml := []) (pickNT rfl rfl) rfl rfl rfl rfl rfl trivial ?_
            refine .done (by decide +kernel) ?_
            refine awp_ifN rfl ?_
            refine awp_skip ?_
            refine awp_region ?_
            refine seqP (intnT rfl rfl rfl (wrap_succ (by omega))) rfl ?_
            refine seqP (moveT rfl) rfl ?_
            refine ops_nil ?_
            refine ⟨(j + 1), (by show j + 1 ≤ p; omega), (turn_sub ⟨⟨rfl, rfl, rfl, rfl, rfl, rfl, rfl, rfl, rfl, rfl, rfl, trivial⟩, ⟨rfl, rfl, rfl, rfl, trivial⟩⟩), by show p - (j + 1) < p - j; omega⟩
          · -- no
            have hup : ¬ q.until_ > 0 := by
              simp only [decide_eq_false_iff_not] at h211
              intro h
              rw [if_pos h] at h211; omega
            simp only [if_neg hup]
            refine awp_skip ?_
            refine awp_seq ?_
            refine awp_any [0, 1, 0, 4, 15, 31, 63, 127, 63, 319, 1023, 2047, 4095, 8191, 8191, 24575, 65535, 8191, 8191, 270335, 1048575, 2097151, 4194303, 8388607, 16777215, 33554431, 67108863, 134217727, 268435455, 536870911, 33554431, 2147483647, 4294967295, 33554431, 8623489023, 25803358207, 60163096575, 128882573311, 33554431, 33554431, 824667275263, 33554431, 4123202158591, 8787536642047, 17583629664255, 35184372088831, 70368744177663] rfl ?_
            refine .step (rb := []) (wb := []) (ml := [28]) (fieldPT rfl rfl rfl) rfl rfl rfl rfl rfl trivial ?_
            refine .step (rb := [28]) (wb := []) (ml := []) (loadVT rfl rfl rfl rfl) rfl rfl rfl rfl rfl trivial ?_
            refine .step (rb := []) (wb := []) (ml := [29]) (fieldPT rfl rfl rfl) rfl rfl rfl rfl rfl trivial ?_
            refine .step (rb := [29]) (wb := []) (ml := []) (loadVT rfl rfl rfl rfl) rfl rfl rfl rfl rfl trivial ?_
            refine .step (rb := []) (wb := []) (ml := []) (neqFT rfl rfl rfl) rfl rfl rfl rfl rfl trivial ?_
            refine .step (rb := []) (wb := []) (ml := []) (moveT rfl) rfl rfl rfl rfl rfl trivial ?_
            refine .step (rb := []) (wb := []) (ml := [28]) (fieldPT rfl rfl rfl) ⟨_, rfl, rfl⟩ rfl rfl rfl rfl trivial ?_
            refine .step (rb := [28]) (wb := []) (ml := []) (loadVT rfl rfl rfl rfl) ⟨_, rfl, rfl⟩ rfl rfl rfl rfl trivial ?_
            refine .step (rb := []) (wb := []) (ml := [29]) (fieldPT rfl rfl rfl) ⟨_, rfl, rfl⟩ rfl rfl rfl rfl trivial ?_
            refine .step (rb := [29]) (wb := []) (ml := []) (loadVT rfl rfl rfl rfl) ⟨_, rfl, rfl⟩ rfl rfl rfl rfl trivial ?_
            refine .step (rb := []) (wb := []) (ml := []) (neqFT rfl rfl rfl) ⟨_, rfl, rfl⟩ rfl rfl rfl rfl trivial ?_
            refine .step (rb := []) (wb := []) (ml := []) (pickNT rfl rfl) rfl rfl rfl rfl rfl trivial ?_
            refine .step (rb := []) (wb := []) (ml := []) (moveT rfl) rfl rfl rfl rfl rfl trivial ?_
            refine .step (rb := []) (wb := []) (ml := [9001]) (moveT rfl) ⟨_, rfl, rfl⟩ rfl rfl rfl rfl trivial ?_
            refine .step (rb := []) (wb := []) (ml := [28]) (fieldPT rfl rfl rfl) ⟨_, rfl, rfl⟩ rfl rfl rfl rfl trivial ?_
            refine .step (rb := [28]) (wb := []) (ml := []) (loadVT rfl rfl rfl rfl) ⟨_, rfl, rfl⟩ rfl rfl rfl rfl trivial ?_
            refine .step (rb := [9001, 9002]) (wb := []) (ml := []) (callT rfl rfl rfl (callB_of Try.func33 rfl) (sp33d _ _ _ _ 0 0 p q.items (by omega) (by omega) (by omega) (by omega) (by omega) (fun x hx => by have h2 := hqo.items x hx; have h3 := itemsOk_at hqo.sorted x hx; omega)) ⟨rfl, rfl, trivial⟩) ⟨_, rfl, rfl⟩ rfl rfl rfl rfl trivial ?_
            refine .step (rb := []) (wb := []) (ml := [9011]) (moveT rfl) ⟨_, rfl, rfl⟩ rfl rfl rfl rfl trivial ?_
            refine .step (rb := []) (wb := []) (ml := [29]) (fieldPT rfl rfl rfl) ⟨_, rfl, rfl⟩ rfl rfl rfl rfl trivial ?_
            refine .step (rb := [29]) (wb := []) (ml := []) (loadVT rfl rfl rfl rfl) ⟨_, rfl, rfl⟩ rfl rfl rfl rfl trivial ?_
            refine .step (rb := [9011, 9012]) (wb := []) (ml := []) (callT rfl rfl rfl (callB_of Try.func33 rfl) (sp33e _ _ _ _ lt 1000 p (q.items.map (shI lt)) (by simp only [List.length_map]; omega) (by omega) (by omega) (by omega) (by omega) (fun x hx => by obtain ⟨y, hy, rfl⟩ := List.mem_map.1 hx; have h2 := hqo.items y hy; have h3 := itemsOk_at hqo.sorted y hy; show _ ≤ y.id + 1000 ∧ y.id + 1000 ≤ _ ∧ 0 ≤ y.at_ + lt ∧ y.at_ + lt ≤ _; omega)) ⟨rfl, rfl, trivial⟩) ⟨_, rfl, rfl⟩ rfl rfl rfl rfl trivial ?_
            refine .step (rb := []) (wb := []) (ml := []) (callT rfl rfl rfl (callB_of Try.func32 rfl) (c32 (by simp only [List.length_map]; omega) (by rw [map_back_zero, map_back_sh])) trivial) ⟨_, rfl, rfl⟩ rfl rfl rfl rfl trivial ?_
            refine .step (rb := []) (wb := []) (ml := []) (notYT rfl) ⟨_, rfl, rfl⟩ rfl rfl rfl rfl trivial ?_
            refine .step (rb := []) (wb := []) (ml := []) (pickNT rfl rfl) rfl rfl rfl rfl rfl trivial ?_
            refine .step (rb := []) (wb := []) (ml := []) (moveT rfl) rfl rfl rfl rfl rfl trivial ?_
            refine .step (rb := []) (wb := []) (ml := [9001]) (moveT rfl) ⟨_, rfl, rfl⟩ rfl rfl rfl rfl trivial ?_
            refine .step (rb := []) (wb := []) (ml := [9001]) (nilPT rfl) ⟨_, rfl, rfl⟩ rfl rfl rfl rfl trivial ?_
            refine .step (rb := []) (wb := []) (ml := [9001]) (fieldPT rfl rfl rfl) ⟨_, rfl, rfl⟩ rfl rfl rfl rfl trivial ?_
            refine .step (rb := []) (wb := []) (ml := [9001]) (fieldPT rfl rfl rfl) ⟨_, rfl, rfl⟩ rfl rfl rfl rfl trivial ?_
            refine .step (rb := [9001]) (wb := []) (ml := []) (loadVT rfl rfl rfl rfl) ⟨_, rfl, rfl⟩ rfl rfl rfl rfl trivial ?_
            refine .step (rb := []) (wb := []) (ml := []) (moveT rfl) ⟨_, rfl, rfl⟩ rfl rfl rfl rfl trivial ?_
            refine .step (rb := []) (wb := []) (ml := []) (indexRT rfl rfl rfl (by omega) (idx_getD (z := default) (by omega)) rfl) ⟨_, rfl, rfl⟩ rfl rfl rfl rfl trivial ?_
            refine .step (rb := []) (wb := []) (ml := []) (loadRsT rfl rfl rfl rfl rfl) ⟨_, rfl, rfl⟩ rfl rfl rfl rfl trivial ?_
            refine .step (rb := []) (wb := []) (ml := [9011]) (moveT rfl) ⟨_, rfl, rfl⟩ rfl rfl rfl rfl trivial ?_
            refine .step (rb := []) (wb := []) (ml := [9011]) (nilPT rfl) ⟨_, rfl, rfl⟩ rfl rfl rfl rfl trivial ?_
            refine .step (rb := []) (wb := []) (ml := [9011]) (fieldPT rfl rfl rfl) ⟨_, rfl, rfl⟩ rfl rfl rfl rfl trivial ?_
            refine .step (rb := []) (wb := []) (ml := [9011]) (fieldPT rfl rfl rfl) ⟨_, rfl, rfl⟩ rfl rfl rfl rfl trivial ?_
            refine .step (rb := [9011]) (wb := []) (ml := []) (loadVT rfl rfl rfl rfl) ⟨_, rfl, rfl⟩ rfl rfl rfl rfl trivial ?_
            refine .step (rb := []) (wb := []) (ml := []) (moveT rfl) ⟨_, rfl, rfl⟩ rfl rfl rfl rfl trivial ?_
            refine .step (rb := []) (wb := []) (ml := []) (moveT rfl) ⟨_, rfl, rfl⟩ rfl rfl rfl rfl trivial ?_
            refine .step (rb := []) (wb := []) (ml := []) (intnT rfl rfl rfl (wrap_i64 ⟨by omega, by omega⟩)) ⟨_, rfl, rfl⟩ rfl rfl rfl rfl trivial ?_
            refine .step (rb := []) (wb := []) (ml := []) (moveT rfl) ⟨_, rfl, rfl⟩ rfl rfl rfl rfl trivial ?_
            refine .step (rb := []) (wb := []) (ml := []) (remT rfl rfl (by omega) (rot_tmod)) ⟨_, rfl, rfl⟩ rfl rfl rfl rfl trivial ?_
            refine .step (rb := []) (wb := []) (ml := []) (indexRT rfl rfl rfl (by omega) (idx_getD (z := default) (by omega)) rfl) ⟨_, rfl, rfl⟩ rfl rfl rfl rfl trivial ?_
            refine .step (rb := []) (wb := []) (ml := []) (loadRsT rfl rfl rfl rfl rfl) ⟨_, rfl, rfl⟩ rfl rfl rfl rfl trivial ?_
            refine .step (rb := []) (wb := []) (ml := []) (neqSFT flat112 size112 rfl rfl rfl rfl rfl (by rw [hsh])) ⟨_, rfl, rfl⟩ rfl rfl rfl rfl trivial ?_
            refine .step (rb := []) (wb := []) (ml := []) (pickNT rfl rfl) rfl rfl rfl rfl rfl trivial ?_
            refine .done (by decide +kernel) ?_
            refine awp_ifN rfl ?_
            refine awp_skip ?_
            refine awp_region ?_
            refine seqP (intnT rfl rfl rfl (wrap_succ (by omega))) rfl ?_
            refine seqP (moveT rfl) rfl ?_
            refine ops_nil ?_
            refine ⟨(j + 1), (by show j + 1 ≤ p; omega), (turn_sub ⟨⟨rfl, rfl, rfl, rfl, rfl, rfl, rfl, rfl, rfl, rfl, rfl, trivial⟩, ⟨rfl, rfl, rfl, rfl, trivial⟩⟩), by show p - (j + 1) < p - j; omega⟩
        · -- no
          try simp only [mOr, mAnd, decide_eq_true_eq, decide_eq_false_iff_not, beq_iff_eq, beq_eq_false_iff_ne, bne_iff_ne, ne_eq, bne_eq_false_iff_eq, Bool.or_eq_true, Bool.or_eq_false_iff, Bool.and_eq_true, Bool.and_eq_false_iff, Bool.not_eq_true', Bool.not_eq_false', Int.not_lt, Int.not_le, gt_iff_lt, ge_iff_le] at h189
          refine awp_exit ?_
          refine awp_region ?_
          refine seqP (intnT rfl rfl rfl (wrap_succ (by omega))) rfl ?_
          refine seqP (moveT rfl) rfl ?_
          refine ops_nil ?_
          refine ⟨⟨i + 1, now + m.wait, A.2.1, B.2.1, A.2.2, B.2.2⟩, ⟨by show i + 1 ≤ _; omega, by show 0 ≤ now + m.wait; omega, by show now + m.wait ≤ 1000000 * ((i + 1 : Nat) : Int); omega, hRel3⟩, (turn_sub ⟨⟨rfl, rfl, rfl, rfl, rfl, rfl, rfl, rfl, rfl, trivial⟩, ⟨rfl, rfl, rfl, rfl, trivial⟩⟩), by show ms.length - (i + 1) < ms.length - i; omega⟩
      · -- no
        try simp only [mOr, mAnd, decide_eq_true_eq, decide_eq_false_iff_not, beq_iff_eq, beq_eq_false_iff_ne, bne_iff_ne, ne_eq, bne_eq_false_iff_eq, Bool.or_eq_true, Bool.or_eq_false_iff, Bool.and_eq_true, Bool.and_eq_false_iff, Bool.not_eq_true', Bool.not_eq_false', Int.not_lt, Int.not_le, gt_iff_lt, ge_iff_le] at h114
        refine awp_exit ?_
        refine awp_seq ?_
        refine awp_region ?_
        refine seqP (callT rfl rfl rfl (callB_of Try.func29 rfl) sp29 trivial) rfl ?_
        refine seqP (assignT rfl) rfl ?_
        refine ops_nil ?_
        refine awp_ret ?_
        refine ret_plain (resl_tmp rfl resl_nil) ?_ rfl
        rfl

end Go.Proofs.Ytencghlmckbmlaa
