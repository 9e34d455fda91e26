/- Walk: TopWorlds (printed by gen.py). -/
import Derived.Test.YtencghlmckbmlaaWorld7
set_option linter.unusedVariables false
set_option linter.unusedSimpArgs false
set_option maxRecDepth 100000
set_option maxHeartbeats 8000000
namespace Go.Proofs.Ytencghlmckbmlaa
open Go Go.RowKit

theorem tmod4000 (x : Int) : -4000 ≤ Int.tmod x 4000 ∧ Int.tmod x 4000 ≤ 4000 := by
  rcases Int.le_total 0 x with h | h
  · rw [Int.tmod_eq_emod_of_nonneg h]; omega
  · have e : x = -(-x) := by omega
    rw [e, Int.neg_tmod, Int.tmod_eq_emod_of_nonneg (by omega)]; omega


theorem sp3 (l : List Place) (sh : List Int) (bs : List Burst) (draws : List Bool) (by_ : List Int) (way dx dy later : Int) (hll : l.length ≤ 9223372036854775807) (hshl : sh.length ≤ 9223372036854775807) (hbsl : bs.length ≤ 9223372036854775807) (hdl : draws.length ≤ 9223372036854775807) (hyl : by_.length ≤ 9223372036854775807)
    (hok : ∀ x ∈ l, PlaceOk x) (hsv : ∀ x ∈ sh, 0 ≤ x ∧ x ≤ 65535) (hbo : ∀ b ∈ bs, BurstOk b) (hyv : ∀ x ∈ by_, 0 ≤ x ∧ x ≤ 255) (hw0 : 0 ≤ way) (hw1 : way ≤ 255) (hx0 : -32768 ≤ dx) (hx1 : dx ≤ 32767) (hy0 : -32768 ≤ dy) (hy1 : dy ≤ 32767) (hl0 : 0 ≤ later) (hl1 : later ≤ 4294967295) :
    Spec Try.prog 3 [.d (.s (l.map encP)), .d (.s (sh.map encU16)), .d (.s (bs.map encB)), .d (.s (draws.map encBool)), .d (.s (by_.map encU8)), .d (.v (.int .u8 way)), .d (.v (.int .i16 dx)), .d (.v (.int .i16 dy)), .d (.v (.int .u32 later))] [] (.d (vb true)) [] [] := by
  obtain ⟨n, hn⟩ : ∃ n, l.length = n := ⟨_, rfl⟩
  obtain ⟨d, hd⟩ : ∃ d, later % 1073741824 = d := ⟨_, rfl⟩
  have hd0 : 0 ≤ d := by omega
  have hd1 : d < 1073741824 := by omega
  obtain ⟨ex, hex⟩ : ∃ ex, Int.tmod dx 4000 = ex := ⟨_, rfl⟩
  obtain ⟨ey, hey⟩ : ∃ ey, Int.tmod dy 4000 = ey := ⟨_, rfl⟩
  have hexb := hex ▸ tmod4000 dx
  have heyb := hey ▸ tmod4000 dy
  refine enter 533 [] Try.func3 rfl rfl blOk_nil rfl rfl fun X w0 E0 => ?_
  refine awp_seq ?_
  refine awp_region ?_
  refine seqP (assignT rfl) rfl ?_
  refine ops_nil ?_
  refine awp_seq ?_
  refine awp_region ?_
  refine seqP (moveT rfl) rfl ?_
  refine seqP (lenRT rfl rfl ((List.length_map ..).trans hn)) rfl ?_
  refine seqP (assignT rfl) rfl ?_
  refine ops_nil ?_
  refine awp_seq ?_
  refine awp_seq ?_
  refine awp_region ?_
  refine seqP (moveT rfl) rfl ?_
  refine seqP (intTT rfl rfl rfl) rfl ?_
  refine seqP (moveT rfl) rfl ?_
  refine seqM 2 (g := 79) (x := ?_) rfl rfl (fun Q g76 hJ => ?_) (fun Q g76 hJ => ?_) ?_
  rotate_left 1
  · -- taken
    refine seqP (moveT rfl) rfl ?_
    refine seqGy rfl rfl ?_
    refine seqP (intTT rfl rfl rfl) rfl ?_
    refine seqP (pickNT rfl rfl) rfl ?_
    refine hJ 3 _ ?_
    exact ⟨.inl rfl, .inl rfl, .inr (congrArg (fun b => AV.d (D.v (Value.bool b))) g76), rfl⟩
  · -- left
    refine seqGn rfl rfl ?_
    refine seqP (pickYT rfl rfl) rfl ?_
    refine hJ 3 _ ?_
    exact ⟨.inl rfl, .inl rfl, .inr (congrArg (fun b => AV.d (D.v (Value.bool b))) g76), rfl⟩
  refine seqP (moveT rfl) rfl ?_
  refine seqM 3 (g := 84) (x := ?_) rfl rfl (fun Q g80 hJ => ?_) (fun Q g80 hJ => ?_) ?_
  rotate_left 1
  · -- taken
    refine seqP (moveT rfl) rfl ?_
    refine seqGy rfl rfl ?_
    refine seqP (lenRT rfl rfl (List.length_map ..)) rfl ?_
    refine seqGy rfl rfl ?_
    refine seqP (intTT rfl rfl rfl) rfl ?_
    refine seqP (pickNT rfl rfl) rfl ?_
    refine hJ 4 _ ?_
    exact ⟨.inl rfl, .inl rfl, .inl rfl, .inr (congrArg (fun b => AV.d (D.v (Value.bool b))) g80), rfl⟩
  · -- left
    refine seqGn rfl rfl ?_
    refine seqGn rfl rfl ?_
    refine seqP (pickYT rfl rfl) rfl ?_
    refine hJ 4 _ ?_
    exact ⟨.inl rfl, .inl rfl, .inl rfl, .inr (congrArg (fun b => AV.d (D.v (Value.bool b))) g80), rfl⟩
  refine seqP (moveT rfl) rfl ?_
  refine seqM 3 (g := 89) (x := ?_) rfl rfl (fun Q g85 hJ => ?_) (fun Q g85 hJ => ?_) ?_
  rotate_left 1
  · -- taken
    refine seqP (moveT rfl) rfl ?_
    refine seqGy rfl rfl ?_
    refine seqP (lenRT rfl rfl (List.length_map ..)) rfl ?_
    refine seqGy rfl rfl ?_
    refine seqP (intTT rfl rfl rfl) rfl ?_
    refine seqP (pickNT rfl rfl) rfl ?_
    refine hJ 4 _ ?_
    exact ⟨.inl rfl, .inl rfl, .inl rfl, .inr (congrArg (fun b => AV.d (D.v (Value.bool b))) g85), rfl⟩
  · -- left
    refine seqGn rfl rfl ?_
    refine seqGn rfl rfl ?_
    refine seqP (pickYT rfl rfl) rfl ?_
    refine hJ 4 _ ?_
    exact ⟨.inl rfl, .inl rfl, .inl rfl, .inr (congrArg (fun b => AV.d (D.v (Value.bool b))) g85), rfl⟩
  refine ops_nil ?_
  refine awp_if rfl (fun h89 => ?_) (fun h89 => ?_)
  · -- yes
    try simp only [mOr, mAnd, decide_eq_true_eq, decide_eq_false_iff_not, beq_iff_eq, beq_eq_false_iff_ne, bne_iff_ne, ne_eq, bne_eq_false_iff_eq, Bool.or_eq_true, Bool.or_eq_false_iff, Bool.and_eq_true, Bool.and_eq_false_iff, Bool.not_eq_true', Bool.not_eq_false', Int.not_lt, Int.not_le, gt_iff_lt, ge_iff_le] at h89
    refine awp_seq ?_
    refine awp_region ?_
    refine seqP (callT rfl rfl rfl (callB_of Try.func7 rfl) sp7 trivial) rfl ?_
    refine seqP (assignT rfl) rfl ?_
    refine ops_nil ?_
    refine awp_ret ?_
    refine ret_plain (resl_tmp rfl resl_nil) ?_ rfl
    rfl
  · -- no
    simp only [mOr, Bool.or_eq_false_iff, beq_eq_false_iff_ne, ne_eq, decide_eq_false_iff_not] at h89
    have hn1 : 1 ≤ n := by omega
    have hn10 : n ≤ 10 := by omega
    have hsl : sh.length ≤ 100 := by omega
    have hbl : bs.length ≤ 16 := by omega
    obtain ⟨A, hA⟩ : ∃ A, airA l sh = A := ⟨_, rfl⟩
    obtain ⟨to, hto⟩ : ∃ to, orderS n by_ = to := ⟨_, rfl⟩
    obtain ⟨B, hB⟩ : ∃ B, airB l sh to way ex ey = B := ⟨_, rfl⟩
    obtain ⟨C, hC⟩ : ∃ C, airB l sh (List.range n) way ex ey = C := ⟨_, rfl⟩
    have hpt : Perm n to := hto ▸ order_perm hn1 by_
    have hpr : Perm n (List.range n) := Perm.range n
    have kB : Like n to A B := by have := like_air (way := way) hn hn1 hn10 hpt hok hsv hexb.1 hexb.2 heyb.1 heyb.2; rwa [hA, hB] at this
    have kC : Like n (List.range n) A C := by have := like_air (way := way) hn hn1 hn10 hpr hok hsv hexb.1 hexb.2 heyb.1 heyb.2; rwa [hA, hC] at this
    have c8a : Spec Try.prog 8 [.d (vi (n : Nat)), .nil] [] (.d (.s ((ints (List.range n)).map encInt))) [] [] := by have := sp8 n [] hn1 (by omega) (by decide) (fun x hx => by cases hx); rw [order_nil] at this; exact spec_wk rfl this
    have c8b : Spec Try.prog 8 [.d (vi (n : Nat)), .d (.s (by_.map encU8))] [] (.d (.s ((ints to).map encInt))) [] [] := by have := sp8 n by_ hn1 (by omega) hyl hyv; rwa [hto] at this
    have c9a := sp9 l sh to way ex ey n hn hn1 hn10 hpt hok hsl hsv hexb.1 hexb.2 heyb.1 heyb.2
    rw [hA, hB] at c9a
    have c9b := sp9 l sh (List.range n) way ex ey n hn hn1 hn10 hpr hok hsl hsv hexb.1 hexb.2 heyb.1 heyb.2
    rw [hA, hC] at c9b
    have oA := kB.ok1
    have nA := kB.n1
    have hix : ∀ i, i < n → ((ints to).map encInt)[((i : Nat) : Int).toNat]? = some (encInt ((at' to i : Nat) : Int)) := fun i hi => (idx_getD (z := default) (by rw [ints_len, hpt.len]; exact hi)).trans (by rw [ints_get (by rw [hpt.len]; exact hi)])
    have nb : ∀ i, i < n → at' to i < B.radios.length := fun i hi => by rw [kB.n2]; exact hpt.lt i hi
    have na : ∀ i, i < n → i < A.radios.length := fun i hi => by rw [nA]; exact hi
    have lvB : ∀ i j, i < n → j < n → Spec Try.prog 12 [B.av, .d (vi ((at' to i : Nat) : Int)), .d (vi ((at' to j : Nat) : Int))] [] (.tup [.d (vi (levelS A i j)), .d (vi 0)]) [] [] := fun i j hi hj => by have := sp12 B (at' to i) (at' to j) kB.ok2 (nb i hi) (nb j hj); rwa [kB.level i j hi hj] at this
    have hrB : ∀ i j, i < n → j < n → Spec Try.prog 13 [B.av, .d (vi ((at' to i : Nat) : Int)), .d (vi ((at' to j : Nat) : Int))] [] (.tup [.d (vb (hearsS A i j)), .d (vi 0)]) [] [] := fun i j hi hj => by have := sp13 B (at' to i) (at' to j) kB.ok2 (nb j hj) (nb i hi); rwa [kB.hears hj hi] at this
    refine awp_skip ?_
    refine awp_seq ?_
    refine awp_region ?_
    refine seqP (moveT rfl) rfl ?_
    refine seqP (convT rfl rfl rfl (wrap_i64 ⟨by omega, by omega⟩)) rfl ?_
    refine seqP (remT rfl rfl (by omega) ((tmod_nn (by omega)).trans hd)) rfl ?_
    refine seqP (assignT rfl) rfl ?_
    refine ops_nil ?_
    refine awp_seq ?_
    refine awp_region ?_
    refine seqP (moveT rfl) rfl ?_
    refine seqP (callT rfl rfl rfl (callB_of Try.func8 rfl) c8a trivial) rfl ?_
    refine seqP (assignT rfl) rfl ?_
    refine ops_nil ?_
    refine awp_seq ?_
    refine awp_region ?_
    refine seqP (moveT rfl) rfl ?_
    refine seqP (moveT rfl) rfl ?_
    refine seqP (callT rfl rfl rfl (callB_of Try.func8 rfl) c8b trivial) rfl ?_
    refine seqP (assignT rfl) rfl ?_
    refine ops_nil ?_
    refine awp_seq ?_
    refine awp_region ?_
    refine seqP (moveT rfl) rfl ?_
    refine seqP (moveT rfl) rfl ?_
    refine seqP (moveT rfl) rfl ?_
    refine seqP (moveT rfl) rfl ?_
    refine seqP (moveT rfl) rfl ?_
    refine seqP (convT rfl rfl rfl (wrap_i64 ⟨by omega, by omega⟩)) rfl ?_
    refine seqP (remT rfl rfl (by omega) hex) rfl ?_
    refine seqP (moveT rfl) rfl ?_
    refine seqP (convT rfl rfl rfl (wrap_i64 ⟨by omega, by omega⟩)) rfl ?_
    refine seqP (remT rfl rfl (by omega) hey) rfl ?_
    refine seqP (callT rfl rfl rfl (callB_of Try.func9 rfl) c9a trivial) rfl ?_
    refine seqP (moveT rfl) rfl ?_
    refine seqP (extractT rfl rfl) rfl ?_
    refine seqP (extractT rfl rfl) rfl ?_
    refine seq1 (allocT rfl rfl) rfl rfl ?_
    refine seq1 (allocT rfl rfl) rfl rfl ?_
    refine seq0 (storeVT rfl rfl rfl rfl rfl rfl rfl) ?_
    refine seq0 (storeVT rfl rfl rfl rfl rfl rfl rfl) ?_
    refine ops_nil ?_
    refine awp_seq ?_
    refine awp_region ?_
    refine seqP (moveT rfl) rfl ?_
    refine seqP (moveT rfl) rfl ?_
    refine seqP (moveT rfl) rfl ?_
    refine seqP (moveT rfl) rfl ?_
    refine seqP (moveT rfl) rfl ?_
    refine seqP (convT rfl rfl rfl (wrap_i64 ⟨by omega, by omega⟩)) rfl ?_
    refine seqP (remT rfl rfl (by omega) hex) rfl ?_
    refine seqP (moveT rfl) rfl ?_
    refine seqP (convT rfl rfl rfl (wrap_i64 ⟨by omega, by omega⟩)) rfl ?_
    refine seqP (remT rfl rfl (by omega) hey) rfl ?_
    refine seqP (callT rfl rfl rfl (callB_of Try.func9 rfl) c9b trivial) rfl ?_
    refine seqP (moveT rfl) rfl ?_
    refine seqP (extractT rfl rfl) rfl ?_
    refine seqP (extractT rfl rfl) rfl ?_
    refine seq1 (allocT rfl rfl) rfl rfl ?_
    refine seq1 (allocT rfl rfl) rfl rfl ?_
    refine seq0 (storeVT rfl rfl rfl rfl rfl rfl rfl) ?_
    refine seq0 (storeVT rfl rfl rfl rfl rfl rfl rfl) ?_
    refine ops_nil ?_
    refine awp_seq ?_
    refine awp_region ?_
    refine seqP (assignT rfl) rfl ?_
    refine seqP (assignT rfl) rfl ?_
    refine seqP (assignT rfl) rfl ?_
    refine ops_nil ?_
    refine awp_seq ?_
    refine awp_seq ?_
    refine awp_turn (turn_bind 27 3900 4 (by rfl) (by rfl)) ?_
    refine awp_region ?_
    refine seqP (moveT rfl) rfl ?_
    refine seqP (lenRT rfl rfl (List.length_map ..)) rfl ?_
    refine seqP (moveT rfl) rfl ?_
    refine ops_nil ?_
    refine awp_block ?_
    refine awp_loop (ι := Nat) (fun p => ⟨[(3, .d (.s (draws.map encBool))), (5, .d (.v (.int .u8 way))), (19, .d (vi (n : Nat))), (20, .d (vi d)), (21, .d (.s ((ints (List.range n)).map encInt))), (22, .d (.s ((ints to).map encInt))), (23, .ptr 23 0 0 0), (24, .ptr 24 0 0 0), (25, .ptr 25 0 0 0), (26, .ptr 26 0 0 0), (27, .own 3900 0 4 (hereS n bs p).length), (28, .nil), (29, .nil), (127, .d (.s (bs.map encB))), (128, .d (vi bs.length)), (129, .d (vi (p : Nat)))], [(23, some (.var A.cells)), (24, some (.var B.cells)), (25, some (.var A.cells)), (26, some (.var C.cells)), (3900, some (.row 4 ((hereS n bs p).map encS)))]⟩) (fun p => p ≤ bs.length) (fun p => bs.length - p) 0 (Nat.zero_le _) (turn_sub ⟨⟨rfl, rfl, rfl, rfl, rfl, rfl, rfl, rfl, rfl, rfl, rfl, rfl, rfl, rfl, rfl, rfl, trivial⟩, ⟨rfl, rfl, rfl, rfl, rfl, trivial⟩⟩) (fun p hP => ?_)
    refine awp_seq ?_
    refine awp_region ?_
    refine seqP (intTT rfl rfl rfl) rfl ?_
    refine ops_nil ?_
    refine awp_seq ?_
    refine awp_if rfl (fun h130 => ?_) (fun h130 => ?_)
    · -- yes
      try simp only [mOr, mAnd, decide_eq_true_eq, decide_eq_false_iff_not, beq_iff_eq, beq_eq_false_iff_ne, bne_iff_ne, ne_eq, bne_eq_false_iff_eq, Bool.or_eq_true, Bool.or_eq_false_iff, Bool.and_eq_true, Bool.and_eq_false_iff, Bool.not_eq_true', Bool.not_eq_false', Int.not_lt, Int.not_le, gt_iff_lt, ge_iff_le] at h130
      refine awp_skip ?_
      refine awp_seq ?_
      refine awp_block ?_
      refine awp_seq ?_
      have hpl : p < bs.length := by omega
      obtain ⟨b, hb⟩ : ∃ b, bs.getD p default = b := ⟨_, rfl⟩
      have hbk : BurstOk b := hb ▸ hbo _ (mem_getD hpl)
      have hb1 := hbk.n0
      have hb2 := hbk.n1
      have hb3 := hbk.s0
      have hb4 := hbk.s1
      have hb5 := hbk.l0
      have hb6 := hbk.l1
      have hb7 := hbk.e0
      have hb8 := hbk.e1
      have hhl := (here_ok hn1 hbo p (by omega)).len
      have hhl1 := (here_ok hn1 hbo (p + 1) (by omega)).len
      refine awp_region ?_
      refine seqP (indexRT rfl rfl rfl (by omega) (show _ = some (encB b) from hb ▸ idx_getD (z := default) hpl) rfl) rfl ?_
      refine seqP (loadRsT rfl rfl rfl rfl rfl) rfl ?_
      refine seq1 (allocT rfl rfl) rfl rfl ?_
      refine seq0 (storeVT rfl rfl rfl rfl rfl rfl rfl) ?_
      refine ops_nil ?_
      refine awp_seq ?_
      refine awp_any [0, 1, 3, 0, 15, 0, 32, 96, 0, 256, 768, 1792, 0, 4096, 12288, 32512, 0, 65536, 196608, 458752, 1048575, 0, 4194303] rfl ?_
      refine .step (rb := []) (wb := []) (ml := [31]) (fieldPT rfl rfl rfl) rfl rfl rfl rfl rfl trivial ?_
      refine .step (rb := [31]) (wb := []) (ml := []) (loadVT rfl rfl rfl rfl) rfl rfl rfl rfl rfl trivial ?_
      refine .step (rb := []) (wb := []) (ml := []) (convT rfl rfl rfl (wrap_i64 ⟨by omega, by omega⟩)) rfl rfl rfl rfl rfl trivial ?_
      refine .step (rb := []) (wb := []) (ml := []) (moveT rfl) rfl rfl rfl rfl rfl trivial ?_
      refine .step (rb := []) (wb := []) (ml := []) (remT rfl rfl (by omega) (node_mod hn1 hbk)) rfl rfl rfl rfl rfl trivial ?_
      refine .step (rb := []) (wb := []) (ml := [31]) (fieldPT rfl rfl rfl) rfl rfl rfl rfl rfl trivial ?_
      refine .step (rb := [31]) (wb := []) (ml := []) (loadVT rfl rfl rfl rfl) rfl rfl rfl rfl rfl trivial ?_
      refine .step (rb := []) (wb := []) (ml := []) (convT rfl rfl rfl (wrap_i64 ⟨by omega, by omega⟩)) rfl rfl rfl rfl rfl trivial ?_
      refine .step (rb := []) (wb := []) (ml := [31]) (fieldPT rfl rfl rfl) rfl rfl rfl rfl rfl trivial ?_
      refine .step (rb := [31]) (wb := []) (ml := []) (loadVT rfl rfl rfl rfl) rfl rfl rfl rfl rfl trivial ?_
      refine .step (rb := []) (wb := []) (ml := []) (convT rfl rfl rfl (wrap_i64 ⟨by omega, by omega⟩)) rfl rfl rfl rfl rfl trivial ?_
      refine .step (rb := []) (wb := []) (ml := []) (intnT rfl rfl rfl (wrap_i64 ⟨by omega, by omega⟩)) rfl rfl rfl rfl rfl trivial ?_
      refine .step (rb := []) (wb := []) (ml := [31]) (fieldPT rfl rfl rfl) rfl rfl rfl rfl rfl trivial ?_
      refine .step (rb := [31]) (wb := []) (ml := []) (loadVT rfl rfl rfl rfl) rfl rfl rfl rfl rfl trivial ?_
      refine .step (rb := []) (wb := []) (ml := []) (convT rfl rfl rfl (wrap_i64 ⟨by omega, by omega⟩)) rfl rfl rfl rfl rfl trivial ?_
      refine .step (rb := []) (wb := []) (ml := []) (intnT rfl rfl rfl (wrap_i64 ⟨by omega, by omega⟩)) rfl rfl rfl rfl rfl trivial ?_
      refine .step (rb := []) (wb := []) (ml := [31]) (fieldPT rfl rfl rfl) rfl rfl rfl rfl rfl trivial ?_
      refine .step (rb := [31]) (wb := []) (ml := []) (loadVT rfl rfl rfl rfl) rfl rfl rfl rfl rfl trivial ?_
      refine .step (rb := []) (wb := []) (ml := []) (convT rfl rfl rfl (wrap_i64 ⟨by omega, by omega⟩)) rfl rfl rfl rfl rfl trivial ?_
      refine .step (rb := []) (wb := []) (ml := []) (intnT rfl rfl rfl (wrap_i64 ⟨by omega, by omega⟩)) rfl rfl rfl rfl rfl trivial ?_
      refine .step (rb := []) (wb := []) (ml := []) (buildT rfl rfl rfl rfl) rfl rfl rfl rfl rfl trivial ?_
      refine .step (rb := []) (wb := [32]) (ml := [32]) (allocT rfl rfl) rfl rfl rfl rfl rfl ⟨rfl, trivial⟩ ?_
      refine .step (rb := [32]) (wb := [32]) (ml := []) (storeVT rfl rfl rfl rfl rfl rfl rfl) rfl rfl rfl rfl rfl ⟨rfl, trivial⟩ ?_
      refine .done (by decide +kernel) ?_
      refine awp_seq ?_
      refine awp_region ?_
      refine seqP (assignT rfl) rfl ?_
      refine ops_nil ?_
      refine awp_seq ?_
      refine awp_seq ?_
      refine awp_region ?_
      refine seqP (moveT rfl) rfl ?_
      refine seqP (lenWT rfl rfl) rfl ?_
      refine seqP (moveT rfl) rfl ?_
      refine ops_nil ?_
      refine awp_block ?_
      refine awp_loop (ι := Nat) (fun q => ⟨[(3, .d (.s (draws.map encBool))), (5, .d (.v (.int .u8 way))), (19, .d (vi (n : Nat))), (20, .d (vi d)), (21, .d (.s ((ints (List.range n)).map encInt))), (22, .d (.s ((ints to).map encInt))), (23, .ptr 23 0 0 0), (24, .ptr 24 0 0 0), (25, .ptr 25 0 0 0), (26, .ptr 26 0 0 0), (27, .own 3900 0 4 (hereS n bs p).length), (28, .nil), (29, .nil), (32, .ptr 32 0 0 0), (33, .d (vb (okS (sendB n b) ((hereS n bs p).take q)))), (127, .d (.s (bs.map encB))), (128, .d (vi bs.length)), (129, .d (vi (p : Nat))), (154, .own 3900 0 4 (hereS n bs p).length), (155, .d (vi (hereS n bs p).length)), (156, .d (vi (q : Nat)))], [(23, some (.var A.cells)), (24, some (.var B.cells)), (25, some (.var A.cells)), (26, some (.var C.cells)), (3900, some (.row 4 ((hereS n bs p).map encS))), (32, some (.var (sendB n b).cells))]⟩) (fun q => q ≤ (hereS n bs p).length) (fun q => (hereS n bs p).length - q) 0 (Nat.zero_le _) (turn_sub ⟨⟨rfl, rfl, rfl, rfl, rfl, rfl, rfl, rfl, rfl, rfl, rfl, rfl, rfl, rfl, rfl, rfl, rfl, rfl, rfl, rfl, rfl, trivial⟩, ⟨rfl, rfl, rfl, rfl, rfl, rfl, trivial⟩⟩) (fun q hQ => ?_)
      refine awp_seq ?_
      refine awp_region ?_
      refine seqP (intTT rfl rfl rfl) rfl ?_
      refine ops_nil ?_
      refine awp_seq ?_
      refine awp_if rfl (fun h157 => ?_) (fun h157 => ?_)
      · -- yes
        try simp only [mOr, mAnd, decide_eq_true_eq, decide_eq_false_iff_not, beq_iff_eq, beq_eq_false_iff_ne, bne_iff_ne, ne_eq, bne_eq_false_iff_eq, Bool.or_eq_true, Bool.or_eq_false_iff, Bool.and_eq_true, Bool.and_eq_false_iff, Bool.not_eq_true', Bool.not_eq_false', Int.not_lt, Int.not_le, gt_iff_lt, ge_iff_le] at h157
        refine awp_skip ?_
        refine awp_seq ?_
        refine awp_block ?_
        refine awp_seq ?_
        have hql : q < (hereS n bs p).length := by omega
        obtain ⟨y, hy⟩ : ∃ y, (hereS n bs p).getD q default = y := ⟨_, rfl⟩
        have hyq : (hereS n bs p)[q]? = some y := by rw [← hy, List.getD_eq_getElem?_getD, List.getElem?_eq_getElem hql]; rfl
        refine awp_region ?_
        refine seqP (indexWT rfl rfl rfl (by omega) (by omega) (show 0 + ((q : Nat) : Int).toNat = q by simp)) rfl ?_
        refine seqP (loadWsT rfl rfl rfl (show _ = some (encS y) from hy ▸ row_getD (z := default) hql) rfl rfl rfl) rfl ?_
        refine seq1 (allocT rfl rfl) rfl rfl ?_
        refine seq0 (storeVT rfl rfl rfl rfl rfl rfl rfl) ?_
        refine ops_nil ?_
        refine awp_region ?_
        refine seqP (moveT rfl) rfl ?_
        refine seqP (moveT rfl) rfl ?_
        refine seqM 19 (g := 181) (x := ?_) rfl rfl (fun Q g161 hJ => ?_) (fun Q g161 hJ => ?_) ?_
        rotate_left 1
        · -- taken
          refine seqP (fieldPT rfl rfl rfl) rfl ?_
          refine seqGy rfl rfl ?_
          refine seqP (loadVT rfl rfl rfl rfl) rfl ?_
          refine seqGy rfl rfl ?_
          refine seqP (fieldPT rfl rfl rfl) rfl ?_
          refine seqGy rfl rfl ?_
          refine seqP (loadVT rfl rfl rfl rfl) rfl ?_
          refine seqGy rfl rfl ?_
          refine seqP (intTT rfl rfl rfl) rfl ?_
          refine seqGy rfl rfl ?_
          refine seqP (moveT rfl) rfl ?_
          refine seqM 5 (g := 173) (x := ?_) rfl rfl (fun Q g167 hJ => ?_) (fun Q g167 hJ => ?_) ?_
          rotate_left 1
          · -- taken
            refine seqP (fieldPT rfl rfl rfl) rfl ?_
            refine seqGy rfl rfl ?_
            refine seqP (loadVT rfl rfl rfl rfl) rfl ?_
            refine seqGy rfl rfl ?_
            refine seqP (fieldPT rfl rfl rfl) rfl ?_
            refine seqGy rfl rfl ?_
            refine seqP (loadVT rfl rfl rfl rfl) rfl ?_
            refine seqGy rfl rfl ?_
            refine seqP (intTT rfl rfl rfl) rfl ?_
            refine seqGy rfl rfl ?_
            refine seqP (pickNT rfl rfl) rfl ?_
            refine hJ 6 _ ?_
            exact ⟨.inl rfl, .inl rfl, .inl rfl, .inl rfl, .inl rfl, .inr (congrArg (fun b => AV.d (D.v (Value.bool b))) g167), rfl⟩
          · -- left
            refine seqGn rfl rfl ?_
            refine seqGn rfl rfl ?_
            refine seqGn rfl rfl ?_
            refine seqGn rfl rfl ?_
            refine seqGy rfl rfl ?_
            refine seqP (pickYT rfl rfl) rfl ?_
            refine hJ 6 _ ?_
            exact ⟨.inl rfl, .inl rfl, .inl rfl, .inl rfl, .inl rfl, .inr (congrArg (fun b => AV.d (D.v (Value.bool b))) g167), rfl⟩
          refine seqGy rfl rfl ?_
          refine seqP (moveT rfl) rfl ?_
          refine seqM 5 (g := 180) (x := ?_) rfl rfl (fun Q g174 hJ => ?_) (fun Q g174 hJ => ?_) ?_
          rotate_left 1
          · -- taken
            refine seqP (fieldPT rfl rfl rfl) rfl ?_
            refine seqGy rfl rfl ?_
            refine seqP (loadVT rfl rfl rfl rfl) rfl ?_
            refine seqGy rfl rfl ?_
            refine seqP (fieldPT rfl rfl rfl) rfl ?_
            refine seqGy rfl rfl ?_
            refine seqP (loadVT rfl rfl rfl rfl) rfl ?_
            refine seqGy rfl rfl ?_
            refine seqP (intTT rfl rfl rfl) rfl ?_
            refine seqGy rfl rfl ?_
            refine seqP (pickNT rfl rfl) rfl ?_
            refine hJ 6 _ ?_
            exact ⟨.inl rfl, .inl rfl, .inl rfl, .inl rfl, .inl rfl, .inr (congrArg (fun b => AV.d (D.v (Value.bool b))) g174), rfl⟩
          · -- left
            refine seqGn rfl rfl ?_
            refine seqGn rfl rfl ?_
            refine seqGn rfl rfl ?_
            refine seqGn rfl rfl ?_
            refine seqGy rfl rfl ?_
            refine seqP (pickYT rfl rfl) rfl ?_
            refine hJ 6 _ ?_
            exact ⟨.inl rfl, .inl rfl, .inl rfl, .inl rfl, .inl rfl, .inr (congrArg (fun b => AV.d (D.v (Value.bool b))) g174), rfl⟩
          refine seqP (pickYT rfl rfl) rfl ?_
          refine hJ 10 _ ?_
          exact ⟨.inl rfl, .inl rfl, .inl rfl, .inl rfl, .inl rfl, .inl rfl, .inl rfl, .inl rfl, .inl rfl, .inr (congrArg (fun b => AV.d (D.v (Value.bool b))) g161), rfl⟩
        · -- left
          refine seqGn rfl rfl ?_
          refine seqGn rfl rfl ?_
          refine seqGn rfl rfl ?_
          refine seqGn rfl rfl ?_
          refine seqGn rfl rfl ?_
          refine seqGo rfl rfl ?_
          refine seqGo rfl rfl ?_
          refine seqGo rfl rfl ?_
          refine seqGo rfl rfl ?_
          refine seqGo rfl rfl ?_
          refine seqGn rfl rfl ?_
          refine seqGn rfl rfl ?_
          refine seqGo rfl rfl ?_
          refine seqGo rfl rfl ?_
          refine seqGo rfl rfl ?_
          refine seqGo rfl rfl ?_
          refine seqGo rfl rfl ?_
          refine seqGn rfl rfl ?_
          refine seqP (pickNT rfl rfl) rfl ?_
          refine hJ 20 _ ?_
          exact ⟨.inl rfl, .inl rfl, .inl rfl, .inl rfl, .inl rfl, .inl rfl, .inl rfl, .inl rfl, .inl rfl, .inl rfl, .inl rfl, .inl rfl, .inl rfl, .inl rfl, .inl rfl, .inl rfl, .inl rfl, .inl rfl, .inl rfl, .inr (congrArg (fun b => AV.d (D.v (Value.bool b))) g161), rfl⟩
        refine seqP (assignT rfl) rfl ?_
        refine ops_nil ?_
        refine awp_region ?_
        refine seqP (intnT rfl rfl rfl (wrap_succ (by omega))) rfl ?_
        refine seqP (moveT rfl) rfl ?_
        refine ops_nil ?_
        refine ⟨(q + 1), (by show q + 1 ≤ _; omega), (turn_sub ⟨⟨rfl, rfl, rfl, rfl, rfl, rfl, rfl, rfl, rfl, rfl, rfl, rfl, rfl, rfl, (by rw [ok_take hyq]; exact congrArg (fun b => AV.d (D.v (Value.bool b))) (by simp only [mAnd, mOr, okP])), rfl, rfl, rfl, rfl, rfl, rfl, trivial⟩, ⟨rfl, rfl, rfl, rfl, rfl, rfl, trivial⟩⟩), by show (hereS n bs p).length - (q + 1) < (hereS n bs p).length - q; omega⟩
      · -- no
        try simp only [mOr, mAnd, decide_eq_true_eq, decide_eq_false_iff_not, beq_iff_eq, beq_eq_false_iff_ne, bne_iff_ne, ne_eq, bne_eq_false_iff_eq, Bool.or_eq_true, Bool.or_eq_false_iff, Bool.and_eq_true, Bool.and_eq_false_iff, Bool.not_eq_true', Bool.not_eq_false', Int.not_lt, Int.not_le, gt_iff_lt, ge_iff_le] at h157
        refine awp_exit ?_
        refine awp_seq ?_
        have hqe : (hereS n bs p).take q = (hereS n bs p) := List.take_of_length_le (by omega)
        simp only [hqe]
        refine awp_region ?_
        refine seqP (moveT rfl) rfl ?_
        refine ops_nil ?_
        refine awp_if rfl (fun h183 => ?_) (fun h183 => ?_)
        · -- yes
          have hH1 : hereS n bs (p + 1) = (hereS n bs p) ++ [(sendB n b)] := by show (if _ then _ else _) = _; rw [hb, if_pos h183]
          refine awp_region ?_
          refine seqP (moveT rfl) rfl ?_
          refine seqP (loadVsT rfl rfl rfl rfl) rfl ?_
          refine seqP (litT rfl rfl rfl rfl rfl rfl rfl rfl) rfl ?_
          refine seq2 (appendT (b' := 187) rfl rfl rfl rfl rfl rfl (List.length_map ..) (fun row h => by simp at h; subst h; rfl) (show (hereS n bs p).length + 1 = (hereS n bs (p + 1)).length by rw [hH1]; simp) (show _ = (hereS n bs (p + 1)).map encS by rw [hH1, List.map_append]; rfl) (by omega) (by omega)) rfl rfl ?_
          refine seqP (assignT rfl) rfl ?_
          refine ops_nil ?_
          refine awp_region ?_
          refine seqP (intnT rfl rfl rfl (wrap_succ (by omega))) rfl ?_
          refine seqP (moveT rfl) rfl ?_
          refine ops_nil ?_
          refine ⟨(p + 1), (by show p + 1 ≤ _; omega), (turn_ren (fun n => bif Nat.beq n 3900 then 187 else n) ⟨rfl, rfl, rfl, rfl, rfl, rfl, rfl, rfl, rfl, rfl, rfl, rfl, rfl, rfl, rfl, rfl, trivial⟩ ⟨rfl, rfl, rfl, rfl, rfl, trivial⟩ rfl rfl), by show bs.length - (p + 1) < bs.length - p; omega⟩
        · -- no
          have hH1 : hereS n bs (p + 1) = (hereS n bs p) := by show (if _ then _ else _) = _; rw [hb, if_neg (by rw [h183]; decide)]
          refine awp_skip ?_
          refine awp_region ?_
          refine seqP (intnT rfl rfl rfl (wrap_succ (by omega))) rfl ?_
          refine seqP (moveT rfl) rfl ?_
          refine ops_nil ?_
          refine ⟨(p + 1), (by show p + 1 ≤ _; omega), (turn_sub ⟨⟨rfl, rfl, rfl, rfl, rfl, rfl, rfl, rfl, rfl, rfl, (by rw [hH1]; rfl), rfl, rfl, rfl, rfl, rfl, trivial⟩, ⟨rfl, rfl, rfl, rfl, (by rw [hH1]; rfl), trivial⟩⟩), by show bs.length - (p + 1) < bs.length - p; omega⟩
    · -- no
      try simp only [mOr, mAnd, decide_eq_true_eq, decide_eq_false_iff_not, beq_iff_eq, beq_eq_false_iff_ne, bne_iff_ne, ne_eq, bne_eq_false_iff_eq, Bool.or_eq_true, Bool.or_eq_false_iff, Bool.and_eq_true, Bool.and_eq_false_iff, Bool.not_eq_true', Bool.not_eq_false', Int.not_lt, Int.not_le, gt_iff_lt, ge_iff_le] at h130
      refine awp_exit ?_
      refine awp_seq ?_
      refine awp_seq ?_
      obtain rfl : p = bs.length := by omega
      obtain ⟨H, hH⟩ : ∃ H, hereS n bs bs.length = H := ⟨_, rfl⟩
      have hHo : HereOk n bs.length H := hH ▸ here_ok hn1 hbo bs.length (Nat.le_refl _)
      have hHl : H.length ≤ 16 := Nat.le_trans hHo.len hbl
      have hL : ListOk A H := hHo.list (by omega) nA
      have tB : Trans n to d A B H := ⟨kB, hL, fun s hs => ((hHo.ok s hs).2.2.1).2, hd0, by omega⟩
      have tC : Trans n (List.range n) d A C H := ⟨kC, hL, fun s hs => ((hHo.ok s hs).2.2.1).2, hd0, by omega⟩
      simp only [hH]
      refine awp_turn (freezeT 27 3900 rfl rfl (List.length_map ..)) ?_
      refine awp_turn (turn_bind 28 3901 4 (by rfl) (by rfl)) ?_
      refine awp_turn (turn_bind 29 3902 4 (by rfl) (by rfl)) ?_
      refine awp_region ?_
      refine seqP (moveT rfl) rfl ?_
      refine seqP (lenRT rfl rfl (List.length_map ..)) rfl ?_
      refine seqP (moveT rfl) rfl ?_
      refine ops_nil ?_
      refine awp_block ?_
      refine awp_loop (ι := Nat) (fun p => ⟨[(3, .d (.s (draws.map encBool))), (5, .d (.v (.int .u8 way))), (19, .d (vi (n : Nat))), (20, .d (vi d)), (21, .d (.s ((ints (List.range n)).map encInt))), (22, .d (.s ((ints to).map encInt))), (23, .ptr 23 0 0 0), (24, .ptr 24 0 0 0), (25, .ptr 25 0 0 0), (26, .ptr 26 0 0 0), (27, .d (.s (H.map encS))), (28, .own 3901 0 4 p), (29, .own 3902 0 4 p), (189, .d (.s (H.map encS))), (190, .d (vi H.length)), (191, .d (vi (p : Nat)))], [(23, some (.var A.cells)), (24, some (.var B.cells)), (25, some (.var A.cells)), (26, some (.var C.cells)), (3901, some (.row 4 (((thereS to d H).take p).map encS))), (3902, some (.row 4 (((sameS n d H).take p).map encS)))]⟩) (fun p => p ≤ H.length) (fun p => H.length - p) 0 (Nat.zero_le _) (turn_sub ⟨⟨rfl, rfl, rfl, rfl, rfl, rfl, rfl, rfl, rfl, rfl, rfl, rfl, rfl, rfl, rfl, rfl, trivial⟩, ⟨rfl, rfl, rfl, rfl, rfl, rfl, trivial⟩⟩) (fun p hP => ?_)
      refine awp_seq ?_
      refine awp_region ?_
      refine seqP (intTT rfl rfl rfl) rfl ?_
      refine ops_nil ?_
      refine awp_seq ?_
      refine awp_if rfl (fun h192 => ?_) (fun h192 => ?_)
      · -- yes
        try simp only [mOr, mAnd, decide_eq_true_eq, decide_eq_false_iff_not, beq_iff_eq, beq_eq_false_iff_ne, bne_iff_ne, ne_eq, bne_eq_false_iff_eq, Bool.or_eq_true, Bool.or_eq_false_iff, Bool.and_eq_true, Bool.and_eq_false_iff, Bool.not_eq_true', Bool.not_eq_false', Int.not_lt, Int.not_le, gt_iff_lt, ge_iff_le] at h192
        refine awp_skip ?_
        refine awp_seq ?_
        refine awp_block ?_
        refine awp_seq ?_
        have hpl : p < H.length := by omega
        have hpq : H.length - 1 - p < H.length := by omega
        obtain ⟨s, hs⟩ : ∃ s, H.getD p default = s := ⟨_, rfl⟩
        obtain ⟨t, ht⟩ : ∃ t, H.getD (H.length - 1 - p) default = t := ⟨_, rfl⟩
        obtain ⟨g1, ⟨g2, g3⟩, ⟨g4, g5⟩, g6, g7⟩ := hs ▸ hHo.ok _ (mem_getD hpl)
        obtain ⟨k1, ⟨k2, k3⟩, ⟨k4, k5⟩, k6, k7⟩ := ht ▸ hHo.ok _ (mem_getD hpq)
        have hsr := same_row (n := n) (d := d) hpl hs g1
        have htr := there_row (to := to) (d := d) hpl ht
        refine awp_region ?_
        refine seqP (moveT rfl) rfl ?_
        refine seqP (assignT rfl) rfl ?_
        refine ops_nil ?_
        refine awp_seq ?_
        refine awp_any [0, 0, 3, 7, 0, 0, 32, 96, 0, 480, 1008, 2032, 0, 0, 12303, 32767] rfl ?_
        refine .step (rb := []) (wb := []) (ml := []) (moveT rfl) rfl rfl rfl rfl rfl trivial ?_
        refine .step (rb := []) (wb := []) (ml := []) (moveT rfl) rfl rfl rfl rfl rfl trivial ?_
        refine .step (rb := []) (wb := []) (ml := []) (indexRT rfl rfl rfl (by omega) (show _ = some (encS s) from hs ▸ idx_getD (z := default) hpl) rfl) rfl rfl rfl rfl rfl trivial ?_
        refine .step (rb := []) (wb := []) (ml := []) (loadRsT rfl rfl rfl rfl rfl) rfl rfl rfl rfl rfl trivial ?_
        refine .step (rb := []) (wb := []) (ml := []) (moveT rfl) rfl rfl rfl rfl rfl trivial ?_
        refine .step (rb := []) (wb := []) (ml := []) (moveT rfl) rfl rfl rfl rfl rfl trivial ?_
        refine .step (rb := []) (wb := []) (ml := []) (lenRT rfl rfl (List.length_map ..)) rfl rfl rfl rfl rfl trivial ?_
        refine .step (rb := []) (wb := []) (ml := []) (intnT rfl rfl rfl (wrap_i64 ⟨by omega, by omega⟩)) rfl rfl rfl rfl rfl trivial ?_
        refine .step (rb := []) (wb := []) (ml := []) (moveT rfl) rfl rfl rfl rfl rfl trivial ?_
        refine .step (rb := []) (wb := []) (ml := []) (intnT rfl rfl rfl ((wrap_i64 ⟨by omega, by omega⟩).trans (show ((H.length : Nat) : Int) - 1 - ((p : Nat) : Int) = ((H.length - 1 - p : Nat) : Int) by omega))) rfl rfl rfl rfl rfl trivial ?_
        refine .step (rb := []) (wb := []) (ml := []) (indexRT rfl rfl rfl (by omega) (show _ = some (encS t) from ht ▸ idx_getD (z := default) hpq) rfl) rfl rfl rfl rfl rfl trivial ?_
        refine .step (rb := []) (wb := []) (ml := []) (loadRsT rfl rfl rfl rfl rfl) rfl rfl rfl rfl rfl trivial ?_
        refine .step (rb := []) (wb := [37]) (ml := [37]) (allocT rfl rfl) rfl rfl rfl rfl rfl ⟨rfl, trivial⟩ ?_
        refine .step (rb := []) (wb := [38]) (ml := [38]) (allocT rfl rfl) rfl rfl rfl rfl rfl ⟨rfl, trivial⟩ ?_
        refine .step (rb := [37]) (wb := [37]) (ml := []) (storeVT rfl rfl rfl rfl rfl rfl rfl) rfl rfl rfl rfl rfl ⟨rfl, trivial⟩ ?_
        refine .step (rb := [38]) (wb := [38]) (ml := []) (storeVT rfl rfl rfl rfl rfl rfl rfl) rfl rfl rfl rfl rfl ⟨rfl, trivial⟩ ?_
        refine .done (by decide +kernel) ?_
        refine awp_seq ?_
        refine awp_any [0, 1, 0, 7, 0, 16, 0, 112, 0, 256, 0, 1792, 0, 4096, 0, 28672, 12351, 77887, 209151, 471295, 999423, 2047999, 4194303, 8388607] rfl ?_
        refine .step (rb := []) (wb := []) (ml := [37]) (fieldPT rfl rfl rfl) rfl rfl rfl rfl rfl trivial ?_
        refine .step (rb := [37]) (wb := []) (ml := []) (loadVT rfl rfl rfl rfl) rfl rfl rfl rfl rfl trivial ?_
        refine .step (rb := []) (wb := []) (ml := []) (moveT rfl) rfl rfl rfl rfl rfl trivial ?_
        refine .step (rb := []) (wb := []) (ml := []) (intnT rfl rfl rfl (wrap_i64 ⟨by omega, by omega⟩)) rfl rfl rfl rfl rfl trivial ?_
        refine .step (rb := []) (wb := []) (ml := [37]) (fieldPT rfl rfl rfl) rfl rfl rfl rfl rfl trivial ?_
        refine .step (rb := [37]) (wb := []) (ml := []) (loadVT rfl rfl rfl rfl) rfl rfl rfl rfl rfl trivial ?_
        refine .step (rb := []) (wb := []) (ml := []) (moveT rfl) rfl rfl rfl rfl rfl trivial ?_
        refine .step (rb := []) (wb := []) (ml := []) (intnT rfl rfl rfl (wrap_i64 ⟨by omega, by omega⟩)) rfl rfl rfl rfl rfl trivial ?_
        refine .step (rb := []) (wb := []) (ml := [38]) (fieldPT rfl rfl rfl) rfl rfl rfl rfl rfl trivial ?_
        refine .step (rb := [38]) (wb := []) (ml := []) (loadVT rfl rfl rfl rfl) rfl rfl rfl rfl rfl trivial ?_
        refine .step (rb := []) (wb := []) (ml := []) (moveT rfl) rfl rfl rfl rfl rfl trivial ?_
        refine .step (rb := []) (wb := []) (ml := []) (intnT rfl rfl rfl (wrap_i64 ⟨by omega, by omega⟩)) rfl rfl rfl rfl rfl trivial ?_
        refine .step (rb := []) (wb := []) (ml := [38]) (fieldPT rfl rfl rfl) rfl rfl rfl rfl rfl trivial ?_
        refine .step (rb := [38]) (wb := []) (ml := []) (loadVT rfl rfl rfl rfl) rfl rfl rfl rfl rfl trivial ?_
        refine .step (rb := []) (wb := []) (ml := []) (moveT rfl) rfl rfl rfl rfl rfl trivial ?_
        refine .step (rb := []) (wb := []) (ml := []) (intnT rfl rfl rfl (wrap_i64 ⟨by omega, by omega⟩)) rfl rfl rfl rfl rfl trivial ?_
        refine .step (rb := []) (wb := []) (ml := [37]) (fieldPT rfl rfl rfl) rfl rfl rfl rfl rfl trivial ?_
        refine .step (rb := [37]) (wb := [37]) (ml := []) (storeVT rfl rfl rfl rfl rfl rfl rfl) rfl rfl rfl rfl rfl ⟨rfl, trivial⟩ ?_
        refine .step (rb := []) (wb := []) (ml := [37]) (fieldPT rfl rfl rfl) rfl rfl rfl rfl rfl trivial ?_
        refine .step (rb := [37]) (wb := [37]) (ml := []) (storeVT rfl rfl rfl rfl rfl rfl rfl) rfl rfl rfl rfl rfl ⟨rfl, trivial⟩ ?_
        refine .step (rb := []) (wb := []) (ml := [38]) (fieldPT rfl rfl rfl) rfl rfl rfl rfl rfl trivial ?_
        refine .step (rb := [38]) (wb := [38]) (ml := []) (storeVT rfl rfl rfl rfl rfl rfl rfl) rfl rfl rfl rfl rfl ⟨rfl, trivial⟩ ?_
        refine .step (rb := []) (wb := []) (ml := [38]) (fieldPT rfl rfl rfl) rfl rfl rfl rfl rfl trivial ?_
        refine .step (rb := [38]) (wb := [38]) (ml := []) (storeVT rfl rfl rfl rfl rfl rfl rfl) rfl rfl rfl rfl rfl ⟨rfl, trivial⟩ ?_
        refine .done (by decide +kernel) ?_
        refine awp_seq ?_
        refine awp_region ?_
        refine seqP (moveT rfl) rfl ?_
        refine seqP (fieldPT rfl rfl rfl) rfl ?_
        refine seqP (loadVT rfl rfl rfl rfl) rfl ?_
        refine seqP (indexRT rfl rfl rfl (by omega) (hix t.node k1) rfl) rfl ?_
        refine seqP (loadRT rfl rfl rfl) rfl ?_
        refine seqP (fieldPT rfl rfl rfl) rfl ?_
        refine seq0 (storeVT rfl rfl rfl rfl rfl rfl rfl) ?_
        refine ops_nil ?_
        refine awp_any [0, 0, 2, 7, 0, 0, 32, 127, 255, 511] rfl ?_
        refine .step (rb := []) (wb := []) (ml := [3902]) (moveT rfl) rfl rfl rfl rfl rfl trivial ?_
        refine .step (rb := [37]) (wb := []) (ml := []) (loadVsT rfl rfl rfl rfl) rfl rfl rfl rfl rfl trivial ?_
        refine .step (rb := []) (wb := []) (ml := []) (litT rfl rfl rfl rfl rfl rfl rfl rfl) rfl rfl rfl rfl rfl trivial ?_
        refine .step (rb := [3902]) (wb := [235, 3902]) (ml := [235]) (appendT (b' := 235) rfl rfl rfl rfl rfl rfl (by simp only [List.length_map, List.length_take, same_len]; omega) (fun row h => by simp at h; subst h; rfl) (show p + 1 = p + 1 from rfl) (show _ = ((sameS n d H).take (p + 1)).map encS from take_map_succ (f := encS) hsr) (by omega) (by omega)) rfl rfl rfl rfl rfl ⟨rfl, trivial⟩ ?_
        refine .step (rb := []) (wb := []) (ml := [3901]) (moveT rfl) rfl rfl rfl rfl rfl trivial ?_
        refine .step (rb := [38]) (wb := []) (ml := []) (loadVsT rfl rfl rfl rfl) rfl rfl rfl rfl rfl trivial ?_
        refine .step (rb := []) (wb := []) (ml := []) (litT rfl rfl rfl rfl rfl rfl rfl rfl) rfl rfl rfl rfl rfl trivial ?_
        refine .step (rb := [3901]) (wb := [239, 3901]) (ml := [239]) (appendT (b' := 239) rfl rfl rfl rfl rfl rfl (by simp only [List.length_map, List.length_take, there_len]; omega) (fun row h => by simp at h; subst h; rfl) (show p + 1 = p + 1 from rfl) (show _ = ((thereS to d H).take (p + 1)).map encS from take_map_succ (f := encS) htr) (by omega) (by omega)) rfl rfl rfl rfl rfl ⟨rfl, trivial⟩ ?_
        refine .step (rb := []) (wb := []) (ml := [235]) (assignT rfl) rfl rfl rfl rfl rfl trivial ?_
        refine .step (rb := []) (wb := []) (ml := [239]) (assignT rfl) rfl rfl rfl rfl rfl trivial ?_
        refine .done (by decide +kernel) ?_
        refine awp_region ?_
        refine seqP (intnT rfl rfl rfl (wrap_succ (by omega))) rfl ?_
        refine seqP (moveT rfl) rfl ?_
        refine ops_nil ?_
        refine ⟨(p + 1), (by show p + 1 ≤ _; omega), (turn_ren (fun n => bif Nat.beq n 3901 then 239 else bif Nat.beq n 3902 then 235 else n) ⟨rfl, rfl, rfl, rfl, rfl, rfl, rfl, rfl, rfl, rfl, rfl, rfl, rfl, rfl, rfl, rfl, trivial⟩ ⟨rfl, rfl, rfl, rfl, rfl, rfl, trivial⟩ rfl rfl), by show H.length - (p + 1) < H.length - p; omega⟩
      · -- no
        try simp only [mOr, mAnd, decide_eq_true_eq, decide_eq_false_iff_not, beq_iff_eq, beq_eq_false_iff_ne, bne_iff_ne, ne_eq, bne_eq_false_iff_eq, Bool.or_eq_true, Bool.or_eq_false_iff, Bool.and_eq_true, Bool.and_eq_false_iff, Bool.not_eq_true', Bool.not_eq_false', Int.not_lt, Int.not_le, gt_iff_lt, ge_iff_le] at h192
        refine awp_exit ?_
        refine awp_seq ?_
        refine awp_seq ?_
        obtain rfl : p = H.length := by omega
        have e1 : (thereS to d H).take H.length = thereS to d H := List.take_of_length_le (by rw [there_len]; omega)
        have e2 : (sameS n d H).take H.length = sameS n d H := List.take_of_length_le (by rw [same_len]; omega)
        simp only [e1, e2]
        refine awp_turn (freezeT 28 3901 rfl rfl (by simp only [List.length_map, there_len])) ?_
        refine awp_turn (freezeT 29 3902 rfl rfl (by simp only [List.length_map, same_len])) ?_
        refine awp_region ?_
        refine seqP (assignT rfl) rfl ?_
        refine ops_nil ?_
        refine awp_block ?_
        refine awp_loop (ι := Nat) (fun p => ⟨[(3, .d (.s (draws.map encBool))), (5, .d (.v (.int .u8 way))), (19, .d (vi (n : Nat))), (20, .d (vi d)), (21, .d (.s ((ints (List.range n)).map encInt))), (22, .d (.s ((ints to).map encInt))), (23, .ptr 23 0 0 0), (24, .ptr 24 0 0 0), (25, .ptr 25 0 0 0), (26, .ptr 26 0 0 0), (27, .d (.s (H.map encS))), (28, .d (.s ((thereS to d H).map encS))), (29, .d (.s ((sameS n d H).map encS))), (39, .d (vi (p : Nat)))], [(23, some (.var A.cells)), (24, some (.var B.cells)), (25, some (.var A.cells)), (26, some (.var C.cells))]⟩) (fun p => p ≤ n) (fun p => n - p) 0 (Nat.zero_le _) (turn_sub ⟨⟨rfl, rfl, rfl, rfl, rfl, rfl, rfl, rfl, rfl, rfl, rfl, rfl, rfl, rfl, trivial⟩, ⟨rfl, rfl, rfl, rfl, trivial⟩⟩) (fun p hP => ?_)
        refine awp_seq ?_
        refine awp_seq ?_
        refine awp_region ?_
        refine seqP (moveT rfl) rfl ?_
        refine seqP (moveT rfl) rfl ?_
        refine seqP (intTT rfl rfl rfl) rfl ?_
        refine ops_nil ?_
        refine awp_if rfl (fun h243 => ?_) (fun h243 => ?_)
        · -- yes
          try simp only [mOr, mAnd, decide_eq_true_eq, decide_eq_false_iff_not, beq_iff_eq, beq_eq_false_iff_ne, bne_iff_ne, ne_eq, bne_eq_false_iff_eq, Bool.or_eq_true, Bool.or_eq_false_iff, Bool.and_eq_true, Bool.and_eq_false_iff, Bool.not_eq_true', Bool.not_eq_false', Int.not_lt, Int.not_le, gt_iff_lt, ge_iff_le] at h243
          refine awp_skip ?_
          refine awp_seq ?_
          refine awp_block ?_
          refine awp_seq ?_
          have hpn : p < n := by omega
          have hS := kB.neigh hpn
          have hnl := neigh_le kB.n2 (j := at' to p)
          refine awp_region ?_
          refine seqP (loadVsT rfl rfl rfl rfl) rfl ?_
          refine seqP (moveT rfl) rfl ?_
          refine seqP (callT rfl rfl rfl (callB_of Try.func10 rfl) (sp10 A p oA (na p hpn)) trivial) rfl ?_
          refine seqP (moveT rfl) rfl ?_
          refine seqP (extractT rfl rfl) rfl ?_
          refine seqP (extractT rfl rfl) rfl ?_
          refine seqP (assignT rfl) rfl ?_
          refine seqP (assignT rfl) rfl ?_
          refine ops_nil ?_
          refine awp_seq ?_
          refine awp_any [0, 0, 0, 6, 14, 31, 63, 127, 127, 255, 1023] rfl ?_
          refine .step (rb := [24]) (wb := []) (ml := []) (loadVsT rfl rfl rfl rfl) rfl rfl rfl rfl rfl trivial ?_
          refine .step (rb := []) (wb := []) (ml := []) (moveT rfl) rfl rfl rfl rfl rfl trivial ?_
          refine .step (rb := []) (wb := []) (ml := []) (moveT rfl) rfl rfl rfl rfl rfl trivial ?_
          refine .step (rb := []) (wb := []) (ml := []) (indexRT rfl rfl rfl (by omega) (hix p hpn) rfl) rfl rfl rfl rfl rfl trivial ?_
          refine .step (rb := []) (wb := []) (ml := []) (loadRT rfl rfl rfl) rfl rfl rfl rfl rfl trivial ?_
          refine .step (rb := []) (wb := []) (ml := []) (callT rfl rfl rfl (callB_of Try.func10 rfl) (sp10 B (at' to p) kB.ok2 (nb p hpn)) trivial) rfl rfl rfl rfl rfl trivial ?_
          refine .step (rb := []) (wb := []) (ml := []) (moveT rfl) rfl rfl rfl rfl rfl trivial ?_
          refine .step (rb := []) (wb := []) (ml := []) (extractT rfl rfl) rfl rfl rfl rfl rfl trivial ?_
          refine .step (rb := []) (wb := []) (ml := []) (extractT rfl rfl) rfl rfl rfl rfl rfl trivial ?_
          refine .step (rb := []) (wb := []) (ml := []) (assignT rfl) rfl rfl rfl rfl rfl trivial ?_
          refine .step (rb := []) (wb := []) (ml := []) (assignT rfl) rfl rfl rfl rfl rfl trivial ?_
          refine .done (by decide +kernel) ?_
          refine awp_seq ?_
          refine awp_seq ?_
          refine awp_region ?_
          refine seqP (moveT rfl) rfl ?_
          refine seqP (neqFT rfl rfl rfl) rfl ?_
          refine seqP (moveT rfl) rfl ?_
          refine seqGy rfl rfl ?_
          refine seqP (moveT rfl) rfl ?_
          refine seqGy rfl rfl ?_
          refine seqP (neqFT rfl rfl rfl) rfl ?_
          refine seqP (pickNT rfl rfl) rfl ?_
          refine seqP (moveT rfl) rfl ?_
          refine seqGy rfl rfl ?_
          refine seqP (moveT rfl) rfl ?_
          refine seqGy rfl rfl ?_
          refine seqP (moveT rfl) rfl ?_
          refine seqGy rfl rfl ?_
          refine seqP (moveT rfl) rfl ?_
          refine seqGy rfl rfl ?_
          refine seqP (callT rfl rfl rfl (callB_of Try.func11 rfl) (sp11 _ _ _ hS.len (by omega) (by rw [ints_len, hpt.len]; omega) hS.asc hS.mem) trivial) rfl ?_
          refine seqGy rfl rfl ?_
          refine seqP (notYT rfl) rfl ?_
          refine seqP (pickNT rfl rfl) rfl ?_
          refine ops_nil ?_
          refine awp_ifN rfl ?_
          refine awp_skip ?_
          refine awp_seq ?_
          refine awp_region ?_
          refine seqP (assignT rfl) rfl ?_
          refine ops_nil ?_
          refine awp_block ?_
          refine awp_loop (ι := Nat) (fun q => ⟨[(3, .d (.s (draws.map encBool))), (5, .d (.v (.int .u8 way))), (19, .d (vi (n : Nat))), (20, .d (vi d)), (21, .d (.s ((ints (List.range n)).map encInt))), (22, .d (.s ((ints to).map encInt))), (23, .ptr 23 0 0 0), (24, .ptr 24 0 0 0), (25, .ptr 25 0 0 0), (26, .ptr 26 0 0 0), (27, .d (.s (H.map encS))), (28, .d (.s ((thereS to d H).map encS))), (29, .d (.s ((sameS n d H).map encS))), (39, .d (vi (p : Nat))), (44, .d (vi (q : Nat)))], [(23, some (.var A.cells)), (24, some (.var B.cells)), (25, some (.var A.cells)), (26, some (.var C.cells))]⟩) (fun q => q ≤ n) (fun q => n - q) 0 (Nat.zero_le _) (turn_sub ⟨⟨rfl, rfl, rfl, rfl, rfl, rfl, rfl, rfl, rfl, rfl, rfl, rfl, rfl, rfl, rfl, trivial⟩, ⟨rfl, rfl, rfl, rfl, trivial⟩⟩) (fun q hQ => ?_)
          refine awp_seq ?_
          refine awp_seq ?_
          refine awp_region ?_
          refine seqP (moveT rfl) rfl ?_
          refine seqP (moveT rfl) rfl ?_
          refine seqP (intTT rfl rfl rfl) rfl ?_
          refine ops_nil ?_
          refine awp_if rfl (fun h276 => ?_) (fun h276 => ?_)
          · -- yes
            try simp only [mOr, mAnd, decide_eq_true_eq, decide_eq_false_iff_not, beq_iff_eq, beq_eq_false_iff_ne, bne_iff_ne, ne_eq, bne_eq_false_iff_eq, Bool.or_eq_true, Bool.or_eq_false_iff, Bool.and_eq_true, Bool.and_eq_false_iff, Bool.not_eq_true', Bool.not_eq_false', Int.not_lt, Int.not_le, gt_iff_lt, ge_iff_le] at h276
            refine awp_skip ?_
            refine awp_seq ?_
            refine awp_block ?_
            refine awp_seq ?_
            have hqn : q < n := by omega
            refine awp_region ?_
            refine seqP (loadVsT rfl rfl rfl rfl) rfl ?_
            refine seqP (moveT rfl) rfl ?_
            refine seqP (moveT rfl) rfl ?_
            refine seqP (callT rfl rfl rfl (callB_of Try.func12 rfl) (sp12 A p q oA (na p hpn) (na q hqn)) trivial) rfl ?_
            refine seqP (moveT rfl) rfl ?_
            refine seqP (extractT rfl rfl) rfl ?_
            refine seqP (extractT rfl rfl) rfl ?_
            refine seqP (assignT rfl) rfl ?_
            refine seqP (assignT rfl) rfl ?_
            refine ops_nil ?_
            refine awp_seq ?_
            refine awp_any [0, 0, 0, 6, 14, 0, 0, 96, 224, 511, 1023, 2047, 2047, 4095, 16383] rfl ?_
            refine .step (rb := [24]) (wb := []) (ml := []) (loadVsT rfl rfl rfl rfl) rfl rfl rfl rfl rfl trivial ?_
            refine .step (rb := []) (wb := []) (ml := []) (moveT rfl) rfl rfl rfl rfl rfl trivial ?_
            refine .step (rb := []) (wb := []) (ml := []) (moveT rfl) rfl rfl rfl rfl rfl trivial ?_
            refine .step (rb := []) (wb := []) (ml := []) (indexRT rfl rfl rfl (by omega) (hix p hpn) rfl) rfl rfl rfl rfl rfl trivial ?_
            refine .step (rb := []) (wb := []) (ml := []) (loadRT rfl rfl rfl) rfl rfl rfl rfl rfl trivial ?_
            refine .step (rb := []) (wb := []) (ml := []) (moveT rfl) rfl rfl rfl rfl rfl trivial ?_
            refine .step (rb := []) (wb := []) (ml := []) (moveT rfl) rfl rfl rfl rfl rfl trivial ?_
            refine .step (rb := []) (wb := []) (ml := []) (indexRT rfl rfl rfl (by omega) (hix q hqn) rfl) rfl rfl rfl rfl rfl trivial ?_
            refine .step (rb := []) (wb := []) (ml := []) (loadRT rfl rfl rfl) rfl rfl rfl rfl rfl trivial ?_
            refine .step (rb := []) (wb := []) (ml := []) (callT rfl rfl rfl (callB_of Try.func12 rfl) (lvB p q hpn hqn) trivial) rfl rfl rfl rfl rfl trivial ?_
            refine .step (rb := []) (wb := []) (ml := []) (moveT rfl) rfl rfl rfl rfl rfl trivial ?_
            refine .step (rb := []) (wb := []) (ml := []) (extractT rfl rfl) rfl rfl rfl rfl rfl trivial ?_
            refine .step (rb := []) (wb := []) (ml := []) (extractT rfl rfl) rfl rfl rfl rfl rfl trivial ?_
            refine .step (rb := []) (wb := []) (ml := []) (assignT rfl) rfl rfl rfl rfl rfl trivial ?_
            refine .step (rb := []) (wb := []) (ml := []) (assignT rfl) rfl rfl rfl rfl rfl trivial ?_
            refine .done (by decide +kernel) ?_
            refine awp_seq ?_
            refine awp_region ?_
            refine seqP (loadVsT rfl rfl rfl rfl) rfl ?_
            refine seqP (moveT rfl) rfl ?_
            refine seqP (moveT rfl) rfl ?_
            refine seqP (callT rfl rfl rfl (callB_of Try.func13 rfl) (sp13 A p q oA (na q hqn) (na p hpn)) trivial) rfl ?_
            refine seqP (moveT rfl) rfl ?_
            refine seqP (extractT rfl rfl) rfl ?_
            refine seqP (extractT rfl rfl) rfl ?_
            refine seqP (assignT rfl) rfl ?_
            refine seqP (assignT rfl) rfl ?_
            refine ops_nil ?_
            refine awp_seq ?_
            refine awp_any [0, 0, 0, 6, 14, 0, 0, 96, 224, 511, 1023, 2047, 2047, 4095, 16383] rfl ?_
            refine .step (rb := [24]) (wb := []) (ml := []) (loadVsT rfl rfl rfl rfl) rfl rfl rfl rfl rfl trivial ?_
            refine .step (rb := []) (wb := []) (ml := []) (moveT rfl) rfl rfl rfl rfl rfl trivial ?_
            refine .step (rb := []) (wb := []) (ml := []) (moveT rfl) rfl rfl rfl rfl rfl trivial ?_
            refine .step (rb := []) (wb := []) (ml := []) (indexRT rfl rfl rfl (by omega) (hix p hpn) rfl) rfl rfl rfl rfl rfl trivial ?_
            refine .step (rb := []) (wb := []) (ml := []) (loadRT rfl rfl rfl) rfl rfl rfl rfl rfl trivial ?_
            refine .step (rb := []) (wb := []) (ml := []) (moveT rfl) rfl rfl rfl rfl rfl trivial ?_
            refine .step (rb := []) (wb := []) (ml := []) (moveT rfl) rfl rfl rfl rfl rfl trivial ?_
            refine .step (rb := []) (wb := []) (ml := []) (indexRT rfl rfl rfl (by omega) (hix q hqn) rfl) rfl rfl rfl rfl rfl trivial ?_
            refine .step (rb := []) (wb := []) (ml := []) (loadRT rfl rfl rfl) rfl rfl rfl rfl rfl trivial ?_
            refine .step (rb := []) (wb := []) (ml := []) (callT rfl rfl rfl (callB_of Try.func13 rfl) (hrB p q hpn hqn) trivial) rfl rfl rfl rfl rfl trivial ?_
            refine .step (rb := []) (wb := []) (ml := []) (moveT rfl) rfl rfl rfl rfl rfl trivial ?_
            refine .step (rb := []) (wb := []) (ml := []) (extractT rfl rfl) rfl rfl rfl rfl rfl trivial ?_
            refine .step (rb := []) (wb := []) (ml := []) (extractT rfl rfl) rfl rfl rfl rfl rfl trivial ?_
            refine .step (rb := []) (wb := []) (ml := []) (assignT rfl) rfl rfl rfl rfl rfl trivial ?_
            refine .step (rb := []) (wb := []) (ml := []) (assignT rfl) rfl rfl rfl rfl rfl trivial ?_
            refine .done (by decide +kernel) ?_
            refine awp_seq ?_
            refine awp_region ?_
            refine seqP (moveT rfl) rfl ?_
            refine seqP (neqFT rfl rfl rfl) rfl ?_
            refine seqP (moveT rfl) rfl ?_
            refine seqGy rfl rfl ?_
            refine seqP (moveT rfl) rfl ?_
            refine seqGy rfl rfl ?_
            refine seqP (neqFT rfl rfl rfl) rfl ?_
            refine seqP (pickNT rfl rfl) rfl ?_
            refine seqP (moveT rfl) rfl ?_
            refine seqGy rfl rfl ?_
            refine seqP (moveT rfl) rfl ?_
            refine seqGy rfl rfl ?_
            refine seqP (neqFT rfl rfl rfl) rfl ?_
            refine seqP (pickNT rfl rfl) rfl ?_
            refine seqP (moveT rfl) rfl ?_
            refine seqGy rfl rfl ?_
            refine seqP (moveT rfl) rfl ?_
            refine seqGy rfl rfl ?_
            refine seqP (neqFT rfl rfl rfl) rfl ?_
            refine seqP (pickNT rfl rfl) rfl ?_
            refine seqP (moveT rfl) rfl ?_
            refine seqGy rfl rfl ?_
            refine seqP (moveT rfl) rfl ?_
            refine seqGy rfl rfl ?_
            refine seqP (moveT rfl) rfl ?_
            refine seqGy rfl rfl ?_
            refine seqP (neqFT rfl rfl rfl) rfl ?_
            refine seqP (pickNT rfl rfl) rfl ?_
            refine seqP (moveT rfl) rfl ?_
            refine seqGy rfl rfl ?_
            refine seqP (moveT rfl) rfl ?_
            refine seqGy rfl rfl ?_
            refine seqP (moveT rfl) rfl ?_
            refine seqGy rfl rfl ?_
            refine seqP (boolneF rfl rfl rfl) rfl ?_
            refine seqP (pickNT rfl rfl) rfl ?_
            refine ops_nil ?_
            refine awp_ifN rfl ?_
            refine awp_skip ?_
            refine awp_region ?_
            refine seqP (moveT rfl) rfl ?_
            refine seqP (intnT rfl rfl rfl (wrap_succ (by omega))) rfl ?_
            refine seqP (assignT rfl) rfl ?_
            refine ops_nil ?_
            refine ⟨(q + 1), (by show q + 1 ≤ _; omega), (turn_sub ⟨⟨rfl, rfl, rfl, rfl, rfl, rfl, rfl, rfl, rfl, rfl, rfl, rfl, rfl, rfl, rfl, trivial⟩, ⟨rfl, rfl, rfl, rfl, trivial⟩⟩), by show n - (q + 1) < n - q; omega⟩
          · -- no
            try simp only [mOr, mAnd, decide_eq_true_eq, decide_eq_false_iff_not, beq_iff_eq, beq_eq_false_iff_ne, bne_iff_ne, ne_eq, bne_eq_false_iff_eq, Bool.or_eq_true, Bool.or_eq_false_iff, Bool.and_eq_true, Bool.and_eq_false_iff, Bool.not_eq_true', Bool.not_eq_false', Int.not_lt, Int.not_le, gt_iff_lt, ge_iff_le] at h276
            refine awp_exit ?_
            refine awp_region ?_
            refine seqP (moveT rfl) rfl ?_
            refine seqP (intnT rfl rfl rfl (wrap_succ (by omega))) rfl ?_
            refine seqP (assignT rfl) rfl ?_
            refine ops_nil ?_
            refine ⟨(p + 1), (by show p + 1 ≤ _; omega), (turn_sub ⟨⟨rfl, rfl, rfl, rfl, rfl, rfl, rfl, rfl, rfl, rfl, rfl, rfl, rfl, rfl, trivial⟩, ⟨rfl, rfl, rfl, rfl, trivial⟩⟩), by show n - (p + 1) < n - p; omega⟩
        · -- no
          try simp only [mOr, mAnd, decide_eq_true_eq, decide_eq_false_iff_not, beq_iff_eq, beq_eq_false_iff_ne, bne_iff_ne, ne_eq, bne_eq_false_iff_eq, Bool.or_eq_true, Bool.or_eq_false_iff, Bool.and_eq_true, Bool.and_eq_false_iff, Bool.not_eq_true', Bool.not_eq_false', Int.not_lt, Int.not_le, gt_iff_lt, ge_iff_le] at h243
          refine awp_exit ?_
          refine awp_seq ?_
          obtain ⟨R1, hR1⟩ : ∃ R, recvS (canS A H) [] n H.length = R := ⟨_, rfl⟩
          obtain ⟨R2, hR2⟩ : ∃ R, recvS (canS B (thereS to d H)) [] n H.length = R := ⟨_, rfl⟩
          obtain ⟨R3, hR3⟩ : ∃ R, recvS (canS A H) draws n H.length = R := ⟨_, rfl⟩
          have e1 : Spec Try.prog 14 [A.av, .d (.s (H.map encS)), .nil] [] (.tup [.d (.s ((R1.map ints).map encRow)), .d (vi 0)]) [] [] := by have := sp14c A H [] oA hL (by decide); rw [nA, hR1] at this; exact spec_wk rfl this
          have e2 : Spec Try.prog 14 [B.av, .d (.s ((thereS to d H).map encS)), .nil] [] (.tup [.d (.s ((R2.map ints).map encRow)), .d (vi 0)]) [] [] := by have := sp14c B (thereS to d H) [] kB.ok2 tB.there (by decide); rw [kB.n2, there_len, hR2] at this; exact spec_wk rfl this
          have e3 : Spec Try.prog 14 [A.av, .d (.s (H.map encS)), .d (.s (draws.map encBool))] [] (.tup [.d (.s ((R3.map ints).map encRow)), .d (vi 0)]) [] [] := by have := sp14c A H draws oA hL hdl; rwa [nA, hR3] at this
          have e4 : Spec Try.prog 14 [C.av, .d (.s ((sameS n d H).map encS)), .d (.s (draws.map encBool))] [] (.tup [.d (.s ((R3.map ints).map encRow)), .d (vi 0)]) [] [] := by have := sp14c C (sameS n d H) draws kC.ok2 tC.same hdl; rwa [kC.n2, same_len, tC.recvSame draws, hR3] at this
          have l1 : ((R1.map ints).map encRow).length = H.length := by rw [← hR1]; simp [recv_len]
          have l2 : ((R2.map ints).map encRow).length = H.length := by rw [← hR2]; simp [recv_len]
          have l3 : ((R3.map ints).map encRow).length = H.length := by rw [← hR3]; simp [recv_len]
          have row1 : ∀ i, i < H.length → ((R1.map ints).map encRow)[((i : Nat) : Int).toNat]? = some (encRow (ints (R1.getD i default))) := by rw [← hR1]; exact fun i hi => recv_row hi
          have row2 : ∀ i, i < H.length → ((R2.map ints).map encRow)[((i : Nat) : Int).toNat]? = some (encRow (ints (R2.getD i default))) := by rw [← hR2]; exact fun i hi => recv_row hi
          have row3 : ∀ i, i < H.length → ((R3.map ints).map encRow)[((i : Nat) : Int).toNat]? = some (encRow (ints (R3.getD i default))) := by rw [← hR3]; exact fun i hi => recv_row hi
          have s12 : ∀ i, i < H.length → SameSet to (ints (R1.getD i default)) (ints (R2.getD (H.length - 1 - i) default)) ∧ (ints (R2.getD (H.length - 1 - i) default)).length ≤ 1000 := by rw [← hR1, ← hR2]; exact fun i hi => ⟨tB.recv hi, by have := recv_le (can := canS B (thereS to d H)) (draws := []) (n := n) (m := H.length) (i := H.length - 1 - i) (by omega); omega⟩
          have s33 : ∀ i, i < H.length → SameSet (List.range n) (ints (R3.getD i default)) (ints (R3.getD i default)) ∧ (ints (R3.getD i default)).length ≤ 1000 := by rw [← hR3]; exact fun i hi => ⟨same_self hi, by have := recv_le (can := canS A H) (draws := draws) (n := n) (m := H.length) (i := i) hi; omega⟩
          refine awp_region ?_
          refine seqP (loadVsT rfl rfl rfl rfl) rfl ?_
          refine seqP (moveT rfl) rfl ?_
          refine seqP (callT rfl rfl rfl (callB_of Try.func14 rfl) e1 trivial) rfl ?_
          refine seqP (moveT rfl) rfl ?_
          refine seqP (extractT rfl rfl) rfl ?_
          refine seqP (extractT rfl rfl) rfl ?_
          refine seqP (assignT rfl) rfl ?_
          refine seqP (assignT rfl) rfl ?_
          refine ops_nil ?_
          refine awp_seq ?_
          refine awp_region ?_
          refine seqP (loadVsT rfl rfl rfl rfl) rfl ?_
          refine seqP (moveT rfl) rfl ?_
          refine seqP (callT rfl rfl rfl (callB_of Try.func14 rfl) e2 trivial) rfl ?_
          refine seqP (moveT rfl) rfl ?_
          refine seqP (extractT rfl rfl) rfl ?_
          refine seqP (extractT rfl rfl) rfl ?_
          refine seqP (assignT rfl) rfl ?_
          refine seqP (assignT rfl) rfl ?_
          refine ops_nil ?_
          refine awp_seq ?_
          refine awp_region ?_
          refine seqP (loadVsT rfl rfl rfl rfl) rfl ?_
          refine seqP (moveT rfl) rfl ?_
          refine seqP (moveT rfl) rfl ?_
          refine seqP (callT rfl rfl rfl (callB_of Try.func14 rfl) e3 trivial) rfl ?_
          refine seqP (moveT rfl) rfl ?_
          refine seqP (extractT rfl rfl) rfl ?_
          refine seqP (extractT rfl rfl) rfl ?_
          refine seqP (assignT rfl) rfl ?_
          refine seqP (assignT rfl) rfl ?_
          refine ops_nil ?_
          refine awp_seq ?_
          refine awp_region ?_
          refine seqP (loadVsT rfl rfl rfl rfl) rfl ?_
          refine seqP (moveT rfl) rfl ?_
          refine seqP (moveT rfl) rfl ?_
          refine seqP (callT rfl rfl rfl (callB_of Try.func14 rfl) e4 trivial) rfl ?_
          refine seqP (moveT rfl) rfl ?_
          refine seqP (extractT rfl rfl) rfl ?_
          refine seqP (extractT rfl rfl) rfl ?_
          refine seqP (assignT rfl) rfl ?_
          refine seqP (assignT rfl) rfl ?_
          refine ops_nil ?_
          refine awp_seq ?_
          refine awp_seq ?_
          refine awp_region ?_
          refine seqP (moveT rfl) rfl ?_
          refine seqP (neqFT rfl rfl rfl) rfl ?_
          refine seqP (moveT rfl) rfl ?_
          refine seqGy rfl rfl ?_
          refine seqP (moveT rfl) rfl ?_
          refine seqGy rfl rfl ?_
          refine seqP (neqFT rfl rfl rfl) rfl ?_
          refine seqP (pickNT rfl rfl) rfl ?_
          refine seqP (moveT rfl) rfl ?_
          refine seqGy rfl rfl ?_
          refine seqP (moveT rfl) rfl ?_
          refine seqGy rfl rfl ?_
          refine seqP (neqFT rfl rfl rfl) rfl ?_
          refine seqP (pickNT rfl rfl) rfl ?_
          refine seqP (moveT rfl) rfl ?_
          refine seqGy rfl rfl ?_
          refine seqP (moveT rfl) rfl ?_
          refine seqGy rfl rfl ?_
          refine seqP (neqFT rfl rfl rfl) rfl ?_
          refine seqP (pickNT rfl rfl) rfl ?_
          refine seqP (moveT rfl) rfl ?_
          refine seqGy rfl rfl ?_
          refine seqP (moveT rfl) rfl ?_
          refine seqGy rfl rfl ?_
          refine seqP (lenRT rfl rfl l1) rfl ?_
          refine seqGy rfl rfl ?_
          refine seqP (moveT rfl) rfl ?_
          refine seqGy rfl rfl ?_
          refine seqP (lenRT rfl rfl (List.length_map ..)) rfl ?_
          refine seqGy rfl rfl ?_
          refine seqP (neqFT rfl rfl rfl) rfl ?_
          refine seqP (pickNT rfl rfl) rfl ?_
          refine seqP (moveT rfl) rfl ?_
          refine seqGy rfl rfl ?_
          refine seqP (moveT rfl) rfl ?_
          refine seqGy rfl rfl ?_
          refine seqP (lenRT rfl rfl l2) rfl ?_
          refine seqGy rfl rfl ?_
          refine seqP (moveT rfl) rfl ?_
          refine seqGy rfl rfl ?_
          refine seqP (lenRT rfl rfl (List.length_map ..)) rfl ?_
          refine seqGy rfl rfl ?_
          refine seqP (neqFT rfl rfl rfl) rfl ?_
          refine seqP (pickNT rfl rfl) rfl ?_
          refine seqP (moveT rfl) rfl ?_
          refine seqGy rfl rfl ?_
          refine seqP (moveT rfl) rfl ?_
          refine seqGy rfl rfl ?_
          refine seqP (lenRT rfl rfl l3) rfl ?_
          refine seqGy rfl rfl ?_
          refine seqP (moveT rfl) rfl ?_
          refine seqGy rfl rfl ?_
          refine seqP (lenRT rfl rfl (List.length_map ..)) rfl ?_
          refine seqGy rfl rfl ?_
          refine seqP (neqFT rfl rfl rfl) rfl ?_
          refine seqP (pickNT rfl rfl) rfl ?_
          refine seqP (moveT rfl) rfl ?_
          refine seqGy rfl rfl ?_
          refine seqP (moveT rfl) rfl ?_
          refine seqGy rfl rfl ?_
          refine seqP (lenRT rfl rfl l3) rfl ?_
          refine seqGy rfl rfl ?_
          refine seqP (moveT rfl) rfl ?_
          refine seqGy rfl rfl ?_
          refine seqP (lenRT rfl rfl (List.length_map ..)) rfl ?_
          refine seqGy rfl rfl ?_
          refine seqP (neqFT rfl rfl rfl) rfl ?_
          refine seqP (pickNT rfl rfl) rfl ?_
          refine ops_nil ?_
          refine awp_ifN rfl ?_
          refine awp_skip ?_
          refine awp_seq ?_
          refine awp_seq ?_
          refine awp_region ?_
          refine seqP (moveT rfl) rfl ?_
          refine seqP (lenRT rfl rfl (List.length_map ..)) rfl ?_
          refine seqP (moveT rfl) rfl ?_
          refine ops_nil ?_
          refine awp_block ?_
          refine awp_loop (ι := Nat) (fun p => ⟨[(3, .d (.s (draws.map encBool))), (5, .d (.v (.int .u8 way))), (19, .d (vi (n : Nat))), (20, .d (vi d)), (21, .d (.s ((ints (List.range n)).map encInt))), (22, .d (.s ((ints to).map encInt))), (23, .ptr 23 0 0 0), (24, .ptr 24 0 0 0), (25, .ptr 25 0 0 0), (26, .ptr 26 0 0 0), (27, .d (.s (H.map encS))), (28, .d (.s ((thereS to d H).map encS))), (29, .d (.s ((sameS n d H).map encS))), (53, .d (.s ((R1.map ints).map encRow))), (55, .d (.s ((R2.map ints).map encRow))), (57, .d (.s ((R3.map ints).map encRow))), (59, .d (.s ((R3.map ints).map encRow))), (411, .d (.s (H.map encS))), (412, .d (vi H.length)), (413, .d (vi (p : Nat)))], [(23, some (.var A.cells)), (24, some (.var B.cells)), (25, some (.var A.cells)), (26, some (.var C.cells))]⟩) (fun p => p ≤ H.length) (fun p => H.length - p) 0 (Nat.zero_le _) (turn_sub ⟨⟨rfl, rfl, rfl, rfl, rfl, rfl, rfl, rfl, rfl, rfl, rfl, rfl, rfl, rfl, rfl, rfl, rfl, rfl, rfl, rfl, trivial⟩, ⟨rfl, rfl, rfl, rfl, trivial⟩⟩) (fun p hP => ?_)
          refine awp_seq ?_
          refine awp_region ?_
          refine seqP (intTT rfl rfl rfl) rfl ?_
          refine ops_nil ?_
          refine awp_seq ?_
          refine awp_if rfl (fun h414 => ?_) (fun h414 => ?_)
          · -- yes
            try simp only [mOr, mAnd, decide_eq_true_eq, decide_eq_false_iff_not, beq_iff_eq, beq_eq_false_iff_ne, bne_iff_ne, ne_eq, bne_eq_false_iff_eq, Bool.or_eq_true, Bool.or_eq_false_iff, Bool.and_eq_true, Bool.and_eq_false_iff, Bool.not_eq_true', Bool.not_eq_false', Int.not_lt, Int.not_le, gt_iff_lt, ge_iff_le] at h414
            refine awp_skip ?_
            refine awp_seq ?_
            refine awp_block ?_
            refine awp_seq ?_
            have hpl : p < H.length := by omega
            obtain ⟨s, hs⟩ : ∃ s, H.getD p default = s := ⟨_, rfl⟩
            obtain ⟨g1, ⟨g2, g3⟩, ⟨g4, g5⟩, g6, g7⟩ := hs ▸ hHo.ok _ (mem_getD hpl)
            have hS := (s12 p hpl).1
            have hSl := (s12 p hpl).2
            have hS3 := (s33 p hpl).1
            have hSl3 := (s33 p hpl).2
            refine awp_region ?_
            refine seqP (moveT rfl) rfl ?_
            refine seqP (assignT rfl) rfl ?_
            refine ops_nil ?_
            refine awp_seq ?_
            refine awp_seq ?_
            refine awp_any [0, 0, 3, 7, 0, 0, 32, 96, 0, 480, 1008, 2032, 0, 8191, 16383, 32767, 65535, 65535, 262143, 524287, 65535, 65535, 3211263, 7405567, 65535, 33554431, 67108863, 134217727] rfl ?_
            refine .step (rb := []) (wb := []) (ml := []) (moveT rfl) rfl rfl rfl rfl rfl trivial ?_
            refine .step (rb := []) (wb := []) (ml := []) (moveT rfl) rfl rfl rfl rfl rfl trivial ?_
            refine .step (rb := []) (wb := []) (ml := []) (indexRT rfl rfl rfl (by omega) (row1 p hpl) rfl) rfl rfl rfl rfl rfl trivial ?_
            refine .step (rb := []) (wb := []) (ml := []) (loadRT rfl rfl rfl) rfl rfl rfl rfl rfl trivial ?_
            refine .step (rb := []) (wb := []) (ml := []) (moveT rfl) rfl rfl rfl rfl rfl trivial ?_
            refine .step (rb := []) (wb := []) (ml := []) (moveT rfl) rfl rfl rfl rfl rfl trivial ?_
            refine .step (rb := []) (wb := []) (ml := []) (lenRT rfl rfl (List.length_map ..)) rfl rfl rfl rfl rfl trivial ?_
            refine .step (rb := []) (wb := []) (ml := []) (intnT rfl rfl rfl (wrap_i64 ⟨by omega, by omega⟩)) rfl rfl rfl rfl rfl trivial ?_
            refine .step (rb := []) (wb := []) (ml := []) (moveT rfl) rfl rfl rfl rfl rfl trivial ?_
            refine .step (rb := []) (wb := []) (ml := []) (intnT rfl rfl rfl ((wrap_i64 ⟨by omega, by omega⟩).trans (show ((H.length : Nat) : Int) - 1 - ((p : Nat) : Int) = ((H.length - 1 - p : Nat) : Int) by omega))) rfl rfl rfl rfl rfl trivial ?_
            refine .step (rb := []) (wb := []) (ml := []) (indexRT rfl rfl rfl (by omega) (row2 (H.length - 1 - p) (by omega)) rfl) rfl rfl rfl rfl rfl trivial ?_
            refine .step (rb := []) (wb := []) (ml := []) (loadRT rfl rfl rfl) rfl rfl rfl rfl rfl trivial ?_
            refine .step (rb := []) (wb := []) (ml := []) (moveT rfl) rfl rfl rfl rfl rfl trivial ?_
            refine .step (rb := []) (wb := []) (ml := []) (callT rfl rfl rfl (callB_of Try.func11 rfl) (sp11 _ _ _ hS.len (by omega) (by rw [ints_len, hpt.len]; omega) hS.asc hS.mem) trivial) rfl rfl rfl rfl rfl trivial ?_
            refine .step (rb := []) (wb := []) (ml := []) (notYT rfl) rfl rfl rfl rfl rfl trivial ?_
            refine .step (rb := []) (wb := []) (ml := []) (moveT rfl) rfl rfl rfl rfl rfl trivial ?_
            refine .step (rb := []) (wb := []) (ml := []) (moveT rfl) ⟨_, rfl, rfl⟩ rfl rfl rfl rfl trivial ?_
            refine .step (rb := []) (wb := []) (ml := []) (moveT rfl) ⟨_, rfl, rfl⟩ rfl rfl rfl rfl trivial ?_
            refine .step (rb := []) (wb := []) (ml := []) (indexRT rfl rfl rfl (by omega) (row3 p hpl) rfl) ⟨_, rfl, rfl⟩ rfl rfl rfl rfl trivial ?_
            refine .step (rb := []) (wb := []) (ml := []) (loadRT rfl rfl rfl) ⟨_, rfl, rfl⟩ rfl rfl rfl rfl trivial ?_
            refine .step (rb := []) (wb := []) (ml := []) (moveT rfl) ⟨_, rfl, rfl⟩ rfl rfl rfl rfl trivial ?_
            refine .step (rb := []) (wb := []) (ml := []) (moveT rfl) ⟨_, rfl, rfl⟩ rfl rfl rfl rfl trivial ?_
            refine .step (rb := []) (wb := []) (ml := []) (indexRT rfl rfl rfl (by omega) (row3 p hpl) rfl) ⟨_, rfl, rfl⟩ rfl rfl rfl rfl trivial ?_
            refine .step (rb := []) (wb := []) (ml := []) (loadRT rfl rfl rfl) ⟨_, rfl, rfl⟩ rfl rfl rfl rfl trivial ?_
            refine .step (rb := []) (wb := []) (ml := []) (moveT rfl) ⟨_, rfl, rfl⟩ rfl rfl rfl rfl trivial ?_
            refine .step (rb := []) (wb := []) (ml := []) (callT rfl rfl rfl (callB_of Try.func11 rfl) (sp11 _ _ _ hS3.len (by omega) (by rw [ints_len, hpr.len]; omega) hS3.asc hS3.mem) trivial) ⟨_, rfl, rfl⟩ rfl rfl rfl rfl trivial ?_
            refine .step (rb := []) (wb := []) (ml := []) (notYT rfl) ⟨_, rfl, rfl⟩ rfl rfl rfl rfl trivial ?_
            refine .step (rb := []) (wb := []) (ml := []) (pickNT rfl rfl) rfl rfl rfl rfl rfl trivial ?_
            refine .done (by decide +kernel) ?_
            refine awp_ifN rfl ?_
            refine awp_skip ?_
            refine awp_seq ?_
            refine awp_region ?_
            refine seqP (assignT rfl) rfl ?_
            refine ops_nil ?_
            refine awp_block ?_
            refine awp_loop (ι := Nat) (fun q => ⟨[(3, .d (.s (draws.map encBool))), (5, .d (.v (.int .u8 way))), (19, .d (vi (n : Nat))), (20, .d (vi d)), (21, .d (.s ((ints (List.range n)).map encInt))), (22, .d (.s ((ints to).map encInt))), (23, .ptr 23 0 0 0), (24, .ptr 24 0 0 0), (25, .ptr 25 0 0 0), (26, .ptr 26 0 0 0), (27, .d (.s (H.map encS))), (28, .d (.s ((thereS to d H).map encS))), (29, .d (.s ((sameS n d H).map encS))), (53, .d (.s ((R1.map ints).map encRow))), (55, .d (.s ((R2.map ints).map encRow))), (57, .d (.s ((R3.map ints).map encRow))), (59, .d (.s ((R3.map ints).map encRow))), (61, .d (vi (p : Nat))), (62, .d (vi (q : Nat))), (411, .d (.s (H.map encS))), (412, .d (vi H.length)), (413, .d (vi (p : Nat)))], [(23, some (.var A.cells)), (24, some (.var B.cells)), (25, some (.var A.cells)), (26, some (.var C.cells))]⟩) (fun q => q ≤ n) (fun q => n - q) 0 (Nat.zero_le _) (turn_sub ⟨⟨rfl, rfl, rfl, rfl, rfl, rfl, rfl, rfl, rfl, rfl, rfl, rfl, rfl, rfl, rfl, rfl, rfl, rfl, rfl, rfl, rfl, rfl, trivial⟩, ⟨rfl, rfl, rfl, rfl, trivial⟩⟩) (fun q hQ => ?_)
            refine awp_seq ?_
            refine awp_seq ?_
            refine awp_region ?_
            refine seqP (moveT rfl) rfl ?_
            refine seqP (moveT rfl) rfl ?_
            refine seqP (intTT rfl rfl rfl) rfl ?_
            refine ops_nil ?_
            refine awp_if rfl (fun h446 => ?_) (fun h446 => ?_)
            · -- yes
              try simp only [mOr, mAnd, decide_eq_true_eq, decide_eq_false_iff_not, beq_iff_eq, beq_eq_false_iff_ne, bne_iff_ne, ne_eq, bne_eq_false_iff_eq, Bool.or_eq_true, Bool.or_eq_false_iff, Bool.and_eq_true, Bool.and_eq_false_iff, Bool.not_eq_true', Bool.not_eq_false', Int.not_lt, Int.not_le, gt_iff_lt, ge_iff_le] at h446
              refine awp_skip ?_
              refine awp_seq ?_
              refine awp_block ?_
              refine awp_seq ?_
              have hqn : q < n := by omega
              have bzB : Spec Try.prog 15 [B.av, .d (.s ((thereS to d H).map encS)), .d (vi ((at' to q : Nat) : Int)), .d (vi (s.start + way + d))] [] (.tup [.d (vb (busyS A H q (s.start + way))), .d (vi 0)]) [] [] := by have := sp15 B (thereS to d H) (at' to q) (s.start + way + d) kB.ok2 tB.there (nb q hqn) (by omega) (by omega); rwa [tB.busy hqn] at this
              obtain ⟨T, hTb, hT1, hT2⟩ := tB.idles hqn (sp := 30 * way) (f := s.start + way) (by omega) (by omega) (by omega) (by omega)
              refine awp_region ?_
              refine seqP (moveT rfl) rfl ?_
              refine seqP (moveT rfl) rfl ?_
              refine seqP (indexRT rfl rfl rfl (by omega) (show _ = some (encS s) from hs ▸ idx_getD (z := default) hpl) rfl) rfl ?_
              refine seqP (fieldRT rfl rfl rfl) rfl ?_
              refine seqP (loadRT rfl rfl rfl) rfl ?_
              refine seqP (moveT rfl) rfl ?_
              refine seqP (convT rfl rfl rfl (wrap_i64 ⟨by omega, by omega⟩)) rfl ?_
              refine seqP (intnT rfl rfl rfl (wrap_i64 ⟨by omega, by omega⟩)) rfl ?_
              refine seqP (assignT rfl) rfl ?_
              refine ops_nil ?_
              refine awp_seq ?_
              refine awp_region ?_
              refine seqP (loadVsT rfl rfl rfl rfl) rfl ?_
              refine seqP (moveT rfl) rfl ?_
              refine seqP (moveT rfl) rfl ?_
              refine seqP (moveT rfl) rfl ?_
              refine seqP (callT rfl rfl rfl (callB_of Try.func15 rfl) (sp15 A H q (s.start + way) oA hL (na q hqn) (by omega) (by omega)) trivial) rfl ?_
              refine seqP (moveT rfl) rfl ?_
              refine seqP (extractT rfl rfl) rfl ?_
              refine seqP (extractT rfl rfl) rfl ?_
              refine seqP (assignT rfl) rfl ?_
              refine seqP (assignT rfl) rfl ?_
              refine ops_nil ?_
              refine awp_seq ?_
              refine awp_any [0, 0, 0, 0, 12, 28, 0, 0, 192, 511, 1023, 2047, 2047, 4095, 16383] rfl ?_
              refine .step (rb := [24]) (wb := []) (ml := []) (loadVsT rfl rfl rfl rfl) rfl rfl rfl rfl rfl trivial ?_
              refine .step (rb := []) (wb := []) (ml := []) (moveT rfl) rfl rfl rfl rfl rfl trivial ?_
              refine .step (rb := []) (wb := []) (ml := []) (moveT rfl) rfl rfl rfl rfl rfl trivial ?_
              refine .step (rb := []) (wb := []) (ml := []) (moveT rfl) rfl rfl rfl rfl rfl trivial ?_
              refine .step (rb := []) (wb := []) (ml := []) (indexRT rfl rfl rfl (by omega) (hix q hqn) rfl) rfl rfl rfl rfl rfl trivial ?_
              refine .step (rb := []) (wb := []) (ml := []) (loadRT rfl rfl rfl) rfl rfl rfl rfl rfl trivial ?_
              refine .step (rb := []) (wb := []) (ml := []) (moveT rfl) rfl rfl rfl rfl rfl trivial ?_
              refine .step (rb := []) (wb := []) (ml := []) (moveT rfl) rfl rfl rfl rfl rfl trivial ?_
              refine .step (rb := []) (wb := []) (ml := []) (intnT rfl rfl rfl (wrap_i64 ⟨by omega, by omega⟩)) rfl rfl rfl rfl rfl trivial ?_
              refine .step (rb := []) (wb := []) (ml := []) (callT rfl rfl rfl (callB_of Try.func15 rfl) bzB trivial) rfl rfl rfl rfl rfl trivial ?_
              refine .step (rb := []) (wb := []) (ml := []) (moveT rfl) rfl rfl rfl rfl rfl trivial ?_
              refine .step (rb := []) (wb := []) (ml := []) (extractT rfl rfl) rfl rfl rfl rfl rfl trivial ?_
              refine .step (rb := []) (wb := []) (ml := []) (extractT rfl rfl) rfl rfl rfl rfl rfl trivial ?_
              refine .step (rb := []) (wb := []) (ml := []) (assignT rfl) rfl rfl rfl rfl rfl trivial ?_
              refine .step (rb := []) (wb := []) (ml := []) (assignT rfl) rfl rfl rfl rfl rfl trivial ?_
              refine .done (by decide +kernel) ?_
              refine awp_seq ?_
              refine awp_region ?_
              refine seqP (loadVsT rfl rfl rfl rfl) rfl ?_
              refine seqP (moveT rfl) rfl ?_
              refine seqP (moveT rfl) rfl ?_
              refine seqP (moveT rfl) rfl ?_
              refine seqP (moveT rfl) rfl ?_
              refine seqP (convT rfl rfl rfl (wrap_i64 ⟨by omega, by omega⟩)) rfl ?_
              refine seqP (intnT rfl rfl rfl (wrap_i64 ⟨by omega, by omega⟩)) rfl ?_
              refine seqP (callT rfl rfl rfl (callB_of Try.func16 rfl) (sp16 A H q (s.start + way) (30 * way) T oA hL (na q hqn) (by omega) (by omega) (by omega) (by omega) hT1) trivial) rfl ?_
              refine seqP (moveT rfl) rfl ?_
              refine seqP (extractT rfl rfl) rfl ?_
              refine seqP (extractT rfl rfl) rfl ?_
              refine seqP (assignT rfl) rfl ?_
              refine seqP (assignT rfl) rfl ?_
              refine ops_nil ?_
              refine awp_seq ?_
              refine awp_any [0, 0, 0, 0, 12, 28, 0, 0, 192, 0, 512, 1536, 4095, 8191, 16383, 16383, 32767, 131071] rfl ?_
              refine .step (rb := [24]) (wb := []) (ml := []) (loadVsT rfl rfl rfl rfl) rfl rfl rfl rfl rfl trivial ?_
              refine .step (rb := []) (wb := []) (ml := []) (moveT rfl) rfl rfl rfl rfl rfl trivial ?_
              refine .step (rb := []) (wb := []) (ml := []) (moveT rfl) rfl rfl rfl rfl rfl trivial ?_
              refine .step (rb := []) (wb := []) (ml := []) (moveT rfl) rfl rfl rfl rfl rfl trivial ?_
              refine .step (rb := []) (wb := []) (ml := []) (indexRT rfl rfl rfl (by omega) (hix q hqn) rfl) rfl rfl rfl rfl rfl trivial ?_
              refine .step (rb := []) (wb := []) (ml := []) (loadRT rfl rfl rfl) rfl rfl rfl rfl rfl trivial ?_
              refine .step (rb := []) (wb := []) (ml := []) (moveT rfl) rfl rfl rfl rfl rfl trivial ?_
              refine .step (rb := []) (wb := []) (ml := []) (moveT rfl) rfl rfl rfl rfl rfl trivial ?_
              refine .step (rb := []) (wb := []) (ml := []) (intnT rfl rfl rfl (wrap_i64 ⟨by omega, by omega⟩)) rfl rfl rfl rfl rfl trivial ?_
              refine .step (rb := []) (wb := []) (ml := []) (moveT rfl) rfl rfl rfl rfl rfl trivial ?_
              refine .step (rb := []) (wb := []) (ml := []) (convT rfl rfl rfl (wrap_i64 ⟨by omega, by omega⟩)) rfl rfl rfl rfl rfl trivial ?_
              refine .step (rb := []) (wb := []) (ml := []) (intnT rfl rfl rfl (wrap_i64 ⟨by omega, by omega⟩)) rfl rfl rfl rfl rfl trivial ?_
              refine .step (rb := []) (wb := []) (ml := []) (callT rfl rfl rfl (callB_of Try.func16 rfl) (sp16 B (thereS to d H) (at' to q) (s.start + way + d) (30 * way) (T + d) kB.ok2 tB.there (nb q hqn) (by omega) (by omega) (by omega) (by omega) hT2) trivial) rfl rfl rfl rfl rfl trivial ?_
              refine .step (rb := []) (wb := []) (ml := []) (moveT rfl) rfl rfl rfl rfl rfl trivial ?_
              refine .step (rb := []) (wb := []) (ml := []) (extractT rfl rfl) rfl rfl rfl rfl rfl trivial ?_
              refine .step (rb := []) (wb := []) (ml := []) (extractT rfl rfl) rfl rfl rfl rfl rfl trivial ?_
              refine .step (rb := []) (wb := []) (ml := []) (assignT rfl) rfl rfl rfl rfl rfl trivial ?_
              refine .step (rb := []) (wb := []) (ml := []) (assignT rfl) rfl rfl rfl rfl rfl trivial ?_
              refine .done (by decide +kernel) ?_
              refine awp_seq ?_
              refine awp_region ?_
              refine seqP (moveT rfl) rfl ?_
              refine seqP (neqFT rfl rfl rfl) rfl ?_
              refine seqP (moveT rfl) rfl ?_
              refine seqGy rfl rfl ?_
              refine seqP (moveT rfl) rfl ?_
              refine seqGy rfl rfl ?_
              refine seqP (neqFT rfl rfl rfl) rfl ?_
              refine seqP (pickNT rfl rfl) rfl ?_
              refine seqP (moveT rfl) rfl ?_
              refine seqGy rfl rfl ?_
              refine seqP (moveT rfl) rfl ?_
              refine seqGy rfl rfl ?_
              refine seqP (neqFT rfl rfl rfl) rfl ?_
              refine seqP (pickNT rfl rfl) rfl ?_
              refine seqP (moveT rfl) rfl ?_
              refine seqGy rfl rfl ?_
              refine seqP (moveT rfl) rfl ?_
              refine seqGy rfl rfl ?_
              refine seqP (neqFT rfl rfl rfl) rfl ?_
              refine seqP (pickNT rfl rfl) rfl ?_
              refine seqP (moveT rfl) rfl ?_
              refine seqGy rfl rfl ?_
              refine seqP (moveT rfl) rfl ?_
              refine seqGy rfl rfl ?_
              refine seqP (moveT rfl) rfl ?_
              refine seqGy rfl rfl ?_
              refine seqP (boolneF rfl rfl rfl) rfl ?_
              refine seqP (pickNT rfl rfl) rfl ?_
              refine seqP (moveT rfl) rfl ?_
              refine seqGy rfl rfl ?_
              refine seqP (moveT rfl) rfl ?_
              refine seqGy rfl rfl ?_
              refine seqP (moveT rfl) rfl ?_
              refine seqGy rfl rfl ?_
              refine seqP (intnT rfl rfl rfl (wrap_i64 ⟨by omega, by omega⟩)) rfl ?_
              refine seqGy rfl rfl ?_
              refine seqP (moveT rfl) rfl ?_
              refine seqGy rfl rfl ?_
              refine seqP (neqFT rfl rfl rfl) rfl ?_
              refine seqP (pickNT rfl rfl) rfl ?_
              refine ops_nil ?_
              refine awp_ifN rfl ?_
              refine awp_skip ?_
              refine awp_region ?_
              refine seqP (moveT rfl) rfl ?_
              refine seqP (intnT rfl rfl rfl (wrap_succ (by omega))) rfl ?_
              refine seqP (assignT rfl) rfl ?_
              refine ops_nil ?_
              refine ⟨(q + 1), (by show q + 1 ≤ _; omega), (turn_sub ⟨⟨rfl, rfl, rfl, rfl, rfl, rfl, rfl, rfl, rfl, rfl, rfl, rfl, rfl, rfl, rfl, rfl, rfl, rfl, rfl, rfl, rfl, rfl, trivial⟩, ⟨rfl, rfl, rfl, rfl, trivial⟩⟩), by show n - (q + 1) < n - q; omega⟩
            · -- no
              try simp only [mOr, mAnd, decide_eq_true_eq, decide_eq_false_iff_not, beq_iff_eq, beq_eq_false_iff_ne, bne_iff_ne, ne_eq, bne_eq_false_iff_eq, Bool.or_eq_true, Bool.or_eq_false_iff, Bool.and_eq_true, Bool.and_eq_false_iff, Bool.not_eq_true', Bool.not_eq_false', Int.not_lt, Int.not_le, gt_iff_lt, ge_iff_le] at h446
              refine awp_exit ?_
              refine awp_region ?_
              refine seqP (intnT rfl rfl rfl (wrap_succ (by omega))) rfl ?_
              refine seqP (moveT rfl) rfl ?_
              refine ops_nil ?_
              refine ⟨(p + 1), (by show p + 1 ≤ _; omega), (turn_sub ⟨⟨rfl, rfl, rfl, rfl, rfl, rfl, rfl, rfl, rfl, rfl, rfl, rfl, rfl, rfl, rfl, rfl, rfl, rfl, rfl, rfl, trivial⟩, ⟨rfl, rfl, rfl, rfl, trivial⟩⟩), by show H.length - (p + 1) < H.length - p; omega⟩
          · -- no
            try simp only [mOr, mAnd, decide_eq_true_eq, decide_eq_false_iff_not, beq_iff_eq, beq_eq_false_iff_ne, bne_iff_ne, ne_eq, bne_eq_false_iff_eq, Bool.or_eq_true, Bool.or_eq_false_iff, Bool.and_eq_true, Bool.and_eq_false_iff, Bool.not_eq_true', Bool.not_eq_false', Int.not_lt, Int.not_le, gt_iff_lt, ge_iff_le] at h414
            refine awp_exit ?_
            refine awp_seq ?_
            refine awp_region ?_
            refine seqP (callT rfl rfl rfl (callB_of Try.func7 rfl) sp7 trivial) rfl ?_
            refine seqP (assignT rfl) rfl ?_
            refine ops_nil ?_
            refine awp_ret ?_
            refine ret_plain (resl_tmp rfl resl_nil) ?_ rfl
            rfl

end Go.Proofs.Ytencghlmckbmlaa
