/- Walks: airtime.Pick (printed by gen.py). -/
import Derived.Test.YtencghlmckbmlaaAir2
set_option linter.unusedVariables false
set_option linter.unusedSimpArgs false
set_option maxRecDepth 100000
namespace Go.Proofs.Ytencghlmckbmlaa
open Go Go.RowKit

def encBool (b : Bool) : List D := [vb b]
def idxB (l : List Bool) : Int := if l.any id = true then (l.findIdx id : Nat) else -1

theorem shares_set {l : List Share} {i : Nat} {a b : Int} : (l.map encShare).set i [vi a, vi b] = (l.set i ⟨a, b⟩).map encShare := by rw [List.map_set]; rfl

/-- The wheel, turned at most so often. -/
def pickF (busy : Nat → Bool) : Nat → List Share → Nat → List Share × Nat
  | 0, L, t => (L, t)
  | f + 1, L, t =>
    if busy t = true then
      (if (L.getD t default).credit > 0 then (L, t)
      else pickF busy f (L.set t ⟨(L.getD t default).weight, (L.getD t default).credit + 1000 * (L.getD t default).weight⟩) ((t + 1) % L.length))
    else pickF busy f (L.set t ⟨(L.getD t default).weight, if 0 < (L.getD t default).credit then 0 else (L.getD t default).credit⟩) ((t + 1) % L.length)

def pickS (busy : Nat → Bool) (L : List Share) (t : Nat) : List Share × Nat := pickF busy 2000000 L t

def dist (n j t : Nat) : Nat := if t ≤ j then j - t else j + n - t
def lack (x : Share) : Nat := (1 - x.credit).toNat

theorem mod_next {n t : Nat} (h : t < n) : (t + 1) % n = if t + 1 = n then 0 else t + 1 := by
  split
  · rename_i e; rw [e, Nat.mod_self]
  · exact Nat.mod_eq_of_lt (by omega)

/-- What keeps while the wheel is turned. -/
structure Wheel (busy : Nat → Bool) (n j : Nat) (R : List Share × Nat) (L : List Share) (t f : Nat) : Prop where
  len : L.length = n
  turn : t < n
  odd : L.any oddS = false
  fuel : lack (L.getD j default) * n + dist n j t < f
  res : pickF busy f L t = R

theorem odd_getD {L : List Share} (h : L.any oddS = false) {i : Nat} (hi : i < L.length) : oddS (L.getD i default) = false := by
  have := List.any_eq_false.1 h (L.getD i default) (by rw [List.getD_eq_getElem?_getD, List.getElem?_eq_getElem hi]; exact List.getElem_mem hi)
  simpa using this

theorem odd_set {L : List Share} {i : Nat} {x : Share} (h : L.any oddS = false) (hx : oddS x = false) : (L.set i x).any oddS = false := by
  refine List.any_eq_false.2 fun y hy => ?_
  rcases List.mem_or_eq_of_mem_set hy with h1 | rfl
  · exact List.any_eq_false.1 h y h1
  · simpa using hx

theorem oddS_false {x : Share} (h1 : 1 ≤ x.weight) (h2 : x.weight ≤ 16) (h3 : -32767 ≤ x.credit) (h4 : x.credit ≤ 1000 * x.weight) : oddS x = false := by
  simp only [oddS, Bool.or_eq_false_iff, decide_eq_false_iff_not]; omega

theorem getD_set_self {L : List Share} {i : Nat} {x : Share} (h : i < L.length) : (L.set i x).getD i default = x := by
  rw [List.getD_eq_getElem?_getD, List.getElem?_set_self h]; rfl

theorem getD_set_ne' {L : List Share} {i j : Nat} {x : Share} (h : i ≠ j) : (L.set i x).getD j default = L.getD j default := by
  rw [List.getD_eq_getElem?_getD, List.getElem?_set_ne h, ← List.getD_eq_getElem?_getD]

theorem wheel_idle {busy : Nat → Bool} {n j : Nat} {R : List Share × Nat} {L : List Share} {t f : Nat} (h : Wheel busy n j R L t f) (hj : j < n) (hbj : busy j = true) (hb : busy t = false) :
    ∃ g, f = g + 1 ∧ Wheel busy n j R (L.set t ⟨(L.getD t default).weight, if 0 < (L.getD t default).credit then 0 else (L.getD t default).credit⟩) ((t + 1) % n) g := by
  obtain ⟨hlen, ht, hodd, hfuel, hres⟩ := h
  cases f with
  | zero => omega
  | succ g =>
    have ho := odd_ok (odd_getD hodd (by omega : t < L.length))
    have htj : t ≠ j := fun e => by subst e; rw [hb] at hbj; cases hbj
    refine ⟨g, rfl, by simpa using hlen, Nat.mod_lt _ (by omega), odd_set hodd (oddS_false ho.1 ho.2.1 ?_ ?_), ?_, ?_⟩
    · show -32767 ≤ (if _ then (0 : Int) else _); split <;> omega
    · show (if _ then (0 : Int) else _) ≤ 1000 * (L.getD t default).weight; have := ho.1; split <;> omega
    · rw [getD_set_ne' htj, mod_next ht]
      unfold dist at hfuel ⊢
      split <;> split at hfuel <;> split <;> omega
    · rw [← hres]; simp only [pickF]; rw [if_neg (show ¬ busy t = true by rw [hb]; simp), hlen]

theorem wheel_fill {busy : Nat → Bool} {n j : Nat} {R : List Share × Nat} {L : List Share} {t f : Nat} (h : Wheel busy n j R L t f) (hj : j < n) (hb : busy t = true) (hc : (L.getD t default).credit ≤ 0) :
    ∃ g, f = g + 1 ∧ Wheel busy n j R (L.set t ⟨(L.getD t default).weight, (L.getD t default).credit + 1000 * (L.getD t default).weight⟩) ((t + 1) % n) g := by
  obtain ⟨hlen, ht, hodd, hfuel, hres⟩ := h
  cases f with
  | zero => omega
  | succ g =>
    have ho := odd_ok (odd_getD hodd (by omega : t < L.length))
    refine ⟨g, rfl, by simpa using hlen, Nat.mod_lt _ (by omega), odd_set hodd (oddS_false ho.1 ho.2.1 ?_ ?_), ?_, ?_⟩
    · show -32767 ≤ (L.getD t default).credit + 1000 * (L.getD t default).weight; omega
    · show (L.getD t default).credit + 1000 * (L.getD t default).weight ≤ 1000 * (L.getD t default).weight; omega
    · rw [mod_next ht]
      by_cases htj : t = j
      · subst htj
        rw [getD_set_self (by omega)]
        have h1 : lack ⟨(L.getD t default).weight, (L.getD t default).credit + 1000 * (L.getD t default).weight⟩ + 1 ≤ lack (L.getD t default) := by unfold lack; show ((1 : Int) - ((L.getD t default).credit + 1000 * (L.getD t default).weight)).toNat + 1 ≤ _; omega
        have h2 := Nat.mul_le_mul_right n h1
        rw [Nat.add_mul, Nat.one_mul] at h2
        unfold dist at hfuel ⊢
        split <;> split at hfuel <;> split <;> omega
      · rw [getD_set_ne' htj]
        unfold dist at hfuel ⊢
        split <;> split at hfuel <;> split <;> omega
    · rw [← hres]; simp only [pickF]; rw [if_pos hb, if_neg (by omega), hlen]

theorem wheel_done {busy : Nat → Bool} {n j : Nat} {R : List Share × Nat} {L : List Share} {t f : Nat} (h : Wheel busy n j R L t f) (hb : busy t = true) (hc : 0 < (L.getD t default).credit) : R = (L, t) := by
  obtain ⟨hlen, ht, hodd, hfuel, hres⟩ := h
  cases f with
  | zero => omega
  | succ g => rw [← hres]; simp only [pickF]; rw [if_pos hb, if_pos hc]

theorem pickF_len (busy : Nat → Bool) : ∀ (f : Nat) (L : List Share) (t : Nat), (pickF busy f L t).1.length = L.length
  | 0, L, t => rfl
  | f + 1, L, t => by
    simp only [pickF]
    split
    · split
      · rfl
      · rw [pickF_len busy f]; simp
    · rw [pickF_len busy f]; simp

theorem pick_len (busy : Nat → Bool) (L : List Share) (t : Nat) : (pickS busy L t).1.length = L.length := pickF_len busy _ L t

theorem wheel_start {busy : Nat → Bool} {n j : Nat} {L : List Share} {t : Nat} (hlen : L.length = n) (ht : t < n) (hn : n ≤ 32) (hj : j < n) (hodd : L.any oddS = false) : Wheel busy n j (pickS busy L t) L t 2000000 := by
  refine ⟨hlen, ht, hodd, ?_, rfl⟩
  have ho := odd_ok (odd_getD hodd (by omega : j < L.length))
  have h1 : lack (L.getD j default) ≤ 32768 := by unfold lack; omega
  have h2 : lack (L.getD j default) * n ≤ 32768 * 32 := Nat.mul_le_mul h1 hn
  unfold dist
  split <;> omega


theorem boolT {s : St} {bk0 : Bk} {dst : Option Tmp} {ty : TypeId} {pos : String} {after : Array Edge} {gd : Option (Nat × Bool)} {t' : TypeId} {x y : Operand} {a b : Bool} (hx : evalO s x = some (.d (.v (.bool a)))) (hy : evalO s y = some (.d (.v (.bool b)))) (ht : Try.prog.underlying 4 = some .bool) :
    Step Try.prog ⟨dst, .binOp .eql 4 x y t', ty, pos, after, gd⟩ (evalA s) bk0 (.d (.v (.bool (a == b)))) [] [] := step_booleq (ev hx) (ev hy) ht


theorem sp211 (l : List Bool) (hl : l.length ≤ 100000000) : Spec Try.prog 211 [.d (.s (l.map encBool)), .d (vb true)] [] (.d (vi (idxB l))) [] [] := by
  refine enter 19 [] Try.func211 rfl rfl blOk_nil rfl rfl fun X w0 E0 => ?_
  refine awp_seq ?_
  refine awp_region ?_
  refine seqP (assignT rfl) rfl ?_
  refine ops_nil ?_
  refine awp_seq ?_
  refine awp_seq ?_
  refine awp_region ?_
  refine seqP (moveT rfl) rfl ?_
  refine seqP (lenRT rfl rfl (List.length_map ..)) rfl ?_
  refine seqP (moveT rfl) rfl ?_
  refine ops_nil ?_
  refine awp_block ?_
  refine awp_loop (ι := Nat) (fun p => ⟨[(0, .d (.s (l.map encBool))), (1, .d (vb true)), (7, .d (vi l.length)), (8, .d (vi (p : Nat)))], []⟩) (fun p => p ≤ l.length ∧ (l.take p).any id = false) (fun p => l.length - p) 0 ⟨Nat.zero_le _, by simp⟩ (turn_sub ⟨⟨rfl, rfl, rfl, rfl, trivial⟩, trivial⟩) (fun p hP => ?_)
  refine awp_seq ?_
  refine awp_region ?_
  refine seqP (intTT rfl rfl rfl) rfl ?_
  refine ops_nil ?_
  refine awp_seq ?_
  refine awp_if rfl (fun h9 => ?_) (fun h9 => ?_)
  · -- yes
    try simp only [mOr, mAnd, decide_eq_true_eq, decide_eq_false_iff_not, beq_iff_eq, beq_eq_false_iff_ne, bne_iff_ne, ne_eq, bne_eq_false_iff_eq, Bool.or_eq_true, Bool.or_eq_false_iff, Bool.and_eq_true, Bool.and_eq_false_iff, Bool.not_eq_true', Bool.not_eq_false', Int.not_lt, Int.not_le, gt_iff_lt, ge_iff_le] at h9
    refine awp_skip ?_
    refine awp_seq ?_
    refine awp_block ?_
    refine awp_seq ?_
    refine awp_region ?_
    refine seqP (moveT rfl) rfl ?_
    refine seqP (assignT rfl) rfl ?_
    refine ops_nil ?_
    refine awp_seq ?_
    refine awp_region ?_
    refine seqP (moveT rfl) rfl ?_
    refine seqP (moveT rfl) rfl ?_
    refine seqP (moveT rfl) rfl ?_
    obtain ⟨x, hx⟩ : ∃ x, l[p]? = some x := ⟨_, List.getElem?_eq_getElem (by omega)⟩
    refine seqP (indexRT rfl rfl rfl (by omega) (idx_map hx) rfl) rfl ?_
    refine seqP (loadRT rfl rfl rfl) rfl ?_
    refine seqP (boolT rfl rfl rfl) rfl ?_
    refine ops_nil ?_
    refine awp_if rfl (fun h16 => ?_) (fun h16 => ?_)
    · -- yes
      replace h16 : id x = true := by cases x <;> first | rfl | cases h16
      refine awp_seq ?_
      refine awp_region ?_
      refine seqP (moveT rfl) rfl ?_
      refine seqP (assignT rfl) rfl ?_
      refine ops_nil ?_
      refine awp_ret ?_
      refine ret_plain (resl_tmp rfl resl_nil) ?_ rfl
      obtain ⟨h1, h2⟩ := any_take hx hP.2 h16
      simp only [idxB, if_pos h1, h2]; rfl
    · -- no
      replace h16 : id x = false := by cases x <;> first | rfl | cases h16
      refine awp_skip ?_
      refine awp_region ?_
      refine seqP (intnT rfl rfl rfl (wrap_succ (by omega))) rfl ?_
      refine seqP (moveT rfl) rfl ?_
      refine ops_nil ?_
      refine ⟨(p + 1), ⟨by omega, any_take_succ hx hP.2 h16⟩, (turn_sub ⟨⟨rfl, rfl, rfl, rfl, trivial⟩, trivial⟩), by show l.length - (p + 1) < l.length - p; omega⟩
  · -- no
    try simp only [mOr, mAnd, decide_eq_true_eq, decide_eq_false_iff_not, beq_iff_eq, beq_eq_false_iff_ne, bne_iff_ne, ne_eq, bne_eq_false_iff_eq, Bool.or_eq_true, Bool.or_eq_false_iff, Bool.and_eq_true, Bool.and_eq_false_iff, Bool.not_eq_true', Bool.not_eq_false', Int.not_lt, Int.not_le, gt_iff_lt, ge_iff_le] at h9
    refine awp_exit ?_
    refine awp_seq ?_
    refine awp_region ?_
    refine seqP (assignT rfl) rfl ?_
    refine ops_nil ?_
    refine awp_ret ?_
    refine ret_plain (resl_tmp rfl resl_nil) ?_ rfl
    have h1 : ¬ l.any id = true := by
      have := hP.2
      rw [List.take_of_length_le (by omega)] at this; rw [this]; simp
    simp only [idxB, if_neg h1]; rfl

theorem sp156 (l : List Bool) (hl : l.length ≤ 100000000) : Spec Try.prog 156 [.d (.s (l.map encBool)), .d (vb true)] [] (.d (vb (l.any id))) [] [] := by
  refine enter 9 [] Try.func156 rfl rfl blOk_nil rfl rfl fun X w0 E0 => ?_
  refine awp_seq ?_
  refine awp_region ?_
  refine seqP (assignT rfl) rfl ?_
  refine ops_nil ?_
  refine awp_seq ?_
  refine awp_region ?_
  refine seqP (moveT rfl) rfl ?_
  refine seqP (moveT rfl) rfl ?_
  refine seqP (callT rfl rfl rfl (callB_of Try.func211 rfl) (sp211 l hl) trivial) rfl ?_
  refine seqP (intTT rfl rfl rfl) rfl ?_
  refine seqP (assignT rfl) rfl ?_
  refine ops_nil ?_
  refine awp_ret ?_
  refine ret_plain (resl_tmp rfl resl_nil) ?_ rfl
  have h1 : decide (idxB l ≥ 0) = l.any id := by
    unfold idxB
    cases l.any id <;> simp
  rw [← h1]; rfl

theorem sp157 (bs : List Bool) (i : Nat) (hi : i < bs.length) : Spec Try.prog 157 [.d (vi i), .ptr 78003 0 0 0] [(78003, some (.var [.d (.s (bs.map encBool))]))] (.d (vb (bs.getD i false))) [] [] := by
  refine enter 8 [78003] Try.func157 rfl rfl (blOk_of rfl rfl ⟨rfl, trivial⟩) rfl rfl fun X w0 E0 => ?_
  refine awp_seq ?_
  refine awp_region ?_
  refine seqP (assignT rfl) rfl ?_
  refine ops_nil ?_
  refine awp_seq ?_
  refine awp_region ?_
  refine seqP (loadVT rfl rfl rfl rfl) rfl ?_
  refine seqP (moveT rfl) rfl ?_
  refine seqP (indexRT rfl rfl rfl (by omega) (idx_getD (z := false) hi) rfl) rfl ?_
  refine seqP (loadRT rfl rfl rfl) rfl ?_
  refine seqP (assignT rfl) rfl ?_
  refine ops_nil ?_
  refine awp_ret ?_
  refine ret_blocks (resl_tmp rfl resl_nil) ?_ rfl trivial ⟨.inr rfl, trivial⟩
  rfl

theorem sp207 (rows : List (List D)) (n t : Nat) (ht : t < n) (hn : n ≤ 1000) : Spec Try.prog 207 [.ptr 146010 0 0 0] [(146010, some (.var [.own 206007 0 2 n, .d (vi (t : Nat))])), (206007, some (.row 2 rows))] (.tup []) [(146010, some (.var [.own 206007 0 2 n, .d (vi ((t + 1) % n : Nat))]))] [] := by
  refine enter 19 [146010, 206007] Try.func207 rfl rfl (blOk_of rfl rfl ⟨rfl, rfl, trivial⟩) rfl rfl fun X w0 E0 => ?_
  refine awp_any [0, 0, 2, 6, 14, 30, 62, 0, 128, 384, 896, 1920, 3968, 8190, 16383, 32767, 65535, 131071] rfl ?_
  refine .step (rb := []) (wb := []) (ml := [146010]) (moveT rfl) rfl rfl rfl rfl rfl trivial ?_
  refine .step (rb := []) (wb := []) (ml := [146010]) (moveT rfl) rfl rfl rfl rfl rfl trivial ?_
  refine .step (rb := []) (wb := []) (ml := [146010]) (nilPT rfl) rfl rfl rfl rfl rfl trivial ?_
  refine .step (rb := []) (wb := []) (ml := [146010]) (fieldPT rfl rfl rfl) rfl rfl rfl rfl rfl trivial ?_
  refine .step (rb := []) (wb := []) (ml := [146010]) (fieldPT rfl rfl rfl) rfl rfl rfl rfl rfl trivial ?_
  refine .step (rb := [146010]) (wb := []) (ml := []) (loadVT rfl rfl rfl rfl) rfl rfl rfl rfl rfl trivial ?_
  refine .step (rb := []) (wb := []) (ml := []) (intnT rfl rfl rfl (wrap_succ (by omega))) rfl rfl rfl rfl rfl trivial ?_
  refine .step (rb := []) (wb := []) (ml := [146010]) (moveT rfl) rfl rfl rfl rfl rfl trivial ?_
  refine .step (rb := []) (wb := []) (ml := [146010]) (nilPT rfl) rfl rfl rfl rfl rfl trivial ?_
  refine .step (rb := []) (wb := []) (ml := [146010]) (fieldPT rfl rfl rfl) rfl rfl rfl rfl rfl trivial ?_
  refine .step (rb := []) (wb := []) (ml := [146010]) (fieldPT rfl rfl rfl) rfl rfl rfl rfl rfl trivial ?_
  refine .step (rb := [146010]) (wb := []) (ml := [206007]) (loadVT rfl rfl rfl rfl) rfl rfl rfl rfl rfl trivial ?_
  refine .step (rb := []) (wb := []) (ml := []) (lenWT rfl rfl) rfl rfl rfl rfl rfl trivial ?_
  refine .step (rb := []) (wb := []) (ml := []) (remT rfl rfl (by omega) (show Int.tmod ((t + 1 : Nat) : Int) ((n : Nat) : Int) = (((t + 1) % n : Nat) : Int) by rw [Int.tmod_eq_emod_of_nonneg (by omega)]; rfl)) rfl rfl rfl rfl rfl trivial ?_
  refine .step (rb := []) (wb := []) (ml := [146010]) (nilPT rfl) rfl rfl rfl rfl rfl trivial ?_
  refine .step (rb := []) (wb := []) (ml := [146010]) (fieldPT rfl rfl rfl) rfl rfl rfl rfl rfl trivial ?_
  refine .step (rb := []) (wb := []) (ml := [146010]) (fieldPT rfl rfl rfl) rfl rfl rfl rfl rfl trivial ?_
  refine .step (rb := [146010]) (wb := [146010]) (ml := [206007]) (storeVT rfl rfl rfl rfl rfl rfl rfl) rfl rfl rfl rfl rfl ⟨rfl, trivial⟩ ?_
  refine .done (by decide +kernel) ?_
  refine ret_blocks resl_nil ?_ rfl ⟨(by rfl), rfl, rfl, trivial⟩ ⟨.inl rfl, .inr rfl, trivial⟩
  rfl

theorem sp148a (L : List Share) (t n : Nat) (hlen : L.length = n) (ht : t < n) (hn : n ≤ 32) (hodd : L.any oddS = false) (bs : List Bool) (hbs : bs.length = n) (hbusy : ∃ j, j < n ∧ (fun i => bs.getD i false) j = true) : Spec Try.prog 148 [.ptr 146010 0 0 0, .clo 157 [] [.ptr 78003 0 0 0]] [(146010, some (.var [.own 206007 0 2 n, .d (vi (t : Nat))])), (206007, some (.row 2 (L.map encShare))), (78003, some (.var [.d (.s (bs.map encBool))]))] (.d (vi ((pickS (fun i => bs.getD i false) L t).2 : Nat))) [(146010, some (.var [.own 206007 0 2 n, .d (vi ((pickS (fun i => bs.getD i false) L t).2 : Nat))])), (206007, some (.row 2 ((pickS (fun i => bs.getD i false) L t).1.map encShare)))] [] := by
  obtain ⟨j, hj, hbj⟩ := hbusy
  refine enter 62 [146010, 206007, 78003] Try.func148 rfl rfl (blOk_of rfl rfl ⟨rfl, rfl, rfl, trivial⟩) rfl rfl fun X w0 E0 => ?_
  refine awp_seq ?_
  refine awp_region ?_
  refine seqP (assignT rfl) rfl ?_
  refine ops_nil ?_
  refine awp_seq ?_
  refine awp_region ?_
  refine seqP (moveT rfl) rfl ?_
  refine seqP (mkFuncT rfl rfl) rfl ?_
  refine seqP (assignT rfl) rfl ?_
  refine ops_nil ?_
  refine awp_block ?_
  refine awp_loop (ι := List Share × Nat × Nat) (fun p => ⟨[(0, .ptr 146010 0 0 0), (1, .clo 157 [] [.ptr 78003 0 0 0]), (5, .clo 207 [.ptr 146010 0 0 0] [])], [(146010, some (.var [.own 206007 0 2 n, .d (vi (p.2.1 : Nat))])), (206007, some (.row 2 (p.1.map encShare))), (78003, some (.var [.d (.s (bs.map encBool))]))]⟩) (fun p => Wheel (fun i => bs.getD i false) n j (pickS (fun i => bs.getD i false) L t) p.1 p.2.1 p.2.2) (fun p => p.2.2) (L, t, 2000000) (wheel_start hlen ht hn hj hodd) (turn_sub ⟨⟨rfl, rfl, rfl, trivial⟩, ⟨rfl, rfl, rfl, trivial⟩⟩) (fun p hP => ?_)
  refine awp_block ?_
  refine awp_seq ?_
  refine awp_any [0, 1, 3, 7, 15, 0, 32, 96, 224, 480, 1023, 2047] rfl ?_
  refine .step (rb := []) (wb := []) (ml := [146010]) (moveT rfl) rfl rfl rfl rfl rfl trivial ?_
  refine .step (rb := []) (wb := []) (ml := [146010]) (nilPT rfl) rfl rfl rfl rfl rfl trivial ?_
  refine .step (rb := []) (wb := []) (ml := [146010]) (fieldPT rfl rfl rfl) rfl rfl rfl rfl rfl trivial ?_
  refine .step (rb := []) (wb := []) (ml := [146010]) (fieldPT rfl rfl rfl) rfl rfl rfl rfl rfl trivial ?_
  refine .step (rb := [146010]) (wb := []) (ml := [206007]) (loadVT rfl rfl rfl rfl) rfl rfl rfl rfl rfl trivial ?_
  refine .step (rb := []) (wb := []) (ml := [146010]) (moveT rfl) rfl rfl rfl rfl rfl trivial ?_
  refine .step (rb := []) (wb := []) (ml := [146010]) (nilPT rfl) rfl rfl rfl rfl rfl trivial ?_
  refine .step (rb := []) (wb := []) (ml := [146010]) (fieldPT rfl rfl rfl) rfl rfl rfl rfl rfl trivial ?_
  refine .step (rb := []) (wb := []) (ml := [146010]) (fieldPT rfl rfl rfl) rfl rfl rfl rfl rfl trivial ?_
  refine .step (rb := [146010]) (wb := []) (ml := []) (loadVT rfl rfl rfl rfl) rfl rfl rfl rfl rfl trivial ?_
  refine .step (rb := []) (wb := []) (ml := [206007]) (indexWT rfl rfl rfl (by omega) (by have := hP.turn; show ((p.2.1 : Nat) : Int) < ((n : Nat) : Int); omega) (show 0 + ((p.2.1 : Nat) : Int).toNat = p.2.1 by simp)) rfl rfl rfl rfl rfl trivial ?_
  refine .step (rb := []) (wb := []) (ml := [206007]) (assignT rfl) rfl rfl rfl rfl rfl trivial ?_
  refine .done (by decide +kernel) ?_
  refine awp_seq ?_
  refine awp_block ?_
  refine awp_seq ?_
  refine awp_region ?_
  refine seqP (moveT rfl) rfl ?_
  refine seqP (moveT rfl) rfl ?_
  refine seqP (nilPT rfl) rfl ?_
  refine seqP (fieldPT rfl rfl rfl) rfl ?_
  refine seqP (fieldPT rfl rfl rfl) rfl ?_
  refine seqP (loadVT rfl rfl rfl rfl) rfl ?_
  refine seqP (callT rfl rfl rfl (callB_of Try.func157 rfl) (sp157 bs p.2.1 (by rw [hbs]; exact hP.turn)) ⟨rfl, trivial⟩) rfl ?_
  refine seqP (notT rfl) rfl ?_
  refine seqP (assignT rfl) rfl ?_
  refine ops_nil ?_
  refine awp_if rfl (fun h32 => ?_) (fun h32 => ?_)
  · -- yes
    replace h32 : (fun i => bs.getD i false) p.2.1 = false := by simpa using h32
    obtain ⟨g, hg, hW⟩ := wheel_idle hP hj hbj h32
    refine awp_region ?_
    refine seqP (moveT rfl) rfl ?_
    refine seqP (moveT rfl) rfl ?_
    refine seqP (nilPT rfl) rfl ?_
    refine seqP (fieldPT rfl rfl rfl) rfl ?_
    refine seqP (loadWT rfl rfl rfl (row_getD (z := default) (by rw [hP.len]; exact hP.turn)) rfl) rfl ?_
    refine seqP (minT rfl rfl) rfl ?_
    refine seqP (nilPT rfl) rfl ?_
    refine seqP (fieldPT rfl rfl rfl) rfl ?_
    refine seq0 (storeWT rfl rfl rfl rfl rfl (row_getD (z := default) (by rw [hP.len]; exact hP.turn)) rfl rfl rfl) ?_
    refine ops_nil ?_
    refine awp_region ?_
    refine seqP (moveT rfl) rfl ?_
    refine seq1 (callT rfl rfl rfl (callB_of Try.func207 rfl) (sp207 _ n p.2.1 hP.turn (by omega)) ⟨rfl, rfl, trivial⟩) rfl rfl ?_
    refine ops_nil ?_
    refine ⟨(_, _, g), hW, (turn_sub ⟨⟨rfl, rfl, rfl, trivial⟩, ⟨rfl, (congrArg (fun r => some (Blk.row 2 r)) shares_set), rfl, trivial⟩⟩), by show g < p.2.2; omega⟩
  · -- no
    replace h32 : (fun i => bs.getD i false) p.2.1 = true := by simpa using h32
    refine awp_seq ?_
    refine awp_region ?_
    refine seqP (moveT rfl) rfl ?_
    refine seqP (nilPT rfl) rfl ?_
    refine seqP (fieldPT rfl rfl rfl) rfl ?_
    refine seqP (loadWT rfl rfl rfl (row_getD (z := default) (by rw [hP.len]; exact hP.turn)) rfl) rfl ?_
    refine seqP (intTT rfl rfl rfl) rfl ?_
    refine seqP (assignT rfl) rfl ?_
    refine ops_nil ?_
    refine awp_if rfl (fun h49 => ?_) (fun h49 => ?_)
    · -- yes
      try simp only [mOr, mAnd, decide_eq_true_eq, decide_eq_false_iff_not, beq_iff_eq, beq_eq_false_iff_ne, bne_iff_ne, ne_eq, bne_eq_false_iff_eq, Bool.or_eq_true, Bool.or_eq_false_iff, Bool.and_eq_true, Bool.and_eq_false_iff, Bool.not_eq_true', Bool.not_eq_false', Int.not_lt, Int.not_le, gt_iff_lt, ge_iff_le] at h49
      have hR := wheel_done hP h32 h49
      refine awp_seq ?_
      refine awp_region ?_
      refine seqP (moveT rfl) rfl ?_
      refine seqP (nilPT rfl) rfl ?_
      refine seqP (fieldPT rfl rfl rfl) rfl ?_
      refine seqP (fieldPT rfl rfl rfl) rfl ?_
      refine seqP (loadVT rfl rfl rfl rfl) rfl ?_
      refine seqP (assignT rfl) rfl ?_
      refine ops_nil ?_
      refine awp_ret ?_
      refine ret_blocks (resl_tmp rfl resl_nil) ?_ rfl ⟨(by rw [hR]; rfl), rfl, rfl, (by rw [hR]; rfl), rfl, rfl, trivial⟩ ⟨.inl rfl, .inl rfl, .inr rfl, trivial⟩
      show AV.d (vi (p.2.1 : Nat)) = _; rw [hR]
    · -- no
      try simp only [mOr, mAnd, decide_eq_true_eq, decide_eq_false_iff_not, beq_iff_eq, beq_eq_false_iff_ne, bne_iff_ne, ne_eq, bne_eq_false_iff_eq, Bool.or_eq_true, Bool.or_eq_false_iff, Bool.and_eq_true, Bool.and_eq_false_iff, Bool.not_eq_true', Bool.not_eq_false', Int.not_lt, Int.not_le, gt_iff_lt, ge_iff_le] at h49
      obtain ⟨g, hg, hW⟩ := wheel_fill hP hj h32 (by omega)
      have ho := odd_ok (odd_getD hP.odd (by rw [hP.len]; exact hP.turn : p.2.1 < p.1.length))
      refine awp_any [0, 1, 3, 7, 0, 16, 48, 112, 240, 511, 1023, 2047, 4095] rfl ?_
      refine .step (rb := []) (wb := []) (ml := [206007]) (moveT rfl) rfl rfl rfl rfl rfl trivial ?_
      refine .step (rb := []) (wb := []) (ml := [206007]) (nilPT rfl) rfl rfl rfl rfl rfl trivial ?_
      refine .step (rb := []) (wb := []) (ml := [206007]) (fieldPT rfl rfl rfl) rfl rfl rfl rfl rfl trivial ?_
      refine .step (rb := [206007]) (wb := []) (ml := []) (loadWT rfl rfl rfl (row_getD (z := default) (by rw [hP.len]; exact hP.turn)) rfl) rfl rfl rfl rfl rfl trivial ?_
      refine .step (rb := []) (wb := []) (ml := [206007]) (moveT rfl) rfl rfl rfl rfl rfl trivial ?_
      refine .step (rb := []) (wb := []) (ml := [206007]) (nilPT rfl) rfl rfl rfl rfl rfl trivial ?_
      refine .step (rb := []) (wb := []) (ml := [206007]) (fieldPT rfl rfl rfl) rfl rfl rfl rfl rfl trivial ?_
      refine .step (rb := [206007]) (wb := []) (ml := []) (loadWT rfl rfl rfl (row_getD (z := default) (by rw [hP.len]; exact hP.turn)) rfl) rfl rfl rfl rfl rfl trivial ?_
      refine .step (rb := []) (wb := []) (ml := []) (intnT rfl rfl rfl (wrap_i64 (by omega))) rfl rfl rfl rfl rfl trivial ?_
      refine .step (rb := []) (wb := []) (ml := []) (intnT rfl rfl rfl (wrap_i64 (by omega))) rfl rfl rfl rfl rfl trivial ?_
      refine .step (rb := []) (wb := []) (ml := [206007]) (nilPT rfl) rfl rfl rfl rfl rfl trivial ?_
      refine .step (rb := []) (wb := []) (ml := [206007]) (fieldPT rfl rfl rfl) rfl rfl rfl rfl rfl trivial ?_
      refine .step (rb := [206007]) (wb := [206007]) (ml := []) (storeWT rfl rfl rfl rfl rfl (row_getD (z := default) (by rw [hP.len]; exact hP.turn)) rfl rfl rfl) rfl rfl rfl rfl rfl ⟨rfl, trivial⟩ ?_
      refine .done (by decide +kernel) ?_
      refine awp_region ?_
      refine seqP (moveT rfl) rfl ?_
      refine seq1 (callT rfl rfl rfl (callB_of Try.func207 rfl) (sp207 _ n p.2.1 hP.turn (by omega)) ⟨rfl, rfl, trivial⟩) rfl rfl ?_
      refine ops_nil ?_
      refine ⟨(_, _, g), hW, (turn_sub ⟨⟨rfl, rfl, rfl, trivial⟩, ⟨rfl, (congrArg (fun r => some (Blk.row 2 r)) shares_set), rfl, trivial⟩⟩), by show g < p.2.2; omega⟩

def choose (s : Shares) (bs : List Bool) : Int × Shares × Int :=
  if ckS s = 0 then
    (if bs.length = s.list.length then
      (if bs.any id = true then (((pickS (fun i => bs.getD i false) s.list s.turn.toNat).2 : Nat), ⟨(pickS (fun i => bs.getD i false) s.list s.turn.toNat).1, ((pickS (fun i => bs.getD i false) s.list s.turn.toNat).2 : Nat)⟩, 0)
      else (-1, s, 0))
    else (0, .zero, 2))
  else (0, .zero, ckS s)

theorem any_getD {bs : List Bool} (h : bs.any id = true) : ∃ j, j < bs.length ∧ (fun i => bs.getD i false) j = true := by
  obtain ⟨x, hx, h1⟩ := List.any_eq_true.1 h
  obtain ⟨j, hj, rfl⟩ := List.getElem_of_mem hx
  exact ⟨j, hj, by simp [List.getD_eq_getElem?_getD, List.getElem?_eq_getElem hj]; simpa using h1⟩


theorem sp78 (s : Shares) (bs : List Bool) (hl : s.list.length ≤ 100000000) (hlb : bs.length ≤ 100000000) : Spec Try.prog 78 [s.av, .d (.s (bs.map encBool))] [] (.tup [.d (vi (choose s bs).1), (choose s bs).2.1.av, .d (vi (choose s bs).2.2)]) [] [] := by
  refine enter 39 [] Try.func78 rfl rfl blOk_nil rfl rfl fun X w0 E0 => ?_
  refine awp_seq ?_
  refine awp_region ?_
  refine seq1 (boxT rfl rfl rfl) rfl rfl ?_
  refine seq1 (boxN 78003 rfl rfl rfl) rfl rfl ?_
  refine seqP (assignT rfl) rfl ?_
  refine seq1 (allocT rfl rfl) rfl rfl ?_
  refine seqP (assignT rfl) rfl ?_
  refine ops_nil ?_
  refine awp_seq ?_
  refine awp_seq ?_
  refine awp_region ?_
  refine seqP (loadVsT rfl rfl rfl rfl) rfl ?_
  refine seqP (callT rfl rfl rfl (callB_of Try.func76 rfl) (sp76 s hl) trivial) rfl ?_
  refine seqP (assignT rfl) rfl ?_
  refine ops_nil ?_
  refine awp_seq ?_
  refine awp_region ?_
  refine seqP (moveT rfl) rfl ?_
  refine seqP (intTT rfl rfl rfl) rfl ?_
  refine ops_nil ?_
  refine awp_if rfl (fun h12 => ?_) (fun h12 => ?_)
  · -- yes
    try simp only [mOr, mAnd, decide_eq_true_eq, decide_eq_false_iff_not, beq_iff_eq, beq_eq_false_iff_ne, bne_iff_ne, ne_eq, bne_eq_false_iff_eq, Bool.or_eq_true, Bool.or_eq_false_iff, Bool.and_eq_true, Bool.and_eq_false_iff, Bool.not_eq_true', Bool.not_eq_false', Int.not_lt, Int.not_le, gt_iff_lt, ge_iff_le] at h12
    refine awp_seq ?_
    refine awp_any [0, 0, 0, 5, 15] rfl ?_
    refine .step (rb := [5]) (wb := []) (ml := []) (loadVsT rfl rfl rfl rfl) rfl rfl rfl rfl rfl trivial ?_
    refine .step (rb := []) (wb := []) (ml := []) (moveT rfl) rfl rfl rfl rfl rfl trivial ?_
    refine .step (rb := []) (wb := []) (ml := []) (assignT rfl) rfl rfl rfl rfl rfl trivial ?_
    refine .step (rb := [5]) (wb := [5]) (ml := []) (storeVT rfl rfl rfl rfl rfl rfl rfl) rfl rfl rfl rfl rfl ⟨rfl, trivial⟩ ?_
    refine .step (rb := []) (wb := []) (ml := []) (assignT rfl) rfl rfl rfl rfl rfl trivial ?_
    refine .done (by decide +kernel) ?_
    refine awp_ret ?_
    refine ret_plain (resl_tmp rfl (resl_agg rfl rfl rfl rfl rfl (resl_tmp rfl resl_nil))) ?_ rfl
    have h1 : ¬ ckS s = 0 := by simpa using h12
    simp only [choose, if_neg h1]; rfl
  · -- no
    simp only [bne_eq_false_iff_eq] at h12
    have hck := ck_ok h12
    refine awp_skip ?_
    refine awp_seq ?_
    refine awp_seq ?_
    refine awp_region ?_
    refine seqP (loadVT rfl rfl rfl rfl) rfl ?_
    refine seqP (lenRT rfl rfl (List.length_map ..)) rfl ?_
    refine seqP (fieldPT rfl rfl rfl) rfl ?_
    refine seqP (loadVT rfl rfl rfl rfl) rfl ?_
    refine seqP (lenRT rfl rfl (List.length_map ..)) rfl ?_
    refine seqP (intTT rfl rfl rfl) rfl ?_
    refine ops_nil ?_
    refine awp_if rfl (fun h20 => ?_) (fun h20 => ?_)
    · -- yes
      try simp only [mOr, mAnd, decide_eq_true_eq, decide_eq_false_iff_not, beq_iff_eq, beq_eq_false_iff_ne, bne_iff_ne, ne_eq, bne_eq_false_iff_eq, Bool.or_eq_true, Bool.or_eq_false_iff, Bool.and_eq_true, Bool.and_eq_false_iff, Bool.not_eq_true', Bool.not_eq_false', Int.not_lt, Int.not_le, gt_iff_lt, ge_iff_le] at h20
      refine awp_seq ?_
      refine awp_any [0, 0, 3, 7] rfl ?_
      refine .step (rb := [5]) (wb := []) (ml := []) (loadVsT rfl rfl rfl rfl) rfl rfl rfl rfl rfl trivial ?_
      refine .step (rb := []) (wb := []) (ml := []) (assignT rfl) rfl rfl rfl rfl rfl trivial ?_
      refine .step (rb := [5]) (wb := [5]) (ml := []) (storeVT rfl rfl rfl rfl rfl rfl rfl) rfl rfl rfl rfl rfl ⟨rfl, trivial⟩ ?_
      refine .step (rb := []) (wb := []) (ml := []) (assignT rfl) rfl rfl rfl rfl rfl trivial ?_
      refine .done (by decide +kernel) ?_
      refine awp_ret ?_
      refine ret_plain (resl_tmp rfl (resl_agg rfl rfl rfl rfl rfl (resl_tmp rfl resl_nil))) ?_ rfl
      have h1 : ¬ bs.length = s.list.length := by
        have : (bs.length : Int) ≠ s.list.length := by simpa using h20
        omega
      simp only [choose, if_pos h12, if_neg h1]; rfl
    · -- no
      simp only [bne_eq_false_iff_eq] at h20
      have hbl : bs.length = s.list.length := by omega
      refine awp_skip ?_
      refine awp_seq ?_
      refine awp_region ?_
      refine seqP (loadVsT rfl rfl rfl rfl) rfl ?_
      refine seq2 (callT rfl rfl rfl (callB_of Try.func146 rfl) (sp146 s hl) trivial) rfl rfl ?_
      refine seqP (assignT rfl) rfl ?_
      refine ops_nil ?_
      refine awp_seq ?_
      refine awp_seq ?_
      refine awp_region ?_
      refine seqP (loadVT rfl rfl rfl rfl) rfl ?_
      refine seqP (callT rfl rfl rfl (callB_of Try.func156 rfl) (sp156 bs (by omega)) trivial) rfl ?_
      refine seqP (notT rfl) rfl ?_
      refine ops_nil ?_
      refine awp_if rfl (fun h26 => ?_) (fun h26 => ?_)
      · -- yes
        replace h26 : bs.any id = false := by simpa using h26
        refine awp_seq ?_
        refine awp_turn (turn_freezeC 146010 0 206007 rfl rfl rfl (List.length_map ..) rfl) ?_
        refine awp_any [0, 1, 3, 7, 0, 31, 63] rfl ?_
        refine .step (rb := []) (wb := []) (ml := [146010]) (moveT rfl) rfl rfl rfl rfl rfl trivial ?_
        refine .step (rb := []) (wb := []) (ml := [146010]) (nilPT rfl) rfl rfl rfl rfl rfl trivial ?_
        refine .step (rb := []) (wb := []) (ml := [146010]) (fieldPT rfl rfl rfl) rfl rfl rfl rfl rfl trivial ?_
        refine .step (rb := [146010]) (wb := []) (ml := []) (loadVsT rfl rfl rfl rfl) rfl rfl rfl rfl rfl trivial ?_
        refine .step (rb := []) (wb := []) (ml := []) (assignT rfl) rfl rfl rfl rfl rfl trivial ?_
        refine .step (rb := [5]) (wb := [5]) (ml := []) (storeVT rfl rfl rfl rfl rfl rfl rfl) rfl rfl rfl rfl rfl ⟨rfl, trivial⟩ ?_
        refine .step (rb := []) (wb := []) (ml := []) (assignT rfl) rfl rfl rfl rfl rfl trivial ?_
        refine .done (by decide +kernel) ?_
        refine awp_ret ?_
        refine ret_plain (resl_tmp rfl (resl_agg rfl rfl rfl rfl rfl (resl_tmp rfl resl_nil))) ?_ rfl
        simp only [choose, if_pos h12, if_pos hbl, h26]; rfl
      · -- no
        replace h26 : bs.any id = true := by simpa using h26
        obtain ⟨j0, hj0, hb0⟩ := any_getD h26
        have hbusy : ∃ j, j < s.list.length ∧ (fun i => bs.getD i false) j = true := ⟨j0, by omega, hb0⟩
        have htn : ((s.turn.toNat : Nat) : Int) = s.turn := by omega
        refine awp_skip ?_
        refine awp_seq ?_
        refine awp_region ?_
        refine seqP (moveT rfl) rfl ?_
        refine seqP (mkFuncT rfl rfl) rfl ?_
        refine seq2 (callT rfl rfl rfl (callB_of Try.func148 rfl) (sp148a s.list s.turn.toNat s.list.length rfl (by omega) (by omega) hck.2.2.2.2 bs (by omega) hbusy) ⟨htn ▸ rfl, rfl, rfl, trivial⟩) rfl rfl ?_
        refine seqP (assignT rfl) rfl ?_
        refine ops_nil ?_
        refine awp_seq ?_
        refine awp_turn (turn_freezeC 146010 0 206007 rfl rfl rfl (by simp only [List.length_map]; exact pick_len _ _ _) rfl) ?_
        refine awp_any [0, 0, 2, 6, 14, 1, 63, 127] rfl ?_
        refine .step (rb := []) (wb := []) (ml := []) (moveT rfl) rfl rfl rfl rfl rfl trivial ?_
        refine .step (rb := []) (wb := []) (ml := [146010]) (moveT rfl) rfl rfl rfl rfl rfl trivial ?_
        refine .step (rb := []) (wb := []) (ml := [146010]) (nilPT rfl) rfl rfl rfl rfl rfl trivial ?_
        refine .step (rb := []) (wb := []) (ml := [146010]) (fieldPT rfl rfl rfl) rfl rfl rfl rfl rfl trivial ?_
        refine .step (rb := [146010]) (wb := []) (ml := []) (loadVsT rfl rfl rfl rfl) rfl rfl rfl rfl rfl trivial ?_
        refine .step (rb := []) (wb := []) (ml := []) (assignT rfl) rfl rfl rfl rfl rfl trivial ?_
        refine .step (rb := [5]) (wb := [5]) (ml := []) (storeVT rfl rfl rfl rfl rfl rfl rfl) rfl rfl rfl rfl rfl ⟨rfl, trivial⟩ ?_
        refine .step (rb := []) (wb := []) (ml := []) (assignT rfl) rfl rfl rfl rfl rfl trivial ?_
        refine .done (by decide +kernel) ?_
        refine awp_ret ?_
        refine ret_plain (resl_tmp rfl (resl_agg rfl rfl rfl rfl rfl (resl_tmp rfl resl_nil))) ?_ rfl
        simp only [choose, if_pos h12, if_pos hbl, if_pos h26]; rfl

end Go.Proofs.Ytencghlmckbmlaa
