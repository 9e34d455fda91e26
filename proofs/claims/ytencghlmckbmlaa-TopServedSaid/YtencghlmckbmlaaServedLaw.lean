/- The plain law of TopServed: two flows, the second turned by k, later by some time, with other names, do the same. No program in sight. -/
import Derived.Test.YtencghlmckbmlaaFlow2
import Derived.Test.YtencghlmckbmlaaRun2
set_option linter.unusedVariables false
set_option linter.unusedSimpArgs false
namespace Go.Proofs.Ytencghlmckbmlaa
open Go Go.RowKit

/-! ### turning indices -/
def rot (n k j : Nat) : Nat := (j + k) % n

theorem rot_eq {n k j : Nat} (hk : k < n) (hj : j < n) : rot n k j = if j + k < n then j + k else j + k - n := by
  unfold rot
  split
  · rename_i h; exact Nat.mod_eq_of_lt h
  · rename_i h; rw [Nat.mod_eq_sub_mod (by omega), Nat.mod_eq_of_lt (by omega)]

theorem rot_lt {n k j : Nat} (hn : 0 < n) : rot n k j < n := Nat.mod_lt _ hn

theorem rot_inj {n k i j : Nat} (hk : k < n) (hi : i < n) (hj : j < n) (h : rot n k i = rot n k j) : i = j := by
  rw [rot_eq hk hi, rot_eq hk hj] at h
  split at h <;> split at h <;> omega

theorem rot_surj {n k i : Nat} (hk : k < n) (hi : i < n) : ∃ j, j < n ∧ rot n k j = i := by
  by_cases h : k ≤ i
  · exact ⟨i - k, by omega, by rw [rot_eq hk (by omega)]; split <;> omega⟩
  · exact ⟨i + n - k, by omega, by rw [rot_eq hk (by omega)]; split <;> omega⟩

theorem rot_next {n k t : Nat} (hk : k < n) (ht : t < n) : (rot n k t + 1) % n = rot n k ((t + 1) % n) := by
  unfold rot
  rw [Nat.mod_add_mod, Nat.mod_add_mod]
  congr 1
  omega

/-- B is A turned by k, its elements changed by f. -/
structure Rot {α : Type} [Inhabited α] (n k : Nat) (f : α → α) (A B : List α) : Prop where
  la : A.length = n
  lb : B.length = n
  at_ : ∀ j, j < n → B.getD (rot n k j) default = f (A.getD j default)

theorem getD_set_eq {α : Type} [Inhabited α] {L : List α} {i : Nat} {x : α} (h : i < L.length) : (L.set i x).getD i default = x := by
  rw [List.getD_eq_getElem?_getD, List.getElem?_set_self h]; rfl

theorem getD_set_ne {α : Type} [Inhabited α] {L : List α} {i j : Nat} {x : α} (h : i ≠ j) : (L.set i x).getD j default = L.getD j default := by
  rw [List.getD_eq_getElem?_getD, List.getElem?_set_ne h, ← List.getD_eq_getElem?_getD]

theorem Rot.set {α : Type} [Inhabited α] {n k : Nat} {f : α → α} {A B : List α} (h : Rot n k f A B) (hk : k < n) {t : Nat} (ht : t < n) (x : α) : Rot n k f (A.set t x) (B.set (rot n k t) (f x)) := by
  refine ⟨by simpa using h.la, by simpa using h.lb, fun j hj => ?_⟩
  by_cases e : t = j
  · subst e
    rw [getD_set_eq (L := A) (by rw [h.la]; exact ht), getD_set_eq (L := B) (by rw [h.lb]; exact rot_lt (by omega))]
  · rw [getD_set_ne e, getD_set_ne (fun he => e (rot_inj hk ht hj he)), h.at_ j hj]

theorem Rot.all {α : Type} [Inhabited α] {n k : Nat} {f : α → α} {A B : List α} (h : Rot n k f A B) (hk : k < n) {P Q : α → Prop} (hA : ∀ x ∈ A, P x) (hf : ∀ x, P x → Q (f x)) : ∀ x ∈ B, Q x := fun x hx => by
  obtain ⟨i, hi, rfl⟩ := List.getElem_of_mem hx
  obtain ⟨j, hj, e⟩ := rot_surj hk (i := i) (by rw [← h.lb]; exact hi)
  have h1 := h.at_ j hj
  rw [e, List.getD_eq_getElem?_getD, List.getElem?_eq_getElem hi] at h1
  have h2 : B[i] = f (A.getD j default) := h1
  rw [h2]
  refine hf _ (hA _ ?_)
  rw [List.getD_eq_getElem?_getD, List.getElem?_eq_getElem (by rw [h.la]; exact hj)]
  exact List.getElem_mem _

/-! ### the wheel -/
theorem pickF_rot {n k : Nat} (hk : k < n) {busy busy' : Nat → Bool} (hb : ∀ j, j < n → busy' (rot n k j) = busy j) : ∀ (f : Nat) (L M : List Share) (t : Nat), Rot n k id L M → t < n →
    Rot n k id (pickF busy f L t).1 (pickF busy' f M (rot n k t)).1 ∧ (pickF busy' f M (rot n k t)).2 = rot n k (pickF busy f L t).2 ∧ (pickF busy f L t).2 < n
  | 0, L, M, t, h, ht => ⟨h, rfl, ht⟩
  | f + 1, L, M, t, h, ht => by
    have e1 : M.getD (rot n k t) default = L.getD t default := h.at_ t ht
    simp only [pickF]
    rw [hb t ht, e1, h.la, h.lb, rot_next hk ht]
    have hn1 : (t + 1) % n < n := Nat.mod_lt _ (by omega)
    split
    · split
      · exact ⟨h, rfl, ht⟩
      · exact pickF_rot hk hb f _ _ _ (h.set hk ht _) hn1
    · exact pickF_rot hk hb f _ _ _ (h.set hk ht _) hn1

/-- The schedulers of both flows. -/
structure Shift (n k : Nat) (a b : Shares) : Prop where
  list : Rot n k id a.list b.list
  ta0 : 0 ≤ a.turn
  ta1 : a.turn < n
  tb : b.turn = ((rot n k a.turn.toNat : Nat) : Int)
  odd : a.list.any oddS = false

theorem odd_all {L : List Share} (h : L.any oddS = false) : ∀ x ∈ L, oddS x = false := fun x hx => by simpa using List.any_eq_false.1 h x hx
theorem odd_of_all {L : List Share} (h : ∀ x ∈ L, oddS x = false) : L.any oddS = false := List.any_eq_false.2 fun x hx => by simp [h x hx]

theorem Shift.oddb {n k : Nat} {a b : Shares} (h : Shift n k a b) (hk : k < n) : b.list.any oddS = false := odd_of_all (h.list.all hk (odd_all h.odd) fun x hx => hx)

theorem ck_of {s : Shares} {n : Nat} (hl : s.list.length = n) (h1 : 1 ≤ n) (h8 : n ≤ 8) (ht0 : 0 ≤ s.turn) (ht1 : s.turn < n) (ho : s.list.any oddS = false) : ckS s = 0 := by
  unfold ckS
  rw [if_neg]
  simp only [ckBad, Bool.or_eq_true, decide_eq_true_eq, not_or, hl, ho]
  refine ⟨⟨⟨⟨?_, ?_⟩, ?_⟩, ?_⟩, ?_⟩ <;> first | omega | simp

theorem Shift.cka {n k : Nat} {a b : Shares} (h : Shift n k a b) (hk : k < n) (h8 : n ≤ 8) : ckS a = 0 := ck_of h.list.la (by omega) h8 h.ta0 h.ta1 h.odd
theorem Shift.ckb {n k : Nat} {a b : Shares} (h : Shift n k a b) (hk : k < n) (h8 : n ≤ 8) : ckS b = 0 := by
  have h1 := rot_lt (n := n) (k := k) (j := a.turn.toNat) (by omega)
  exact ck_of h.list.lb (by omega) h8 (by rw [h.tb]; omega) (by rw [h.tb]; omega) (h.oddb hk)

/-! ### queues -/
def shI (later : Int) (x : Item) : Item := ⟨x.id + 1000, x.bytes, x.at_ + later⟩
def shQ (later : Int) (q : Fifo) : Fifo := ⟨q.items.map (shI later), if q.until_ > 0 then q.until_ + later else q.until_, q.runs⟩

structure QOk (now : Int) (q : Fifo) : Prop where
  len : q.items.length ≤ 256
  sorted : itemsOk 0 q.items = true
  items : ∀ x ∈ q.items, 0 ≤ x.id ∧ x.id ≤ 1000 ∧ x.at_ ≤ now
  u0 : 0 ≤ q.until_
  u1 : q.until_ ≤ now + 100000
  r0 : 0 ≤ q.runs
  r1 : q.runs ≤ 256
  ur : q.until_ = 0 → q.runs = 0

theorem QOk.later {now now' : Int} {q : Fifo} (h : QOk now q) (hn : now ≤ now') : QOk now' q :=
  ⟨h.len, h.sorted, fun x hx => ⟨(h.items x hx).1, (h.items x hx).2.1, by have := (h.items x hx).2.2; omega⟩, h.u0, by have := h.u1; omega, h.r0, h.r1, h.ur⟩

theorem itemBad_of {last : Int} {x : Item} (h1 : last ≤ x.at_) (h2 : x.at_ ≤ 1099511627776) (h3 : 0 ≤ x.bytes) (h4 : x.bytes ≤ 2304) : itemBad last x = false := by
  simp only [itemBad, Bool.or_eq_false_iff, decide_eq_false_iff_not]
  exact ⟨⟨⟨by omega, by omega⟩, by omega⟩, by omega⟩

theorem sorted_sh {later : Int} (h0 : 0 ≤ later) : ∀ {l : List Item} {last last' : Int}, itemsOk last l = true → last' ≤ last + later → (∀ x ∈ l, x.at_ + later ≤ 1099511627776) → itemsOk last' (l.map (shI later)) = true
  | [], _, _, _, _, _ => rfl
  | x :: r, last, last', h, hl, hb => by
    simp only [itemsOk, Bool.and_eq_true] at h
    have h1 := h.1
    simp only [itemBad, Bool.not_eq_true', Bool.or_eq_false_iff, decide_eq_false_iff_not] at h1
    have h2 := hb x (List.mem_cons_self ..)
    simp only [List.map_cons, itemsOk, Bool.and_eq_true]
    refine ⟨?_, sorted_sh h0 h.2 (show x.at_ + later ≤ _ from Int.le_refl _) fun y hy => hb y (List.mem_cons_of_mem _ hy)⟩
    rw [itemBad_of (x := shI later x) (show last' ≤ x.at_ + later by omega) (show x.at_ + later ≤ _ by omega) (show 0 ≤ x.bytes by omega) (show x.bytes ≤ 2304 by omega)]; rfl

theorem check_of {q : Fifo} (hl : q.items.length ≤ 256) (hs : itemsOk 0 q.items = true) (u0 : 0 ≤ q.until_) (u1 : q.until_ ≤ 2199023255552) (r0 : 0 ≤ q.runs) (r1 : q.runs ≤ 256) (ur : q.until_ = 0 → q.runs = 0) : checkS q = 0 := by
  unfold checkS
  rw [if_neg, if_pos hs]
  simp only [headBad, Bool.or_eq_true, Bool.and_eq_true, decide_eq_true_eq, not_or, not_and, beq_iff_eq, bne_iff_ne, ne_eq]
  refine ⟨⟨⟨⟨⟨?_, ?_⟩, ?_⟩, ?_⟩, ?_⟩, fun h h' => h' (ur h)⟩ <;> omega

theorem latest_le {l : List Item} {now : Int} (h0 : 0 ≤ now) (h : ∀ x ∈ l, x.at_ ≤ now) : latestS l ≤ now := by
  unfold latestS
  split
  · rename_i x hx; exact h x (List.mem_of_getLast? hx)
  · exact h0

theorem asked_of {q : Fifo} {now : Int} (hc : checkS q = 0) (h0 : 0 ≤ now) (h1 : now ≤ 1099511627776) (h : ∀ x ∈ q.items, x.at_ ≤ now) : askedS q now = 0 := by
  unfold askedS
  rw [if_pos hc, if_neg]
  have := latest_le h0 h
  omega

theorem QOk.asked {now : Int} {q : Fifo} (h : QOk now q) (h0 : 0 ≤ now) (h1 : now ≤ 1000000000) : askedS q now = 0 :=
  asked_of (check_of h.len h.sorted h.u0 (by have := h.u1; omega) h.r0 h.r1 h.ur) h0 (by omega) fun x hx => (h.items x hx).2.2

theorem QOk.askedSh {now later : Int} {q : Fifo} (h : QOk now q) (h0 : 0 ≤ now) (h1 : now ≤ 1000000000) (l0 : 0 ≤ later) (l1 : later ≤ 1073741824) : askedS (shQ later q) (now + later) = 0 := by
  have hu := h.u0
  have hu1 := h.u1
  refine asked_of (check_of (by simpa [shQ] using h.len) (sorted_sh l0 h.sorted (by omega) fun x hx => by have := (h.items x hx).2.2; omega) ?_ ?_ h.r0 h.r1 ?_) (by omega) (by omega) fun x hx => ?_
  · show 0 ≤ (if q.until_ > 0 then q.until_ + later else q.until_); split <;> omega
  · show (if q.until_ > 0 then q.until_ + later else q.until_) ≤ _; split <;> omega
  · show (if q.until_ > 0 then q.until_ + later else q.until_) = 0 → _
    intro he
    split at he
    · omega
    · exact h.ur he
  · obtain ⟨y, hy, rfl⟩ := List.mem_map.1 hx
    have := (h.items y hy).2.2
    show y.at_ + later ≤ now + later
    omega

theorem sorted_append : ∀ {l : List Item} {last : Int} {x : Item}, itemsOk last l = true → (∀ y ∈ l, y.at_ ≤ x.at_) → last ≤ x.at_ → x.at_ ≤ 1099511627776 → 0 ≤ x.bytes → x.bytes ≤ 2304 → itemsOk last (l ++ [x]) = true
  | [], last, x, _, _, h1, h2, h3, h4 => by
    simp only [List.nil_append, itemsOk, Bool.and_true, itemBad, Bool.not_eq_true', Bool.or_eq_false_iff, decide_eq_false_iff_not]; omega
  | y :: r, last, x, h, hy, h1, h2, h3, h4 => by
    simp only [itemsOk, Bool.and_eq_true] at h
    simp only [List.cons_append, itemsOk, Bool.and_eq_true]
    exact ⟨h.1, sorted_append h.2 (fun z hz => hy z (List.mem_cons_of_mem _ hz)) (hy y (List.mem_cons_self ..)) h2 h3 h4⟩

theorem sorted_weak : ∀ {l : List Item} {last last' : Int}, itemsOk last l = true → last' ≤ last → itemsOk last' l = true
  | [], _, _, _, _ => rfl
  | x :: r, last, last', h, hl => by
    simp only [itemsOk, Bool.and_eq_true] at h ⊢
    refine ⟨?_, h.2⟩
    have h1 := h.1
    simp only [itemBad, Bool.not_eq_true', Bool.or_eq_false_iff, decide_eq_false_iff_not] at h1 ⊢
    omega

theorem sorted_drop : ∀ {l : List Item} {last : Int} {m : Nat}, 0 ≤ last → itemsOk last l = true → itemsOk 0 (l.drop m) = true
  | [], _, _, _, _ => by simp [itemsOk]
  | x :: r, last, 0, h0, h => by
    exact sorted_weak h h0
  | x :: r, last, m + 1, h0, h => by
    have h2 := itemsOk_at h x (List.mem_cons_self ..)
    simp only [itemsOk, Bool.and_eq_true] at h
    show itemsOk 0 (r.drop m) = true
    exact sorted_drop (last := x.at_) (by omega) h.2

theorem put_law {now later id bytes : Int} {q : Fifo} (h : QOk now q) (h0 : 0 ≤ now) (h1 : now ≤ 1000000000) (l0 : 0 ≤ later) (l1 : later ≤ 1073741824) (i0 : 0 ≤ id) (i1 : id ≤ 1000) (b0 : 0 ≤ bytes) (b1 : bytes ≤ 2304) :
    (putS (shQ later q) (id + 1000) bytes (now + later)).2 = (putS q id bytes now).2 ∧ ((putS q id bytes now).2 = 0 → (putS (shQ later q) (id + 1000) bytes (now + later)).1 = shQ later (putS q id bytes now).1 ∧ QOk now (putS q id bytes now).1) := by
  have ha := h.asked h0 h1
  have hb := h.askedSh h0 h1 l0 l1
  have hlen : (shQ later q).items.length = q.items.length := by simp [shQ]
  unfold putS
  have e8 : ¬ ((0 : Int) = 8) := by decide
  have eb : ¬ ((0 : Int) ≠ 0 ∨ bytes < 0 ∨ bytes > 2304) := by omega
  rw [ha, hb, hlen]
  simp only [if_neg e8, if_neg eb]
  by_cases hf : q.items.length = 256
  · simp only [if_pos hf]; exact ⟨trivial, fun h => absurd h (by decide)⟩
  · simp only [if_neg hf]
    refine ⟨trivial, fun _ => ⟨?_, ?_⟩⟩
    · simp only [shQ, List.map_append, List.map_cons, List.map_nil, shI]
    · have hl := h.len
      refine ⟨by simp only [List.length_append, List.length_cons, List.length_nil]; omega, sorted_append h.sorted (fun y hy => (h.items y hy).2.2) h0 (show now ≤ _ by omega) b0 b1, fun x hx => ?_, h.u0, h.u1, h.r0, h.r1, h.ur⟩
      rcases List.mem_append.1 hx with hx | hx
      · exact h.items x hx
      · have := List.mem_singleton.1 hx
        subst this
        exact ⟨i0, i1, Int.le_refl _⟩

theorem ageN_sh {now later life : Int} : ∀ (l : List Item), ageN (now + later) life (l.map (shI later)) = ageN now life l
  | [] => rfl
  | x :: r => by
    simp only [List.map_cons, ageN, shI, ageN_sh r]
    have : (now + later - (x.at_ + later)) = now - x.at_ := by omega
    rw [this]

theorem age_law {now later life : Int} {q : Fifo} (h : QOk now q) (h0 : 0 ≤ now) (h1 : now ≤ 1000000000) (l0 : 0 ≤ later) (l1 : later ≤ 1073741824) (f0 : 0 ≤ life) (f1 : life ≤ 1000000) :
    (ageS q now life).2.2 = 0 ∧ (ageS (shQ later q) (now + later) life).2.2 = 0 ∧ (ageS (shQ later q) (now + later) life).2.1 = (ageS q now life).2.1.map (shI later) ∧ (ageS (shQ later q) (now + later) life).1 = shQ later (ageS q now life).1 ∧ QOk now (ageS q now life).1 := by
  have ha := h.asked h0 h1
  have hb := h.askedSh h0 h1 l0 l1
  have hN : ageN (now + later) life (shQ later q).items = ageN now life q.items := ageN_sh _
  unfold ageS
  rw [if_pos ha, if_pos hb, if_neg (by omega), if_neg (by omega)]
  refine ⟨rfl, rfl, ?_, ?_, ?_⟩
  · show (shQ later q).items.take _ = (q.items.take _).map _
    rw [hN]; exact List.map_take.symm
  · show Fifo.mk _ _ _ = _
    rw [hN]
    simp only [shQ, List.map_drop]
  · exact ⟨by have := h.len; show (q.items.drop _).length ≤ _; simp only [List.length_drop]; omega, sorted_drop (Int.le_refl _) h.sorted, fun x hx => h.items x (List.mem_of_mem_drop hx), h.u0, h.u1, h.r0, h.r1, h.ur⟩

theorem QOk.zero {now : Int} (h0 : 0 ≤ now) : QOk now Fifo.zero := ⟨by simp [Fifo.zero], rfl, fun x hx => by simp [Fifo.zero] at hx, by simp [Fifo.zero], by show (0 : Int) ≤ _; omega, by simp [Fifo.zero], by simp [Fifo.zero], fun _ => rfl⟩

theorem shQ_zero {later : Int} : shQ later Fifo.zero = Fifo.zero := by simp [shQ, Fifo.zero]

theorem late_sh {now later : Int} {q : Fifo} (hq : q.items ≠ []) : lateS (shQ later q) (now + later) = lateS q now := by
  unfold lateS shQ
  cases hl : q.items with
  | nil => exact absurd hl hq
  | cons x r =>
    simp only [List.map_cons, List.getD_cons_zero, shI]
    have : (now + later - (x.at_ + later)) = now - x.at_ := by omega
    rw [this]

theorem until_le {now later : Int} {q : Fifo} (u0 : 0 < q.until_) : ((shQ later q).until_ ≤ now + later) = (q.until_ ≤ now) := by
  unfold shQ
  simp only [gt_iff_lt, if_pos u0]
  exact propext ⟨fun h => by omega, fun h => by omega⟩

theorem until_zero {later : Int} {q : Fifo} (u0 : 0 ≤ q.until_) (l0 : 0 ≤ later) : ((shQ later q).until_ = 0) = (q.until_ = 0) := by
  unfold shQ
  simp only [gt_iff_lt]
  refine propext ⟨fun h => ?_, fun h => ?_⟩
  · split at h <;> omega
  · rw [if_neg (by omega)]; exact h

theorem runs_sh {later : Int} {q : Fifo} : runsS (shQ later q) = runsS q := rfl

theorem next_law {now later : Int} {q : Fifo} (h : QOk now q) (hq : q.items ≠ []) (h0 : 0 ≤ now) (h1 : now ≤ 1000000000) (l0 : 0 ≤ later) (l1 : later ≤ 1073741824) :
    nextS (shQ later q) (now + later) = shQ later (nextS q now) ∧ dropS (shQ later q) (now + later) = (dropS q now).map (shI later) ∧ QOk now (nextS q now) := by
  have hu := h.u0
  have hr0 : 0 ≤ runsS q ∧ runsS q ≤ 256 := by have := h.r0; unfold runsS; split <;> omega
  have ht : 0 ≤ (100000 : Int).tdiv (runsS q + 1) ∧ (100000 : Int).tdiv (runsS q + 1) ≤ 100000 := tdiv_bounds (by omega) (by omega)
  have e1 : (now + later ≤ 0 → False) ∨ True := .inr trivial
  unfold nextS dropS
  simp only [late_sh hq, until_zero hu l0, runs_sh, ne_eq]
  cases hla : lateS q now with
  | false =>
    refine ⟨?_, ?_, ?_⟩
    · simp [shQ]
    · simp
    · exact ⟨h.len, h.sorted, h.items, Int.le_refl _, by show (0 : Int) ≤ _; omega, Int.le_refl _, by show (0 : Int) ≤ _; omega, fun _ => rfl⟩
  | true =>
    have ft : ¬ (true = false) := by decide
    simp only [if_neg ft]
    by_cases hz : q.until_ = 0
    · have hz2 : ¬ (True ∧ ¬ q.until_ = 0 ∧ (shQ later q).until_ ≤ now + later) := fun e => e.2.1 hz
      have hz3 : ¬ (True ∧ ¬ q.until_ = 0 ∧ q.until_ ≤ now) := fun e => e.2.1 hz
      simp only [if_pos hz, if_neg hz2, if_neg hz3]
      refine ⟨?_, rfl, ?_⟩
      · simp only [shQ]
        rw [if_pos (show now + 100000 > 0 by omega)]
        congr 1
        omega
      · exact ⟨h.len, h.sorted, h.items, by show 0 ≤ now + 100000; omega, Int.le_refl _, h.r0, h.r1, fun e => by have : now + 100000 = 0 := e; omega⟩
    · simp only [if_neg hz, until_le (q := q) (now := now) (later := later) (by omega)]
      by_cases hn : q.until_ ≤ now
      · have hz3 : (True ∧ ¬ q.until_ = 0 ∧ q.until_ ≤ now) := ⟨trivial, hz, hn⟩
        simp only [if_pos hn, if_pos hz3]
        refine ⟨?_, ?_, ?_⟩
        · simp only [shQ, List.map_drop]
          rw [if_pos (show now + (100000 : Int).tdiv (runsS q + 1) > 0 by omega)]
          congr 1
          omega
        · exact List.map_take.symm
        · have hl := h.len
          exact ⟨by show (q.items.drop 1).length ≤ _; simp only [List.length_drop]; omega, sorted_drop (Int.le_refl _) h.sorted, fun x hx => h.items x (List.mem_of_mem_drop hx), by show 0 ≤ now + _; omega, by show now + _ ≤ _; omega, hr0.1, hr0.2, fun e => by have : now + (100000 : Int).tdiv (runsS q + 1) = 0 := e; omega⟩
      · have hz3 : ¬ (True ∧ ¬ q.until_ = 0 ∧ q.until_ ≤ now) := fun e => hn e.2.2
        simp only [if_neg hn, if_neg hz3]
        exact ⟨trivial, rfl, h⟩

theorem map_nil_iff {later : Int} {l : List Item} : (l.map (shI later) = []) = (l = []) := propext List.map_eq_nil_iff

theorem take_law {now later : Int} {q : Fifo} (h : QOk now q) (h0 : 0 ≤ now) (h1 : now ≤ 1000000000) (l0 : 0 ≤ later) (l1 : later ≤ 1073741824) :
    (takeS q now).2.2.2.2 = 0 ∧ (takeS (shQ later q) (now + later)).2.2.2.2 = 0 ∧ (takeS (shQ later q) (now + later)).2.2.1 = (takeS q now).2.2.1 ∧ (takeS (shQ later q) (now + later)).2.2.2.1 = (takeS q now).2.2.2.1.map (shI later)
    ∧ (takeS (shQ later q) (now + later)).1 = shQ later (takeS q now).1 ∧ QOk now (takeS q now).1 ∧ ((takeS q now).2.2.1 = true → (takeS (shQ later q) (now + later)).2.1 = shI later (takeS q now).2.1 ∧ 0 ≤ (takeS q now).2.1.bytes ∧ (takeS q now).2.1.bytes ≤ 2304) := by
  have ha := h.asked h0 h1
  have hb := h.askedSh h0 h1 l0 l1
  unfold takeS
  rw [if_pos ha, if_pos hb]
  have e1 : ((shQ later q).items = []) = (q.items = []) := map_nil_iff
  simp only [e1]
  by_cases hq : q.items = []
  · rw [if_pos hq, if_pos hq]
    exact ⟨rfl, rfl, rfl, rfl, shQ_zero.symm, .zero h0, fun h => by cases h⟩
  · rw [if_neg hq, if_neg hq]
    obtain ⟨n1, n2, n3⟩ := next_law h hq h0 h1 l0 l1
    rw [n1, n2]
    have e2 : ((shQ later (nextS q now)).items = []) = ((nextS q now).items = []) := map_nil_iff
    simp only [e2]
    by_cases hq2 : (nextS q now).items = []
    · rw [if_pos hq2, if_pos hq2]
      exact ⟨rfl, rfl, rfl, rfl, shQ_zero.symm, .zero h0, fun h => by cases h⟩
    · rw [if_neg hq2, if_neg hq2]
      refine ⟨rfl, rfl, rfl, rfl, ?_, ?_, fun _ => ?_⟩
      · simp only [shQ, List.map_drop]
      · have hl := n3.len
        exact ⟨by show ((nextS q now).items.drop 1).length ≤ _; simp only [List.length_drop]; omega, sorted_drop (Int.le_refl _) n3.sorted, fun x hx => n3.items x (List.mem_of_mem_drop hx), n3.u0, n3.u1, n3.r0, n3.r1, n3.ur⟩
      · cases hl : (nextS q now).items with
        | nil => exact absurd hl hq2
        | cons x r =>
          have h3 := itemsOk_at n3.sorted x (by rw [hl]; exact List.mem_cons_self ..)
          refine ⟨?_, h3.2.2.1, h3.2.2.2⟩
          show (List.map (shI later) (nextS q now).items).getD 0 default = shI later ((x :: r).getD 0 default)
          rw [hl]
          rfl

/-! ### a move -/
structure Rel (n k : Nat) (later now : Int) (ta tb : Shares) (qa qb : List Fifo) : Prop where
  turns : Shift n k ta tb
  rot : Rot n k (shQ later) qa qb
  ok : ∀ q ∈ qa, QOk now q

theorem Rel.get {n k : Nat} {later now : Int} {ta tb : Shares} {qa qb : List Fifo} (h : Rel n k later now ta tb qa qb) {j : Nat} (hj : j < n) : QOk now (qa.getD j default) := by
  refine h.ok _ ?_
  rw [List.getD_eq_getElem?_getD, List.getElem?_eq_getElem (by rw [h.rot.la]; exact hj)]
  exact List.getElem_mem _

theorem Rel.later {n k : Nat} {later now now' : Int} {ta tb : Shares} {qa qb : List Fifo} (h : Rel n k later now ta tb qa qb) (hn : now ≤ now') : Rel n k later now' ta tb qa qb := ⟨h.turns, h.rot, fun q hq => (h.ok q hq).later hn⟩

theorem Rel.setQ {n k : Nat} {later now : Int} {ta tb : Shares} {qa qb : List Fifo} (h : Rel n k later now ta tb qa qb) (hk : k < n) {t : Nat} (ht : t < n) {q : Fifo} (hq : QOk now q) : Rel n k later now ta tb (qa.set t q) (qb.set (Proofs.Ytencghlmckbmlaa.rot n k t) (shQ later q)) :=
  ⟨h.turns, h.rot.set hk ht q, fun x hx => by
    rcases List.mem_or_eq_of_mem_set hx with h1 | rfl
    · exact h.ok x h1
    · exact hq⟩

theorem Rel.setT {n k : Nat} {later now : Int} {ta tb ta' tb' : Shares} {qa qb : List Fifo} (h : Rel n k later now ta tb qa qb) (ht : Shift n k ta' tb') : Rel n k later now ta' tb' qa qb := ⟨ht, h.rot, h.ok⟩

theorem back_sh {later : Int} {x : Item} : backI later 1000 (shI later x) = x := by
  obtain ⟨a, b, c⟩ := x
  show Item.mk _ _ _ = _
  congr 1
  · show a + 1000 - 1000 = a; omega
  · show c + later - later = c; omega

theorem back_zero {x : Item} : backI 0 0 x = x := by
  obtain ⟨a, b, c⟩ := x
  show Item.mk _ _ _ = _
  congr 1
  · show a - 0 = a; omega
  · show c - 0 = c; omega

theorem map_back_sh {later : Int} {l : List Item} : (l.map (shI later)).map (backI later 1000) = l := by
  rw [List.map_map]
  have : (backI later 1000 ∘ shI later) = id := funext fun x => back_sh
  rw [this, List.map_id]

theorem map_back_zero {l : List Item} : l.map (backI 0 0) = l := by
  have : backI 0 0 = id := funext fun x => back_zero
  rw [this, List.map_id]

theorem busy_getD {qs : List Fifo} {n j : Nat} (hl : qs.length = n) (hj : j < n) : (busyOf qs).getD j false = decide (((qs.getD j default).items.length : Int) > 0) := by
  unfold busyOf
  rw [List.getD_eq_getElem?_getD, List.getElem?_map, List.getElem?_eq_getElem (by omega), List.getD_eq_getElem?_getD, List.getElem?_eq_getElem (by omega)]
  rfl

theorem Rel.busy {n k : Nat} {later now : Int} {ta tb : Shares} {qa qb : List Fifo} (h : Rel n k later now ta tb qa qb) (hk : k < n) : ∀ j, j < n → (busyOf qb).getD (Proofs.Ytencghlmckbmlaa.rot n k j) false = (busyOf qa).getD j false := fun j hj => by
  rw [busy_getD h.rot.lb (rot_lt (by omega)), busy_getD h.rot.la hj, h.rot.at_ j hj]
  simp [shQ]

theorem Rel.any {n k : Nat} {later now : Int} {ta tb : Shares} {qa qb : List Fifo} (h : Rel n k later now ta tb qa qb) (hk : k < n) : (busyOf qb).any id = (busyOf qa).any id := by
  have hla : (busyOf qa).length = n := by simp [busyOf, h.rot.la]
  have hlb : (busyOf qb).length = n := by simp [busyOf, h.rot.lb]
  rw [Bool.eq_iff_iff]
  constructor
  · intro h1
    obtain ⟨i, hi, h2⟩ := any_getD h1
    obtain ⟨j, hj, rfl⟩ := rot_surj hk (i := i) (by omega)
    have h3 : (busyOf qa).getD j false = true := by rw [← h.busy hk j hj]; exact h2
    refine List.any_eq_true.2 ⟨true, ?_, rfl⟩
    rw [List.getD_eq_getElem?_getD, List.getElem?_eq_getElem (by omega)] at h3
    exact h3 ▸ List.getElem_mem _
  · intro h1
    obtain ⟨j, hj, h2⟩ := any_getD h1
    have h3 : (busyOf qb).getD (Proofs.Ytencghlmckbmlaa.rot n k j) false = true := by rw [h.busy hk j (by omega)]; exact h2
    refine List.any_eq_true.2 ⟨true, ?_, rfl⟩
    rw [List.getD_eq_getElem?_getD, List.getElem?_eq_getElem (by rw [hlb]; exact rot_lt (by omega))] at h3
    exact h3 ▸ List.getElem_mem _

/-- Choosing in both flows. -/
theorem choose_law {n k : Nat} {later now : Int} {ta tb : Shares} {qa qb : List Fifo} (h : Rel n k later now ta tb qa qb) (hk : k < n) (h8 : n ≤ 8) :
    (choose ta (busyOf qa)).2.2 = 0 ∧ (choose tb (busyOf qb)).2.2 = 0 ∧ Shift n k (choose ta (busyOf qa)).2.1 (choose tb (busyOf qb)).2.1 ∧
    (((choose ta (busyOf qa)).1 = -1 ∧ (choose tb (busyOf qb)).1 = -1) ∨
      ∃ w : Nat, w < n ∧ (choose ta (busyOf qa)).1 = (w : Nat) ∧ (choose tb (busyOf qb)).1 = ((Proofs.Ytencghlmckbmlaa.rot n k w : Nat) : Int) ∧ 0 < ((choose ta (busyOf qa)).2.1.list.getD w default).credit) := by
  have hla : (busyOf qa).length = ta.list.length := by simp [busyOf, h.rot.la, h.turns.list.la]
  have hlb : (busyOf qb).length = tb.list.length := by simp [busyOf, h.rot.lb, h.turns.list.lb]
  have hta : ta.turn.toNat < n := by have := h.turns.ta0; have := h.turns.ta1; omega
  unfold choose
  rw [if_pos (h.turns.cka hk h8), if_pos (h.turns.ckb hk h8), if_pos hla, if_pos hlb, h.any hk]
  cases hany : (busyOf qa).any id with
  | false =>
    rw [if_neg (by decide), if_neg (by decide)]
    exact ⟨rfl, rfl, h.turns, .inl ⟨rfl, rfl⟩⟩
  | true =>
    rw [if_pos rfl, if_pos rfl]
    have hb : tb.turn.toNat = Proofs.Ytencghlmckbmlaa.rot n k ta.turn.toNat := by rw [h.turns.tb]; omega
    obtain ⟨j, hj, hbj⟩ := any_getD hany
    have hp := pick_res (n := n) (busy := fun i => (busyOf qa).getD i false) h.turns.list.la hta (by omega) (by rw [hla, h.turns.list.la] at hj; exact hj) hbj h.turns.odd
    obtain ⟨e1, e2, e3⟩ := pickF_rot hk (busy := fun i => (busyOf qa).getD i false) (busy' := fun i => (busyOf qb).getD i false) (h.busy hk) 2000000 ta.list tb.list ta.turn.toNat h.turns.list hta
    rw [hb]
    refine ⟨rfl, rfl, ⟨e1, Int.natCast_nonneg _, ?_, ?_, hp.odd⟩, .inr ⟨_, e3, rfl, ?_, hp.credit⟩⟩
    · show (((pickS _ _ _).2 : Nat) : Int) < n
      have : (pickS (fun i => (busyOf qa).getD i false) ta.list ta.turn.toNat).2 < n := e3
      omega
    · show (((pickS _ _ _).2 : Nat) : Int) = _
      have : (pickS (fun i => (busyOf qb).getD i false) tb.list (Proofs.Ytencghlmckbmlaa.rot n k ta.turn.toNat)).2 = Proofs.Ytencghlmckbmlaa.rot n k (pickS (fun i => (busyOf qa).getD i false) ta.list ta.turn.toNat).2 := e2
      rw [this]
      rfl
    · have : (pickS (fun i => (busyOf qb).getD i false) tb.list (Proofs.Ytencghlmckbmlaa.rot n k ta.turn.toNat)).2 = Proofs.Ytencghlmckbmlaa.rot n k (pickS (fun i => (busyOf qa).getD i false) ta.list ta.turn.toNat).2 := e2
      show (((pickS _ _ _).2 : Nat) : Int) = _
      rw [this]
      rfl

/-- Charging in both flows. -/
theorem charge_law {n k w : Nat} {a b : Shares} {air : Int} (h : Shift n k a b) (hk : k < n) (h8 : n ≤ 8) (hw : w < n) (hc : 0 < (a.list.getD w default).credit) (h1 : 1 ≤ air) (h2 : air ≤ 32767) :
    (chargeS a (w : Nat) air).2 = 0 ∧ (chargeS b ((rot n k w : Nat) : Int) air).2 = 0 ∧ Shift n k (chargeS a (w : Nat) air).1 (chargeS b ((rot n k w : Nat) : Int) air).1 := by
  have hla := h.list.la
  have hlb := h.list.lb
  have hr := rot_lt (n := n) (k := k) (j := w) (by omega)
  have hcb : b.list.getD (rot n k w) default = a.list.getD w default := h.list.at_ w hw
  have ho := odd_ok (odd_getD h.odd (by omega : w < a.list.length))
  unfold chargeS
  have x1 : ¬ ((w : Int) < 0 ∨ (w : Int) ≥ (a.list.length : Int) ∨ air < 1 ∨ air > 32767) := by omega
  have x2 : ¬ (((rot n k w : Nat) : Int) < 0 ∨ ((rot n k w : Nat) : Int) ≥ (b.list.length : Int) ∨ air < 1 ∨ air > 32767) := by omega
  have x3 : ¬ ((a.list.getD w default).credit ≤ 0) := by omega
  rw [if_pos (h.cka hk h8), if_pos (h.ckb hk h8), if_neg x1, if_neg x2]
  simp only [Int.toNat_natCast, hcb, if_neg x3]
  refine ⟨trivial, trivial, h.list.set hk hw _, h.ta0, h.ta1, h.tb, odd_set h.odd (oddS_false ho.1 ho.2.1 ?_ ?_)⟩
  · show -32767 ≤ _ - air; omega
  · show _ - air ≤ 1000 * (a.list.getD w default).weight; omega

theorem who_back {n k w : Nat} (hk : k < n) (hw : w < n) : (((rot n k w : Nat) : Int) - (k : Int) % (n : Int) + n) % (n : Int) = w := by
  have : (k : Int) % (n : Int) = k := Int.emod_eq_of_lt (by omega) (by omega)
  rw [this, rot_eq hk hw]
  split
  · have e : (((w + k : Nat) : Int) - (k : Int) + n) = (w : Int) + n := by omega
    rw [e, Int.add_emod_right]
    exact Int.emod_eq_of_lt (by omega) (by omega)
  · rename_i h
    have e : (((w + k - n : Nat) : Int) - (k : Int) + n) = (w : Int) := by omega
    rw [e]
    exact Int.emod_eq_of_lt (by omega) (by omega)

theorem slot_a {n : Nat} {N : Int} (hn : 0 < n) : slot ⟨n, 0, 0, 0⟩ N < n ∧ (slot ⟨n, 0, 0, 0⟩ N : Int) = N % n := by
  have h1 : 0 ≤ N % (n : Int) := Int.emod_nonneg _ (by omega)
  have h2 : N % (n : Int) < n := Int.emod_lt_of_pos _ (by omega)
  have h3 : (N % (n : Int) + ((0 : Nat) : Int)) % (n : Int) = N % n := by rw [Int.natCast_zero, Int.add_zero]; exact Int.emod_emod _ _
  have h4 : slot ⟨n, 0, 0, 0⟩ N = (N % (n : Int)).toNat := by show ((N % (n : Int) + ((0 : Nat) : Int)) % (n : Int)).toNat = _; rw [h3]
  rw [h4]
  omega

theorem slot_b {n k : Nat} {N later names : Int} (hn : 0 < n) : slot ⟨n, k, later, names⟩ N = rot n k (slot ⟨n, 0, 0, 0⟩ N) := by
  have h1 := (slot_a (N := N) hn).2
  unfold rot
  show ((N % (n : Int) + (k : Int)) % (n : Int)).toNat = _
  rw [← h1, ← Int.natCast_add, ← Int.natCast_emod]
  rfl

/-- The same move in both flows. -/
theorem move_law {n k : Nat} {later now : Int} {ta tb : Shares} {qa qb : List Fifo} (h : Rel n k later now ta tb qa qb) (hk : k < n) (h8 : n ≤ 8) (h0 : 0 ≤ now) (h1 : now ≤ 1000000000) (l0 : 0 ≤ later) (l1 : later ≤ 1073741824)
    (m : Mv) (id : Int) (i0 : 0 ≤ id) (i1 : id ≤ 1000) (hN : 0 ≤ m.n) :
    (moveS ⟨n, 0, 0, 0⟩ ta qa m id now).1.ok = true ∧ (moveS ⟨n, k, later, 1000⟩ tb qb m id now).1.ok = true ∧
    (moveS ⟨n, k, later, 1000⟩ tb qb m id now).1.who = (moveS ⟨n, 0, 0, 0⟩ ta qa m id now).1.who ∧ (moveS ⟨n, k, later, 1000⟩ tb qb m id now).1.e = (moveS ⟨n, 0, 0, 0⟩ ta qa m id now).1.e ∧
    (moveS ⟨n, k, later, 1000⟩ tb qb m id now).1.items = (moveS ⟨n, 0, 0, 0⟩ ta qa m id now).1.items ∧
    Rel n k later now (moveS ⟨n, 0, 0, 0⟩ ta qa m id now).2.1 (moveS ⟨n, k, later, 1000⟩ tb qb m id now).2.1 (moveS ⟨n, 0, 0, 0⟩ ta qa m id now).2.2 (moveS ⟨n, k, later, 1000⟩ tb qb m id now).2.2 := by
  have hs := slot_a (n := n) (N := m.n) (by omega)
  have hg : qb.getD (slot ⟨n, k, later, 1000⟩ m.n) default = shQ later (qa.getD (slot ⟨n, 0, 0, 0⟩ m.n) default) := by rw [slot_b (by omega)]; exact h.rot.at_ _ hs.1
  have hq := h.get hs.1
  have hnow : now + 0 = now := Int.add_zero _
  unfold moveS
  by_cases hk1 : m.kind % 8 = 0 ∨ m.kind % 8 = 1 ∨ m.kind % 8 = 2
  · rw [if_pos hk1, if_pos hk1]
    obtain ⟨p1, p2⟩ := put_law (id := id) (bytes := m.n % 2305) hq h0 h1 l0 l1 i0 i1 (by omega) (by omega)
    simp only [hg, Int.add_zero]
    rw [p1]
    refine ⟨trivial, trivial, trivial, rfl, trivial, ?_⟩
    split
    · rename_i he
      rw [(p2 he).1, slot_b (k := k) (later := later) (names := 1000) (by omega)]
      exact h.setQ hk hs.1 (p2 he).2
    · exact h
  · rw [if_neg hk1, if_neg hk1]
    by_cases hk2 : m.kind % 8 = 7
    · rw [if_pos hk2, if_pos hk2]
      obtain ⟨a1, a2, a3, a4, a5⟩ := age_law (life := 3000 * (m.n % 50)) hq h0 h1 l0 l1 (by omega) (by omega)
      simp only [hg, Int.add_zero, a1, a2, a3, a4, if_true]
      refine ⟨trivial, trivial, trivial, trivial, ?_, ?_⟩
      · rw [map_back_sh, map_back_zero]
      · rw [slot_b (k := k) (later := later) (names := 1000) (by omega)]; exact h.setQ hk hs.1 a5
    · rw [if_neg hk2, if_neg hk2]
      obtain ⟨c1, c2, c3, c4⟩ := choose_law h hk h8
      rcases c4 with ⟨c4, c5⟩ | ⟨w, hw, c4, c5, c6⟩
      · have e1 : ¬ ((choose ta (busyOf qa)).2.2 ≠ 0 ∨ (choose ta (busyOf qa)).1 ≥ (n : Int)) := by rw [c1, c4]; omega
        have e2 : ¬ ((choose tb (busyOf qb)).2.2 ≠ 0 ∨ (choose tb (busyOf qb)).1 ≥ (n : Int)) := by rw [c2, c5]; omega
        have e3 : (choose ta (busyOf qa)).1 < 0 := by omega
        have e4 : (choose tb (busyOf qb)).1 < 0 := by omega
        rw [if_neg e1, if_neg e2, if_pos e3, if_pos e4]
        exact ⟨rfl, rfl, rfl, rfl, rfl, h.setT c3⟩
      · have hr := rot_lt (n := n) (k := k) (j := w) (by omega)
        have e1 : ¬ ((choose ta (busyOf qa)).2.2 ≠ 0 ∨ (choose ta (busyOf qa)).1 ≥ (n : Int)) := by rw [c1, c4]; omega
        have e2 : ¬ ((choose tb (busyOf qb)).2.2 ≠ 0 ∨ (choose tb (busyOf qb)).1 ≥ (n : Int)) := by rw [c2, c5]; omega
        have e3 : ¬ (choose ta (busyOf qa)).1 < 0 := by omega
        have e4 : ¬ (choose tb (busyOf qb)).1 < 0 := by omega
        rw [if_neg e1, if_neg e2, if_neg e3, if_neg e4, c4, c5]
        simp only [Int.toNat_natCast, hnow]
        have hgw : qb.getD (rot n k w) default = shQ later (qa.getD w default) := h.rot.at_ w hw
        obtain ⟨t1, t2, t3, t4, t5, t6, t7⟩ := take_law (later := later) (h.get hw) h0 h1 l0 l1
        rw [hgw]
        rw [if_neg (show ¬ (takeS (qa.getD w default) now).2.2.2.2 ≠ 0 by rw [t1]; decide), if_neg (show ¬ (takeS (shQ later (qa.getD w default)) (now + later)).2.2.2.2 ≠ 0 by rw [t2]; decide), t3, t4, t5]
        have ew : ((w : Int) - ((0 : Nat) : Int) % (n : Int) + n) % (n : Int) = w := by
          have := who_back (n := n) (k := 0) (w := w) (by omega) hw
          rw [rot_eq (by omega) hw, if_pos (by omega)] at this
          exact this
        cases hi : (takeS (qa.getD w default) now).2.2.1 with
        | true =>
          rw [if_pos rfl, if_pos rfl]
          obtain ⟨t8, t9, t10⟩ := t7 hi
          rw [t8]
          have hb : (shI later (takeS (qa.getD w default) now).2.1).bytes = (takeS (qa.getD w default) now).2.1.bytes := rfl
          rw [hb]
          obtain ⟨g1, g2, g3⟩ := charge_law (air := 1 + 14 * (takeS (qa.getD w default) now).2.1.bytes) c3 hk h8 hw c6 (by omega) (by omega)
          simp only [g1, g2, map_back_sh, map_back_zero, back_sh, back_zero, ew, who_back hk hw]
          exact ⟨rfl, rfl, trivial, trivial, trivial, (h.setT g3).setQ hk hw t6⟩
        | false =>
          rw [if_neg (by decide), if_neg (by decide)]
          simp only [map_back_sh, map_back_zero, ew, who_back hk hw]
          exact ⟨trivial, trivial, trivial, trivial, trivial, (h.setT c3).setQ hk hw t6⟩
end Go.Proofs.Ytencghlmckbmlaa
