/- A drawing region, all of it in any order that its edges leave: where two operations touch the same, the later one waits for the earlier one; so every order comes to what the text's order comes to. -/
import Derived.Test.YtencghlmckbmlaaRet
set_option linter.unusedVariables false
set_option linter.unusedSimpArgs false
namespace Go.Proofs.Ytencghlmckbmlaa
open Go Go.RowKit

/-- What one operation did. -/
structure Rc where
  v : AV
  ch : List (Nat × Option Blk)
  nw : List Nat
  rb : List Nat
  ml : List Nat

/-- The numbers of it: blocks read, written, new names, names told of. -/
structure Ft where
  rb : List Nat
  wb : List Nat
  nw : List Nat
  ml : List Nat

def Rc.ft (r : Rc) : Ft := ⟨r.rb, r.ch.map (·.1), r.nw, r.ml⟩

def meets (a b : List Nat) : Bool := a.any fun n => b.contains n

theorem meets_of {a b : List Nat} {n : Nat} (h1 : n ∈ a) (h2 : n ∈ b) : meets a b = true := List.any_eq_true.2 ⟨n, h1, by simpa using h2⟩

def readsOf (ops : Array Oper) (j : Nat) : List Nat :=
  match ops[j]? with
  | some o => o.op.operands.toList.filterMap (fun | .tmp t => some t | _ => none) ++ (match o.guard with | some (g, _) => (dstOf ops g).toList | none => [])
  | none => []

def hasDst (ops : Array Oper) (j : Nat) (l : List Nat) : Bool :=
  match dstOf ops j with
  | some t => l.contains t
  | none => false

def conflict (ops : Array Oper) (F : List Ft) (j k : Nat) : Bool :=
  hasDst ops j (readsOf ops k) || hasDst ops k (readsOf ops j) || hasDst ops j (dstOf ops k).toList ||
  match F[j]?, F[k]? with
  | some a, some b => meets a.wb b.rb || meets a.wb b.wb || meets a.rb b.wb || meets a.nw b.ml || meets a.nw b.wb
  | _, _ => true

def freshF (F : List Ft) (j k : Nat) : Bool :=
  match F[j]?, F[k]? with
  | some a, some b => !meets b.nw a.ml && !meets b.nw a.wb
  | _, _ => false

def unionM (A : List Nat) : List Edge → Nat
  | [] => 0
  | e :: r => if Region.binds .any e = true then Nat.lor (Nat.lor (2 ^ e.on) (A.getD e.on 0)) (unionM A r) else unionM A r

def ordB (ops : Array Oper) (A : List Nat) (F : List Ft) : Bool :=
  (List.range ops.size).all fun k =>
    (match ops[k]? with
    | some o => (o.after.toList.all fun e => !Region.binds .any e || Nat.blt e.on k) && Nat.beq (Nat.lor (A.getD k 0) (unionM A o.after.toList)) (unionM A o.after.toList)
    | none => false) &&
    (List.range k).all fun j => (!conflict ops F j k || (A.getD k 0).testBit j) && freshF F j k

section order
variable {ops : Array Oper} {A : List Nat} {F : List Ft}

theorem union_bit {A : List Nat} {j : Nat} : ∀ {l : List Edge}, (unionM A l).testBit j = true → ∃ e ∈ l, Region.binds .any e = true ∧ (e.on = j ∨ (A.getD e.on 0).testBit j = true)
  | [], h => by simp [unionM] at h
  | e :: r, h => by
    simp only [unionM] at h
    split at h
    · rename_i hb
      have h' : (((2 ^ e.on) ||| (A.getD e.on 0)) ||| unionM A r).testBit j = true := h
      rw [Nat.testBit_or, Nat.testBit_or, Bool.or_eq_true, Bool.or_eq_true, Nat.testBit_two_pow] at h'
      rcases h' with (h | h) | h
      · exact ⟨e, by simp, hb, .inl (by simpa using h)⟩
      · exact ⟨e, by simp, hb, .inr h⟩
      · obtain ⟨e', he, h⟩ := union_bit h; exact ⟨e', List.mem_cons_of_mem _ he, h⟩
    · obtain ⟨e', he, h⟩ := union_bit h; exact ⟨e', List.mem_cons_of_mem _ he, h⟩

theorem ord_at (h : ordB ops A F = true) {k : Nat} (hk : k < ops.size) :
    ∃ o, ops[k]? = some o ∧ (∀ e ∈ o.after, Region.binds .any e = true → e.on < k) ∧ (∀ j, (A.getD k 0).testBit j = true → ∃ e ∈ o.after, Region.binds .any e = true ∧ (e.on = j ∨ (A.getD e.on 0).testBit j = true)) ∧
      ∀ j, j < k → (conflict ops F j k = true → (A.getD k 0).testBit j = true) ∧ freshF F j k = true := by
  have h1 := List.all_eq_true.1 h k (List.mem_range.2 hk)
  rw [Bool.and_eq_true] at h1
  obtain ⟨h1, h2⟩ := h1
  cases ho : ops[k]? with
  | none => rw [ho] at h1; cases h1
  | some o =>
    rw [ho] at h1
    simp only [Bool.and_eq_true] at h1
    refine ⟨o, rfl, fun e he hb => ?_, fun j hj => ?_, fun j hj => ?_⟩
    · have := List.all_eq_true.1 h1.1 e (by simpa using he)
      simpa [Nat.blt_eq, hb] using this
    · have h3 : (A.getD k 0 ||| unionM A o.after.toList) = unionM A o.after.toList := Nat.eq_of_beq_eq_true h1.2
      have h4 : (unionM A o.after.toList).testBit j = true := by rw [← h3, Nat.testBit_or, hj]; rfl
      obtain ⟨e, he, h5⟩ := union_bit h4
      exact ⟨e, by simpa using he, h5⟩
    · have := List.all_eq_true.1 h2 j (List.mem_range.2 hj)
      rw [Bool.and_eq_true] at this
      refine ⟨fun hc => ?_, this.2⟩
      have := this.1
      rw [hc] at this
      simpa using this
end order

def lastW (W : Nat → Bool) : Nat → Option Nat
  | 0 => none
  | k + 1 => if W k = true then some k else lastW W k

theorem lastW_congr {W W' : Nat → Bool} : ∀ {n : Nat}, (∀ j, j < n → W j = W' j) → lastW W n = lastW W' n
  | 0, _ => rfl
  | n + 1, h => by
    simp only [lastW]
    rw [h n (by omega), lastW_congr (n := n) fun j hj => h j (by omega)]

theorem lastW_none {W : Nat → Bool} : ∀ {n : Nat}, (∀ j, j < n → W j = false) → lastW W n = none
  | 0, _ => rfl
  | n + 1, h => by simp only [lastW]; rw [h n (by omega), lastW_none (n := n) fun j hj => h j (by omega)]; simp

theorem lastW_some {W : Nat → Bool} {j : Nat} : ∀ {n : Nat}, lastW W n = some j → j < n ∧ W j = true
  | 0, h => by cases h
  | n + 1, h => by
    simp only [lastW] at h
    split at h
    · rename_i hw; injection h with h; subst h; exact ⟨by omega, hw⟩
    · obtain ⟨h1, h2⟩ := lastW_some h; exact ⟨by omega, h2⟩

theorem lastW_eq {W : Nat → Bool} {i : Nat} (hi : W i = true) : ∀ {n : Nat}, i < n → (∀ j, i < j → j < n → W j = false) → lastW W n = some i
  | 0, h, _ => by omega
  | n + 1, h, hn => by
    simp only [lastW]
    by_cases e : i = n
    · subst e; rw [if_pos hi]
    · rw [hn n (by omega) (by omega), lastW_eq hi (n := n) (by omega) fun j h1 h2 => hn j h1 (by omega)]; simp

section vals
variable (ops : Array Oper) (tm0 : Nat → AV) (b0 : Bk) (R : Nat → Rc) (L : Nat → Bool)

def TV (t : Nat) : AV :=
  match lastW (fun j => L j && (dstOf ops j == some t)) ops.size with
  | some j => (R j).v
  | none => tm0 t

def BV (m : Nat) : Option Blk :=
  match lastW (fun j => L j && (findB (R j).ch m).isSome) ops.size with
  | some j => (findB (R j).ch m).getD none
  | none => b0 m
end vals

def upto (k : Nat) : Nat → Bool := fun j => decide (j < k)

structure RcOk (P : Program) (c : Ctx) (ops : Array Oper) (tm0 : Nat → AV) (b0 : Bk) (R : Nat → Rc) (k : Nat) : Prop where
  dst : ∀ d, dstOf ops k = some d → d < c.N
  run : ∃ o, ops[k]? = some o ∧
    (((∀ g w, o.guard = some (g, w) → ∃ e, dstOf ops g = some e ∧ TV ops tm0 R (upto k) e = .d (.v (.bool w))) ∧
        Step P o (evalF (TV ops tm0 R (upto k))) (fun m => if m ∈ (R k).rb then BV ops b0 R (upto k) m else none) (R k).v (R k).ch (R k).nw) ∨
     ((∃ g w, o.guard = some (g, w) ∧ ∃ e, dstOf ops g = some e ∧ (TV ops tm0 R (upto k) e = .d (.v (.bool (!w))) ∨ TV ops tm0 R (upto k) e = .tup [])) ∧ (R k).v = .tup [] ∧ (R k).ch = []  ∧ (R k).nw = []))
  gl : ∀ n ∈ (R k).nw, n ∉ c.gl ∧ b0 n = none ∧ (∀ l B, b0 l = some B → B.says n = false) ∧ ∀ t, (tm0 t).says n = false
  says : ∀ n, n ∉ (R k).ml → (R k).v.says n = false ∧ ∀ l B, findB (R k).ch l = some (some B) → B.says n = false

theorem findB_names {ch : List (Nat × Option Blk)} {m : Nat} (h : (findB ch m).isSome = true) : m ∈ ch.map (·.1) := by
  obtain ⟨B, hB⟩ := Option.isSome_iff_exists.1 h
  exact List.mem_map.2 ⟨_, findB_mem hB, rfl⟩

section main
variable {P : Program} {c : Ctx} {ops : Array Oper} {A : List Nat} {F : List Ft} {tm0 : Nat → AV} {b0 : Bk} {R : Nat → Rc}

theorem rep_tup0 {E : Env} {w : World} : Rep E w (.tup []) undef := .tup [] _ rfl (fun i c v h => by simp at h)

/-- All orders. -/
theorem any_main {Q : Exit → St → Prop} (hord : ordB ops A F = true) (hF : ∀ k, k < ops.size → F[k]? = some (R k).ft) (hR : ∀ k, k < ops.size → RcOk P c ops tm0 b0 R k)
    {st : St} (hQ : Ops P c ops [] Q st) (hst : ∀ t, look st.tl t = TV ops tm0 R (upto ops.size) t) (hbl : ∀ m, lookB st.bl m = BV ops b0 R (upto ops.size) m) :
    ∀ (f : Nat) (listed : Array Bool) (a : Act) (w : World), unl ops.size listed = f → listed.size = ops.size →
      (∀ j o, ops[j]? = some o → listed.getD j false = true → ∀ e ∈ o.after, Region.binds .any e = true → listed.getD e.on false = true) →
      (∃ E, RelF c (TV ops tm0 R (fun j => listed.getD j false)) (BV ops b0 R (fun j => listed.getD j false)) E a w) →
      wpAny P .any ops (lift c Q) f listed a w := by
  intro f
  induction f with
  | zero =>
    intro listed a w hu hsz hcl ⟨E, hrel⟩
    have hall : ∀ j, j < ops.size → listed.getD j false = true := fun j hj => unl_zero hu j hj
    refine ⟨?_, ?_⟩
    · cases hr : Region.ready .any ops listed with
      | nil => rfl
      | cons j r =>
        have : j ∈ Region.ready .any ops listed := by rw [hr]; simp
        obtain ⟨h1, o, ho, _⟩ := mem_ready.1 this
        have hj := (Array.getElem?_eq_some_iff.1 ho).1
        have h2 := hall j hj
        simp [hsz, hj] at h1 h2
        rw [h1] at h2; cases h2
    · have hT : TV ops tm0 R (fun j => listed.getD j false) = look st.tl := by
        funext t; rw [hst]; unfold TV
        rw [lastW_congr (W' := fun j => upto ops.size j && (dstOf ops j == some t)) fun j hj => by simp only [hall j hj, upto, hj, decide_true]]
      have hB : BV ops b0 R (fun j => listed.getD j false) = lookB st.bl := by
        funext m; rw [hbl]; unfold BV
        rw [lastW_congr (W' := fun j => upto ops.size j && (findB (R j).ch m).isSome) fun j hj => by simp only [hall j hj, upto, hj, decide_true]]
      rw [hT, hB] at hrel
      have := hQ E a w hrel
      simpa [wpList] using this
  | succ f ih =>
    intro listed a w hu hsz hcl ⟨E, hrel⟩
    obtain ⟨i0, hi0, hi0l, hi0m⟩ := unl_pos (m := ops.size) (listed := listed) (by omega)
    have getT : ∀ j, j < ops.size → listed.getD j false = false → listed.getD j true = false := fun j hj h => by
      simp [hsz, hj] at h ⊢; exact h
    have hready0 : i0 ∈ Region.ready .any ops listed := by
      obtain ⟨o, ho, hed, _⟩ := ord_at hord hi0
      exact mem_ready.2 ⟨getT i0 hi0 hi0l, o, ho, fun e he hb => hi0m e.on (hed e he hb)⟩
    refine ⟨(fun h0 => by rw [h0] at hready0; cases hready0), fun i hi => ?_⟩
    obtain ⟨hiu, o, ho, hall⟩ := mem_ready.1 hi
    have him : i < ops.size := (Array.getElem?_eq_some_iff.1 ho).1
    have hli : listed.getD i false = false := getD_both hiu
    -- whom i waits for is listed; who waits for i is not
    have anc : ∀ k, (∀ o', ops[k]? = some o' → ∀ e ∈ o'.after, Region.binds .any e = true → listed.getD e.on false = true) → k < ops.size → ∀ j, (A.getD k 0).testBit j = true → listed.getD j false = true := by
      intro k
      induction k using Nat.strongRecOn with
      | _ k ihk =>
        intro hk hks j hj
        obtain ⟨o', ho', hed, hanc, _⟩ := ord_at hord hks
        obtain ⟨e, he, hb, h | h⟩ := hanc j hj
        · rw [← h]; exact hk o' ho' e he hb
        · have hel := hk o' ho' e he hb
          exact ihk e.on (hed e he hb) (fun o2 ho2 e2 he2 hb2 => hcl e.on o2 ho2 hel e2 he2 hb2) (by have := hed e he hb; omega) j h
    have before : ∀ j, j < i → conflict ops F j i = true → listed.getD j false = true := fun j hj hc => by
      obtain ⟨_, _, _, _, h5⟩ := ord_at hord him
      exact anc i (fun o' ho' => by have : o' = o := Option.some.inj (ho'.symm.trans ho); subst this; exact hall) him j ((h5 j hj).1 hc)
    have behind : ∀ j, i < j → j < ops.size → conflict ops F i j = true → listed.getD j false = false := fun j hj hjs hc => by
      cases hl : listed.getD j false with
      | false => rfl
      | true =>
        obtain ⟨_, _, _, _, h5⟩ := ord_at hord hjs
        have := anc j (fun o' ho' e he hb => hcl j o' ho' hl e he hb) hjs i ((h5 i hj).1 hc)
        rw [hli] at this; cases this
    have hFi := hF i him
    have conf : ∀ j k, j < ops.size → k < ops.size → (meets (R j).ft.wb (R k).ft.rb || meets (R j).ft.wb (R k).ft.wb || meets (R j).ft.rb (R k).ft.wb || meets (R j).ft.nw (R k).ft.ml || meets (R j).ft.nw (R k).ft.wb) = true → conflict ops F j k = true := fun j k hj hk h => by
      unfold conflict
      rw [hF j hj, hF k hk]
      simp only [Bool.or_eq_true] at h ⊢
      exact .inr h
    -- reads
    have readT : ∀ t, t ∈ readsOf ops i → TV ops tm0 R (fun j => listed.getD j false) t = TV ops tm0 R (upto i) t := fun t ht => by
      unfold TV
      rw [lastW_congr (W' := fun j => upto i j && (dstOf ops j == some t)) fun j hj => ?_]
      by_cases hd : dstOf ops j = some t
      · rcases Nat.lt_trichotomy j i with h | h | h
        · have hc : conflict ops F j i = true := by unfold conflict hasDst; rw [hd]; simp [ht]
          simp only [before j h hc, upto, h, decide_true]
        · subst h; simp only [hli, upto, Nat.lt_irrefl, decide_false]
        · have hc : conflict ops F i j = true := by unfold conflict hasDst; rw [hd]; simp [ht]
          simp only [behind j h hj hc, upto, show ¬ j < i by omega, decide_false]
      · have : (dstOf ops j == some t) = false := beq_eq_false_iff_ne.2 hd
        simp only [this, Bool.and_false]
    have readB : ∀ m, m ∈ (R i).rb → BV ops b0 R (fun j => listed.getD j false) m = BV ops b0 R (upto i) m := fun m hm => by
      unfold BV
      rw [lastW_congr (W' := fun j => upto i j && (findB (R j).ch m).isSome) fun j hj => ?_]
      cases hd : (findB (R j).ch m).isSome with
      | true =>
        have hw : m ∈ (R j).ft.wb := findB_names hd
        rcases Nat.lt_trichotomy j i with h | h | h
        · have hc := conf j i hj him (by rw [show meets (R j).ft.wb (R i).ft.rb = true from meets_of hw hm]; rfl)
          simp only [before j h hc, upto, h, decide_true]
        · subst h; simp only [hli, upto, Nat.lt_irrefl, decide_false]
        · have hc := conf i j him hj (by rw [show meets (R i).ft.rb (R j).ft.wb = true from meets_of hm hw]; simp)
          simp only [behind j h hj hc, upto, show ¬ j < i by omega, decide_false]
      | false => simp only [Bool.and_false]
    -- writes
    have his : i < listed.size := by omega
    have hset : ∀ j, (listed.setIfInBounds i true).getD j false = (decide (j = i) || listed.getD j false) := fun j => by
      by_cases h : j = i
      · subst h; simp [his]
      · rw [getD_set_ne false (Ne.symm h)]; simp [h]
    have writeT : ∀ t, TV ops tm0 R (fun j => (listed.setIfInBounds i true).getD j false) t = if dstOf ops i = some t then (R i).v else TV ops tm0 R (fun j => listed.getD j false) t := fun t => by
      by_cases hd : dstOf ops i = some t
      · rw [if_pos hd]; unfold TV
        rw [lastW_eq (i := i) (by simp only [hset, decide_true, Bool.true_or, hd, beq_self_eq_true, Bool.and_self]) him fun j h1 h2 => ?_]
        by_cases hdj : dstOf ops j = some t
        · have hc : conflict ops F i j = true := by unfold conflict hasDst; rw [hd, hdj]; simp
          simp only [hset, behind j h1 h2 hc, show ¬ j = i by omega, decide_false, Bool.or_self, Bool.false_and]
        · simp only [beq_eq_false_iff_ne.2 hdj, Bool.and_false]
      · rw [if_neg hd]; unfold TV
        rw [lastW_congr (W' := fun j => listed.getD j false && (dstOf ops j == some t)) fun j hj => ?_]
        simp only [hset]
        by_cases h : j = i
        · subst h; simp only [beq_eq_false_iff_ne.2 hd, Bool.and_false]
        · simp only [h, decide_false, Bool.false_or]
    have writeB : BV ops b0 R (fun j => (listed.setIfInBounds i true).getD j false) = updB (R i).ch (BV ops b0 R (fun j => listed.getD j false)) := by
      funext m
      unfold updB
      cases hd : findB (R i).ch m with
      | some x =>
        have hw : m ∈ (R i).ft.wb := findB_names (by rw [hd]; rfl)
        unfold BV
        rw [lastW_eq (i := i) (by simp only [hset, decide_true, Bool.true_or, hd, Option.isSome_some, Bool.and_self]) him fun j h1 h2 => ?_]
        · simp only [hd]; rfl
        · cases hdj : (findB (R j).ch m).isSome with
          | true =>
            have hc := conf i j him h2 (by rw [show meets (R i).ft.wb (R j).ft.wb = true from meets_of hw (findB_names hdj)]; simp)
            simp only [hset, behind j h1 h2 hc, show ¬ j = i by omega, decide_false, Bool.or_self, Bool.false_and]
          | false => simp only [Bool.and_false]
      | none =>
        show BV ops b0 R _ m = BV ops b0 R _ m
        unfold BV
        rw [lastW_congr (W' := fun j => listed.getD j false && (findB (R j).ch m).isSome) fun j hj => ?_]
        simp only [hset]
        by_cases h : j = i
        · subst h; simp only [hd, Option.isSome_none, Bool.and_false]
        · simp only [h, decide_false, Bool.false_or]
    have hrc := hR i him
    -- new names
    have noml : ∀ n, n ∈ (R i).nw → ∀ j, j < ops.size → listed.getD j false = true → n ∉ (R j).ml ∧ n ∉ (R j).ft.wb := fun n hn j hj hl => by
      rcases Nat.lt_trichotomy j i with h | h | h
      · obtain ⟨_, _, _, _, h5⟩ := ord_at hord him
        have := (h5 j h).2
        unfold freshF at this
        rw [hF j hj, hFi] at this
        simp only [Bool.and_eq_true, Bool.not_eq_true'] at this
        exact ⟨fun hm => (by rw [show meets (R i).ft.nw (R j).ft.ml = true from meets_of hn hm] at this; cases this.1), fun hm => (by rw [show meets (R i).ft.nw (R j).ft.wb = true from meets_of hn hm] at this; cases this.2)⟩
      · subst h; rw [hli] at hl; cases hl
      · refine ⟨fun hm => ?_, fun hm => ?_⟩
        · have := behind j h hj (conf i j him hj (by rw [show meets (R i).ft.nw (R j).ft.ml = true from meets_of hn hm]; simp))
          rw [hl] at this; cases this
        · have := behind j h hj (conf i j him hj (by rw [show meets (R i).ft.nw (R j).ft.wb = true from meets_of hn hm]; simp))
          rw [hl] at this; cases this
    have saysT : ∀ n, n ∈ (R i).nw → ∀ t, (TV ops tm0 R (fun j => listed.getD j false) t).says n = false := fun n hn t => by
      unfold TV
      split
      · rename_i j hj
        obtain ⟨h1, h2⟩ := lastW_some hj
        simp only [Bool.and_eq_true] at h2
        exact ((hR j h1).says n (noml n hn j h1 h2.1).1).1
      · exact (hrc.gl n hn).2.2.2 t
    have freshB : ∀ n, n ∈ (R i).nw → BV ops b0 R (fun j => listed.getD j false) n = none ∧ ∀ l B, BV ops b0 R (fun j => listed.getD j false) l = some B → B.says n = false := fun n hn => by
      refine ⟨?_, fun l B hB => ?_⟩
      · unfold BV
        split
        · rename_i j hj
          obtain ⟨h1, h2⟩ := lastW_some hj
          simp only [Bool.and_eq_true] at h2
          exact absurd (findB_names h2.2) (noml n hn j h1 h2.1).2
        · exact (hrc.gl n hn).2.1
      · unfold BV at hB
        split at hB
        · rename_i j hj
          obtain ⟨h1, h2⟩ := lastW_some hj
          simp only [Bool.and_eq_true] at h2
          obtain ⟨x, hx⟩ := Option.isSome_iff_exists.1 h2.2
          rw [hx] at hB
          simp only [Option.getD_some] at hB
          subst hB
          exact ((hR j h1).says n (noml n hn j h1 h2.1).1).2 l B hx
        · exact (hrc.gl n hn).2.2.1 l B hB
    have hu' : unl ops.size (listed.setIfInBounds i true) = f := by
      have := unl_set hiu ops.size
      rw [if_pos him] at this; omega
    have next : ∀ (E' : Env) (val : Value) (w' : World), Blks E' w' (updB (R i).ch (BV ops b0 R (fun j => listed.getD j false))) → Rep E' w' (R i).v val →
        Grow E E' w w' (BV ops b0 R (fun j => listed.getD j false)) (· ∈ (R i).nw) →
        (∀ n g, updB (R i).ch (BV ops b0 R (fun j => listed.getD j false)) n ≠ none → E'.blk n = some g → (∃ m, BV ops b0 R (fun j => listed.getD j false) m ≠ none ∧ E.blk m = some g) ∨ w.heap.size ≤ g) →
        wpAny P .any ops (lift c Q) f (listed.setIfInBounds i true) (a.put o.dst val) w' := by
      intro E' val w' hB' hv' hgr hnm
      refine ih _ _ _ hu' (by simp [hsz]) (fun j oj hoj hl e he hb => ?_) ⟨E', ?_⟩
      · rw [hset] at hl ⊢
        simp only [Bool.or_eq_true, decide_eq_true_eq] at hl ⊢
        rcases hl with h | h
        · subst h
          have : oj = o := Option.some.inj (hoj.symm.trans ho)
          subst this
          exact .inr (hall e he hb)
        · exact .inr (hcl j oj hoj h e he hb)
      · have hdo : dstOf ops i = o.dst := by simp [dstOf, ho]
        rw [writeB]
        refine RelF.put hrel hgr hB' hnm (fun n hn => (hrc.gl n hn).1) o.dst (fun d hd => hrc.dst d (by rw [hdo]; exact hd)) (R i).v val hv' _ fun t => ?_
        by_cases hd : o.dst = some t
        · exact .inl ⟨hd, by rw [writeT, if_pos (by rw [hdo]; exact hd)]⟩
        · exact .inr (.inr ⟨hd, by rw [writeT, if_neg (by rw [hdo]; exact hd)], fun n hn => saysT n hn t⟩)
    unfold wpOp
    rw [ho]
    simp only
    obtain ⟨o2, ho2, hrun⟩ := hrc.run
    have : o2 = o := Option.some.inj (ho2.symm.trans ho)
    subst this
    have hreads : readsOf ops i = o2.op.operands.toList.filterMap (fun | .tmp t => some t | _ => none) ++ (match o2.guard with | some (g, _) => (dstOf ops g).toList | none => []) := by
      unfold readsOf; rw [ho]
    have inG : ∀ g w' e, o2.guard = some (g, w') → dstOf ops g = some e → e ∈ readsOf ops i := fun g w' e h1 h2 => by
      rw [hreads, h1]; refine List.mem_append_right _ ?_; simp [h2]
    have guardVal : ∀ g w' e (b : Bool), o2.guard = some (g, w') → dstOf ops g = some e → TV ops tm0 R (upto i) e = .d (.v (.bool b)) → yielded ops a.tmps g = some b := fun g w' e b h1 h2 h3 => by
      have h4 := hrel.tms e
      rw [readT e (inG g w' e h1 h2), h3] at h4
      have hval := rep_val h4
      have hlt : e < a.tmps.size := by
        rcases Nat.lt_or_ge e a.tmps.size with h | h
        · exact h
        · simp [Array.getElem?_eq_none h, undef] at hval
      unfold yielded
      have h5 : (ops[g]?).bind (·.dst) = some e := h2
      rw [h5]
      have : a.tmps[e]? = some (.bool b) := by
        rw [Array.getElem?_eq_getElem hlt]
        simp [hlt] at hval
        simp [hval]
      simp [this]
    have guardOut : ∀ g w' e, o2.guard = some (g, w') → dstOf ops g = some e → TV ops tm0 R (upto i) e = .tup [] → yielded ops a.tmps g = none := fun g w' e h1 h2 h3 => by
      have h4 := hrel.tms e
      rw [readT e (inG g w' e h1 h2), h3] at h4
      unfold yielded
      have h5 : (ops[g]?).bind (·.dst) = some e := h2
      rw [h5]
      rcases Nat.lt_or_ge e a.tmps.size with h | h
      · generalize hu : a.tmps.getD e undef = u at h4
        cases h4 with
        | tup _ arr =>
          have : a.tmps[e]? = some (.tuple arr) := by
            rw [Array.getElem?_eq_getElem h]
            simp [h] at hu
            simp [hu]
          simp [this]
      · simp [Array.getElem?_eq_none h]
    rcases hrun with ⟨hguard, hstep⟩ | ⟨⟨g, w1, h1, e, h2, h3⟩, hv, hch, hnw⟩
    · have hw : Region.wanted o2 (yielded ops a.tmps) = true := by
        unfold Region.wanted
        split
        · rfl
        · rename_i g w1 hg1
          obtain ⟨e, h2, h3⟩ := hguard g w1 hg1
          rw [guardVal g w1 e w1 hg1 h2 h3]; simp
      rw [if_pos hw]
      refine .inl (Benign.wp ?_)
      have hops : ∀ x ∈ o2.op.operands.toList, Rep E w (evalF (TV ops tm0 R (upto i)) x) (a.eval x) := fun x hx => by
        cases x with
        | tmp t =>
          have := hrel.tms t
          rw [readT t (by rw [hreads]; exact List.mem_append_left _ (List.mem_filterMap.2 ⟨.tmp t, hx, rfl⟩))] at this
          exact this
        | const v => exact rep_const E w v
        | func f => exact .clo f [] [] #[] #[] rfl rfl (fun i c v h => by simp at h) (fun i c v h => by simp at h)
        | global g => exact .any _
      have hb := hstep (BV ops b0 R (fun j => listed.getD j false)) (fun n B hn => by
        replace hn : (if n ∈ (R i).rb then BV ops b0 R (upto i) n else none) = some B := hn
        by_cases h : n ∈ (R i).rb
        · rw [if_pos h] at hn; rw [readB n h]; exact hn
        · rw [if_neg h] at hn; cases hn) freshB E w a.eval hops hrel.bks
      exact hb.mono fun val w' ⟨E', hB', hv', hgr, hnm⟩ => next E' val w' hB' hv' hgr hnm
    · have hw : ¬ Region.wanted o2 (yielded ops a.tmps) = true := by
        unfold Region.wanted
        rw [h1]
        rcases h3 with h3 | h3
        · simp only [guardVal g w1 e (!w1) h1 h2 h3]; cases w1 <;> simp
        · simp only [guardOut g w1 e h1 h2 h3]; simp
      rw [if_neg hw]
      have hup : updB (R i).ch (BV ops b0 R (fun j => listed.getD j false)) = BV ops b0 R (fun j => listed.getD j false) := by rw [hch]; rfl
      exact next E undef w (by rw [hup]; exact hrel.bks) (by rw [hv]; exact rep_tup0) ⟨fun _ h => h, fun _ h => .inl h, fun _ _ => rfl, Ext.refl _ _⟩ (fun n g hn hg => by
        rw [hup] at hn
        exact .inl ⟨n, hn, hg⟩)
end main

/-! ### the text's order -/

def pickB (rb : List Nat) (bl : List (Nat × Option Blk)) : List (Nat × Option Blk) :=
  match rb with
  | [] => []
  | n :: r => (n, lookB bl n) :: pickB r bl

theorem lookB_pickB {bl : List (Nat × Option Blk)} {m : Nat} : ∀ {rb : List Nat}, lookB (pickB rb bl) m = if m ∈ rb then lookB bl m else none
  | [] => by simp [pickB, lookB]
  | n :: r => by
    have e : lookB (pickB (n :: r) bl) m = bif Nat.beq n m then lookB bl n else lookB (pickB r bl) m := rfl
    rw [e]
    by_cases h : n = m
    · subst h; simp
    · rw [natbeq_false h, cond_false, lookB_pickB (rb := r)]
      by_cases h2 : m ∈ r
      · rw [if_pos h2, if_pos (by simp [h2])]
      · rw [if_neg h2, if_neg (by simp [h2, Ne.symm h])]

/-- A guard's outcome in the text's order. -/
def gOk (ops : Array Oper) (tl : List (Nat × AV)) (r : Bool) : Option (Nat × Bool) → Prop
  | none => r = true
  | some (j, want) => ∃ e, dstOf ops j = some e ∧ if r then look tl e = .d (.v (.bool want)) else look tl e = .d (.v (.bool (!want))) ∨ look tl e = .tup []

inductive Text (P : Program) (c : Ctx) (ops : Array Oper) (A : List Nat) (s0 : St) (Q : St → Prop) : List Ft → St → List Oper → Prop where
  | done {ft : List Ft} {st : St} (ho : ordB ops A ft.reverse = true) (h : Q st) : Text P c ops A s0 Q ft st []
  | step {ft : List Ft} {st : St} {o : Oper} {v : AV} {ch : List (Nat × Option Blk)} {nw rb wb ml : List Nat} {rest : List Oper}
      (hs : Step P o (evalA st) (lookB (pickB rb st.bl)) v ch nw) (hg : gOk ops st.tl true o.guard) (hd : dstOk c.N o.dst = true) (hf : freshes c.gl nw s0 = true) (hw : ch.map (·.1) = wb)
      (hv : v.within ml = true) (hb : BlK ml ch) (h : Text P c ops A s0 Q (⟨rb, wb, nw, ml⟩ :: ft) ⟨put o.dst v st.tl, ch ++ st.bl⟩ rest) : Text P c ops A s0 Q ft st (o :: rest)
  | skip {ft : List Ft} {st : St} {o : Oper} {rest : List Oper} (hg : gOk ops st.tl false o.guard) (hd : dstOk c.N o.dst = true)
      (h : Text P c ops A s0 Q (⟨[], [], [], []⟩ :: ft) ⟨put o.dst (.tup []) st.tl, st.bl⟩ rest) : Text P c ops A s0 Q ft st (o :: rest)
  | split {ft : List Ft} {st : St} {e : Nat} {b : Bool} {l : List Oper} (hb : look st.tl e = .d (.v (.bool b)))
      (hy : b = true → Text P c ops A s0 Q ft ⟨(e, .d (.v (.bool true))) :: st.tl, st.bl⟩ l) (hn : b = false → Text P c ops A s0 Q ft ⟨(e, .d (.v (.bool false))) :: st.tl, st.bl⟩ l) : Text P c ops A s0 Q ft st l

section recs
variable {P : Program} {c : Ctx} {ops : Array Oper} {A : List Nat} {s0 : St} {Q : St → Prop}

theorem TV_ext {tm0 : Nat → AV} {R R' : Nat → Rc} {k : Nat} (h : ∀ j, j < k → R j = R' j) : TV ops tm0 R (upto k) = TV ops tm0 R' (upto k) := by
  funext t; unfold TV
  cases hl : lastW (fun j => upto k j && (dstOf ops j == some t)) ops.size with
  | none => rfl
  | some j =>
    obtain ⟨_, h2⟩ := lastW_some hl
    simp only [Bool.and_eq_true, upto, decide_eq_true_eq] at h2
    simp only [h j h2.1]

theorem BV_ext {b0 : Bk} {R R' : Nat → Rc} {k : Nat} (h : ∀ j, j < k → R j = R' j) : BV ops b0 R (upto k) = BV ops b0 R' (upto k) := by
  funext m; unfold BV
  have e : lastW (fun j => upto k j && (findB (R j).ch m).isSome) ops.size = lastW (fun j => upto k j && (findB (R' j).ch m).isSome) ops.size := lastW_congr fun j _ => by
    by_cases hj : j < k
    · rw [h j hj]
    · simp only [upto, hj, decide_false, Bool.false_and]
  rw [e]
  cases hl : lastW (fun j => upto k j && (findB (R' j).ch m).isSome) ops.size with
  | none => rfl
  | some j =>
    obtain ⟨_, h2⟩ := lastW_some hl
    simp only [Bool.and_eq_true, upto, decide_eq_true_eq] at h2
    simp only [h j h2.1]

theorem TV_succ {tm0 : Nat → AV} {R : Nat → Rc} {k : Nat} (hk : k < ops.size) (t : Nat) : TV ops tm0 R (upto (k + 1)) t = if dstOf ops k = some t then (R k).v else TV ops tm0 R (upto k) t := by
  by_cases hd : dstOf ops k = some t
  · rw [if_pos hd]; unfold TV
    rw [lastW_eq (i := k) (by simp [upto, hd]) hk fun j h1 h2 => by simp [upto, show ¬ j < k + 1 by omega]]
  · rw [if_neg hd]; unfold TV
    rw [lastW_congr (W' := fun j => upto k j && (dstOf ops j == some t)) fun j hj => ?_]
    by_cases h : j = k
    · subst h; simp only [beq_eq_false_iff_ne.2 hd, Bool.and_false]
    · have : (j < k + 1) = (j < k) := by simp; omega
      simp only [upto, this]

theorem BV_succ {b0 : Bk} {R : Nat → Rc} {k : Nat} (hk : k < ops.size) (m : Nat) : BV ops b0 R (upto (k + 1)) m = (findB (R k).ch m).getD (BV ops b0 R (upto k) m) := by
  cases hd : findB (R k).ch m with
  | some x =>
    unfold BV
    rw [lastW_eq (i := k) (by simp [upto, hd]) hk fun j h1 h2 => by simp [upto, show ¬ j < k + 1 by omega]]
    simp only [hd]; rfl
  | none =>
    show BV ops b0 R _ m = BV ops b0 R _ m
    unfold BV
    rw [lastW_congr (W' := fun j => upto k j && (findB (R j).ch m).isSome) fun j hj => ?_]
    by_cases h : j = k
    · subst h; simp only [hd, Option.isSome_none, Bool.and_false]
    · have : (j < k + 1) = (j < k) := by simp; omega
      simp only [upto, this]

theorem blk_says_ml {ml : List Nat} {ch : List (Nat × Option Blk)} (h : BlK ml ch) {n : Nat} (hn : n ∉ ml) (l : Nat) (B : Blk) (hB : findB ch l = some (some B)) : B.says n = false :=
  blk_says_within hn (blK_mem h l B (findB_mem hB))

/-- The text's order gives the records. -/
theorem text_recs {ft : List Ft} {st : St} {l : List Oper} (hB : Text P c ops A s0 Q ft st l) : ∀ (k : Nat) (R0 : Nat → Rc), k + l.length = ops.size → (∀ j, l[j]? = ops[k + j]?) →
    (∀ t, look st.tl t = TV ops (look s0.tl) R0 (upto k) t) → (∀ m, lookB st.bl m = BV ops (lookB s0.bl) R0 (upto k) m) → ft.length = k → (∀ j, j < k → ft.reverse[j]? = some (R0 j).ft) →
    (∀ j, j < k → RcOk P c ops (look s0.tl) (lookB s0.bl) R0 j) →
    ∃ (R : Nat → Rc) (F : List Ft) (st' : St), Q st' ∧ ordB ops A F = true ∧ (∀ j, j < ops.size → F[j]? = some (R j).ft) ∧ (∀ j, j < ops.size → RcOk P c ops (look s0.tl) (lookB s0.bl) R j) ∧
      (∀ t, look st'.tl t = TV ops (look s0.tl) R (upto ops.size) t) ∧ (∀ m, lookB st'.bl m = BV ops (lookB s0.bl) R (upto ops.size) m) := by
  have keep : ∀ {k : Nat} {R0 : Nat → Rc} {r : Rc} {j : Nat}, j < k → RcOk P c ops (look s0.tl) (lookB s0.bl) R0 j → RcOk P c ops (look s0.tl) (lookB s0.bl) (fun i => if i = k then r else R0 i) j := by
    intro k R0 r j hj h
    have hne : j ≠ k := by omega
    have hT : TV ops (look s0.tl) (fun i => if i = k then r else R0 i) (upto j) = TV ops (look s0.tl) R0 (upto j) := TV_ext fun i hi => by simp only [if_neg (show i ≠ k by omega)]
    have hBv : BV ops (lookB s0.bl) (fun i => if i = k then r else R0 i) (upto j) = BV ops (lookB s0.bl) R0 (upto j) := BV_ext fun i hi => by simp only [if_neg (show i ≠ k by omega)]
    refine ⟨h.dst, ?_, ?_, ?_⟩
    · obtain ⟨o, ho, hr⟩ := h.run
      refine ⟨o, ho, ?_⟩
      rw [hT, hBv]; simp only [if_neg hne]; exact hr
    · simp only [if_neg hne]; exact h.gl
    · simp only [if_neg hne]; exact h.says
  have rev : ∀ {ft : List Ft} {x : Ft} {k : Nat} {R0 : Nat → Rc} {r : Rc}, ft.length = k → (∀ j, j < k → ft.reverse[j]? = some (R0 j).ft) → x = r.ft →
      ∀ j, j < k + 1 → (x :: ft).reverse[j]? = some ((fun i => if i = k then r else R0 i) j).ft := by
    intro ft x k R0 r hlen h hx j hj
    rw [List.reverse_cons, List.getElem?_append]
    by_cases hjk : j = k
    · subst hjk
      rw [if_neg (by simp [hlen])]
      simp [hlen, hx]
    · rw [if_pos (by simp [hlen]; omega), h j (by omega)]
      simp only [if_neg hjk]
  induction hB with
  | done ho h =>
    intro k R0 hk hl h1 h2 h3 h4 h5
    have : k = ops.size := by simpa using hk
    subst this
    exact ⟨R0, _, _, h, ho, h4, h5, h1, h2⟩
  | split hb hy hn ihy ihn =>
    intro k R0 hk hl h1 h2 h3 h4 h5
    rename_i ft st e b l
    have hlk : ∀ b' : Bool, b = b' → ∀ t, look ((e, AV.d (.v (.bool b'))) :: st.tl) t = TV ops (look s0.tl) R0 (upto k) t := fun b' hbb t => by
      rw [← h1 t]
      have e' : look ((e, AV.d (.v (.bool b'))) :: st.tl) t = bif Nat.beq e t then AV.d (.v (.bool b')) else look st.tl t := rfl
      rw [e']
      by_cases h : e = t
      · subst h; simp only [Nat.beq_refl, cond_true]; rw [hb, hbb]
      · rw [natbeq_false h, cond_false]
    cases hbv : b with
    | true => exact ihy hbv k R0 hk hl (hlk true hbv) h2 h3 h4 h5
    | false => exact ihn hbv k R0 hk hl (hlk false hbv) h2 h3 h4 h5
  | skip hg hd h ih =>
    intro k R0 hk hl h1 h2 h3 h4 h5
    rename_i ft st o rest
    have ho : ops[k]? = some o := by simpa using (hl 0).symm
    have hks : k < ops.size := (Array.getElem?_eq_some_iff.1 ho).1
    have hdo : dstOf ops k = o.dst := by simp [dstOf, ho]
    refine ih (k + 1) (fun i => if i = k then ⟨.tup [], [], [], [], []⟩ else R0 i) (by simp at hk; omega) (fun j => by have := hl (j + 1); simpa [Nat.add_assoc, Nat.add_comm 1 j] using this) (fun t => ?_) (fun m => ?_) (by simp [h3]) (rev h3 h4 rfl) (fun j hj => ?_)
    · rw [TV_succ hks, hdo, TV_ext (R' := R0) (fun j hj => by simp only [if_neg (show j ≠ k by omega)])]
      rcases put_look (tl := st.tl) o.dst (.tup []) t with ⟨h6, h7⟩ | ⟨h6, h7⟩
      · rw [if_pos h6]; simpa using h7
      · rw [if_neg h6, ← h1 t]; exact h7
    · rw [BV_succ hks, BV_ext (R' := R0) (fun j hj => by simp only [if_neg (show j ≠ k by omega)])]
      simp only [if_true, findB, Option.getD_none]; exact h2 m
    · by_cases hjk : j = k
      · subst hjk
        have hT : TV ops (look s0.tl) (fun i => if i = j then (⟨.tup [], [], [], [], []⟩ : Rc) else R0 i) (upto j) = look st.tl := by
          rw [TV_ext (R' := R0) (fun i hi => by simp only [if_neg (show i ≠ j by omega)])]; funext t; exact (h1 t).symm
        refine ⟨fun d hd' => dstOk_lt hd d (by rw [← hdo]; exact hd'), ⟨o, ho, .inr ⟨?_, by simp, by simp, by simp⟩⟩, by simp, by simp [AV.says, AV.says.saysL, findB]⟩
        cases hgd : o.guard with
        | none => rw [hgd] at hg; cases hg
        | some p =>
          obtain ⟨g, w⟩ := p
          rw [hgd] at hg
          obtain ⟨e, h6, h7⟩ := hg
          exact ⟨g, w, rfl, e, h6, by rw [hT]; simpa using h7⟩
      · exact keep (by omega) (h5 j (by omega))
  | step hs hg hd hf hw hv hb h ih =>
    intro k R0 hk hl h1 h2 h3 h4 h5
    rename_i ft st o v ch nw rb wb ml rest
    have ho : ops[k]? = some o := by simpa using (hl 0).symm
    have hks : k < ops.size := (Array.getElem?_eq_some_iff.1 ho).1
    have hdo : dstOf ops k = o.dst := by simp [dstOf, ho]
    refine ih (k + 1) (fun i => if i = k then ⟨v, ch, nw, rb, ml⟩ else R0 i) (by simp at hk; omega) (fun j => by have := hl (j + 1); simpa [Nat.add_assoc, Nat.add_comm 1 j] using this) (fun t => ?_) (fun m => ?_) (by simp [h3]) (rev h3 h4 (by simp only [Rc.ft, hw])) (fun j hj => ?_)
    · rw [TV_succ hks, hdo, TV_ext (R' := R0) (fun j hj => by simp only [if_neg (show j ≠ k by omega)])]
      rcases put_look (tl := st.tl) o.dst v t with ⟨h6, h7⟩ | ⟨h6, h7⟩
      · rw [if_pos h6]; simpa using h7
      · rw [if_neg h6, ← h1 t]; exact h7
    · rw [BV_succ hks, BV_ext (R' := R0) (fun j hj => by simp only [if_neg (show j ≠ k by omega)])]
      simp only [if_true]
      rw [← h2 m]
      exact updB_append ch st.bl m
    · by_cases hjk : j = k
      · subst hjk
        have hT : TV ops (look s0.tl) (fun i => if i = j then (⟨v, ch, nw, rb, ml⟩ : Rc) else R0 i) (upto j) = look st.tl := by
          rw [TV_ext (R' := R0) (fun i hi => by simp only [if_neg (show i ≠ j by omega)])]; funext t; exact (h1 t).symm
        have hBv : BV ops (lookB s0.bl) (fun i => if i = j then (⟨v, ch, nw, rb, ml⟩ : Rc) else R0 i) (upto j) = lookB st.bl := by
          rw [BV_ext (R' := R0) (fun i hi => by simp only [if_neg (show i ≠ j by omega)])]; funext t; exact (h2 t).symm
        refine ⟨fun d hd' => dstOk_lt hd d (by rw [← hdo]; exact hd'), ⟨o, ho, .inl ⟨fun g w hgd => ?_, ?_⟩⟩, ?_, ?_⟩
        · rw [hgd] at hg
          obtain ⟨e, h6, h7⟩ := hg
          exact ⟨e, h6, by rw [hT]; simpa using h7⟩
        · rw [hT, hBv, evalF_look]
          simp only [if_true]
          have : (fun m => if m ∈ rb then lookB st.bl m else none) = lookB (pickB rb st.bl) := by funext m; exact lookB_pickB.symm
          rw [this]; exact hs
        · simp only [if_true]
          intro n hn
          have := (List.all_eq_true.1 hf) n hn
          simp only [Bool.and_eq_true, Bool.not_eq_true', List.contains_eq_mem, decide_eq_false_iff_not] at this
          exact ⟨this.2, freshBl_none this.1.2, fun l B hB => freshBl_says this.1.2 hB, fun t => freshT_look this.1.1 t⟩
        · simp only [if_true]
          exact fun n hn => ⟨says_of_within hn v hv, fun l B hB => blk_says_ml hb hn l B hB⟩
      · exact keep (by omega) (h5 j (by omega))

theorem any_core {l : List Oper} {Q : Exit → St → Prop} {s : St} (A : List Nat)
    (h : Text P c l.toArray A s (fun st => Q .normal st) [] s l) {E : Env} {a : Act} {w : World} (hr : RelE c s E a w) : wpAny P .any l.toArray (lift c Q) l.toArray.size (Array.replicate l.toArray.size false) a { w with drawn := w.drawn + 1 } := by
  obtain ⟨R, F, st, hQ, hord, hF, hR, hst, hbl⟩ := text_recs h 0 (fun _ => ⟨.any, [], [], [], []⟩) (by simp) (fun j => by simp) (fun t => by
    unfold TV; rw [lastW_none (fun j _ => by simp [upto])]) (fun m => by unfold BV; rw [lastW_none (fun j _ => by simp [upto])]) rfl (fun j hj => by omega) (fun j hj => by omega)
  refine any_main hord hF hR (ops_nil hQ) hst hbl l.toArray.size _ a _ ?_ (by simp) (fun j o _ hl => (by rw [getD_replicate_false] at hl; cases hl)) ⟨E, ?_⟩
  · have : ∀ m, unl m (Array.replicate l.toArray.size false) = m := by
      intro m
      induction m with
      | zero => simp [unl]
      | succ m ih => rw [unl_succ, ih, getD_replicate_false]; simp
    exact this _
  · have hT : TV l.toArray (look s.tl) R (fun j => (Array.replicate l.toArray.size false).getD j false) = look s.tl := by
      funext t; unfold TV; rw [lastW_none (fun j _ => by simp only [getD_replicate_false, Bool.false_and])]
    have hBv : BV l.toArray (lookB s.bl) R (fun j => (Array.replicate l.toArray.size false).getD j false) = lookB s.bl := by
      funext t; unfold BV; rw [lastW_none (fun j _ => by simp only [getD_replicate_false, Bool.false_and])]
    rw [hT, hBv]
    have hk : Keeps E E w { w with drawn := w.drawn + 1 } (fun _ => False) := ⟨fun _ h => h, fun _ _ _ => rfl, fun _ _ => rfl, fun _ _ => rfl⟩
    have hk' : Grow E E w { w with drawn := w.drawn + 1 } (lookB s.bl) (fun _ => False) := ⟨fun _ h => h, fun _ h => .inl h, fun _ _ => rfl, ⟨Nat.le_refl _, fun _ _ _ => rfl, fun _ _ => rfl, rfl, rfl, rfl⟩⟩
    have hB0 : Blks E { w with drawn := w.drawn + 1 } (lookB s.bl) := ⟨fun n B g h1 h2 => (hr.bks.rep n B g h1 h2).mono hk rfl (fun _ h => h.elim), hr.bks.unb, hr.bks.inj, hr.bks.apart, hr.bks.bound⟩
    have := RelF.put hr hk' hB0 (fun n g hn hg => .inl ⟨n, hn, hg⟩) (fun n h => h.elim) none (fun d h => by cases h) .any undef (.any _) (look s.tl) (fun t => .inr (.inr ⟨by simp, rfl, fun n h => h.elim⟩))
    exact this

theorem awp_any {id : Nat} {l : List Oper} {Q : Exit → St → Prop} {s : St} (A : List Nat) (hm : P.follows .mixedOrders = true)
    (h : Text P c l.toArray A s (fun st => Q .normal st) [] s l) : AWp P c (.region id l.toArray true) Q s := fun E a w hr => wp_region_any hm (any_core A h hr)
end recs

end Go.Proofs.Ytencghlmckbmlaa
