/- A region that draws its order: its first operations only read or make memory, so any order comes to what the text's order comes to; behind them a tail whose order is forced. -/
import Derived.Test.YtencghlmckbmlaaSeq
import Derived.StillTail
set_option linter.unusedVariables false
set_option linter.unusedSimpArgs false
set_option maxRecDepth 100000
namespace Go.Proofs.Ytencghlmckbmlaa
open Go Go.RowKit

structure Rec where
  v : AV
  ch : List (Nat × Option Blk)
  nw : List Nat

def guardV (ops : Array Oper) (tl : List (Nat × AV)) : Option (Nat × Bool) → Option Bool
  | none => some true
  | some (j, want) => match (ops[j]?).bind (·.dst) with
    | some e => match lookO tl e with
      | some (.d (.v (.bool true))) => some want
      | some (.d (.v (.bool false))) => some (!want)
      | _ => none
    | none => none

def Blk.sayL (n : Nat) : List (Nat × Option Blk) → Bool
  | [] => false
  | (_, some B) :: r => B.says n || Blk.sayL n r
  | (_, none) :: r => Blk.sayL n r

def chOk (ch : List (Nat × Option Blk)) (nw : List Nat) : Bool :=
  (ch.all fun p => p.2.isSome && nw.contains p.1) && nw.all fun n => (findB ch n).isSome

/-- Operation j comes behind operation i, by at most f edges. -/
def reachB (ops : Array Oper) : Nat → Nat → Nat → Bool
  | 0, _, _ => false
  | f + 1, j, i => match ops[j]? with
    | some o => o.after.toList.any fun e => Region.binds .any e && (Nat.beq e.on i || reachB ops f e.on i)
    | none => false

def mentOk (ops : Array Oper) (i : Nat) (v : AV) (ch : List (Nat × Option Blk)) : List (Nat × Nat) → Bool
  | [] => true
  | (n, k) :: r => (bif v.says n || Blk.sayL n ch then reachB ops 8 i k else true) && mentOk ops i v ch r

/-- The first m operations in the text's order, from the blocks bl0 that none of them turns. -/
inductive Body (P : Program) (c : Ctx) (ops : Array Oper) (bl0 : List (Nat × Option Blk)) (m : Nat) (Q : St → Prop) : Nat → List (Nat × Nat) → St → List Oper → Prop where
  | done {i : Nat} {nm : List (Nat × Nat)} {st : St} {l : List Oper} (hm : i = m) (h : Q st) : Body P c ops bl0 m Q i nm st l
  | step {i : Nat} {nm : List (Nat × Nat)} {st : St} {d : Nat} {op : Op} {ty : TypeId} {pos : String} {after : Array Edge} {gd : Option (Nat × Bool)} {v : AV} {ch : List (Nat × Option Blk)} {nw : List Nat} {rest : List Oper}
      (hs : Step P ⟨some d, op, ty, pos, after, gd⟩ (evalA st) (lookB bl0) v ch nw) (hg : guardV ops st.tl gd = some true) (hd : Nat.blt d c.N = true) (hf : freshes c.gl nw st = true)
      (hc : chOk ch nw = true) (hme : mentOk ops i v ch nm = true) (h : Body P c ops bl0 m Q (i + 1) (nw.map (fun n => (n, i)) ++ nm) ⟨(d, v) :: st.tl, ch ++ st.bl⟩ rest) :
      Body P c ops bl0 m Q i nm st (⟨some d, op, ty, pos, after, gd⟩ :: rest)
  | skip {i : Nat} {nm : List (Nat × Nat)} {st : St} {d : Nat} {op : Op} {ty : TypeId} {pos : String} {after : Array Edge} {gd : Option (Nat × Bool)} {rest : List Oper}
      (hg : guardV ops st.tl gd = some false) (hd : Nat.blt d c.N = true) (h : Body P c ops bl0 m Q (i + 1) nm ⟨(d, .any) :: st.tl, st.bl⟩ rest) :
      Body P c ops bl0 m Q i nm st (⟨some d, op, ty, pos, after, gd⟩ :: rest)
  | split {i : Nat} {nm : List (Nat × Nat)} {st : St} {e : Nat} {b : Bool} {l : List Oper} (hb : lookO st.tl e = some (.d (.v (.bool b))))
      (hy : b = true → Body P c ops bl0 m Q i nm ⟨(e, .d (.v (.bool true))) :: st.tl, st.bl⟩ l) (hn : b = false → Body P c ops bl0 m Q i nm ⟨(e, .d (.v (.bool false))) :: st.tl, st.bl⟩ l) :
      Body P c ops bl0 m Q i nm st l


def evalF (tm : Nat → AV) : Operand → AV
  | .tmp t => tm t
  | .const v => constA v
  | .func f => .clo f [] []
  | .global _ => .any

theorem evalF_look (s : St) : evalF (look s.tl) = evalA s := by funext x; cases x <;> rfl

def dstOf (ops : Array Oper) (j : Nat) : Option Nat := (ops[j]?).bind (·.dst)
def srcOf (ops : Array Oper) (m t : Nat) : Option Nat := (List.range m).find? fun j => dstOf ops j == some t

/-- What the temporaries hold before operation k, in the text's order. -/
def TM (ops : Array Oper) (m : Nat) (tm0 : Nat → AV) (R : Nat → Rec) (k t : Nat) : AV :=
  match srcOf ops m t with
  | some j => if j < k then (R j).v else tm0 t
  | none => tm0 t

def tmD (ops : Array Oper) (m : Nat) (tm0 : Nat → AV) (R : Nat → Rec) (listed : Array Bool) (t : Nat) : AV :=
  match srcOf ops m t with
  | some j => if listed.getD j false = true then (R j).v else .any
  | none => tm0 t

/-- The head's operations write different temporaries; each waits for those whose temporaries it reads. -/
def headB (ops : Array Oper) (m : Nat) : Bool :=
  (List.range m).all fun i => match ops[i]? with
    | none => false
    | some o => (o.dst).isSome && (o.after.toList.all fun e => !Region.binds .any e || Nat.blt e.on i) && ((List.range m).all fun j => Nat.beq i j || !(dstOf ops j == o.dst)) &&
        ((o.op.operands.toList.filterMap (fun | .tmp t => some t | _ => none) ++ (match o.guard with | some (g, _) => (dstOf ops g).toList | none => [])).all fun t =>
          (List.range m).all fun j => !(dstOf ops j == some t) || (Nat.blt j i && Region.waitsFor .any ops i j))

section
variable {ops : Array Oper} {m : Nat}

theorem srcOf_some {t j : Nat} (h : srcOf ops m t = some j) : j < m ∧ dstOf ops j = some t := by
  unfold srcOf at h
  have h1 := List.mem_of_find?_eq_some h
  have h2 := List.find?_some h
  exact ⟨List.mem_range.1 h1, by simpa using h2⟩

theorem srcOf_none {t : Nat} (h : srcOf ops m t = none) (j : Nat) (hj : j < m) : dstOf ops j ≠ some t := by
  unfold srcOf at h
  have := (List.find?_eq_none.1 h) j (List.mem_range.2 hj)
  simpa using this

structure HeadOk (ops : Array Oper) (m i : Nat) (o : Oper) : Prop where
  dst : ∃ d, o.dst = some d
  edges : ∀ e ∈ o.after, Region.binds .any e = true → e.on < i
  apart : ∀ j, j < m → j ≠ i → dstOf ops j ≠ o.dst
  looks : ∀ t, (t ∈ o.op.operands.toList.filterMap (fun | .tmp t => some t | _ => none) ∨ ∃ g w, o.guard = some (g, w) ∧ dstOf ops g = some t) → ∀ j, j < m → dstOf ops j = some t → j < i ∧ Region.waitsFor .any ops i j = true

theorem headOk (h : headB ops m = true) {i : Nat} (hi : i < m) : ∃ o, ops[i]? = some o ∧ HeadOk ops m i o := by
  have h1 := List.all_eq_true.1 h i (List.mem_range.2 hi)
  cases ho : ops[i]? with
  | none => rw [ho] at h1; cases h1
  | some o =>
    rw [ho] at h1
    simp only [Bool.and_eq_true] at h1
    obtain ⟨⟨⟨h2, h3⟩, h4⟩, h5⟩ := h1
    refine ⟨o, rfl, Option.isSome_iff_exists.1 h2, fun e he hb => ?_, fun j hj hne => ?_, fun t ht j hj hd => ?_⟩
    · have := List.all_eq_true.1 h3 e (by simpa using he)
      simpa [Nat.blt_eq, hb] using this
    · have := List.all_eq_true.1 h4 j (List.mem_range.2 hj)
      simp only [Bool.or_eq_true, Bool.not_eq_true', beq_eq_false_iff_ne, ne_eq] at this
      rcases this with h | h
      · exact absurd (Nat.eq_of_beq_eq_true h).symm hne
      · exact h
    · have hm : t ∈ o.op.operands.toList.filterMap (fun | .tmp t => some t | _ => none) ++ (match o.guard with | some (g, _) => (dstOf ops g).toList | none => []) := by
        rcases ht with ht | ⟨g, w, hg, hgd⟩
        · exact List.mem_append_left _ ht
        · refine List.mem_append_right _ ?_
          rw [hg]; simp [hgd]
      have := List.all_eq_true.1 (List.all_eq_true.1 h5 t hm) j (List.mem_range.2 hj)
      simp only [Bool.or_eq_true, Bool.not_eq_true', beq_eq_false_iff_ne, ne_eq, Bool.and_eq_true] at this
      rcases this with h | ⟨h6, h7⟩
      · exact absurd hd h
      · exact ⟨by simpa [Nat.blt_eq] using h6, h7⟩

theorem srcOf_dst (hh : headB ops m = true) {j t : Nat} (hj : j < m) (hd : dstOf ops j = some t) : srcOf ops m t = some j := by
  cases hs : srcOf ops m t with
  | none => exact absurd hd (srcOf_none hs j hj)
  | some i =>
    obtain ⟨hi, hdi⟩ := srcOf_some hs
    by_cases h : i = j
    · rw [h]
    · obtain ⟨o, ho, hok⟩ := headOk hh hj
      have hod : o.dst = some t := by simpa [dstOf, ho] using hd
      exact absurd (hdi.trans hod.symm) (hok.apart i hi h)
end

/-- What one operation of the head did, in the text's order. -/
structure RecOk (P : Program) (c : Ctx) (ops : Array Oper) (bl0 : List (Nat × Option Blk)) (m : Nat) (tm0 : Nat → AV) (R : Nat → Rec) (k : Nat) : Prop where
  dst : ∃ d, dstOf ops k = some d ∧ d < c.N
  run : ∃ o, ops[k]? = some o ∧
    (((∀ g w, o.guard = some (g, w) → ∃ e, dstOf ops g = some e ∧ TM ops m tm0 R k e = .d (.v (.bool w))) ∧ Step P o (evalF (TM ops m tm0 R k)) (lookB bl0) (R k).v (R k).ch (R k).nw) ∨
     ((∃ g w, o.guard = some (g, w) ∧ ∃ e, dstOf ops g = some e ∧ TM ops m tm0 R k e = .d (.v (.bool (!w)))) ∧ R k = ⟨.any, [], []⟩))
  ch : ∀ n B, findB (R k).ch n = some B → B.isSome = true ∧ n ∈ (R k).nw
  nw : ∀ n ∈ (R k).nw, (findB (R k).ch n).isSome = true ∧ n ∉ c.gl ∧ lookB bl0 n = none ∧ (∀ l B, lookB bl0 l = some B → B.says n = false) ∧
    (∀ t, srcOf ops m t = none → (tm0 t).says n = false) ∧ (∀ j, j < k → n ∉ (R j).nw ∧ (R j).v.says n = false ∧ ∀ l B, findB (R j).ch l = some (some B) → B.says n = false)
  ment : ∀ j, j < k → ∀ n ∈ (R j).nw, ((R k).v.says n = true ∨ ∃ l B, findB (R k).ch l = some (some B) ∧ B.says n = true) → reachB ops 8 k j = true

theorem sayL_find {n l : Nat} {B : Blk} : ∀ {ch : List (Nat × Option Blk)}, findB ch l = some (some B) → B.says n = true → Blk.sayL n ch = true
  | [], h, _ => by simp [findB] at h
  | (u, some B') :: r, h, hB => by
    have e : findB ((u, some B') :: r) l = bif Nat.beq u l then some (some B') else findB r l := rfl
    rw [e] at h
    simp only [Blk.sayL, Bool.or_eq_true]
    cases hb : Nat.beq u l with
    | true => rw [hb, cond_true] at h; injection h with h; injection h with h; subst h; exact .inl hB
    | false => rw [hb, cond_false] at h; exact .inr (sayL_find h hB)
  | (u, none) :: r, h, hB => by
    have e : findB ((u, none) :: r) l = bif Nat.beq u l then some none else findB r l := rfl
    rw [e] at h
    simp only [Blk.sayL]
    cases hb : Nat.beq u l with
    | true => rw [hb, cond_true] at h; cases h
    | false => rw [hb, cond_false] at h; exact sayL_find h hB

theorem mentOk_spec {ops : Array Oper} {i : Nat} {v : AV} {ch : List (Nat × Option Blk)} : ∀ {nm : List (Nat × Nat)}, mentOk ops i v ch nm = true → ∀ n j, (n, j) ∈ nm →
    (v.says n = true ∨ ∃ l B, findB ch l = some (some B) ∧ B.says n = true) → reachB ops 8 i j = true
  | [], _, n, j, h, _ => by cases h
  | (n', k) :: r, hme, n, j, h, hs => by
    simp only [mentOk, Bool.and_eq_true] at hme
    rcases List.mem_cons.1 h with h | h
    · injection h with h1 h2
      subst h1; subst h2
      have : (v.says n || Blk.sayL n ch) = true := by
        rw [Bool.or_eq_true]
        rcases hs with hs | ⟨l, B, h1, h2⟩
        · exact .inl hs
        · exact .inr (sayL_find h1 h2)
      rw [this, cond_true] at hme
      exact hme.1
    · exact mentOk_spec hme.2 n j h hs

theorem guardV_true {ops : Array Oper} {tl : List (Nat × AV)} {gd : Option (Nat × Bool)} {r : Bool} (h : guardV ops tl gd = some r) :
    (gd = none ∧ r = true) ∨ ∃ g w e, gd = some (g, w) ∧ dstOf ops g = some e ∧ look tl e = .d (.v (.bool (if r then w else !w))) := by
  cases gd with
  | none => simp only [guardV, Option.some.injEq] at h; exact .inl ⟨rfl, h.symm⟩
  | some p =>
    obtain ⟨g, w⟩ := p
    right
    simp only [guardV] at h
    split at h
    · rename_i e he
      refine ⟨g, w, e, rfl, he, ?_⟩
      split at h
      · rename_i hl
        injection h with h
        rw [lookO_look hl, ← h]
        cases w <;> rfl
      · rename_i hl
        injection h with h
        rw [lookO_look hl, ← h]
        cases w <;> rfl
      · cases h
    · cases h

theorem updB_append (a b : List (Nat × Option Blk)) (n : Nat) : lookB (a ++ b) n = (findB a n).getD (lookB b n) := by
  have := congrFun (lookB_append a b) n
  exact this

theorem body_le {P : Program} {c : Ctx} {ops : Array Oper} {bl0 : List (Nat × Option Blk)} {m : Nat} {Q : St → Prop} {i : Nat} {nm : List (Nat × Nat)} {st : St} {l : List Oper}
    (hB : Body P c ops bl0 m Q i nm st l) : i ≤ m := by
  induction hB with
  | done hm h => omega
  | step hs hg hd hf hc hme h ih => omega
  | skip hg hd h ih => omega
  | split hb hy hn ihy ihn =>
    rename_i b _
    cases hbv : b with
    | true => exact ihy hbv
    | false => exact ihn hbv

/-- The text's order gives the head's records. -/
theorem body_recs {P : Program} {c : Ctx} {ops : Array Oper} {bl0 : List (Nat × Option Blk)} {m : Nat} {Q : St → Prop} {tm0 : Nat → AV} (hh : headB ops m = true)
    {i : Nat} {nm : List (Nat × Nat)} {st : St} {l : List Oper} (hB : Body P c ops bl0 m Q i nm st l) : i ≤ m → (∀ j, l[j]? = ops[i + j]?) → ∀ R0 : Nat → Rec,
    (∀ t, look st.tl t = TM ops m tm0 R0 i t) → (∀ n B, lookB st.bl n = some B → lookB bl0 n = some B ∨ ∃ j, j < i ∧ findB (R0 j).ch n = some (some B)) →
    (∀ n B, lookB bl0 n = some B → lookB st.bl n = some B) → (∀ j, j < i → ∀ n B, findB (R0 j).ch n = some (some B) → lookB st.bl n = some B) →
    (∀ j, j < i → ∀ n ∈ (R0 j).nw, (n, j) ∈ nm) → (∀ j, j < i → RecOk P c ops bl0 m tm0 R0 j) →
    ∃ (R : Nat → Rec) (st' : St), Q st' ∧ (∀ j, j < m → RecOk P c ops bl0 m tm0 R j) ∧ (∀ t, look st'.tl t = TM ops m tm0 R m t) ∧
      (∀ n B, lookB st'.bl n = some B → lookB bl0 n = some B ∨ ∃ j, j < m ∧ findB (R j).ch n = some (some B)) := by
  -- one more record
  have ext : ∀ {i : Nat} {R0 : Nat → Rec} {r : Rec} {o : Oper} {d : Nat}, i < m → ops[i]? = some o → o.dst = some d →
      (∀ j t, j ≤ i → TM ops m tm0 (fun k => if k = i then r else R0 k) j t = TM ops m tm0 R0 j t) ∧
      (∀ t, TM ops m tm0 (fun k => if k = i then r else R0 k) (i + 1) t = if d = t then r.v else TM ops m tm0 R0 i t) := by
    intro i R0 r o d hi ho hd
    refine ⟨fun j t hj => ?_, fun t => ?_⟩
    · unfold TM
      split
      · split
        · rename_i k hk hlt
          have : k ≠ i := by omega
          simp only [if_neg this]
        · rfl
      · rfl
    · have hdi : dstOf ops i = some d := by simp [dstOf, ho, hd]
      by_cases h : d = t
      · subst h
        rw [if_pos rfl]
        unfold TM
        rw [srcOf_dst hh hi hdi]
        simp
      · rw [if_neg h]
        unfold TM
        split
        · rename_i k hk
          have hki : k ≠ i := fun e => by
            subst e
            have := (srcOf_some hk).2
            rw [hdi] at this; injection this with this; exact h this
          simp only [if_neg hki]
          by_cases h2 : k < i
          · rw [if_pos h2, if_pos (by omega)]
          · rw [if_neg h2, if_neg (by omega)]
        · rfl
  have keepRec : ∀ {i : Nat} {R0 : Nat → Rec} {r : Rec} {o : Oper} {d : Nat}, i < m → ops[i]? = some o → o.dst = some d → ∀ j, j < i → RecOk P c ops bl0 m tm0 R0 j → RecOk P c ops bl0 m tm0 (fun k => if k = i then r else R0 k) j := by
    intro i R0 r o d hi ho hd j hj h
    obtain ⟨he, _⟩ := ext (R0 := R0) (r := r) hi ho hd
    have hne : j ≠ i := by omega
    have hTM : TM ops m tm0 (fun k => if k = i then r else R0 k) j = TM ops m tm0 R0 j := by funext t; exact he j t (by omega)
    refine ⟨h.dst, ?_, ?_, ?_, ?_⟩
    · obtain ⟨o', ho', hr⟩ := h.run
      refine ⟨o', ho', ?_⟩
      rw [hTM]; simp only [if_neg hne]; exact hr
    · simp only [if_neg hne]; exact h.ch
    · simp only [if_neg hne]
      intro n hn
      obtain ⟨h1, h2, h3, h4, h5, h6⟩ := h.nw n hn
      exact ⟨h1, h2, h3, h4, h5, fun k hk => by rw [if_neg (by omega)]; exact h6 k hk⟩
    · intro k hk n hn
      simp only [if_neg hne]
      simp only [if_neg (show k ≠ i by omega)] at hn
      exact h.ment k hk n hn
  induction hB with
  | done hm h =>
    intro hi hl R0 h1 h2 h3 h4 h5 h6
    subst hm
    exact ⟨R0, _, h, h6, h1, h2⟩
  | split hb hy hn ihy ihn =>
    intro hi hl R0 h1 h2 h3 h4 h5 h6
    rename_i i nm st e b l
    have hlk : ∀ b' : Bool, b = b' → ∀ t, look ((e, AV.d (.v (.bool b'))) :: st.tl) t = TM ops m tm0 R0 i t := fun b' hbb t => by
      rw [← h1 t]
      have e' : look ((e, AV.d (.v (.bool b'))) :: st.tl) t = bif Nat.beq e t then AV.d (.v (.bool b')) else look st.tl t := rfl
      rw [e']
      by_cases h : e = t
      · subst h; simp only [Nat.beq_refl, cond_true]; rw [lookO_look hb, hbb]
      · rw [natbeq_false h, cond_false]
    cases hbv : b with
    | true => exact ihy hbv hi hl R0 (hlk true hbv) h2 h3 h4 h5 h6
    | false => exact ihn hbv hi hl R0 (hlk false hbv) h2 h3 h4 h5 h6
  | skip hg hd h ih =>
    intro hi hl R0 h1 h2 h3 h4 h5 h6
    rename_i i nm st d op ty pos after gd rest
    have ho : ops[i]? = some ⟨some d, op, ty, pos, after, gd⟩ := by simpa using (hl 0).symm
    have him : i < m := body_le h
    · obtain ⟨he1, he2⟩ := ext (R0 := R0) (r := ⟨.any, [], []⟩) him ho rfl
      refine ih (by omega) (fun j => by have := hl (j + 1); simpa [Nat.add_assoc, Nat.add_comm 1 j] using this) (fun k => if k = i then ⟨.any, [], []⟩ else R0 k) (fun t => ?_) (fun n B hn => ?_) h3 (fun j hj n B hn => ?_) (fun j hj n hn => ?_) (fun j hj => ?_)
      · rw [he2]
        have e' : look ((d, AV.any) :: st.tl) t = bif Nat.beq d t then AV.any else look st.tl t := rfl
        rw [show look (St.mk ((d, AV.any) :: st.tl) st.bl).tl t = look ((d, AV.any) :: st.tl) t from rfl, e']
        by_cases h : d = t
        · subst h; simp
        · rw [natbeq_false h, cond_false, if_neg h]; exact h1 t
      · rcases h2 n B hn with h | ⟨j, hj, h⟩
        · exact .inl h
        · exact .inr ⟨j, by omega, by rw [if_neg (by omega)]; exact h⟩
      · by_cases h : j = i
        · subst h; simp [findB] at hn
        · rw [if_neg h] at hn; exact h4 j (by omega) n B hn
      · by_cases h : j = i
        · subst h; simp at hn
        · rw [if_neg h] at hn; exact h5 j (by omega) n hn
      · by_cases h : j = i
        · subst h
          have hTM : TM ops m tm0 (fun k => if k = j then ⟨.any, [], []⟩ else R0 k) j = look st.tl := by funext t; rw [he1 j t (by omega)]; exact (h1 t).symm
          refine ⟨⟨d, by simp [dstOf, ho], by simpa [Nat.blt_eq] using hd⟩, ⟨_, ho, .inr ⟨?_, by simp⟩⟩, by simp [findB], by simp, by simp [AV.says, findB]⟩
          rcases guardV_true hg with ⟨_, h⟩ | ⟨g, w, e, h7, h8, h9⟩
          · cases h
          · exact ⟨g, w, h7, e, h8, by rw [hTM]; simpa using h9⟩
        · exact keepRec him ho rfl j (by omega) (h6 j (by omega))
  | step hs hg hd hf hc hme h ih =>
    intro hi hl R0 h1 h2 h3 h4 h5 h6
    rename_i i nm st d op ty pos after gd v ch nw rest
    have ho : ops[i]? = some ⟨some d, op, ty, pos, after, gd⟩ := by simpa using (hl 0).symm
    have him : i < m := body_le h
    · obtain ⟨he1, he2⟩ := ext (R0 := R0) (r := ⟨v, ch, nw⟩) him ho rfl
      have hfr : ∀ n ∈ nw, freshT n st.tl = true ∧ freshBl n st.bl = true ∧ n ∉ c.gl := fun n hn => by
        have := (List.all_eq_true.1 hf) n hn
        simp only [Bool.and_eq_true, Bool.not_eq_true', List.contains_eq_mem, decide_eq_false_iff_not] at this
        exact ⟨this.1.1, this.1.2, this.2⟩
      simp only [chOk, Bool.and_eq_true] at hc
      have hch : ∀ n B, findB ch n = some B → B.isSome = true ∧ n ∈ nw := fun n B hn => by
        have := List.all_eq_true.1 hc.1 _ (findB_mem hn)
        simpa using this
      refine ih (by omega) (fun j => by have := hl (j + 1); simpa [Nat.add_assoc, Nat.add_comm 1 j] using this) (fun k => if k = i then ⟨v, ch, nw⟩ else R0 k) (fun t => ?_) (fun n B hn => ?_) (fun n B hn => ?_) (fun j hj n B hn => ?_) (fun j hj n hn => ?_) (fun j hj => ?_)
      · rw [he2]
        have e' : look ((d, v) :: st.tl) t = bif Nat.beq d t then v else look st.tl t := rfl
        rw [show look (St.mk ((d, v) :: st.tl) (ch ++ st.bl)).tl t = look ((d, v) :: st.tl) t from rfl, e']
        by_cases h : d = t
        · subst h; simp
        · rw [natbeq_false h, cond_false, if_neg h]; exact h1 t
      · rw [show lookB (St.mk ((d, v) :: st.tl) (ch ++ st.bl)).bl n = lookB (ch ++ st.bl) n from rfl, updB_append] at hn
        cases hfb : findB ch n with
        | some o' =>
          rw [hfb] at hn
          simp only [Option.getD_some] at hn
          subst hn
          exact .inr ⟨i, by omega, by simp [hfb]⟩
        | none =>
          rw [hfb] at hn
          rcases h2 n B hn with h | ⟨j, hj, h⟩
          · exact .inl h
          · exact .inr ⟨j, by omega, by rw [if_neg (by omega)]; exact h⟩
      · rw [show lookB (St.mk ((d, v) :: st.tl) (ch ++ st.bl)).bl n = lookB (ch ++ st.bl) n from rfl, updB_append]
        cases hfb : findB ch n with
        | some o' => have := freshBl_none (hfr n (hch n _ hfb).2).2.1; rw [h3 n B hn] at this; cases this
        | none => exact h3 n B hn
      · rw [show lookB (St.mk ((d, v) :: st.tl) (ch ++ st.bl)).bl n = lookB (ch ++ st.bl) n from rfl, updB_append]
        by_cases h : j = i
        · subst h; simp at hn; rw [hn]; rfl
        · rw [if_neg h] at hn
          cases hfb : findB ch n with
          | some o' => have := freshBl_none (hfr n (hch n _ hfb).2).2.1; rw [h4 j (by omega) n B hn] at this; cases this
          | none => exact h4 j (by omega) n B hn
      · by_cases h : j = i
        · subst h; simp at hn; exact List.mem_append_left _ (List.mem_map.2 ⟨n, hn, rfl⟩)
        · rw [if_neg h] at hn; exact List.mem_append_right _ (h5 j (by omega) n hn)
      · by_cases h : j = i
        · subst h
          have hTM : TM ops m tm0 (fun k => if k = j then ⟨v, ch, nw⟩ else R0 k) j = look st.tl := by funext t; rw [he1 j t (by omega)]; exact (h1 t).symm
          refine ⟨⟨d, by simp [dstOf, ho], by simpa [Nat.blt_eq] using hd⟩, ⟨_, ho, .inl ⟨fun g w hgd => ?_, ?_⟩⟩, ?_, ?_, ?_⟩
          · rcases guardV_true hg with ⟨h7, _⟩ | ⟨g', w', e, h7, h8, h9⟩
            · simp only at hgd; rw [h7] at hgd; cases hgd
            · simp only at hgd; rw [h7] at hgd; injection hgd with hgd; injection hgd with hg1 hg2
              subst hg1; subst hg2
              exact ⟨e, h8, by rw [hTM]; simpa using h9⟩
          · rw [hTM, evalF_look]; simp only [if_true]; exact hs
          · simp only [if_true]; exact hch
          · simp only [if_true]
            intro n hn
            obtain ⟨f1, f2, f3⟩ := hfr n hn
            refine ⟨List.all_eq_true.1 hc.2 n hn, f3, ?_, fun l B hl => freshBl_says f2 (h3 l B hl), fun t ht => ?_, fun k hk => ?_⟩
            · cases hb0 : lookB bl0 n with
              | none => rfl
              | some B => have := freshBl_none f2; rw [h3 n B hb0] at this; cases this
            · have := freshT_look f1 t
              rw [h1 t] at this
              unfold TM at this
              rw [ht] at this
              exact this
            · rw [if_neg (show k ≠ j by omega)]
              refine ⟨fun hnk => ?_, ?_, fun l B hlB => freshBl_says f2 (h4 k hk l B hlB)⟩
              · obtain ⟨B, hB⟩ := Option.isSome_iff_exists.1 ((h6 k hk).nw n hnk).1
                have hBs := ((h6 k hk).ch n B hB).1
                obtain ⟨B', rfl⟩ := Option.isSome_iff_exists.1 hBs
                have := freshBl_none f2
                rw [h4 k hk n B' hB] at this; cases this
              · obtain ⟨dk, hdk, _⟩ := (h6 k hk).dst
                have := freshT_look f1 dk
                rw [h1 dk] at this
                unfold TM at this
                rw [srcOf_dst hh (by omega : k < m) hdk] at this
                simpa [hk] using this
          · intro k hk n hn hsay
            simp only [if_true] at hsay
            rw [if_neg (show k ≠ j by omega)] at hn
            exact mentOk_spec hme n k (h5 k hk n hn) hsay
        · exact keepRec him ho rfl j (by omega) (h6 j (by omega))

def unl (m : Nat) (listed : Array Bool) : Nat := (List.range m).countP fun j => listed.getD j false == false

theorem unl_succ (m : Nat) (listed : Array Bool) : unl (m + 1) listed = unl m listed + (if listed.getD m false = false then 1 else 0) := by
  unfold unl
  rw [List.range_succ, List.countP_append]
  simp [List.countP_cons]

theorem unl_set {listed : Array Bool} {i : Nat} (hi : listed.getD i true = false) : ∀ m, unl m (listed.setIfInBounds i true) + (if i < m then 1 else 0) = unl m listed := by
  have his : i < listed.size := by
    rcases Nat.lt_or_ge i listed.size with h | h
    · exact h
    · simp [Array.getElem?_eq_none h] at hi
  intro m
  induction m with
  | zero => simp [unl]
  | succ m ih =>
    rw [unl_succ, unl_succ]
    by_cases h : i = m
    · subst h
      have h1 : (listed.setIfInBounds i true).getD i false = true := by simp [his]
      rw [h1, getD_both hi]
      simp at ih ⊢
      omega
    · have h1 : (listed.setIfInBounds i true).getD m false = listed.getD m false := getD_set_ne false h
      rw [h1]
      by_cases h2 : i < m
      · rw [if_pos h2] at ih; rw [if_pos (show i < m + 1 by omega)]; omega
      · rw [if_neg h2] at ih; rw [if_neg (show ¬ i < m + 1 by omega)]; omega

theorem unl_zero {m : Nat} {listed : Array Bool} (h : unl m listed = 0) (j : Nat) (hj : j < m) : listed.getD j false = true := by
  unfold unl at h
  rw [List.countP_eq_zero] at h
  have := h j (List.mem_range.2 hj)
  cases hl : listed.getD j false with
  | true => rfl
  | false => rw [hl] at this; exact absurd rfl this

theorem unl_pos {m : Nat} {listed : Array Bool} (h : 0 < unl m listed) : ∃ i, i < m ∧ listed.getD i false = false ∧ ∀ j, j < i → listed.getD j false = true := by
  induction m with
  | zero => simp [unl] at h
  | succ m ih =>
    by_cases h0 : 0 < unl m listed
    · obtain ⟨i, h1, h2⟩ := ih h0; exact ⟨i, by omega, h2⟩
    · rw [unl_succ] at h
      have : listed.getD m false = false := by
        cases hl : listed.getD m false with
        | true => rw [hl] at h; simp at h; omega
        | false => rfl
      exact ⟨m, by omega, this, fun j hj => unl_zero (by omega) j hj⟩

theorem reach_listed {ops : Array Oper} {listed : Array Bool} {n : Nat} (inv : HeadInv .any ops n listed) : ∀ (f j i : Nat), reachB ops f j i = true → listed.getD j false = true → listed.getD i false = true := by
  intro f
  induction f with
  | zero => intro j i h; cases h
  | succ f ih =>
    intro j i h hl
    simp only [reachB] at h
    split at h
    · rename_i o ho
      obtain ⟨e, he, hb⟩ := List.any_eq_true.1 h
      simp only [Bool.and_eq_true, Bool.or_eq_true] at hb
      have hlist := inv.closed j o ho hl e (by simpa using he) hb.1
      rcases hb.2 with h1 | h1
      · rw [← Nat.eq_of_beq_eq_true h1]; exact hlist
      · exact ih e.on i h1 hlist
    · cases h

/-- The tail keeps its order. -/
def fullTo (n m : Nat) : Array Bool := ((List.range n).map fun j => decide (j < m)).toArray

def drawB (ops : Array Oper) (m : Nat) : Bool :=
  headB ops m && (if m < ops.size then Region.sinkB .any ops m && Region.chainB .any ops m else m == ops.size) && Region.seqB .any ops (ops.size - m) m (fullTo ops.size m)

theorem awp_draw {P : Program} {c : Ctx} {id m : Nat} {l : List Oper} {Q : Exit → St → Prop} {s : St} (hm : P.follows .mixedOrders = true) (hB : drawB l.toArray m = true)
    (h : Body P c l.toArray s.bl m (fun st => Ops P c l.toArray (l.drop m) Q st) 0 [] s l) : AWp P c (.region id l.toArray true) Q s := by
  intro E a w hr
  simp only [drawB, Bool.and_eq_true] at hB
  obtain ⟨⟨hhead, htail⟩, hseq⟩ := hB
  have hml : m ≤ l.toArray.size := by
    split at htail
    · omega
    · simp at htail; simp [htail]
  obtain ⟨R, st, hQ, hrec, hst, hbl⟩ := body_recs (tm0 := look s.tl) hhead h (Nat.zero_le _) (fun j => by simp) (fun _ => ⟨.any, [], []⟩) (fun t => by
    unfold TM; split <;> simp) (fun n B hn => .inl hn) (fun n B hn => hn) (fun j hj => by omega) (fun j hj => by omega) (fun j hj => by omega)
  refine wp_region_any hm ?_
  -- the invariant
  have main : ∀ (f : Nat) (listed : Array Bool) (a : Act) (w : World), unl m listed = f → HeadInv .any l.toArray m listed →
      (∃ E bk, RelF c (tmD l.toArray m (look s.tl) R listed) bk E a w ∧ (∀ n B, lookB s.bl n = some B → bk n = some B) ∧
        (∀ j, j < m → listed.getD j false = true → ∀ n B, findB (R j).ch n = some (some B) → bk n = some B) ∧
        (∀ n B, bk n = some B → lookB s.bl n = some B ∨ ∃ j, j < m ∧ listed.getD j false = true ∧ findB (R j).ch n = some (some B))) →
      wpAny P .any l.toArray (lift c Q) (f + (l.toArray.size - m)) listed a w := by
    intro f
    induction f with
    | zero =>
      intro listed a w hu inv ⟨E, bk, hrel, k1, k2, k3⟩
      have hfull : listed = fullTo l.toArray.size m := by
        apply Array.ext_getElem?
        intro j
        have hs := inv.size
        by_cases hj : j < l.toArray.size
        · have e : (fullTo l.toArray.size m)[j]? = some (decide (j < m)) := by unfold fullTo; rw [List.getElem?_toArray, List.getElem?_map, List.getElem?_range hj]; rfl
          rw [e]
          have hjl : j < listed.size := by omega
          rw [Array.getElem?_eq_getElem hjl]
          by_cases hjm : j < m
          · have := unl_zero hu j hjm
            simp [hjl] at this
            simp [hjm, this]
          · have := inv.tail j (by omega) hj
            simp [hjl] at this
            simp [hjm, this]
        · rw [Array.getElem?_eq_none (by omega), Array.getElem?_eq_none (by unfold fullTo; rw [List.size_toArray, List.length_map, List.length_range]; omega)]
      have hrel' : RelE c st E a w := RelF.sub hrel (fun t => .inr (by
        rw [hst t]
        unfold TM tmD
        split
        · rename_i j hj
          have hjm := (srcOf_some hj).1
          rw [if_pos hjm, if_pos (unl_zero hu j hjm)]
        · rfl)) (fun n B hn => by
        rcases hbl n B hn with h1 | ⟨j, hj, h1⟩
        · exact k1 n B h1
        · exact k2 j hj (unl_zero hu j hj) n B h1)
      have hlist := hQ E a w hrel'
      have hlen : (l.drop m).length = l.toArray.size - m := by simp
      have := wpAny_of_seq (P := P) (md := .any) (ops := l.toArray) (Q' := lift c Q) (l.drop m) m listed a w (fun j => by simp [List.getElem?_drop]) (by rw [hlen, hfull]; exact hseq) hlist
      rw [hlen] at this
      rw [Nat.zero_add]
      exact this
    | succ f ih =>
      intro listed a w hu inv ⟨E, bk, hrel, k1, k2, k3⟩
      rw [show f + 1 + (l.toArray.size - m) = (f + (l.toArray.size - m)) + 1 by omega]
      obtain ⟨i0, hi0, hi0l, hi0m⟩ := unl_pos (m := m) (listed := listed) (by omega)
      have hready0 : i0 ∈ Region.ready .any l.toArray listed := by
        obtain ⟨o, ho, hok⟩ := headOk hhead hi0
        exact mem_ready.2 ⟨getD_in (by rw [inv.size]; omega) hi0l, o, ho, fun e he hb => hi0m e.on (hok.edges e he hb)⟩
      refine ⟨(fun h0 => by rw [h0] at hready0; cases hready0), fun i hi => ?_⟩
      have him : i < m := by
        rcases Nat.lt_or_ge i m with h | h
        · exact h
        · exfalso
          split at htail
          · rename_i hlt
            simp only [Bool.and_eq_true] at htail
            exact tail_waits htail.1 htail.2 hlt inv (m - i0) i0 rfl hi0 (getD_in (by rw [inv.size]; omega) hi0l) i h hi
          · simp at htail
            obtain ⟨_, o, ho, _⟩ := mem_ready.1 hi
            have := (Array.getElem?_eq_some_iff.1 ho).1
            simp at this; omega
      have hmem := mem_ready.1 hi
      obtain ⟨hiu, o, ho, hall⟩ := hmem
      obtain ⟨o', ho', hok⟩ := headOk hhead him
      have : o' = o := Option.some.inj (ho'.symm.trans ho)
      subst this
      have hrc := hrec i him
      obtain ⟨d, hd, hdN⟩ := hrc.dst
      have hod : o'.dst = some d := by simpa [dstOf, ho'] using hd
      have inv' := inv.set hi him
      have hu' : unl m (listed.setIfInBounds i true) = f := by
        have := unl_set hiu m
        rw [if_pos him] at this; omega
      have his : i < listed.size := by rw [inv.size]; omega
      have hli : listed.getD i false = false := getD_both hiu
      -- a temporary that the operation looks at
      have looks : ∀ t, (t ∈ o'.op.operands.toList.filterMap (fun | .tmp t => some t | _ => none) ∨ ∃ g w, o'.guard = some (g, w) ∧ dstOf l.toArray g = some t) →
          tmD l.toArray m (look s.tl) R listed t = TM l.toArray m (look s.tl) R i t := fun t ht => by
        unfold tmD TM
        split
        · rename_i j hj
          obtain ⟨hjm, hjd⟩ := srcOf_some hj
          obtain ⟨hji, hw⟩ := hok.looks t ht j hjm hjd
          obtain ⟨o2, ho2, e, he, hb, hon⟩ := Region.waitsFor_spec hw
          have : o2 = o' := Option.some.inj (ho2.symm.trans ho')
          subst this
          have := hall e he hb
          rw [hon] at this
          rw [if_pos this, if_pos hji]
        · rfl
      -- the state behind
      have next : ∀ (E' : Env) (bk' : Bk) (val : Value) (w' : World), Blks E' w' (updB (R i).ch bk) → Rep E' w' (R i).v val → Grow E E' w w' bk (· ∈ (R i).nw) →
          (∀ n g, updB (R i).ch bk n ≠ none → E'.blk n = some g → (∃ m, bk m ≠ none ∧ E.blk m = some g) ∨ w.heap.size ≤ g) →
          wpAny P .any l.toArray (lift c Q) (f + (l.toArray.size - m)) (listed.setIfInBounds i true) (a.put o'.dst val) w' := by
        intro E' _ val w' hB' hv' hgr hnm
        refine ih _ _ _ hu' inv' ⟨E', updB (R i).ch bk, ?_, fun n B hn => ?_, fun j hj hjl n B hn => ?_, fun n B hn => ?_⟩
        · refine RelF.put hrel hgr hB' hnm (fun n hn => (hrc.nw n hn).2.1) o'.dst (fun d' hd' => by rw [hod] at hd'; injection hd' with hd'; exact hd' ▸ hdN) (R i).v val hv' _ fun t => ?_
          rw [hod]
          by_cases hdt : d = t
          · subst hdt
            refine .inl ⟨rfl, ?_⟩
            unfold tmD
            rw [srcOf_dst hhead him hd]
            simp [his]
          · refine .inr ?_
            unfold tmD
            split
            · rename_i j hj
              obtain ⟨hjm, hjd⟩ := srcOf_some hj
              have hji : i ≠ j := fun e => by
                subst e; rw [hd] at hjd; injection hjd with hjd; exact hdt hjd
              rw [getD_set_ne false hji]
              by_cases hjl : listed.getD j false = true
              · rw [if_pos hjl]
                refine .inr ⟨fun h => by injection h with h; exact hdt h, rfl, fun n hn => ?_⟩
                rcases Nat.lt_or_ge j i with h | h
                · exact ((hrc.nw n hn).2.2.2.2.2 j h).2.1
                · cases hsay : (R j).v.says n with
                  | false => rfl
                  | true =>
                    have := (hrec j hjm).ment i (by omega) n hn (.inl hsay)
                    have := reach_listed inv 8 j i this hjl
                    rw [hli] at this; cases this
              · rw [if_neg hjl]; exact .inl rfl
            · rename_i hsrc
              exact .inr ⟨fun h => by injection h with h; exact hdt h, rfl, fun n hn => (hrc.nw n hn).2.2.2.2.1 t hsrc⟩
        · unfold updB
          cases hfb : findB (R i).ch n with
          | none => exact k1 n B hn
          | some o => have := (hrc.nw n (hrc.ch n o hfb).2).2.2.1; rw [hn] at this; cases this
        · unfold updB
          by_cases hji : j = i
          · subst hji; rw [hn]; rfl
          · rw [getD_set_ne false (Ne.symm hji)] at hjl
            cases hfb : findB (R i).ch n with
            | none => exact k2 j hj hjl n B hn
            | some o =>
              exfalso
              have hni := (hrc.ch n o hfb).2
              have hnj := ((hrec j hj).ch n (some B) hn).2
              rcases Nat.lt_or_ge j i with h | h
              · exact ((hrc.nw n hni).2.2.2.2.2 j h).1 hnj
              · exact (((hrec j hj).nw n hnj).2.2.2.2.2 i (by omega)).1 hni
        · unfold updB at hn
          cases hfb : findB (R i).ch n with
          | some o =>
            rw [hfb] at hn
            simp only [Option.getD_some] at hn
            subst hn
            exact .inr ⟨i, him, by simp [his], hfb⟩
          | none =>
            rw [hfb] at hn
            rcases k3 n B hn with h1 | ⟨j, hj, hjl, h1⟩
            · exact .inl h1
            · exact .inr ⟨j, hj, getD_set_true hjl, h1⟩
      unfold wpOp
      rw [ho']
      simp only
      obtain ⟨o2, ho2, hrun⟩ := hrc.run
      have : o2 = o' := Option.some.inj (ho2.symm.trans ho')
      subst this
      have guardVal : ∀ g w' e (b : Bool), o2.guard = some (g, w') → dstOf l.toArray g = some e → TM l.toArray m (look s.tl) R i e = .d (.v (.bool b)) → yielded l.toArray a.tmps g = some b := fun g w' e b h1 h2 h3 => by
        have h4 := hrel.tms e
        rw [looks e (.inr ⟨g, w', h1, h2⟩), h3] at h4
        have hval := rep_val h4
        have hlt : e < a.tmps.size := by
          rcases Nat.lt_or_ge e a.tmps.size with h | h
          · exact h
          · simp [Array.getElem?_eq_none h, undef] at hval
        unfold yielded
        have h5 : (l.toArray[g]?).bind (·.dst) = some e := h2
        rw [h5]
        have : a.tmps[e]? = some (.bool b) := by
          rw [Array.getElem?_eq_getElem hlt]
          simp [hlt] at hval
          simp [hval]
        simp [this]
      rcases hrun with ⟨hguard, hstep⟩ | ⟨⟨g, w1, h1, e, h2, h3⟩, hrv⟩
      · have hw : Region.wanted o2 (yielded l.toArray a.tmps) = true := by
          unfold Region.wanted
          split
          · rfl
          · rename_i g w1 hg1
            obtain ⟨e, h2, h3⟩ := hguard g w1 hg1
            rw [guardVal g w1 e w1 hg1 h2 h3]; simp
        rw [if_pos hw]
        refine .inl (Benign.wp ?_)
        have hfresh : ∀ n ∈ (R i).nw, bk n = none ∧ ∀ l' B, bk l' = some B → B.says n = false := fun n hn => by
          obtain ⟨f1, f2, f3, f4, f5, f6⟩ := hrc.nw n hn
          refine ⟨?_, fun l' B hB => ?_⟩
          · cases hb : bk n with
            | none => rfl
            | some B =>
              exfalso
              rcases k3 n B hb with h1 | ⟨j, hj, hjl, h1⟩
              · rw [f3] at h1; cases h1
              · have hnj := ((hrec j hj).ch n (some B) h1).2
                rcases Nat.lt_or_ge j i with h | h
                · exact (f6 j h).1 hnj
                · by_cases hji : j = i
                  · subst hji; rw [hli] at hjl; cases hjl
                  · exact (((hrec j hj).nw n hnj).2.2.2.2.2 i (by omega)).1 hn
          · rcases k3 l' B hB with h1 | ⟨j, hj, hjl, h1⟩
            · exact f4 l' B h1
            · rcases Nat.lt_or_ge j i with h | h
              · exact (f6 j h).2.2 l' B h1
              · cases hsay : B.says n with
                | false => rfl
                | true =>
                  by_cases hji : j = i
                  · subst hji; rw [hli] at hjl; cases hjl
                  · have := (hrec j hj).ment i (by omega) n hn (.inr ⟨l', B, h1, hsay⟩)
                    have := reach_listed inv 8 j i this hjl
                    rw [hli] at this; cases this
        have hops : ∀ x ∈ o2.op.operands.toList, Rep E w (evalF (TM l.toArray m (look s.tl) R i) x) (a.eval x) := fun x hx => by
          cases x with
          | tmp t =>
            have := hrel.tms t
            rw [looks t (.inl (List.mem_filterMap.2 ⟨.tmp t, hx, rfl⟩))] at this
            exact this
          | const v => exact rep_const E w v
          | func f => exact .clo f [] [] #[] #[] rfl rfl (fun i c v h => by simp at h) (fun i c v h => by simp at h)
          | global g => exact .any _
        have hb := hstep bk k1 hfresh E w a.eval hops hrel.bks
        exact hb.mono fun val w' ⟨E', hB', hv', hgr, hnm⟩ => next E' bk val w' hB' hv' hgr hnm
      · have hw : ¬ Region.wanted o2 (yielded l.toArray a.tmps) = true := by
          unfold Region.wanted
          rw [h1]
          simp only [guardVal g w1 e (!w1) h1 h2 h3]
          cases w1 <;> simp
        rw [if_neg hw]
        have hB' : Blks E w (updB (R i).ch bk) := by rw [hrv]; exact hrel.bks
        exact next E bk undef w hB' (by rw [hrv]; exact .any _) ⟨fun _ h => h, fun _ h => .inl h, fun _ _ => rfl, Ext.refl _ _⟩ (fun n g hn hg => by
          rw [hrv] at hn
          exact .inl ⟨n, hn, hg⟩)
  have hinit : unl m (Array.replicate l.toArray.size false) = m := by
    have : ∀ m, unl m (Array.replicate l.toArray.size false) = m := by
      intro m
      induction m with
      | zero => simp [unl]
      | succ m ih => rw [unl_succ, ih, getD_replicate_false]; simp
    exact this m
  have inv0 : HeadInv .any l.toArray m (Array.replicate l.toArray.size false) :=
    ⟨by simp, fun j oj _ hl => (by rw [getD_replicate_false] at hl; cases hl), fun t _ ht => getD_in (by simpa using ht) (getD_replicate_false _ _)⟩
  have := main m (Array.replicate l.toArray.size false) a { w with drawn := w.drawn + 1 } hinit inv0 ⟨E, lookB s.bl, ?_, fun n B h => h, fun j hj hjl => (by rw [getD_replicate_false] at hjl; cases hjl), fun n B h => .inl h⟩
  · rw [show m + (l.toArray.size - m) = l.toArray.size by omega] at this
    exact this
  · have hk : Keeps E E w { w with drawn := w.drawn + 1 } (fun _ => False) := ⟨fun _ h => h, fun _ _ _ => rfl, fun _ _ => rfl, fun _ _ => rfl⟩
    have hk' : Grow E E w { w with drawn := w.drawn + 1 } (lookB s.bl) (fun _ => False) := ⟨fun _ h => h, fun _ h => .inl h, fun _ _ => rfl, ⟨Nat.le_refl _, fun _ _ _ => rfl, fun _ _ => rfl, rfl, rfl, rfl⟩⟩
    have hB0 : Blks E { w with drawn := w.drawn + 1 } (lookB s.bl) := ⟨fun n B g h1 h2 => (hr.bks.rep n B g h1 h2).mono hk rfl (fun _ h => h.elim), hr.bks.unb, hr.bks.inj, hr.bks.apart, hr.bks.bound⟩
    have := RelF.put hr hk' hB0 (fun n g hn hg => .inl ⟨n, hn, hg⟩) (fun n h => h.elim) none (fun d h => by cases h) .any undef (.any _) (tmD l.toArray m (look s.tl) R (Array.replicate l.toArray.size false)) (fun t => ?_)
    · exact this
    · unfold tmD
      split
      · rw [getD_replicate_false]; exact .inr (.inl rfl)
      · exact .inr (.inr ⟨by simp, rfl, fun n h => h.elim⟩)

end Go.Proofs.Ytencghlmckbmlaa
