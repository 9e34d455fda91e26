/- Steps: the laws of single operations over symbolic states, and their lifting to a region's list. -/
import Derived.Test.YtencghlmckbmlaaLogic
set_option linter.unusedVariables false
set_option linter.unusedSimpArgs false
namespace Go.Proofs.Ytencghlmckbmlaa
open Go Go.RowKit

def findB : List (Nat × Option Blk) → Nat → Option (Option Blk)
  | [], _ => none
  | (u, v) :: r, t => bif Nat.beq u t then some v else findB r t

def updB (ch : List (Nat × Option Blk)) (bk : Bk) : Bk := fun n => (findB ch n).getD (bk n)

theorem lookB_append (ch bl : List (Nat × Option Blk)) : lookB (ch ++ bl) = updB ch (lookB bl) := by
  funext n
  induction ch with
  | nil => rfl
  | cons p r ih =>
    obtain ⟨u, v⟩ := p
    have e : lookB ((u, v) :: r ++ bl) n = bif Nat.beq u n then v else lookB (r ++ bl) n := rfl
    rw [e]
    unfold updB at *
    simp only [findB]
    cases Nat.beq u n with
    | true => rfl
    | false => rw [cond_false, cond_false]; exact ih

theorem updB_nil (bk : Bk) : updB [] bk = bk := by funext n; rfl

/-- The law of one operation at operands ρ over at least the blocks bk0: it leaves v, the blocks named in ch are as ch says, 'nw' are new names. -/
def Step (P : Program) (o : Oper) (ρ : Operand → AV) (bk0 : Bk) (v : AV) (ch : List (Nat × Option Blk)) (nw : List Nat) : Prop :=
  ∀ bk : Bk, (∀ n B, bk0 n = some B → bk n = some B) → (∀ n ∈ nw, bk n = none ∧ ∀ m B, bk m = some B → B.says n = false) →
    OpSem P o ρ bk (updB ch bk) (· ∈ nw) v

theorem step_pure {P : Program} {o : Oper} {ρ : Operand → AV} {bk0 : Bk} {v : AV}
    (h : ∀ (E : Env) (w : World) (vals : Operand → Value) (bk : Bk), (∀ x ∈ o.op.operands.toList, Rep E w (ρ x) (vals x)) → Blks E w bk → (∀ n B, bk0 n = some B → bk n = some B) →
      ∃ val, (execOp vals o).run P w = .ok (.value val) w ∧ Rep E w v val) : Step P o ρ bk0 v [] [] := by
  intro bk hb _ E w vals hv hB
  obtain ⟨val, hr, hv'⟩ := h E w vals bk hv hB hb
  rw [updB_nil]
  unfold Benign
  rw [hr]
  exact ⟨E, hB, hv', ⟨fun _ h => h, fun _ h => .inl h, fun _ _ => rfl, Ext.refl _ _⟩, fun n g hn hg => .inl ⟨n, hn, hg⟩⟩

def freshT (n : Nat) (tl : List (Nat × AV)) : Bool := tl.all fun p => !p.2.says n
def freshBl (n : Nat) (bl : List (Nat × Option Blk)) : Bool := (lookB bl n).isNone && bl.all fun p => match p.2 with | some B => !B.says n | none => true
def freshes (c : List Nat) (nw : List Nat) (s : St) : Bool := nw.all fun n => freshT n s.tl && freshBl n s.bl && !c.contains n

theorem look_mem {tl : List (Nat × AV)} {t : Nat} : look tl t = .any ∨ ∃ u, (u, look tl t) ∈ tl := by
  induction tl with
  | nil => exact .inl rfl
  | cons p r ih =>
    obtain ⟨u, v⟩ := p
    have e : look ((u, v) :: r) t = bif Nat.beq u t then v else look r t := rfl
    rw [e]
    cases Nat.beq u t with
    | true => exact .inr ⟨u, List.mem_cons_self ..⟩
    | false =>
      rcases ih with h | ⟨u', h⟩
      · exact .inl h
      · exact .inr ⟨u', List.mem_cons_of_mem _ h⟩

theorem lookB_mem {bl : List (Nat × Option Blk)} {t : Nat} {B : Blk} (h : lookB bl t = some B) : ∃ u, (u, some B) ∈ bl := by
  induction bl with
  | nil => simp [lookB] at h
  | cons p r ih =>
    obtain ⟨u, v⟩ := p
    have e : lookB ((u, v) :: r) t = bif Nat.beq u t then v else lookB r t := rfl
    rw [e] at h
    cases hb : Nat.beq u t with
    | true => rw [hb, cond_true] at h; exact ⟨u, by rw [← h]; exact List.mem_cons_self ..⟩
    | false =>
      rw [hb, cond_false] at h
      obtain ⟨u', h'⟩ := ih h
      exact ⟨u', List.mem_cons_of_mem _ h'⟩

theorem freshT_look {n : Nat} {tl : List (Nat × AV)} (h : freshT n tl = true) (t : Nat) : (look tl t).says n = false := by
  rcases look_mem (tl := tl) (t := t) with h' | ⟨u, h'⟩
  · rw [h']; rfl
  · have := (List.all_eq_true.1 h) _ h'
    simpa using this

theorem freshBl_none {n : Nat} {bl : List (Nat × Option Blk)} (h : freshBl n bl = true) : lookB bl n = none := by
  simp only [freshBl, Bool.and_eq_true] at h
  simpa using h.1

theorem freshBl_says {n : Nat} {bl : List (Nat × Option Blk)} (h : freshBl n bl = true) {m : Nat} {B : Blk} (hB : lookB bl m = some B) : B.says n = false := by
  simp only [freshBl, Bool.and_eq_true] at h
  obtain ⟨u, hu⟩ := lookB_mem hB
  have := (List.all_eq_true.1 h.2) _ hu
  simpa using this

section
variable {P : Program} {c : Ctx} {Q : Exit → St → Prop} {tl : List (Nat × AV)} {bl : List (Nat × Option Blk)} {ops : Array Oper} {rest : List Oper}

def dstOk (N : Nat) : Option Tmp → Bool
  | some d => Nat.blt d N
  | none => true

theorem dstOk_lt {N : Nat} {o : Option Tmp} (h : dstOk N o = true) (d : Nat) (hd : o = some d) : d < N := by
  subst hd
  simpa [dstOk, Nat.blt_eq] using h

theorem put_look (dst : Option Tmp) (v : AV) (t : Nat) : (dst = some t ∧ look (put dst v tl) t = v) ∨ (dst ≠ some t ∧ look (put dst v tl) t = look tl t) := by
  cases dst with
  | none => exact .inr ⟨by simp, rfl⟩
  | some d =>
    have e : look (put (some d) v tl) t = bif Nat.beq d t then v else look tl t := rfl
    rw [e]
    by_cases h : d = t
    · subst h
      exact .inl ⟨rfl, by simp⟩
    · refine .inr ⟨by simpa using h, ?_⟩
      have : Nat.beq d t = false := natbeq_false h
      rw [this]; rfl

/-- One operation of a region that keeps its order. -/
theorem seq_step {o : Oper} {v : AV} {ch : List (Nat × Option Blk)} {nw : List Nat} (hs : Step P o (evalA ⟨tl, bl⟩) (lookB bl) v ch nw) (hg : o.guard = none)
    (hd : dstOk c.N o.dst = true) (hf : freshes c.gl nw ⟨tl, bl⟩ = true) (h : Ops P c ops rest Q ⟨put o.dst v tl, ch ++ bl⟩) : Ops P c ops (o :: rest) Q ⟨tl, bl⟩ := by
  intro E a w hr
  have hfr : ∀ n ∈ nw, freshT n tl = true ∧ freshBl n bl = true ∧ n ∉ c.gl := fun n hn => by
    have := (List.all_eq_true.1 hf) n hn
    simp only [Bool.and_eq_true, Bool.not_eq_true', List.contains_eq_mem, decide_eq_false_iff_not] at this
    exact ⟨this.1.1, this.1.2, this.2⟩
  refine wpList_plain hg fun K hK => Benign.wp ?_
  have := hs (lookB bl) (fun _ _ h => h) (fun n hn => ⟨freshBl_none (hfr n hn).2.1, fun m B hB => freshBl_says (hfr n hn).2.1 hB⟩) E w a.eval (fun x _ => RelF.eval (s := ⟨tl, bl⟩) hr x) hr.bks
  refine this.mono fun val w' ⟨E', hB', hv', hgr, hn⟩ => hK _ _ (h E' _ w' ?_)
  refine RelF.put hr hgr ?_ ?_ (fun n hn hG => (hfr n hn).2.2 hG) o.dst (dstOk_lt hd) v val hv' _ fun t => ?_
  · rw [lookB_append]; exact hB'
  · rw [lookB_append]; exact hn
  · rcases put_look (tl := tl) o.dst v t with ⟨h1, h2⟩ | ⟨h1, h2⟩
    · exact .inl ⟨h1, h2⟩
    · exact .inr (.inr ⟨h1, h2, fun n hn => freshT_look (hfr n hn).1 t⟩)

theorem seq_pure {o : Oper} {v : AV} (hs : Step P o (evalA ⟨tl, bl⟩) (lookB bl) v [] []) (hg : o.guard = none)
    (hd : dstOk c.N o.dst = true) (h : Ops P c ops rest Q ⟨put o.dst v tl, bl⟩) : Ops P c ops (o :: rest) Q ⟨tl, bl⟩ :=
  seq_step hs hg hd rfl h

/-- A guarded operation: its guard's outcome is known. -/
theorem seq_guard {dst : Option Tmp} {op : Op} {ty : TypeId} {pos : String} {after : Array Edge} {j : Nat} {want : Bool} {d : Tmp} {b : Bool}
    (hj : (ops[j]?).bind (·.dst) = some d) (hb : look tl d = .d (.v (.bool b)))
    (hy : b = want → Ops P c ops (⟨dst, op, ty, pos, after, none⟩ :: rest) Q ⟨(d, .d (.v (.bool want))) :: tl, bl⟩)
    (hn : b = !want → Ops P c ops rest Q ⟨put dst (.tup []) ((d, .d (.v (.bool (!want)))) :: tl), bl⟩) :
    Ops P c ops (⟨dst, op, ty, pos, after, some (j, want)⟩ :: rest) Q ⟨tl, bl⟩ := by
  intro E a w hr
  have hv := hr.tms d
  rw [hb] at hv
  have hval : a.tmps.getD d undef = .bool b := by
    cases hv with
    | d h => generalize a.tmps.getD d undef = u at h ⊢; cases h; rfl
  have hlt : d < a.tmps.size := by
    rcases Nat.lt_or_ge d a.tmps.size with h | h
    · exact h
    · simp [Array.getElem?_eq_none h, undef] at hval
  have hyl : yielded ops a.tmps j = some b := by
    unfold yielded
    rw [hj]
    have : a.tmps[d]? = some (.bool b) := by
      rw [Array.getElem?_eq_getElem hlt]
      simp [hlt] at hval
      simp [hval]
    simp [this]
  have hput : ∀ b' : Bool, b = b' → RelE c ⟨(d, .d (.v (.bool b'))) :: tl, bl⟩ E a w := fun b' e => by
    subst e
    refine { hr with tms := fun t => ?_ }
    have e : look ((d, AV.d (.v (.bool b))) :: tl) t = bif Nat.beq d t then AV.d (.v (.bool b)) else look tl t := rfl
    rw [e]
    by_cases h : d = t
    · subst h; simp only [Nat.beq_refl, cond_true]; rw [hval]; exact .d (.v _ rfl)
    · have : Nat.beq d t = false := natbeq_false h
      rw [this, cond_false]; exact hr.tms t
  unfold wpList
  by_cases hbw : b = want
  · have hw : Region.wanted (⟨dst, op, ty, pos, after, some (j, want)⟩ : Oper) (yielded ops a.tmps) = true := by simp [Region.wanted, hyl, hbw]
    rw [if_pos hw]
    have := hy hbw E a w (hput want hbw)
    unfold wpList at this
    rw [if_pos (by rfl)] at this
    exact this
  · have hw : ¬ Region.wanted (⟨dst, op, ty, pos, after, some (j, want)⟩ : Oper) (yielded ops a.tmps) = true := by simp [Region.wanted, hyl, hbw]
    rw [if_neg hw]
    have hb' : b = !want := by cases b <;> cases want <;> simp_all
    have hr' := hput (!want) hb'
    refine hn hb' E _ w ?_
    have := hr'
    cases dst with
    | none => exact hr'
    | some d' =>
      refine { hr' with size := by simp [Act.put, hr'.size], defers := by simp [Act.put, hr'.defers], tms := fun t => ?_ }
      have e : look (put (some d') (AV.tup []) ((d, AV.d (.v (.bool (!want)))) :: tl)) t = bif Nat.beq d' t then AV.tup [] else look ((d, AV.d (.v (.bool (!want)))) :: tl) t := rfl
      rw [e]
      by_cases h : d' = t
      · subst h; simp only [Nat.beq_refl, cond_true, Act.put]
        rw [getD_set]
        split
        · exact .tup [] _ rfl (fun i c v h => by simp at h)
        · rename_i hn
          have : a.tmps.getD d' undef = undef := by
            rcases Nat.lt_or_ge d' a.tmps.size with h | h
            · exact absurd ⟨rfl, h⟩ hn
            · simp [Array.getElem?_eq_none h]
          rw [this]; exact .tup [] _ rfl (fun i c v h => by simp at h)
      · have : Nat.beq d' t = false := natbeq_false h
        rw [this, cond_false]
        simp only [Act.put]
        rw [getD_set, if_neg (fun hh => h hh.1)]
        exact hr'.tms t

/-- A guarded operation whose guard was itself left out. -/
theorem seq_guard_out {dst : Option Tmp} {op : Op} {ty : TypeId} {pos : String} {after : Array Edge} {j : Nat} {want : Bool} {d : Tmp}
    (hj : (ops[j]?).bind (·.dst) = some d) (hb : look tl d = .tup [])
    (hn : Ops P c ops rest Q ⟨put dst (.tup []) tl, bl⟩) :
    Ops P c ops (⟨dst, op, ty, pos, after, some (j, want)⟩ :: rest) Q ⟨tl, bl⟩ := by
  intro E a w hr
  have hv := hr.tms d
  rw [hb] at hv
  have hyl : yielded ops a.tmps j = none := by
    unfold yielded
    rw [hj]
    rcases Nat.lt_or_ge d a.tmps.size with h | h
    · generalize hu : a.tmps.getD d undef = u at hv
      cases hv with
      | tup _ arr =>
        have : a.tmps[d]? = some (.tuple arr) := by
          rw [Array.getElem?_eq_getElem h]
          simp [h] at hu
          simp [hu]
        simp [this]
    · simp [Array.getElem?_eq_none h]
  unfold wpList
  have hw : ¬ Region.wanted (⟨dst, op, ty, pos, after, some (j, want)⟩ : Oper) (yielded ops a.tmps) = true := by simp [Region.wanted, hyl]
  rw [if_neg hw]
  refine hn E _ w ?_
  cases dst with
  | none => exact hr
  | some d' =>
    refine { hr with size := by simp [Act.put, hr.size], defers := by simp [Act.put, hr.defers], tms := fun t => ?_ }
    have e : look (put (some d') (AV.tup []) tl) t = bif Nat.beq d' t then AV.tup [] else look tl t := rfl
    rw [e]
    by_cases h : d' = t
    · subst h; simp only [Nat.beq_refl, cond_true, Act.put]
      rw [getD_set]
      split
      · exact .tup [] _ rfl (fun i c v h => by simp at h)
      · rename_i hn
        have : a.tmps.getD d' undef = undef := by
          rcases Nat.lt_or_ge d' a.tmps.size with h | h
          · exact absurd ⟨rfl, h⟩ hn
          · simp [Array.getElem?_eq_none h]
        rw [this]; exact .tup [] _ rfl (fun i c v h => by simp at h)
    · have : Nat.beq d' t = false := natbeq_false h
      rw [this, cond_false]
      simp only [Act.put]
      rw [getD_set, if_neg (fun hh => h hh.1)]
      exact hr.tms t
end

end Go.Proofs.Ytencghlmckbmlaa
