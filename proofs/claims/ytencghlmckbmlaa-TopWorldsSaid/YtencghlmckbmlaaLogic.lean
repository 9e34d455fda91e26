/- The logic's states, its judgement on code, the rules for control, and how one operation's law is lifted to states. -/
import Derived.Test.YtencghlmckbmlaaCore
set_option linter.unusedVariables false
set_option linter.unusedSimpArgs false
namespace Go.Proofs.Ytencghlmckbmlaa
open Go Go.RowKit

theorem natbeq_false {a b : Nat} (h : a ≠ b) : Nat.beq a b = false := by
  cases hb : Nat.beq a b with
  | true => exact absurd (Nat.eq_of_beq_eq_true hb) h
  | false => rfl

def look : List (Nat × AV) → Nat → AV
  | [], _ => .any
  | (u, v) :: r, t => bif Nat.beq u t then v else look r t

def lookB : List (Nat × Option Blk) → Nat → Option Blk
  | [], _ => none
  | (u, v) :: r, t => bif Nat.beq u t then v else lookB r t

structure St where
  tl : List (Nat × AV)
  bl : List (Nat × Option Blk)

/-- What stays fixed while a function runs: the frame's width, the names that were given and must stay, the blocks that may be turned, the world and the names at the start. -/
structure Ctx where
  N : Nat
  gl : List Nat
  X : Nat → Prop
  w0 : World
  E0 : Env

structure RelF (c : Ctx) (tm : Nat → AV) (bk : Bk) (E : Env) (a : Act) (w : World) : Prop where
  size : a.tmps.size = c.N
  defers : a.defers = []
  tms : ∀ t, Rep E w (tm t) (a.tmps.getD t undef)
  bks : Blks E w bk
  ext : Ext c.X c.w0 w
  names : ∀ n g, bk n ≠ none → E.blk n = some g → c.X g ∨ c.w0.heap.size ≤ g
  S : ∀ b, E.S b → c.E0.S b ∨ c.X b ∨ c.w0.heap.size ≤ b
  S0 : ∀ b, c.E0.S b → E.S b
  given : ∀ n, n ∈ c.gl → E.blk n = c.E0.blk n

def RelE (c : Ctx) (s : St) : Env → Act → World → Prop := RelF c (look s.tl) (lookB s.bl)

def lift (c : Ctx) (Q : Exit → St → Prop) (e : Exit) (a : Act) (w : World) : Prop := ∃ s E, RelE c s E a w ∧ Q e s

theorem lift_mono {c : Ctx} {Q Q' : Exit → St → Prop} (h : ∀ e s, Q e s → Q' e s) {e : Exit} {a : Act} {w : World} (hl : lift c Q e a w) : lift c Q' e a w :=
  let ⟨s, E, hr, hq⟩ := hl; ⟨s, E, hr, h e s hq⟩

def AWp (P : Program) (c : Ctx) (k : Code) (Q : Exit → St → Prop) (s : St) : Prop := ∀ E a w, RelE c s E a w → k.wp P (lift c Q) a w

def Ops (P : Program) (c : Ctx) (ops : Array Oper) (l : List Oper) (Q : Exit → St → Prop) (s : St) : Prop :=
  ∀ E a w, RelE c s E a w → wpList P ops (lift c Q) l a w

section control
variable {P : Program} {c : Ctx} {Q : Exit → St → Prop} {s : St}

def seqQ (P : Program) (c : Ctx) (y : Code) (Q : Exit → St → Prop) : Exit → St → Prop
  | .normal, s => AWp P c y Q s
  | e, s => Q e s

theorem awp_seq {x y : Code} (h : AWp P c x (seqQ P c y Q) s) : AWp P c (.seq x y) Q s := fun E a w hr =>
  wp_seq (wp_mono (h E a w hr) fun e a w ⟨s', E', hr', hq⟩ => by
    cases e with
    | normal => exact hq E' a w hr'
    | exit id => exact ⟨s', E', hr', hq⟩
    | goto l => exact ⟨s', E', hr', hq⟩
    | ret => exact ⟨s', E', hr', hq⟩
    | panic ch => exact ⟨s', E', hr', hq⟩
    | outgrown => exact ⟨s', E', hr', hq⟩)

theorem awp_skip (h : Q .normal s) : AWp P c .skip Q s := fun E a w hr => wp_skip ⟨s, E, hr, h⟩
theorem awp_exit {id : Nat} (h : Q (.exit id) s) : AWp P c (.exit id) Q s := fun E a w hr => wp_exit ⟨s, E, hr, h⟩
theorem awp_ret (h : Q .ret s) : AWp P c .ret Q s := fun E a w hr => wp_ret ⟨s, E, hr, h⟩

def blockQ (id : Nat) (Q : Exit → St → Prop) : Exit → St → Prop
  | .exit id', s => if id' = id then Q .normal s else Q (.exit id') s
  | e, s => Q e s

theorem awp_block {id : Nat} {x : Code} (h : AWp P c x (blockQ id Q) s) : AWp P c (.block id x) Q s := fun E a w hr =>
  wp_block (wp_mono (h E a w hr) fun e a w ⟨s', E', hr', hq⟩ => by
    cases e with
    | normal => exact ⟨s', E', hr', hq⟩
    | exit id' =>
      simp only [blockQ] at hq
      simp only [Exit.inBlock]
      split at hq
      · rename_i h; rw [if_pos h]; exact ⟨s', E', hr', hq⟩
      · rename_i h; rw [if_neg h]; exact ⟨s', E', hr', hq⟩
    | goto l => exact ⟨s', E', hr', hq⟩
    | ret => exact ⟨s', E', hr', hq⟩
    | panic ch => exact ⟨s', E', hr', hq⟩
    | outgrown => exact ⟨s', E', hr', hq⟩)

/-- s' says no more than s. -/
def SubT : List (Nat × AV) → List (Nat × AV) → Prop
  | [], _ => True
  | (t, v) :: r, l => look l t = v ∧ SubT r l

def SubB : List (Nat × Option Blk) → List (Nat × Option Blk) → Prop
  | [], _ => True
  | (n, B) :: r, l => lookB l n = B ∧ SubB r l

def Sub (s' s : St) : Prop := SubT s'.tl s.tl ∧ SubB s'.bl s.bl

theorem SubT.look {l' l : List (Nat × AV)} (h : SubT l' l) (t : Nat) : look l' t = .any ∨ look l' t = look l t := by
  induction l' with
  | nil => exact .inl rfl
  | cons p r ih =>
    obtain ⟨u, v⟩ := p
    obtain ⟨h1, h2⟩ := h
    have e : ∀ l : List (Nat × AV), Ytencghlmckbmlaa.look ((u, v) :: l) t = bif Nat.beq u t then v else Ytencghlmckbmlaa.look l t := fun _ => rfl
    rw [e]
    cases hb : Nat.beq u t with
    | true =>
      have : u = t := Nat.eq_of_beq_eq_true hb
      subst this
      right; rw [cond_true]; exact h1.symm
    | false => rw [cond_false]; exact ih h2

theorem SubB.look {l' l : List (Nat × Option Blk)} (h : SubB l' l) (t : Nat) (B : Blk) (hB : lookB l' t = some B) : lookB l t = some B := by
  induction l' with
  | nil => simp [lookB] at hB
  | cons p r ih =>
    obtain ⟨u, v⟩ := p
    obtain ⟨h1, h2⟩ := h
    simp only [lookB] at hB
    cases hb : Nat.beq u t with
    | true =>
      have : u = t := Nat.eq_of_beq_eq_true hb
      subst this
      rw [hb, cond_true] at hB
      rw [h1]; exact hB
    | false => rw [hb] at hB; exact ih h2 (by simpa using hB)

theorem Blks.sub {E : Env} {w : World} {bk bk' : Bk} (h : Blks E w bk) (hs : ∀ n B, bk' n = some B → bk n = some B) : Blks E w bk' := by
  have hn : ∀ n, bk' n ≠ none → bk n ≠ none := fun n hn => by
    cases hb : bk' n with
    | none => exact absurd hb hn
    | some B => rw [hs n B hb]; simp
  exact ⟨fun n B g hB => h.rep n B g (hs n B hB), fun n B hB => h.unb n B (hs n B hB), fun n m g hn' hm' e => h.inj n m g (hn n hn') (hn m hm') e, fun n g hn' => h.apart n g (hn n hn'), h.bound⟩

theorem RelF.sub {c : Ctx} {tm tm' : Nat → AV} {bk bk' : Bk} {E : Env} {a : Act} {w : World} (h : RelF c tm bk E a w) (ht : ∀ t, tm' t = .any ∨ tm' t = tm t)
    (hb : ∀ n B, bk' n = some B → bk n = some B) : RelF c tm' bk' E a w where
  size := h.size
  defers := h.defers
  tms := fun t => by
    rcases ht t with h' | h'
    · rw [h']; exact .any _
    · rw [h']; exact h.tms t
  bks := h.bks.sub hb
  ext := h.ext
  names := fun n g hn => h.names n g fun h0 => by
    cases hB : bk' n with
    | none => exact hn hB
    | some B => rw [hb n B hB] at h0; cases h0
  S := h.S
  S0 := h.S0
  given := h.given

theorem RelE.sub {s s' : St} {E : Env} {a : Act} {w : World} (h : RelE c s E a w) (hs : Sub s' s) : RelE c s' E a w :=
  RelF.sub h (fun t => hs.1.look t) (fun n B hB => hs.2.look n B hB)

/-- From s on one may reckon with s'. -/
def Turns (c : Ctx) (s s' : St) : Prop := ∀ E a w, RelE c s E a w → ∃ E', RelE c s' E' a w

theorem Turns.refl (c : Ctx) (s : St) : Turns c s s := fun E _ _ h => ⟨E, h⟩
theorem Turns.trans {c : Ctx} {s s' s'' : St} (h : Turns c s s') (h' : Turns c s' s'') : Turns c s s'' := fun E a w hr => let ⟨E', hr'⟩ := h E a w hr; h' E' a w hr'
theorem turn_sub {c : Ctx} {s s' : St} (h : Sub s' s) : Turns c s s' := fun E _ _ hr => ⟨E, hr.sub h⟩
theorem awp_turn {k : Code} {s' : St} (hs : Turns c s s') (h : AWp P c k Q s') : AWp P c k Q s := fun E a w hr => let ⟨E', hr'⟩ := hs E a w hr; h E' a w hr'
theorem ops_turn {ops : Array Oper} {l : List Oper} {s' : St} (hs : Turns c s s') (h : Ops P c ops l Q s') : Ops P c ops l Q s := fun E a w hr => let ⟨E', hr'⟩ := hs E a w hr; h E' a w hr'

theorem awp_sub {k : Code} {s' : St} (hs : Sub s' s) (h : AWp P c k Q s') : AWp P c k Q s := fun E a w hr => h E a w (hr.sub hs)

def loopQ {ι : Type} (c : Ctx) (inv : ι → St) (Pr : ι → Prop) (μ : ι → Nat) (n : Nat) (Q : Exit → St → Prop) : Exit → St → Prop
  | .normal, s => ∃ i, Pr i ∧ Turns c s (inv i) ∧ μ i < n
  | e, s => Q e s

theorem awp_loop {ι : Type} (inv : ι → St) (Pr : ι → Prop) (μ : ι → Nat) {body : Code} (i0 : ι) (h0 : Pr i0) (hs : Turns c s (inv i0))
    (round : ∀ i, Pr i → AWp P c body (loopQ c inv Pr μ (μ i) Q) (inv i)) : AWp P c (.loop body) Q s := by
  intro E a w hr
  let I : Act → World → Prop := fun a w => ∃ i E, Pr i ∧ RelE c (inv i) E a w
  have key : ∀ n, ∀ i E a w, μ i = n → Pr i → RelE c (inv i) E a w → ∀ (b : Frame) (k : List Item) (cs : List Frame),
      ∃ e a' w', lift c Q e a' w' ∧ Arrives P (lone (b.at a (.code body :: .inLoop body :: k)) cs w) b k cs e a' w' := by
    intro n
    induction n using Nat.strongRecOn with
    | _ n ih =>
      intro i E a w hn hP hrel b k cs
      obtain ⟨e, a₁, w₁, ⟨s₁, E₁, hr₁, hq⟩, harr⟩ := round i hP E a w hrel b (.inLoop body :: k) cs
      cases e with
      | normal =>
        obtain ⟨i', hP', hsub, hlt⟩ := hq
        obtain ⟨E₂, hr₂⟩ := hsub E₁ a₁ w₁ hr₁
        obtain ⟨e₂, a₂, w₂, hq₂, harr₂⟩ := ih (μ i') (hn ▸ hlt) i' E₂ a₁ w₁ rfl hP' hr₂ b k cs
        exact ⟨e₂, a₂, w₂, hq₂, .of_steps (Steps.trans harr (.one step_inLoop)) harr₂⟩
      | exit id => exact ⟨_, a₁, w₁, ⟨s₁, E₁, hr₁, hq⟩, .pass (x := .inLoop body) rfl (fun _ _ => .inl (by simp)) harr⟩
      | goto l => exact ⟨_, a₁, w₁, ⟨s₁, E₁, hr₁, hq⟩, .pass (x := .inLoop body) rfl (fun _ _ => .inl (by simp)) harr⟩
      | ret => exact ⟨_, a₁, w₁, ⟨s₁, E₁, hr₁, hq⟩, .pass (x := .inLoop body) rfl (fun _ _ => .inl (by simp)) harr⟩
      | panic ch => exact ⟨_, a₁, w₁, ⟨s₁, E₁, hr₁, hq⟩, .pass (x := .inLoop body) rfl (fun _ _ => .inl (by simp)) harr⟩
      | outgrown => exact ⟨_, a₁, w₁, ⟨s₁, E₁, hr₁, hq⟩, .pass (x := .inLoop body) rfl (fun _ _ => .inl (by simp)) harr⟩
  intro b k cs
  obtain ⟨E0, hr0⟩ := hs E a w hr
  obtain ⟨e, a', w', hq, harr⟩ := key _ i0 E0 a w rfl h0 hr0 b k cs
  exact ⟨e, a', w', hq, .of_steps (.one step_loop) harr⟩

/-- What an operand holds. -/
def constA : Value → AV
  | .slice none 0 0 => .nil
  | .agg _ | .tuple _ => .any
  | v => .d (.v v)

def evalA (s : St) : Operand → AV
  | .tmp t => look s.tl t
  | .const v => constA v
  | .func f => .clo f [] []
  | .global _ => .any

theorem rep_const (E : Env) (w : World) (v : Value) : Rep E w (constA v) v := by
  unfold constA
  split
  · exact .nil
  · exact .any _
  · exact .any _
  · rename_i h1 h2 h3
    refine .d (.v _ ?_)
    cases v <;> first | rfl | (exact absurd rfl (h2 _)) | (exact absurd rfl (h3 _))

theorem RelF.eval {bk : Bk} {E : Env} {a : Act} {w : World} {s : St} (h : RelF c (look s.tl) bk E a w) (x : Operand) : Rep E w (evalA s x) (a.eval x) := by
  cases x with
  | tmp t => exact h.tms t
  | const v => exact rep_const E w v
  | func f => exact .clo f [] [] #[] #[] rfl rfl (fun i c v h => by simp at h) (fun i c v h => by simp at h)
  | global g => exact .any _

theorem awp_cond {x y : Code} {o : Operand} {b : Bool} (hc : evalA s o = .d (.v (.bool b))) (ht : b = true → AWp P c x Q s) (hf : b = false → AWp P c y Q s) :
    AWp P c (.cond o x y) Q s := fun E a w hr => by
  have h := RelF.eval hr o
  rw [hc] at h
  cases h with
  | d h =>
    generalize he : a.eval o = u at h
    cases h with
    | v _ _ =>
      refine wp_cond_split he (fun hb => ?_) (fun hb => ?_)
      · exact ht hb E a w hr
      · exact hf hb E a w hr

theorem awp_region {id : Nat} {l : List Oper} (h : Ops P c l.toArray l Q s) : AWp P c (.region id l.toArray false) Q s :=
  fun E a w hr => wp_region_lit (h E a w hr)

theorem ops_nil {ops : Array Oper} (h : Q .normal s) : Ops P c ops [] Q s := fun E a w hr => wpList_nil ⟨s, E, hr, h⟩

end control

/-- One operation's run: a value, no value, or a call that returns. -/
def Benign (P : Program) (m : Sem Next) (w : World) (post : Value → World → Prop) : Prop :=
  match m.run P w with
  | .ok (.value v) w' => post v w'
  | .ok .skip w' => post undef w'
  | .ok (.enter f args) w' => Calls P f args w' fun e w'' => ∃ v, e = .returned v ∧ post v w''
  | _ => False

theorem Benign.mono {P : Program} {m : Sem Next} {w : World} {post post' : Value → World → Prop} (h : Benign P m w post) (hp : ∀ v w', post v w' → post' v w') :
    Benign P m w post' := by
  unfold Benign at *
  split at h
  · exact hp _ _ h
  · exact hp _ _ h
  · exact h.mono fun e w'' ⟨v, he, hv⟩ => ⟨v, he, hp _ _ hv⟩
  · exact h.elim

theorem Benign.wp {P : Program} {o : Oper} {a : Act} {w : World} {K : Act → World → Prop} {Q : Exit → Act → World → Prop}
    (h : Benign P (execOp a.eval o) w fun v w' => K (a.put o.dst v) w') : o.wp P a w K Q := by
  unfold Benign at h
  unfold Oper.wp
  generalize (execOp a.eval o).run P w = r at *
  cases r with
  | halt x w' => exact h.elim
  | ok n w' =>
    cases n <;> simp only [Oper.upon] at h ⊢ <;> first | exact h | exact h.elim | skip
    exact h.mono fun e w'' ⟨v, he, hv⟩ => by subst he; exact hv

/-- An operation's law: from operands that hold ρ and blocks bk it leaves v and blocks bk'; 'new': the names that it binds anew. -/
def OpSem (P : Program) (o : Oper) (ρ : Operand → AV) (bk bk' : Bk) (new : Nat → Prop) (v : AV) : Prop :=
  ∀ (E : Env) (w : World) (vals : Operand → Value), (∀ x ∈ o.op.operands.toList, Rep E w (ρ x) (vals x)) → Blks E w bk →
    Benign P (execOp vals o) w fun val w' => ∃ E', Blks E' w' bk' ∧ Rep E' w' v val ∧ Grow E E' w w' bk new ∧
      (∀ n g, bk' n ≠ none → E'.blk n = some g → (∃ m, bk m ≠ none ∧ E.blk m = some g) ∨ w.heap.size ≤ g)

def put (o : Option Tmp) (v : AV) (l : List (Nat × AV)) : List (Nat × AV) :=
  match o with
  | some d => (d, v) :: l
  | none => l

theorem getD_set (l : Array Value) (d t : Nat) (v u : Value) : (l.setIfInBounds d v).getD t u = if d = t ∧ t < l.size then v else l.getD t u := by
  rcases Nat.lt_or_ge t l.size with h | h
  · by_cases hd : d = t
    · subst hd; simp [h]
    · simp [hd, h, Array.getElem_setIfInBounds]
  · simp [Nat.not_lt.2 h, Array.getElem?_eq_none h]

theorem RelF.put {c : Ctx} {tm : Nat → AV} {bk bk' : Bk} {E E' : Env} {a : Act} {w w' : World} {new : Nat → Prop} (h : RelF c tm bk E a w)
    (hg : Grow E E' w w' bk new) (hb' : Blks E' w' bk') (hn : ∀ n g, bk' n ≠ none → E'.blk n = some g → (∃ m, bk m ≠ none ∧ E.blk m = some g) ∨ w.heap.size ≤ g)
    (hnew : ∀ n, new n → ¬ n ∈ c.gl) (dst : Option Tmp) (hd' : ∀ d, dst = some d → d < c.N) (v : AV) (val : Value) (hv : Rep E' w' v val) (tm' : Nat → AV)
    (ht : ∀ t, (dst = some t ∧ tm' t = v) ∨ tm' t = .any ∨ (dst ≠ some t ∧ tm' t = tm t ∧ ∀ n, new n → (tm t).says n = false)) : RelF c tm' bk' E' (a.put dst val) w' where
  size := by cases dst <;> simp [Act.put, h.size]
  defers := by cases dst <;> simp [Act.put, h.defers]
  tms := fun t => by
    rcases ht t with ⟨hd, h1⟩ | h1 | ⟨hd, h1, h2⟩
    · subst hd
      rw [h1]
      simp only [Act.put]
      rw [getD_set, if_pos ⟨rfl, h.size ▸ hd' t rfl⟩]
      exact hv
    · rw [h1]; exact .any _
    · rw [h1]
      have := (h.tms t).mono (hg.keeps h.bks) h2
      cases dst with
      | none => exact this
      | some d =>
        simp only [Act.put]
        rw [getD_set, if_neg (fun hh => hd (by rw [hh.1]))]
        exact this
  bks := hb'
  ext := h.ext.trans hg.ext fun b hb ⟨n, hn, e⟩ => by
    rcases h.names n b hn e with h' | h'
    · exact h'
    · exact absurd hb (Nat.not_lt.2 h')
  names := fun n g hn' hg' => by
    rcases hn n g hn' hg' with ⟨m, hm, e⟩ | h'
    · exact h.names m g hm e
    · exact .inr (Nat.le_trans h.ext.size h')
  S := fun b hb => by
    rcases hg.back b hb with h' | ⟨n, hn, he⟩ | h'
    · exact h.S b h'
    · exact .inr (h.names n b hn he)
    · exact .inr (.inr (Nat.le_trans h.ext.size h'))
  S0 := fun b hb => hg.S b (h.S0 b hb)
  given := fun n hG => by rw [hg.blk n fun hn => hnew n hn hG]; exact h.given n hG

end Go.Proofs.Ytencghlmckbmlaa
