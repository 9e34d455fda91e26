/- The steps in the forms in which they are taken, one operation after the other. -/
import Derived.Test.YtencghlmckbmlaaTab
set_option linter.unusedVariables false
set_option linter.unusedSimpArgs false
set_option maxRecDepth 100000
namespace Go.Proofs.Ytencghlmckbmlaa
open Go Go.RowKit

section
variable {P : Program} {c : Ctx} {Q : Exit → St → Prop} {tl : List (Nat × AV)} {bl : List (Nat × Option Blk)} {ops : Array Oper} {rest : List Oper}
  {d : Nat} {op : Op} {ty : TypeId} {pos : String} {after : Array Edge}

theorem seqP {v : AV} (hs : Step P ⟨some d, op, ty, pos, after, none⟩ (evalA ⟨tl, bl⟩) (lookB bl) v [] []) (hd : Nat.blt d c.N = true)
    (h : Ops P c ops rest Q ⟨(d, v) :: tl, bl⟩) : Ops P c ops (⟨some d, op, ty, pos, after, none⟩ :: rest) Q ⟨tl, bl⟩ :=
  seq_pure hs rfl hd h

theorem seq1 {v : AV} {n : Nat} {B : Option Blk} {nw : List Nat} (hs : Step P ⟨some d, op, ty, pos, after, none⟩ (evalA ⟨tl, bl⟩) (lookB bl) v [(n, B)] nw) (hd : Nat.blt d c.N = true)
    (hf : freshes c.gl nw ⟨tl, bl⟩ = true) (h : Ops P c ops rest Q ⟨(d, v) :: tl, (n, B) :: bl⟩) : Ops P c ops (⟨some d, op, ty, pos, after, none⟩ :: rest) Q ⟨tl, bl⟩ :=
  seq_step hs rfl hd hf h

theorem seq2 {v : AV} {n m : Nat} {B B' : Option Blk} {nw : List Nat} (hs : Step P ⟨some d, op, ty, pos, after, none⟩ (evalA ⟨tl, bl⟩) (lookB bl) v [(n, B), (m, B')] nw) (hd : Nat.blt d c.N = true)
    (hf : freshes c.gl nw ⟨tl, bl⟩ = true) (h : Ops P c ops rest Q ⟨(d, v) :: tl, (n, B) :: (m, B') :: bl⟩) : Ops P c ops (⟨some d, op, ty, pos, after, none⟩ :: rest) Q ⟨tl, bl⟩ :=
  seq_step hs rfl hd hf h

theorem seq3 {v : AV} {n m l : Nat} {B B' B'' : Option Blk} {nw : List Nat} (hs : Step P ⟨some d, op, ty, pos, after, none⟩ (evalA ⟨tl, bl⟩) (lookB bl) v [(n, B), (m, B'), (l, B'')] nw) (hd : Nat.blt d c.N = true)
    (hf : freshes c.gl nw ⟨tl, bl⟩ = true) (h : Ops P c ops rest Q ⟨(d, v) :: tl, (n, B) :: (m, B') :: (l, B'') :: bl⟩) : Ops P c ops (⟨some d, op, ty, pos, after, none⟩ :: rest) Q ⟨tl, bl⟩ :=
  seq_step hs rfl hd hf h

theorem seq0 {v : AV} {n : Nat} {B : Option Blk} (hs : Step P ⟨none, op, ty, pos, after, none⟩ (evalA ⟨tl, bl⟩) (lookB bl) v [(n, B)] [])
    (h : Ops P c ops rest Q ⟨tl, (n, B) :: bl⟩) : Ops P c ops (⟨none, op, ty, pos, after, none⟩ :: rest) Q ⟨tl, bl⟩ :=
  seq_step hs rfl rfl rfl h

theorem seqG {j : Nat} {want : Bool} {e : Tmp} {b : Bool}
    (hj : (ops[j]?).bind (·.dst) = some e) (hb : look tl e = .d (.v (.bool b)))
    (hy : b = want → Ops P c ops (⟨some d, op, ty, pos, after, none⟩ :: rest) Q ⟨(e, .d (.v (.bool want))) :: tl, bl⟩)
    (hn : b = !want → Ops P c ops rest Q ⟨(d, .tup []) :: (e, .d (.v (.bool (!want)))) :: tl, bl⟩) :
    Ops P c ops (⟨some d, op, ty, pos, after, some (j, want)⟩ :: rest) Q ⟨tl, bl⟩ := seq_guard hj hb hy hn

/-- The guard's outcome is known. -/
theorem seqGy {j : Nat} {want : Bool} {e : Tmp} (hj : (ops[j]?).bind (·.dst) = some e) (hb : look tl e = .d (.v (.bool want)))
    (hy : Ops P c ops (⟨some d, op, ty, pos, after, none⟩ :: rest) Q ⟨tl, bl⟩) :
    Ops P c ops (⟨some d, op, ty, pos, after, some (j, want)⟩ :: rest) Q ⟨tl, bl⟩ := seq_guard hj hb
  (fun _ => ops_turn (s' := ⟨tl, bl⟩) (fun E a w hr => ⟨E, RelF.sub (tm' := look tl) (bk' := lookB bl) hr (fun t => by
    show _ ∨ look tl t = look ((e, AV.d (.v (.bool want))) :: tl) t
    have e' : look ((e, AV.d (.v (.bool want))) :: tl) t = bif Nat.beq e t then AV.d (.v (.bool want)) else look tl t := rfl
    by_cases h : e = t
    · subst h; right; rw [e']; simp [hb]
    · right; rw [e', natbeq_false h]; rfl) (fun n B h => h)⟩) hy) (fun h => by cases want <;> cases h)

theorem seqGn {j : Nat} {want : Bool} {e : Tmp} (hj : (ops[j]?).bind (·.dst) = some e) (hb : look tl e = .d (.v (.bool (!want))))
    (hn : Ops P c ops rest Q ⟨(d, .tup []) :: tl, bl⟩) :
    Ops P c ops (⟨some d, op, ty, pos, after, some (j, want)⟩ :: rest) Q ⟨tl, bl⟩ := seq_guard hj hb
  (fun h => by cases want <;> cases h) (fun _ => ops_turn (s' := ⟨(d, .tup []) :: tl, bl⟩) (fun E a w hr => ⟨E, RelF.sub (tm' := look ((d, .tup []) :: tl)) (bk' := lookB bl) hr (fun t => by
    right
    by_cases h0 : d = t
    · subst h0; simp [look, put]
    · have e1 : look ((d, AV.tup []) :: tl) t = look tl t := by simp [look, natbeq_false h0]
      have e2 : look (put (some d) (AV.tup []) ((e, AV.d (.v (.bool (!want)))) :: tl)) t = bif Nat.beq e t then AV.d (.v (.bool (!want))) else look tl t := by simp [put, look, natbeq_false h0]
      show look ((d, AV.tup []) :: tl) t = look (put (some d) (AV.tup []) ((e, AV.d (.v (.bool (!want)))) :: tl)) t
      rw [e1, e2]
      by_cases h : e = t
      · subst h; simp [hb]
      · simp [natbeq_false h]) (fun n B h => h)⟩) hn)

theorem seqGo {j : Nat} {want : Bool} {e : Tmp} (hj : (ops[j]?).bind (·.dst) = some e) (hb : look tl e = .tup [])
    (hn : Ops P c ops rest Q ⟨(d, .tup []) :: tl, bl⟩) :
    Ops P c ops (⟨some d, op, ty, pos, after, some (j, want)⟩ :: rest) Q ⟨tl, bl⟩ := seq_guard_out hj hb hn

/-- What a state says beyond another's. -/
def Beyond : List (Nat × AV) → List (Nat × AV) → Prop
  | [], _ => True
  | (t, v) :: r, l => (look l t = .any ∨ look l t = v) ∧ Beyond r l

theorem turn_drop {c : Ctx} {d : Nat} {v : AV} : ∀ (e : List (Nat × AV)) {tl : List (Nat × AV)} {bl : List (Nat × Option Blk)}, Beyond e tl → Turns c ⟨(d, v) :: (e ++ tl), bl⟩ ⟨(d, v) :: tl, bl⟩ :=
  fun e tl bl h E a w hr => ⟨E, RelF.sub (tm' := look ((d, v) :: tl)) (bk' := lookB bl) hr (fun t => by
    have key : ∀ (e : List (Nat × AV)), Beyond e tl → look tl t = .any ∨ look tl t = look (e ++ tl) t := fun e => by
      induction e with
      | nil => exact fun _ => .inr rfl
      | cons p r ih =>
        obtain ⟨u, x⟩ := p
        intro ⟨h1, h2⟩
        have e' : look ((u, x) :: r ++ tl) t = bif Nat.beq u t then x else look (r ++ tl) t := rfl
        rw [e']
        cases hb : Nat.beq u t with
        | true => have := Nat.eq_of_beq_eq_true hb; subst this; rw [cond_true]; exact h1
        | false => rw [cond_false]; exact ih h2
    have e1 : ∀ l, look ((d, v) :: l) t = bif Nat.beq d t then v else look l t := fun _ => rfl
    show look ((d, v) :: tl) t = .any ∨ look ((d, v) :: tl) t = look ((d, v) :: (e ++ tl)) t
    rw [e1, e1]
    cases Nat.beq d t with
    | true => exact .inr rfl
    | false => exact key e h) (fun n B h => h)⟩

def BeyondN : Nat → List (Nat × AV) → List (Nat × AV) → Prop
  | 0, ex, l => ex = l
  | _ + 1, [], _ => False
  | n + 1, (t, v) :: r, l => (look l t = .any ∨ look l t = v) ∧ BeyondN n r l

theorem beyondN_spec : ∀ (n : Nat) (ex l : List (Nat × AV)), BeyondN n ex l → ∃ e, ex = e ++ l ∧ Beyond e l
  | 0, ex, l, h => ⟨[], h, trivial⟩
  | n + 1, [], l, h => h.elim
  | n + 1, (t, v) :: r, l, h => by
    obtain ⟨e, he, hb⟩ := beyondN_spec n r l h.2
    exact ⟨(t, v) :: e, by rw [he]; rfl, h.1, hb⟩

/-- A run of guarded operations and the choice behind it: both ways come to one state. -/
theorem seqM (k : Nat) {j : Nat} {want : Bool} {e g : Tmp} {b x : Bool}
    (hj : (ops[j]?).bind (·.dst) = some e) (hb : look tl e = .d (.v (.bool b)))
    (hy : ∀ Q : Exit → St → Prop, b = want → (∀ n ex, BeyondN n ex tl → Ops P c ops (rest.drop k) Q ⟨(g, .d (.v (.bool x))) :: ex, bl⟩) → Ops P c ops (⟨some d, op, ty, pos, after, none⟩ :: rest) Q ⟨(e, .d (.v (.bool want))) :: tl, bl⟩)
    (hn : ∀ Q : Exit → St → Prop, b = !want → (∀ n ex, BeyondN n ex tl → Ops P c ops (rest.drop k) Q ⟨(g, .d (.v (.bool (!want)))) :: ex, bl⟩) → Ops P c ops rest Q ⟨(d, .tup []) :: (e, .d (.v (.bool (!want)))) :: tl, bl⟩)
    (h : Ops P c ops (rest.drop k) Q ⟨(g, .d (.v (.bool (bif b == want then x else !want)))) :: tl, bl⟩) :
    Ops P c ops (⟨some d, op, ty, pos, after, some (j, want)⟩ :: rest) Q ⟨tl, bl⟩ := by
  refine seqG hj hb (fun h0 => hy Q h0 fun n ex hex => ?_) (fun h0 => hn Q h0 fun n ex hex => ?_)
  · obtain ⟨e', he, hb'⟩ := beyondN_spec n ex tl hex
    subst he
    refine ops_turn (turn_drop e' hb') ?_
    subst h0; simpa using h
  · obtain ⟨e', he, hb'⟩ := beyondN_spec n ex tl hex
    subst he
    refine ops_turn (turn_drop e' hb') ?_
    subst h0; cases want <;> simpa using h
end

theorem wrap_i64 {n : Int} (h : -9223372036854775808 ≤ n ∧ n ≤ 9223372036854775807) : IntKind.i64.wrap n = n := by
  unfold IntKind.wrap
  simp only [show IntKind.i64.bits = 64 from rfl, show IntKind.i64.signed = true from rfl, Int.reducePow, Nat.reduceSub, Bool.true_and, decide_eq_true_eq]
  split <;> omega

theorem tmod_nn {a b : Int} (h : 0 ≤ a) : a.tmod b = a % b := Int.tmod_eq_emod_of_nonneg h

/-! ### forms whose results are reckoned at once -/

def lookO : List (Nat × AV) → Nat → Option AV
  | [], _ => none
  | (u, v) :: r, t => bif Nat.beq u t then some v else lookO r t

theorem lookO_look {l : List (Nat × AV)} {t : Nat} {v : AV} (h : lookO l t = some v) : look l t = v := by
  induction l with
  | nil => cases h
  | cons p r ih =>
    obtain ⟨u, x⟩ := p
    have e : lookO ((u, x) :: r) t = bif Nat.beq u t then some x else lookO r t := rfl
    have e' : look ((u, x) :: r) t = bif Nat.beq u t then x else look r t := rfl
    rw [e] at h
    rw [e']
    cases hb : Nat.beq u t with
    | true => rw [hb, cond_true] at h; injection h
    | false => rw [hb, cond_false] at h; exact ih h

def constO : Value → Option AV
  | .int k n => some (.d (.v (.int k n)))
  | .bool b => some (.d (.v (.bool b)))
  | .slice none 0 0 => some .nil
  | .string s => some (.d (.v (.string s)))
  | .pointer none => some (.d (.v (.pointer none)))
  | .nilFunc => some (.d (.v .nilFunc))
  | _ => none

def evalO (s : St) : Operand → Option AV
  | .tmp t => lookO s.tl t
  | .const v => constO v
  | .func f => some (.clo f [] [])
  | .global _ => none

theorem ev {s : St} {x : Operand} {v : AV} (h : evalO s x = some v) : evalA s x = v := by
  cases x with
  | tmp t => exact lookO_look h
  | func f => simp only [evalO] at h; injection h
  | global g => cases h
  | const u =>
    simp only [evalO] at h
    simp only [evalA]
    unfold constO at h
    split at h <;> first | (cases h; simp [constA]; done) | (cases h; done)

def sliceO {α : Type} : List α → Nat → Nat → Option (List α)
  | _, 0, 0 => some []
  | [], 0, _ + 1 => none
  | c :: r, 0, n + 1 => match sliceO r 0 n with
    | some l => some (c :: l)
    | none => none
  | [], _ + 1, 0 => some []
  | [], _ + 1, _ + 1 => none
  | _ :: r, o + 1, n => sliceO r o n

theorem sliceO_spec {α : Type} : ∀ (cs : List α) (o n : Nat) (l : List α), sliceO cs o n = some l → (cs.drop o).take n = l ∧ (n = 0 ∨ o + n ≤ cs.length)
  | [], 0, 0, l, h => by simp [sliceO] at h; exact ⟨by simp [h], .inl rfl⟩
  | _ :: _, 0, 0, l, h => by simp [sliceO] at h; exact ⟨by simp [h], .inl rfl⟩
  | [], 0, _ + 1, l, h => by simp [sliceO] at h
  | c :: r, 0, n + 1, l, h => by
    simp only [sliceO] at h
    split at h
    · rename_i l' hl
      obtain ⟨h1, h2⟩ := sliceO_spec r 0 n l' hl
      injection h with h; subst h
      simp at h1
      exact ⟨by simp [h1], .inr (by simp; rcases h2 with h2 | h2 <;> omega)⟩
    · cases h
  | [], o + 1, 0, l, h => by simp [sliceO] at h; exact ⟨by simp [h], .inl rfl⟩
  | [], o + 1, n + 1, l, h => by simp [sliceO] at h
  | c :: r, o + 1, n, l, h => by
    have h' : sliceO r o n = some l := by
      cases n <;> simpa [sliceO] using h
    obtain ⟨h1, h2⟩ := sliceO_spec r o n l h'
    exact ⟨by simpa using h1, h2.imp id (fun h => by simp; omega)⟩

def setO {α : Type} : List α → Nat → List α → Option (List α)
  | cs, 0, [] => some cs
  | [], 0, _ :: _ => none
  | _ :: r, 0, v :: vs => match setO r 0 vs with
    | some l => some (v :: l)
    | none => none
  | [], _ + 1, _ => none
  | c :: r, o + 1, vs => match setO r o vs with
    | some l => some (c :: l)
    | none => none

theorem setO_spec {α : Type} : ∀ (cs : List α) (o : Nat) (vs l : List α), setO cs o vs = some l → setAt cs o vs = l ∧ o + vs.length ≤ cs.length
  | cs, 0, [], l, h => by simp [setO] at h; exact ⟨by simp [setAt, h], by simp⟩
  | [], 0, _ :: _, l, h => by simp [setO] at h
  | c :: r, 0, v :: vs, l, h => by
    simp only [setO] at h
    split at h
    · rename_i l' hl
      obtain ⟨h1, h2⟩ := setO_spec r 0 vs l' hl
      injection h with h; subst h
      refine ⟨?_, by simp at h2 ⊢; omega⟩
      simp [setAt] at h1 ⊢; exact h1
    · cases h
  | [], o + 1, vs, l, h => by simp [setO] at h
  | c :: r, o + 1, vs, l, h => by
    have h' : (match setO r o vs with
      | some l => some (c :: l)
      | none => none) = some l := by cases vs <;> simpa [setO] using h
    split at h'
    · rename_i l' hl
      obtain ⟨h1, h2⟩ := setO_spec r o vs l' hl
      injection h' with h'; subst h'
      refine ⟨?_, by simp; omega⟩
      simp [setAt, Nat.add_right_comm o 1] at h1 ⊢; exact h1
    · cases h'

def mapO {α β : Type} (f : α → Option β) : List α → Option (List β)
  | [] => some []
  | a :: r => match f a, mapO f r with
    | some b, some l => some (b :: l)
    | _, _ => none

theorem mapO_spec {α β : Type} {f : α → Option β} {g : α → β} (hfg : ∀ a b, f a = some b → g a = b) : ∀ (l : List α) (l' : List β), mapO f l = some l' → l.map g = l'
  | [], l', h => by simp [mapO] at h; simp [h]
  | a :: r, l', h => by
    simp only [mapO] at h
    split at h
    · rename_i b l1 h1 h2
      injection h with h; subst h
      simp [hfg a b h1, mapO_spec hfg r l1 h2]
    · cases h

def fillO (pl : List (Nat × Nat)) (cs : List AV) : List (Nat × AV) → Option (List AV)
  | [] => some cs
  | (i, v) :: rest => match pl[i]?, cellsA v with
    | some (off, size), some vs => match setO cs off vs with
      | some cs' => bif Nat.beq vs.length size then fillO pl cs' rest else none
      | none => none
    | _, _ => none

theorem fillO_spec {pl : List (Nat × Nat)} : ∀ (ps : List (Nat × AV)) (cs l : List AV), fillO pl cs ps = some l → fillA (fun i => pl[i]?) cs ps = some l
  | [], cs, l, h => by simpa [fillO, fillA] using h
  | (i, v) :: ps, cs, l, h => by
    simp only [fillO] at h
    split at h
    · rename_i off size vs h1 h2
      split at h
      · rename_i cs' hs
        obtain ⟨h3, h4⟩ := setO_spec _ _ _ _ hs
        cases hb : Nat.beq vs.length size with
        | true =>
          rw [hb, cond_true] at h
          have h5 := Nat.eq_of_beq_eq_true hb
          simp only [fillA, h1, h2]
          rw [if_neg (by omega), h3]
          exact fillO_spec ps cs' l h
        | false => rw [hb] at h; cases h
      · cases h
    · cases h

def argO : Nat → List AV → Option (List (Nat × AV))
  | _, [] => some []
  | i, a :: r => match argO (i + 1) r with
    | some l => some ((i, a) :: l)
    | none => none

theorem argO_spec : ∀ (l : List AV) (i : Nat) (tl : List (Nat × AV)), argO i l = some tl → argT i l = tl
  | [], i, tl, h => by simp [argO] at h; simp [argT, h]
  | a :: r, i, tl, h => by
    simp only [argO] at h
    split at h
    · rename_i l' hl
      injection h with h; subst h
      simp [argT, argO_spec r (i + 1) l' hl]
    · cases h

section
variable {P : Program} {s : St} {bk0 : Bk} {dst : Option Tmp} {ty : TypeId} {pos : String} {after : Array Edge} {gd : Option (Nat × Bool)}

theorem moveT {x : Operand} {v : AV} (hx : evalO s x = some v) : Step P ⟨dst, .move x, ty, pos, after, gd⟩ (evalA s) bk0 v [] [] := step_move (ev hx)
theorem assignT {x : Operand} {v : AV} (hx : evalO s x = some v) : Step P ⟨dst, .assign x, ty, pos, after, gd⟩ (evalA s) bk0 v [] [] := step_assign (ev hx)
theorem pickYT {x a b : Operand} {v : AV} (hc : evalO s x = some (.d (.v (.bool true)))) (hx : evalO s a = some v) : Step P ⟨dst, .pick x a b, ty, pos, after, gd⟩ (evalA s) bk0 v [] [] :=
  step_pick_true (ev hc) (ev hx)
theorem pickNT {x a b : Operand} {v : AV} (hc : evalO s x = some (.d (.v (.bool false)))) (hx : evalO s b = some v) : Step P ⟨dst, .pick x a b, ty, pos, after, gd⟩ (evalA s) bk0 v [] [] :=
  step_pick_false (ev hc) (ev hx)
theorem extractT {x : Operand} {i : Nat} {vs : List AV} {v : AV} (hx : evalO s x = some (.tup vs)) (hi : vs[i]? = some v) : Step P ⟨dst, .extract x i, ty, pos, after, gd⟩ (evalA s) bk0 v [] [] :=
  step_extract (ev hx) hi
theorem nilPT {x : Operand} {b i k o : Nat} (hx : evalO s x = some (.ptr b i k o)) : Step P ⟨dst, .nilCheck x, ty, pos, after, gd⟩ (evalA s) bk0 (.ptr b i k o) [] [] := step_nilCheck_ptr (ev hx)
theorem nilRT {x : Operand} {r : List D} (hx : evalO s x = some (.rop r)) : Step P ⟨dst, .nilCheck x, ty, pos, after, gd⟩ (evalA s) bk0 (.rop r) [] [] := step_nilCheck_rop (ev hx)
theorem intTT {op : BinOp} {t t' : TypeId} {x y : Operand} {k : IntKind} {a b : Int} {v : Value} (hx : evalO s x = some (.d (.v (.int k a)))) (hy : evalO s y = some (.d (.v (.int k b))))
    (hr : intV op k a b = some v) : Step P ⟨dst, .binOp op t x y t', ty, pos, after, gd⟩ (evalA s) bk0 (.d (.v v)) [] [] := step_int (ev hx) (ev hy) hr
theorem intnT {op : BinOp} {t t' : TypeId} {x y : Operand} {k : IntKind} {a b z n : Int} (hx : evalO s x = some (.d (.v (.int k a)))) (hy : evalO s y = some (.d (.v (.int k b))))
    (hr : intV op k a b = some (.int k n)) (hz : n = z) : Step P ⟨dst, .binOp op t x y t', ty, pos, after, gd⟩ (evalA s) bk0 (.d (.v (.int k z))) [] [] := step_intn (ev hx) (ev hy) hr hz
/-- '/' and '%' by a number that is not 0. -/
theorem remT {t t' : TypeId} {x y : Operand} {k : IntKind} {a b z : Int} (hx : evalO s x = some (.d (.v (.int k a)))) (hy : evalO s y = some (.d (.v (.int k b)))) (h0 : b ≠ 0) (hz : a.tmod b = z) :
    Step P ⟨dst, .binOp .rem t x y t', ty, pos, after, gd⟩ (evalA s) bk0 (.d (.v (.int k z))) [] [] := step_int (ev hx) (ev hy) (by simp [intV, h0, hz])
theorem quoT {t t' : TypeId} {x y : Operand} {k : IntKind} {a b z : Int} (hx : evalO s x = some (.d (.v (.int k a)))) (hy : evalO s y = some (.d (.v (.int k b)))) (h0 : b ≠ 0) (hz : k.wrap (a.tdiv b) = z) :
    Step P ⟨dst, .binOp .quo t x y t', ty, pos, after, gd⟩ (evalA s) bk0 (.d (.v (.int k z))) [] [] := step_int (ev hx) (ev hy) (by simp [intV, h0, hz])
theorem notT {t : TypeId} {x : Operand} {a : Bool} (hx : evalO s x = some (.d (.v (.bool a)))) : Step P ⟨dst, .unOp .not t x, ty, pos, after, gd⟩ (evalA s) bk0 (.d (.v (.bool (!a)))) [] [] := step_not (ev hx)
theorem notYT {t : TypeId} {x : Operand} (hx : evalO s x = some (.d (.v (.bool true)))) : Step P ⟨dst, .unOp .not t x, ty, pos, after, gd⟩ (evalA s) bk0 (.d (.v (.bool false))) [] [] := step_not (ev hx)
theorem notNT {t : TypeId} {x : Operand} (hx : evalO s x = some (.d (.v (.bool false)))) : Step P ⟨dst, .unOp .not t x, ty, pos, after, gd⟩ (evalA s) bk0 (.d (.v (.bool true))) [] [] := step_not (ev hx)
theorem minT {t : Array TypeId} {x y : Operand} {k : IntKind} {a b : Int} (hx : evalO s x = some (.d (.v (.int k a)))) (hy : evalO s y = some (.d (.v (.int k b)))) :
    Step P ⟨dst, .call ⟨.builtin .min, #[x, y], t⟩, ty, pos, after, gd⟩ (evalA s) bk0 (.d (.v (.int k (if b < a then b else a)))) [] [] := step_min (ev hx) (ev hy)
theorem maxT {t : Array TypeId} {x y : Operand} {k : IntKind} {a b : Int} (hx : evalO s x = some (.d (.v (.int k a)))) (hy : evalO s y = some (.d (.v (.int k b)))) :
    Step P ⟨dst, .call ⟨.builtin .max, #[x, y], t⟩, ty, pos, after, gd⟩ (evalA s) bk0 (.d (.v (.int k (if b > a then b else a)))) [] [] := step_max (ev hx) (ev hy)
theorem mkFuncT {f : FuncId} {a b : Array Operand} {xs ys : List AV} (ha : mapO (evalO s) a.toList = some xs) (hb : mapO (evalO s) b.toList = some ys) :
    Step P ⟨dst, .makeFunc (.func f) a b, ty, pos, after, gd⟩ (evalA s) bk0 (.clo f xs ys) [] [] :=
  step_makeFunc (mapO_spec (fun _ _ h => ev h) _ _ ha) (mapO_spec (fun _ _ h => ev h) _ _ hb)
end

section
variable {s : St} {bk0 : Bk} {dst : Option Tmp} {ty : TypeId} {pos : String} {after : Array Edge} {gd : Option (Nat × Bool)}

theorem fieldPT {t f off b i k o z : Nat} {x : Operand} (hx : evalO s x = some (.ptr b i k o)) (hf : (asc tabF t).bind (fun l => l[f]?) = some off) (hz : some (Nat.add o off) = some z) :
    Step Try.prog ⟨dst, .fieldAddr t x f, ty, pos, after, gd⟩ (evalA s) bk0 (.ptr b i k z) [] [] := by injection hz with hz; exact hz ▸ step_field_ptr (ev hx) (fieldT hf)
theorem fieldRT {t f off : Nat} {x : Operand} {r r' : List D} (hx : evalO s x = some (.rop r)) (hf : (asc tabF t).bind (fun l => l[f]?) = some off) (hr : r.drop off = r') :
    Step Try.prog ⟨dst, .fieldAddr t x f, ty, pos, after, gd⟩ (evalA s) bk0 (.rop r') [] [] := hr ▸ step_field_rop (ev hx) (fieldT hf)
theorem loadVT {t b o k : Nat} {x : Operand} {cs : List AV} {v : AV} (hx : evalO s x = some (.ptr b 0 k o)) (ht : asc tabC t = some ()) (hb : bk0 b = some (.var cs)) (hv : cs[o]? = some v) :
    Step Try.prog ⟨dst, .load t x, ty, pos, after, gd⟩ (evalA s) bk0 v [] [] := step_load_var (ev hx) hb (scalT ht) hv
theorem loadVsT {t b o k n : Nat} {x : Operand} {cs cs' : List AV} (hx : evalO s x = some (.ptr b 0 k o)) (ht : asc tabA t = some n) (hb : bk0 b = some (.var cs)) (hv : sliceO cs o n = some cs') :
    Step Try.prog ⟨dst, .load t x, ty, pos, after, gd⟩ (evalA s) bk0 (.agg cs') [] [] := by
  obtain ⟨h1, h2⟩ := sliceO_spec _ _ _ _ hv
  rcases h2 with h2 | h2
  · subst h2
    simp at h1; subst h1
    by_cases ho : o ≤ cs.length
    · have := step_load_vars (dst := dst) (ty := ty) (pos := pos) (after := after) (gd := gd) (bk0 := bk0) (ev hx) hb (aggT ht) (by omega)
      simpa using this
    · intro bk hbk hnw E w vals hvals hB
      have h1 := hvals x (by simp [Op.operands]); rw [ev hx] at h1
      generalize hval : vals x = u at h1
      cases h1 with
      | ptr _ _ _ _ g hg =>
        rw [updB_nil]
        have hr := run_loadAt_agg (P := Try.prog) (t := t) (g := g) (o := 0 * k + o) (cs := []) (aggT ht) w rfl (fun j v h => by simp at h)
        unfold Benign
        simp only [execOp, hval, Sem.run_bind, hr, Result.andThen_ok, Sem.run_pure]
        exact ⟨E, hB, .agg [] _ rfl (fun i v h => by simp at h) (fun i c v h => by simp at h), ⟨fun _ h => h, fun _ h => .inl h, fun _ _ => rfl, Ext.refl _ _⟩, fun n g hn hg => .inl ⟨n, hn, hg⟩⟩
  · exact h1 ▸ step_load_vars (ev hx) hb (aggT ht) h2
theorem loadRT {t : Nat} {x : Operand} {r : List D} {d : D} (hx : evalO s x = some (.rop r)) (ht : asc tabC t = some ()) (hd : r[0]? = some d) :
    Step Try.prog ⟨dst, .load t x, ty, pos, after, gd⟩ (evalA s) bk0 (.d d) [] [] := step_load_rop (ev hx) (scalT ht) hd
theorem loadRsT {t n : Nat} {x : Operand} {r r1 : List D} {cs : List AV} (hx : evalO s x = some (.rop r)) (ht : asc tabA t = some n) (h1 : sliceO r 0 n = some r1) (hm : mapO (fun d => some (AV.d d)) r1 = some cs)
    (hn : Nat.ble n r.length = true) : Step Try.prog ⟨dst, .load t x, ty, pos, after, gd⟩ (evalA s) bk0 (.agg cs) [] [] := by
  have h2 := mapO_spec (g := AV.d) (fun a b h => by injection h) _ _ hm
  have h3 := (sliceO_spec _ _ _ _ h1).1
  simp at h3
  rw [← h2, ← h3]
  exact step_load_rops (ev hx) (aggT ht) (Nat.le_of_ble_eq_true hn)
theorem loadWT {t b i k o : Nat} {x : Operand} {rows : List (List D)} {row : List D} {d : D} (hx : evalO s x = some (.ptr b i k o)) (ht : asc tabC t = some ()) (hb : bk0 b = some (.row k rows))
    (hr : rows[i]? = some row) (hd : row[o]? = some d) : Step Try.prog ⟨dst, .load t x, ty, pos, after, gd⟩ (evalA s) bk0 (.d d) [] [] := step_load_row (ev hx) hb (scalT ht) hr hd
theorem loadWsT {t b i k o n : Nat} {x : Operand} {rows : List (List D)} {row r1 : List D} {cs : List AV} (hx : evalO s x = some (.ptr b i k o)) (ht : asc tabA t = some n) (hb : bk0 b = some (.row k rows))
    (hr : rows[i]? = some row) (h1 : sliceO row o n = some r1) (hm : mapO (fun d => some (AV.d d)) r1 = some cs) (hn : Nat.ble (o + n) row.length = true) :
    Step Try.prog ⟨dst, .load t x, ty, pos, after, gd⟩ (evalA s) bk0 (.agg cs) [] [] := by
  have h2 := mapO_spec (g := AV.d) (fun a b h => by injection h) _ _ hm
  have h3 := (sliceO_spec _ _ _ _ h1).1
  rw [← h2, ← h3]
  exact step_load_rows (ev hx) hb (aggT ht) hr (Nat.le_of_ble_eq_true hn)
theorem storeVT {t b o n k : Nat} {a x : Operand} {cs cs' vs : List AV} {v : AV} (ha : evalO s a = some (.ptr b 0 k o)) (hb : bk0 b = some (.var cs)) (hx : evalO s x = some v) (hv : cellsA v = some vs)
    (ht : asc tabS t = some n) (hn : Nat.beq vs.length n = true) (hs : setO cs o vs = some cs') :
    Step Try.prog ⟨dst, .store t a x, ty, pos, after, gd⟩ (evalA s) bk0 .any [(b, some (.var cs'))] [] := by
  obtain ⟨h1, h2⟩ := setO_spec _ _ _ _ hs
  exact h1 ▸ step_store_var (ev ha) (ev hx) hv hb (sizeT ht) (Nat.eq_of_beq_eq_true hn) h2
theorem storeWT {t b i k o n : Nat} {a x : Operand} {rows : List (List D)} {row row' ds : List D} {vs : List AV} {v : AV} (ha : evalO s a = some (.ptr b i k o)) (hb : bk0 b = some (.row k rows))
    (hx : evalO s x = some v) (hv : cellsA v = some vs) (hds : toDs vs = some ds) (hr : rows[i]? = some row) (ht : asc tabS t = some n) (hn : Nat.beq vs.length n = true) (hs : setO row o ds = some row') :
    Step Try.prog ⟨dst, .store t a x, ty, pos, after, gd⟩ (evalA s) bk0 .any [(b, some (.row k (rows.set i row')))] [] := by
  obtain ⟨h1, h2⟩ := setO_spec _ _ _ _ hs
  exact h1 ▸ step_store_row (ev ha) (ev hx) hv hds hb hr (sizeT ht) (Nat.eq_of_beq_eq_true hn) (by rw [toDs_length hds] at h2; exact h2)
theorem indexRT {t e k : Nat} {x y : Operand} {xs : List (List D)} {kk : IntKind} {z : Int} {row : List D} (hx : evalO s x = some (.d (.s xs))) (hy : evalO s y = some (.d (.v (.int kk z))))
    (ht : asc tabE t = some (e, k)) (h0 : 0 ≤ z) (hr : xs[z.toNat]? = some row) (hk : row.length = k) :
    Step Try.prog ⟨dst, .indexAddr t x y, ty, pos, after, gd⟩ (evalA s) bk0 (.rop row) [] [] := step_index_ro (ev hx) (ev hy) (elemT ht) h0 hr hk
theorem indexWT {t e k b i n : Nat} {x y : Operand} {kk : IntKind} {z : Int} {m : Nat} (hx : evalO s x = some (.own b i k n)) (hy : evalO s y = some (.d (.v (.int kk z))))
    (ht : asc tabE t = some (e, k)) (h0 : 0 ≤ z) (h1 : z < n) (hm : i + z.toNat = m) :
    Step Try.prog ⟨dst, .indexAddr t x y, ty, pos, after, gd⟩ (evalA s) bk0 (.ptr b m k 0) [] [] := hm ▸ step_index_own (ev hx) (ev hy) (elemT ht) h0 h1
theorem lenRT {t e k : Nat} {x : Operand} {xs : List (List D)} (hx : evalO s x = some (.d (.s xs))) (ht : asc tabE t = some (e, k)) {n : Nat} (hn : xs.length = n) :
    Step Try.prog ⟨dst, .call ⟨.builtin .len, #[x], #[t]⟩, ty, pos, after, gd⟩ (evalA s) bk0 (.d (.v (.int .i64 n))) [] [] := hn ▸ step_len_ro (ev hx) (sliceT ht)
theorem lenWT {t e k b i k' n : Nat} {x : Operand} (hx : evalO s x = some (.own b i k' n)) (ht : asc tabE t = some (e, k)) :
    Step Try.prog ⟨dst, .call ⟨.builtin .len, #[x], #[t]⟩, ty, pos, after, gd⟩ (evalA s) bk0 (.d (.v (.int .i64 n))) [] [] := step_len_own (ev hx) (sliceT ht)
theorem lenNT {t e k : Nat} {x : Operand} (hx : evalO s x = some .nil) (ht : asc tabE t = some (e, k)) :
    Step Try.prog ⟨dst, .call ⟨.builtin .len, #[x], #[t]⟩, ty, pos, after, gd⟩ (evalA s) bk0 (.d (.v (.int .i64 0))) [] [] := step_len_nil (ev hx) (sliceT ht)
theorem allocT {t n : Nat} {cs : List AV} (hz : asc tabZ t = some cs) (hsay : AV.says.saysL n cs = false) : Step Try.prog ⟨some n, .alloc t, ty, pos, after, gd⟩ (evalA s) bk0 (.ptr n 0 0 0) [(n, some (.var cs))] [n] :=
  step_alloc (zeroT hz) (zeroOkT hz) hsay
theorem boxT {t n : Nat} {x : Operand} {cs : List AV} {v : AV} (hx : evalO s x = some v) (hv : cellsA v = some cs) (hsay : AV.says.saysL n cs = false) :
    Step Try.prog ⟨some n, .box t x, ty, pos, after, gd⟩ (evalA s) bk0 (.ptr n 0 0 0) [(n, some (.var cs))] [n] := step_box (ev hx) hv hsay
theorem convT {r t : Nat} {x : Operand} {k k' : IntKind} {a z : Int} (hx : evalO s x = some (.d (.v (.int k a)))) (hs : asc tabI r = some k) (hd : asc tabI t = some k') (hz : k'.wrap a = z) :
    Step Try.prog ⟨dst, .convert r t x, ty, pos, after, gd⟩ (evalA s) bk0 (.d (.v (.int k' z))) [] [] := hz ▸ step_conv (ev hx) (intT hs) (intT hd)
theorem buildT {t : Nat} {parts : Array (Nat × Operand)} {ps : List (Nat × AV)} {pl : List (Nat × Nat)} {cs cs' : List AV} (hz : asc tabZ t = some cs) (hpl : asc tabP t = some pl)
    (hps : mapO (fun p => match evalO s p.2 with | some v => some (p.1, v) | none => none) parts.toList = some ps) (hf : fillO pl cs ps = some cs') :
    Step Try.prog ⟨dst, .build t parts, ty, pos, after, gd⟩ (evalA s) bk0 (.agg cs') [] [] :=
  step_build (mapO_spec (g := fun p => (p.1, evalA s p.2)) (fun a b h => by
    split at h
    · rename_i v hv; injection h with h; rw [← h, ev hv]
    · cases h) _ _ hps) (placesT hpl) (zeroT hz) (zeroOkT hz) (fillO_spec _ _ _ hf)
end

theorem resl_nil {P : Program} {s : St} : ResL P s [] [] := trivial
theorem resl_tmp {P : Program} {s : St} {t : Nat} {v : AV} {r : List ResultVar} {vs : List AV} (h : lookO s.tl t = some v) (h' : ResL P s r vs) : ResL P s (.tmp t :: r) (v :: vs) := ⟨lookO_look h, h'⟩
theorem resl_scal {s : St} {a ty b k o : Nat} {cs : List AV} {v : AV} {r : List ResultVar} {vs : List AV} (h : lookO s.tl a = some (.ptr b 0 k o)) (ht : asc tabC ty = some ()) (hb : lookB s.bl b = some (.var cs))
    (hv : cs[o]? = some v) (h' : ResL Try.prog s r vs) : ResL Try.prog s (.cell a ty :: r) (v :: vs) := ⟨⟨b, k, o, cs, lookO_look h, hb, .inl ⟨scalT ht, hv⟩⟩, h'⟩
theorem resl_agg {s : St} {a ty b k o n : Nat} {cs cs' : List AV} {r : List ResultVar} {vs : List AV} (h : lookO s.tl a = some (.ptr b 0 k o)) (ht : asc tabA ty = some n) (hb : lookB s.bl b = some (.var cs))
    (hn : Nat.ble (o + n) cs.length = true) (hs : sliceO cs o n = some cs') (h' : ResL Try.prog s r vs) : ResL Try.prog s (.cell a ty :: r) (.agg cs' :: vs) :=
  ⟨⟨b, k, o, cs, lookO_look h, hb, .inr ⟨n, aggT ht, Nat.le_of_ble_eq_true hn, by rw [(sliceO_spec _ _ _ _ hs).1]⟩⟩, h'⟩

/-- The return of a function that was given no blocks and gives none. -/
theorem ret_plain {P : Program} {fn : Func} {r : AV} {s : St} {vs : List AV} (h : ResL P s fn.results.toList vs) (hr : (oneOf vs).wk = r) (hw : r.within [] = true) : RetOk P fn [] r [] [] s :=
  ⟨vs, h, hr.symm, hw, (fun n B h => by simp [findB] at h), (fun n B h => by simp [lookB] at h), (fun p h => by cases h)⟩

theorem blOk_nil : BlOk [] := ⟨(fun n B h => by cases h), (fun n B h => by cases h)⟩

theorem enter {P : Program} {f : Nat} {fn : Func} {code : Code} {args : List AV} {bl : List (Nat × Option Blk)} {r : AV} {ch : List (Nat × Option Blk)} {nw : List Nat} {tl : List (Nat × AV)} (N : Nat) (gl : List Nat)
    (hf : P.funcs[f]? = some fn) (hb : fn.body = some code) (hN : max fn.ntmps args.length = N) (hbl : BlOk bl) (hgl : namesB bl = gl) (ht : argO 0 args = some tl)
    (h : ∀ X w0 E0, AWp P ⟨N, gl, X, w0, E0⟩ code (retQ P fn bl r ch nw) ⟨tl, bl⟩) : Spec P f args bl r ch nw := by
  subst hgl
  exact spec_of_awp N hf hb hN hbl fun X w0 E0 => by rw [argO_spec _ _ _ ht]; exact h X w0 E0

end Go.Proofs.Ytencghlmckbmlaa
