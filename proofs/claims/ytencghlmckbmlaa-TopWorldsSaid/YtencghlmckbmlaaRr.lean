/- More rules of the walk whose end is told of activations and worlds; a state carried into a later world. -/
import Derived.Test.YtencghlmckbmlaaRop
set_option linter.unusedVariables false
set_option linter.unusedSimpArgs false
set_option maxRecDepth 100000
namespace Go.Proofs.Ytencghlmckbmlaa
open Go Go.RowKit

section
variable {n : Nat} {P : Program} {c : Ctx} {Q : Exit → Act → World → Prop} {s : St}
theorem R_regk {id : Nat} {l : List Oper} (hd : l.all noDefer = true) (h : Ops P c l.toArray l (nrmS fun s' => ∀ E a w, RelE c s' E a w → Q .normal a w) s) : WpR n P c (.region id l.toArray false) Q s :=
  R_region _ hd h fun s' hq => hq
theorem R_turn {k : Code} {s' : St} (hs : Turns c s s') (h : WpR n P c k Q s') : WpR n P c k Q s := fun E a w hr => let ⟨E', hr'⟩ := hs E a w hr; h E' a w hr'
theorem R_if {x y : Code} {o : Operand} {b : Bool} (hc : evalO s o = some (.d (.v (.bool b)))) (ht : b = true → WpR n P c x Q s) (hf : b = false → WpR n P c y Q s) : WpR n P c (.cond o x y) Q s := by
  cases b with
  | true => exact R_ifY hc (ht rfl)
  | false => exact R_ifN hc (hf rfl)
theorem R_skip (h : ∀ E a w, RelE c s E a w → Q .normal a w) : WpR n P c .skip Q s := fun E a w hr => wpIn_skip (h E a w hr)
theorem R_ret (h : ∀ E a w, RelE c s E a w → Q .ret a w) : WpR n P c .ret Q s := fun E a w hr => wpIn_ret (h E a w hr)
theorem R_exit {id : Nat} (h : ∀ E a w, RelE c s E a w → Q (.exit id) a w) : WpR n P c (.exit id) Q s := fun E a w hr => wpIn_exit (h E a w hr)
end

theorem kp_row {g l : Nat} {A B : World} (h : A.grownBy B (some l)) (hl : ∃ o : Obj, A.heap[l]? = some o ∧ o.isCells = false) : Kp g A B := ⟨h.size, fun b hb o v hv => by
  obtain ⟨ob, h1, h2⟩ := hl
  unfold World.cell? at hv ⊢
  have hlt : b < A.heap.size := by
    rcases Nat.lt_or_ge b A.heap.size with h' | h'
    · exact h'
    · simp [Array.getElem?_eq_none h'] at hv
  have hne : b ≠ l := fun e => by subst e; simp only [h1] at hv; cases ob <;> simp_all [Obj.isCells]
  have hB : B.heap[b]? = A.heap[b]? := h.block b hlt (fun e => hne (by cases e; rfl))
  simp only [hB]; exact hv⟩

theorem put_av {c : Ctx} {tl : List (Nat × AV)} {bl : List (Nat × Option Blk)} {E : Env} {a : Act} {w : World} {d : Nat} {v : AV} {u : Value} (hr : RelE c ⟨tl, bl⟩ E a w) (hd : d < c.N) (hv : Rep E w v u) : RelE c ⟨(d, v) :: tl, bl⟩ E (a.put (some d) u) w := by
  have hg : Grow E E w w (lookB bl) (fun _ => False) := ⟨fun _ h => h, fun _ h => .inl h, fun _ _ => rfl, Ext.refl _ _⟩
  refine RelF.put hr hg hr.bks (fun n g hn h => .inl ⟨n, hn, h⟩) (fun n h => h.elim) (some d) (fun d' h => by cases h; exact hd) v u hv _ fun t => ?_
  by_cases h : d = t
  · subst h; exact .inl ⟨rfl, by show (bif Nat.beq d d then _ else _) = _; simp⟩
  · exact .inr (.inr ⟨by simpa using h, by show (bif Nat.beq d t then _ else _) = _; rw [natbeq_false h]; rfl, fun n h => h.elim⟩)

def AV.plain (q : Nat) : AV → Bool
  | .d _ => true
  | .rop _ => true
  | .ptr b _ _ _ => Nat.beq b q
  | _ => false
def KeepT (q : Nat) : List (Nat × AV) → List (Nat × AV) → Prop
  | [], _ => True
  | (t, v) :: r, l => (look l t = v ∧ v.plain q = true) ∧ KeepT q r l
theorem KeepT.look {q : Nat} {l' l : List (Nat × AV)} (h : KeepT q l' l) (t : Nat) : look l' t = .any ∨ (Ytencghlmckbmlaa.look l' t = Ytencghlmckbmlaa.look l t ∧ (Ytencghlmckbmlaa.look l t).plain q = true) := by
  induction l' with
  | nil => exact .inl rfl
  | cons p r ih =>
    obtain ⟨u, v⟩ := p
    obtain ⟨⟨h1, h3⟩, h2⟩ := h
    have e : Ytencghlmckbmlaa.look ((u, v) :: r) t = bif Nat.beq u t then v else Ytencghlmckbmlaa.look r t := rfl
    rw [e]
    cases hb : Nat.beq u t with
    | true => have : u = t := Nat.eq_of_beq_eq_true hb; subst this; right; rw [cond_true]; exact ⟨h1.symm, by rw [h1]; exact h3⟩
    | false => rw [cond_false]; exact ih h2

theorem plain_move {E : Env} {g q : Nat} {w w' : World} (hS : ∀ b, E.S b → b ≠ g) (hk : Kp g w w') {v : AV} (hp : v.plain q = true) {u : Value} (h : Rep E w v u) : Rep E w' v u := by
  have hm : ∀ b, E.S b → ∀ o v, w.cell? ⟨b, o, none⟩ = some v → w'.cell? ⟨b, o, none⟩ = some v := fun b hb => hk.cell b (hS b hb)
  cases h with
  | d h => exact .d (repD_keep hm h)
  | rop r b o g h1 h2 h3 => exact .rop r b o g h1 (fun j hj => hm b h1 _ _ (h2 j hj)) (fun j d hd => repD_keep hm (h3 j d hd))
  | ptr b i k o g' hg => exact .ptr b i k o g' hg
  | _ => cases hp

theorem rebase2 {c : Ctx} {g q N : Nat} {tl tl' : List (Nat × AV)} {bl : List (Nat × Option Blk)} {E : Env} {a : Act} {w w' : World} {B : Blk} (hr : RelE c ⟨tl, bl⟩ E a w) (hN : c.N = N) (ht : KeepT q tl' tl)
    (hS : ∀ b, E.S b → b ≠ g) (hk : Kp g w w') (hq : E.blk q = some g) (hb : BlkRep E w' g B) : RelE ⟨N, [q], (· = g), w', E⟩ ⟨tl', [(q, some B)]⟩ E a w' := by
  have hl : ∀ n, lookB [(q, some B)] n ≠ none → n = q := fun n hn => by
    have e : lookB [(q, some B)] n = bif Nat.beq q n then some B else none := rfl
    cases hb : Nat.beq q n with
    | true => exact (Nat.eq_of_beq_eq_true hb).symm
    | false => rw [e, hb] at hn; exact absurd rfl hn
  have hl2 : lookB [(q, some B)] q = some B := by show (bif Nat.beq q q then _ else _) = _; simp
  refine { size := hr.size.trans hN, defers := hr.defers, tms := fun t => ?_, bks := ⟨fun n B' g' h h2 => ?_, fun n B' h h2 => ?_, fun n m g' h1 h2 _ _ => (hl n h1).trans (hl m h2).symm, fun n g' h1 h2 hs => ?_, fun b h => Nat.lt_of_lt_of_le (hr.bks.bound b h) hk.size⟩, ext := Ext.refl _ _, names := fun n g' h h2 => ?_, S := fun b h => .inl h, S0 := fun b h => h, given := fun n _ => rfl }
  · rcases KeepT.look ht t with h | ⟨h1, h2⟩
    · rw [show look (St.mk tl' [(q, some B)]).tl t = look tl' t from rfl, h]; exact .any _
    · rw [show look (St.mk tl' [(q, some B)]).tl t = look tl' t from rfl, h1]
      exact plain_move hS hk h2 (hr.tms t)
  · obtain rfl := hl n (by rw [h]; simp)
    rw [hl2] at h; cases h
    rw [hq] at h2; cases h2
    exact hb
  · obtain rfl := hl n (by rw [h]; simp)
    rw [hq] at h2; cases h2
  · obtain rfl := hl n h1
    rw [hq] at h2; cases h2
    exact hS _ hs rfl
  · obtain rfl := hl n h
    rw [hq] at h2; cases h2
    exact .inl rfl

/-- The same without the block. -/
theorem rebase0 {c : Ctx} {g q N : Nat} {tl tl' : List (Nat × AV)} {bl : List (Nat × Option Blk)} {E : Env} {a : Act} {w w' : World} (hr : RelE c ⟨tl, bl⟩ E a w) (hN : c.N = N) (ht : KeepT q tl' tl)
    (hS : ∀ b, E.S b → b ≠ g) (hk : Kp g w w') : RelE ⟨N, [q], fun _ => False, w', E⟩ ⟨tl', []⟩ E a w' := by
  refine { size := hr.size.trans hN, defers := hr.defers, tms := fun t => ?_, bks := blks_none fun b h => Nat.lt_of_lt_of_le (hr.bks.bound b h) hk.size, ext := Ext.refl _ _, names := fun n g' h h2 => absurd rfl h, S := fun b h => .inl h, S0 := fun b h => h, given := fun n _ => rfl }
  rcases KeepT.look ht t with h | ⟨h1, h2⟩
  · rw [show look (St.mk tl' []).tl t = look tl' t from rfl, h]; exact .any _
  · rw [show look (St.mk tl' []).tl t = look tl' t from rfl, h1]
    exact plain_move hS hk h2 (hr.tms t)

/-- A contract of a function that only reads, from its calls. -/
theorem spec_reads {P : Program} {f : Nat} {args : List AV} {v : Value} (hv : v.oneCell' = true)
    (h : ∀ E w vals, RepArgs E w args vals → (∀ b, E.S b → b < w.heap.size) → Calls P f vals w fun e w' => e = .returned v ∧ Ext (fun _ => False) w w') : Spec P f args [] (.d (.v v)) [] [] := by
  intro bk hbk hnw E w vals hargs hB
  refine (h E w vals hargs hB.bound).mono fun e w' ⟨he, hx⟩ => ⟨v, he, E, ?_, .d (.v _ hv), ⟨fun _ h => h, fun _ h => .inl h, fun _ _ => rfl, ⟨hx.size, fun b hb _ => hx.block b hb id, hx.shape, hx.os, hx.tape, hx.output⟩⟩, fun n g h1 h2 => .inl ⟨n, h1, h2⟩⟩
  have hk : Keeps E E w w' (fun _ => False) := ⟨fun _ h => h, fun b hb o => hx.cell (hB.bound b hb) id o, fun _ _ => rfl, hx.shape⟩
  show Blks E w' bk
  exact ⟨fun n B g h1 h2 => (hB.rep n B g h1 h2).mono hk (hx.block g (hB.rep n B g h1 h2).lt id) (fun _ h => h.elim), hB.unb, hB.inj, hB.apart, fun b hb => Nat.lt_of_lt_of_le (hB.bound b hb) hx.size⟩

theorem ext_trans_g {g : Nat} {A B C : World} (h : Ext (fun _ => False) A B) (k : Ext (fun b => b = g) B C) (hg : A.heap.size ≤ g) : Ext (fun _ => False) A C := h.trans k fun b hb e => by have : b = g := e; omega
end Go.Proofs.Ytencghlmckbmlaa
