/- The iterator others (its function 189): it hands over the elements of a list but one, in order, till a round says stop. -/
import Derived.Test.YtencghlmckbmlaaInn
import Derived.Test.YtencghlmckbmlaaMedium1
set_option linter.unusedVariables false
set_option linter.unusedSimpArgs false
set_option maxRecDepth 100000
set_option maxHeartbeats 2000000
namespace Go.Proofs.Ytencghlmckbmlaa
open Go Go.RowKit

/-- What a round keeps: each cell but those of one block. -/
structure Kp (g : Nat) (A B : World) : Prop where
  size : A.heap.size ≤ B.heap.size
  cell : ∀ b, b ≠ g → ∀ o v, A.cell? ⟨b, o, none⟩ = some v → B.cell? ⟨b, o, none⟩ = some v
theorem Kp.refl (g : Nat) (A : World) : Kp g A A := ⟨Nat.le_refl _, fun _ _ _ _ h => h⟩
theorem Kp.trans {g : Nat} {A B C : World} (h : Kp g A B) (k : Kp g B C) : Kp g A C := ⟨Nat.le_trans h.size k.size, fun b hb o v hv => k.cell b hb o v (h.cell b hb o v hv)⟩

theorem repD_keep {S : Nat → Prop} {w w' : World} (hw : ∀ b, S b → ∀ o v, w.cell? ⟨b, o, none⟩ = some v → w'.cell? ⟨b, o, none⟩ = some v) {d : D} {v : Value} (h : RepD S w d v) : RepD S w' d v := by
  induction h with
  | v x h => exact .v x h
  | nil a c => exact .nil a c
  | s xs b o k cap g hSb hcap hk hc _ ih => exact .s xs b o k cap g hSb hcap hk (fun i j hi hj => hw b hSb _ _ (hc i j hi hj)) ih

def WpR (n : Nat) (P : Program) (c : Ctx) (k : Code) (Q : Exit → Act → World → Prop) (s : St) : Prop := ∀ E a w, RelE c s E a w → k.wpIn (FW none) n P Q a w
def nrmS (Q0 : St → Prop) : Exit → St → Prop
  | .normal, s => Q0 s
  | _, _ => False
theorem nrmS_out {c : Ctx} {Q0 : St → Prop} : ¬ LetsOut (lift c (nrmS Q0)) := fun ⟨_, _, _, _, _, h⟩ => h

section
variable {n : Nat} {P : Program} {c : Ctx} {Q : Exit → Act → World → Prop} {s : St}
theorem R_seq {x y : Code} (h : WpR n P c x (Exit.then (y.wpIn (FW none) n P Q) Q) s) : WpR n P c (.seq x y) Q s := fun E a w hr => wpIn_seq (h E a w hr)
theorem R_block {id : Nat} {x : Code} (h : WpR n P c x (Exit.inBlock id Q) s) : WpR n P c (.block id x) Q s := fun E a w hr => wpIn_block (h E a w hr)
theorem R_region {id : Nat} {l : List Oper} (Q0 : St → Prop) (hd : l.all noDefer = true) (h : Ops P c l.toArray l (nrmS Q0) s) (hq : ∀ s', Q0 s' → ∀ E a w, RelE c s' E a w → Q .normal a w) : WpR n P c (.region id l.toArray false) Q s :=
  fun E a w hr => wpIn_mono (wpIn_region_lit (listI nrmS_out hd (h E a w hr))) fun e a w ⟨s', E', hr', hq'⟩ => by
    cases e <;> first | exact hq s' hq' E' a w hr' | exact hq'.elim
theorem R_ifY {x y : Code} {o : Operand} (hc : evalO s o = some (.d (.v (.bool true)))) (h : WpR n P c x Q s) : WpR n P c (.cond o x y) Q s := fun E a w hr => by
  have he : a.eval o = .bool true := rep_val (by have := RelF.eval hr o; rw [ev hc] at this; exact this)
  exact wpIn_cond_true he (h E a w hr)
theorem R_ifN {x y : Code} {o : Operand} (hc : evalO s o = some (.d (.v (.bool false)))) (h : WpR n P c y Q s) : WpR n P c (.cond o x y) Q s := fun E a w hr => by
  have he : a.eval o = .bool false := rep_val (by have := RelF.eval hr o; rw [ev hc] at this; exact this)
  exact wpIn_cond_false he (h E a w hr)
end

theorem listCut {F : Fence} {n : Nat} {P : Program} {ops : Array Oper} {Q Q' : Exit → Act → World → Prop} {l2 : List Oper} (hQ : ∀ e a w, Q' e a w → e = .normal ∧ wpListIn F n P ops Q l2 a w) (hlo : ¬ LetsOut Q') : ∀ {l1 : List Oper} {a : Act} {w : World}, wpListIn F n P ops Q' l1 a w → wpListIn F n P ops Q (l1 ++ l2) a w
  | [], a, w, h => (hQ _ _ _ h).2
  | o :: r, a, w, h => by
    show wpListIn F n P ops Q (o :: (r ++ l2)) a w
    unfold wpListIn at h ⊢
    split at h
    · rename_i hw
      rw [if_pos hw]
      unfold Oper.wpIn at h ⊢
      refine ⟨h.1, ?_⟩
      have h := h.2
      have none : ∀ e a w, Q' e a w → e ≠ .normal → False := fun e a w h1 h2 => h2 (hQ _ _ _ h1).1
      generalize (o.semAt F.round a.eval).run P w = res at *
      cases res with
      | halt x w' => cases x <;> first | (exact (none _ _ _ h (by simp)).elim) | exact h
      | ok nx w' =>
        cases nx <;> simp only [Oper.uponIn] at h ⊢ <;> first | exact listCut hQ hlo h | exact h | skip
        all_goals first
          | exact ⟨h.1, h.2.mono fun v w'' hv => listCut hQ hlo hv⟩
          | (refine ⟨h.1, h.2.mono fun e w'' he => ?_⟩
             cases e <;> first | exact listCut hQ hlo he | exact (none _ _ _ he (by simp)).elim | exact absurd he hlo)
    · rename_i hw
      rw [if_neg hw]
      exact ⟨h.1, listCut hQ hlo h.2⟩

theorem wanted_of {c : Ctx} {s : St} {E : Env} {a : Act} {w : World} {ops : Array Oper} {o : Oper} {j : Nat} {want : Bool} {e : Tmp} (hr : RelE c s E a w) (hg : o.guard = some (j, want)) (hj : (ops[j]?).bind (·.dst) = some e) (hb : look s.tl e = .d (.v (.bool want))) : Region.wanted o (yielded ops a.tmps) = true := by
  have hv := hr.tms e
  rw [hb] at hv
  have hval : a.tmps.getD e undef = .bool want := rep_val hv
  have hlt : e < a.tmps.size := by
    rcases Nat.lt_or_ge e a.tmps.size with h | h
    · exact h
    · simp [Array.getElem?_eq_none h, undef] at hval
  have hyl : yielded ops a.tmps j = some want := by
    unfold yielded
    rw [hj]
    have : a.tmps[e]? = some (.bool want) := by
      rw [Array.getElem?_eq_getElem hlt]
      simp [hlt] at hval
      simp [hval]
    simp [this]
  simp [Region.wanted, hg, hyl]

def sendV (x : Sending) : Value := .agg #[.int .i64 (x.node : Nat), .int .i64 x.start, .int .i64 x.end_, .int .i64 x.need]
theorem rep_send {E : Env} {w : World} {x : Sending} {v : Value} (h : Rep E w x.av v) : v = sendV x := by
  cases h with
  | agg _ arr hl _ h =>
    have hl : arr.size = 4 := hl
    have h0 := rep_val (h 0 _ _ rfl (Array.getElem?_eq_getElem (by omega)))
    have h1 := rep_val (h 1 _ _ rfl (Array.getElem?_eq_getElem (by omega)))
    have h2 := rep_val (h 2 _ _ rfl (Array.getElem?_eq_getElem (by omega)))
    have h3 := rep_val (h 3 _ _ rfl (Array.getElem?_eq_getElem (by omega)))
    unfold sendV
    congr 1
    apply Array.ext
    · simpa using hl
    · intro i hi1 hi2
      have : i < 4 := by omega
      match i, this with
      | 0, _ => simpa using h0
      | 1, _ => simpa using h1
      | 2, _ => simpa using h2
      | 3, _ => simpa using h3

def othersTo (l : List Sending) (i p : Nat) : List Sending := ((List.range p).filter fun k => k != i).map fun k => l.getD k default
theorem others_yes {l : List Sending} {i p : Nat} (h : p ≠ i) : othersTo l i (p + 1) = othersTo l i p ++ [l.getD p default] := by
  have : (p != i) = true := by simpa using h
  simp [othersTo, List.range_succ, List.filter_append, List.filter_cons, this]
theorem others_no {l : List Sending} {i p : Nat} (h : p = i) : othersTo l i (p + 1) = othersTo l i p := by
  have : (p != i) = false := by simpa using h
  simp [othersTo, List.range_succ, List.filter_append, List.filter_cons, this]
theorem others_len {l : List Sending} {i p : Nat} : (othersTo l i p).length ≤ p := by
  have := List.length_filter_le (fun k => k != i) (List.range p)
  simpa [othersTo] using this

/-- The state at the loop's head. -/
def itS (l : List Sending) (i lp p : Nat) : St := ⟨[(0, .d (.v (.func (.yield lp) #[] #[]))), (1, .rop [.s (l.map encS)]), (2, .rop [vi (i : Nat)]), (6, .d (.s (l.map encS))), (7, .d (vi l.length)), (8, .d (vi (p : Nat)))], []⟩
def itC (S : Nat → Prop) (W : World) : Ctx := ⟨23, [], fun _ => False, W, ⟨fun _ => none, S⟩⟩

/-- In a later world, where what nobody writes lies as it lay, a state without known blocks is as it was. -/
theorem rebase {c : Ctx} {g : Nat} {tl tl' : List (Nat × AV)} {bl : List (Nat × Option Blk)} {E : Env} {a : Act} {w w' : World} (hr : RelE c ⟨tl, bl⟩ E a w) (hN : c.N = 23) (ht : ∀ t, look tl' t = .any ∨ (look tl' t = look tl t ∧ ((∃ x, look tl t = .d x) ∨ ∃ r, look tl t = .rop r)))
    (hS : ∀ b, E.S b → b ≠ g) (hk : Kp g w w') : RelE (itC E.S w') ⟨tl', []⟩ ⟨fun _ => none, E.S⟩ a w' where
  size := hr.size.trans hN
  defers := hr.defers
  tms := fun t => by
    show Rep _ _ (look tl' t) _
    have hm : ∀ b, E.S b → ∀ o v, w.cell? ⟨b, o, none⟩ = some v → w'.cell? ⟨b, o, none⟩ = some v := fun b hb => hk.cell b (hS b hb)
    rcases ht t with h | ⟨h, ⟨x, hx⟩ | ⟨r, hx⟩⟩
    · rw [h]; exact .any _
    · have := hr.tms t
      rw [show look (St.mk tl bl).tl t = look tl t from rfl, hx] at this
      rw [h, hx]
      cases this with | d h => exact .d (repD_keep hm h)
    · have := hr.tms t
      rw [show look (St.mk tl bl).tl t = look tl t from rfl, hx] at this
      rw [h, hx]
      generalize a.tmps.getD t undef = u at this
      cases this with
      | rop _ b o g hS1 hc hr1 => exact .rop r b o g hS1 (fun j hj => hm b hS1 _ _ (hc j hj)) (fun j d hd => repD_keep hm (hr1 j d hd))
  bks := ⟨fun n B g h => (by cases h), fun n B h => (by cases h), fun n m g h => absurd rfl h, fun n g h => absurd rfl h, fun b h => Nat.lt_of_lt_of_le (hr.bks.bound b h) hk.size⟩
  ext := Ext.refl _ _
  names := fun n g h => absurd rfl h
  S := fun b h => .inl h
  S0 := fun b h => h
  given := fun n h => by cases h

theorem ext_grown {A B : World} (h : Ext (fun _ => False) A B) : A.grownBy B none := ⟨h.os, h.tape, h.output, h.size, fun k hk _ => h.block k hk id⟩

def itMu (l : List Sending) (a : Act) (_ : World) : Nat := match a.tmps.getD 8 undef with | .int _ z => l.length - z.toNat | _ => 0
theorem itMu_eq {l : List Sending} {c : Ctx} {s : St} {E : Env} {a : Act} {w : World} {p : Nat} (hr : RelE c s E a w) (h : look s.tl 8 = .d (vi (p : Nat))) : itMu l a w = l.length - p := by
  have := hr.tms 8
  rw [h] at this
  have hv : a.tmps.getD 8 undef = .int .i64 (p : Nat) := rep_val this
  unfold itMu; rw [hv]; simp

theorem run_yield_op {d : Option Tmp} {f x : Operand} {ts : Array TypeId} {ty : TypeId} {pos : String} {after : Array Edge} {gd : Option (Nat × Bool)} {lp : Nat} {P : Program} {W : World} {n : Nat} {a : Act} {K : Act → World → Prop} {Q : Exit → Act → World → Prop} {v : Value}
    (hf : a.eval f = .func (.yield lp) #[] #[]) (hx : a.eval x = v) (hY : YieldAt (FW none) (n - 1) P lp #[v] W fun e W' => ∃ u, e = .returned u ∧ K (a.put d u) W') :
    Oper.wpIn (FW none) n P ⟨d, .call ⟨.value f, #[x], ts⟩, ty, pos, after, gd⟩ a W K Q := by
  refine ⟨fun _ _ => trivial, ?_⟩
  obtain ⟨fn, tmps, assign, body, hy, hR⟩ := hY
  have hrun : ((⟨d, .call ⟨.value f, #[x], ts⟩, ty, pos, after, gd⟩ : Oper).semAt (FW none).round a.eval).run P W = .ok (.round lp fn tmps assign body) W := by
    show (execOp a.eval ⟨d, .call ⟨.value f, #[x], ts⟩, ty, pos, after, gd⟩).run P W = _
    simp [execOp, resolve, hf, hx, Deferred.ofValue, invoke, Sem.run_bind, callFunc, hy]
  rw [hrun]
  refine ⟨fun h => (by cases h), hR.mono fun e w'' ⟨u, he, hk⟩ => ?_⟩
  subst he; exact hk
end Go.Proofs.Ytencghlmckbmlaa
