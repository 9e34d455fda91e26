/- The logic of symbolic states in a round of a range over a function, and for an iterator that calls yield. -/
import Derived.Test.YtencghlmckbmlaaAny
import Derived.RangeFuncWrites
import Derived.RangeFuncLeaves
import Derived.OrdersIn
set_option linter.unusedVariables false
set_option linter.unusedSimpArgs false
namespace Go.Proofs.Ytencghlmckbmlaa
open Go Go.RowKit

def FW (ro : Option Nat) : Fence := { Fence.wide with round := ro }
theorem callsI {ro : Option Nat} {n : Nat} {P : Program} {f : FuncId} {args : Array Value} {w : World} {R : Ending → World → Prop} : CallsIn (FW ro) n P f args w R ↔ Calls P f args w R := callsIn_wide (n := n)

def noDefer (o : Oper) : Bool := match o.op with | .defer _ => false | _ => true
theorem noDefer_ne {o : Oper} (h : noDefer o = true) : ∀ c, o.op ≠ .defer c := fun c e => by unfold noDefer at h; rw [e] at h; cases h

theorem wpIn_of_wp {ro : Option Nat} {n : Nat} {P : Program} {o : Oper} {a : Act} {w : World} {K K' : Act → World → Prop} {Q : Exit → Act → World → Prop} (hd : noDefer o = true) (h : o.wp P a w K Q) (hK : ∀ a w, K a w → K' a w) (hr : ∀ row args w' R, Rows P row args w' R → RowsIn (FW ro) (n - 1) P row args w' R) : o.wpIn (FW ro) n P a w K' Q := by
  refine ⟨fun _ _ => trivial, ?_⟩
  rw [Oper.semAt_eq _ _ _ (noDefer_ne hd)]
  unfold Oper.wp at h
  generalize (execOp a.eval o).run P w = r at *
  cases r with
  | halt x w' => cases x <;> first | exact h | exact h.elim
  | ok nx w' =>
    cases nx <;> simp only [Oper.upon, Oper.uponIn] at h ⊢ <;> first | exact hK _ _ h | exact h.elim | skip
    · refine ⟨fun h => (by cases h), callsI.2 (h.mono fun e w'' he => ?_)⟩
      cases e <;> first | exact hK _ _ he | exact he
    · refine ⟨fun h => (by cases h), hr _ _ _ _ (h.mono fun v w'' hv => hK _ _ hv)⟩

theorem rowsI {ro : Option Nat} {n : Nat} {P : Program} {row : String} {args : Array Value} {w : World} {R : Value → World → Prop} (h : Rows P row args w R) : RowsIn (FW ro) n P row args w R := fun c cs _ => by
  obtain ⟨v, w', hr, hs⟩ := h c cs
  exact ⟨v, w', hr, (stepsIn_wide (P := P)).2 hs⟩

theorem listI {ro : Option Nat} {n : Nat} {P : Program} {ops : Array Oper} {Q : Exit → Act → World → Prop} (hQ : ¬ LetsOut Q) : ∀ {l : List Oper} {a : Act} {w : World}, l.all noDefer = true → wpList P ops Q l a w → wpListIn (FW ro) n P ops Q l a w
  | [], _, _, _, h => h
  | o :: rest, a, w, hd, h => by
    simp only [List.all_cons, Bool.and_eq_true] at hd
    unfold wpList at h
    unfold wpListIn
    split at h
    · rename_i hw
      rw [if_pos hw]
      rcases h with h | ⟨_, h⟩
      · exact wpIn_of_wp hd.1 h (fun a w h => listI hQ hd.2 h) fun _ _ _ _ h => rowsI h
      · exact absurd h hQ
    · rename_i hw
      rw [if_neg hw]
      exact ⟨fun _ _ => trivial, listI hQ hd.2 h⟩

theorem anyI {ro : Option Nat} {n : Nat} {P : Program} {md : Region.Mode} {ops : Array Oper} {Q : Exit → Act → World → Prop} (hQ : ¬ LetsOut Q) (hd : ops.toList.all noDefer = true) : ∀ {f : Nat} {listed : Array Bool} {a : Act} {w : World}, wpAny P md ops Q f listed a w → wpAnyIn (FW ro) n P md ops Q f listed a w
  | 0, _, _, _, h => h
  | f + 1, listed, a, w, h => by
    refine ⟨h.1, fun i hi => ?_⟩
    have h2 := h.2 i hi
    unfold wpOp at h2
    unfold wpOpIn
    split at h2
    · rename_i ho; rw [ho]; exact anyI hQ hd h2
    · rename_i o ho
      rw [ho]
      have hdo : noDefer o = true := List.all_eq_true.1 hd o (by
        obtain ⟨h3, h4⟩ := Array.getElem?_eq_some_iff.1 ho
        rw [← h4]; exact Array.getElem_mem_toList h3)
      simp only
      split at h2
      · rename_i hw
        rw [if_pos hw]
        rcases h2 with h2 | ⟨_, h2⟩
        · exact wpIn_of_wp hdo h2 (fun a w h => anyI hQ hd h) fun _ _ _ _ h => rowsI h
        · exact absurd h2 hQ
      · rename_i hw
        rw [if_neg hw]
        exact ⟨fun _ _ => trivial, anyI hQ hd h2⟩

def AWpI (ro : Option Nat) (n : Nat) (P : Program) (c : Ctx) (k : Code) (Q : Exit → St → Prop) (s : St) : Prop := ∀ E a w, RelE c s E a w → k.wpIn (FW ro) n P (lift c Q) a w

section
variable {ro : Option Nat} {n : Nat} {P : Program} {c : Ctx} {Q : Exit → St → Prop} {s : St}

def seqI (ro : Option Nat) (n : Nat) (P : Program) (c : Ctx) (y : Code) (Q : Exit → St → Prop) : Exit → St → Prop
  | .normal, s => AWpI ro n P c y Q s
  | e, s => Q e s

theorem awpI_seq {x y : Code} (h : AWpI ro n P c x (seqI ro n P c y Q) s) : AWpI ro n P c (.seq x y) Q s := fun E a w hr =>
  wpIn_seq (wpIn_mono (h E a w hr) fun e a w ⟨s', E', hr', hq⟩ => by
    cases e with
    | normal => exact hq E' a w hr'
    | exit id => exact ⟨s', E', hr', hq⟩
    | goto l => exact ⟨s', E', hr', hq⟩
    | ret => exact ⟨s', E', hr', hq⟩
    | panic ch => exact ⟨s', E', hr', hq⟩
    | outgrown => exact ⟨s', E', hr', hq⟩)
theorem awpI_skip (h : Q .normal s) : AWpI ro n P c .skip Q s := fun E a w hr => wpIn_skip ⟨s, E, hr, h⟩
theorem awpI_exit {id : Nat} (h : Q (.exit id) s) : AWpI ro n P c (.exit id) Q s := fun E a w hr => wpIn_exit ⟨s, E, hr, h⟩
theorem awpI_ret (h : Q .ret s) : AWpI ro n P c .ret Q s := fun E a w hr => wpIn_ret ⟨s, E, hr, h⟩
theorem awpI_block {id : Nat} {x : Code} (h : AWpI ro n P c x (blockQ id Q) s) : AWpI ro n P c (.block id x) Q s := fun E a w hr =>
  wpIn_block (wpIn_mono (h E a w hr) fun e a w ⟨s', E', hr', hq⟩ => by
    cases e with
    | normal => exact ⟨s', E', hr', hq⟩
    | exit id' =>
      simp only [blockQ] at hq
      simp only [Exit.inBlock]
      split at hq
      · rename_i h; rw [if_pos h]; exact ⟨s', E', hr', hq⟩
      · rename_i h; rw [if_neg h]; exact ⟨s', E', hr', hq⟩
    | goto l => exact ⟨s', E', hr', hq⟩
    | ret => exact ⟨s', E', hr', hq⟩
    | panic ch => exact ⟨s', E', hr', hq⟩
    | outgrown => exact ⟨s', E', hr', hq⟩)
theorem awpI_if {x y : Code} {o : Operand} {b : Bool} (hc : evalO s o = some (.d (.v (.bool b)))) (ht : b = true → AWpI ro n P c x Q s) (hf : b = false → AWpI ro n P c y Q s) : AWpI ro n P c (.cond o x y) Q s := fun E a w hr => by
  have h := RelF.eval hr o
  rw [ev hc] at h
  cases h with
  | d h =>
    generalize he : a.eval o = u at h
    cases h with
    | v _ _ =>
      refine wpIn_cond_split he (fun hb => ?_) (fun hb => ?_)
      · exact ht hb E a w hr
      · exact hf hb E a w hr
theorem awpI_ifY {x y : Code} {o : Operand} (hc : evalO s o = some (.d (.v (.bool true)))) (h : AWpI ro n P c x Q s) : AWpI ro n P c (.cond o x y) Q s := awpI_if hc (fun _ => h) (fun h => nomatch h)
theorem awpI_ifN {x y : Code} {o : Operand} (hc : evalO s o = some (.d (.v (.bool false)))) (h : AWpI ro n P c y Q s) : AWpI ro n P c (.cond o x y) Q s := awpI_if hc (fun h => nomatch h) (fun _ => h)

/-- What a region comes to. -/
def nrm (Q : Exit → St → Prop) : Exit → St → Prop
  | .normal, s => Q .normal s
  | _, _ => False
theorem nrm_out {c : Ctx} {Q : Exit → St → Prop} : ¬ LetsOut (lift c (nrm Q)) := fun ⟨_, _, _, _, _, h⟩ => h
theorem nrm_lift {c : Ctx} {Q : Exit → St → Prop} {e : Exit} {a : Act} {w : World} (h : lift c (nrm Q) e a w) : lift c Q e a w := by
  obtain ⟨s, E, hr, hq⟩ := h
  cases e <;> first | exact ⟨s, E, hr, hq⟩ | exact hq.elim
theorem awpI_region {id : Nat} {l : List Oper} (hd : l.all noDefer = true) (h : Ops P c l.toArray l (nrm Q) s) : AWpI ro n P c (.region id l.toArray false) Q s :=
  fun E a w hr => wpIn_mono (wpIn_region_lit (listI nrm_out hd (h E a w hr))) fun e a w hl => nrm_lift hl
theorem awpI_any {id : Nat} {l : List Oper} (A : List Nat) (hm : P.follows .mixedOrders = true) (hd : l.all noDefer = true)
    (h : Text P c l.toArray A s (fun st => nrm Q .normal st) [] s l) : AWpI ro n P c (.region id l.toArray true) Q s :=
  fun E a w hr => wpIn_mono (wpIn_region_any hm (anyI nrm_out (by simpa using hd) (any_core A h hr))) fun e a w hl => nrm_lift hl
theorem awpI_turn {k : Code} {s' : St} (hs : Turns c s s') (h : AWpI ro n P c k Q s') : AWpI ro n P c k Q s := fun E a w hr => let ⟨E', hr'⟩ := hs E a w hr; h E' a w hr'
end
end Go.Proofs.Ytencghlmckbmlaa
