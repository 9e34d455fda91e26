/- Returns that hand blocks back, and the blocks that a contract names, in forms that are checked entry by entry. -/
import Derived.Test.YtencghlmckbmlaaOpsH
set_option linter.unusedVariables false
set_option linter.unusedSimpArgs false
namespace Go.Proofs.Ytencghlmckbmlaa
open Go Go.RowKit

def ChL (l : List Nat) (bl : List (Nat × Option Blk)) : List (Nat × Option Blk) → Prop
  | [] => True
  | (n, some B) :: r => lookB bl n = some B ∧ l.contains n = true ∧ B.within l = true ∧ ChL l bl r
  | (_, none) :: r => ChL l bl r

def BlL (ch bl : List (Nat × Option Blk)) : List (Nat × Option Blk) → Prop
  | [] => True
  | (n, some B) :: r => ((findB ch n).isSome = true ∨ lookB bl n = some B) ∧ BlL ch bl r
  | (_, none) :: r => BlL ch bl r

theorem chL_mem {l : List Nat} {bl : List (Nat × Option Blk)} : ∀ {ch : List (Nat × Option Blk)}, ChL l bl ch → ∀ n B, (n, some B) ∈ ch → lookB bl n = some B ∧ l.contains n = true ∧ B.within l = true
  | [], _, n, B, h => by cases h
  | (m, some B') :: r, h, n, B, hm => by
    rcases List.mem_cons.1 hm with e | hm
    · injection e with e1 e2; injection e2 with e2; subst e1; subst e2; exact ⟨h.1, h.2.1, h.2.2.1⟩
    · exact chL_mem h.2.2.2 n B hm
  | (m, none) :: r, h, n, B, hm => by
    rcases List.mem_cons.1 hm with e | hm
    · injection e with e1 e2; cases e2
    · exact chL_mem (ch := r) h n B hm

theorem blL_mem {ch bl : List (Nat × Option Blk)} : ∀ {b0 : List (Nat × Option Blk)}, BlL ch bl b0 → ∀ n B, lookB b0 n = some B → (findB ch n).isSome = true ∨ lookB bl n = some B
  | [], _, n, B, h => by simp [lookB] at h
  | (m, some B') :: r, h, n, B, hn => by
    have e : lookB ((m, some B') :: r) n = bif Nat.beq m n then some B' else lookB r n := rfl
    rw [e] at hn
    cases hb : Nat.beq m n with
    | true => have := Nat.eq_of_beq_eq_true hb; subst this; rw [hb, cond_true] at hn; injection hn with hn; subst hn; exact h.1
    | false => rw [hb, cond_false] at hn; exact blL_mem h.2 n B hn
  | (m, none) :: r, h, n, B, hn => by
    have e : lookB ((m, none) :: r) n = bif Nat.beq m n then none else lookB r n := rfl
    rw [e] at hn
    cases hb : Nat.beq m n with
    | true => rw [hb, cond_true] at hn; cases hn
    | false => rw [hb, cond_false] at hn; exact blL_mem (b0 := r) h n B hn

theorem ret_blocks {P : Program} {fn : Func} {bl : List (Nat × Option Blk)} {r : AV} {ch : List (Nat × Option Blk)} {nw : List Nat} {s : St} {vs : List AV} (h : ResL P s fn.results.toList vs) (hr : (oneOf vs).wk = r)
    (hw : r.within (nw ++ namesB bl) = true) (hch : ChL (nw ++ namesB bl) s.bl ch) (hbl : BlL ch s.bl bl) : RetOk P fn bl r ch nw s :=
  ⟨vs, h, hr.symm, hw, (fun n B hf => by
    obtain ⟨h1, h2, _⟩ := chL_mem hch n B (findB_mem hf)
    exact ⟨h1, by simpa using h2⟩), fun n B hn => blL_mem hbl n B hn, (fun p hp B hB => by
    obtain ⟨n, o⟩ := p
    simp only at hB
    subst hB
    exact (chL_mem hch n B hp).2.2)⟩

def BlK (l : List Nat) : List (Nat × Option Blk) → Prop
  | [] => True
  | (_, some B) :: r => B.within l = true ∧ BlK l r
  | (_, none) :: r => BlK l r

def nodupB : List Nat → Bool
  | [] => true
  | n :: r => (r.all fun m => !(Nat.beq n m)) && nodupB r

def allSome : List (Nat × Option Blk) → Bool
  | [] => true
  | (_, some _) :: r => allSome r
  | (_, none) :: _ => false

theorem blK_mem {l : List Nat} : ∀ {bl : List (Nat × Option Blk)}, BlK l bl → ∀ n B, (n, some B) ∈ bl → B.within l = true
  | [], _, n, B, h => by cases h
  | (m, some B') :: r, h, n, B, hm => by
    rcases List.mem_cons.1 hm with e | hm
    · injection e with e1 e2; injection e2 with e2; subst e1; subst e2; exact h.1
    · exact blK_mem h.2 n B hm
  | (m, none) :: r, h, n, B, hm => by
    rcases List.mem_cons.1 hm with e | hm
    · injection e with e1 e2; cases e2
    · exact blK_mem (bl := r) h n B hm

theorem look_nodup : ∀ {bl : List (Nat × Option Blk)}, nodupB (namesB bl) = true → allSome bl = true → ∀ n B, (n, some B) ∈ bl → lookB bl n = some B
  | [], _, _, n, B, h => by cases h
  | (m, some B') :: r, hd, ha, n, B, hm => by
    simp only [namesB, nodupB, Bool.and_eq_true] at hd
    have e : lookB ((m, some B') :: r) n = bif Nat.beq m n then some B' else lookB r n := rfl
    rw [e]
    rcases List.mem_cons.1 hm with e | hm
    · injection e with e1 e2; injection e2 with e2; subst e1; subst e2; simp
    · have hl := look_nodup hd.2 ha n B hm
      have : n ∈ namesB r := namesB_mem hl
      have h2 := (List.all_eq_true.1 hd.1) n this
      have h3 : Nat.beq m n = false := by simpa using h2
      rw [h3, cond_false]; exact hl
  | (m, none) :: r, _, ha, n, B, hm => by cases ha

theorem blOk_of {bl : List (Nat × Option Blk)} (hd : nodupB (namesB bl) = true) (ha : allSome bl = true) (hk : BlK (namesB bl) bl) : BlOk bl := ⟨look_nodup hd ha, blK_mem hk⟩

/-! ### numbers -/

def vi (n : Int) : D := .v (.int .i64 n)
def vb (b : Bool) : D := .v (.bool b)

theorem idx_map {α β : Type} {l : List α} {f : α → β} {i : Nat} {x : α} (h : l[i]? = some x) : (l.map f)[((i : Nat) : Int).toNat]? = some (f x) := by simp [h]

theorem wrap_succ {i : Nat} (h : i < 9223372036854775807) : IntKind.i64.wrap ((i : Int) + 1) = ((i + 1 : Nat) : Int) := by
  rw [wrap_i64 ⟨by omega, by omega⟩]; omega

theorem mOr (b x : Bool) : (bif b == false then x else !false) = (b || x) := by cases b <;> rfl
theorem mAnd (b x : Bool) : (bif b == true then x else !true) = (b && x) := by cases b <;> rfl
theorem mY (x : Bool) : (bif x then true else false) = x := by cases x <;> rfl

end Go.Proofs.Ytencghlmckbmlaa

namespace Go.Proofs.Ytencghlmckbmlaa
open Go Go.RowKit

theorem freezeT {c : Ctx} {tl : List (Nat × AV)} {bl : List (Nat × Option Blk)} (t b : Nat) {k n : Nat} {rows : List (List D)} (ht : look tl t = .own b 0 k n) (hb : lookB bl b = some (.row k rows)) (hn : rows.length = n) :
    Turns c ⟨tl, bl⟩ ⟨(t, .d (.s rows)) :: tl, (b, none) :: bl⟩ := turn_freeze t b ht hb (by omega) (by subst hn; simp)

theorem idx_getD {α β : Type} {l : List α} {f : α → β} {i : Nat} {z : α} (h : i < l.length) : (l.map f)[((i : Nat) : Int).toNat]? = some (f (l.getD i z)) := by
  simp [List.getElem?_eq_getElem h, List.getD_eq_getElem?_getD]

end Go.Proofs.Ytencghlmckbmlaa

namespace Go.Proofs.Ytencghlmckbmlaa
open Go Go.RowKit

/-- A nil slice may be given where an empty one is asked for. -/
theorem spec_wk {P : Program} {f : Nat} {args args' : List AV} {bl ch : List (Nat × Option Blk)} {r : AV} {nw : List Nat} (h : wkL args = args') (hs : Spec P f args' bl r ch nw) : Spec P f args bl r ch nw := by
  subst h
  intro bk hbk hnw E w vals hargs hB
  refine hs bk hbk hnw E w vals ⟨by rw [hargs.len, wkL_length], fun i c v hc hv => ?_⟩ hB
  obtain ⟨c', h1, rfl⟩ := wkL_get args i c hc
  exact rep_wk (hargs.rep i c' v h1 hv)

end Go.Proofs.Ytencghlmckbmlaa

namespace Go.Proofs.Ytencghlmckbmlaa
open Go Go.RowKit

def SubTO : List (Nat × AV) → List (Nat × AV) → Prop
  | [], _ => True
  | (t, v) :: r, l => lookO l t = some v ∧ SubTO r l

theorem SubTO.sub : ∀ {l' l : List (Nat × AV)}, SubTO l' l → SubT l' l
  | [], _, _ => trivial
  | (t, v) :: r, l, h => ⟨lookO_look h.1, SubTO.sub h.2⟩

theorem turn_subO {c : Ctx} {tl tl' : List (Nat × AV)} {bl bl' : List (Nat × Option Blk)} (h1 : SubTO tl' tl) (h2 : SubB bl' bl) : Turns c ⟨tl, bl⟩ ⟨tl', bl'⟩ := turn_sub ⟨h1.sub, h2⟩

end Go.Proofs.Ytencghlmckbmlaa
