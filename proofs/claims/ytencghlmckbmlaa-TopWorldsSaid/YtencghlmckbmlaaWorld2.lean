/- Orders of nodes, and moves of positions: plain functions. -/
import Derived.Test.YtencghlmckbmlaaMedium1
import Derived.Test.YtencghlmckbmlaaCells
set_option linter.unusedVariables false
set_option linter.unusedSimpArgs false
namespace Go.Proofs.Ytencghlmckbmlaa
open Go Go.RowKit

def encU8 (x : Int) : List D := [.v (.int .u8 x)]

def swapS (L : List Nat) (i k : Nat) : List Nat := (L.set i (L.getD k default)).set k (L.getD i default)
def drawS (by_ : List Int) (i : Nat) : Nat := (by_.getD ((i : Int) % (by_.length : Int)).toNat default % ((i : Int) + 1)).toNat
def shuf (by_ : List Int) : Nat → List Nat → List Nat
  | 0, L => L
  | i + 1, L => if by_.length > 0 then shuf by_ i (swapS L (i + 1) (drawS by_ (i + 1))) else L
def orderS (n : Nat) (by_ : List Int) : List Nat := shuf by_ (n - 1) (List.range n)

structure Perm (n : Nat) (L : List Nat) : Prop where
  len : L.length = n
  lt : ∀ i, i < n → L.getD i default < n
  inj : ∀ i j, i < n → j < n → L.getD i default = L.getD j default → i = j
  surj : ∀ v, v < n → ∃ i, i < n ∧ L.getD i default = v

theorem getD_set_eq' {α : Type} [Inhabited α] {L : List α} {i : Nat} {x : α} (h : i < L.length) : (L.set i x).getD i default = x := by
  rw [List.getD_eq_getElem?_getD, List.getElem?_set_self h]; rfl
theorem getD_set_ne2 {α : Type} [Inhabited α] {L : List α} {i j : Nat} {x : α} (h : i ≠ j) : (L.set i x).getD j default = L.getD j default := by
  rw [List.getD_eq_getElem?_getD, List.getElem?_set_ne h, ← List.getD_eq_getElem?_getD]

theorem swap_get {L : List Nat} {n i k : Nat} (hl : L.length = n) (hi : i < n) (hk : k < n) (j : Nat) : (swapS L i k).getD j default = L.getD (if j = k then i else if j = i then k else j) default := by
  unfold swapS
  by_cases h1 : k = j
  · subst h1; rw [getD_set_eq' (by simp; omega), if_pos rfl]
  · rw [getD_set_ne2 h1, if_neg (fun e => h1 e.symm)]
    by_cases h2 : i = j
    · subst h2; rw [getD_set_eq' (by omega), if_pos rfl]
    · rw [getD_set_ne2 h2, if_neg (fun e => h2 e.symm)]

theorem Perm.swap {n : Nat} {L : List Nat} (h : Perm n L) {i k : Nat} (hi : i < n) (hk : k < n) : Perm n (swapS L i k) := by
  have hg := swap_get h.len hi hk
  have hτ : ∀ j, j < n → (if j = k then i else if j = i then k else j) < n := fun j hj => by split <;> (try split) <;> assumption
  refine ⟨by simp [swapS, h.len], fun j hj => by rw [hg]; exact h.lt _ (hτ j hj), fun a b ha hb e => ?_, fun v hv => ?_⟩
  · rw [hg, hg] at e
    have := h.inj _ _ (hτ a ha) (hτ b hb) e
    (repeat' split at this) <;> omega
  · obtain ⟨j, hj, e⟩ := h.surj v hv
    refine ⟨if j = k then i else if j = i then k else j, hτ j hj, ?_⟩
    rw [hg, ← e]
    congr 1
    (repeat' split) <;> omega

theorem draw_lt {by_ : List Int} {i : Nat} : drawS by_ i ≤ i := by
  unfold drawS
  have h1 := Int.emod_lt_of_pos (by_.getD ((i : Int) % (by_.length : Int)).toNat default) (show (0 : Int) < (i : Int) + 1 by omega)
  omega

theorem Perm.shuf {n : Nat} {by_ : List Int} : ∀ {i : Nat} {L : List Nat}, Perm n L → i < n → Perm n (shuf by_ i L)
  | 0, L, h, _ => h
  | i + 1, L, h, hi => by
    unfold Ytencghlmckbmlaa.shuf
    split
    · exact Perm.shuf (h.swap hi (by have := draw_lt (by_ := by_) (i := i + 1); omega)) (by omega)
    · exact h

theorem Perm.range (n : Nat) : Perm n (List.range n) := by
  have e : ∀ i, i < n → (List.range n).getD i default = i := fun i hi => by simp [List.getD_eq_getElem?_getD, List.getElem?_range hi]
  refine ⟨by simp, fun i hi => by rw [e i hi]; exact hi, fun i j hi hj h => by rw [e i hi, e j hj] at h; exact h, fun v hv => ⟨v, hv, e v hv⟩⟩

theorem order_perm {n : Nat} (h : 1 ≤ n) (by_ : List Int) : Perm n (orderS n by_) := (Perm.range n).shuf (by omega)
theorem order_nil {n : Nat} : orderS n [] = List.range n := by
  unfold orderS
  cases n - 1 <;> rfl

theorem ints_len {L : List Nat} : (ints L).length = L.length := by simp [ints]
theorem ints_get {L : List Nat} {i : Nat} (h : i < L.length) : (ints L).getD i default = ((L.getD i default : Nat) : Int) := by
  simp [ints, List.getD_eq_getElem?_getD, List.getElem?_eq_getElem h]

theorem asc_not_mem {b : List Int} (h : ∀ i, i + 1 < b.length → b.getD i default < b.getD (i + 1) default) : ∀ {p : Nat}, p < b.length → ∀ {q : Nat}, q < p → b.getD q default < b.getD p default
  | 0, _, q, hq => absurd hq (Nat.not_lt_zero _)
  | p + 1, hp, q, hq => by
    have h1 := h p hp
    by_cases e : q = p
    · subst e; exact h1
    · exact Int.lt_trans (asc_not_mem h (p := p) (by omega) (q := q) (by omega)) h1

theorem asc_take {b : List Int} (h : ∀ i, i + 1 < b.length → b.getD i default < b.getD (i + 1) default) {p : Nat} (hp : p < b.length) : b.getD p default ∉ b.take p := fun hm => by
  obtain ⟨q, hq, e⟩ := List.getElem_of_mem hm
  have hq' : q < p := by simp at hq; omega
  have := asc_not_mem h hp hq'
  rw [List.getElem_take] at e
  rw [← e, List.getD_eq_getElem?_getD, List.getElem?_eq_getElem (by omega)] at this
  simp at this

/-- A position turned, or mirrored, and moved. -/
def bitS (way b : Int) : Bool := IntKind.u8.wrap ((BitVec.ofInt IntKind.u8.bits way &&& BitVec.ofInt IntKind.u8.bits b).toNat) == b
def flipS (b : Bool) (x : Int) : Int := if b = true then 0 - x else x
def movedS (x y way dx dy : Int) : Int × Int :=
  if bitS way 4 = true then (flipS (bitS way 2) y + dx, flipS (bitS way 1) x + dy) else (flipS (bitS way 1) x + dx, flipS (bitS way 2) y + dy)
theorem flip_b {b : Bool} {x A : Int} (h0 : -A ≤ x) (h1 : x ≤ A) : -A ≤ flipS b x ∧ flipS b x ≤ A := by unfold flipS; split <;> omega
end Go.Proofs.Ytencghlmckbmlaa
