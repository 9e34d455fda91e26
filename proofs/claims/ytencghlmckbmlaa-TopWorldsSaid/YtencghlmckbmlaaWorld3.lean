/- Who receives what: plain functions, and lists of lists that are built one by one. -/
import Derived.Test.YtencghlmckbmlaaMisc1
set_option linter.unusedVariables false
set_option linter.unusedSimpArgs false
namespace Go.Proofs.Ytencghlmckbmlaa
open Go Go.RowKit

def spoils (w : Air) (s : Sending) (j : Nat) (k : Sending) : Bool :=
  overlapS k s && (((k.node : Int) == (j : Int)) || (((w.radios.getD k.node default).chan == (w.radios.getD j default).chan) && decide (levelS w s.node j < levelS w k.node j + 100)))
def canS (w : Air) (l : List Sending) (i j : Nat) : Bool :=
  (hearsS w j (l.getD i default).node && !decide (levelS w (l.getD i default).node j < (l.getD i default).need)) &&
    !(List.range l.length).any fun k => (k != i) && spoils w (l.getD i default) j (l.getD k default)

def keepR (draws : List Bool) (c : Nat) : Bool := decide ((c : Int) ≥ (draws.length : Nat)) || !(draws.getD c default)
def stepR (can : Nat → Nat → Bool) (draws : List Bool) (i : Nat) (v : Nat × List Nat) (j : Nat) : Nat × List Nat :=
  if can i j = true then (v.1 + 1, if keepR draws v.1 = true then v.2 ++ [j] else v.2) else v
def rowR (can : Nat → Nat → Bool) (draws : List Bool) (i c q : Nat) : Nat × List Nat := (List.range q).foldl (stepR can draws i) (c, [])
def stepO (can : Nat → Nat → Bool) (draws : List Bool) (n : Nat) (v : Nat × List (List Nat)) (i : Nat) : Nat × List (List Nat) :=
  ((rowR can draws i v.1 n).1, v.2 ++ [(rowR can draws i v.1 n).2])
def outR (can : Nat → Nat → Bool) (draws : List Bool) (n p : Nat) : Nat × List (List Nat) := (List.range p).foldl (stepO can draws n) (0, [])
def recvS (can : Nat → Nat → Bool) (draws : List Bool) (n m : Nat) : List (List Nat) := (outR can draws n m).2

theorem row_succ {can : Nat → Nat → Bool} {draws : List Bool} {i c q : Nat} : rowR can draws i c (q + 1) = stepR can draws i (rowR can draws i c q) q := by
  simp [rowR, List.range_succ, List.foldl_append]
theorem out_succ {can : Nat → Nat → Bool} {draws : List Bool} {n p : Nat} : outR can draws n (p + 1) = stepO can draws n (outR can draws n p) p := by
  simp [outR, List.range_succ, List.foldl_append]
theorem row_le {can : Nat → Nat → Bool} {draws : List Bool} {i c : Nat} : ∀ q, (rowR can draws i c q).1 ≤ c + q ∧ (rowR can draws i c q).2.length ≤ q
  | 0 => by simp [rowR]
  | q + 1 => by
    have := row_le (can := can) (draws := draws) (i := i) (c := c) q
    rw [row_succ]
    unfold stepR
    split
    · simp only
      split
      · simp only [List.length_append, List.length_cons, List.length_nil]; omega
      · omega
    · omega
theorem out_le {can : Nat → Nat → Bool} {draws : List Bool} {n : Nat} : ∀ p, (outR can draws n p).1 ≤ n * p ∧ (outR can draws n p).2.length = p
  | 0 => by simp [outR]
  | p + 1 => by
    have h := out_le (can := can) (draws := draws) (n := n) p
    have h2 := row_le (can := can) (draws := draws) (i := p) (c := (outR can draws n p).1) n
    rw [out_succ]
    unfold stepO
    refine ⟨?_, by simp [h.2]⟩
    show (rowR can draws p (outR can draws n p).1 n).1 ≤ n * (p + 1)
    rw [Nat.mul_add, Nat.mul_one]; omega

/-- The cells of a list of lists: those that are done, the one in work, nil. -/
def outCells (done : List (List Nat)) (x : AV) : Nat → AV := fun k => if k < done.length then .d (.s ((ints (done.getD k default)).map encInt)) else if k = done.length then x else .nil
theorem out_says {done : List (List Nat)} {b c : Nat} : ∀ i m, (outCells done (.own b 0 1 c) i).says m = true → m ∈ [b] := fun i m h => by
  unfold outCells at h
  split at h
  · cases h
  · split at h
    · have : (b == m) = true := h
      simp at this; simp [this]
    · cases h
theorem out_says0 {done : List (List Nat)} : ∀ i m, (outCells done .nil i).says m = true → m ∈ ([] : List Nat) := fun i m h => by
  unfold outCells at h
  split at h
  · cases h
  · split at h <;> cases h
theorem cells_eq {n : Nat} {f g : Nat → AV} {nm nm' : List Nat} {hs : ∀ i m, (f i).says m = true → m ∈ nm} {hs' : ∀ i m, (g i).says m = true → m ∈ nm'} (h : f = g) (h' : nm = nm') : Blk.cells n f nm hs = Blk.cells n g nm' hs' := by
  subst h; subst h'; rfl
theorem out_at {done : List (List Nat)} {x : AV} {p : Nat} (h : done.length = p) : outCells done x p = x := by
  unfold outCells; rw [if_neg (by omega), if_pos h.symm]
theorem out_other {done : List (List Nat)} {x y : AV} {p j : Nat} (h : done.length = p) (hj : j ≠ p) : outCells done x j = outCells done y j := by
  unfold outCells
  split
  · rfl
  · rw [if_neg (by omega), if_neg (by omega)]
theorem out_ren {done : List (List Nat)} {f : Nat → Nat} {b b' c : Nat} (h : f b = b') : (fun i => (outCells done (.own b 0 1 c) i).ren f) = outCells done (.own b' 0 1 c) := by
  funext i
  unfold outCells
  split
  · rfl
  · split
    · show AV.own (f b) 0 1 c = _; rw [h]
    · rfl
theorem out_done {done : List (List Nat)} {cur : List Nat} {p : Nat} (h : done.length = p) : outCells (done ++ [cur]) .nil p = .d (.s ((ints cur).map encInt)) := by
  unfold outCells
  rw [if_pos (by simp [h])]
  simp [List.getD_eq_getElem?_getD, h]
theorem out_done_other {done : List (List Nat)} {cur : List Nat} {x : AV} {p j : Nat} (h : done.length = p) (hj : j ≠ p) : outCells (done ++ [cur]) .nil j = outCells done x j := by
  unfold outCells
  by_cases h1 : j < p
  · rw [if_pos (by simp; omega), if_pos (by omega)]
    simp [List.getD_eq_getElem?_getD, List.getElem?_append_left (show j < done.length by omega)]
  · have h2 : ¬ j < (done ++ [cur]).length := by simp; omega
    rw [if_neg h2, if_neg (show ¬ j < done.length by omega), if_neg (show ¬ j = done.length by omega)]
    split <;> rfl
theorem out_all {done : List (List Nat)} {p i : Nat} (h : done.length = p) (hi : i < p) : outCells done .nil i = .d (.s ((ints (done.getD i default)).map encInt)) := by
  unfold outCells; rw [if_pos (by omega)]
theorem out_rows {done : List (List Nat)} {p : Nat} (h : done.length = p) : ((List.range p).map fun i => [D.s ((ints (done.getD i default)).map encInt)]) = (done.map ints).map encRow := by
  apply List.ext_getElem?
  intro i
  by_cases hi : i < p
  · simp [hi, h, encRow, List.getD_eq_getElem?_getD, List.getElem?_eq_getElem (show i < done.length by omega)]
  · rw [List.getElem?_eq_none (by simp; omega), List.getElem?_eq_none (by simp; omega)]
end Go.Proofs.Ytencghlmckbmlaa
