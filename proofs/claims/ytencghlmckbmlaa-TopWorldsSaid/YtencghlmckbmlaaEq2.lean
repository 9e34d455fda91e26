/- Comparisons whose outcome is known. -/
import Derived.Test.YtencghlmckbmlaaEq
set_option linter.unusedVariables false
set_option linter.unusedSimpArgs false
set_option maxRecDepth 100000
namespace Go.Proofs.Ytencghlmckbmlaa
open Go Go.RowKit

theorem flat112 : flatT Try.prog 112 = true := by kernel_rfl
theorem size112 : (Try.prog.fieldsOf 112).size = 2 := by kernel_rfl

section
variable {P : Program} {s : St} {bk0 : Bk} {dst : Option Tmp} {ty : TypeId} {pos : String} {after : Array Edge} {gd : Option (Nat × Bool)}

theorem neqFT {t t' : TypeId} {x y : Operand} {k : IntKind} {a b : Int} (hx : evalO s x = some (.d (.v (.int k a)))) (hy : evalO s y = some (.d (.v (.int k b)))) (h : a = b) :
    Step P ⟨dst, .binOp .neq t x y t', ty, pos, after, gd⟩ (evalA s) bk0 (.d (.v (.bool false))) [] [] := step_int (ev hx) (ev hy) (by subst h; simp [intV])

theorem eqNums_self : ∀ (A : List (IntKind × Int)), eqNums A A = true
  | [] => rfl
  | (_, a) :: r => by simp [eqNums, eqNums_self r]
end

section
variable {s : St} {bk0 : Bk} {dst : Option Tmp} {ty : TypeId} {pos : String} {after : Array Edge} {gd : Option (Nat × Bool)}
theorem neqSFT {t t' n : Nat} {x y : Operand} {cs ds : List AV} {A B : List (IntKind × Int)} (ht : flatT Try.prog t = true) (hn : (Try.prog.fieldsOf t).size = n) (hx : evalO s x = some (.agg cs)) (hy : evalO s y = some (.agg ds)) (hA : numsOf cs = some A) (hB : numsOf ds = some B)
    (hl : A.length = n) (h : A = B) : Step Try.prog ⟨dst, .binOp .neq t x y t', ty, pos, after, gd⟩ (evalA s) bk0 (.d (.v (.bool false))) [] [] := by
  have := step_neqS (dst := dst) (ty := ty) (pos := pos) (after := after) (gd := gd) (bk0 := bk0) (t' := t') (ev hx) (ev hy) ht hA hB (hl.trans hn.symm) (by rw [h])
  rw [h, eqNums_self] at this
  exact this
end
end Go.Proofs.Ytencghlmckbmlaa
