/- Structs of whole numbers against each other. -/
import Derived.Test.YtencghlmckbmlaaCell
import Derived.Laws.StructEq
set_option linter.unusedVariables false
set_option linter.unusedSimpArgs false
set_option maxRecDepth 100000
namespace Go.Proofs.Ytencghlmckbmlaa
open Go Go.RowKit

section
variable {P : Program}

/-- Fields that are whole numbers, one behind the other. -/
def flatF (P : Program) : Nat → List Field → Bool
  | _, [] => true
  | i, f :: fs => f.name != "_" && Nat.beq f.offset i && scalB P f.type && (match P.underlying f.type with | some (.int _) => true | _ => false) && flatF P (i + 1) fs

def numsOf : List AV → Option (List (IntKind × Int))
  | [] => some []
  | .d (.v (.int k n)) :: r => match numsOf r with
    | some l => some ((k, n) :: l)
    | none => none
  | _ :: _ => none

theorem numsOf_get : ∀ {cs : List AV} {A : List (IntKind × Int)}, numsOf cs = some A → A.length = cs.length ∧ ∀ (j : Nat) (p : IntKind × Int), A[j]? = some p → cs[j]? = some (.d (.v (.int p.1 p.2)))
  | [], A, h => by simp [numsOf] at h; subst h; exact ⟨rfl, fun j p h => by simp at h⟩
  | c :: r, A, h => by
    unfold numsOf at h
    split at h
    · rename_i e; cases e
    · rename_i k n r' e
      injection e with e1 e2
      subst e1; subst e2
      split at h
      · rename_i l hl
        injection h with h; subst h
        obtain ⟨h1, h2⟩ := numsOf_get hl
        refine ⟨by simp [h1], fun j p hj => ?_⟩
        cases j with
        | zero => simp at hj; subst hj; rfl
        | succ j => exact h2 j p (by simpa using hj)
      · cases h
    · cases h

def eqNums : List (IntKind × Int) → List (IntKind × Int) → Bool
  | (_, a) :: r, (_, b) :: s => a == b && eqNums r s
  | _, _ => true

theorem run_part_scal {t o : Nat} {xs : Array Value} {v : Value} (ht : scalB P t = true) (hx : xs[o]? = some v) (w : World) : (part t xs o).run P w = .ok v w := by
  have hagg : (isAgg t).run P w = .ok false w := by
    unfold scalB at ht
    cases hu : P.underlying t with
    | none => simp [hu] at ht
    | some d =>
      unfold isAgg
      rw [Sem.run_bind, run_underlying hu w]
      rw [hu] at ht
      cases d <;> first | rfl | (simp at ht; done)
  unfold part
  rw [Sem.run_bind, hagg]
  simp only [Result.andThen_ok, Bool.false_eq_true, if_false, hx, Sem.run_pure]

theorem run_eqFields_flat (w : World) (d : Nat) (xs ys : Array Value) : ∀ (fs : List Field) (i : Nat) (A B : List (IntKind × Int)), flatF P i fs = true → A.length = fs.length → B.map (·.1) = A.map (·.1) →
    (∀ (j : Nat) (p : IntKind × Int), A[j]? = some p → xs[i + j]? = some (.int p.1 p.2)) → (∀ (j : Nat) (p : IntKind × Int), B[j]? = some p → ys[i + j]? = some (.int p.1 p.2)) →
    (Op.eqFields (d + 1) xs ys fs).run P w = .ok (eqNums A B) w
  | [], i, A, B, _, hA, _, _, _ => by
    have : A = [] := List.eq_nil_of_length_eq_zero (by simpa using hA)
    subst this
    simp [Op.eqFields, eqNums]
  | f :: fs, i, [], B, _, hA, _, _, _ => by simp at hA
  | f :: fs, i, (k, a) :: A, [], _, _, hB, _, _ => by simp at hB
  | f :: fs, i, (k, a) :: A, (k', b) :: B, hf, hA, hB, hx, hy => by
    simp only [flatF, Bool.and_eq_true] at hf
    obtain ⟨⟨⟨⟨h1, h2⟩, h3⟩, h4⟩, h5⟩ := hf
    have ho := Nat.eq_of_beq_eq_true h2
    simp only [List.map_cons, List.cons.injEq] at hB
    obtain ⟨rfl, hB⟩ := hB
    have hx0 := hx 0 (k', a) rfl
    have hy0 := hy 0 (k', b) rfl
    simp only [Nat.add_zero] at hx0 hy0
    have ih := run_eqFields_flat w d xs ys fs (i + 1) A B h5 (by simpa using hA) hB (fun j p hj => by have := hx (j + 1) p (by simpa using hj); rwa [Nat.add_comm j 1, ← Nat.add_assoc] at this)
      (fun j p hj => by have := hy (j + 1) p (by simpa using hj); rwa [Nat.add_comm j 1, ← Nat.add_assoc] at this)
    have hname : f.name ≠ "_" := by simpa using h1
    obtain ⟨kk, hu⟩ : ∃ kk, P.underlying f.type = some (.int kk) := by
      split at h4
      · rename_i kk hk; exact ⟨kk, hk⟩
      · cases h4
    simp only [Op.eqFields, if_pos hname, Sem.run_bind, run_part_scal h3 (ho ▸ hx0) w, run_part_scal h3 (ho ▸ hy0) w, Result.andThen_ok, run_equalIn_int _ d f.type k' kk a b hu, Sem.run_ite, ih, Sem.run_pure, eqNums]
    cases a == b <;> simp

variable {ρ : Operand → AV} {bk0 : Bk} {dst : Option Tmp} {ty : TypeId} {pos : String} {after : Array Edge} {gd : Option (Nat × Bool)}

def flatT (P : Program) (t : Nat) : Bool := (match P.underlying t with | some (.struct _) => true | _ => false) && !P.stoodInHeld t && !P.eqGuardType P.depth t && flatF P 0 (P.fieldsOf t).toList

theorem run_flat {t : Nat} {cs ds : List AV} {A B : List (IntKind × Int)} {E : Env} {w : World} {u v : Value} (ht : flatT P t = true) (hu : Rep E w (.agg cs) u) (hv : Rep E w (.agg ds) v) (hA : numsOf cs = some A) (hB : numsOf ds = some B)
    (hl : A.length = (P.fieldsOf t).size) (hk : B.map (·.1) = A.map (·.1)) (x y : Operand) (op : BinOp) :
    (∃ xs ys, u = .agg xs ∧ v = .agg ys ∧ (Op.equalIn 10000 t (.agg xs) (.agg ys)).run P w = .ok (eqNums A B) w ∧ (eqGuard op t x y (.agg xs) (.agg ys)).run P w = .ok () w) := by
  simp only [flatT, Bool.and_eq_true, Bool.not_eq_true'] at ht
  obtain ⟨⟨⟨h1, h2⟩, h3⟩, h4⟩ := ht
  cases hu with
  | agg _ xs hxl hx1 hx =>
    cases hv with
    | agg _ ys hyl hy1 hy =>
      refine ⟨xs, ys, rfl, rfl, ?_, run_eqGuard_agg w op t x y xs ys h3⟩
      have hst : P.underlying t = some (.struct (P.fieldsOf t)) := by
        unfold Program.fieldsOf
        split at h1
        · rename_i fs hfs; rw [hfs]
        · cases h1
      rw [run_equalIn_agg w 9999 t xs ys hst h2]
      obtain ⟨hAl, hAg⟩ := numsOf_get hA
      obtain ⟨hBl, hBg⟩ := numsOf_get hB
      refine run_eqFields_flat w 9998 xs ys _ 0 A B h4 (by simpa using hl) hk (fun j p hj => ?_) (fun j p hj => ?_)
      · have hjl : j < xs.size := by have := (List.getElem?_eq_some_iff.1 hj).1; omega
        have := hx j _ _ (hAg j p hj) (Array.getElem?_eq_getElem hjl)
        rw [Nat.zero_add, Array.getElem?_eq_getElem hjl, rep_val this]
      · have hjl : j < ys.size := by have := (List.getElem?_eq_some_iff.1 hj).1; omega
        have := hy j _ _ (hBg j p hj) (Array.getElem?_eq_getElem hjl)
        rw [Nat.zero_add, Array.getElem?_eq_getElem hjl, rep_val this]

theorem step_neqS {t t' : TypeId} {x y : Operand} {cs ds : List AV} {A B : List (IntKind × Int)} (hx : ρ x = .agg cs) (hy : ρ y = .agg ds) (ht : flatT P t = true) (hA : numsOf cs = some A) (hB : numsOf ds = some B)
    (hl : A.length = (P.fieldsOf t).size) (hk : B.map (·.1) = A.map (·.1)) : Step P ⟨dst, .binOp .neq t x y t', ty, pos, after, gd⟩ ρ bk0 (.d (.v (.bool (!eqNums A B)))) [] [] :=
  step_pure fun E w vals bk hv hB' hb => by
    have h1 := hv x (by simp [Op.operands]); rw [hx] at h1
    have h2 := hv y (by simp [Op.operands]); rw [hy] at h2
    obtain ⟨xs, ys, e1, e2, e3, e4⟩ := run_flat ht h1 h2 hA hB hl hk x y .neq
    refine ⟨_, ?_, .d (.v _ rfl)⟩
    simp only [execOp, e1, e2, Sem.run_bind, e4, Result.andThen_ok, run_neq_struct, e3, Sem.run_pure]

theorem step_eqS {t t' : TypeId} {x y : Operand} {cs ds : List AV} {A B : List (IntKind × Int)} (hx : ρ x = .agg cs) (hy : ρ y = .agg ds) (ht : flatT P t = true) (hA : numsOf cs = some A) (hB : numsOf ds = some B)
    (hl : A.length = (P.fieldsOf t).size) (hk : B.map (·.1) = A.map (·.1)) : Step P ⟨dst, .binOp .eql t x y t', ty, pos, after, gd⟩ ρ bk0 (.d (.v (.bool (eqNums A B)))) [] [] :=
  step_pure fun E w vals bk hv hB' hb => by
    have h1 := hv x (by simp [Op.operands]); rw [hx] at h1
    have h2 := hv y (by simp [Op.operands]); rw [hy] at h2
    obtain ⟨xs, ys, e1, e2, e3, e4⟩ := run_flat ht h1 h2 hA hB hl hk x y .eql
    refine ⟨_, ?_, .d (.v _ rfl)⟩
    simp only [execOp, e1, e2, Sem.run_bind, e4, Result.andThen_ok, run_eql_struct, e3, Sem.run_pure]
end

theorem flat195 : flatT Try.prog 195 = true := by kernel_rfl
theorem size195 : (Try.prog.fieldsOf 195).size = 3 := by kernel_rfl

section
variable {s : St} {bk0 : Bk} {dst : Option Tmp} {ty : TypeId} {pos : String} {after : Array Edge} {gd : Option (Nat × Bool)}
theorem neqST {t t' n : Nat} {x y : Operand} {cs ds : List AV} {A B : List (IntKind × Int)} (ht : flatT Try.prog t = true) (hn : (Try.prog.fieldsOf t).size = n) (hx : evalO s x = some (.agg cs)) (hy : evalO s y = some (.agg ds)) (hA : numsOf cs = some A) (hB : numsOf ds = some B)
    (hl : A.length = n) (hk : B.map (·.1) = A.map (·.1)) : Step Try.prog ⟨dst, .binOp .neq t x y t', ty, pos, after, gd⟩ (evalA s) bk0 (.d (.v (.bool (!eqNums A B)))) [] [] :=
  step_neqS (ev hx) (ev hy) ht hA hB (hl.trans hn.symm) hk
end
end Go.Proofs.Ytencghlmckbmlaa
