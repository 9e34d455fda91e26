/- The laws of the operations that turn no memory, over symbolic states. -/
import Derived.Test.YtencghlmckbmlaaStep
import Derived.Laws.StructEq
set_option linter.unusedVariables false
set_option linter.unusedSimpArgs false
namespace Go.Proofs.Ytencghlmckbmlaa
open Go Go.RowKit

section
variable {P : Program} {ρ : Operand → AV} {bk0 : Bk} {dst : Option Tmp} {ty : TypeId} {pos : String} {after : Array Edge} {gd : Option (Nat × Bool)}

theorem rep_val {E : Env} {w : World} {v x : Value} (h : Rep E w (.d (.v v)) x) : x = v := by
  cases h with
  | d h => cases h; rfl

theorem step_move {x : Operand} {v : AV} (hx : ρ x = v) : Step P ⟨dst, .move x, ty, pos, after, gd⟩ ρ bk0 v [] [] :=
  step_pure fun E w vals bk hv hB hb => ⟨vals x, rfl, hx ▸ hv x (by simp [Op.operands])⟩

theorem step_assign {x : Operand} {v : AV} (hx : ρ x = v) : Step P ⟨dst, .assign x, ty, pos, after, gd⟩ ρ bk0 v [] [] :=
  step_pure fun E w vals bk hv hB hb => ⟨vals x, rfl, hx ▸ hv x (by simp [Op.operands])⟩

theorem step_pick_true {c a b : Operand} {v : AV} (hc : ρ c = .d (.v (.bool true))) (hx : ρ a = v) : Step P ⟨dst, .pick c a b, ty, pos, after, gd⟩ ρ bk0 v [] [] :=
  step_pure fun E w vals bk hv hB hb => by
    have h1 := hv c (by simp [Op.operands])
    rw [hc] at h1
    have := rep_val h1
    exact ⟨vals a, by simp [execOp, this, asBool], hx ▸ hv a (by simp [Op.operands])⟩

theorem step_pick_false {c a b : Operand} {v : AV} (hc : ρ c = .d (.v (.bool false))) (hx : ρ b = v) : Step P ⟨dst, .pick c a b, ty, pos, after, gd⟩ ρ bk0 v [] [] :=
  step_pure fun E w vals bk hv hB hb => by
    have h1 := hv c (by simp [Op.operands])
    rw [hc] at h1
    have := rep_val h1
    exact ⟨vals b, by simp [execOp, this, asBool], hx ▸ hv b (by simp [Op.operands])⟩

theorem step_extract {x : Operand} {i : Nat} {vs : List AV} {v : AV} (hx : ρ x = .tup vs) (hi : vs[i]? = some v) : Step P ⟨dst, .extract x i, ty, pos, after, gd⟩ ρ bk0 v [] [] :=
  step_pure fun E w vals bk hv hB hb => by
    have h1 := hv x (by simp [Op.operands])
    rw [hx] at h1
    generalize hval : vals x = u at h1
    cases h1 with
    | tup _ arr hl h =>
      have hlt : i < arr.size := by
        rw [hl]
        exact (List.getElem?_eq_some_iff.1 hi).1
      refine ⟨arr[i], ?_, h i v arr[i] hi (Array.getElem?_eq_getElem hlt)⟩
      simp [execOp, hval, Instr.extract, hlt]

theorem step_nilCheck_ptr {x : Operand} {b i k o : Nat} (hx : ρ x = .ptr b i k o) : Step P ⟨dst, .nilCheck x, ty, pos, after, gd⟩ ρ bk0 (.ptr b i k o) [] [] :=
  step_pure fun E w vals bk hv hB hb => by
    have h1 := hv x (by simp [Op.operands])
    rw [hx] at h1
    refine ⟨vals x, ?_, h1⟩
    generalize hval : vals x = u at h1
    cases h1
    simp [execOp, hval]

theorem step_nilCheck_rop {x : Operand} {row : List D} (hx : ρ x = .rop row) : Step P ⟨dst, .nilCheck x, ty, pos, after, gd⟩ ρ bk0 (.rop row) [] [] :=
  step_pure fun E w vals bk hv hB hb => by
    have h1 := hv x (by simp [Op.operands])
    rw [hx] at h1
    refine ⟨vals x, ?_, h1⟩
    generalize hval : vals x = u at h1
    cases h1
    simp [execOp, hval]

/-! ### numbers and bools -/

def intV (op : BinOp) (k : IntKind) (x y : Int) : Option Value :=
  match op with
  | .add => some (.int k (k.wrap (x + y)))
  | .sub => some (.int k (k.wrap (x - y)))
  | .mul => some (.int k (k.wrap (x * y)))
  | .eql => some (.bool (x == y))
  | .neq => some (.bool (x != y))
  | .lss => some (.bool (decide (x < y)))
  | .leq => some (.bool (decide (x ≤ y)))
  | .gtr => some (.bool (decide (x > y)))
  | .geq => some (.bool (decide (x ≥ y)))
  | .and => some (.int k (k.wrap (BitVec.ofInt k.bits x &&& BitVec.ofInt k.bits y).toNat))
  | .or => some (.int k (k.wrap (BitVec.ofInt k.bits x ||| BitVec.ofInt k.bits y).toNat))
  | .xor => some (.int k (k.wrap (BitVec.ofInt k.bits x ^^^ BitVec.ofInt k.bits y).toNat))
  | .andNot => some (.int k (k.wrap (BitVec.ofInt k.bits x &&& ~~~BitVec.ofInt k.bits y).toNat))
  | .quo => if y = 0 then none else some (.int k (k.wrap (x.tdiv y)))
  | .rem => if y = 0 then none else some (.int k (x.tmod y))
  | _ => none

theorem intV_one {op : BinOp} {k : IntKind} {x y : Int} {v : Value} (h : intV op k x y = some v) : v.oneCell' = true := by
  cases op <;> simp only [intV] at h <;> first
    | (injection h with h; subst h; rfl)
    | (split at h <;> first | (injection h with h; subst h; rfl) | cases h)
    | cases h

theorem run_intV {op : BinOp} {k : IntKind} {x y : Int} {v : Value} (h : intV op k x y = some v) (t : TypeId) (w : World) :
    (binOp op t (.int k x) (.int k y)).run P w = .ok v w := by
  cases op <;> simp only [intV] at h <;> first
    | (injection h with h; subst h; simp [binOp, Op.intArith, Op.intCmp, Op.intBits]; done)
    | (split at h <;> first | (injection h with h; subst h; rename_i h0; simp [binOp, Op.intDiv, h0]; done) | cases h)
    | cases h

theorem eqGuard_run (op : BinOp) (t : TypeId) (x y : Operand) (a b : Value) (h : (∀ xs, a ≠ .agg xs) ∧ a ≠ .nilIface) (w : World) : (eqGuard op t x y a b).run P w = .ok () w := by
  unfold eqGuard
  cases op <;> simp <;> (split <;> first | (exact absurd rfl h.2) | (exact absurd rfl (h.1 _)) | simp)

theorem step_int {op : BinOp} {t t' : TypeId} {x y : Operand} {k : IntKind} {a b : Int} {v : Value} (hx : ρ x = .d (.v (.int k a))) (hy : ρ y = .d (.v (.int k b)))
    (hr : intV op k a b = some v) : Step P ⟨dst, .binOp op t x y t', ty, pos, after, gd⟩ ρ bk0 (.d (.v v)) [] [] :=
  step_pure fun E w vals bk hv hB hb => by
    have h1 := hv x (by simp [Op.operands]); rw [hx] at h1
    have h2 := hv y (by simp [Op.operands]); rw [hy] at h2
    refine ⟨v, ?_, .d (.v v (intV_one hr))⟩
    simp only [execOp, rep_val h1, rep_val h2, Sem.run_bind, eqGuard_run op t x y (.int k a) (.int k b) ⟨by simp, by simp⟩, Result.andThen_ok, run_intV hr, Sem.run_pure]

/-- The same where the result's number is known to be another's. -/
theorem step_intn {op : BinOp} {t t' : TypeId} {x y : Operand} {k : IntKind} {a b z n : Int} (hx : ρ x = .d (.v (.int k a))) (hy : ρ y = .d (.v (.int k b)))
    (hr : intV op k a b = some (.int k n)) (hz : n = z) : Step P ⟨dst, .binOp op t x y t', ty, pos, after, gd⟩ ρ bk0 (.d (.v (.int k z))) [] [] := hz ▸ step_int hx hy hr

theorem step_shl {t t' : TypeId} {x y : Operand} {k k' : IntKind} {a b : Int} (hx : ρ x = .d (.v (.int k a))) (hy : ρ y = .d (.v (.int k' b))) (h0 : 0 ≤ b) :
    Step P ⟨dst, .binOp .shl t x y t', ty, pos, after, gd⟩ ρ bk0 (.d (.v (.int k (k.wrap (a * 2 ^ (min b.toNat k.bits)))))) [] [] :=
  step_pure fun E w vals bk hv hB hb => by
    have h1 := hv x (by simp [Op.operands]); rw [hx] at h1
    have h2 := hv y (by simp [Op.operands]); rw [hy] at h2
    refine ⟨_, ?_, .d (.v _ rfl)⟩
    simp only [execOp, rep_val h1, rep_val h2, Sem.run_bind, eqGuard_run .shl t x y (.int k a) (.int k' b) ⟨by simp, by simp⟩, Result.andThen_ok, binOp, Op.shift, Sem.run_pure,
      if_neg (show ¬ b < 0 by omega)]

theorem step_shr {t t' : TypeId} {x y : Operand} {k k' : IntKind} {a b : Int} (hx : ρ x = .d (.v (.int k a))) (hy : ρ y = .d (.v (.int k' b))) (h0 : 0 ≤ b) :
    Step P ⟨dst, .binOp .shr t x y t', ty, pos, after, gd⟩ ρ bk0 (.d (.v (.int k (a.fdiv (2 ^ (min b.toNat k.bits)))))) [] [] :=
  step_pure fun E w vals bk hv hB hb => by
    have h1 := hv x (by simp [Op.operands]); rw [hx] at h1
    have h2 := hv y (by simp [Op.operands]); rw [hy] at h2
    refine ⟨_, ?_, .d (.v _ rfl)⟩
    simp only [execOp, rep_val h1, rep_val h2, Sem.run_bind, eqGuard_run .shr t x y (.int k a) (.int k' b) ⟨by simp, by simp⟩, Result.andThen_ok, binOp, Op.shift, Sem.run_pure,
      if_neg (show ¬ b < 0 by omega)]

theorem run_equal_bool {t : TypeId} (ht : P.underlying t = some .bool) (w : World) (a b : Bool) : (Op.equal t (.bool a) (.bool b)).run P w = .ok (a == b) w := by
  have e : ∀ d, (Op.equalIn (d + 1) t (.bool a) (.bool b)).run P w = .ok (a == b) w := by intro d; simp [Op.equalIn, run_underlying ht]
  exact e 9999

theorem step_booleq {t t' : TypeId} {x y : Operand} {a b : Bool} (hx : ρ x = .d (.v (.bool a))) (hy : ρ y = .d (.v (.bool b))) (ht : P.underlying t = some .bool) :
    Step P ⟨dst, .binOp .eql t x y t', ty, pos, after, gd⟩ ρ bk0 (.d (.v (.bool (a == b)))) [] [] :=
  step_pure fun E w vals bk hv hB hb => by
    have h1 := hv x (by simp [Op.operands]); rw [hx] at h1
    have h2 := hv y (by simp [Op.operands]); rw [hy] at h2
    refine ⟨_, ?_, .d (.v _ rfl)⟩
    have e : (Op.equal t (.bool a) (.bool b)).run P w = .ok (a == b) w := run_equal_bool ht w a b
    simp only [execOp, rep_val h1, rep_val h2, Sem.run_bind, eqGuard_run .eql t x y (.bool a) (.bool b) ⟨by simp, by simp⟩, Result.andThen_ok, binOp, e, Sem.run_pure]

theorem step_boolne {t t' : TypeId} {x y : Operand} {a b : Bool} (hx : ρ x = .d (.v (.bool a))) (hy : ρ y = .d (.v (.bool b))) (ht : P.underlying t = some .bool) :
    Step P ⟨dst, .binOp .neq t x y t', ty, pos, after, gd⟩ ρ bk0 (.d (.v (.bool (!(a == b))))) [] [] :=
  step_pure fun E w vals bk hv hB hb => by
    have h1 := hv x (by simp [Op.operands]); rw [hx] at h1
    have h2 := hv y (by simp [Op.operands]); rw [hy] at h2
    refine ⟨_, ?_, .d (.v _ rfl)⟩
    have e : (Op.equal t (.bool a) (.bool b)).run P w = .ok (a == b) w := run_equal_bool ht w a b
    simp only [execOp, rep_val h1, rep_val h2, Sem.run_bind, eqGuard_run .neq t x y (.bool a) (.bool b) ⟨by simp, by simp⟩, Result.andThen_ok, binOp, e, Sem.run_pure]

theorem step_not {t : TypeId} {x : Operand} {a : Bool} (hx : ρ x = .d (.v (.bool a))) : Step P ⟨dst, .unOp .not t x, ty, pos, after, gd⟩ ρ bk0 (.d (.v (.bool (!a)))) [] [] :=
  step_pure fun E w vals bk hv hB hb => by
    have h1 := hv x (by simp [Op.operands]); rw [hx] at h1
    exact ⟨_, by simp [execOp, rep_val h1, Op.unary], .d (.v _ rfl)⟩

theorem step_neg {t : TypeId} {x : Operand} {k : IntKind} {a : Int} (hx : ρ x = .d (.v (.int k a))) : Step P ⟨dst, .unOp .neg t x, ty, pos, after, gd⟩ ρ bk0 (.d (.v (.int k (k.wrap (0 - a))))) [] [] :=
  step_pure fun E w vals bk hv hB hb => by
    have h1 := hv x (by simp [Op.operands]); rw [hx] at h1
    exact ⟨.int k (k.wrap (0 - a)), by simp [execOp, rep_val h1, Op.unary, Op.intArith], .d (.v _ rfl)⟩

theorem step_conv {s d : TypeId} {x : Operand} {k k' : IntKind} {a : Int} {ds : TypeDesc} (hx : ρ x = .d (.v (.int k a))) (hs : P.underlying s = some ds) (hd : P.underlying d = some (.int k')) :
    Step P ⟨dst, .convert s d x, ty, pos, after, gd⟩ ρ bk0 (.d (.v (.int k' (k'.wrap a)))) [] [] :=
  step_pure fun E w vals bk hv hB hb => by
    have h1 := hv x (by simp [Op.operands]); rw [hx] at h1
    refine ⟨_, ?_, .d (.v _ rfl)⟩
    simp [execOp, rep_val h1, convert, run_underlying hs, run_underlying hd, Conv.intToInt]

theorem step_min {t : Array TypeId} {x y : Operand} {k : IntKind} {a b : Int} (hx : ρ x = .d (.v (.int k a))) (hy : ρ y = .d (.v (.int k b))) :
    Step P ⟨dst, .call ⟨.builtin .min, #[x, y], t⟩, ty, pos, after, gd⟩ ρ bk0 (.d (.v (.int k (if b < a then b else a)))) [] [] :=
  step_pure fun E w vals bk hv hB hb => by
    have h1 := hv x (by simp [Op.operands, Call.operands]); rw [hx] at h1
    have h2 := hv y (by simp [Op.operands, Call.operands]); rw [hy] at h2
    refine ⟨_, ?_, .d (.v _ rfl)⟩
    simp [execOp, resolve, invoke, builtin, rep_val h1, rep_val h2, Builtin.min_, Builtin.min2]

theorem step_max {t : Array TypeId} {x y : Operand} {k : IntKind} {a b : Int} (hx : ρ x = .d (.v (.int k a))) (hy : ρ y = .d (.v (.int k b))) :
    Step P ⟨dst, .call ⟨.builtin .max, #[x, y], t⟩, ty, pos, after, gd⟩ ρ bk0 (.d (.v (.int k (if b > a then b else a)))) [] [] :=
  step_pure fun E w vals bk hv hB hb => by
    have h1 := hv x (by simp [Op.operands, Call.operands]); rw [hx] at h1
    have h2 := hv y (by simp [Op.operands, Call.operands]); rw [hy] at h2
    refine ⟨_, ?_, .d (.v _ rfl)⟩
    simp [execOp, resolve, invoke, builtin, rep_val h1, rep_val h2, Builtin.max_, Builtin.max2]

/-! ### slices: len -/

theorem rep_ro {E : Env} {w : World} {xs : List (List D)} {x : Value} (h : Rep E w (.d (.s xs)) x) : ∃ a c, x = .slice a xs.length c := by
  cases h with
  | d h =>
    cases h with
    | nil a c => exact ⟨a, c, rfl⟩
    | s _ b o k cap g => exact ⟨_, _, rfl⟩

theorem rep_own {E : Env} {w : World} {b i k n : Nat} {x : Value} (h : Rep E w (.own b i k n) x) : ∃ a c, x = .slice a n c := by
  cases h with
  | own _ _ _ _ g cap => exact ⟨_, cap, rfl⟩
  | ownNil => exact ⟨_, _, rfl⟩

theorem step_len_slice {t e : TypeId} {x : Operand} {n : Nat} (hx : ∀ E w v, Rep E w (ρ x) v → ∃ a c, v = .slice a n c) (ht : P.underlying t = some (.slice e)) :
    Step P ⟨dst, .call ⟨.builtin .len, #[x], #[t]⟩, ty, pos, after, gd⟩ ρ bk0 (.d (.v (.int .i64 n))) [] [] :=
  step_pure fun E w vals bk hv hB hb => by
    obtain ⟨a, c, h1⟩ := hx E w _ (hv x (by simp [Op.operands, Call.operands]))
    refine ⟨_, ?_, .d (.v _ rfl)⟩
    simp [execOp, resolve, invoke, builtin, h1, Builtin.len_, run_underlying ht, goInt]

theorem step_len_ro {t e : TypeId} {x : Operand} {xs : List (List D)} (hx : ρ x = .d (.s xs)) (ht : P.underlying t = some (.slice e)) :
    Step P ⟨dst, .call ⟨.builtin .len, #[x], #[t]⟩, ty, pos, after, gd⟩ ρ bk0 (.d (.v (.int .i64 xs.length))) [] [] :=
  step_len_slice (fun E w v h => rep_ro (hx ▸ h)) ht

theorem step_len_own {t e : TypeId} {x : Operand} {b i k n : Nat} (hx : ρ x = .own b i k n) (ht : P.underlying t = some (.slice e)) :
    Step P ⟨dst, .call ⟨.builtin .len, #[x], #[t]⟩, ty, pos, after, gd⟩ ρ bk0 (.d (.v (.int .i64 n))) [] [] :=
  step_len_slice (fun E w v h => rep_own (hx ▸ h)) ht

theorem step_len_nil {t e : TypeId} {x : Operand} (hx : ρ x = .nil) (ht : P.underlying t = some (.slice e)) :
    Step P ⟨dst, .call ⟨.builtin .len, #[x], #[t]⟩, ty, pos, after, gd⟩ ρ bk0 (.d (.v (.int .i64 0))) [] [] :=
  step_len_slice (n := 0) (fun E w v h => by rw [hx] at h; cases h; exact ⟨_, _, rfl⟩) ht

theorem step_makeFunc0 {f : FuncId} : Step P ⟨dst, .makeFunc (.func f) #[] #[], ty, pos, after, gd⟩ ρ bk0 (.clo f [] []) [] [] :=
  step_pure fun E w vals bk hv hB hb => ⟨.func (.func f) #[] #[], by simp [execOp, Instr.makeFunc], .clo f [] [] #[] #[] rfl rfl (fun i c v h => by simp at h) (fun i c v h => by simp at h)⟩

theorem step_makeFunc {f : FuncId} {a b : Array Operand} {xs ys : List AV} (ha : a.toList.map ρ = xs) (hb : b.toList.map ρ = ys) :
    Step P ⟨dst, .makeFunc (.func f) a b, ty, pos, after, gd⟩ ρ bk0 (.clo f xs ys) [] [] :=
  step_pure fun E w vals bk hv hB _ => by
    refine ⟨.func (.func f) (a.map vals) (b.map vals), by simp [execOp, Instr.makeFunc], ?_⟩
    subst ha; subst hb
    refine .clo f _ _ _ _ (by simp) (by simp) (fun i c v h1 h2 => ?_) (fun i c v h1 h2 => ?_)
    · simp only [List.getElem?_map, Array.getElem?_map] at h1 h2
      cases hx : a[i]? with
      | none => rw [hx] at h2; simp at h2
      | some x =>
        rw [hx] at h2
        have : a.toList[i]? = some x := by simpa using hx
        rw [this] at h1
        simp at h1 h2
        rw [← h1, ← h2]
        exact hv x (by simp only [Op.operands, Array.toList_append, List.mem_append]; exact .inl (List.mem_of_getElem? this))
    · simp only [List.getElem?_map, Array.getElem?_map] at h1 h2
      cases hx : b[i]? with
      | none => rw [hx] at h2; simp at h2
      | some x =>
        rw [hx] at h2
        have : b.toList[i]? = some x := by simpa using hx
        rw [this] at h1
        simp at h1 h2
        rw [← h1, ← h2]
        exact hv x (by simp only [Op.operands, Array.toList_append, List.mem_append]; exact .inr (List.mem_of_getElem? this))
end

end Go.Proofs.Ytencghlmckbmlaa
