/- Contracts of functions over symbolic states; calls by contract; a body against its contract. -/
import Derived.Test.YtencghlmckbmlaaCall
set_option linter.unusedVariables false
set_option linter.unusedSimpArgs false
namespace Go.Proofs.Ytencghlmckbmlaa
open Go Go.RowKit

structure RepArgs (E : Env) (w : World) (args : List AV) (vals : Array Value) : Prop where
  len : vals.size = args.length
  rep : ∀ (i : Nat) (c : AV) (v : Value), args[i]? = some c → vals[i]? = some v → Rep E w c v

/-- Called with what 'args' say over at least the blocks bl, f returns r; the blocks are then as ch says (others as before); nw are new names. -/
def Spec (P : Program) (f : Nat) (args : List AV) (bl : List (Nat × Option Blk)) (r : AV) (ch : List (Nat × Option Blk)) (nw : List Nat) : Prop :=
  ∀ (bk : Bk), (∀ n B, lookB bl n = some B → bk n = some B) → (∀ n ∈ nw, bk n = none ∧ ∀ m B, bk m = some B → B.says n = false) →
    ∀ (E : Env) (w : World) (vals : Array Value), RepArgs E w args vals → Blks E w bk →
      Calls P f vals w fun e w' => ∃ val, e = .returned val ∧ ∃ E', Blks E' w' (updB ch bk) ∧ Rep E' w' r val ∧ Grow E E' w w' bk (· ∈ nw) ∧
        (∀ n g, updB ch bk n ≠ none → E'.blk n = some g → (∃ m, bk m ≠ none ∧ E.blk m = some g) ∨ w.heap.size ≤ g)

def callB (P : Program) (f : Nat) : Bool :=
  match P.funcs[f]? with
  | some fn => !(fn.name == "runtime.NumGoroutine") && fn.body.isSome
  | none => false

section
variable {P : Program} {ρ : Operand → AV} {bk0 : Bk} {dst : Option Tmp} {ty : TypeId} {pos : String} {after : Array Edge} {gd : Option (Nat × Bool)}

theorem run_callFunc {f : Nat} (h : callB P f = true) (args : Array Value) (w : World) : (callFunc f args).run P w = .ok (.enter f args) w := by
  unfold callB at h
  cases hf : P.funcs[f]? with
  | none => rw [hf] at h; cases h
  | some fn =>
    rw [hf] at h
    simp only [Bool.and_eq_true, Bool.not_eq_true'] at h
    obtain ⟨h1, h2⟩ := h
    have h3 : fn.body.isNone = false := by cases hb : fn.body <;> simp_all
    simp only [callFunc, Sem.run_bind, run_program, Result.andThen_ok, hf, h1, h3]
    rfl

theorem repArgs_append {E : Env} {w : World} {a b : List AV} {x y : Array Value} (h : RepArgs E w a x) (h' : RepArgs E w b y) : RepArgs E w (a ++ b) (x ++ y) := by
  refine ⟨by simp [h.len, h'.len], fun i c v h1 h2 => ?_⟩
  have hl := h.len
  rw [List.getElem?_append] at h1
  rw [Array.getElem?_append] at h2
  split at h1
  · rw [if_pos (by omega)] at h2; exact h.rep i c v h1 h2
  · rw [if_neg (by omega), hl] at h2; exact h'.rep _ c v h1 h2

theorem repArgs_map {E : Env} {w : World} {vals : Operand → Value} (xs : Array Operand) (h : ∀ x ∈ xs.toList, Rep E w (ρ x) (vals x)) : RepArgs E w (xs.toList.map ρ) (xs.map vals) := by
  refine ⟨by simp, fun i c v h1 h2 => ?_⟩
  simp only [List.getElem?_map, Array.getElem?_map] at h1 h2
  cases hx : xs[i]? with
  | none => rw [hx] at h2; simp at h2
  | some x =>
    rw [hx] at h2
    have : xs.toList[i]? = some x := by simpa using hx
    rw [this] at h1
    simp at h1 h2
    rw [← h1, ← h2]
    exact h x (List.mem_of_getElem? this)

/-- A call of a closure (or of a function by its name: no receivers, nothing captured). -/
theorem step_call {f : Nat} {x : Operand} {xs : Array Operand} {ts : Array TypeId} {first caps args : List AV} {bl ch : List (Nat × Option Blk)} {r : AV} {nw : List Nat}
    (hx : ρ x = .clo f first caps) (ha : first ++ xs.toList.map ρ ++ caps = args) (hc : callB P f = true) (hs : Spec P f args bl r ch nw) (hb : ∀ n B, lookB bl n = some B → bk0 n = some B) :
    Step P ⟨dst, .call ⟨.value x, xs, ts⟩, ty, pos, after, gd⟩ ρ bk0 r ch nw := by
  intro bk hbk hnw E w vals hvals hB
  subst ha
  have h1 := hvals x (by simp [Op.operands, Call.operands]); rw [hx] at h1
  generalize hval : vals x = u at h1
  cases h1 with
  | clo _ _ _ fa ca hfl hcl hf hc' =>
    have hm := repArgs_map (ρ := ρ) (vals := vals) (E := E) (w := w) xs (fun y hy => hvals y (by simp only [Op.operands, Call.operands, Array.toList_append, List.mem_append]; exact .inr hy))
    have hargs := repArgs_append (repArgs_append ⟨hfl, hf⟩ hm) ⟨hcl, hc'⟩
    have hcall := hs bk (fun n B h => hbk n B (hb n B h)) hnw E w _ hargs hB
    unfold Benign
    have hrun : (execOp vals ⟨dst, .call ⟨.value x, xs, ts⟩, ty, pos, after, gd⟩).run P w = .ok (.enter f (fa ++ xs.map vals ++ ca)) w := by
      simp only [execOp, resolve, hval, Deferred.ofValue, Sem.run_bind, Sem.run_pure, Result.andThen_ok, invoke, run_callFunc hc]
    rw [hrun]
    exact hcall.mono fun e w' ⟨val, he, hp⟩ => ⟨val, he, hp⟩
end

/-! ### a body against its contract -/

mutual
def AV.wk : AV → AV
  | .nil => .d (.s [])
  | .agg cs => .agg (wkL cs)
  | .tup cs => .tup (wkL cs)
  | .any => .any
  | .d x => .d x
  | .ptr b i k o => .ptr b i k o
  | .rop r => .rop r
  | .own b i k n => .own b i k n
  | .clo f a b => .clo f a b
def wkL : List AV → List AV
  | [] => []
  | c :: r => c.wk :: wkL r
end

theorem wkL_get : ∀ (l : List AV) (i : Nat) (c : AV), (wkL l)[i]? = some c → ∃ c', l[i]? = some c' ∧ c = c'.wk
  | [], i, c, h => by simp [wkL] at h
  | x :: r, 0, c, h => ⟨x, rfl, by simpa [wkL] using h.symm⟩
  | x :: r, i + 1, c, h => by
    obtain ⟨c', h1, h2⟩ := wkL_get r i c (by simpa [wkL] using h)
    exact ⟨c', by simpa using h1, h2⟩

theorem wkL_length : ∀ (l : List AV), (wkL l).length = l.length
  | [] => rfl
  | x :: r => by simp [wkL, wkL_length r]

theorem rep_wk {E : Env} {w : World} {c : AV} {v : Value} (h : Rep E w c v) : Rep E w c.wk v := by
  induction h with
  | any v => exact .any v
  | nil => exact .d (.nil _ _)
  | d h => exact .d h
  | ptr b i k o g hg => exact .ptr b i k o g hg
  | rop row b o g h1 h2 h3 => exact .rop row b o g h1 h2 h3
  | own b i k n g cap sz ty h1 h2 h3 h4 => exact .own b i k n g cap sz ty h1 h2 h3 h4
  | ownNil b i k h => exact .ownNil b i k h
  | agg cs arr hl h1 h ih =>
    refine .agg (wkL cs) arr (by rw [hl, wkL_length]) h1 fun i c v hc hv => ?_
    obtain ⟨c', h2, rfl⟩ := wkL_get cs i c hc
    exact ih i c' v h2 hv
  | tup cs arr hl h ih =>
    refine .tup (wkL cs) arr (by rw [hl, wkL_length]) fun i c v hc hv => ?_
    obtain ⟨c', h2, rfl⟩ := wkL_get cs i c hc
    exact ih i c' v h2 hv
  | clo f a b fa ca h1 h2 h3 h4 => exact .clo f a b fa ca h1 h2 h3 h4

def argT : Nat → List AV → List (Nat × AV)
  | _, [] => []
  | i, a :: r => (i, a) :: argT (i + 1) r

theorem look_argT : ∀ (args : List AV) (i t : Nat), look (argT i args) t = .any ∨ ∃ j c, t = i + j ∧ args[j]? = some c ∧ look (argT i args) t = c
  | [], i, t => .inl rfl
  | a :: r, i, t => by
    have e : look (argT i (a :: r)) t = bif Nat.beq i t then a else look (argT (i + 1) r) t := rfl
    rw [e]
    cases hb : Nat.beq i t with
    | true => exact .inr ⟨0, a, (Nat.eq_of_beq_eq_true hb).symm, rfl, rfl⟩
    | false =>
      rw [cond_false]
      rcases look_argT r (i + 1) t with h | ⟨j, c, h1, h2, h3⟩
      · exact .inl h
      · exact .inr ⟨j + 1, c, by omega, by simpa using h2, h3⟩

/-- What the results hold. -/
def ResL (P : Program) (s : St) : List ResultVar → List AV → Prop
  | [], [] => True
  | .tmp t :: r, v :: vs => look s.tl t = v ∧ ResL P s r vs
  | .cell a ty :: r, v :: vs => (∃ b k o cs, look s.tl a = .ptr b 0 k o ∧ lookB s.bl b = some (.var cs) ∧
      ((scalB P ty = true ∧ cs[o]? = some v) ∨ ∃ n, aggB P ty = some n ∧ o + n ≤ cs.length ∧ v = .agg ((cs.drop o).take n))) ∧ ResL P s r vs
  | _, _ => False

def oneOf : List AV → AV
  | [v] => v
  | vs => .tup vs

section
variable {P : Program}

theorem run_loadVar_ptr {E : Env} {w : World} {bk : Bk} (hB : Blks E w bk) {b k o ty : Nat} {cs : List AV} {v : AV} {u : Value} (hu : Rep E w (.ptr b 0 k o) u) (hb : bk b = some (.var cs))
    (h : (scalB P ty = true ∧ cs[o]? = some v) ∨ ∃ n, aggB P ty = some n ∧ o + n ≤ cs.length ∧ v = .agg ((cs.drop o).take n)) :
    ∃ x, (do loadVar ty (← asAddr u) : Sem Value).run P w = .ok x w ∧ Rep E w v x := by
  have conv : ∀ x, (Instr.loadAt ty u).run P w = .ok x w → (do loadVar ty (← asAddr u) : Sem Value).run P w = .ok x w := fun x hx => by
    cases hu
    simpa [Instr.loadAt, Instr.sureAddr, asAddr] using hx
  have key : ∃ x, (Instr.loadAt ty u).run P w = .ok x w ∧ Rep E w v x := by
    cases hu with
    | ptr _ _ _ _ g hg =>
      have hr := hB.rep b _ g hb hg
      cases hr with
      | var _ arr ty' hh hl h' =>
        simp only [Nat.zero_mul, Nat.zero_add]
        rcases h with ⟨ht, hv⟩ | ⟨n, ht, hn, rfl⟩
        · have hlt : o < arr.size := by rw [hl]; exact (List.getElem?_eq_some_iff.1 hv).1
          exact ⟨arr[o], run_loadAt_scal ht w (by rw [cell_of_heap hh]; exact Array.getElem?_eq_getElem hlt), (h' o v arr[o] hv (Array.getElem?_eq_getElem hlt)).1⟩
        · have hsz : ((arr.toList.drop o).take n).length = n := by simp; omega
          have hrange : w.rangeAt g o ((arr.toList.drop o).take n) := fun j v hv => by
            rw [cell_of_heap hh]
            have hj : j < n := by have := (List.getElem?_eq_some_iff.1 hv).1; omega
            rw [List.getElem?_take_of_lt hj, List.getElem?_drop] at hv
            simpa using hv
          refine ⟨.agg ((arr.toList.drop o).take n).toArray, run_loadAt_agg ht w hsz hrange, ?_⟩
          have key : ∀ i c v, ((cs.drop o).take n)[i]? = some c → ((arr.toList.drop o).take n)[i]? = some v → Rep E w c v ∧ v.oneCell' = true := fun i c v hc hv => by
            have hj : i < n := by have := (List.getElem?_eq_some_iff.1 hv).1; omega
            rw [List.getElem?_take_of_lt hj, List.getElem?_drop] at hv hc
            exact h' (o + i) c v hc (by simpa using hv)
          refine .agg _ _ (by simp; omega) (fun i v hv => ?_) (fun i c v hc hv => (key i c v hc (by simpa using hv)).1)
          have hv' : ((arr.toList.drop o).take n)[i]? = some v := by simpa using hv
          have hj : i < n := by have := (List.getElem?_eq_some_iff.1 hv').1; omega
          have hlt : i < ((cs.drop o).take n).length := by simp; omega
          exact (key i _ v (List.getElem?_eq_getElem hlt) hv').2
  obtain ⟨x, h1, h2⟩ := key
  exact ⟨x, conv x h1, h2⟩

theorem run_resL {c : Ctx} {s : St} {E : Env} {a : Act} {w : World} (hr : RelE c s E a w) : ∀ (rs : List ResultVar) (vs : List AV), ResL P s rs vs →
    ∃ xs : List Value, (rs.mapM fun | .tmp t => pure (a.tmps.getD t undef) | .cell p t => do loadVar t (← asAddr (a.tmps.getD p undef)) : Sem (List Value)).run P w = .ok xs w ∧ xs.length = vs.length ∧
      ∀ (i : Nat) (c : AV) (v : Value), vs[i]? = some c → xs[i]? = some v → Rep E w c v
  | [], [], _ => ⟨[], by simp, rfl, fun i c v h => by simp at h⟩
  | .tmp t :: rs, v :: vs, h => by
    obtain ⟨h1, h2⟩ := h
    obtain ⟨xs, h3, h4, h5⟩ := run_resL hr rs vs h2
    refine ⟨a.tmps.getD t undef :: xs, ?_, by simp [h4], fun i c x hc hx => ?_⟩
    · rw [List.mapM_cons]
      simp only [Sem.run_bind, Sem.run_pure, Result.andThen_ok, h3]
    · cases i with
      | zero => simp at hc hx; subst hc; rw [← hx, ← h1]; simpa using hr.tms t
      | succ i => exact h5 i c x (by simpa using hc) (by simpa using hx)
  | .cell p t :: rs, v :: vs, h => by
    obtain ⟨⟨b, k, o, cs, h6, h7, h8⟩, h2⟩ := h
    obtain ⟨xs, h3, h4, h5⟩ := run_resL hr rs vs h2
    have hu := hr.tms p
    rw [h6] at hu
    obtain ⟨x, h9, h10⟩ := run_loadVar_ptr (P := P) hr.bks hu h7 h8
    refine ⟨x :: xs, ?_, by simp [h4], fun i c x' hc hx => ?_⟩
    · rw [List.mapM_cons]
      simp only [Sem.run_bind] at h9 ⊢
      simp only [h9, Result.andThen_ok, h3, Sem.run_pure]
    · cases i with
      | zero => simp at hc hx; subst hc; rw [← hx]; exact h10
      | succ i => exact h5 i c x' (by simpa using hc) (by simpa using hx)
  | [], _ :: _, h => by cases h
  | .tmp _ :: _, [], h => by cases h
  | .cell _ _ :: _, [], h => by cases h

theorem run_results {c : Ctx} {s : St} {E : Env} {a : Act} {w : World} (hr : RelE c s E a w) {fn : Func} {vs : List AV} (h : ResL P s fn.results.toList vs) :
    ∃ x, (results fn a.tmps).run P w = .ok x w ∧ Rep E w (oneOf vs).wk x := by
  obtain ⟨xs, h1, h2, h3⟩ := run_resL hr fn.results.toList vs h
  have h4 : (fn.results.mapM fun | .tmp t => pure (a.tmps.getD t undef) | .cell p t => do loadVar t (← asAddr (a.tmps.getD p undef)) : Sem (Array Value)).run P w = .ok xs.toArray w := by
    rw [Array.mapM_eq_mapM_toList]
    simp only [map_eq_pure_bind, Sem.run_bind, h1, Result.andThen_ok, Sem.run_pure]
  refine ⟨if h : xs.toArray.size = 1 then xs.toArray[0] else .tuple xs.toArray, ?_, ?_⟩
  · unfold results
    simp only [Sem.run_bind, Sem.run_pure]
    exact (congrArg (fun r => Result.andThen r _) h4).trans rfl
  · match vs, xs, h2, h3 with
    | [v], [x], _, h3 => exact rep_wk (h3 0 v x rfl rfl)
    | [], [], _, _ => exact rep_wk (.tup [] _ rfl (fun i c v h => by simp at h))
    | v1 :: v2 :: vs, x1 :: x2 :: xs, h2, h3 =>
      have : ¬ (x1 :: x2 :: xs).toArray.size = 1 := by simp
      rw [dif_neg this]
      exact rep_wk (.tup _ _ (by simpa using h2) (fun i c v hc hv => h3 i c v hc (by simpa using hv)))

mutual
def AV.within (l : List Nat) : AV → Bool
  | .ptr b _ _ _ => l.contains b
  | .own b _ _ _ => l.contains b
  | .agg cs => withinL l cs
  | .tup cs => withinL l cs
  | .clo _ a b => withinL l a && withinL l b
  | .any => true
  | .nil => true
  | .d _ => true
  | .rop _ => true
def withinL (l : List Nat) : List AV → Bool
  | [] => true
  | c :: r => c.within l && withinL l r
end

theorem withinL_mem {l : List Nat} {c : AV} : ∀ {cs : List AV}, withinL l cs = true → c ∈ cs → c.within l = true
  | [], _, h => by cases h
  | x :: r, h, hm => by
    simp only [withinL, Bool.and_eq_true] at h
    rcases List.mem_cons.1 hm with rfl | hm
    · exact h.1
    · exact withinL_mem h.2 hm

theorem says_of_within {l : List Nat} {n : Nat} (hn : n ∉ l) : ∀ (c : AV), c.within l = true → c.says n = false
  | .any, _ => rfl
  | .nil, _ => rfl
  | .d _, _ => rfl
  | .rop _, _ => rfl
  | .ptr b _ _ _, h => by simp only [AV.says]; simp only [AV.within, List.contains_eq_mem, decide_eq_true_eq] at h; exact beq_eq_false_iff_ne.2 fun e => hn (e ▸ h)
  | .own b _ _ _, h => by simp only [AV.says]; simp only [AV.within, List.contains_eq_mem, decide_eq_true_eq] at h; exact beq_eq_false_iff_ne.2 fun e => hn (e ▸ h)
  | .agg cs, h => by simp only [AV.says]; exact saysL_of_within hn cs (by simpa [AV.within] using h)
  | .tup cs, h => by simp only [AV.says]; exact saysL_of_within hn cs (by simpa [AV.within] using h)
  | .clo _ a b, h => by
    simp only [AV.within, Bool.and_eq_true] at h
    simp only [AV.says, saysL_of_within hn a h.1, saysL_of_within hn b h.2]; rfl
where saysL_of_within {l : List Nat} {n : Nat} (hn : n ∉ l) : ∀ (cs : List AV), withinL l cs = true → AV.says.saysL n cs = false
  | [], _ => rfl
  | c :: r, h => by
    simp only [withinL, Bool.and_eq_true] at h
    simp only [AV.says.saysL, says_of_within hn c h.1, saysL_of_within hn r h.2]; rfl

def Blk.within (l : List Nat) : Blk → Bool
  | .var cs => withinL l cs
  | .row _ _ => true
  | .cells _ _ nm _ => nm.all fun m => l.contains m
  | .mp _ _ => true

theorem blk_says_within {l : List Nat} {n : Nat} (hn : n ∉ l) {B : Blk} (h : B.within l = true) : B.says n = false := by
  cases B with
  | var cs => exact says_of_within.saysL_of_within hn cs h
  | row => rfl
  | cells _ _ nm _ =>
    simp only [Blk.says, List.contains_eq_mem, decide_eq_false_iff_not]
    intro hm
    have := List.all_eq_true.1 h n hm
    simp only [List.contains_eq_mem, decide_eq_true_eq] at this
    exact hn this
  | mp _ _ => rfl

/-- What a body must come to for its contract. -/
def RetOk (P : Program) (fn : Func) (bl : List (Nat × Option Blk)) (r : AV) (ch : List (Nat × Option Blk)) (nw : List Nat) (s : St) : Prop :=
  ∃ vs, ResL P s fn.results.toList vs ∧ r = (oneOf vs).wk ∧ r.within (nw ++ namesB bl) = true ∧
    (∀ n B, findB ch n = some (some B) → lookB s.bl n = some B ∧ (n ∈ nw ∨ n ∈ namesB bl)) ∧ (∀ n B, lookB bl n = some B → (findB ch n).isSome = true ∨ lookB s.bl n = some B) ∧
    (∀ p ∈ ch, ∀ B, p.2 = some B → B.within (nw ++ namesB bl) = true)

def retQ (P : Program) (fn : Func) (bl : List (Nat × Option Blk)) (r : AV) (ch : List (Nat × Option Blk)) (nw : List Nat) : Exit → St → Prop
  | .ret, s => RetOk P fn bl r ch nw s
  | .normal, s => RetOk P fn bl r ch nw s
  | _, _ => False

theorem findB_mem {ch : List (Nat × Option Blk)} {n : Nat} {B : Option Blk} (h : findB ch n = some B) : (n, B) ∈ ch := by
  induction ch with
  | nil => simp [findB] at h
  | cons p r ih =>
    obtain ⟨u, v⟩ := p
    have e : findB ((u, v) :: r) n = bif Nat.beq u n then some v else findB r n := rfl
    rw [e] at h
    cases hb : Nat.beq u n with
    | true =>
      have : u = n := Nat.eq_of_beq_eq_true hb
      subst this; rw [hb, cond_true] at h; injection h with h; subst h; exact List.mem_cons_self ..
    | false => rw [hb, cond_false] at h; exact List.mem_cons_of_mem _ (ih h)

theorem namesB_look {bl : List (Nat × Option Blk)} (hd : ∀ n B, (n, some B) ∈ bl → lookB bl n = some B) {n : Nat} (h : n ∈ namesB bl) : ∃ B, lookB bl n = some B := by
  have : ∃ B, (n, some B) ∈ bl := by
    clear hd
    induction bl with
    | nil => cases h
    | cons p r ih =>
      obtain ⟨u, v⟩ := p
      cases v with
      | none => obtain ⟨B, hB⟩ := ih h; exact ⟨B, List.mem_cons_of_mem _ hB⟩
      | some v =>
        rcases List.mem_cons.1 h with rfl | h
        · exact ⟨v, List.mem_cons_self ..⟩
        · obtain ⟨B, hB⟩ := ih h; exact ⟨B, List.mem_cons_of_mem _ hB⟩
  obtain ⟨B, hB⟩ := this
  exact ⟨B, hd n B hB⟩

/-- The names of bl are told apart, and its blocks name no others. -/
def BlOk (bl : List (Nat × Option Blk)) : Prop := (∀ n B, (n, some B) ∈ bl → lookB bl n = some B) ∧ ∀ n B, (n, some B) ∈ bl → B.within (namesB bl) = true

theorem spec_of_awp {f : Nat} {fn : Func} {code : Code} {args : List AV} {bl : List (Nat × Option Blk)} {r : AV} {ch : List (Nat × Option Blk)} {nw : List Nat} (N : Nat)
    (hf : P.funcs[f]? = some fn) (hb : fn.body = some code) (hN : max fn.ntmps args.length = N) (hbl : BlOk bl)
    (h : ∀ X w0 E0, AWp P ⟨N, namesB bl, X, w0, E0⟩ code (retQ P fn bl r ch nw) ⟨argT 0 args, bl⟩) : Spec P f args bl r ch nw := by
  intro bk hbk hnw E w vals hargs hB
  let X : Nat → Prop := fun g => ∃ n, lookB bl n ≠ none ∧ E.blk n = some g
  have hrel : RelE ⟨N, namesB bl, X, w, E⟩ ⟨argT 0 args, bl⟩ E { tmps := vals ++ Array.replicate (fn.ntmps - vals.size) undef, defers := [] } w := by
    refine { size := ?_, defers := rfl, tms := fun t => ?_, bks := hB.sub hbk, ext := Ext.refl _ _, names := fun n g h1 h2 => .inl ⟨n, h1, h2⟩, S := fun _ h => .inl h, S0 := fun _ h => h, given := fun _ _ => rfl }
    · have := hargs.len; simp; omega
    · rcases look_argT args 0 t with h1 | ⟨j, c, h1, h2, h3⟩
      · rw [show look (St.mk (argT 0 args) bl).tl t = look (argT 0 args) t from rfl, h1]; exact .any _
      · rw [show look (St.mk (argT 0 args) bl).tl t = look (argT 0 args) t from rfl, h3]
        have hj : j < args.length := (List.getElem?_eq_some_iff.1 h2).1
        have hl := hargs.len
        have ht : t = j := by omega
        subst ht
        have hv : (vals ++ Array.replicate (fn.ntmps - vals.size) undef)[t]? = some vals[t] := by
          rw [Array.getElem?_append_left (by omega), Array.getElem?_eq_getElem (by omega)]
        have hv2 : (vals ++ Array.replicate (fn.ntmps - vals.size) undef).getD t undef = vals[t] := by
          rw [Array.getD_eq_getD_getElem?, hv]; rfl
        rw [hv2]
        exact hargs.rep t c _ h2 (Array.getElem?_eq_getElem (by omega))
  refine calls_of_wp hf hb (wp_mono (h X w E E _ w hrel) fun e a w' hl => ?_)
  obtain ⟨s, E1, hr, hq⟩ := hl
  have hret : RetOk P fn bl r ch nw s → a.defers = [] ∧ ∃ v, (results fn a.tmps).run P w' = .ok v w' ∧ ∃ val, Ending.returned v = .returned val ∧ ∃ E', Blks E' w' (updB ch bk) ∧ Rep E' w' r val ∧
      Grow E E' w w' bk (· ∈ nw) ∧ (∀ n g, updB ch bk n ≠ none → E'.blk n = some g → (∃ m, bk m ≠ none ∧ E.blk m = some g) ∨ w.heap.size ≤ g) := by
    rintro ⟨vs, hres, rfl, hrw, hch, hun, hcl⟩
    obtain ⟨x, hx1, hx2⟩ := run_results hr hres
    have inG : ∀ n, lookB bl n ≠ none → n ∈ namesB bl := fun n hn => by
      cases hb : lookB bl n with
      | none => exact absurd hb hn
      | some B => exact namesB_mem hb
    have hgiven : ∀ n, n ∈ namesB bl → E1.blk n = E.blk n := hr.given
    have keep : Keeps E1 ⟨fun n => if n ∈ nw then E1.blk n else E.blk n, E1.S⟩ w' w' (fun n => n ∉ nw ++ namesB bl) := ⟨fun _ h => h, fun _ _ _ => rfl, fun n hn => by
      simp only [Classical.not_not, List.mem_append] at hn
      by_cases h : n ∈ nw
      · simp [h]
      · simp [h, hgiven n (hn.resolve_left h)], fun _ _ => rfl⟩
    have hX : ∀ g, X g → ∃ n, bk n ≠ none ∧ E.blk n = some g := fun g ⟨n, h1, h2⟩ => by
      cases hb : lookB bl n with
      | none => exact absurd hb h1
      | some B => exact ⟨n, by rw [hbk n B hb]; simp, h2⟩
    have hgrow : Grow E ⟨fun n => if n ∈ nw then E1.blk n else E.blk n, E1.S⟩ w w' bk (· ∈ nw) := ⟨hr.S0, fun b hb => by
      rcases hr.S b hb with h | h | h
      · exact .inl h
      · exact .inr (.inl (hX b h))
      · exact .inr (.inr h), fun n hn => by simp [hn], ⟨hr.ext.size, fun b hb hx => hr.ext.block b hb fun h => hx (hX b h), hr.ext.shape, hr.ext.os, hr.ext.tape, hr.ext.output⟩⟩
    have keep2 := hgrow.keeps hB
    have lt : ∀ n B g, bk n = some B → E.blk n = some g → g < w.heap.size := fun n B g h1 h2 => (hB.rep n B g h1 h2).lt
    have noX : ∀ n B g, bk n = some B → lookB bl n = none → E.blk n = some g → ¬ X g := fun n B g h1 h2 h3 ⟨m, h4, h5⟩ => by
      have hm : bk m ≠ none := by
        cases hb : lookB bl m with
        | none => exact absurd hb h4
        | some B' => rw [hbk m B' hb]; simp
      have := hB.inj m n g hm (by rw [h1]; simp) h5 h3
      subst this
      exact h4 h2
    have cls : ∀ n B, updB ch bk n = some B → (lookB s.bl n = some B ∧ (n ∈ nw ∨ n ∈ namesB bl) ∧ ∀ m, m ∉ nw ++ namesB bl → B.says m = false) ∨ (bk n = some B ∧ n ∉ nw ∧ lookB bl n = none) := fun n B hn => by
      unfold updB at hn
      cases hf : findB ch n with
      | some o =>
        rw [hf] at hn
        simp only [Option.getD_some] at hn
        subst hn
        obtain ⟨h1, h2⟩ := hch n B hf
        exact .inl ⟨h1, h2, fun m hm => blk_says_within hm (hcl _ (findB_mem hf) B rfl)⟩
      | none =>
        rw [hf] at hn
        simp only [Option.getD_none] at hn
        have hnn : n ∉ nw := fun h => by rw [(hnw n h).1] at hn; cases hn
        cases hb : lookB bl n with
        | none => exact .inr ⟨hn, hnn, rfl⟩
        | some B' =>
          have : B' = B := by have := hbk n B' hb; rw [hn] at this; injection this with this; exact this.symm
          subst this
          refine .inl ⟨?_, .inr (namesB_mem hb), fun m hm => ?_⟩
          · rcases hun n B' hb with h | h
            · rw [hf] at h; cases h
            · exact h
          · obtain ⟨u, hu⟩ := lookB_mem hb
            exact blk_says_within (fun h => hm (List.mem_append_right _ h)) (hbl.2 u B' hu)
    have e1 : ∀ n, (n ∈ nw ∨ n ∈ namesB bl) → (⟨fun n => if n ∈ nw then E1.blk n else E.blk n, E1.S⟩ : Env).blk n = E1.blk n := fun n hn => by
      by_cases h : n ∈ nw
      · simp [h]
      · simp [h, hgiven n (hn.resolve_left h)]
    have e2 : ∀ n, n ∉ nw → (⟨fun n => if n ∈ nw then E1.blk n else E.blk n, E1.S⟩ : Env).blk n = E.blk n := fun n hn => by simp [hn]
    have some_of : ∀ n, updB ch bk n ≠ none → ∃ B, updB ch bk n = some B := fun n hn => by
      cases h : updB ch bk n with
      | none => exact absurd h hn
      | some B => exact ⟨B, rfl⟩
    refine ⟨hr.defers, x, hx1, x, rfl, ⟨fun n => if n ∈ nw then E1.blk n else E.blk n, E1.S⟩, ⟨fun n B g h1 h2 => ?_, fun n B h1 h2 => ?_, fun n m g hn hm h1 h2 => ?_, fun n g hn h1 hS => ?_, hr.bks.bound⟩, ?_, hgrow, fun n g hn hg => ?_⟩
    · rcases cls n B h1 with ⟨h3, h4, h5⟩ | ⟨h3, h4, h5⟩
      · rw [e1 n h4] at h2
        exact (hr.bks.rep n B g h3 h2).mono keep rfl h5
      · rw [e2 n h4] at h2
        exact (hB.rep n B g h3 h2).mono keep2 (hr.ext.block g (lt n B g h3 h2) (noX n B g h3 h5 h2)) (fun m hm => (hnw m hm).2 n B h3)
    · rcases cls n B h1 with ⟨h3, h4, h5⟩ | ⟨h3, h4, h5⟩
      · rw [e1 n h4] at h2; exact hr.bks.unb n B h3 h2
      · rw [e2 n h4] at h2; exact hB.unb n B h3 h2
    · have mix : ∀ n m B B' g, lookB s.bl n = some B → (n ∈ nw ∨ n ∈ namesB bl) → bk m = some B' → m ∉ nw → lookB bl m = none → E1.blk n = some g → E.blk m = some g → False := fun n m B B' g h3 h4 h6 h7 h8 h9 h10 => by
        rcases hr.names n g (by rw [h3]; simp) h9 with h | h
        · exact noX m B' g h6 h8 h10 h
        · have := lt m B' g h6 h10; exact absurd this (Nat.not_lt.2 h)
      obtain ⟨B, hBn⟩ := some_of n hn
      obtain ⟨B', hBm⟩ := some_of m hm
      rcases cls n B hBn with ⟨h3, h4, h5⟩ | ⟨h3, h4, h5⟩
      · rw [e1 n h4] at h1
        rcases cls m B' hBm with ⟨h6, h7, h8⟩ | ⟨h6, h7, h8⟩
        · rw [e1 m h7] at h2; exact hr.bks.inj n m g (by rw [h3]; simp) (by rw [h6]; simp) h1 h2
        · rw [e2 m h7] at h2; exact (mix n m B B' g h3 h4 h6 h7 h8 h1 h2).elim
      · rw [e2 n h4] at h1
        rcases cls m B' hBm with ⟨h6, h7, h8⟩ | ⟨h6, h7, h8⟩
        · rw [e1 m h7] at h2; exact (mix m n B' B g h6 h7 h3 h4 h5 h2 h1).elim
        · rw [e2 m h7] at h2; exact hB.inj n m g (by rw [h3]; simp) (by rw [h6]; simp) h1 h2
    · obtain ⟨B, hBn⟩ := some_of n hn
      rcases cls n B hBn with ⟨h3, h4, h5⟩ | ⟨h3, h4, h5⟩
      · rw [e1 n h4] at h1; exact hr.bks.apart n g (by rw [h3]; simp) h1 hS
      · rw [e2 n h4] at h1
        rcases hr.S g hS with h | h | h
        · exact hB.apart n g (by rw [h3]; simp) h1 h
        · exact noX n B g h3 h5 h1 h
        · have := lt n B g h3 h1; exact absurd this (Nat.not_lt.2 h)
    · exact hx2.mono keep (fun m hm => says_of_within hm _ hrw)
    · obtain ⟨B, hBn⟩ := some_of n hn
      rcases cls n B hBn with ⟨h3, h4, h5⟩ | ⟨h3, h4, h5⟩
      · rw [e1 n h4] at hg
        rcases hr.names n g (by rw [h3]; simp) hg with h | h
        · exact .inl (hX g h)
        · exact .inr h
      · rw [e2 n h4] at hg; exact .inl ⟨n, by rw [h3]; simp, hg⟩
  cases e with
  | normal => exact hret hq
  | ret => exact hret hq
  | exit id => exact hq.elim
  | goto l => exact hq.elim
  | panic ch => exact hq.elim
  | outgrown => exact hq.elim
end

end Go.Proofs.Ytencghlmckbmlaa
