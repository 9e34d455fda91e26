/- Blocks whose cells are told by a function, and maps from numbers to true: the operations' laws and turns. -/
import Derived.Test.YtencghlmckbmlaaCell
import Derived.RangeFuncWrites
set_option linter.unusedVariables false
set_option linter.unusedSimpArgs false
set_option maxRecDepth 100000
namespace Go.Proofs.Ytencghlmckbmlaa
open Go Go.RowKit

theorem nil_says : ∀ (i m : Nat), ((fun (_ : Nat) => AV.nil) i).says m = true → m ∈ ([] : List Nat) := fun _ _ h => by cases h

section
variable {P : Program} {ρ : Operand → AV} {bk0 : Bk} {dst : Option Tmp} {ty : TypeId} {pos : String} {after : Array Edge} {gd : Option (Nat × Bool)}

theorem step_makeCells {t e by_ n' m : Nat} {x y : Operand} {kk kk' : IntKind} (hx : ρ x = .d (.v (.int kk (m : Nat)))) (hy : ρ y = .d (.v (.int kk' (m : Nat))))
    (ht : appB P t = some (e, 1, by_)) (hz : zeroB P e = some [.nil]) (h1 : zeroOk P e [.nil] = true) (hc : (m : Int) * by_ ≤ 281474976710656) (hc2 : (m : Int) ≤ 9223372036854775807) :
    Step P ⟨dst, .makeSlice t x y, ty, pos, after, gd⟩ ρ bk0 (.own n' 0 1 m) [(n', some (.cells m (fun _ => .nil) [] nil_says))] [n'] := by
  intro bk hbk hnw E w vals hvals hB
  obtain ⟨hn, hs⟩ := hnw n' (by simp)
  obtain ⟨i, z, hu, hi, hzv, hsz, hby, hzs⟩ := appB_spec ht
  have hv1 := hvals x (by simp [Op.operands]); rw [hx] at hv1
  have hv2 := hvals y (by simp [Op.operands]); rw [hy] at hv2
  have hzc : z.cells.toList.map constA = [.nil] := by unfold zeroB at hz; rw [hi, Option.bind_some, hzv] at hz; simpa only [Option.map_some, Option.some.injEq] using hz
  simp only [zeroOk, hi, hzv, Option.bind_some] at h1
  have hone := List.all_eq_true.1 h1
  have hzL : RepL E w [.nil] z.cells.toList := by rw [← hzc]; exact repL_zero _ hone
  have wl : IntKind.i64.wrap (m : Int) = m := by
    unfold IntKind.wrap
    simp only [show IntKind.i64.bits = 64 from rfl, show IntKind.i64.signed = true from rfl, Int.reducePow, Nat.reduceSub, Bool.true_and, decide_eq_true_eq]
    split <;> omega
  let arr : Array Value := if m = 0 then #[] else (Array.range m).map (fun p => z.cells[p % z.cells.size]!)
  have harrz : arr.size = m := by
    simp only [arr]
    split
    · rename_i h; simp [h]
    · simp
  have hrun : (Instr.makeSlice t (vals x) (vals y)).run P w = .ok (.slice (some ⟨w.heap.size, 0, none⟩) m m) (w.alloc (.cells arr e)) := by
    have e1 : ¬ (281474976710656 < (by_ : Int) * (m : Int)) := by rw [Int.mul_comm]; omega
    have e2 : ¬ (m : Int) < 0 := by omega
    by_cases hz0 : m = 0
    · subst hz0
      simp [Instr.makeSlice, run_underlying hu, rep_val hv1, rep_val hv2, asInt, asIntOf, typeInfo, hi, hby, sizeOf, hsz, newRow, arr, range_map_zero, show IntKind.i64.wrap 0 = 0 from rfl]
    · simp [Instr.makeSlice, run_underlying hu, rep_val hv1, rep_val hv2, asInt, asIntOf, typeInfo, hi, hby, wl, e1, e2, sizeOf, hsz, hz0, newRow, zeroValue, hzv, arr]
  have hb := blks_new hB (pushed_alloc w (.cells arr e)) n' hn hs (.cells m (fun _ => .nil) [] nil_says) (fun hkeep => by
    refine .cells _ _ _ _ arr e (pushed_alloc w _).get harrz fun p v hp hv => ?_
    have harr : arr = (Array.range m).map (fun p => z.cells[p % z.cells.size]!) := by simp only [arr]; rw [if_neg (by omega)]
    have hv' : arr.toList[p]? = some v := by simpa using hv
    rw [harr, range_map_get _ _ _ (by omega)] at hv'
    have hmod : p % z.cells.size = 0 := by rw [hzs, Nat.mod_one]
    rw [hmod] at hv'
    injection hv' with hv'
    have hzp : z.cells.toList[0]? = some v := by
      have : 0 < z.cells.size := by omega
      rw [← hv']; simp [this]
    exact ⟨(hzL.rep 0 _ v rfl hzp).mono hkeep fun m hm => rfl, hzL.one 0 v hzp⟩)
  simp only [execOp]
  refine benign_val hrun ⟨_, hb.1, ?_, hb.2.1, hb.2.2⟩
  have := Rep.own (E := ⟨fun m => if m = n' then some w.heap.size else E.blk m, E.S⟩) (w := w.alloc (.cells arr e)) n' 0 1 m w.heap.size m arr.size e (by simp) (by omega)
    (by unfold World.shape?; rw [(pushed_alloc w _).get]) (by rw [harrz, Nat.zero_add, Nat.mul_one]; exact Nat.le_refl _)
  simpa using this

theorem step_load_cell {t b i n : Nat} {x : Operand} {f : Nat → AV} {nm : List Nat} {hs : ∀ i m, (f i).says m = true → m ∈ nm} (hx : ρ x = .ptr b i 1 0) (hb : bk0 b = some (.cells n f nm hs)) (ht : scalB P t = true)
    (hi : i < n) : Step P ⟨dst, .load t x, ty, pos, after, gd⟩ ρ bk0 (f i) [] [] :=
  step_pure fun E w vals bk hvals hB hbk => by
    have h1 := hvals x (by simp [Op.operands]); rw [hx] at h1
    generalize hval : vals x = u at h1
    cases h1 with
    | ptr _ _ _ _ g hg =>
      have hr := hB.rep b _ g (hbk b _ hb) hg
      cases hr with
      | cells _ _ _ _ arr ty' hh hl h =>
        have hlt : i < arr.size := by rw [hl]; exact hi
        refine ⟨arr[i], ?_, (h i arr[i] hi (Array.getElem?_eq_getElem hlt)).1⟩
        simp only [execOp, hval, Nat.mul_one, Nat.add_zero, Sem.run_bind, run_loadAt_scal ht w (v := arr[i]) (by rw [cell_of_heap hh]; exact Array.getElem?_eq_getElem hlt), Result.andThen_ok, Sem.run_pure]

theorem step_store_cell {t b i n : Nat} {a x : Operand} {f f' : Nat → AV} {nm nm' : List Nat} {hs : ∀ i m, (f i).says m = true → m ∈ nm} {hs' : ∀ i m, (f' i).says m = true → m ∈ nm'} {v c : AV} (ha : ρ a = .ptr b i 1 0) (hx : ρ x = v) (hv : cellsA v = some [c]) (hb : bk0 b = some (.cells n f nm hs))
    (ht : sizeB P t = some 1) (hi : i < n) (h1 : f' i = c) (h2 : ∀ j, j < n → j ≠ i → f' j = f j) :
    Step P ⟨dst, .store t a x, ty, pos, after, gd⟩ ρ bk0 .any [(b, some (.cells n f' nm' hs'))] [] := by
  intro bk hbk _ E w vals hvals hB
  have h1' := hvals a (by simp [Op.operands]); rw [ha] at h1'
  have h2' := hvals x (by simp [Op.operands]); rw [hx] at h2'
  have hL := repL_cells h2' hv
  have hcl : (vals x).cells.toList.length = 1 := by simpa using hL.len
  generalize hval : vals a = u at h1'
  cases h1' with
  | ptr _ _ _ _ g hg =>
    have hrr := hB.rep b _ g (hbk b _ hb) hg
    cases hrr with
    | cells _ _ _ _ arr ty' hh hl h =>
      have hrun := run_storeAt_row (x := vals x) ht hh (by simpa using hcl) (fun v hv => by
        obtain ⟨i, hi⟩ := List.getElem?_of_mem hv; exact hL.one i v hi) (o := i) (by omega)
      have hb1 := blks_set (B' := .cells n f' nm' hs') (arr' := (setAt arr.toList i (vals x).cells.toList).toArray) hB (hbk b _ hb) hg hh
        (by rw [List.size_toArray, setAt_length _ _ _ (by simp at hcl ⊢; omega)]; simp)
        (fun hkeep => by
          refine .cells _ _ _ _ _ ty' (setRow_heap w g arr _ ty' (0, 0) hh) (by rw [List.size_toArray, setAt_length _ _ _ (by simp at hcl ⊢; omega)]; simpa using hl) fun j v hj hv => ?_
          have hv' : (setAt arr.toList i (vals x).cells.toList)[j]? = some v := by simpa using hv
          rw [setAt_get _ _ _ (by simp at hcl ⊢; omega), hcl] at hv'
          by_cases hji : j = i
          · subst hji
            rw [if_pos (by omega), Nat.sub_self] at hv'
            rw [h1]
            exact ⟨(hL.rep 0 c v rfl hv').mono hkeep (fun _ hf => hf.elim), hL.one 0 v hv'⟩
          · rw [if_neg (by omega)] at hv'
            have h3 := h j v hj (by simpa using hv')
            rw [h2 j hj hji]
            exact ⟨h3.1.mono hkeep (fun _ hf => hf.elim), h3.2⟩)
      simp only [execOp, hval, Nat.mul_one, Nat.add_zero]
      exact benign_unit hrun ⟨E, hb1.1, .any _, hb1.2.1, hb1.2.2⟩
end

/-! ### turns -/
/-- A block's meaning weakened where cells are told by functions, nothing else changed. -/
theorem blks_fn {E : Env} {w : World} {bk : Bk} {b n : Nat} {f f' : Nat → AV} {nm nm' : List Nat} {hs : ∀ i m, (f i).says m = true → m ∈ nm} {hs' : ∀ i m, (f' i).says m = true → m ∈ nm'} (hB : Blks E w bk) (hb : bk b = some (.cells n f nm hs))
    (h : ∀ (i : Nat) (v : Value), i < n → Rep E w (f i) v → Rep E w (f' i) v) : Blks E w (updB [(b, some (.cells n f' nm' hs'))] bk) := by
  have e : ∀ m, updB [(b, some (.cells n f' nm' hs'))] bk m = if m = b then some (.cells n f' nm' hs') else bk m := fun m => by rw [updB_one]
  have ne : ∀ m, updB [(b, some (.cells n f' nm' hs'))] bk m ≠ none → bk m ≠ none := fun m hm => by
    rw [e] at hm
    by_cases h : m = b
    · subst h; rw [hb]; simp
    · rw [if_neg h] at hm; exact hm
  refine ⟨fun m B g h1 h2 => ?_, fun m B h1 h2 => ?_, fun m l g hm hl => hB.inj m l g (ne m hm) (ne l hl), fun m g hm => hB.apart m g (ne m hm), hB.bound⟩
  · rw [e] at h1
    by_cases hnb : m = b
    · subst hnb
      rw [if_pos rfl] at h1; injection h1 with h1; subst h1
      have := hB.rep m _ g hb h2
      cases this with
      | cells _ _ _ _ arr ty hh hl h' => exact .cells _ _ _ _ arr ty hh hl fun i v hi hv => ⟨h i v hi (h' i v hi hv).1, (h' i v hi hv).2⟩
    · rw [if_neg hnb] at h1; exact hB.rep m B g h1 h2
  · rw [e] at h1
    by_cases hnb : m = b
    · subst hnb
      obtain ⟨k, hk⟩ := hB.unb m _ hb h2; cases hk
    · rw [if_neg hnb] at h1; exact hB.unb m B h1 h2

/-- Cells that are all data are rows of one. -/
theorem turn_cells_row {c : Ctx} {tl : List (Nat × AV)} {bl : List (Nat × Option Blk)} (b : Nat) {n : Nat} {f : Nat → AV} {nm : List Nat} {hs : ∀ i m, (f i).says m = true → m ∈ nm} (g : Nat → D) (hb : lookB bl b = some (.cells n f nm hs)) (hf : ∀ i, i < n → f i = .d (g i)) :
    Turns c ⟨tl, bl⟩ ⟨tl, (b, some (.row 1 ((List.range n).map fun i => [g i]))) :: bl⟩ := fun E a w hr => by
  refine ⟨E, relE_bl hr (bl' := (b, some (.row 1 ((List.range n).map fun i => [g i]))) :: bl) hr.tms ?_ (fun m k hm hk => ⟨m, ?_, hk⟩) hr.S (fun _ h => h) (fun _ _ => rfl)⟩
  · have e0 := lookB_append [(b, some (Blk.row 1 ((List.range n).map fun i => [g i])))] bl
    simp only [List.cons_append, List.nil_append] at e0
    rw [e0]
    have e : ∀ m, updB [(b, some (Blk.row 1 ((List.range n).map fun i => [g i])))] (lookB bl) m = if m = b then some (Blk.row 1 ((List.range n).map fun i => [g i])) else lookB bl m := fun m => by rw [updB_one]
    have hB := hr.bks
    have ne : ∀ m, updB [(b, some (Blk.row 1 ((List.range n).map fun i => [g i])))] (lookB bl) m ≠ none → lookB bl m ≠ none := fun m hm => by
      rw [e] at hm
      by_cases h : m = b
      · subst h; rw [hb]; simp
      · rw [if_neg h] at hm; exact hm
    refine ⟨fun m B k h1 h2 => ?_, fun m B h1 h2 => ?_, fun m l k hm hl => hB.inj m l k (ne m hm) (ne l hl), fun m k hm => hB.apart m k (ne m hm), hB.bound⟩
    · rw [e] at h1
      by_cases hnb : m = b
      · subst hnb
        rw [if_pos rfl] at h1; injection h1 with h1; subst h1
        have := hB.rep m _ k hb h2
        cases this with
        | cells _ _ _ _ arr ty hh hl h' =>
          have hrow : ∀ (i : Nat) (row : List D), ((List.range n).map fun i => [g i])[i]? = some row → i < n ∧ row = [g i] := fun i row h => by
            rw [List.getElem?_map] at h
            cases hi : (List.range n)[i]? with
            | none => rw [hi] at h; cases h
            | some j =>
              rw [hi] at h; injection h with h
              obtain ⟨h1, h2⟩ := List.getElem?_eq_some_iff.1 hi
              simp at h1 h2; subst h2; exact ⟨h1, h.symm⟩
          refine .row 1 _ arr ty hh (fun i row h => by rw [(hrow i row h).2]; rfl) (by simp; omega) fun i j row d v h3 h4 h5 => ?_
          obtain ⟨hi, rfl⟩ := hrow i row h3
          have hj : j = 0 := by have := (List.getElem?_eq_some_iff.1 h4).1; simp at this; exact this
          subst hj
          simp at h4; subst h4
          have h6 := (h' i v hi (by simpa using h5)).1
          rw [hf i hi] at h6
          cases h6 with | d h => exact h
      · rw [if_neg hnb] at h1; exact hB.rep m B k h1 h2
    · rw [e] at h1
      by_cases hnb : m = b
      · subst hnb
        obtain ⟨k, hk⟩ := hB.unb m _ hb h2; cases hk
      · rw [if_neg hnb] at h1; exact hB.unb m B h1 h2
  · have e : lookB ((b, some (Blk.row 1 ((List.range n).map fun i => [g i]))) :: bl) m = bif Nat.beq b m then some (Blk.row 1 ((List.range n).map fun i => [g i])) else lookB bl m := rfl
    rw [e] at hm
    by_cases h' : b = m
    · subst h'; rw [hb]; simp
    · rw [natbeq_false h'] at hm; exact hm

/-- A nil cell under a name. -/
theorem turn_fn_bind {c : Ctx} {tl : List (Nat × AV)} {bl : List (Nat × Option Blk)} (b i x k : Nat) {n : Nat} {f f' : Nat → AV} {nm nm' : List Nat} {hs : ∀ i m, (f i).says m = true → m ∈ nm} {hs' : ∀ i m, (f' i).says m = true → m ∈ nm'} (hb : lookB bl b = some (.cells n f nm hs))
    (hi : f i = .nil) (h1 : f' i = .own x 0 k 0) (h2 : ∀ j, j < n → j ≠ i → f' j = f j) (hf : freshes c.gl [x] ⟨tl, bl⟩ = true) :
    Turns c ⟨tl, bl⟩ ⟨tl, (b, some (.cells n f' nm' hs')) :: (x, some (.row k [])) :: bl⟩ := fun E a w hr => by
  have hfr := (List.all_eq_true.1 hf) x (by simp)
  simp only [Bool.and_eq_true, Bool.not_eq_true', List.contains_eq_mem, decide_eq_false_iff_not] at hfr
  obtain ⟨⟨h3, h4⟩, h5⟩ := hfr
  have hn := freshBl_none h4
  have hb0 := blks_nil x k hr.bks hn (fun m B hB => freshBl_says h4 hB)
  have hk : Keeps E ⟨fun m => if m = x then none else E.blk m, E.S⟩ w w (· ∈ [x]) := ⟨fun _ h => h, fun _ _ _ => rfl, fun m hm => by simp at hm; simp [hm], fun _ _ => rfl⟩
  have hbn : b ≠ x := fun e => by subst e; rw [hb] at hn; cases hn
  have hb1 : updB [(x, some (.row k []))] (lookB bl) b = some (.cells n f nm hs) := by rw [updB_one, if_neg hbn]; exact hb
  have hb2 := blks_fn (f' := f') (nm' := nm') (hs' := hs') hb0 hb1 (fun j v hj hv => by
    by_cases e : j = i
    · subst e
      rw [hi] at hv; rw [h1]
      cases hv; exact .ownNil x 0 k (by simp)
    · rw [h2 j hj e]; exact hv)
  refine ⟨_, relE_bl hr (fun u => (hr.tms u).mono hk (fun m hm => by simp at hm; subst hm; exact freshT_look h3 u)) (bl' := (b, some (.cells n f' nm' hs')) :: (x, some (.row k [])) :: bl) ?_ (fun m g hm hg => ?_) hr.S (fun _ h => h) (fun m hm => ?_)⟩
  · have := lookB_append [(b, some (.cells n f' nm' hs')), (x, some (.row k []))] bl
    simp only [List.cons_append, List.nil_append] at this
    rw [this]
    have e : updB [(b, some (Blk.cells n f' nm' hs')), (x, some (.row k []))] (lookB bl) = updB [(b, some (.cells n f' nm' hs'))] (updB [(x, some (.row k []))] (lookB bl)) := by
      funext m
      simp only [updB, findB]
      cases Nat.beq b m <;> cases Nat.beq x m <;> rfl
    rw [e]; exact hb2
  · by_cases h : m = x
    · simp [h] at hg
    · simp [h] at hg
      refine ⟨m, ?_, hg⟩
      have e : lookB ((b, some (.cells n f' nm' hs')) :: (x, some (.row k [])) :: bl) m = bif Nat.beq b m then some (.cells n f' nm' hs') else bif Nat.beq x m then some (.row k []) else lookB bl m := rfl
      rw [e, natbeq_false (Ne.symm h)] at hm
      by_cases h' : b = m
      · subst h'; rw [hb]; simp
      · rw [natbeq_false h'] at hm; exact hm
  · have : m ≠ x := fun e => h5 (e ▸ hm)
    simp [this]

/-- A cell's known array is written no more. -/
theorem turn_fn_freeze {c : Ctx} {tl : List (Nat × AV)} {bl : List (Nat × Option Blk)} (b i x : Nat) {k m n : Nat} {f f' : Nat → AV} {nm nm' : List Nat} {hs : ∀ i m, (f i).says m = true → m ∈ nm} {hs' : ∀ i m, (f' i).says m = true → m ∈ nm'} {rows : List (List D)} (hb : lookB bl b = some (.cells n f nm hs))
    (hi : f i = .own x 0 k m) (hx : lookB bl x = some (.row k rows)) (hlen : rows.length = m) (h1 : f' i = .d (.s rows)) (h2 : ∀ j, j < n → j ≠ i → f' j = f j) :
    Turns c ⟨tl, bl⟩ ⟨tl, (b, some (.cells n f' nm' hs')) :: (x, none) :: bl⟩ := fun E a w hr => by
  have hbn : b ≠ x := fun e => by subst e; rw [hb] at hx; cases hx
  let S' : Nat → Prop := fun y => E.S y ∨ E.blk x = some y
  have hk : Keeps E ⟨E.blk, S'⟩ w w (fun _ => False) := ⟨fun _ h => .inl h, fun _ _ _ => rfl, fun _ _ => rfl, fun _ _ => rfl⟩
  have e : ∀ j, updB [(x, none)] (lookB bl) j = if j = x then none else lookB bl j := fun j => by rw [updB_one]
  have old : ∀ j, updB [(x, none)] (lookB bl) j ≠ none → j ≠ x ∧ lookB bl j ≠ none := fun j hj => by
    rw [e] at hj
    by_cases h : j = x
    · rw [if_pos h] at hj; exact absurd rfl hj
    · rw [if_neg h] at hj; exact ⟨h, hj⟩
  have hnne : lookB bl x ≠ none := by rw [hx]; simp
  have hb0 : Blks ⟨E.blk, S'⟩ w (updB [(x, none)] (lookB bl)) := by
    refine ⟨fun m B g h1 h2 => ?_, fun m B h1 h2 => ?_, fun m l g hm hl => hr.bks.inj m l g (old m hm).2 (old l hl).2, fun m g hm h1 hS => ?_, fun y hy => ?_⟩
    · have := old m (by rw [h1]; simp)
      rw [e, if_neg this.1] at h1
      exact (hr.bks.rep m B g h1 h2).mono hk rfl (fun _ h => h.elim)
    · have := old m (by rw [h1]; simp)
      rw [e, if_neg this.1] at h1
      exact hr.bks.unb m B h1 h2
    · obtain ⟨h2, h3⟩ := old m hm
      rcases hS with hS | hS
      · exact hr.bks.apart m g h3 h1 hS
      · exact h2 (hr.bks.inj m x g h3 hnne h1 hS)
    · rcases hy with hy | hy
      · exact hr.bks.bound y hy
      · exact (hr.bks.rep x _ y hx hy).lt
  have hb1 : updB [(x, none)] (lookB bl) b = some (.cells n f nm hs) := by rw [e, if_neg hbn]; exact hb
  -- the cell's value, as data
  have hB2 : Blks ⟨E.blk, S'⟩ w (updB [(b, some (.cells n f' nm' hs'))] (updB [(x, none)] (lookB bl))) := by
    have ne : ∀ j, updB [(b, some (.cells n f' nm' hs'))] (updB [(x, none)] (lookB bl)) j ≠ none → updB [(x, none)] (lookB bl) j ≠ none := fun j hj => by
      rw [updB_one] at hj
      by_cases h : j = b
      · subst h; rw [hb1]; simp
      · rw [if_neg h] at hj; exact hj
    refine ⟨fun j B g h3 h4 => ?_, fun j B h3 h4 => ?_, fun j l g hj hl => hb0.inj j l g (ne j hj) (ne l hl), fun j g hj => hb0.apart j g (ne j hj), hb0.bound⟩
    · rw [updB_one] at h3
      by_cases hjb : j = b
      · subst hjb
        rw [if_pos rfl] at h3; injection h3 with h3; subst h3
        have := hr.bks.rep j _ g hb h4
        cases this with
        | cells _ _ _ _ arr ty hh hl h' =>
          refine .cells _ _ _ _ arr ty hh hl fun p v hp hv => ?_
          obtain ⟨h5, h6⟩ := h' p v hp hv
          refine ⟨?_, h6⟩
          by_cases hpi : p = i
          · subst hpi
            rw [hi] at h5; rw [h1]
            have := RepD_own hr.bks hx h5 (by omega) S' (fun _ h => .inl h) (fun g hg => .inr hg)
            have e2 : (rows.drop 0).take m = rows := by subst hlen; simp
            rw [e2] at this
            exact .d this
          · rw [h2 p hp hpi]; exact h5.mono hk (fun _ h => h.elim)
      · rw [if_neg hjb] at h3; exact hb0.rep j B g h3 h4
    · rw [updB_one] at h3
      by_cases hjb : j = b
      · subst hjb
        obtain ⟨k, hk⟩ := hr.bks.unb j _ hb h4; cases hk
      · rw [if_neg hjb] at h3; exact hb0.unb j B h3 h4
  refine ⟨⟨E.blk, S'⟩, relE_bl hr (fun u => (hr.tms u).mono hk (fun _ h => h.elim)) (bl' := (b, some (.cells n f' nm' hs')) :: (x, none) :: bl) ?_ (fun m g hm hg => ?_) (fun y hy => ?_) (fun _ h => .inl h) (fun _ _ => rfl)⟩
  · have := lookB_append [(b, some (.cells n f' nm' hs')), (x, none)] bl
    simp only [List.cons_append, List.nil_append] at this
    rw [this]
    have e : updB [(b, some (Blk.cells n f' nm' hs')), (x, none)] (lookB bl) = updB [(b, some (.cells n f' nm' hs'))] (updB [(x, none)] (lookB bl)) := by
      funext m
      simp only [updB, findB]
      cases Nat.beq b m <;> cases Nat.beq x m <;> rfl
    rw [e]; exact hB2
  · refine ⟨m, ?_, hg⟩
    have e : lookB ((b, some (.cells n f' nm' hs')) :: (x, none) :: bl) m = bif Nat.beq b m then some (.cells n f' nm' hs') else bif Nat.beq x m then none else lookB bl m := rfl
    rw [e] at hm
    by_cases h' : b = m
    · subst h'; rw [hb]; simp
    · rw [natbeq_false h', cond_false] at hm
      by_cases h2 : x = m
      · subst h2; simp at hm
      · rw [natbeq_false h2] at hm; exact hm
  · rcases hy with hy | hy
    · exact hr.S y hy
    · exact .inr (hr.names x y hnne hy)

/-! ### maps from numbers to true -/
section
variable {P : Program} {c : Ctx} {Q : Exit → St → Prop} {tl : List (Nat × AV)} {bl : List (Nat × Option Blk)} {ops : Array Oper} {rest : List Oper} {d : Tmp} {ty : TypeId} {pos : String} {after : Array Edge}

theorem seqMap (n : Nat) {t : TypeId} (hd : Nat.blt d c.N = true) (hf : freshes c.gl [n] ⟨tl, bl⟩ = true) (h : ∀ g : Nat, Ops P c ops rest Q ⟨(d, .d (.v (.map (some g)))) :: tl, (n, some (.mp g [])) :: bl⟩) :
    Ops P c ops (⟨some d, .makeMap t none, ty, pos, after, none⟩ :: rest) Q ⟨tl, bl⟩ := by
  intro E a w hr
  have hfr := (List.all_eq_true.1 hf) n (by simp)
  simp only [Bool.and_eq_true, Bool.not_eq_true', List.contains_eq_mem, decide_eq_false_iff_not] at hfr
  obtain ⟨⟨h3, h4⟩, h5⟩ := hfr
  refine wpList_plain rfl fun K hK => Benign.wp ?_
  have hb := blks_new hr.bks (pushed_alloc w (.map #[] 0)) n (freshBl_none h4) (fun m B hB => freshBl_says h4 hB) (.mp w.heap.size []) (fun _ => .mp [] #[] 0 (pushed_alloc w _).get rfl)
  have hrun : (Instr.makeMap t none).run P w = .ok (.map (some w.heap.size)) (w.alloc (.map #[] 0)) := run_makeMap t w
  simp only [execOp, Option.map_none]
  refine (benign_val (post := fun v w' => v = .map (some w.heap.size) ∧ w' = w.alloc (.map #[] 0)) hrun ⟨rfl, rfl⟩).mono fun v w' ⟨e1, e2⟩ => ?_
  subst e1; subst e2
  refine hK _ _ (h w.heap.size ⟨fun m => if m = n then some w.heap.size else E.blk m, E.S⟩ _ _ ?_)
  refine RelF.put hr hb.2.1 ?_ ?_ (fun m hm hG => ?_) (some d) (fun d' hd' => by cases hd'; simpa [Nat.blt_eq] using hd) (.d (.v (.map (some w.heap.size)))) _ (.d (.v _ rfl)) _ fun u => ?_
  · have := lookB_append [(n, some (Blk.mp w.heap.size []))] bl
    simp only [List.cons_append, List.nil_append] at this
    rw [this]; exact hb.1
  · have := lookB_append [(n, some (Blk.mp w.heap.size []))] bl
    simp only [List.cons_append, List.nil_append] at this
    rw [this]; exact hb.2.2
  · simp at hm; subst hm; exact h5 hG
  · rcases put_look (tl := tl) (some d) (.d (.v (.map (some w.heap.size)))) u with ⟨h1, h2⟩ | ⟨h1, h2⟩
    · exact .inl ⟨h1, h2⟩
    · exact .inr (.inr ⟨h1, h2, fun m hm => by simp at hm; subst hm; exact freshT_look h3 u⟩)
end

theorem findNow_no {k : Int} : ∀ {es : List MapEntry} {ks : List Int} {i : Nat}, es.map (fun e => (e.key, e.val)) = ks.map (fun k => (Value.int .i64 k, Value.bool true)) → k ∉ ks → Instr.findNow (.int .i64) (.int .i64 k) es i = some none
  | [], _, _, _, _ => rfl
  | e :: es, [], _, h, _ => by cases h
  | e :: es, x :: ks, i, h, hk => by
    simp only [List.map_cons, List.cons.injEq, Prod.mk.injEq] at h
    unfold Instr.findNow
    rw [h.1.1]
    have : (k == x) = false := beq_eq_false_iff_ne.2 fun e => hk (e ▸ List.mem_cons_self ..)
    simp only [Instr.sameNow, if_true, this]
    exact findNow_no h.2 fun hm => hk (List.mem_cons_of_mem _ hm)
theorem findNow_yes {k : Int} : ∀ {es : List MapEntry} {ks : List Int} {i : Nat}, es.map (fun e => (e.key, e.val)) = ks.map (fun k => (Value.int .i64 k, Value.bool true)) → k ∈ ks → ∃ j, Instr.findNow (.int .i64) (.int .i64 k) es i = some (some (j, .bool true))
  | [], [], _, _, hk => by cases hk
  | [], _ :: _, _, h, _ => by cases h
  | e :: es, [], _, h, _ => by cases h
  | e :: es, x :: ks, i, h, hk => by
    simp only [List.map_cons, List.cons.injEq, Prod.mk.injEq] at h
    unfold Instr.findNow
    rw [h.1.1]
    by_cases e : k = x
    · subst e
      simp only [Instr.sameNow, if_true, beq_self_eq_true]
      exact ⟨i, by rw [h.1.2]⟩
    · have : (k == x) = false := beq_eq_false_iff_ne.2 e
      simp only [Instr.sameNow, if_true, this]
      exact findNow_yes h.2 ((List.mem_cons.1 hk).resolve_left e)
theorem run_findKey {P : Program} {kt : TypeId} {k : Value} {es : List MapEntry} {r : Option (Nat × Value)} (hk : P.underlying kt = some (.int .i64)) (h : Instr.findNow (.int .i64) k es 0 = some r) (w : World) : (Instr.findKey kt k es).run P w = .ok r w := by
  simp [Instr.findKey, run_underlying hk, h]
theorem run_checkKey {P : Program} {kt : TypeId} {e : Bool} {k : Int} (hk : P.underlying kt = some (.int .i64)) (w : World) : (Instr.checkKey e 10000 kt (.int .i64 k)).run P w = .ok () w := by
  have : ∀ n, (Instr.checkKey e (n + 1) kt (.int .i64 k)).run P w = .ok () w := fun n => by simp [Instr.checkKey, run_underlying hk]
  exact this 9999

section
variable {P : Program} {ρ : Operand → AV} {bk0 : Bk} {dst : Option Tmp} {ty : TypeId} {pos : String} {after : Array Edge} {gd : Option (Nat × Bool)}

theorem blks_map {E : Env} {w : World} {bk : Bk} {b g : Nat} {ks ks' : List Int} {es es' : Array MapEntry} {cl cl' : Nat} (hB : Blks E w bk) (hb : bk b = some (.mp g ks)) (hg : E.blk b = some g)
    (hh : w.heap[g]? = some (.map es cl)) (hk' : es'.toList.map (fun e => (e.key, e.val)) = ks'.map fun k => (Value.int .i64 k, Value.bool true)) :
    Blks E (w.putObj g (.map es' cl')) (updB [(b, some (.mp g ks'))] bk) ∧ Grow E E w (w.putObj g (.map es' cl')) bk (· ∈ []) ∧
      (∀ n k, updB [(b, some (.mp g ks'))] bk n ≠ none → E.blk n = some k → (∃ m, bk m ≠ none ∧ E.blk m = some k) ∨ w.heap.size ≤ k) := by
  have hlt : g < w.heap.size := (Array.getElem?_eq_some_iff.1 hh).1
  have hsh : ∀ k, (w.putObj g (.map es' cl')).shape? k = w.shape? k := fun k => by
    by_cases e : k = g
    · subst e; simp [World.shape?, World.putObj_heap_same hlt, hh]
    · simp [World.shape?, World.putObj_heap_other e]
  have hgr : Grow E E w (w.putObj g (.map es' cl')) bk (· ∈ []) := ⟨fun _ h => h, fun _ h => .inl h, fun _ _ => rfl,
    ⟨by simp, fun k hk hx => World.putObj_heap_other fun e => hx ⟨b, by rw [hb]; simp, by rw [e]; exact hg⟩, fun k _ => hsh k, rfl, rfl, rfl⟩⟩
  have hk0 := hgr.keeps hB
  have hk : Keeps E E w (w.putObj g (.map es' cl')) (fun _ => False) := ⟨hk0.S, hk0.cell, fun n _ => rfl, hk0.shape⟩
  have hup : ∀ n, updB [(b, some (.mp g ks'))] bk n = if n = b then some (.mp g ks') else bk n := fun n => by rw [updB_one]
  have hne : ∀ n, updB [(b, some (.mp g ks'))] bk n ≠ none → bk n ≠ none := fun n hn => by
    rw [hup] at hn
    by_cases h : n = b
    · subst h; rw [hb]; simp
    · rwa [if_neg h] at hn
  refine ⟨⟨fun n B1 g1 h1 h2 => ?_, fun n B1 h1 h2 => ?_, fun n m k hn hm => hB.inj n m k (hne n hn) (hne m hm), fun n k hn => hB.apart n k (hne n hn), fun k hk => by simpa using hB.bound k hk⟩,
    hgr, fun n k hn hk' => .inl ⟨n, hne n hn, hk'⟩⟩
  · rw [hup] at h1
    by_cases h : n = b
    · subst h
      rw [if_pos rfl] at h1
      injection h1 with h1
      subst h1
      rw [hg] at h2; injection h2 with h2; subst h2
      exact .mp ks' es' cl' (World.putObj_heap_same hlt) hk'
    · rw [if_neg h] at h1
      have hne' : g1 ≠ g := fun e => h (hB.inj n b g (by rw [h1]; simp) (by rw [hb]; simp) (e ▸ h2) hg)
      exact (hB.rep n B1 g1 h1 h2).mono hk (World.putObj_heap_other hne') (fun _ hf => hf.elim)
  · rw [hup] at h1
    by_cases h : n = b
    · subst h; rw [hg] at h2; cases h2
    · rw [if_neg h] at h1; exact hB.unb n B1 h1 h2

theorem step_mapUpdate {mt kt et : TypeId} {x y z : Operand} {b g : Nat} {ks : List Int} {k : Int} (hm : P.underlying mt = some (.map kt et)) (hkt : P.underlying kt = some (.int .i64)) (hx : ρ x = .d (.v (.map (some g)))) (hy : ρ y = .d (.v (.int .i64 k))) (hz : ρ z = .d (.v (.bool true))) (hb : bk0 b = some (.mp g ks)) (hk : k ∉ ks) :
    Step P ⟨dst, .mapUpdate mt x y z, ty, pos, after, gd⟩ ρ bk0 .any [(b, some (.mp g (ks ++ [k])))] [] := by
  intro bk hbk _ E w vals hvals hB
  have h1 := hvals x (by simp [Op.operands]); rw [hx] at h1
  have h2 := hvals y (by simp [Op.operands]); rw [hy] at h2
  have h4 := hvals z (by simp [Op.operands]); rw [hz] at h4
  have h3 := hbk b _ hb
  obtain ⟨g', hg⟩ : ∃ g', E.blk b = some g' := by
    cases h : E.blk b with
    | none => obtain ⟨k, hk⟩ := hB.unb b _ h3 h; cases hk
    | some g' => exact ⟨g', rfl⟩
  have hr := hB.rep b _ g' h3 hg
  cases hr with
  | mp _ es clock hh hkk =>
    have hj := findNow_no (i := 0) hkk hk
    have hb1 := blks_map (es' := es.push { key := .int .i64 k, val := .bool true, born := clock }) (ks' := ks ++ [k]) (cl' := clock + 1) hB h3 hg hh (by simp [hkk])
    have hrun : (Instr.mapUpdate mt (.map (some g)) (.int .i64 k) (.bool true)).run P w = .ok () (w.putObj g (.map (es.push { key := .int .i64 k, val := .bool true, born := clock }) (clock + 1))) := by
      simp [Instr.mapUpdate, run_underlying hm, getObj, setObj, Sem.run, hh, run_checkKey hkt, run_findKey hkt hj, World.putObj]
    simp only [execOp, rep_val h1, rep_val h2, rep_val h4]
    exact benign_unit hrun ⟨E, hb1.1, .any _, hb1.2.1, hb1.2.2⟩

theorem step_lookup {mt kt et : TypeId} {x y : Operand} {b g : Nat} {ks : List Int} {k : Int} (hm : P.underlying mt = some (.map kt et)) (hkt : P.underlying kt = some (.int .i64)) (hx : ρ x = .d (.v (.map (some g)))) (hy : ρ y = .d (.v (.int .i64 k))) (hb : bk0 b = some (.mp g ks)) (hk : k ∈ ks) :
    Step P ⟨dst, .lookup mt x y false, ty, pos, after, gd⟩ ρ bk0 (.d (.v (.bool true))) [] [] :=
  step_pure fun E w vals bk hvals hB hbk => by
    have h1 := hvals x (by simp [Op.operands]); rw [hx] at h1
    have h2 := hvals y (by simp [Op.operands]); rw [hy] at h2
    have h3 := hbk b _ hb
    obtain ⟨g', hg⟩ : ∃ g', E.blk b = some g' := by
      cases h : E.blk b with
      | none => obtain ⟨k, hk⟩ := hB.unb b _ h3 h; cases hk
      | some g' => exact ⟨g', rfl⟩
    have hr := hB.rep b _ g' h3 hg
    cases hr with
    | mp _ es clock hh hkk =>
      obtain ⟨j, hj⟩ := findNow_yes (i := 0) hkk hk
      refine ⟨_, ?_, .d (.v _ rfl)⟩
      simp [execOp, rep_val h1, rep_val h2, Instr.lookup, run_underlying hm, getObj, Sem.run, hh, run_checkKey hkt, run_findKey hkt hj]
end

section
variable {s : St} {bk0 : Bk} {dst : Option Tmp} {ty : TypeId} {pos : String} {after : Array Edge} {gd : Option (Nat × Bool)}
theorem under146 : Try.prog.underlying 146 = some (.map 3 4) := by kernel_rfl
theorem under3 : Try.prog.underlying 3 = some (.int .i64) := by kernel_rfl
theorem mapUpT {x y z : Operand} (b : Nat) {g : Nat} {ks ks' : List Int} {k : Int} (hx : evalO s x = some (.d (.v (.map (some g))))) (hy : evalO s y = some (.d (.v (.int .i64 k)))) (hz : evalO s z = some (.d (.v (.bool true)))) (hb : bk0 b = some (.mp g ks)) (hk : k ∉ ks) (hk' : ks ++ [k] = ks') :
    Step Try.prog ⟨dst, .mapUpdate 146 x y z, ty, pos, after, gd⟩ (evalA s) bk0 .any [(b, some (.mp g ks'))] [] := hk' ▸ step_mapUpdate under146 under3 (ev hx) (ev hy) (ev hz) hb hk
theorem lookupT {x y : Operand} (b : Nat) {g : Nat} {ks : List Int} {k : Int} (hx : evalO s x = some (.d (.v (.map (some g))))) (hy : evalO s y = some (.d (.v (.int .i64 k)))) (hb : bk0 b = some (.mp g ks)) (hk : k ∈ ks) :
    Step Try.prog ⟨dst, .lookup 146 x y false, ty, pos, after, gd⟩ (evalA s) bk0 (.d (.v (.bool true))) [] [] := step_lookup under146 under3 (ev hx) (ev hy) hb hk
theorem makeCT {t e by_ n' m : Nat} {x y : Operand} {kk kk' : IntKind} (hx : evalO s x = some (.d (.v (.int kk (m : Nat))))) (hy : evalO s y = some (.d (.v (.int kk' (m : Nat)))))
    (ht : asc tabX t = some (e, 1, by_)) (hz : asc tabZ e = some [.nil]) (hc : (m : Int) * by_ ≤ 281474976710656) (hc2 : (m : Int) ≤ 9223372036854775807) :
    Step Try.prog ⟨dst, .makeSlice t x y, ty, pos, after, gd⟩ (evalA s) bk0 (.own n' 0 1 m) [(n', some (.cells m (fun _ => .nil) [] nil_says))] [n'] := step_makeCells (ev hx) (ev hy) (appT ht) (zeroT hz) (zeroOkT hz) hc hc2
theorem loadCT {t b i n : Nat} {x : Operand} {f : Nat → AV} {nm : List Nat} {hs : ∀ i m, (f i).says m = true → m ∈ nm} {c : AV} (hx : evalO s x = some (.ptr b i 1 0)) (ht : asc tabC t = some ()) (hb : bk0 b = some (.cells n f nm hs)) (hi : i < n) (hc : f i = c) :
    Step Try.prog ⟨dst, .load t x, ty, pos, after, gd⟩ (evalA s) bk0 c [] [] := hc ▸ step_load_cell (ev hx) hb (scalT ht) hi
theorem storeCT {t b i n : Nat} {a x : Operand} {f : Nat → AV} (f' : Nat → AV) {nm : List Nat} (nm' : List Nat) {hs : ∀ i m, (f i).says m = true → m ∈ nm} (hs' : ∀ i m, (f' i).says m = true → m ∈ nm') {v c : AV} (ha : evalO s a = some (.ptr b i 1 0)) (hx : evalO s x = some v) (hv : cellsA v = some [c]) (hb : bk0 b = some (.cells n f nm hs))
    (ht : asc tabS t = some 1) (hi : i < n) (h1 : f' i = c) (h2 : ∀ j, j < n → j ≠ i → f' j = f j) :
    Step Try.prog ⟨dst, .store t a x, ty, pos, after, gd⟩ (evalA s) bk0 .any [(b, some (.cells n f' nm' hs'))] [] := step_store_cell (ev ha) (ev hx) hv hb (sizeT ht) hi h1 h2
end
end Go.Proofs.Ytencghlmckbmlaa
