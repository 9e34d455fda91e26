/- New blocks: variables, composite values, slices made and appended to: over symbolic states. -/
import Derived.Test.YtencghlmckbmlaaOpsC
set_option linter.unusedVariables false
set_option linter.unusedSimpArgs false
namespace Go.Proofs.Ytencghlmckbmlaa
open Go Go.RowKit

section
variable {P : Program} {ρ : Operand → AV} {bk0 : Bk} {dst : Option Tmp} {ty : TypeId} {pos : String} {after : Array Edge} {gd : Option (Nat × Bool)}

theorem updB_one (n : Nat) (B : Option Blk) (bk : Bk) (m : Nat) : updB [(n, B)] bk m = if m = n then B else bk m := by
  by_cases h : m = n
  · subst h; simp [updB, findB]
  · simp [updB, findB, natbeq_false (Ne.symm h), h]

/-- The heap has one block more, and is as it was else. -/
structure Pushed (w w' : World) (o : Obj) : Prop where
  heap : w'.heap = w.heap.push o
  os : w'.os = w.os
  tape : w'.tape = w.tape
  output : w'.output = w.output

theorem Pushed.get {w w' : World} {o : Obj} (h : Pushed w w' o) : w'.heap[w.heap.size]? = some o := by rw [h.heap]; simp
theorem Pushed.old {w w' : World} {o : Obj} (h : Pushed w w' o) {b : Nat} (hb : b < w.heap.size) : w'.heap[b]? = w.heap[b]? := by
  rw [h.heap, Array.getElem?_push_lt hb]; simp [hb]
theorem Pushed.size {w w' : World} {o : Obj} (h : Pushed w w' o) : w'.heap.size = w.heap.size + 1 := by rw [h.heap]; simp
theorem Pushed.ext {w w' : World} {o : Obj} (h : Pushed w w' o) (X : Nat → Prop) : Ext X w w' :=
  ⟨by rw [h.size]; omega, fun b hb _ => h.old hb, fun b hb => by simp [World.shape?, h.old hb], h.os, h.tape, h.output⟩

/-- A new block under a new name (or under no block at all: g = none). -/
theorem blks_new {E : Env} {w w' : World} {bk : Bk} {o : Obj} (hB : Blks E w bk) (hp : Pushed w w' o) (n : Nat) (hn : bk n = none) (hs : ∀ m B, bk m = some B → B.says n = false) (B : Blk)
    (hrep : Keeps E ⟨fun m => if m = n then some w.heap.size else E.blk m, E.S⟩ w w' (· ∈ [n]) → BlkRep ⟨fun m => if m = n then some w.heap.size else E.blk m, E.S⟩ w' w.heap.size B) :
    Blks ⟨fun m => if m = n then some w.heap.size else E.blk m, E.S⟩ w' (updB [(n, some B)] bk) ∧
    Grow E ⟨fun m => if m = n then some w.heap.size else E.blk m, E.S⟩ w w' bk (· ∈ [n]) ∧
    (∀ m g, updB [(n, some B)] bk m ≠ none → (⟨fun m => if m = n then some w.heap.size else E.blk m, E.S⟩ : Env).blk m = some g → (∃ l, bk l ≠ none ∧ E.blk l = some g) ∨ w.heap.size ≤ g) := by
  have hgr : Grow E ⟨fun m => if m = n then some w.heap.size else E.blk m, E.S⟩ w w' bk (· ∈ [n]) :=
    ⟨fun _ h => h, fun _ h => .inl h, fun m hm => by simp at hm; simp [hm], hp.ext _⟩
  have hk := hgr.keeps hB
  have hne : ∀ m, m ≠ n → updB [(n, some B)] bk m = bk m := fun m hm => by rw [updB_one, if_neg hm]
  have lt : ∀ m g, bk m ≠ none → E.blk m = some g → g < w.heap.size := fun m g hm hg => by
    cases hb : bk m with
    | none => exact absurd hb hm
    | some B' => exact (hB.rep m B' g hb hg).lt
  refine ⟨⟨fun m B1 g h1 h2 => ?_, fun m B1 h1 h2 => ?_, fun m l g hm hl h1 h2 => ?_, fun m g hm h1 => ?_, fun b hb => by rw [hp.size]; have := hB.bound b hb; omega⟩, hgr, fun m g hm h1 => ?_⟩
  · by_cases h : m = n
    · subst h
      rw [updB_one, if_pos rfl] at h1
      injection h1 with h1; subst h1
      simp at h2; subst h2
      exact hrep hk
    · rw [hne m h] at h1
      simp [h] at h2
      exact (hB.rep m B1 g h1 h2).mono hk (hp.old (lt m g (by rw [h1]; simp) h2)) (fun l hl => by simp at hl; subst hl; exact hs m B1 h1)
  · by_cases h : m = n
    · subst h; simp at h2
    · rw [hne m h] at h1; simp [h] at h2; exact hB.unb m B1 h1 h2
  · by_cases h : m = n
    · by_cases h' : l = n
      · rw [h, h']
      · rw [hne l h'] at hl
        simp [h] at h1; simp [h'] at h2
        have := lt l g hl h2; omega
    · by_cases h' : l = n
      · rw [hne m h] at hm
        simp [h] at h1; simp [h'] at h2
        have := lt m g hm h1; omega
      · rw [hne m h] at hm; rw [hne l h'] at hl
        simp [h] at h1; simp [h'] at h2
        exact hB.inj m l g hm hl h1 h2
  · by_cases h : m = n
    · simp [h] at h1; subst h1
      exact fun hS => absurd (hB.bound _ hS) (by omega)
    · rw [hne m h] at hm; simp [h] at h1; exact hB.apart m g hm h1
  · by_cases h : m = n
    · simp [h] at h1; exact .inr (by omega)
    · rw [hne m h] at hm; simp [h] at h1; exact .inl ⟨m, hm, h1⟩

/-- A new block that nobody will write. -/
theorem blks_data {E : Env} {w w' : World} {bk : Bk} {o : Obj} (hB : Blks E w bk) (hp : Pushed w w' o) :
    Blks ⟨E.blk, fun b => E.S b ∨ b = w.heap.size⟩ w' bk ∧ Grow E ⟨E.blk, fun b => E.S b ∨ b = w.heap.size⟩ w w' bk (· ∈ []) ∧
    (∀ m g, bk m ≠ none → E.blk m = some g → (∃ l, bk l ≠ none ∧ E.blk l = some g) ∨ w.heap.size ≤ g) ∧ Keeps E ⟨E.blk, fun b => E.S b ∨ b = w.heap.size⟩ w w' (fun _ => False) := by
  have hgr : Grow E ⟨E.blk, fun b => E.S b ∨ b = w.heap.size⟩ w w' bk (· ∈ []) :=
    ⟨fun _ h => .inl h, fun b h => h.elim .inl fun e => .inr (.inr (by omega)), fun m hm => rfl, hp.ext _⟩
  have hk0 := hgr.keeps hB
  have hk : Keeps E ⟨E.blk, fun b => E.S b ∨ b = w.heap.size⟩ w w' (fun _ => False) := ⟨hk0.S, hk0.cell, fun n _ => rfl, hk0.shape⟩
  have lt : ∀ m g, bk m ≠ none → E.blk m = some g → g < w.heap.size := fun m g hm hg => by
    cases hb : bk m with
    | none => exact absurd hb hm
    | some B' => exact (hB.rep m B' g hb hg).lt
  refine ⟨⟨fun m B1 g h1 h2 => (hB.rep m B1 g h1 h2).mono hk (hp.old (lt m g (by rw [h1]; simp) h2)) (fun l hl => hl.elim), hB.unb, hB.inj, fun m g hm h1 hS => ?_, fun b hb => ?_⟩, hgr, fun m g hm h1 => .inl ⟨m, hm, h1⟩, hk⟩
  · rcases hS with hS | rfl
    · exact hB.apart m g hm h1 hS
    · have := lt m _ hm h1; omega
  · rw [hp.size]
    rcases hb with hb | rfl
    · have := hB.bound b hb; omega
    · omega

theorem benign_val {m : Sem Value} {w w' : World} {v : Value} {post : Value → World → Prop} (hr : m.run P w = .ok v w') (h : post v w') : Benign P (do pure (.value (← m))) w post := by
  unfold Benign
  simp only [Sem.run_bind, hr, Result.andThen_ok, Sem.run_pure]
  exact h

theorem run_newVar' (t : TypeId) (v : Value) (w : World) : (newVar t v).run P w = .ok ⟨w.heap.size, 0, none⟩ (w.alloc (.cells v.cells t)) := by
  simp [newVar, newRow]

theorem pushed_alloc (w : World) (o : Obj) : Pushed w (w.alloc o) o := ⟨rfl, rfl, rfl, rfl⟩

theorem repL_zero {E : Env} {w : World} (vs : List Value) (h1 : ∀ v ∈ vs, v.oneCell' = true) : RepL E w (vs.map constA) vs :=
  ⟨by simp, fun i c v h2 h3 => by
    rw [List.getElem?_map, h3] at h2
    simp at h2; rw [← h2]; exact rep_const E w v, fun i v h => h1 v (List.mem_of_getElem? h)⟩

def zeroOk (P : Program) (t : Nat) (cs : List AV) : Bool :=
  match (P.info? t).bind (·.zero) with
  | some v => v.cells.toList.all (·.oneCell')
  | none => false

theorem step_alloc {t n : Nat} {cs : List AV} (hz : zeroB P t = some cs) (h1 : zeroOk P t cs = true) (hsay : AV.says.saysL n cs = false) :
    Step P ⟨dst, .alloc t, ty, pos, after, gd⟩ ρ bk0 (.ptr n 0 0 0) [(n, some (.var cs))] [n] := by
  intro bk hbk hnw E w vals hvals hB
  obtain ⟨hn, hs⟩ := hnw n (by simp)
  unfold zeroB at hz
  unfold zeroOk at h1
  cases hi : P.info? t with
  | none => rw [hi] at hz; cases hz
  | some i =>
    rw [hi] at hz h1
    cases hzv : i.zero with
    | none => simp [hzv] at hz
    | some z =>
      simp [hzv] at hz
      simp only [Option.bind_some, hzv] at h1
      have h1 := List.all_eq_true.1 h1
      have hr : (Instr.alloc t true (.tuple #[])).run P w = .ok (.pointer (some ⟨w.heap.size, 0, none⟩)) (w.alloc (.cells z.cells t)) := by
        simp [Instr.alloc, zeroValue, typeInfo, hi, hzv, newVar, newRow]
      have hb := blks_new hB (pushed_alloc w (.cells z.cells t)) n hn hs (.var cs) (fun hk => RepL.var (ty := t) (pushed_alloc w _).get (by
        rw [← hz]; exact repL_zero _ (fun v hv => h1 v hv)))
      simp only [execOp]
      refine benign_val hr ⟨_, hb.1, ?_, hb.2.1, hb.2.2⟩
      exact .ptr n 0 0 0 w.heap.size (by simp)

theorem step_box {t n : Nat} {x : Operand} {v : AV} {cs : List AV} (hx : ρ x = v) (hv : cellsA v = some cs) (hsay : AV.says.saysL n cs = false) :
    Step P ⟨dst, .box t x, ty, pos, after, gd⟩ ρ bk0 (.ptr n 0 0 0) [(n, some (.var cs))] [n] := by
  intro bk hbk hnw E w vals hvals hB
  obtain ⟨hn, hs⟩ := hnw n (by simp)
  have h2 := hvals x (by simp [Op.operands]); rw [hx] at h2
  have hL := repL_cells h2 hv
  have hr : (Instr.box t (vals x)).run P w = .ok (.pointer (some ⟨w.heap.size, 0, none⟩)) (w.alloc (.cells (vals x).cells t)) := by
    simp [Instr.box, newVar, newRow]
  have hb := blks_new hB (pushed_alloc w (.cells (vals x).cells t)) n hn hs (.var cs) (fun hk => RepL.var (ty := t) (pushed_alloc w _).get
    (hL.mono hk (fun m hm => by simp at hm; subst hm; exact hsay)))
  simp only [execOp]
  refine benign_val hr ⟨_, hb.1, ?_, hb.2.1, hb.2.2⟩
  exact .ptr n 0 0 0 w.heap.size (by simp)

/-! ### composite values -/

def placesB (P : Program) (t : Nat) : Option (List (Nat × Nat)) :=
  match P.underlying t with
  | some (.struct fs) => fs.toList.mapM fun f => (P.info? f.type).map fun i => (f.offset, i.size)
  | _ => none

def fillA (place : Nat → Option (Nat × Nat)) (cs : List AV) : List (Nat × AV) → Option (List AV)
  | [] => some cs
  | (i, v) :: rest => match place i, cellsA v with
    | some (off, size), some vs => if vs.length ≠ size ∨ off + vs.length > cs.length then none else fillA place (setAt cs off vs) rest
    | _, _ => none

theorem foldl_set (off : Nat) : ∀ (vs : List Value) (j : Nat) (cs : Array Value), off + j + vs.length ≤ cs.size →
    ((vs.zipIdx j).foldl (fun cs (c, j) => cs.setIfInBounds (off + j) c) cs).toList = setAt cs.toList (off + j) vs
  | [], j, cs, h => by simp [setAt]
  | v :: r, j, cs, h => by
    simp only [List.length_cons] at h
    rw [List.zipIdx_cons, List.foldl_cons]
    have ih := foldl_set off r (j + 1) (cs.setIfInBounds (off + j) v) (by simp; omega)
    rw [ih]
    apply List.ext_getElem?
    intro i
    rw [setAt_get _ _ _ (by simp; omega), setAt_get _ _ _ (by simp; omega)]
    simp only [List.length_cons, Array.toList_setIfInBounds, List.getElem?_set, Array.length_toList]
    by_cases h1 : off + (j + 1) ≤ i ∧ i < off + (j + 1) + r.length
    · rw [if_pos h1, if_pos (by omega)]
      have : i - (off + j) = (i - (off + (j + 1))) + 1 := by omega
      rw [this]; simp
    · rw [if_neg h1]
      by_cases h2 : i = off + j
      · subst h2
        rw [if_pos rfl, if_pos (by omega), if_pos (by omega)]; simp
      · rw [if_neg (Ne.symm h2), if_neg (by omega)]

theorem fill_rep {E : Env} {w : World} {place : Nat → Option (Nat × Nat)} : ∀ (ps : List (Nat × AV)) (qs : List (Nat × Value)) (cs : List AV) (xs : Array Value) (cs' : List AV),
    RepL E w cs xs.toList → qs.length = ps.length → (∀ (j : Nat) (p : Nat × AV) (q : Nat × Value), ps[j]? = some p → qs[j]? = some q → p.1 = q.1 ∧ Rep E w p.2 q.2) → fillA place cs ps = some cs' →
    ∃ xs', Instr.fill place xs qs = some xs' ∧ RepL E w cs' xs'.toList
  | [], [], cs, xs, cs', h, _, _, hf => by simp only [fillA, Option.some.injEq] at hf; subst hf; exact ⟨xs, rfl, h⟩
  | (i, v) :: ps, (i', x) :: qs, cs, xs, cs', h, hl, hp, hf => by
    obtain ⟨he, hr⟩ := hp 0 (i, v) (i', x) rfl rfl
    simp only at he hr
    subst he
    simp only [fillA] at hf
    split at hf
    · rename_i off size vs hpl hcv
      split at hf
      · cases hf
      · rename_i hno
        have hL := repL_cells hr hcv
        have h1 : x.cells.size = size := by have := hL.len; simp at this; omega
        have h2 : ¬ (off + x.cells.size > xs.size) := by have := hL.len; have := h.len; simp at *; omega
        have hset := h.setAt hL off (by omega)
        have e := foldl_set off x.cells.toList 0 xs (by simp; omega)
        simp only [Nat.add_zero] at e
        rw [← e] at hset
        obtain ⟨xs', h3, h4⟩ := fill_rep ps qs (setAt cs off vs) _ cs' hset (by simpa using hl) (fun j p q h1 h2 => hp (j + 1) p q (by simpa using h1) (by simpa using h2)) hf
        refine ⟨xs', ?_, h4⟩
        simp only [Instr.fill, hpl]
        rw [if_neg (by simp only [ne_eq, Bool.or_eq_true, decide_eq_true_eq]; omega)]
        rw [← h3]
        congr 1
        rw [← Array.foldl_toList, Array.toList_zipIdx]
    · cases hf
  | [], _ :: _, _, _, _, _, hl, _, _ => by simp at hl
  | _ :: _, [], _, _, _, _, hl, _, _ => by simp at hl

theorem mapM_places {w : World} : ∀ (fs : List Field) (l : List (Nat × Nat)), (fs.mapM fun f => (P.info? f.type).map fun i => (f.offset, i.size)) = some l →
    (fs.mapM fun f => (do pure (f.offset, ← sizeOf f.type) : Sem (Nat × Nat))).run P w = .ok l w
  | [], l, h => by simp at h; subst h; simp
  | f :: fs, l, h => by
    simp only [List.mapM_cons] at h ⊢
    cases hi : P.info? f.type with
    | none => simp [hi] at h
    | some i =>
      simp only [hi, Option.map_some] at h
      cases hr : fs.mapM (fun f => (P.info? f.type).map fun i => (f.offset, i.size)) with
      | none => simp [hr] at h
      | some l' =>
        simp [hr] at h
        subst h
        have := mapM_places (w := w) fs l' hr
        simp [Sem.run_bind, sizeOf, typeInfo, hi] at this ⊢
        simp [this]

theorem step_build {t : Nat} {parts : Array (Nat × Operand)} {ps : List (Nat × AV)} {pl : List (Nat × Nat)} {cs cs' : List AV} (hps : parts.toList.map (fun p => (p.1, ρ p.2)) = ps)
    (hpl : placesB P t = some pl) (hz : zeroB P t = some cs) (h1 : zeroOk P t cs = true) (hf : fillA (fun i => pl[i]?) cs ps = some cs') :
    Step P ⟨dst, .build t parts, ty, pos, after, gd⟩ ρ bk0 (.agg cs') [] [] :=
  step_pure fun E w vals bk hvals hB hbk => by
    unfold zeroB at hz
    unfold zeroOk at h1
    cases hi : P.info? t with
    | none => rw [hi] at hz; cases hz
    | some i =>
      rw [hi] at hz h1
      cases hzv : i.zero with
      | none => simp [hzv] at hz
      | some z =>
        simp [hzv] at hz
        simp only [Option.bind_some, hzv] at h1
        have h1 := List.all_eq_true.1 h1
        unfold placesB at hpl
        split at hpl
        · rename_i fs hu
          have hzero : RepL E w cs z.cells.toList := by rw [← hz]; exact repL_zero _ (fun v hv => h1 v hv)
          obtain ⟨xs', h3, h4⟩ := fill_rep (E := E) (w := w) (place := fun i => pl[i]?) ps (parts.toList.map fun p => (p.1, vals p.2)) cs z.cells cs' hzero (by rw [← hps]; simp) (fun j p q hp hq => by
            rw [← hps] at hp
            simp only [List.getElem?_map, Option.map_eq_some_iff] at hp hq
            obtain ⟨a, ha, rfl⟩ := hp
            obtain ⟨b, hb, rfl⟩ := hq
            rw [ha] at hb; injection hb with hb; subst hb
            exact ⟨rfl, hvals a.2 (by simp only [Op.operands, List.mem_map]; exact ⟨a, List.mem_of_getElem? ha, rfl⟩)⟩) hf
          refine ⟨.agg xs', ?_, .agg cs' xs' (by simpa using h4.len) (fun i v h => h4.one i v (by simpa using h)) (fun i c v h5 h6 => h4.rep i c v h5 (by simpa using h6))⟩
          have hm := mapM_places (w := w) _ _ hpl
          have hm' : (fs.mapM fun f => (do pure (f.offset, ← sizeOf f.type) : Sem (Nat × Nat))).run P w = .ok pl.toArray w := by
            rw [Array.mapM_eq_mapM_toList]
            simp only [Sem.run_bind, map_eq_pure_bind, Sem.run_bind, hm, Result.andThen_ok, Sem.run_pure]
          simp only [execOp, Sem.run_bind, Instr.build, zeroValue, typeInfo, run_program, hi, hzv, Sem.run_pure, Result.andThen_ok, run_underlying hu w, hm']
          have e : (fun (i : Nat) => pl.toArray[i]?) = fun (i : Nat) => pl[i]? := by funext i; simp
          simp only [Array.toList_map, e, h3, Sem.run_pure, Result.andThen_ok]
        · cases hpl
end

end Go.Proofs.Ytencghlmckbmlaa
