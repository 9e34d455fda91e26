/- Stores, new variables and slices, composite values, append: over symbolic states. -/
import Derived.Test.YtencghlmckbmlaaOpsB
set_option linter.unusedVariables false
set_option linter.unusedSimpArgs false
namespace Go.Proofs.Ytencghlmckbmlaa
open Go Go.RowKit

/-! ### lists of cells -/

structure RepL (E : Env) (w : World) (cs : List AV) (vs : List Value) : Prop where
  len : vs.length = cs.length
  rep : ∀ (i : Nat) (c : AV) (v : Value), cs[i]? = some c → vs[i]? = some v → Rep E w c v
  one : ∀ (i : Nat) (v : Value), vs[i]? = some v → v.oneCell' = true

def cellsA : AV → Option (List AV)
  | .agg cs => some cs
  | .any => none
  | .tup _ => none
  | v => some [v]

def setAt {α : Type} (l : List α) (o : Nat) (vs : List α) : List α := l.take o ++ vs ++ l.drop (o + vs.length)

theorem Rep.one {E : Env} {w : World} {c : AV} {v : Value} (h : Rep E w c v) (hc : c ≠ .any) (ha : ∀ cs, c ≠ .agg cs) (ht : ∀ cs, c ≠ .tup cs) : v.oneCell' = true := by
  cases h with
  | any => exact absurd rfl hc
  | nil => rfl
  | d h => exact h.one
  | ptr => rfl
  | rop => rfl
  | own => rfl
  | ownNil => rfl
  | agg cs => exact absurd rfl (ha cs)
  | tup cs => exact absurd rfl (ht cs)
  | clo => rfl

theorem cells_one {v : Value} (h : v.oneCell' = true) : v.cells = #[v] := by cases v <;> first | rfl | cases h

theorem repL_cells {E : Env} {w : World} {c : AV} {v : Value} {cs : List AV} (h : Rep E w c v) (hc : cellsA c = some cs) : RepL E w cs v.cells.toList := by
  have single : ∀ c v, Rep E w c v → v.oneCell' = true → RepL E w [c] v.cells.toList := fun c v h h1 => by
    rw [cells_one h1]
    refine ⟨rfl, fun i c' v' h1' h2' => ?_, fun i v' h' => ?_⟩
    · cases i with
      | zero => simp at h1' h2'; rw [← h1', ← h2']; exact h
      | succ i => simp at h1'
    · cases i with
      | zero => simp at h'; rw [← h']; exact h1
      | succ i => simp at h'
  cases c with
  | any => cases hc
  | tup => cases hc
  | agg cs' =>
    simp only [cellsA, Option.some.injEq] at hc
    subst hc
    cases h with
    | agg _ arr hl h1 h => exact ⟨by simpa [Value.cells] using hl, fun i c v h2 h3 => h i c v h2 (by simpa [Value.cells] using h3), fun i v h3 => h1 i v (by simpa [Value.cells] using h3)⟩
  | nil => simp only [cellsA, Option.some.injEq] at hc; subst hc; exact single _ _ h (h.one (by simp) (by simp) (by simp))
  | d x => simp only [cellsA, Option.some.injEq] at hc; subst hc; exact single _ _ h (h.one (by simp) (by simp) (by simp))
  | ptr => simp only [cellsA, Option.some.injEq] at hc; subst hc; exact single _ _ h (h.one (by simp) (by simp) (by simp))
  | rop => simp only [cellsA, Option.some.injEq] at hc; subst hc; exact single _ _ h (h.one (by simp) (by simp) (by simp))
  | own => simp only [cellsA, Option.some.injEq] at hc; subst hc; exact single _ _ h (h.one (by simp) (by simp) (by simp))
  | clo => simp only [cellsA, Option.some.injEq] at hc; subst hc; exact single _ _ h (h.one (by simp) (by simp) (by simp))

theorem setAt_get {α : Type} (l : List α) (o : Nat) (vs : List α) (h : o + vs.length ≤ l.length) (i : Nat) :
    (setAt l o vs)[i]? = if o ≤ i ∧ i < o + vs.length then vs[i - o]? else l[i]? := by
  unfold setAt
  by_cases h1 : i < o
  · rw [if_neg (by omega), List.append_assoc, List.getElem?_append_left (by simp; omega), List.getElem?_take_of_lt h1]
  · by_cases h2 : i < o + vs.length
    · rw [if_pos ⟨by omega, h2⟩, List.append_assoc, List.getElem?_append_right (by simp; omega), List.getElem?_append_left (by simp; omega)]
      congr 1; simp; omega
    · rw [if_neg (by omega), List.append_assoc, List.getElem?_append_right (by simp; omega), List.getElem?_append_right (by simp; omega), List.getElem?_drop]
      congr 1; simp; omega

theorem setAt_length {α : Type} (l : List α) (o : Nat) (vs : List α) (h : o + vs.length ≤ l.length) : (setAt l o vs).length = l.length := by
  simp [setAt]; omega

theorem RepL.setAt {E : Env} {w : World} {cs vs : List AV} {xs ys : List Value} (h : RepL E w cs xs) (h' : RepL E w vs ys) (o : Nat) (ho : o + vs.length ≤ cs.length) :
    RepL E w (setAt cs o vs) (setAt xs o ys) := by
  have hl := h.len
  have hl' := h'.len
  refine ⟨by rw [setAt_length _ _ _ ho, setAt_length _ _ _ (by omega), hl], fun i c v h1 h2 => ?_, fun i v h2 => ?_⟩
  · rw [setAt_get _ _ _ ho] at h1
    rw [setAt_get _ _ _ (by omega), hl'] at h2
    split at h1
    · rename_i hi; rw [if_pos hi] at h2; exact h'.rep _ c v h1 h2
    · rename_i hi; rw [if_neg hi] at h2; exact h.rep _ c v h1 h2
  · rw [setAt_get _ _ _ (by omega), hl'] at h2
    split at h2
    · exact h'.one _ v h2
    · exact h.one _ v h2

theorem RepL.mono {E E' : Env} {w w' : World} {new : Nat → Prop} (hk : Keeps E E' w w' new) {cs : List AV} {vs : List Value} (h : RepL E w cs vs)
    (hs : ∀ n, new n → AV.says.saysL n cs = false) : RepL E' w' cs vs :=
  ⟨h.len, fun i c v h1 h2 => (h.rep i c v h1 h2).mono hk fun n hn => AV.says_of_mem (hs n hn) (List.mem_of_getElem? h1), h.one⟩

theorem RepL.var {E : Env} {w : World} {b : Nat} {cs : List AV} {arr : Array Value} {ty : TypeId} (hh : w.heap[b]? = some (.cells arr ty (0, 0))) (h : RepL E w cs arr.toList) :
    BlkRep E w b (.var cs) :=
  .var cs arr ty hh (by simpa using h.len) fun i c v h1 h2 => ⟨h.rep i c v h1 (by simpa using h2), h.one i v (by simpa using h2)⟩

/-! ### the effect of a store -/

section
variable {P : Program} {ρ : Operand → AV} {bk0 : Bk} {dst : Option Tmp} {ty : TypeId} {pos : String} {after : Array Edge} {gd : Option (Nat × Bool)}

theorem run_storeAt_row {t n g o : Nat} {arr : Array Value} {e : TypeId} {x : Value} {w : World} (ht : sizeB P t = some n) (hh : w.heap[g]? = some (.cells arr e (0, 0)))
    (hx : x.cells.size = n) (h1 : ∀ v ∈ x.cells.toList, v.oneCell' = true) (ho : o + n ≤ arr.size) :
    (Instr.storeAt t (.pointer (some ⟨g, o, none⟩)) x).run P w = .ok () (w.setRow g (setAt arr.toList o x.cells.toList).toArray) := by
  have h2 := run_storeCells_at (P := P) g o e x.cells.toList 0 arr w hh (by simp [hx]; omega) h1
  simp only [Nat.add_zero] at h2
  simp only [Instr.storeAt, Instr.sureAddr, storeVar, Sem.run_bind, Sem.run_pure, Result.andThen_ok, run_sizeOf ht w, hx, ne_eq, not_true, if_false, h2, setAt]

theorem shape_setRow {w : World} {g : Nat} {arr arr' : Array Value} {e : TypeId} {fr : Nat × Nat} (hh : w.heap[g]? = some (.cells arr e fr)) (hs : arr'.size = arr.size) (b : Nat) :
    (w.setRow g arr').shape? b = w.shape? b := by
  by_cases hb : b = g
  · subst hb
    simp [World.shape?, setRow_heap w b arr arr' e fr hh, hh, hs]
  · simp [World.shape?, setRow_other w g b arr' hb]

theorem blks_set {E : Env} {w : World} {bk : Bk} {b g : Nat} {B B' : Blk} {arr arr' : Array Value} {e : TypeId} (hB : Blks E w bk) (hb : bk b = some B) (hg : E.blk b = some g)
    (hh : w.heap[g]? = some (.cells arr e (0, 0))) (hs : arr'.size = arr.size)
    (hB' : Keeps E E w (w.setRow g arr') (fun _ => False) → BlkRep E (w.setRow g arr') g B') :
    Blks E (w.setRow g arr') (updB [(b, some B')] bk) ∧ Grow E E w (w.setRow g arr') bk (· ∈ []) ∧
      (∀ n k, updB [(b, some B')] bk n ≠ none → E.blk n = some k → (∃ m, bk m ≠ none ∧ E.blk m = some k) ∨ w.heap.size ≤ k) := by
  have hgr : Grow E E w (w.setRow g arr') bk (· ∈ []) := ⟨fun _ h => h, fun _ h => .inl h, fun _ _ => rfl,
    ⟨by simp, fun k hk hx => setRow_other w g k arr' fun e => hx ⟨b, by rw [hb]; simp, by rw [e]; exact hg⟩, fun k _ => shape_setRow hh hs k, rfl, rfl, rfl⟩⟩
  have hk0 := hgr.keeps hB
  have hk : Keeps E E w (w.setRow g arr') (fun _ => False) := ⟨hk0.S, hk0.cell, fun n _ => rfl, hk0.shape⟩
  have hup : ∀ n, updB [(b, some B')] bk n = if n = b then some B' else bk n := fun n => by
    by_cases h : n = b
    · subst h; simp [updB, findB]
    · simp [updB, findB, natbeq_false (Ne.symm h), h]
  have hne : ∀ n, updB [(b, some B')] bk n ≠ none → bk n ≠ none := fun n hn => by
    rw [hup] at hn
    by_cases h : n = b
    · subst h; rw [hb]; simp
    · rwa [if_neg h] at hn
  refine ⟨⟨fun n B1 g1 h1 h2 => ?_, fun n B1 h1 h2 => ?_, fun n m k hn hm => hB.inj n m k (hne n hn) (hne m hm), fun n k hn => hB.apart n k (hne n hn), fun k hk => by simpa using hB.bound k hk⟩,
    hgr, fun n k hn hk' => .inl ⟨n, hne n hn, hk'⟩⟩
  · rw [hup] at h1
    by_cases h : n = b
    · subst h
      rw [if_pos rfl] at h1
      injection h1 with h1
      subst h1
      rw [hg] at h2; injection h2 with h2; subst h2
      exact hB' hk
    · rw [if_neg h] at h1
      have hne' : g1 ≠ g := fun e => h (hB.inj n b g (by rw [h1]; simp) (by rw [hb]; simp) (e ▸ h2) hg)
      exact (hB.rep n B1 g1 h1 h2).mono hk (setRow_other w g g1 arr' hne') (fun _ hf => hf.elim)
  · rw [hup] at h1
    by_cases h : n = b
    · subst h; rw [hg] at h2; cases h2
    · rw [if_neg h] at h1; exact hB.unb n B1 h1 h2

theorem benign_unit {m : Sem Unit} {w w' : World} {post : Value → World → Prop} (hr : m.run P w = .ok () w') (h : post undef w') : Benign P (do m; pure .skip) w post := by
  unfold Benign
  simp only [Sem.run_bind, hr, Result.andThen_ok, Sem.run_pure]
  exact h

/-- Into a known variable. -/
theorem step_store_var {t b o n k : Nat} {a x : Operand} {cs vs : List AV} {v : AV} (ha : ρ a = .ptr b 0 k o) (hx : ρ x = v) (hv : cellsA v = some vs) (hb : bk0 b = some (.var cs))
    (ht : sizeB P t = some n) (hn : vs.length = n) (ho : o + vs.length ≤ cs.length) :
    Step P ⟨dst, .store t a x, ty, pos, after, gd⟩ ρ bk0 .any [(b, some (.var (setAt cs o vs)))] [] := by
  intro bk hbk _ E w vals hvals hB
  have h1 := hvals a (by simp [Op.operands]); rw [ha] at h1
  have h2 := hvals x (by simp [Op.operands]); rw [hx] at h2
  have hL := repL_cells h2 hv
  generalize hval : vals a = u at h1
  cases h1 with
  | ptr _ _ _ _ g hg =>
    have hrr := hB.rep b _ g (hbk b _ hb) hg
    cases hrr with
    | var _ arr ty' hh hl h =>
      have hrun := run_storeAt_row (x := vals x) ht hh (by have := hL.len; simp at this; omega) (fun v hv => by
        obtain ⟨i, hi⟩ := List.getElem?_of_mem hv; exact hL.one i v hi) (o := o) (by omega)
      have hS : RepL E w cs arr.toList := ⟨by simpa using hl, fun i c v h1 h2 => (h i c v h1 (by simpa using h2)).1, fun i v h2 => by
        have hlt : i < cs.length := by have := (List.getElem?_eq_some_iff.1 h2).1; simp at this; omega
        exact (h i _ v (List.getElem?_eq_getElem hlt) (by simpa using h2)).2⟩
      have hset := hS.setAt hL o ho
      have hb1 := blks_set (B' := .var (setAt cs o vs)) (arr' := (setAt arr.toList o (vals x).cells.toList).toArray) hB (hbk b _ hb) hg hh
        (by rw [List.size_toArray, setAt_length _ _ _ (by have := hL.len; simp at this ⊢; omega)]; simp)
        (fun hk => RepL.var (ty := ty') (setRow_heap w g arr _ ty' (0, 0) hh) (by simpa using hset.mono hk (fun _ hf => hf.elim)))
      simp only [execOp, hval, Nat.zero_mul, Nat.zero_add]
      exact benign_unit hrun ⟨E, hb1.1, .any _, hb1.2.1, hb1.2.2⟩

def toD : AV → Option D
  | .d x => some x
  | .nil => some (.s [])
  | _ => none

def toDs : List AV → Option (List D)
  | [] => some []
  | c :: r => match toD c, toDs r with
    | some d, some ds => some (d :: ds)
    | _, _ => none

theorem repD_of {E : Env} {w : World} {c : AV} {v : Value} {d : D} (h : Rep E w c v) (hd : toD c = some d) : RepD E.S w d v := by
  cases c with
  | d x => simp only [toD, Option.some.injEq] at hd; subst hd; cases h with | d h => exact h
  | nil => simp only [toD, Option.some.injEq] at hd; subst hd; cases h; exact .nil _ _
  | _ => cases hd

theorem toDs_length {cs : List AV} : ∀ {ds : List D}, toDs cs = some ds → ds.length = cs.length := by
  induction cs with
  | nil => intro ds h; simp only [toDs, Option.some.injEq] at h; subst h; rfl
  | cons c r ih =>
    intro ds h
    simp only [toDs] at h
    split at h
    · rename_i d ds' _ h2; injection h with h; subst h; simp [ih h2]
    · cases h

theorem toDs_get {cs : List AV} : ∀ {ds : List D}, toDs cs = some ds → ∀ (i : Nat) (d : D), ds[i]? = some d → ∃ c, cs[i]? = some c ∧ toD c = some d := by
  induction cs with
  | nil => intro ds h; simp only [toDs, Option.some.injEq] at h; subst h; intro i d hd; simp at hd
  | cons c r ih =>
    intro ds h i d hd
    simp only [toDs] at h
    split at h
    · rename_i d' ds' h1 h2
      injection h with h; subst h
      cases i with
      | zero => simp at hd; subst hd; exact ⟨c, rfl, h1⟩
      | succ i => obtain ⟨c', h3, h4⟩ := ih h2 i d (by simpa using hd); exact ⟨c', by simpa using h3, h4⟩
    · cases h

theorem repDs {E : Env} {w : World} {cs : List AV} {vs : List Value} {ds : List D} (h : RepL E w cs vs) (hd : toDs cs = some ds) (i : Nat) (d : D) (v : Value) (h1 : ds[i]? = some d) (h2 : vs[i]? = some v) :
    RepD E.S w d v := by
  obtain ⟨c, h3, h4⟩ := toDs_get hd i d h1
  exact repD_of (h.rep i c v h3 h2) h4

theorem mul_lt_of {i k o m : Nat} (hi : i < m) (ho : o < k) : i * k + o < m * k := by
  have : (i + 1) * k ≤ m * k := Nat.mul_le_mul_right k hi
  rw [Nat.add_mul] at this; omega

theorem divmod_eq {i j k o p : Nat} (ho : o < k) (hp : p < k) (h : i * k + o = j * k + p) : i = j ∧ o = p := by
  have h1 : (i * k + o) / k = i := by rw [Nat.mul_comm, Nat.mul_add_div (by omega), Nat.div_eq_of_lt ho]; omega
  have h2 : (j * k + p) / k = j := by rw [Nat.mul_comm, Nat.mul_add_div (by omega), Nat.div_eq_of_lt hp]; omega
  have : i = j := by rw [← h1, ← h2, h]
  subst this
  exact ⟨rfl, by omega⟩

/-- Into an element of a known slice's array. -/
theorem step_store_row {t b i k o n : Nat} {a x : Operand} {rows : List (List D)} {row ds : List D} {vs : List AV} {v : AV} (ha : ρ a = .ptr b i k o) (hx : ρ x = v) (hv : cellsA v = some vs)
    (hds : toDs vs = some ds) (hb : bk0 b = some (.row k rows)) (hr : rows[i]? = some row) (ht : sizeB P t = some n) (hn : vs.length = n) (ho : o + vs.length ≤ row.length) :
    Step P ⟨dst, .store t a x, ty, pos, after, gd⟩ ρ bk0 .any [(b, some (.row k (rows.set i (setAt row o ds))))] [] := by
  intro bk hbk _ E w vals hvals hB
  have h1 := hvals a (by simp [Op.operands]); rw [ha] at h1
  have h2 := hvals x (by simp [Op.operands]); rw [hx] at h2
  have hL := repL_cells h2 hv
  have hdl := toDs_length hds
  generalize hval : vals a = u at h1
  cases h1 with
  | ptr _ _ _ _ g hg =>
    have hrr := hB.rep b _ g (hbk b _ hb) hg
    cases hrr with
    | row _ _ arr ty' hh hk hl h =>
      have hi : i < rows.length := (List.getElem?_eq_some_iff.1 hr).1
      have hrk := hk i row hr
      have hbnd : i * k + k ≤ arr.size := by
        have : (i + 1) * k ≤ rows.length * k := Nat.mul_le_mul_right k hi
        rw [Nat.add_mul] at this; omega
      have hlen := hL.len
      have hcl : (vals x).cells.toList.length = n := by omega
      have hrun := run_storeAt_row (x := vals x) ht hh (by simpa using hcl) (fun v hv => by
        obtain ⟨i, hi⟩ := List.getElem?_of_mem hv; exact hL.one i v hi) (o := i * k + o) (by omega)
      have hb1 := blks_set (B' := .row k (rows.set i (setAt row o ds))) (arr' := (setAt arr.toList (i * k + o) (vals x).cells.toList).toArray) hB (hbk b _ hb) hg hh
        (by rw [List.size_toArray, setAt_length _ _ _ (by simp at hcl ⊢; omega)]; simp)
        (fun hkeep => by
          refine .row k _ _ ty' (setRow_heap w g arr _ ty' (0, 0) hh) (fun j r hj => ?_) (by rw [List.size_toArray, setAt_length _ _ _ (by simp at hcl ⊢; omega)]; simpa using hl) (fun j p r d v hj hp hv => ?_)
          · rw [List.getElem?_set] at hj
            split at hj
            · rename_i hji
              subst hji
              try rw [if_pos hi] at hj
              injection hj with hj; subst hj; rw [setAt_length _ _ _ (by omega)]; exact hrk
            · exact hk j r hj
          · have hv' : (setAt arr.toList (i * k + o) (vals x).cells.toList)[j * k + p]? = some v := by simpa using hv
            rw [setAt_get _ _ _ (by simp at hcl ⊢; omega), hcl] at hv'
            rw [List.getElem?_set] at hj
            split at hj
            · rename_i hji
              subst hji
              try rw [if_pos hi] at hj
              injection hj with hj; subst hj
              rw [setAt_get _ _ _ (by omega)] at hp
              by_cases hin : o ≤ p ∧ p < o + ds.length
              · rw [if_pos hin] at hp
                rw [if_pos (by omega)] at hv'
                have e : i * k + p - (i * k + o) = p - o := by omega
                rw [e] at hv'
                exact (repDs hL hds (p - o) d v hp hv').mono hkeep.S hkeep.cell
              · rw [if_neg hin] at hp
                rw [if_neg (by omega)] at hv'
                exact (h i p row d v hr hp (by simpa using hv')).mono hkeep.S hkeep.cell
            · rename_i hji
              have hpk : p < k := by have := (List.getElem?_eq_some_iff.1 hp).1; rw [hk j r hj] at this; exact this
              rw [if_neg (fun hin => by
                have : i * k + o + (j * k + p - (i * k + o)) = j * k + p := by omega
                have h3 := divmod_eq (i := i) (j := j) (k := k) (o := o + (j * k + p - (i * k + o))) (p := p) (by omega) hpk (by omega)
                exact hji h3.1)] at hv'
              exact (h j p r d v hj hp (by simpa using hv')).mono hkeep.S hkeep.cell)
      simp only [execOp, hval]
      exact benign_unit hrun ⟨E, hb1.1, .any _, hb1.2.1, hb1.2.2⟩

end

end Go.Proofs.Ytencghlmckbmlaa
