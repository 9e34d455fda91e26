/- append, make, slice literals: over symbolic states. -/
import Derived.Test.YtencghlmckbmlaaOpsE
set_option linter.unusedVariables false
set_option linter.unusedSimpArgs false
namespace Go.Proofs.Ytencghlmckbmlaa
open Go Go.RowKit

section
variable {P : Program} {ρ : Operand → AV} {bk0 : Bk} {dst : Option Tmp} {ty : TypeId} {pos : String} {after : Array Edge} {gd : Option (Nat × Bool)}

/-- A slice type's element type, its cells, its bytes. -/
def appB (P : Program) (t : Nat) : Option (Nat × Nat × Nat) :=
  match P.underlying t with
  | some (.slice e) => match P.info? e with
    | some i => match i.zero with
      | some z => if z.cells.size = i.size then some (e, i.size, i.bytes) else none
      | none => none
    | none => none
  | _ => none

theorem appB_spec {t e k by_ : Nat} (h : appB P t = some (e, k, by_)) :
    ∃ (i : TypeInfo) (z : Value), P.underlying t = some (.slice e) ∧ P.info? e = some i ∧ i.zero = some z ∧ i.size = k ∧ i.bytes = by_ ∧ z.cells.size = k := by
  unfold appB at h
  split at h
  · rename_i e' hu
    split at h
    · rename_i i hi
      split at h
      · rename_i z hz
        split at h
        · rename_i hs
          simp at h
          obtain ⟨rfl, rfl, rfl⟩ := h
          exact ⟨i, z, hu, hi, hz, rfl, rfl, hs⟩
        · cases h
      · cases h
    · cases h
  · cases h

theorem zeroCells_size (z : Array Value) (n : Nat) : (Builtin.zeroCells z n).size = n * z.size := by simp [Builtin.zeroCells]

/-- A known block under a new name: the old name is given up. -/
theorem blks_rename {E : Env} {w : World} {bk : Bk} {b b' : Nat} {B : Blk} (hB : Blks E w bk) (hb : bk b = some B) (hn : bk b' = none) (hne : b' ≠ b)
    (hs : ∀ m B, bk m = some B → B.says b' = false) :
    Blks ⟨fun m => if m = b' then E.blk b else E.blk m, E.S⟩ w (updB [(b', some B), (b, none)] bk) := by
  have hk : Keeps E ⟨fun m => if m = b' then E.blk b else E.blk m, E.S⟩ w w (· ∈ [b']) := ⟨fun _ h => h, fun _ _ _ => rfl, fun m hm => by simp at hm; simp [hm], fun _ _ => rfl⟩
  have hup : ∀ m, updB [(b', some B), (b, none)] bk m = if m = b' then some B else if m = b then none else bk m := fun m => by
    by_cases h : m = b'
    · subst h; simp [updB, findB]
    · by_cases h' : m = b
      · subst h'; simp [updB, findB, natbeq_false (Ne.symm h), h]
      · simp [updB, findB, natbeq_false (Ne.symm h), natbeq_false (Ne.symm h'), h, h']
  have old : ∀ m, m ≠ b' → updB [(b', some B), (b, none)] bk m ≠ none → m ≠ b ∧ bk m ≠ none := fun m hm h => by
    rw [hup, if_neg hm] at h
    by_cases h' : m = b
    · rw [if_pos h'] at h; exact absurd rfl h
    · rw [if_neg h'] at h; exact ⟨h', h⟩
  refine ⟨fun m B1 g h1 h2 => ?_, fun m B1 h1 h2 => ?_, fun m l g hm hl h1 h2 => ?_, fun m g hm h1 => ?_, hB.bound⟩
  · by_cases h : m = b'
    · subst h
      rw [hup, if_pos rfl] at h1; injection h1 with h1; subst h1
      simp at h2
      exact (hB.rep b B g hb h2).mono hk rfl (fun l hl => by simp at hl; subst hl; exact hs b B hb)
    · obtain ⟨hmb, _⟩ := old m h (by rw [h1]; simp)
      rw [hup, if_neg h, if_neg hmb] at h1
      simp [h] at h2
      exact (hB.rep m B1 g h1 h2).mono hk rfl (fun l hl => by simp at hl; subst hl; exact hs m B1 h1)
  · by_cases h : m = b'
    · subst h
      rw [hup, if_pos rfl] at h1; injection h1 with h1; subst h1
      simp at h2
      exact hB.unb b B hb h2
    · obtain ⟨hmb, _⟩ := old m h (by rw [h1]; simp)
      rw [hup, if_neg h, if_neg hmb] at h1
      simp [h] at h2
      exact hB.unb m B1 h1 h2
  · by_cases h : m = b'
    · by_cases h' : l = b'
      · rw [h, h']
      · obtain ⟨hlb, hl0⟩ := old l h' hl
        simp [h] at h1; simp [h'] at h2
        exact absurd (hB.inj l b g hl0 (by rw [hb]; simp) h2 h1) hlb
    · obtain ⟨hmb, hm0⟩ := old m h hm
      by_cases h' : l = b'
      · simp [h] at h1; simp [h'] at h2
        exact absurd (hB.inj m b g hm0 (by rw [hb]; simp) h1 h2) hmb
      · obtain ⟨hlb, hl0⟩ := old l h' hl
        simp [h] at h1; simp [h'] at h2
        exact hB.inj m l g hm0 hl0 h1 h2
  · by_cases h : m = b'
    · simp [h] at h1; exact hB.apart b g (by rw [hb]; simp) h1
    · obtain ⟨hmb, hm0⟩ := old m h hm
      simp [h] at h1; exact hB.apart m g hm0 h1

/-- A name for no block at all: a slice that is nil. -/
theorem blks_nil {E : Env} {w : World} {bk : Bk} (b' k : Nat) (hB : Blks E w bk) (hn : bk b' = none) (hs : ∀ m B, bk m = some B → B.says b' = false) :
    Blks ⟨fun m => if m = b' then none else E.blk m, E.S⟩ w (updB [(b', some (.row k []))] bk) := by
  have hk : Keeps E ⟨fun m => if m = b' then none else E.blk m, E.S⟩ w w (· ∈ [b']) := ⟨fun _ h => h, fun _ _ _ => rfl, fun m hm => by simp at hm; simp [hm], fun _ _ => rfl⟩
  have old : ∀ m, m ≠ b' → updB [(b', some (.row k []))] bk m = bk m := fun m hm => by rw [updB_one, if_neg hm]
  refine ⟨fun m B1 g h1 h2 => ?_, fun m B1 h1 h2 => ?_, fun m l g hm hl h1 h2 => ?_, fun m g hm h1 => ?_, hB.bound⟩
  · by_cases h : m = b'
    · simp [h] at h2
    · rw [old m h] at h1; simp [h] at h2
      exact (hB.rep m B1 g h1 h2).mono hk rfl (fun l hl => by simp at hl; subst hl; exact hs m B1 h1)
  · by_cases h : m = b'
    · subst h; rw [updB_one, if_pos rfl] at h1; injection h1 with h1; exact ⟨k, h1.symm⟩
    · rw [old m h] at h1; simp [h] at h2; exact hB.unb m B1 h1 h2
  · by_cases h : m = b'
    · simp [h] at h1
    · by_cases h' : l = b'
      · simp [h'] at h2
      · rw [old m h] at hm; rw [old l h'] at hl; simp [h] at h1; simp [h'] at h2; exact hB.inj m l g hm hl h1 h2
  · by_cases h : m = b'
    · simp [h] at h1
    · rw [old m h] at hm; simp [h] at h1; exact hB.apart m g hm h1

theorem updB_two {b b' : Nat} {B : Option Blk} {bk : Bk} (h : bk b = none ∨ b = b') : True := trivial

theorem benign_call_append {m : Sem Value} {w w' : World} {v : Value} {post : Value → World → Prop} (hr : m.run P w = .ok v w') (h : post v w') : Benign P (do pure (.value (← m))) w post :=
  benign_val hr h

theorem capOk (n cap e t : Nat) (w : World) : n ≤ (Question.appendCap n cap e).cut t := by
  simp [Question.cut]

/-- append(s, x...) where s is the call's own (or nil under a name), x is data. -/
theorem step_append {t t2 e k by_ b b' n : Nat} {tr : TypeId} {s x : Operand} {rows xs : List (List D)} (hs : ρ s = .own b 0 k n) (hx : ρ x = .d (.s xs)) (hb : bk0 b = some (.row k rows))
    (hn : rows.length = n) (ht : appB P t = some (e, k, by_)) (ht2 : P.underlying t2 = some (.slice e)) (hk : ∀ row ∈ xs, row.length = k) (hne : b' ≠ b)
    (hbytes : (2 * (n + xs.length) + 512) * by_ ≤ 281474976710656) (h63 : n + xs.length ≤ 4611686018427387904) :
    Step P ⟨dst, .call ⟨.builtin .append, #[s, x], #[t, t2]⟩, ty, pos, after, gd⟩ ρ bk0 (.own b' 0 k (n + xs.length)) [(b', some (.row k (rows ++ xs))), (b, none)] [b'] := by
  intro bk hbk hnw E w vals hvals hB
  obtain ⟨hn', hsay⟩ := hnw b' (by simp)
  obtain ⟨i, z, hu, hi, hz, hsz, hby, hzs⟩ := appB_spec ht
  have h1 := hvals s (by simp [Op.operands, Call.operands]); rw [hs] at h1
  have h2 := hvals x (by simp [Op.operands, Call.operands]); rw [hx] at h2
  have hbb := hbk b _ hb
  generalize hval : vals s = u at h1
  generalize hval2 : vals x = u2 at h2
  have h2' : RepD E.S w (.s xs) u2 := by cases h2 with | d h => exact h
  obtain ⟨ax, cx, news, rfl, hnl, hfc, hnd, hn1⟩ := ro_cells h2' hk
  have hlen : ∀ w' : World, (Builtin.lenOf (.slice ax xs.length cx)).run P w' = .ok xs.length w' := fun w' => by simp [Builtin.lenOf]
  have hexec : ∀ u, vals s = u → execOp vals ⟨dst, .call ⟨.builtin .append, #[s, x], #[t, t2]⟩, ty, pos, after, gd⟩ = (do pure (.value (← Builtin.append_ #[t, t2] ty #[u, .slice ax xs.length cx])) : Sem Next) := fun u hu => by
    subst hu
    simp only [execOp, resolve, List.map_toArray, List.map_cons, List.map_nil, hval2]
    rfl
  -- what the new rows read as, over old and new numbers in a row
  have newrow : ∀ (E' : Env) (w' : World) (g' : Nat) (arr' : Array Value) (ty' : TypeId) (olds : List Value), w'.heap[g']? = some (.cells arr' ty' (0, 0)) →
      (∀ S, S = E'.S → ∀ (d : D) (v : Value), RepD E.S w d v → RepD S w' d v) → olds.length = n * k → n * k + xs.length * k ≤ arr'.size →
      (∀ (p : Nat) (v : Value), olds[p]? = some v → arr'[p]? = some v) → (∀ (p : Nat) (v : Value), news[p]? = some v → arr'[n * k + p]? = some v) →
      (∀ (i : Nat) (row : List D), rows[i]? = some row → row.length = k) →
      (∀ (i j : Nat) (row : List D) (d : D) (v : Value), rows[i]? = some row → row[j]? = some d → olds[i * k + j]? = some v → RepD E.S w d v) → BlkRep E' w' g' (.row k (rows ++ xs)) := by
    intro E' w' g' arr' ty' olds hh hmono hol hsize ho hnn hrk hro
    refine .row k _ arr' ty' hh (fun j row hj => ?_) (by rw [List.length_append, hn, Nat.add_mul]; exact hsize) (fun j p row d v hj hp hv => ?_)
    · rw [List.getElem?_append] at hj
      split at hj
      · exact hrk j row hj
      · exact hk row (List.mem_of_getElem? hj)
    · rw [List.getElem?_append] at hj
      split at hj
      · rename_i hlt
        have hpk : p < k := by have := (List.getElem?_eq_some_iff.1 hp).1; rw [hrk j row hj] at this; exact this
        have hb1 : j * k + p < n * k := mul_lt_of (hn ▸ hlt) hpk
        have := ho (j * k + p) _ (List.getElem?_eq_getElem (by omega : j * k + p < olds.length))
        rw [this] at hv; injection hv with hv
        exact hmono _ rfl d v (hro j p row d v hj hp (by rw [← hv]; exact List.getElem?_eq_getElem _))
      · rename_i hge
        have hpk : p < k := by have := (List.getElem?_eq_some_iff.1 hp).1; rw [hk row (List.mem_of_getElem? hj)] at this; exact this
        have hjl : j - rows.length < xs.length := (List.getElem?_eq_some_iff.1 hj).1
        have hb1 : (j - rows.length) * k + p < xs.length * k := mul_lt_of hjl hpk
        have := hnn ((j - rows.length) * k + p) _ (List.getElem?_eq_getElem (by omega : (j - rows.length) * k + p < news.length))
        have e : n * k + ((j - rows.length) * k + p) = j * k + p := by
          have : j = n + (j - rows.length) := by omega
          conv => rhs; rw [this, Nat.add_mul]
          omega
        rw [e] at this
        rw [this] at hv; injection hv with hv
        exact hmono _ rfl d v (hnd _ p row d v hj hp (by rw [← hv]; exact List.getElem?_eq_getElem _))
  have dropB : ∀ (E' : Env) (w' : World), Blks E' w' (updB [(b', some (.row k (rows ++ xs)))] bk) → Blks E' w' (updB [(b', some (.row k (rows ++ xs))), (b, none)] bk) := fun E' w' h => by
    refine h.sub fun m B hm => ?_
    rw [updB_one]
    by_cases h1 : m = b'
    · subst h1; rw [if_pos rfl]; simpa [updB, findB] using hm
    · rw [if_neg h1]
      by_cases h2 : m = b
      · subst h2; simp [updB, findB, natbeq_false hne] at hm
      · simpa [updB, findB, natbeq_false (Ne.symm h1), natbeq_false (Ne.symm h2)] using hm
  -- the new array
  have grown : ∀ (base : Option Addr) (cap : Nat) (olds : List Value), vals s = .slice base n cap → ¬ n + xs.length ≤ cap → olds.length = n * k →
      (∀ w' : World, w'.heap = w.heap → (Builtin.firstCells k n (.slice base n cap)).run P w' = .ok olds.toArray w') → (∀ (i : Nat) (row : List D), rows[i]? = some row → row.length = k) →
      (∀ (i j : Nat) (row : List D) (d : D) (v : Value), rows[i]? = some row → row[j]? = some d → olds[i * k + j]? = some v → RepD E.S w d v) →
      Benign P (execOp vals ⟨dst, .call ⟨.builtin .append, #[s, x], #[t, t2]⟩, ty, pos, after, gd⟩) w fun val w' => ∃ E', Blks E' w' (updB [(b', some (.row k (rows ++ xs))), (b, none)] bk) ∧
        Rep E' w' (.own b' 0 k (n + xs.length)) val ∧ Grow E E' w w' bk (· ∈ [b']) ∧
        (∀ n g, updB [(b', some (.row k (rows ++ xs))), (b, none)] bk n ≠ none → E'.blk n = some g → (∃ m, bk m ≠ none ∧ E.blk m = some g) ∨ w.heap.size ≤ g) := by
    intro base cap olds hv hno hol hfirst hrk hro
    have hrun := run_append_any (P := P) (tr := ty) w hu ht2 hi hz hsz hby base n cap xs.length (.slice ax xs.length cx) olds news hlen (fun _ => hfirst) (fun w' hw' => hfc w' hw' P) hbytes h63
    rw [if_neg hno] at hrun
    rw [hexec _ hv]
    generalize hnc : (Question.appendCap (n + xs.length) cap e).cut (w.tape w.drawn (.appendCap (n + xs.length) cap e)) = nc at hrun
    have hnc' : n + xs.length ≤ nc := hnc ▸ capOk _ _ _ _ w
    generalize harr : (olds.toArray ++ news.toArray ++ Builtin.zeroCells z.cells (nc - (n + xs.length))) = arr at hrun
    have hasz : arr.size = nc * k := by
      rw [← harr]; simp [zeroCells_size, hzs, hol, hnl]
      rw [← Nat.add_mul, ← Nat.add_mul]; congr 1; omega
    have hp : Pushed w (w.drew.alloc (.cells arr e)) (.cells arr e) := ⟨rfl, rfl, rfl, rfl⟩
    have hb1 := blks_new hB hp b' hn' hsay (.row k (rows ++ xs)) (fun hkeep => by
      refine newrow _ _ _ arr e olds hp.get (fun S hS d v h => hS ▸ h.mono hkeep.S hkeep.cell) hol (by rw [hasz, ← Nat.add_mul]; exact Nat.mul_le_mul_right k hnc') (fun p v hpv => ?_) (fun p v hpv => ?_) hrk hro
      · have hlt := (List.getElem?_eq_some_iff.1 hpv).1
        rw [← harr]
        rw [Array.getElem?_append_left (by simp; omega), Array.getElem?_append_left (by simpa using hlt)]
        simpa using hpv
      · have hlt := (List.getElem?_eq_some_iff.1 hpv).1
        rw [← harr]
        rw [Array.getElem?_append_left (by simp; omega), Array.getElem?_append_right (by simp; omega)]
        simpa [hol] using hpv)
    refine benign_val hrun ⟨_, dropB _ _ hb1.1, ?_, hb1.2.1, fun m g hm hg => hb1.2.2 m g (fun h0 => hm ?_) hg⟩
    · have := Rep.own (E := ⟨fun m => if m = b' then some w.heap.size else E.blk m, E.S⟩) (w := w.drew.alloc (.cells arr e)) b' 0 k (n + xs.length) w.heap.size nc arr.size e (by simp) hnc'
        (by unfold World.shape?; rw [hp.get]) (by rw [hasz, Nat.zero_add]; exact Nat.le_refl _)
      simpa using this
    · rw [updB_one] at h0
      by_cases h1 : m = b'
      · rw [if_pos h1] at h0; cases h0
      · rw [if_neg h1] at h0
        by_cases h2 : m = b
        · subst h2; simp [updB, findB, natbeq_false hne]
        · simpa [updB, findB, natbeq_false (Ne.symm h1), natbeq_false (Ne.symm h2)] using h0
  cases h1 with
  | ownNil _ _ _ hg =>
    obtain ⟨k', hk'⟩ := hB.unb b _ hbb hg
    have hrows : rows = [] := by injection hk'
    subst hrows
    simp only [List.nil_append] at *
    by_cases hm : xs = []
    · subst hm
      have hrun := run_append_any (P := P) (tr := ty) w hu ht2 hi hz hsz hby none 0 0 0 (.slice ax 0 cx) [] news hlen (fun h => by omega) (fun w' hw' => hfc w' hw' P) (by simpa using hbytes) (by simp)
      rw [if_pos (by simp)] at hrun
      rw [hexec _ hval]
      have hb0 := blks_nil b' k hB hn' hsay
      refine benign_val hrun ⟨⟨fun m => if m = b' then none else E.blk m, E.S⟩, dropB _ _ hb0, .ownNil b' 0 k (by simp),
        ⟨fun _ h => h, fun _ h => .inl h, fun m hm => by simp at hm; simp [hm], Ext.refl _ _⟩, fun m g hm hg' => ?_⟩
      by_cases h1 : m = b'
      · simp [h1] at hg'
      · simp [h1] at hg'
        refine .inl ⟨m, fun h0 => hm ?_, hg'⟩
        by_cases h2 : m = b
        · subst h2; simp [updB, findB, natbeq_false hne]
        · simpa [updB, findB, natbeq_false (Ne.symm h1), natbeq_false (Ne.symm h2)] using h0
    · exact grown none 0 [] hval (by have := List.length_pos_iff.2 hm; omega) (by simp) (fun w' _ => by simp [Builtin.firstCells]) (fun i row h => by simp at h) (fun i j row d v h => by simp at h)
  | own _ _ _ _ g cap sz ty' hg hnc hshape hcap =>
    have hr := hB.rep b _ g hbb hg
    cases hr with
    | row _ _ arr tya hh hkk hl h =>
      have hsz' : sz = arr.size := by simp [World.shape?, hh] at hshape; exact hshape.2.symm
      have hcapk : cap * k ≤ arr.size := by rw [hsz', Nat.zero_add] at hcap; exact hcap
      have hnk : n * k ≤ arr.size := by rw [← hn]; exact hl
      have h0k : (0 * k) = 0 := Nat.zero_mul k
      rw [h0k] at hval
      by_cases hfit : n + xs.length ≤ cap
      · have hrun := run_append_any (P := P) (tr := ty) w hu ht2 hi hz hsz hby (some ⟨g, 0, none⟩) n cap xs.length (.slice ax xs.length cx) [] news hlen (fun h => by omega) (fun w' hw' => hfc w' hw' P) hbytes h63
        rw [if_pos hfit] at hrun
        have hroom : n * k + news.length ≤ arr.size := by
          rw [hnl, ← Nat.add_mul]; exact Nat.le_trans (Nat.mul_le_mul_right k hfit) hcapk
        have hst := run_storeCells_at (P := P) g (n * k) tya news 0 arr w hh (by simpa using hroom) hn1
        simp only [Addr.add_mid, Nat.zero_add, Nat.add_zero, hst, Result.andThen_ok] at hrun
        have hset := blks_set (B' := .row k (rows ++ xs)) (arr' := (arr.toList.take (n * k) ++ news ++ arr.toList.drop (n * k + news.length)).toArray) hB hbb hg hh
          (by have := setAt_length arr.toList (n * k) news (by simpa using hroom); simpa [setAt] using this)
          (fun hkeep => by
            have hget := setAt_get arr.toList (n * k) news (by simpa using hroom)
            have harrget : ∀ p : Nat, ((arr.toList.take (n * k) ++ news ++ arr.toList.drop (n * k + news.length)).toArray)[p]? = (setAt arr.toList (n * k) news)[p]? := fun p => by simp [setAt]
            refine newrow E _ g _ tya (arr.toList.take (n * k)) (setRow_heap w g arr _ tya (0, 0) hh) (fun S hS d v h => hS ▸ h.mono hkeep.S hkeep.cell) (by simp; omega)
              (by have := setAt_length arr.toList (n * k) news (by simpa using hroom); simp only [setAt] at this; rw [List.size_toArray, this, ← hnl]; simpa using hroom) (fun p v hpv => ?_) (fun p v hpv => ?_) hkk
              (fun i j row d v h1 h2 h3 => h i j row d v h1 h2 ?_)
            · have hlt := (List.getElem?_eq_some_iff.1 hpv).1
              simp at hlt
              rw [harrget, hget, if_neg (by omega)]
              rwa [List.getElem?_take_of_lt (by omega)] at hpv
            · have hlt := (List.getElem?_eq_some_iff.1 hpv).1
              rw [harrget, hget, if_pos (by omega)]
              rw [← hpv]; congr 1; omega
            · have hlt := (List.getElem?_eq_some_iff.1 h3).1
              simp at hlt
              rw [List.getElem?_take_of_lt (by omega)] at h3
              simpa using h3)
        rw [hexec _ hval]
        have hsay' : ∀ m B, updB [(b, some (.row k (rows ++ xs)))] bk m = some B → B.says b' = false := fun m B hm => by
          rw [updB_one] at hm
          by_cases h1 : m = b
          · rw [if_pos h1] at hm; injection hm with hm; subst hm; rfl
          · rw [if_neg h1] at hm; exact hsay m B hm
        have hren := blks_rename (b := b) (b' := b') hset.1 (by rw [updB_one, if_pos rfl]) (by rw [updB_one, if_neg hne]; exact hn') hne hsay'
        have hgr := hset.2.1
        refine benign_val hrun ⟨⟨fun m => if m = b' then E.blk b else E.blk m, E.S⟩, hren.sub fun m B hm => ?_, ?_,
          ⟨fun _ h => h, fun _ h => .inl h, fun m hm => by simp at hm; simp [hm], hgr.ext⟩, fun m g' hm hg' => ?_⟩
        · by_cases h1 : m = b'
          · subst h1; simpa [updB, findB] using hm
          · by_cases h2 : m = b
            · subst h2; simp [updB, findB, natbeq_false hne] at hm
            · simp [updB, findB, natbeq_false (Ne.symm h1), natbeq_false (Ne.symm h2)] at hm ⊢
              exact hm
        · have := Rep.own (E := ⟨fun m => if m = b' then E.blk b else E.blk m, E.S⟩) (w := w.setRow g (arr.toList.take (n * k) ++ news ++ arr.toList.drop (n * k + news.length)).toArray) b' 0 k (n + xs.length) g cap sz ty' (by simp [hg]) hfit
            (by rw [hgr.ext.shape g (Array.getElem?_eq_some_iff.1 hh).1]; exact hshape) hcap
          simpa using this
        · by_cases h1 : m = b'
          · simp [h1] at hg'
            exact .inl ⟨b, by rw [hbb]; simp, hg'⟩
          · simp [h1] at hg'
            refine .inl ⟨m, fun h0 => hm ?_, hg'⟩
            by_cases h2 : m = b
            · subst h2; simp [updB, findB, natbeq_false hne]
            · simpa [updB, findB, natbeq_false (Ne.symm h1), natbeq_false (Ne.symm h2)] using h0
      · refine grown (some ⟨g, 0, none⟩) cap (arr.toList.take (n * k)) hval hfit (by simp; omega) (fun w' hw' => ?_) hkk (fun i j row d v h1 h2 h3 => h i j row d v h1 h2 ?_)
        · refine run_firstCells_some (P := P) w' k n ⟨g, 0, none⟩ n cap _ (by simp; omega) fun p v hv => ?_
          have hlt := (List.getElem?_eq_some_iff.1 hv).1
          simp at hlt
          rw [List.getElem?_take_of_lt (by omega)] at hv
          rw [Addr.add_mid, Nat.zero_add]
          simp only [World.cell?, hw', hh]
          simpa using hv
        · have hlt := (List.getElem?_eq_some_iff.1 h3).1
          simp at hlt
          rw [List.getElem?_take_of_lt (by omega)] at h3
          simpa using h3

/-- append(nil, x...) where x is data. -/
theorem step_append_nil {t t2 e k by_ b' : Nat} {s x : Operand} {xs : List (List D)} (hs : ρ s = .nil) (hx : ρ x = .d (.s xs))
    (ht : appB P t = some (e, k, by_)) (ht2 : P.underlying t2 = some (.slice e)) (hk : ∀ row ∈ xs, row.length = k)
    (hbytes : (2 * xs.length + 512) * by_ ≤ 281474976710656) (h63 : xs.length ≤ 4611686018427387904) :
    Step P ⟨dst, .call ⟨.builtin .append, #[s, x], #[t, t2]⟩, ty, pos, after, gd⟩ ρ bk0 (.own b' 0 k xs.length) [(b', some (.row k xs))] [b'] := by
  intro bk hbk hnw E w vals hvals hB
  obtain ⟨hn', hsay⟩ := hnw b' (by simp)
  obtain ⟨i, z, hu, hi, hz, hsz, hby, hzs⟩ := appB_spec ht
  have h1 := hvals s (by simp [Op.operands, Call.operands]); rw [hs] at h1
  have h2 := hvals x (by simp [Op.operands, Call.operands]); rw [hx] at h2
  generalize hval : vals s = u at h1
  generalize hval2 : vals x = u2 at h2
  have h2' : RepD E.S w (.s xs) u2 := by cases h2 with | d h => exact h
  obtain ⟨ax, cx, news, rfl, hnl, hfc, hnd, hn1⟩ := ro_cells h2' hk
  have hlen : ∀ w' : World, (Builtin.lenOf (.slice ax xs.length cx)).run P w' = .ok xs.length w' := fun w' => by simp [Builtin.lenOf]
  have hexec : ∀ u, vals s = u → execOp vals ⟨dst, .call ⟨.builtin .append, #[s, x], #[t, t2]⟩, ty, pos, after, gd⟩ = (do pure (.value (← Builtin.append_ #[t, t2] ty #[u, .slice ax xs.length cx])) : Sem Next) := fun u hu => by
    subst hu
    simp only [execOp, resolve, List.map_toArray, List.map_cons, List.map_nil, hval2]
    rfl
  cases h1
  by_cases hm : xs = []
  · subst hm
    have hrun := run_append_any (P := P) (tr := ty) w hu ht2 hi hz hsz hby none 0 0 0 (.slice ax 0 cx) [] news hlen (fun h => by omega) (fun w' hw' => hfc w' hw' P) (by simpa using hbytes) (by simp)
    rw [if_pos (by simp)] at hrun
    rw [hexec _ hval]
    have hb0 := blks_nil b' k hB hn' hsay
    refine benign_val hrun ⟨⟨fun m => if m = b' then none else E.blk m, E.S⟩, hb0, .ownNil b' 0 k (by simp),
      ⟨fun _ h => h, fun _ h => .inl h, fun m hm => by simp at hm; simp [hm], Ext.refl _ _⟩, fun m g hm hg' => ?_⟩
    by_cases h1 : m = b'
    · simp [h1] at hg'
    · simp [h1] at hg'
      refine .inl ⟨m, fun h0 => hm ?_, hg'⟩
      rw [updB_one, if_neg h1]; exact h0
  · have hrun := run_append_any (P := P) (tr := ty) w hu ht2 hi hz hsz hby none 0 0 xs.length (.slice ax xs.length cx) [] news hlen (fun _ w' _ => by simp [Builtin.firstCells]) (fun w' hw' => hfc w' hw' P) (by simpa using hbytes) (by simpa using h63)
    rw [if_neg (by have := List.length_pos_iff.2 hm; omega)] at hrun
    rw [hexec _ hval]
    simp only [Nat.zero_add] at hrun
    generalize hnc : (Question.appendCap xs.length 0 e).cut (w.tape w.drawn (.appendCap xs.length 0 e)) = nc at hrun
    have hnc' : xs.length ≤ nc := hnc ▸ capOk _ _ _ _ w
    generalize harr : ((#[] : Array Value) ++ news.toArray ++ Builtin.zeroCells z.cells (nc - xs.length)) = arr at hrun
    have hasz : arr.size = nc * k := by
      rw [← harr]; simp [zeroCells_size, hzs, hnl]
      rw [← Nat.add_mul]; congr 1; omega
    have hp : Pushed w (w.drew.alloc (.cells arr e)) (.cells arr e) := ⟨rfl, rfl, rfl, rfl⟩
    have hb1 := blks_new hB hp b' hn' hsay (.row k xs) (fun hkeep => by
      refine .row k _ arr e hp.get (fun j row hj => hk row (List.mem_of_getElem? hj)) (by rw [hasz]; exact Nat.mul_le_mul_right k hnc') (fun j p row d v hj hp' hv => ?_)
      have hpk : p < k := by have := (List.getElem?_eq_some_iff.1 hp').1; rw [hk row (List.mem_of_getElem? hj)] at this; exact this
      have hjl : j < xs.length := (List.getElem?_eq_some_iff.1 hj).1
      have hb1 : j * k + p < xs.length * k := mul_lt_of hjl hpk
      have hlt : j * k + p < news.length := by rw [hnl]; exact hb1
      have hv2 : arr[j * k + p]? = news[j * k + p]? := by
        rw [← harr, Array.getElem?_append_left (by simpa using hlt)]; simp
      rw [hv2] at hv
      exact (hnd j p row d v hj hp' hv).mono hkeep.S hkeep.cell)
    refine benign_val hrun ⟨_, hb1.1, ?_, hb1.2.1, hb1.2.2⟩
    have := Rep.own (E := ⟨fun m => if m = b' then some w.heap.size else E.blk m, E.S⟩) (w := w.drew.alloc (.cells arr e)) b' 0 k xs.length w.heap.size nc arr.size e (by simp) hnc'
      (by unfold World.shape?; rw [hp.get]) (by rw [hasz, Nat.zero_add]; exact Nat.le_refl _)
    simpa using this
end

end Go.Proofs.Ytencghlmckbmlaa
