/- Turning what a cell of a known variable holds: a nil slice put under a name, a known array that is written no more. -/
import Derived.Test.YtencghlmckbmlaaAny
set_option linter.unusedVariables false
set_option linter.unusedSimpArgs false
set_option maxRecDepth 100000
namespace Go.Proofs.Ytencghlmckbmlaa
open Go Go.RowKit

theorem relE_bl {c : Ctx} {tl : List (Nat × AV)} {bl bl' : List (Nat × Option Blk)} {E E' : Env} {a : Act} {w : World} (hr : RelE c ⟨tl, bl⟩ E a w)
    (hk : ∀ t, Rep E' w (look tl t) (a.tmps.getD t undef)) (hB : Blks E' w (lookB bl'))
    (hn : ∀ n g, lookB bl' n ≠ none → E'.blk n = some g → ∃ m, lookB bl m ≠ none ∧ E.blk m = some g) (hS : ∀ b, E'.S b → c.E0.S b ∨ c.X b ∨ c.w0.heap.size ≤ b) (hS0 : ∀ b, E.S b → E'.S b)
    (hg : ∀ n ∈ c.gl, E'.blk n = E.blk n) : RelE c ⟨tl, bl'⟩ E' a w where
  size := hr.size
  defers := hr.defers
  tms := hk
  bks := hB
  ext := hr.ext
  names := fun n g h1 h2 => let ⟨m, h3, h4⟩ := hn n g h1 h2; hr.names m g h3 h4
  S := hS
  S0 := fun b hb => hS0 b (hr.S0 b hb)
  given := fun n h => (hg n h).trans (hr.given n h)

/-- A cell's meaning weakened, nothing else changed. -/
theorem blks_cell {E : Env} {w : World} {bk : Bk} {b : Nat} {cs cs' : List AV} (hB : Blks E w bk) (hb : bk b = some (.var cs)) (hl : cs'.length = cs.length)
    (h : ∀ (i : Nat) (c c' : AV) (v : Value), cs[i]? = some c → cs'[i]? = some c' → Rep E w c v → Rep E w c' v) : Blks E w (updB [(b, some (.var cs'))] bk) := by
  have e : ∀ n, updB [(b, some (.var cs'))] bk n = if n = b then some (.var cs') else bk n := fun n => by rw [updB_one]
  have ne : ∀ n, updB [(b, some (.var cs'))] bk n ≠ none → bk n ≠ none := fun n hn => by
    rw [e] at hn
    by_cases h : n = b
    · subst h; rw [hb]; simp
    · rw [if_neg h] at hn; exact hn
  refine ⟨fun n B g h1 h2 => ?_, fun n B h1 h2 => ?_, fun n m g hn hm => hB.inj n m g (ne n hn) (ne m hm), fun n g hn => hB.apart n g (ne n hn), hB.bound⟩
  · rw [e] at h1
    by_cases hnb : n = b
    · subst hnb
      rw [if_pos rfl] at h1; injection h1 with h1; subst h1
      have := hB.rep n _ g hb h2
      cases this with
      | var _ arr ty hh hl' h' =>
        refine .var cs' arr ty hh (by rw [hl', hl]) fun i c' v hc hv => ?_
        have hi : i < cs.length := by rw [← hl]; exact (List.getElem?_eq_some_iff.1 hc).1
        obtain ⟨h3, h4⟩ := h' i _ v (List.getElem?_eq_getElem hi) hv
        exact ⟨h i _ c' v (List.getElem?_eq_getElem hi) hc h3, h4⟩
    · rw [if_neg hnb] at h1; exact hB.rep n B g h1 h2
  · rw [e] at h1
    by_cases hnb : n = b
    · subst hnb
      obtain ⟨k, hk⟩ := hB.unb n _ hb h2; cases hk
    · rw [if_neg hnb] at h1; exact hB.unb n B h1 h2

theorem set_get_cell {cs : List AV} {i j : Nat} {x c c' : AV} (h1 : cs[j]? = some c) (h2 : (cs.set i x)[j]? = some c') : (j = i ∧ c' = x) ∨ c' = c := by
  by_cases h : i = j
  · subst h
    have hlt : i < cs.length := (List.getElem?_eq_some_iff.1 h1).1
    rw [List.getElem?_set_self hlt] at h2
    injection h2 with h2; exact .inl ⟨rfl, h2.symm⟩
  · rw [List.getElem?_set_ne h, h1] at h2; injection h2 with h2; exact .inr h2.symm

theorem turn_bindC {c : Ctx} {tl : List (Nat × AV)} {bl : List (Nat × Option Blk)} (b i n k : Nat) {cs cs' : List AV} (hb : lookB bl b = some (.var cs)) (hi : cs[i]? = some .nil)
    (hf : freshes c.gl [n] ⟨tl, bl⟩ = true) (hs : cs.set i (.own n 0 k 0) = cs') :
    Turns c ⟨tl, bl⟩ ⟨tl, (b, some (.var cs')) :: (n, some (.row k [])) :: bl⟩ := fun E a w hr => by
  subst hs
  have hfr := (List.all_eq_true.1 hf) n (by simp)
  simp only [Bool.and_eq_true, Bool.not_eq_true', List.contains_eq_mem, decide_eq_false_iff_not] at hfr
  obtain ⟨⟨h1, h2⟩, h3⟩ := hfr
  have hn := freshBl_none h2
  have hb0 := blks_nil n k hr.bks hn (fun m B hB => freshBl_says h2 hB)
  have hk : Keeps E ⟨fun m => if m = n then none else E.blk m, E.S⟩ w w (· ∈ [n]) := ⟨fun _ h => h, fun _ _ _ => rfl, fun m hm => by simp at hm; simp [hm], fun _ _ => rfl⟩
  have hbn : b ≠ n := fun e => by subst e; rw [hb] at hn; cases hn
  have hb1 : updB [(n, some (.row k []))] (lookB bl) b = some (.var cs) := by rw [updB_one, if_neg hbn]; exact hb
  have hb2 := blks_cell (cs' := cs.set i (.own n 0 k 0)) hb0 hb1 (by simp) (fun j c' c'' v h4 h5 h6 => by
    rcases set_get_cell h4 h5 with ⟨rfl, rfl⟩ | rfl
    · rw [hi] at h4; injection h4 with h4; subst h4
      cases h6; exact .ownNil n 0 k (by simp)
    · exact h6)
  refine ⟨_, relE_bl hr (fun u => (hr.tms u).mono hk (fun m hm => by simp at hm; subst hm; exact freshT_look h1 u)) (bl' := (b, some (.var (cs.set i (.own n 0 k 0)))) :: (n, some (.row k [])) :: bl) ?_ (fun m g hm hg => ?_) hr.S (fun _ h => h) (fun m hm => ?_)⟩
  · have := lookB_append [(b, some (.var (cs.set i (.own n 0 k 0)))), (n, some (.row k []))] bl
    simp only [List.cons_append, List.nil_append] at this
    rw [this]
    have e : updB [(b, some (Blk.var (cs.set i (.own n 0 k 0)))), (n, some (.row k []))] (lookB bl) = updB [(b, some (.var (cs.set i (.own n 0 k 0))))] (updB [(n, some (.row k []))] (lookB bl)) := by
      funext m
      simp only [updB, findB]
      cases Nat.beq b m <;> cases Nat.beq n m <;> rfl
    rw [e]; exact hb2
  · by_cases h : m = n
    · simp [h] at hg
    · simp [h] at hg
      refine ⟨m, ?_, hg⟩
      have e : lookB ((b, some (.var (cs.set i (.own n 0 k 0)))) :: (n, some (.row k [])) :: bl) m = bif Nat.beq b m then some (.var (cs.set i (.own n 0 k 0))) else bif Nat.beq n m then some (.row k []) else lookB bl m := rfl
      rw [e, natbeq_false (Ne.symm h)] at hm
      by_cases h' : b = m
      · subst h'; rw [hb]; simp
      · rw [natbeq_false h'] at hm; exact hm
  · have : m ≠ n := fun e => h3 (e ▸ hm)
    simp [this]

theorem turn_freezeC {c : Ctx} {tl : List (Nat × AV)} {bl : List (Nat × Option Blk)} (b i n : Nat) {k m : Nat} {cs cs' : List AV} {rows : List (List D)} (hb : lookB bl b = some (.var cs)) (hi : cs[i]? = some (.own n 0 k m))
    (hn : lookB bl n = some (.row k rows)) (hlen : rows.length = m) (hs : cs.set i (.d (.s rows)) = cs') :
    Turns c ⟨tl, bl⟩ ⟨tl, (b, some (.var cs')) :: (n, none) :: bl⟩ := fun E a w hr => by
  subst hs
  have hbn : b ≠ n := fun e => by subst e; rw [hb] at hn; cases hn
  let S' : Nat → Prop := fun x => E.S x ∨ E.blk n = some x
  have hk : Keeps E ⟨E.blk, S'⟩ w w (fun _ => False) := ⟨fun _ h => .inl h, fun _ _ _ => rfl, fun _ _ => rfl, fun _ _ => rfl⟩
  have e : ∀ j, updB [(n, none)] (lookB bl) j = if j = n then none else lookB bl j := fun j => by rw [updB_one]
  have old : ∀ j, updB [(n, none)] (lookB bl) j ≠ none → j ≠ n ∧ lookB bl j ≠ none := fun j hj => by
    rw [e] at hj
    by_cases h : j = n
    · rw [if_pos h] at hj; exact absurd rfl hj
    · rw [if_neg h] at hj; exact ⟨h, hj⟩
  have hnne : lookB bl n ≠ none := by rw [hn]; simp
  have hb0 : Blks ⟨E.blk, S'⟩ w (updB [(n, none)] (lookB bl)) := by
    refine ⟨fun m B g h1 h2 => ?_, fun m B h1 h2 => ?_, fun m l g hm hl => hr.bks.inj m l g (old m hm).2 (old l hl).2, fun m g hm h1 hS => ?_, fun x hx => ?_⟩
    · have := old m (by rw [h1]; simp)
      rw [e, if_neg this.1] at h1
      exact (hr.bks.rep m B g h1 h2).mono hk rfl (fun _ h => h.elim)
    · have := old m (by rw [h1]; simp)
      rw [e, if_neg this.1] at h1
      exact hr.bks.unb m B h1 h2
    · obtain ⟨h2, h3⟩ := old m hm
      rcases hS with hS | hS
      · exact hr.bks.apart m g h3 h1 hS
      · exact h2 (hr.bks.inj m n g h3 hnne h1 hS)
    · rcases hx with hx | hx
      · exact hr.bks.bound x hx
      · exact (hr.bks.rep n _ x hn hx).lt
  have hb1 : updB [(n, none)] (lookB bl) b = some (.var cs) := by rw [e, if_neg hbn]; exact hb
  -- the cell's value, as data
  have hB2 : Blks ⟨E.blk, S'⟩ w (updB [(b, some (.var (cs.set i (.d (.s rows)))))] (updB [(n, none)] (lookB bl))) := by
    have ne : ∀ j, updB [(b, some (.var (cs.set i (.d (.s rows)))))] (updB [(n, none)] (lookB bl)) j ≠ none → updB [(n, none)] (lookB bl) j ≠ none := fun j hj => by
      rw [updB_one] at hj
      by_cases h : j = b
      · subst h; rw [hb1]; simp
      · rw [if_neg h] at hj; exact hj
    refine ⟨fun j B g h1 h2 => ?_, fun j B h1 h2 => ?_, fun j l g hj hl => hb0.inj j l g (ne j hj) (ne l hl), fun j g hj => hb0.apart j g (ne j hj), hb0.bound⟩
    · rw [updB_one] at h1
      by_cases hjb : j = b
      · subst hjb
        rw [if_pos rfl] at h1; injection h1 with h1; subst h1
        have := hr.bks.rep j _ g hb h2
        cases this with
        | var _ arr ty hh hl' h' =>
          refine .var _ arr ty hh (by rw [hl']; simp) fun p c' v hc hv => ?_
          have hp : p < cs.length := by have := (List.getElem?_eq_some_iff.1 hc).1; simpa using this
          obtain ⟨h3, h4⟩ := h' p _ v (List.getElem?_eq_getElem hp) hv
          refine ⟨?_, h4⟩
          rcases set_get_cell (List.getElem?_eq_getElem hp) hc with ⟨rfl, rfl⟩ | h5
          · rw [List.getElem?_eq_getElem hp] at hi; injection hi with hi
            rw [hi] at h3
            have := RepD_own hr.bks hn h3 (by omega) S' (fun _ h => .inl h) (fun g hg => .inr hg)
            have e2 : (rows.drop 0).take m = rows := by subst hlen; simp
            rw [e2] at this
            exact .d this
          · rw [h5]; exact h3.mono hk (fun _ h => h.elim)
      · rw [if_neg hjb] at h1; exact hb0.rep j B g h1 h2
    · rw [updB_one] at h1
      by_cases hjb : j = b
      · subst hjb
        obtain ⟨k, hk⟩ := hr.bks.unb j _ hb h2; cases hk
      · rw [if_neg hjb] at h1; exact hb0.unb j B h1 h2
  refine ⟨⟨E.blk, S'⟩, relE_bl hr (fun u => (hr.tms u).mono hk (fun _ h => h.elim)) (bl' := (b, some (.var (cs.set i (.d (.s rows))))) :: (n, none) :: bl) ?_ (fun m g hm hg => ?_) (fun x hx => ?_) (fun _ h => .inl h) (fun _ _ => rfl)⟩
  · have := lookB_append [(b, some (.var (cs.set i (.d (.s rows))))), (n, none)] bl
    simp only [List.cons_append, List.nil_append] at this
    rw [this]
    have e : updB [(b, some (Blk.var (cs.set i (.d (.s rows))))), (n, none)] (lookB bl) = updB [(b, some (.var (cs.set i (.d (.s rows)))))] (updB [(n, none)] (lookB bl)) := by
      funext m
      simp only [updB, findB]
      cases Nat.beq b m <;> cases Nat.beq n m <;> rfl
    rw [e]; exact hB2
  · refine ⟨m, ?_, hg⟩
    have e : lookB ((b, some (.var (cs.set i (.d (.s rows))))) :: (n, none) :: bl) m = bif Nat.beq b m then some (.var (cs.set i (.d (.s rows)))) else bif Nat.beq n m then none else lookB bl m := rfl
    rw [e] at hm
    by_cases h' : b = m
    · subst h'; rw [hb]; simp
    · rw [natbeq_false h', cond_false] at hm
      by_cases h2 : n = m
      · subst h2; simp at hm
      · rw [natbeq_false h2] at hm; exact hm
  · rcases hx with hx | hx
    · exact hr.S x hx
    · exact .inr (hr.names n x hnne hx)

section
variable {s : St} {bk0 : Bk} {dst : Option Tmp} {ty : TypeId} {pos : String} {after : Array Edge} {gd : Option (Nat × Bool)}
theorem allocN (n : Nat) {t : Nat} {cs : List AV} (hz : asc tabZ t = some cs) (hsay : AV.says.saysL n cs = false) : Step Try.prog ⟨dst, .alloc t, ty, pos, after, gd⟩ (evalA s) bk0 (.ptr n 0 0 0) [(n, some (.var cs))] [n] :=
  step_alloc (zeroT hz) (zeroOkT hz) hsay
theorem boxN (n : Nat) {t : Nat} {x : Operand} {cs : List AV} {v : AV} (hx : evalO s x = some v) (hv : cellsA v = some cs) (hsay : AV.says.saysL n cs = false) :
    Step Try.prog ⟨dst, .box t x, ty, pos, after, gd⟩ (evalA s) bk0 (.ptr n 0 0 0) [(n, some (.var cs))] [n] := step_box (ev hx) hv hsay
end

theorem row_getD {α β : Type} {l : List α} {f : α → β} {i : Nat} {z : α} (h : i < l.length) : (l.map f)[i]? = some (f (l.getD i z)) := by
  simp [List.getElem?_eq_getElem h, List.getD_eq_getElem?_getD]

theorem take_map_succ {α β : Type} {l : List α} {f : α → β} {i : Nat} {x : α} (h : l[i]? = some x) : (l.take i).map f ++ [f x] = (l.take (i + 1)).map f := by
  rw [List.take_add_one, h]; simp

theorem turn_same {c : Ctx} {tl : List (Nat × AV)} {bl : List (Nat × Option Blk)} {t : Nat} {v : AV} (h : look tl t = v) : Turns c ⟨tl, bl⟩ ⟨(t, v) :: tl, bl⟩ := fun E a w hr =>
  ⟨E, RelF.sub (tm' := look ((t, v) :: tl)) (bk' := lookB bl) hr (fun u => by
    right
    have e : look ((t, v) :: tl) u = bif Nat.beq t u then v else look tl u := rfl
    show look ((t, v) :: tl) u = look tl u
    rw [e]
    by_cases h0 : t = u
    · subst h0; simp [h]
    · rw [natbeq_false h0]; rfl) (fun n B h => h)⟩

theorem awp_ifS {P : Program} {c : Ctx} {Q : Exit → St → Prop} {tl : List (Nat × AV)} {bl : List (Nat × Option Blk)} {x y : Code} {t : Nat} {b : Bool} (hc : lookO tl t = some (.d (.v (.bool b))))
    (ht : b = true → AWp P c x Q ⟨(t, .d (.v (.bool true))) :: tl, bl⟩) (hf : b = false → AWp P c y Q ⟨(t, .d (.v (.bool false))) :: tl, bl⟩) : AWp P c (.cond (.tmp t) x y) Q ⟨tl, bl⟩ :=
  awp_if (s := ⟨tl, bl⟩) hc (fun h => awp_turn (turn_same (by rw [lookO_look hc, h])) (ht h)) (fun h => awp_turn (turn_same (by rw [lookO_look hc, h])) (hf h))

end Go.Proofs.Ytencghlmckbmlaa
