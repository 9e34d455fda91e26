/- A variable that is written no more: its address becomes the address of data. -/
import Derived.Test.YtencghlmckbmlaaRange
set_option linter.unusedVariables false
set_option linter.unusedSimpArgs false
set_option maxRecDepth 100000
namespace Go.Proofs.Ytencghlmckbmlaa
open Go Go.RowKit

mutual
def AV.fz (b : Nat) (row : List D) : AV → AV
  | .ptr b' i k o => bif Nat.beq b' b && (Nat.beq i 0 && Nat.beq o 0) then .rop row else .ptr b' i k o
  | .agg cs => .agg (fzL b row cs)
  | .tup cs => .tup (fzL b row cs)
  | .clo g x y => .clo g (fzL b row x) (fzL b row y)
  | .own b' i k n => .own b' i k n
  | .any => .any
  | .nil => .nil
  | .d x => .d x
  | .rop r => .rop r
def fzL (b : Nat) (row : List D) : List AV → List AV
  | [] => []
  | c :: r => c.fz b row :: fzL b row r
end

theorem fzL_get (b : Nat) (row : List D) : ∀ (l : List AV) (i : Nat) (c : AV), (fzL b row l)[i]? = some c → ∃ c', l[i]? = some c' ∧ c = c'.fz b row
  | [], i, c, h => by simp [fzL] at h
  | x :: r, 0, c, h => ⟨x, rfl, by simpa [fzL] using h.symm⟩
  | x :: r, i + 1, c, h => by
    obtain ⟨c', h1, h2⟩ := fzL_get b row r i c (by simpa [fzL] using h)
    exact ⟨c', by simpa using h1, h2⟩
theorem fzL_length (b : Nat) (row : List D) : ∀ (l : List AV), (fzL b row l).length = l.length
  | [] => rfl
  | x :: r => by simp [fzL, fzL_length b row r]

theorem rep_fz {E : Env} {w : World} {b : Nat} {row : List D} {S' : Nat → Prop} (hS : ∀ x, E.S x → S' x) (hb : ∀ g, E.blk b = some g → Rep ⟨E.blk, S'⟩ w (.rop row) (.pointer (some ⟨g, 0, none⟩))) {c : AV} {v : Value} (h : Rep E w c v) : Rep ⟨E.blk, S'⟩ w (c.fz b row) v := by
  induction h with
  | any v => exact .any v
  | nil => exact .nil
  | d h => exact .d (h.mono hS fun _ _ _ => rfl)
  | ptr b' i k o g hg =>
    show Rep _ _ (bif Nat.beq b' b && (Nat.beq i 0 && Nat.beq o 0) then _ else _) _
    cases hc : Nat.beq b' b && (Nat.beq i 0 && Nat.beq o 0) with
    | false => rw [cond_false]; exact .ptr b' i k o g hg
    | true =>
      simp only [Bool.and_eq_true] at hc
      obtain ⟨h1, h2, h3⟩ := hc
      obtain rfl := Nat.eq_of_beq_eq_true h1
      obtain rfl := Nat.eq_of_beq_eq_true h2
      obtain rfl := Nat.eq_of_beq_eq_true h3
      rw [cond_true, Nat.zero_mul, Nat.zero_add]
      exact hb g hg
  | rop r b' o g h1 h2 h3 => exact .rop r b' o g (hS _ h1) h2 fun j d hd => (h3 j d hd).mono hS fun _ _ _ => rfl
  | own b' i k n g cap sz ty h1 h2 h3 h4 => exact .own b' i k n g cap sz ty h1 h2 h3 h4
  | ownNil b' i k h => exact .ownNil b' i k h
  | agg cs arr hl h1 h ih =>
    refine .agg (fzL b row cs) arr (by rw [hl, fzL_length]) h1 fun i c v hc hv => ?_
    obtain ⟨c', h2, rfl⟩ := fzL_get b row cs i c hc
    exact ih i c' v h2 hv
  | tup cs arr hl h ih =>
    refine .tup (fzL b row cs) arr (by rw [hl, fzL_length]) fun i c v hc hv => ?_
    obtain ⟨c', h2, rfl⟩ := fzL_get b row cs i c hc
    exact ih i c' v h2 hv
  | clo f a z fa ca h1 h2 h3 h4 ih3 ih4 =>
    refine .clo f (fzL b row a) (fzL b row z) fa ca (by rw [h1, fzL_length]) (by rw [h2, fzL_length]) (fun i c v hc hv => ?_) (fun i c v hc hv => ?_)
    · obtain ⟨c', h5, rfl⟩ := fzL_get b row a i c hc
      exact ih3 i c' v h5 hv
    · obtain ⟨c', h5, rfl⟩ := fzL_get b row z i c hc
      exact ih4 i c' v h5 hv

def FzT (b : Nat) (row : List D) : List (Nat × AV) → List (Nat × AV) → Prop
  | [], _ => True
  | (t, v) :: r, l => (look l t).fz b row = v ∧ FzT b row r l
theorem FzT.look {b : Nat} {row : List D} {l' l : List (Nat × AV)} (h : FzT b row l' l) (t : Nat) : look l' t = .any ∨ Ytencghlmckbmlaa.look l' t = (Ytencghlmckbmlaa.look l t).fz b row := by
  induction l' with
  | nil => exact .inl rfl
  | cons p r ih =>
    obtain ⟨u, v⟩ := p
    obtain ⟨h1, h2⟩ := h
    have e : Ytencghlmckbmlaa.look ((u, v) :: r) t = bif Nat.beq u t then v else Ytencghlmckbmlaa.look r t := rfl
    rw [e]
    cases hb : Nat.beq u t with
    | true => have : u = t := Nat.eq_of_beq_eq_true hb; subst this; right; rw [cond_true]; exact h1.symm
    | false => rw [cond_false]; exact ih h2

theorem turn_rop {c : Ctx} {tl tl' : List (Nat × AV)} {bl : List (Nat × Option Blk)} (b : Nat) (row : List D) (hb : lookB bl b = some (.var (row.map .d))) (ht : FzT b row tl' tl) : Turns c ⟨tl, bl⟩ ⟨tl', (b, none) :: bl⟩ := fun E a w hr => by
  let S' : Nat → Prop := fun x => E.S x ∨ E.blk b = some x
  have hk : Keeps E ⟨E.blk, S'⟩ w w (fun _ => False) := ⟨fun _ h => .inl h, fun _ _ _ => rfl, fun _ _ => rfl, fun _ _ => rfl⟩
  have e : ∀ n, lookB ((b, none) :: bl) n = if n = b then none else lookB bl n := fun n => by
    have : lookB ((b, none) :: bl) n = bif Nat.beq b n then none else lookB bl n := rfl
    rw [this]
    by_cases h : n = b
    · subst h; simp
    · rw [natbeq_false (Ne.symm h), if_neg h]; rfl
  have old : ∀ n, lookB ((b, none) :: bl) n ≠ none → n ≠ b ∧ lookB bl n ≠ none := fun n hn => by
    rw [e] at hn
    by_cases h : n = b
    · rw [if_pos h] at hn; exact absurd rfl hn
    · rw [if_neg h] at hn; exact ⟨h, hn⟩
  have hbne : lookB bl b ≠ none := by rw [hb]; simp
  have hrop : ∀ g, E.blk b = some g → Rep ⟨E.blk, S'⟩ w (.rop row) (.pointer (some ⟨g, 0, none⟩)) := fun g hg => by
    have hB := hr.bks.rep b _ g hb hg
    cases hB with
    | var _ arr ty hh hl h =>
      have hl' : arr.size = row.length := by rw [hl]; simp
      refine .rop row g 0 (fun j => arr.getD j undef) (.inr hg) (fun j hj => ?_) (fun j d hd => ?_)
      · rw [cell_of_heap hh, Nat.zero_add, Array.getElem?_eq_getElem (by omega)]
        simp [show j < arr.size by omega]
      · have hj : j < arr.size := by have := (List.getElem?_eq_some_iff.1 hd).1; omega
        have := (h j (.d d) arr[j] (by simp [hd]) (Array.getElem?_eq_getElem hj)).1
        cases this with
        | d h =>
          have hx : arr.getD j undef = arr[j] := by simp [hj]
          rw [hx]
          exact h.mono (fun _ h => .inl h) fun _ _ _ => rfl
  refine ⟨⟨E.blk, S'⟩, { size := hr.size, defers := hr.defers, tms := fun t => ?_, bks := ?_, ext := hr.ext, names := fun n g hn h => hr.names n g (old n hn).2 h, S := fun x hx => ?_, S0 := fun x hx => .inl (hr.S0 x hx), given := hr.given }⟩
  · rcases FzT.look ht t with h | h
    · rw [h]; exact .any _
    · rw [show look (St.mk tl' ((b, none) :: bl)).tl t = look tl' t from rfl, h]
      exact rep_fz (fun _ h => .inl h) hrop (hr.tms t)
  · refine ⟨fun m B g h1 h2 => ?_, fun m B h1 h2 => ?_, fun m l g hm hl => hr.bks.inj m l g (old m hm).2 (old l hl).2, fun m g hm h1 hS => ?_, fun x hx => ?_⟩
    · have := old m (by rw [h1]; simp)
      rw [e, if_neg this.1] at h1
      exact (hr.bks.rep m B g h1 h2).mono hk rfl (fun _ h => h.elim)
    · have := old m (by rw [h1]; simp)
      rw [e, if_neg this.1] at h1
      exact hr.bks.unb m B h1 h2
    · obtain ⟨h2, h3⟩ := old m hm
      rcases hS with hS | hS
      · exact hr.bks.apart m g h3 h1 hS
      · exact h2 (hr.bks.inj m b g h3 hbne h1 hS)
    · rcases hx with hx | hx
      · exact hr.bks.bound x hx
      · exact (hr.bks.rep b _ x hb hx).lt
  · rcases hx with hx | hx
    · exact hr.S x hx
    · exact .inr (hr.names b x hbne hx)
end Go.Proofs.Ytencghlmckbmlaa
