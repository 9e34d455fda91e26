/- A range over a function whose rounds write one block at most: the rule. -/
import Derived.Test.YtencghlmckbmlaaIter2
set_option linter.unusedVariables false
set_option linter.unusedSimpArgs false
set_option maxRecDepth 100000
namespace Go.Proofs.Ytencghlmckbmlaa
open Go Go.RowKit

theorem Ext.kp {g : Nat} {A B : World} (h : Ext (fun b => b = g) A B) : Kp g A B := ⟨h.size, fun b hb o v hv => by
  unfold World.cell? at hv ⊢
  have hlt : b < A.heap.size := by
    rcases Nat.lt_or_ge b A.heap.size with h' | h'
    · exact h'
    · simp [Array.getElem?_eq_none h'] at hv
  rw [show B.heap[b]? = A.heap[b]? from h.block b hlt hb]; exact hv⟩
theorem kp_put {g l : Nat} {A : World} {o o' : Obj} (hl : A.heap[l]? = some o) (ho : o.isCells = false) : Kp g A (A.putObj l o') := ⟨by simp, fun b hb p v hv => by
  unfold World.cell? at hv ⊢
  by_cases e : b = l
  · subst e; simp only [hl] at hv; cases o <;> simp_all [Obj.isCells]
  · rw [World.putObj_heap_other e]; exact hv⟩
theorem kp_grown {g : Nat} {A B : World} (h : A.grownBy B none) : Kp g A B := ⟨h.size, fun b hb o v hv => by
  unfold World.cell? at hv ⊢
  have hlt : b < A.heap.size := by
    rcases Nat.lt_or_ge b A.heap.size with h' | h'
    · exact h'
    · simp [Array.getElem?_eq_none h'] at hv
  rw [h.block b hlt (by simp)]; exact hv⟩

/-- What the caller's invariant must abide. -/
def Abide {β : Type} (B : Nat) (I : β → World → Prop) : Prop :=
  ∀ s A C row, I s A → A.grownBy C row → (∀ r, row = some r → B ≤ r ∧ ∃ o : Obj, A.heap[r]? = some o ∧ o.isCells = false) → I s C

theorem range_rule {α : Type} {n : Nat} {P : Program} {gop : Operand} {ps : Array Tmp} {assign body : Code} {Q : Exit → Act → World → Prop} {a : Act} {w : World} (h1 : 1 ≤ n) {gf : Nat} {lb : Array Value} (hg : a.eval gop = .func (.func gf) #[] lb)
    (eg : ∀ args w, (callFunc gf args).run P w = .ok (.enter gf args) w) (enc : α → Array Value) (hps : ∀ x, (enc x).size = ps.size) (I : List α → World → Prop) (Ix : List α → World → Prop) (g N : Nat) (S Sp : List α → Prop) (Px : α → Prop) (hgw : g < w.heap.size)
    (hI : Abide w.heap.size I) (hIx : Abide w.heap.size Ix) (h0 : I [] w)
    (hit : ∀ (lp : Nat) (J Jx : List α → World → Prop) (W : World), Below w.heap.size w W → AbidesFrom W.heap.size J → AbidesFrom W.heap.size Jx →
      (∀ pre x W1, Px x → J pre W1 → pre.length < N → YieldAt (FW none) (n - 1 - 1) P lp (enc x) W1 fun e W' => (e = .returned (.bool true) ∧ J (pre ++ [x]) W' ∧ Kp g W1 W') ∨ (e = .returned (.bool false) ∧ Jx (pre ++ [x]) W')) → J [] W →
      CallsIn (FW none) (n - 1) P gf (#[.func (.yield lp) #[] #[]] ++ lb) W fun e W' => (∃ v, e = .returned v) ∧ ((∃ xs, S xs ∧ J xs W') ∨ (∃ pre, Sp pre ∧ Jx pre W')))
    (hround : ∀ (lp : Nat) (pre : List α) (x : α) (W : World), w.heap.size ≤ lp → Px x → I pre W → assign.wpIn (FW (some lp)) (n - 1 - 1) P (Exit.then (fun a₁ W₁ => W.grownBy W₁ none ∧ ∀ W₂, W₁.grownBy W₂ (some lp) → (∃ o : Obj, W₁.heap[lp]? = some o ∧ o.isCells = false) → body.wpIn (FW (some lp)) (n - 1 - 1) P (fun e a₃ W₃ => Ext (fun b => b = g) W₂ W₃ ∧ ((e = .normal ∧ I (pre ++ [x]) W₃) ∨ (e = .ret ∧ Ix (pre ++ [x]) W₃))) a₁ W₂) (fun _ _ _ => False)) { tmps := (ps.zip (enc x)).foldl (fun t (p, v) => t.setIfInBounds p v) a.tmps, defers := [] } W)
    (hdone : ∀ (D : Nat) (xs : List α) (W : World), w.heap.size ≤ D → S xs → I xs W → W.heap[D]? = some (.deferred (some [])) → Q .normal { a with defers := { target := .collected D, args := #[] } :: a.defers } W)
    (hstop : ∀ (D : Nat) (pre : List α) (W : World), w.heap.size ≤ D → Sp pre → Ix pre W → W.heap[D]? = some (.deferred (some [])) → Q .ret { a with defers := { target := .collected D, args := #[] } :: a.defers } W) :
    (Code.rangeFunc gop ps assign body).wpIn (FW none) n P Q a w := by
  refine wpIn_rangeFunc fun fn _ => ?_
  let rc : LoopState → Option Code → Loop := fun st pe => { state := st, pending := pe, fn, tmps := a.tmps, params := ps, assign, body, defers := w.heap.size }
  let Wd := w.alloc (.deferred (some []))
  let W1 := Wd.alloc (.loop (rc .ready none))
  have hszd : Wd.heap.size = w.heap.size + 1 := World.size_alloc ..
  have hL1 : W1.heap[w.heap.size + 1]? = some (.loop (rc .ready none)) := by
    have := World.alloc_heap_new Wd (.loop (rc .ready none)); rwa [hszd] at this
  have hD1 : W1.heap[w.heap.size]? = some (.deferred (some [])) := (Below.heap_alloc _ _ _ (by omega)).trans (World.alloc_heap_new w _)
  have hg1 : w.grownBy Wd none := World.grownBy_alloc w _ none
  have hg2 : Wd.grownBy W1 none := World.grownBy_alloc Wd _ none
  have hI1 : I [] W1 := hI _ _ _ none (hI _ _ _ none h0 hg1 (fun r e => by cases e)) hg2 (fun r e => by cases e)
  have hb1 : Below w.heap.size w W1 := ((Below.refl _ w).alloc (Nat.le_refl _) _).alloc (by simp) _
  refine ⟨w.heap.size + 1, [{ target := .collected w.heap.size, args := #[] }], W1, { target := .fn (.func gf) lb, args := #[.func (.yield (w.heap.size + 1)) #[] #[]] }, W1, gf, #[.func (.yield (w.heap.size + 1)) #[] #[]] ++ lb, W1, run_enterLoop_outer _ _ _ _ _, ?_, fun _ _ => trivial, ?_, fun h => (by cases h), ?_⟩
  · simp only [resolve, hg]
    simp [go_sem]
  · simp [invoke, go_sem, eg]
  · have keep : ∀ {A B : World} {row : Option Nat} {l : Nat} {o : Obj}, A.grownBy B row → (∀ r, row = some r → W1.heap.size ≤ r ∧ ∃ o : Obj, A.heap[r]? = some o ∧ o.isWalk = true) → A.heap[l]? = some o → l < W1.heap.size → B.heap[l]? = some o := fun hgr hr hl hlt =>
      (hgr.block _ (Array.getElem?_eq_some_iff.1 hl).1 (fun e => by have := (hr _ e.symm).1; omega)).trans hl
    have hsz1 : W1.heap.size = w.heap.size + 2 := by rw [World.size_alloc, hszd]
    have nw : ∀ {A : World} {row : Option Nat}, (∀ r, row = some r → W1.heap.size ≤ r ∧ ∃ o : Obj, A.heap[r]? = some o ∧ o.isWalk = true) → ∀ r, row = some r → w.heap.size ≤ r ∧ ∃ o : Obj, A.heap[r]? = some o ∧ o.isCells = false := fun hr r e => by
      obtain ⟨h1, o, ho, hw⟩ := hr r e; exact ⟨by omega, o, ho, Obj.not_cells_of_walk hw⟩
    refine (hit (w.heap.size + 1) (fun pre W => I pre W ∧ W.heap[w.heap.size + 1]? = some (.loop (rc .ready none)) ∧ W.heap[w.heap.size]? = some (.deferred (some [])))
      (fun pre W => Ix pre W ∧ W.heap[w.heap.size + 1]? = some (.loop (rc .done (some .ret))) ∧ W.heap[w.heap.size]? = some (.deferred (some []))) W1 hb1
      (fun s A B row hs hgr hr => ⟨hI _ _ _ _ hs.1 hgr (nw hr), keep hgr hr hs.2.1 (by omega), keep hgr hr hs.2.2 (by omega)⟩)
      (fun s A B row hs hgr hr => ⟨hIx _ _ _ _ hs.1 hgr (nw hr), keep hgr hr hs.2.1 (by omega), keep hgr hr hs.2.2 (by omega)⟩) ?_ ⟨hI1, hL1, hD1⟩).mono ?_
    · rintro pre x W hpx ⟨hi, hl, hd⟩ hlen
      have hlt : w.heap.size + 1 < W.heap.size := (Array.getElem?_eq_some_iff.1 hl).1
      refine ⟨fn, _, assign, body, run_yield (P := P) (args := enc x) hl (hps x), roundIn_of_wpIn (F := FW none) trivial (wpIn_mono (hround (w.heap.size + 1) pre x W (by omega) hpx hi) fun e a₁ W₁ hp => ?_)⟩
      cases e <;> first | exact hp.elim | skip
      obtain ⟨hgr, hbody⟩ := hp
      have hl1 : W₁.heap[w.heap.size + 1]? = some (.loop (rc .ready none)) := (hgr.block _ hlt (by simp)).trans hl
      have hd1 : W₁.heap[w.heap.size]? = some (.deferred (some [])) := (hgr.block _ (by omega) (by simp)).trans hd
      have hlt1 : w.heap.size + 1 < W₁.heap.size := (Array.getElem?_eq_some_iff.1 hl1).1
      refine ⟨W₁.putObj (w.heap.size + 1) (.loop { rc .ready none with state := .busy }), run_beginRound hl1 rfl, ?_⟩
      refine wpIn_mono (hbody _ (grownBy_putObj' W₁ _ _) ⟨_, hl1, rfl⟩) fun e a₃ W₃ ⟨hext, hcase⟩ => ?_
      have hl2 : (W₁.putObj (w.heap.size + 1) (.loop { rc .ready none with state := .busy })).heap[w.heap.size + 1]? = some (.loop { rc .ready none with state := .busy }) := World.putObj_heap_same hlt1
      have hd2 : (W₁.putObj (w.heap.size + 1) (.loop { rc .ready none with state := .busy })).heap[w.heap.size]? = some (.deferred (some [])) := (World.putObj_heap_other (by omega)).trans hd1
      have hl3 : W₃.heap[w.heap.size + 1]? = some (.loop { rc .ready none with state := .busy }) := (hext.block _ (by simp; omega) (fun e => by omega)).trans hl2
      have hd3 : W₃.heap[w.heap.size]? = some (.deferred (some [])) := (hext.block _ (by simp; omega) (fun e => by omega)).trans hd2
      have hk3 : Kp g W W₃ := ((kp_grown hgr).trans (kp_put hl1 rfl)).trans (Ext.kp hext)
      rcases hcase with ⟨rfl, hi3⟩ | ⟨rfl, hi3⟩
      · refine ⟨_, _, run_endRound (P := P) none hl3, .inl ⟨rfl, ⟨?_, ?_, ?_⟩, hk3.trans (kp_put hl3 rfl)⟩⟩
        · exact hI _ _ _ _ hi3 (grownBy_putObj' W₃ _ _) (fun r e => by cases e; exact ⟨by omega, _, hl3, rfl⟩)
        · exact World.putObj_heap_same (Array.getElem?_eq_some_iff.1 hl3).1
        · exact (World.putObj_heap_other (by omega)).trans hd3
      · refine ⟨_, _, run_endRound (P := P) (some .ret) hl3, .inr ⟨rfl, ?_, ?_, ?_⟩⟩
        · exact hIx _ _ _ _ hi3 (grownBy_putObj' W₃ _ _) (fun r e => by cases e; exact ⟨by omega, _, hl3, rfl⟩)
        · exact World.putObj_heap_same (Array.getElem?_eq_some_iff.1 hl3).1
        · exact (World.putObj_heap_other (by omega)).trans hd3
    · rintro e W2 ⟨⟨v, rfl⟩, (⟨xs, hS, hi, hl, hd⟩ | ⟨pre, hSp, hi, hl, hd⟩)⟩
      · refine ⟨none, _, run_endLoop (P := P) hl (by simp [rc]), hdone _ xs _ (Nat.le_refl _) hS (hI _ _ _ _ hi (grownBy_putObj' W2 _ _) (fun r e => by cases e; exact ⟨by omega, _, hl, rfl⟩)) ((World.putObj_heap_other (by omega)).trans hd)⟩
      · refine ⟨some .ret, _, run_endLoop (P := P) hl (by simp [rc]), wpIn_ret (hstop _ pre _ (Nat.le_refl _) hSp (hIx _ _ _ _ hi (grownBy_putObj' W2 _ _) (fun r e => by cases e; exact ⟨by omega, _, hl, rfl⟩)) ((World.putObj_heap_other (by omega)).trans hd))⟩
end Go.Proofs.Ytencghlmckbmlaa
