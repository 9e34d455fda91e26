/- Transmissions: data and plain functions. -/
import Derived.Test.YtencghlmckbmlaaRadio2
set_option linter.unusedVariables false
set_option linter.unusedSimpArgs false
namespace Go.Proofs.Ytencghlmckbmlaa
open Go Go.RowKit

structure Sending where
  node : Nat
  start : Int
  end_ : Int
  need : Int
deriving Inhabited

def encS (s : Sending) : List D := [vi (s.node : Nat), vi s.start, vi s.end_, vi s.need]
def Sending.av (s : Sending) : AV := .agg [.d (vi (s.node : Nat)), .d (vi s.start), .d (vi s.end_), .d (vi s.need)]
def Sending.cells (s : Sending) : List AV := [.d (vi (s.node : Nat)), .d (vi s.start), .d (vi s.end_), .d (vi s.need)]
theorem send_rows {l : List Sending} : ∀ row ∈ l.map encS, row.length = 4 := fun row h => by
  obtain ⟨x, _, rfl⟩ := List.mem_map.1 h; rfl

def overlapS (a b : Sending) : Bool := decide (a.start < b.end_) && decide (b.start < a.end_)
def clashS (x s : Sending) : Bool := ((x.node : Int) == (s.node : Int)) && overlapS x s

structure SendOk (w : Air) (s : Sending) : Prop where
  node : s.node < w.radios.length
  s0 : 0 ≤ s.start
  se : s.start < s.end_
  e1 : s.end_ ≤ 1099511627776
  n0 : -2000 ≤ s.need
  n1 : s.need ≤ 2000

structure ListOk (w : Air) (l : List Sending) : Prop where
  len : l.length ≤ 64
  ok : ∀ s ∈ l, SendOk w s
  apart : ∀ i, i < l.length → ∀ x ∈ l.take i, clashS x (l.getD i default) = false

def senseP (w : Air) (j : Nat) (x : Sending) : Bool := hearsS w j x.node || ((x.node : Int) == (j : Int))
def sensedS (w : Air) (l : List Sending) (j : Nat) : List Sending := l.filter (senseP w j)
def activeS (t : Int) (x : Sending) : Bool := decide (x.start ≤ t) && decide (x.end_ > t)
def busyS (w : Air) (l : List Sending) (j : Nat) (t : Int) : Bool := (sensedS w l j).any (activeS t)

/-! ### the first time from which it has been idle -/
def blocks (sp t : Int) (s : Sending) : Bool := decide (s.start < t) && decide (s.end_ > t - sp)

structure IdleIs (L : List Sending) (sp f T : Int) : Prop where
  ge : f ≤ T
  free : ∀ s ∈ L, blocks sp T s = false
  least : ∀ t, f ≤ t → (∀ s ∈ L, blocks sp t s = false) → T ≤ t

theorem blocks_iff {sp t : Int} {s : Sending} : blocks sp t s = true ↔ s.start < t ∧ t - sp < s.end_ := by simp [blocks]
theorem blocks_no {sp t : Int} {s : Sending} : blocks sp t s = false ↔ ¬ (s.start < t ∧ t - sp < s.end_) := by
  rw [← blocks_iff]; simp

def cnt (sp : Int) (L : List Sending) (t : Int) : Nat := (L.filter fun s => decide (s.end_ + sp > t)).length

theorem cnt_le {sp : Int} : ∀ {L : List Sending} {t t' : Int}, t ≤ t' → cnt sp L t' ≤ cnt sp L t
  | [], _, _, _ => Nat.le_refl _
  | s :: L, t, t', h => by
    have ih := cnt_le (sp := sp) (L := L) h
    unfold cnt at ih ⊢
    simp only [List.filter_cons]
    by_cases h1 : s.end_ + sp > t'
    · have h2 : s.end_ + sp > t := by omega
      simp only [h1, h2, decide_true, if_true, List.length_cons]; omega
    · by_cases h2 : s.end_ + sp > t
      · simp only [h1, h2, decide_true, decide_false, if_true, Bool.false_eq_true, if_false, List.length_cons]; omega
      · simp only [h1, h2, decide_false, Bool.false_eq_true, if_false]; omega

theorem cnt_lt {sp : Int} : ∀ {L : List Sending} {t t' : Int} {s : Sending}, t ≤ t' → s ∈ L → s.end_ + sp > t → s.end_ + sp ≤ t' → cnt sp L t' < cnt sp L t
  | [], _, _, _, _, hs, _, _ => by cases hs
  | x :: L, t, t', s, h, hs, h1, h2 => by
    rcases List.mem_cons.1 hs with rfl | hs
    · have ih := cnt_le (sp := sp) (L := L) h
      unfold cnt at ih ⊢
      have h3 : ¬ (s.end_ + sp > t') := by omega
      simp only [List.filter_cons, h1, h3, decide_true, decide_false, if_true, List.length_cons, Bool.false_eq_true, if_false]; omega
    · have ih := cnt_lt (sp := sp) h hs h1 h2
      unfold cnt at ih ⊢
      simp only [List.filter_cons]
      by_cases h3 : x.end_ + sp > t'
      · have h4 : x.end_ + sp > t := by omega
        simp only [h3, h4, decide_true, if_true, List.length_cons]; omega
      · by_cases h4 : x.end_ + sp > t
        · simp only [h3, h4, decide_true, decide_false, if_true, Bool.false_eq_true, if_false, List.length_cons]; omega
        · simp only [h3, h4, decide_false, Bool.false_eq_true, if_false]; omega

/-- A step towards the idle time. -/
theorem IdleIs.step {L : List Sending} {sp f T : Int} (h : IdleIs L sp f T) {s : Sending} (hs : s ∈ L) {t : Int} (ht : t ≤ T) (hb : blocks sp t s = true) : s.end_ + sp ≤ T := by
  have h1 := blocks_iff.1 hb
  have h2 := blocks_no.1 (h.free s hs)
  omega

theorem idle_ex (L : List Sending) (sp : Int) : ∀ (n : Nat) (f : Int), cnt sp L f < n → ∃ T, IdleIs L sp f T
  | 0, _, h => by omega
  | n + 1, f, h => by
    by_cases hb : L.any (blocks sp f) = true
    · obtain ⟨s, hs, h1⟩ := List.any_eq_true.1 hb
      have h2 := blocks_iff.1 h1
      have hle : f ≤ s.end_ + sp := by omega
      have hc := cnt_lt (sp := sp) hle hs (by omega) (Int.le_refl _)
      obtain ⟨T, hT⟩ := idle_ex L sp n (s.end_ + sp) (by omega)
      refine ⟨T, ⟨by have := hT.ge; omega, hT.free, fun t ht hf => hT.least t ?_ hf⟩⟩
      have h3 := blocks_no.1 (hf s hs)
      omega
    · refine ⟨f, ⟨Int.le_refl _, fun s hs => ?_, fun t ht _ => ht⟩⟩
      cases hc : blocks sp f s with
      | false => rfl
      | true => exact absurd (List.any_eq_true.2 ⟨s, hs, hc⟩) hb

theorem IdleIs.eq {L : List Sending} {sp f T t : Int} (h : IdleIs L sp f T) (h0 : f ≤ t) (h1 : t ≤ T) (hf : ∀ s ∈ L, blocks sp t s = false) : t = T := by
  have := h.least t h0 hf; omega
theorem IdleIs.uniq {L : List Sending} {sp f T T' : Int} (h : IdleIs L sp f T) (h' : IdleIs L sp f T') : T = T' := by
  have h1 := h.least T' h'.ge h'.free
  have h2 := h'.least T h.ge h.free
  omega

section
variable {P : Program} {s : St} {bk0 : Bk} {dst : Option Tmp} {ty : TypeId} {pos : String} {after : Array Edge} {gd : Option (Nat × Bool)} {t t' : TypeId} {x y : Operand} {k : IntKind} {a b : Int}
theorem lssF (hx : evalO s x = some (.d (.v (.int k a)))) (hy : evalO s y = some (.d (.v (.int k b)))) (h : ¬ a < b) : Step P ⟨dst, .binOp .lss t x y t', ty, pos, after, gd⟩ (evalA s) bk0 (.d (.v (.bool false))) [] [] := step_int (ev hx) (ev hy) (by simp only [intV, decide_eq_false h])
theorem geqF (hx : evalO s x = some (.d (.v (.int k a)))) (hy : evalO s y = some (.d (.v (.int k b)))) (h : ¬ a ≥ b) : Step P ⟨dst, .binOp .geq t x y t', ty, pos, after, gd⟩ (evalA s) bk0 (.d (.v (.bool false))) [] [] := step_int (ev hx) (ev hy) (by simp only [intV, decide_eq_false h])
theorem gtrF (hx : evalO s x = some (.d (.v (.int k a)))) (hy : evalO s y = some (.d (.v (.int k b)))) (h : ¬ a > b) : Step P ⟨dst, .binOp .gtr t x y t', ty, pos, after, gd⟩ (evalA s) bk0 (.d (.v (.bool false))) [] [] := step_int (ev hx) (ev hy) (by simp only [intV, decide_eq_false h])
theorem leqF (hx : evalO s x = some (.d (.v (.int k a)))) (hy : evalO s y = some (.d (.v (.int k b)))) (h : ¬ a ≤ b) : Step P ⟨dst, .binOp .leq t x y t', ty, pos, after, gd⟩ (evalA s) bk0 (.d (.v (.bool false))) [] [] := step_int (ev hx) (ev hy) (by simp only [intV, decide_eq_false h])
theorem eqlF (hx : evalO s x = some (.d (.v (.int k a)))) (hy : evalO s y = some (.d (.v (.int k b)))) (h : ¬ a = b) : Step P ⟨dst, .binOp .eql t x y t', ty, pos, after, gd⟩ (evalA s) bk0 (.d (.v (.bool false))) [] [] := step_int (ev hx) (ev hy) (by simp [intV, h])
theorem eqlY (hx : evalO s x = some (.d (.v (.int k a)))) (hy : evalO s y = some (.d (.v (.int k b)))) (h : a = b) : Step P ⟨dst, .binOp .eql t x y t', ty, pos, after, gd⟩ (evalA s) bk0 (.d (.v (.bool true))) [] [] := step_int (ev hx) (ev hy) (by simp [intV, h])
end
end Go.Proofs.Ytencghlmckbmlaa
