/- What TopWorlds makes of its bursts; steps and lemmas for its walk. -/
import Derived.Test.YtencghlmckbmlaaWorld6
set_option linter.unusedVariables false
set_option linter.unusedSimpArgs false
set_option maxRecDepth 100000
namespace Go.Proofs.Ytencghlmckbmlaa
open Go Go.RowKit

structure Burst where
  node : Int
  start : Int
  len : Int
  need : Int
deriving Inhabited
def encB (b : Burst) : List D := [.v (.int .u8 b.node), .v (.int .u16 b.start), .v (.int .u16 b.len), .v (.int .i8 b.need)]
structure BurstOk (b : Burst) : Prop where
  n0 : 0 ≤ b.node
  n1 : b.node ≤ 255
  s0 : 0 ≤ b.start
  s1 : b.start ≤ 65535
  l0 : 0 ≤ b.len
  l1 : b.len ≤ 65535
  e0 : -128 ≤ b.need
  e1 : b.need ≤ 127

def sendB (n : Nat) (b : Burst) : Sending := ⟨(b.node % (n : Int)).toNat, b.start, b.start + 1 + b.len, 10 * b.need⟩
def okP (s y : Sending) : Bool := (((y.node : Int) != (s.node : Int)) || decide (y.end_ ≤ s.start)) || decide (s.end_ ≤ y.start)
def okS (s : Sending) (l : List Sending) : Bool := l.all (okP s)
def hereS (n : Nat) (bs : List Burst) : Nat → List Sending
  | 0 => []
  | p + 1 => if okS (sendB n (bs.getD p default)) (hereS n bs p) = true then hereS n bs p ++ [sendB n (bs.getD p default)] else hereS n bs p

structure HereOk (n p : Nat) (H : List Sending) : Prop where
  len : H.length ≤ p
  ok : ∀ s ∈ H, s.node < n ∧ (0 ≤ s.start ∧ s.start ≤ 65535) ∧ (s.start < s.end_ ∧ s.end_ ≤ 131072) ∧ -2000 ≤ s.need ∧ s.need ≤ 2000
  apart : H.Pairwise fun x y => clashS x y = false

theorem here_ok {n : Nat} {bs : List Burst} (hn : 1 ≤ n) (hb : ∀ b ∈ bs, BurstOk b) : ∀ p, p ≤ bs.length → HereOk n p (hereS n bs p)
  | 0, _ => ⟨Nat.le_refl _, (fun s hs => by cases hs), List.Pairwise.nil⟩
  | p + 1, hp => by
    have ih := here_ok hn hb p (by omega)
    have hbo := hb _ (mem_getD (l := bs) (i := p) (by omega))
    show HereOk n (p + 1) (if _ then _ else _)
    split
    · rename_i h
      refine ⟨by have := ih.len; simp; omega, fun s hs => ?_, List.pairwise_append.2 ⟨ih.apart, List.pairwise_singleton .., fun a ha b hb => ?_⟩⟩
      · rcases List.mem_append.1 hs with hs | hs
        · exact ih.ok s hs
        · simp only [List.mem_singleton] at hs
          subst hs
          have h1 := hbo.n0; have h2 := hbo.s0; have h3 := hbo.s1; have h4 := hbo.l0; have h5 := hbo.l1; have h6 := hbo.e0; have h7 := hbo.e1
          refine ⟨?_, ⟨h2, h3⟩, ⟨?_, ?_⟩, ?_, ?_⟩
          · show ((bs.getD p default).node % (n : Int)).toNat < n
            have := Int.emod_nonneg (bs.getD p default).node (show (n : Int) ≠ 0 by omega)
            have := Int.emod_lt_of_pos (bs.getD p default).node (show (0 : Int) < n by omega)
            omega
          · show (bs.getD p default).start < (bs.getD p default).start + 1 + (bs.getD p default).len; omega
          · show (bs.getD p default).start + 1 + (bs.getD p default).len ≤ _; omega
          · show -2000 ≤ 10 * (bs.getD p default).need; omega
          · show 10 * (bs.getD p default).need ≤ 2000; omega
      · simp only [List.mem_singleton] at hb
        subst hb
        have := List.all_eq_true.1 h a ha
        simp only [okP, Bool.or_eq_true, bne_iff_ne, ne_eq, decide_eq_true_eq] at this
        unfold clashS overlapS
        rw [Bool.and_eq_false_iff]
        by_cases e : (a.node : Int) = ((sendB n (bs.getD p default)).node : Int)
        · right
          rw [Bool.and_eq_false_iff, decide_eq_false_iff_not, decide_eq_false_iff_not]
          rcases this with (h1 | h1) | h1
          · exact absurd e h1
          · right; omega
          · left; omega
        · left; simpa using e
    · exact ⟨Nat.le_succ_of_le ih.len, ih.ok, ih.apart⟩

theorem HereOk.list {n p : Nat} {H : List Sending} {w : Air} (h : HereOk n p H) (hp : p ≤ 64) (hw : w.radios.length = n) : ListOk w H :=
  ⟨Nat.le_trans h.len hp, fun s hs => by obtain ⟨h1, ⟨h2, _⟩, ⟨h3, h4⟩, h5, h6⟩ := h.ok s hs; exact ⟨by rw [hw]; exact h1, h2, h3, by omega, h5, h6⟩, apart_iff.2 h.apart⟩

theorem ok_take {s y : Sending} {H : List Sending} {q : Nat} (h : H[q]? = some y) : okS s (H.take (q + 1)) = (okS s (H.take q) && okP s y) := by
  unfold okS
  rw [List.take_add_one, h, List.all_append]; simp

theorem node_mod {n : Nat} {b : Burst} (hn : 1 ≤ n) (hb : BurstOk b) : Int.tmod b.node (n : Int) = (((sendB n b).node : Nat) : Int) := by
  rw [tmod_nn hb.n0]
  show _ = (((b.node % (n : Int)).toNat : Nat) : Int)
  have := Int.emod_nonneg b.node (show (n : Int) ≠ 0 by omega)
  omega

theorem recv_row {can : Nat → Nat → Bool} {draws : List Bool} {n m i : Nat} (h : i < m) : (((recvS can draws n m).map ints).map encRow)[((i : Nat) : Int).toNat]? = some (encRow (ints ((recvS can draws n m).getD i default))) := by
  have := idx_getD (l := (recvS can draws n m).map ints) (f := encRow) (i := i) (z := default) (by simp only [List.length_map, recv_len]; exact h)
  rwa [getD_map' (by rw [recv_len]; exact h)] at this

section
variable {P : Program} {s : St} {bk0 : Bk} {dst : Option Tmp} {ty : TypeId} {pos : String} {after : Array Edge} {gd : Option (Nat × Bool)} {t t' : TypeId} {x y : Operand}
theorem geqY {k : IntKind} {a b : Int} (hx : evalO s x = some (.d (.v (.int k a)))) (hy : evalO s y = some (.d (.v (.int k b)))) (h : a ≥ b) : Step P ⟨dst, .binOp .geq t x y t', ty, pos, after, gd⟩ (evalA s) bk0 (.d (.v (.bool true))) [] [] := step_int (ev hx) (ev hy) (by simp only [intV, decide_eq_true h])
end

theorem under4 : Try.prog.underlying 4 = some .bool := by kernel_rfl
theorem boolneF {s : St} {bk0 : Bk} {dst : Option Tmp} {ty : TypeId} {pos : String} {after : Array Edge} {gd : Option (Nat × Bool)} {t' : TypeId} {x y : Operand} {a b : Bool} (hx : evalO s x = some (.d (.v (.bool a)))) (hy : evalO s y = some (.d (.v (.bool b)))) (h : a = b) : Step Try.prog ⟨dst, .binOp .neq 4 x y t', ty, pos, after, gd⟩ (evalA s) bk0 (.d (.v (.bool false))) [] [] := by
  have := step_boolne (P := Try.prog) (bk0 := bk0) (dst := dst) (ty := ty) (pos := pos) (after := after) (gd := gd) (t' := t') (ev hx) (ev hy) under4
  rwa [show (!(a == b)) = false by subst h; simp] at this

theorem neigh_le {w : Air} {j n : Nat} (h : w.radios.length = n) : (neighS w j).length ≤ n := by
  unfold neighS
  rw [ints_len, h]
  have := List.length_filter_le (hearsS w j) (List.range n)
  simpa using this
theorem recv_le {can : Nat → Nat → Bool} {draws : List Bool} {n m i : Nat} (h : i < m) : (ints ((recvS can draws n m).getD i default)).length ≤ n := by
  rw [ints_len, show (recvS can draws n m).getD i default = _ from out_get h]
  have := (row_le (can := can) (draws := draws) (i := i) (c := (outR can draws n i).1) n).2
  exact this
theorem there_row {to : List Nat} {d : Int} {H : List Sending} {p : Nat} {t : Sending} (hp : p < H.length) (ht : H.getD (H.length - 1 - p) default = t) : (thereS to d H)[p]? = some (renS to d t) := by
  have := there_get (to := to) (d := d) (H := H) (k := H.length - 1 - p) (by omega)
  rw [show H.length - 1 - (H.length - 1 - p) = p by omega, ht, List.getD_eq_getElem?_getD, List.getElem?_eq_getElem (by rw [there_len]; exact hp)] at this
  rw [List.getElem?_eq_getElem (by rw [there_len]; exact hp)]
  exact congrArg some this
theorem same_row {n : Nat} {d : Int} {H : List Sending} {p : Nat} {s : Sending} (hp : p < H.length) (hs : H.getD p default = s) (hn : s.node < n) : (sameS n d H)[p]? = some ⟨s.node, s.start + d, s.end_ + d, s.need⟩ := by
  have := same_get (n := n) (d := d) hp
  rw [hs, List.getD_eq_getElem?_getD, List.getElem?_eq_getElem (by rw [same_len]; exact hp)] at this
  rw [List.getElem?_eq_getElem (by rw [same_len]; exact hp)]
  have e : renS (List.range n) d s = ⟨s.node, s.start + d, s.end_ + d, s.need⟩ := by unfold renS; rw [show at' (List.range n) s.node = s.node from getD_range hn]
  exact congrArg some (this.trans e)
end Go.Proofs.Ytencghlmckbmlaa
