/- A small logic of symbolic states over the model's walks: what the temporaries and the known blocks of memory hold, said as data; a contract says what a call returns and which blocks it turns. -/
import Derived.WalkKit
import Derived.Deep.MidRow
import Derived.Orders
set_option linter.unusedVariables false
set_option linter.unusedSimpArgs false
namespace Go.Proofs.Ytencghlmckbmlaa
open Go Go.RowKit

/-- Data: a cell that is no address, or a slice that nobody writes: its elements, each a row of cells. -/
inductive D where
  | v (x : Value)
  | s (xs : List (List D))

inductive RepD (S : Nat → Prop) (w : World) : D → Value → Prop where
  | v (x : Value) (h : x.oneCell' = true) : RepD S w (.v x) x
  | nil (a : Option Addr) (c : Nat) : RepD S w (.s []) (.slice a 0 c)
  | s (xs : List (List D)) (b o k cap : Nat) (g : Nat → Nat → Value) (hS : S b) (hcap : xs.length ≤ cap)
      (hk : ∀ (i : Nat) (row : List D), xs[i]? = some row → row.length = k)
      (hc : ∀ (i j : Nat), i < xs.length → j < k → w.cell? ⟨b, o + i * k + j, none⟩ = some (g i j))
      (hr : ∀ (i j : Nat) (row : List D) (d : D), xs[i]? = some row → row[j]? = some d → RepD S w d (g i j)) :
      RepD S w (.s xs) (.slice (some ⟨b, o, none⟩) xs.length cap)

theorem RepD.mono {S S' : Nat → Prop} {w w' : World} (hS : ∀ b, S b → S' b) (hw : ∀ b, S b → ∀ o, w'.cell? ⟨b, o, none⟩ = w.cell? ⟨b, o, none⟩)
    {d : D} {v : Value} (h : RepD S w d v) : RepD S' w' d v := by
  induction h with
  | v x h => exact .v x h
  | nil a c => exact .nil a c
  | s xs b o k cap g hSb hcap hk hc _ ih => exact .s xs b o k cap g (hS b hSb) hcap hk (fun i j hi hj => (hw b hSb _).trans (hc i j hi hj)) ih

theorem RepD.one {S : Nat → Prop} {w : World} {d : D} {v : Value} (h : RepD S w d v) : v.oneCell' = true := by
  cases h with
  | v _ h => exact h
  | nil => rfl
  | s => rfl

/-- What a temporary holds. 'any': nothing is known. 'ptr b i k o': the address of cell i*k+o of the known block b. 'rop row': the address of cells that nobody writes. 'own b i k n': a slice of n elements of k cells each over block b, from element i on. -/
inductive AV where
  | any
  | nil
  | d (x : D)
  | ptr (b i k o : Nat)
  | rop (row : List D)
  | own (b i k n : Nat)
  | agg (cs : List AV)
  | tup (vs : List AV)
  | clo (f : Nat) (first caps : List AV)

structure Env where
  blk : Nat → Option Nat
  S : Nat → Prop

inductive Rep (E : Env) (w : World) : AV → Value → Prop where
  | any (v : Value) : Rep E w .any v
  | nil : Rep E w .nil (.slice none 0 0)
  | d {x : D} {v : Value} (h : RepD E.S w x v) : Rep E w (.d x) v
  | ptr (b i k o g : Nat) (hg : E.blk b = some g) : Rep E w (.ptr b i k o) (.pointer (some ⟨g, i * k + o, none⟩))
  | rop (row : List D) (b o : Nat) (g : Nat → Value) (hS : E.S b) (hc : ∀ (j : Nat), j < row.length → w.cell? ⟨b, o + j, none⟩ = some (g j))
      (hr : ∀ (j : Nat) (d : D), row[j]? = some d → RepD E.S w d (g j)) : Rep E w (.rop row) (.pointer (some ⟨b, o, none⟩))
  | own (b i k n g cap sz : Nat) (ty : TypeId) (hg : E.blk b = some g) (hn : n ≤ cap) (hs : w.shape? g = some (ty, sz)) (hb : (i + cap) * k ≤ sz) :
      Rep E w (.own b i k n) (.slice (some ⟨g, i * k, none⟩) n cap)
  | ownNil (b i k : Nat) (hg : E.blk b = none) : Rep E w (.own b i k 0) (.slice none 0 0)
  | agg (cs : List AV) (arr : Array Value) (hl : arr.size = cs.length) (h1 : ∀ (i : Nat) (v : Value), arr[i]? = some v → v.oneCell' = true)
      (h : ∀ (i : Nat) (c : AV) (v : Value), cs[i]? = some c → arr[i]? = some v → Rep E w c v) : Rep E w (.agg cs) (.agg arr)
  | tup (vs : List AV) (arr : Array Value) (hl : arr.size = vs.length)
      (h : ∀ (i : Nat) (c : AV) (v : Value), vs[i]? = some c → arr[i]? = some v → Rep E w c v) : Rep E w (.tup vs) (.tuple arr)
  | clo (f : Nat) (first caps : List AV) (fa ca : Array Value) (hfl : fa.size = first.length) (hcl : ca.size = caps.length)
      (hf : ∀ (i : Nat) (c : AV) (v : Value), first[i]? = some c → fa[i]? = some v → Rep E w c v) (hc : ∀ (i : Nat) (c : AV) (v : Value), caps[i]? = some c → ca[i]? = some v → Rep E w c v) :
      Rep E w (.clo f first caps) (.func (.func f) fa ca)

/-- Which blocks a term names. -/
def AV.says (n : Nat) : AV → Bool
  | .ptr b _ _ _ | .own b _ _ _ => b == n
  | .agg cs | .tup cs => saysL n cs
  | .clo _ a b => saysL n a || saysL n b
  | .any | .nil | .d _ | .rop _ => false
where saysL (n : Nat) : List AV → Bool
  | [] => false
  | c :: r => c.says n || saysL n r

theorem AV.says_of_mem {n : Nat} {c : AV} : ∀ {l : List AV}, AV.says.saysL n l = false → c ∈ l → c.says n = false
  | [], _, h => by cases h
  | x :: r, h, hm => by
    simp only [AV.says.saysL, Bool.or_eq_false_iff] at h
    rcases List.mem_cons.1 hm with rfl | hm
    · exact h.1
    · exact AV.says_of_mem h.2 hm

/-- Another world in which the same is held. -/
structure Keeps (E E' : Env) (w w' : World) (new : Nat → Prop) : Prop where
  S : ∀ b, E.S b → E'.S b
  cell : ∀ b, E.S b → ∀ o, w'.cell? ⟨b, o, none⟩ = w.cell? ⟨b, o, none⟩
  blk : ∀ n, ¬ new n → E'.blk n = E.blk n
  shape : ∀ b, b < w.heap.size → w'.shape? b = w.shape? b

theorem shape_lt {w : World} {b : Nat} {x : TypeId × Nat} (h : w.shape? b = some x) : b < w.heap.size := by
  unfold World.shape? at h
  rcases Nat.lt_or_ge b w.heap.size with h' | h'
  · exact h'
  · simp [Array.getElem?_eq_none h'] at h

theorem Rep.mono {E E' : Env} {w w' : World} {new : Nat → Prop} (hk : Keeps E E' w w' new) {c : AV} {v : Value} (h : Rep E w c v)
    (hs : ∀ n, new n → c.says n = false) : Rep E' w' c v := by
  induction h with
  | any v => exact .any v
  | nil => exact .nil
  | d h => exact .d (h.mono hk.S hk.cell)
  | ptr b i k o g hg =>
    have : ¬ new b := fun hb => by have := hs b hb; simp [AV.says] at this
    exact .ptr b i k o g ((hk.blk b this).trans hg)
  | rop row b o g hS hc hr => exact .rop row b o g (hk.S b hS) (fun j hj => (hk.cell b hS _).trans (hc j hj)) (fun j d hd => (hr j d hd).mono hk.S hk.cell)
  | own b i k n g cap sz ty hg hn hsz hb =>
    have : ¬ new b := fun hb => by have := hs b hb; simp [AV.says] at this
    exact .own b i k n g cap sz ty ((hk.blk b this).trans hg) hn (by rw [hk.shape _ (shape_lt hsz)]; exact hsz) hb
  | ownNil b i k hg =>
    have : ¬ new b := fun hb => by have := hs b hb; simp [AV.says] at this
    exact .ownNil b i k ((hk.blk b this).trans hg)
  | agg cs arr hl h1 h ih =>
    exact .agg cs arr hl h1 fun i c v hc hv => ih i c v hc hv fun n hn => by
      have := hs n hn
      simp only [AV.says] at this
      exact AV.says_of_mem this (List.mem_of_getElem? hc)
  | tup cs arr hl h ih =>
    exact .tup cs arr hl fun i c v hc hv => ih i c v hc hv fun n hn => by
      have := hs n hn
      simp only [AV.says] at this
      exact AV.says_of_mem this (List.mem_of_getElem? hc)
  | clo f a b fa ca hfl hcl hf hc ihf ihc =>
    refine .clo f a b fa ca hfl hcl (fun i c v h1 h2 => ihf i c v h1 h2 fun n hn => ?_) (fun i c v h1 h2 => ihc i c v h1 h2 fun n hn => ?_)
    · have := hs n hn
      simp only [AV.says, Bool.or_eq_false_iff] at this
      exact AV.says_of_mem this.1 (List.mem_of_getElem? h1)
    · have := hs n hn
      simp only [AV.says, Bool.or_eq_false_iff] at this
      exact AV.says_of_mem this.2 (List.mem_of_getElem? h1)

/-- What a known block holds: a variable's cells; the rows of a slice's array (behind them there may be more); n cells by a function, that name no other blocks than nm; a map from numbers to true. -/
inductive Blk where
  | var (cs : List AV)
  | row (k : Nat) (rows : List (List D))
  | cells (n : Nat) (f : Nat → AV) (nm : List Nat) (hs : ∀ i m, (f i).says m = true → m ∈ nm)
  | mp (g : Nat) (ks : List Int)

def Blk.says (n : Nat) : Blk → Bool
  | .var cs => AV.says.saysL n cs
  | .row _ _ => false
  | .cells _ _ nm _ => nm.contains n
  | .mp _ _ => false

inductive BlkRep (E : Env) (w : World) (b : Nat) : Blk → Prop where
  | var (cs : List AV) (arr : Array Value) (ty : TypeId) (hh : w.heap[b]? = some (.cells arr ty (0, 0))) (hl : arr.size = cs.length)
      (h : ∀ (i : Nat) (c : AV) (v : Value), cs[i]? = some c → arr[i]? = some v → Rep E w c v ∧ v.oneCell' = true) : BlkRep E w b (.var cs)
  | row (k : Nat) (rows : List (List D)) (arr : Array Value) (ty : TypeId) (hh : w.heap[b]? = some (.cells arr ty (0, 0)))
      (hk : ∀ (i : Nat) (row : List D), rows[i]? = some row → row.length = k) (hl : rows.length * k ≤ arr.size)
      (h : ∀ (i j : Nat) (row : List D) (d : D) (v : Value), rows[i]? = some row → row[j]? = some d → arr[i * k + j]? = some v → RepD E.S w d v) : BlkRep E w b (.row k rows)
  | cells (n : Nat) (f : Nat → AV) (nm : List Nat) (hs : ∀ i m, (f i).says m = true → m ∈ nm) (arr : Array Value) (ty : TypeId) (hh : w.heap[b]? = some (.cells arr ty (0, 0))) (hl : arr.size = n)
      (h : ∀ (i : Nat) (v : Value), i < n → arr[i]? = some v → Rep E w (f i) v ∧ v.oneCell' = true) : BlkRep E w b (.cells n f nm hs)
  | mp (ks : List Int) (es : Array MapEntry) (clock : Nat) (hh : w.heap[b]? = some (.map es clock)) (hk : es.toList.map (fun e => (e.key, e.val)) = ks.map fun k => (Value.int .i64 k, Value.bool true)) : BlkRep E w b (.mp b ks)

theorem BlkRep.lt {E : Env} {w : World} {b : Nat} {B : Blk} (h : BlkRep E w b B) : b < w.heap.size := by
  cases h with
  | var cs arr ty hh => exact (Array.getElem?_eq_some_iff.1 hh).1
  | row k rows arr ty hh => exact (Array.getElem?_eq_some_iff.1 hh).1
  | cells _ _ _ _ _ _ hh => exact (Array.getElem?_eq_some_iff.1 hh).1
  | mp _ _ _ hh => exact (Array.getElem?_eq_some_iff.1 hh).1

theorem BlkRep.mono {E E' : Env} {w w' : World} {new : Nat → Prop} (hk : Keeps E E' w w' new) {b : Nat} {B : Blk} (h : BlkRep E w b B)
    (hb : w'.heap[b]? = w.heap[b]?) (hs : ∀ n, new n → B.says n = false) : BlkRep E' w' b B := by
  cases h with
  | var cs arr ty hh hl h =>
    exact .var cs arr ty (hb.trans hh) hl fun i c v h1 h2 => ⟨((h i c v h1 h2).1).mono hk fun n hn => AV.says_of_mem (hs n hn) (List.mem_of_getElem? h1), (h i c v h1 h2).2⟩
  | row k rows arr ty hh hkk hl h => exact .row k rows arr ty (hb.trans hh) hkk hl fun i j row d v h1 h2 h3 => (h i j row d v h1 h2 h3).mono hk.S hk.cell
  | cells n f nm hss arr ty hh hl h =>
    refine .cells n f nm hss arr ty (hb.trans hh) hl fun i v h1 h2 => ⟨((h i v h1 h2).1).mono hk fun m hm => ?_, (h i v h1 h2).2⟩
    cases hc : (f i).says m with
    | false => rfl
    | true =>
      have h3 := hs m hm
      simp only [Blk.says, List.contains_eq_mem, decide_eq_false_iff_not] at h3
      exact absurd (hss i m hc) h3
  | mp ks es clock hh hkk => exact .mp ks es clock (hb.trans hh) hkk

/-- The known blocks, by names. -/
abbrev Bk := Nat → Option Blk

structure Blks (E : Env) (w : World) (bk : Bk) : Prop where
  rep : ∀ n B g, bk n = some B → E.blk n = some g → BlkRep E w g B
  unb : ∀ n B, bk n = some B → E.blk n = none → ∃ k, B = .row k []
  inj : ∀ n m g, bk n ≠ none → bk m ≠ none → E.blk n = some g → E.blk m = some g → n = m
  apart : ∀ n g, bk n ≠ none → E.blk n = some g → ¬ E.S g
  bound : ∀ b, E.S b → b < w.heap.size

/-- One world grows out of another; only the blocks in X are turned. -/
structure Ext (X : Nat → Prop) (w w' : World) : Prop where
  size : w.heap.size ≤ w'.heap.size
  block : ∀ b, b < w.heap.size → ¬ X b → w'.heap[b]? = w.heap[b]?
  shape : ∀ b, b < w.heap.size → w'.shape? b = w.shape? b
  os : w'.os = w.os
  tape : w'.tape = w.tape
  output : w'.output = w.output

theorem Ext.refl (X : Nat → Prop) (w : World) : Ext X w w := ⟨Nat.le_refl _, fun _ _ _ => rfl, fun _ _ => rfl, rfl, rfl, rfl⟩

theorem Ext.trans {X Y : Nat → Prop} {w w1 w2 : World} (h : Ext X w w1) (h' : Ext Y w1 w2) (hY : ∀ b, b < w.heap.size → Y b → X b) : Ext X w w2 :=
  ⟨Nat.le_trans h.size h'.size, fun b hb hx => (h'.block b (Nat.lt_of_lt_of_le hb h.size) fun hy => hx (hY b hb hy)).trans (h.block b hb hx),
    fun b hb => (h'.shape b (Nat.lt_of_lt_of_le hb h.size)).trans (h.shape b hb), h'.os.trans h.os, h'.tape.trans h.tape, h'.output.trans h.output⟩

theorem Ext.cell {X : Nat → Prop} {w w' : World} (h : Ext X w w') {b : Nat} (hb : b < w.heap.size) (hx : ¬ X b) (o : Nat) : w'.cell? ⟨b, o, none⟩ = w.cell? ⟨b, o, none⟩ := by
  unfold World.cell?; rw [h.block b hb hx]

theorem Ext.below {w w' : World} (h : Ext (fun _ => False) w w') : Below w.heap.size w w' := ⟨h.os, h.tape, h.output, h.size, fun b hb => h.block b hb id⟩

/-- A step's effect on what is known: bk becomes bk'; the blocks named in 'wr' are turned; the names in 'new' are new. -/
structure Grow (E E' : Env) (w w' : World) (bk : Bk) (new : Nat → Prop) : Prop where
  S : ∀ b, E.S b → E'.S b
  back : ∀ b, E'.S b → E.S b ∨ (∃ n, bk n ≠ none ∧ E.blk n = some b) ∨ w.heap.size ≤ b
  blk : ∀ n, ¬ new n → E'.blk n = E.blk n
  ext : Ext (fun b => ∃ n, bk n ≠ none ∧ E.blk n = some b) w w'

theorem Grow.keeps {E E' : Env} {w w' : World} {bk : Bk} {new : Nat → Prop} (h : Grow E E' w w' bk new) (hb : Blks E w bk) : Keeps E E' w w' new :=
  ⟨h.S, fun b hS o => h.ext.cell (hb.bound b hS) (fun ⟨n, hn, e⟩ => hb.apart n b hn e hS) o, h.blk, h.ext.shape⟩

end Go.Proofs.Ytencghlmckbmlaa
