/- From the statements' readings to data and back: a slice whose elements are flat (numbers, bools) is data; behind a call that only adds blocks each argument reads as it did. -/
import Derived.Test.YtencghlmckbmlaaSpec
import Derived.ProofKit
import Derived.Deep.Slices
set_option linter.unusedVariables false
set_option linter.unusedSimpArgs false
namespace Go.Proofs.Ytencghlmckbmlaa
open Go Go.RowKit Go.ChangeShapes Go.WideShapes Go.Deep

/-- What one cell may be. -/
inductive CK where
  | int (k : IntKind)
  | bool

def CK.ok : CK → Value → Prop
  | .int k, v => ∃ n, v = .int k n ∧ k.min ≤ n ∧ n ≤ k.max
  | .bool, v => ∃ b, v = .bool b

theorem CK.ok_one {c : CK} {v : Value} (h : c.ok v) : v.oneCell' = true := by
  cases c with
  | int k => obtain ⟨n, rfl, _⟩ := h; rfl
  | bool => obtain ⟨b, rfl⟩ := h; rfl

def FlatRow (ks : List CK) (row : List D) : Prop := row.length = ks.length ∧ ∀ (i : Nat) (c : CK), ks[i]? = some c → ∃ v, row[i]? = some (.v v) ∧ c.ok v

section
variable {H : Type} {enc : TypeId × Value → H} {P : Program} {w : World} {base : Nat} {spare : Nat → Bool} {held : Bool}

/-- Cells that read as a value of type e are what ks says. -/
def FlatT (P : Program) (e : TypeId) (ks : List CK) : Prop :=
  P.cellsOf e = ks.length ∧ ∀ (H : Type) (enc : TypeId × Value → H) (w : World) (base : Nat) (spare : Nat → Bool) (held : Bool) (fuel : Nat) (cs : List Value) (x : DataW H × List MemPlace),
    DataW.trod enc P w base spare held fuel e cs = some x → cs.length = ks.length ∧ ∀ (i : Nat) (c : CK), ks[i]? = some c → ∃ v, cs[i]? = some v ∧ c.ok v

theorem wf_ok {k : IntKind} {n : Int} (h : (Lit.int k n).wf = true) : k.min ≤ n ∧ n ≤ k.max := by
  simpa only [Lit.wf, Bool.and_eq_true, decide_eq_true_eq] using h

theorem flat_int {e : TypeId} {k : IntKind} (ht : P.underlying e = some (.int k)) (hc : P.cellsOf e = 1) : FlatT P e [.int k] := by
  refine ⟨hc, fun H enc w base spare held fuel cs x h => ?_⟩
  obtain ⟨n, rfl, _, hw⟩ := DataW.trod_int ht h
  refine ⟨rfl, fun i c hi => ?_⟩
  match i, hi with
  | 0, hi => cases hi; exact ⟨_, rfl, n, rfl, wf_ok hw⟩

theorem flat_bool {e : TypeId} (ht : P.underlying e = some .bool) (hc : P.cellsOf e = 1) : FlatT P e [.bool] := by
  refine ⟨hc, fun H enc w base spare held fuel cs x h => ?_⟩
  obtain ⟨b, rfl, _⟩ := DataW.trod_bool ht h
  refine ⟨rfl, fun i c hi => ?_⟩
  match i, hi with
  | 0, hi => cases hi; exact ⟨_, rfl, b, rfl⟩

theorem flat_struct {e : TypeId} {fs : Array Field} {ks : List CK} (ht : P.underlying e = some (.struct fs)) (hc : P.cellsOf e = ks.length) (hsz : fs.size = ks.length)
    (hf : ∀ (i : Nat) (f : Field) (c : CK), fs[i]? = some f → ks[i]? = some c → f.offset = i ∧ FlatT P f.type [c]) : FlatT P e ks := by
  refine ⟨hc, fun H enc w base spare held fuel cs x h => ?_⟩
  obtain ⟨xs, n, _, _, hl, hlen, hx⟩ := DataW.trod_struct ht h
  refine ⟨by rw [hl, hc], fun i c hi => ?_⟩
  have hik : i < ks.length := (List.getElem?_eq_some_iff.1 hi).1
  have hfi : fs[i]? = some fs[i] := Array.getElem?_eq_getElem (by omega)
  obtain ⟨ho, h1, h2⟩ := hf i _ c hfi hi
  have h3 := hx i _ hfi
  rw [List.getElem?_eq_getElem (by omega : i < xs.length)] at h3
  obtain ⟨h4, h5⟩ := h2 _ _ _ _ _ _ _ _ _ h3
  obtain ⟨v, hv, hok⟩ := h5 0 c rfl
  refine ⟨v, ?_, hok⟩
  rw [ho, h1] at hv
  simpa using hv

theorem cells_get {a : Addr} {n : Nat} {cs : List Value} (h : w.cells? base a n = some cs) (hl : cs.length = n) {j : Nat} {v : Value} (hv : cs[j]? = some v) : w.cell? (a.add j) = some v := by
  have hj : j < cs.length := (List.getElem?_eq_some_iff.1 hv).1
  unfold World.cells? at h
  split at h
  · have h2 : ∀ (l : List Nat) (f : Nat → Option Value) (out : List Value), l.mapM f = some out → ∀ (j : Nat) (k : Nat) (v : Value), l[j]? = some k → out[j]? = some v → f k = some v := by
      intro l f
      induction l with
      | nil => intro out _ j k v h1; simp at h1
      | cons x r ih =>
        intro out ho j k v h1 h2
        rw [List.mapM_cons] at ho
        obtain ⟨y, hy, ho⟩ := Option.bind_eq_some_iff.1 ho
        obtain ⟨ys, hys, ho⟩ := Option.bind_eq_some_iff.1 ho
        have ho : some (y :: ys) = some out := ho
        cases ho
        cases j with
        | zero => simp at h1 h2; subst h1; subst h2; exact hy
        | succ j => exact ih ys hys j k v (by simpa using h1) (by simpa using h2)
    exact h2 _ _ _ h j j v (by rw [List.getElem?_range (by omega)]) hv
  · cases h

theorem spot_none {a : Addr} {v : Value} (h : w.cell? a = some v) : a = ⟨a.block, a.off, none⟩ ∧ a.block < w.heap.size := by
  unfold World.cell? at h
  split at h
  · rename_i c _ _ hh
    refine ⟨?_, (Array.getElem?_eq_some_iff.1 hh).1⟩
    split at h
    · cases h
    · rename_i hs
      obtain ⟨b, o, s⟩ := a
      cases s with
      | none => rfl
      | some _ => exact absurd rfl hs
  · cases h

/-- A slice of flat elements is data. -/
theorem open_flat {t e : TypeId} {ks : List CK} {v : Value} {d : DataW H} {p : List MemPlace} (ht : P.underlying t = some (.slice e)) (hF : FlatT P e ks) (hk : 0 < ks.length) (hv : ∃ a len cap, v = .slice a len cap)
    (h : DataW.Trod enc P w base spare held t v d p) :
    ∃ rows : List (List D), RepD (fun b => b < w.heap.size) w (.s rows) v ∧ rows.length ≤ 9223372036854775807 ∧ ∀ row ∈ rows, FlatRow ks row := by
  obtain ⟨fuel, hf⟩ := h
  have hone : ∀ u, v.cells.toList = [u] → v = u := fun u hu => by
    obtain ⟨a0, len0, cap0, rfl⟩ := hv
    have hu' : [Value.slice a0 len0 cap0] = [u] := hu
    simpa using hu'
  rcases open_slice ht hf with ⟨hcs, hx⟩ | ⟨a, len, cap, m, n, Dd, Pl, hcs, hb, hl, hm, hmm, hx, hall⟩
  · have hv' := hone _ hcs
    subst hv'
    exact ⟨[], .nil _ _, by simp, fun row hr => by cases hr⟩
  · have hv' := hone _ hcs
    subst hv'
    rcases Nat.eq_zero_or_pos len with rfl | hpos
    · exact ⟨[], .nil _ _, by simp, fun row hr => by cases hr⟩
    have hlm : len ≤ m := by rw [hmm]; split <;> omega
    have hget : ∀ i, i < len → ∃ cs : List Value, cs.length = ks.length ∧ (∀ (j : Nat) (u : Value), cs[j]? = some u → w.cell? (a.add (i * ks.length + j)) = some u) ∧ ∀ (j : Nat) (c : CK), ks[j]? = some c → ∃ u, cs[j]? = some u ∧ c.ok u := fun i hi => by
      obtain ⟨cs, h1, h2⟩ := hall i (by omega)
      obtain ⟨h3, h4⟩ := hF.2 _ _ _ _ _ _ _ _ _ h2
      rw [hF.1] at h1
      refine ⟨cs, h3, fun j u hu => ?_, h4⟩
      have := cells_get h1 h3 hu
      rwa [add_add] at this
    obtain ⟨g, hg⟩ := choose_lt hget
    obtain ⟨u0, hu0⟩ : ∃ u, (g 0)[0]? = some u := ⟨_, List.getElem?_eq_getElem (by have := (hg 0 hpos).1; omega)⟩
    have hc0 := (hg 0 hpos).2.1 0 u0 hu0
    have ha0 : a.add (0 * ks.length + 0) = a := by simp [Addr.add]
    rw [ha0] at hc0
    obtain ⟨ha, hab⟩ := spot_none hc0
    have hadd : ∀ j, a.add j = ⟨a.block, a.off + j, none⟩ := fun j => by
      rw [ha]; unfold Addr.add; split
      · rename_i e; subst e; rfl
      · rfl
    refine ⟨(List.range len).map fun i => (g i).map D.v, ?_, ?_, ?_⟩
    · have e : len = ((List.range len).map fun i => (g i).map D.v).length := by simp
      rw [ha, e]
      have key := RepD.s (S := fun b => b < w.heap.size) (w := w) ((List.range len).map fun i => (g i).map D.v) a.block a.off ks.length cap (fun i j => ((g i)[j]?).getD undef) hab (by rw [← e]; exact hl) (fun i row hr => ?_) (fun i j hi hj => ?_) (fun i j row d' hr hd => ?_)
      · simpa using key
      · rw [List.getElem?_map] at hr
        cases hi : (List.range len)[i]? with
        | none => rw [hi] at hr; cases hr
        | some i' =>
          rw [hi] at hr; injection hr with hr; subst hr
          have hi' := List.getElem?_eq_some_iff.1 hi
          obtain ⟨h1, h2⟩ := hi'
          simp at h1 h2; subst h2
          simpa using (hg i h1).1
      · rw [← e] at hi
        have h1 := (hg i hi).1
        have h2 := (hg i hi).2.1 j _ (List.getElem?_eq_getElem (by omega))
        rw [hadd] at h2
        rw [Nat.add_assoc, h2, List.getElem?_eq_getElem (by omega)]
        rfl
      · rw [List.getElem?_map] at hr
        cases hi : (List.range len)[i]? with
        | none => rw [hi] at hr; cases hr
        | some i' =>
          rw [hi] at hr; injection hr with hr; subst hr
          obtain ⟨h1, h2⟩ := List.getElem?_eq_some_iff.1 hi
          simp at h1 h2; subst h2
          rw [List.getElem?_map] at hd
          cases hj : (g i)[j]? with
          | none => rw [hj] at hd; cases hd
          | some u =>
            rw [hj] at hd; injection hd with hd; subst hd
            have hjl : j < ks.length := by rw [← (hg i h1).1]; exact (List.getElem?_eq_some_iff.1 hj).1
            obtain ⟨u', hu', hok⟩ := (hg i h1).2.2 j _ (List.getElem?_eq_getElem hjl)
            rw [hj] at hu'; injection hu' with hu'; subst hu'
            exact .v _ (CK.ok_one hok)
    · simp only [List.length_map, List.length_range]
      have : maxLen = 9223372036854775807 := by decide
      omega
    · intro row hr
      obtain ⟨i, hi, rfl⟩ := List.mem_map.1 hr
      have hi := List.mem_range.1 hi
      refine ⟨by simpa using (hg i hi).1, fun j c hc => ?_⟩
      obtain ⟨u, hu, hok⟩ := (hg i hi).2.2 j c hc
      exact ⟨u, by simp [hu], hok⟩

/-- Rows that are each the row of something are the rows of a list. -/
theorem rows_list {α : Type} {enc : α → List D} {Good : α → Prop} : ∀ {rows : List (List D)}, (∀ row ∈ rows, ∃ x, row = enc x ∧ Good x) → ∃ xs : List α, rows = xs.map enc ∧ ∀ x ∈ xs, Good x
  | [], _ => ⟨[], rfl, fun x hx => by cases hx⟩
  | r :: rs, h => by
    obtain ⟨x, rfl, hx⟩ := h r (List.mem_cons_self ..)
    obtain ⟨xs, e, hxs⟩ := rows_list fun row hr => h row (List.mem_cons_of_mem _ hr)
    exact ⟨x :: xs, by rw [e]; rfl, fun y hy => by
      rcases List.mem_cons.1 hy with rfl | hy
      · exact hx
      · exact hxs y hy⟩

/-! ### back -/
theorem kept_below {W W' : World} (h : Below W.heap.size W W') (may : MemPlace → Prop) : W.keptBut W' may := by
  refine ⟨h.os, h.output, fun i hi => ?_⟩
  rw [h.block i hi]
  cases hh : W.heap[i]? with
  | none => rfl
  | some o => cases o <;> first | exact ⟨rfl, rfl, rfl, fun _ _ => rfl⟩ | exact .inr ⟨rfl, rfl⟩ | rfl

theorem trodAll_below (hl : laidOutB P = true) {W W' : World} (hb : Below W.heap.size W W') : ∀ {ts : List TypeId} {vs : List Value} {ds : List (DataW H)} {p : List MemPlace}, ts.all (fun t => P.readableRec t && decide (t < P.types.size)) = true →
    DataW.TrodAll enc P W 0 (fun _ => true) true ts vs ds p → (∀ x ∈ p, x.block < W.heap.size) → DataW.TrodAll enc P W' 0 (fun b => decide (b < W.heap.size)) true ts vs ds p
  | [], _, _, _, _, h, _ => by
    obtain ⟨rfl, rfl, rfl⟩ := trodAll_nil h
    exact trodAll_mk0
  | t :: ts, _, _, _, ht, h, hp => by
    obtain ⟨v, vs', d, ds', p, q, rfl, rfl, rfl, h1, h2⟩ := trodAll_cons h
    simp only [List.all_cons, Bool.and_eq_true, decide_eq_true_eq] at ht
    exact ⟨p, q, Below.trod hl ht.1.1 ht.1.2 h1 hb fun x hx => hp x (List.mem_append_left _ hx), trodAll_below hl hb ht.2 h2 fun x hx => hp x (List.mem_append_right _ hx), rfl⟩

/-- A call that only adds blocks and returns true: the row's word. -/
theorem post_true {f : Func} {s : ChangeSpec} {W W' : World} {args : Array Value} {ds gs : List (DataW H)} {before : List MemPlace} {bt : TypeId} (hl : laidOutB P = true) (hv : s.vars = [])
    (hp : f.params.toList.all (fun t => P.readableRec t && decide (t < P.types.size)) = true) (hr : f.resultTypes = #[bt]) (hbt : P.underlying bt = some .bool) (hb : Below W.heap.size W W')
    (hW : DataW.Whole enc P f.params.toList s.vars false W args.toList ds gs before) (hres : (s.fn H (ds ++ gs)).results = [.lit (.bool true)]) (hargs : (s.fn H (ds ++ gs)).args = ds) (hvars : (s.fn H (ds ++ gs)).vars = []) :
    s.post enc P f false true false false W args (.bool true) W' := by
  have hW' := hW
  obtain ⟨p, q, hA, hV, rfl, hfz, hnd⟩ := hW'
  rw [hv] at hV
  obtain ⟨rfl, rfl⟩ := trodVars_none hV
  refine ⟨ds, _, _, [], p, [], hW, ?_, ?_, ?_, kept_below hb _, fun h => by cases h⟩
  · rw [hres, hr]; exact trodAll_mk1 (shut_bool hbt true)
  · rw [hargs]; exact trodAll_below hl hb hp hA fun x hx => by simpa using hW.lt x (by simpa using hx)
  · rw [hvars, hv]; exact rfl

/-- A contract without blocks that returns true. -/
theorem calls_true {f : Nat} {args : List AV} {vals : Array Value} {W : World} (hs : Spec P f args [] (.d (.v (.bool true))) [] []) (ha : RepArgs ⟨fun _ => none, fun b => b < W.heap.size⟩ W args vals) :
    Calls P f vals W fun e W' => e = .returned (.bool true) ∧ Below W.heap.size W W' := by
  have hB : Blks ⟨fun _ => none, fun b => b < W.heap.size⟩ W (fun _ => none) := ⟨fun n B g h => (by cases h), fun n B h => (by cases h), fun n m g h => absurd rfl h, fun n g h => absurd rfl h, fun b hb => hb⟩
  have := hs (fun _ => none) (fun n B h => by cases h) (fun n hn => by cases hn) ⟨fun _ => none, fun b => b < W.heap.size⟩ W vals ha hB
  refine this.mono fun e W' ⟨val, he, E', _, hr, hg, _⟩ => ?_
  cases hr with
  | d hd => cases hd with
    | v _ _ =>
      refine ⟨he, Ext.below ?_⟩
      have hx := hg.ext
      exact ⟨hx.size, fun b hb _ => hx.block b hb (fun ⟨n, hn, _⟩ => hn rfl), hx.shape, hx.os, hx.tape, hx.output⟩
end

theorem repArgs_cons {E : Env} {w : World} {c : AV} {cs : List AV} {v : Value} {vs : List Value} (h : Rep E w c v) (hs : RepArgs E w cs vs.toArray) : RepArgs E w (c :: cs) (v :: vs).toArray := by
  refine ⟨by have := hs.len; simp at this ⊢; exact this, fun i c' v' h1 h2 => ?_⟩
  cases i with
  | zero => simp at h1 h2; subst h1; subst h2; exact h
  | succ i => exact hs.rep i c' v' (by simpa using h1) (by simpa using h2)
theorem repArgs_nil {E : Env} {w : World} : RepArgs E w [] #[] := ⟨rfl, fun i c v h => by simp at h⟩
end Go.Proofs.Ytencghlmckbmlaa
