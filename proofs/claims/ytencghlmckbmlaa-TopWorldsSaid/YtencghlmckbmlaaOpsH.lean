/- A slice literal that is written later; a slice against nil; calls, append, make, parts of slices, in the forms in which they are taken. -/
import Derived.Test.YtencghlmckbmlaaOpsG
import Derived.Test.YtencghlmckbmlaaDraw
set_option linter.unusedVariables false
set_option linter.unusedSimpArgs false
set_option maxRecDepth 100000
namespace Go.Proofs.Ytencghlmckbmlaa
open Go Go.RowKit

section
variable {P : Program} {ρ : Operand → AV} {bk0 : Bk} {dst : Option Tmp} {ty : TypeId} {pos : String} {after : Array Edge} {gd : Option (Nat × Bool)}

/-- The empty slice literal, under a name. -/
theorem step_lit0 {t e k by_ n' : Nat} (ht : appB P t = some (e, k, by_)) :
    Step P ⟨dst, .buildSlice t 0 #[], ty, pos, after, gd⟩ ρ bk0 (.own n' 0 k 0) [(n', some (.row k []))] [n'] := by
  intro bk hbk hnw E w vals hvals hB
  obtain ⟨hn, hs⟩ := hnw n' (by simp)
  obtain ⟨i, z, hu, hi, hzv, hsz, hby, hzs⟩ := appB_spec ht
  have hrun : (Instr.buildSlice t 0 ((#[] : Array (Nat × Operand)).map fun p => (p.1, vals p.2))).run P w = .ok (.slice (some ⟨w.heap.size, 0, none⟩) 0 0) (w.alloc (.cells #[] e)) := by
    simp [Instr.buildSlice, run_underlying hu, run_sizeOf (show sizeB P e = some k by simp [sizeB, hi, hsz]), newRow, range_map_zero, Instr.fill]
  have hb := blks_new hB (pushed_alloc w (.cells #[] e)) n' hn hs (.row k []) (fun hkeep => .row k _ #[] e (pushed_alloc w _).get (fun j row hj => by simp at hj) (by simp) (fun j p row d v hj => by simp at hj))
  simp only [execOp]
  refine benign_val hrun ⟨_, hb.1, ?_, hb.2.1, hb.2.2⟩
  have := Rep.own (E := ⟨fun m => if m = n' then some w.heap.size else E.blk m, E.S⟩) (w := w.alloc (.cells #[] e)) n' 0 k 0 w.heap.size 0 0 e (by simp) (by omega)
    (by unfold World.shape?; rw [(pushed_alloc w _).get]; rfl) (by simp)
  simpa using this

end

section
variable {P : Program} {c : Ctx} {Q : Exit → St → Prop} {tl : List (Nat × AV)} {bl : List (Nat × Option Blk)} {ops : Array Oper} {rest : List Oper}
  {d : Nat} {op : Op} {ty : TypeId} {pos : String} {after : Array Edge}

/-- An operation without effect whose value is one of several. -/
theorem seqV (V : AV → Prop) (hs : ∀ (E : Env) (w : World) (vals : Operand → Value), (∀ x ∈ op.operands.toList, Rep E w (evalA ⟨tl, bl⟩ x) (vals x)) →
      ∃ v val, V v ∧ (execOp vals ⟨some d, op, ty, pos, after, none⟩).run P w = .ok (.value val) w ∧ Rep E w v val) (hd : Nat.blt d c.N = true)
    (h : ∀ v, V v → Ops P c ops rest Q ⟨(d, v) :: tl, bl⟩) : Ops P c ops (⟨some d, op, ty, pos, after, none⟩ :: rest) Q ⟨tl, bl⟩ := by
  intro E a w hr
  obtain ⟨v, val, hV, hrun, hrep⟩ := hs E w a.eval (fun x _ => RelF.eval (s := ⟨tl, bl⟩) hr x)
  refine wpList_plain rfl fun K hK => Benign.wp ?_
  unfold Benign
  simp only [hrun]
  refine hK _ _ (h v hV E _ w ?_)
  have hgr : Grow E E w w (lookB bl) (fun _ => False) := ⟨fun _ h => h, fun _ h => .inl h, fun _ _ => rfl, Ext.refl _ _⟩
  refine RelF.put hr hgr hr.bks (fun n g hn hg => .inl ⟨n, hn, hg⟩) (fun n hn _ => hn.elim) (some d) (dstOk_lt (o := some d) hd) v val hrep _ fun t => ?_
  rcases put_look (tl := tl) (some d) v t with ⟨h1, h2⟩ | ⟨h1, h2⟩
  · exact .inl ⟨h1, h2⟩
  · exact .inr (.inr ⟨h1, h2, fun n hn => hn.elim⟩)

theorem run_eqnil {t e : Nat} (ht : P.underlying t = some (.slice e)) (w : World) (a : Option Addr) (n m : Nat) : (Op.equal t (.slice a n m) (.slice none 0 0)).run P w = .ok a.isNone w := by
  have e : ∀ d, (Op.equalIn (d + 1) t (.slice a n m) (.slice none 0 0)).run P w = .ok a.isNone w := by
    intro d; cases a <;> simp [Op.equalIn, run_underlying ht]
  exact e 9999

/-- A slice against nil: where it has elements, it is not nil. -/
theorem seqEqNil {x : Operand} {t t' e k : Nat} {xs : List (List D)} (hx : evalO ⟨tl, bl⟩ x = some (.d (.s xs))) (ht : P.underlying t = some (.slice e)) (hd : Nat.blt d c.N = true)
    (h : ∀ b : Bool, (b = true → xs = []) → Ops P c ops rest Q ⟨(d, .d (.v (.bool b))) :: tl, bl⟩) :
    Ops P c ops (⟨some d, .binOp .eql t x (.const (.slice none 0 0)) t', ty, pos, after, none⟩ :: rest) Q ⟨tl, bl⟩ := by
  refine seqV (fun v => ∃ b : Bool, v = .d (.v (.bool b)) ∧ (b = true → xs = [])) (fun E w vals hv => ?_) hd (fun v ⟨b, hv, hb⟩ => hv ▸ h b hb)
  have h1 := hv x (by simp [Op.operands]); rw [ev hx] at h1
  have h2 := hv (.const (.slice none 0 0)) (by simp [Op.operands])
  generalize hu : vals x = u at h1
  generalize hu2 : vals (.const (.slice none 0 0)) = u2 at h2
  have h2' : u2 = .slice none 0 0 := by
    have : evalA ⟨tl, bl⟩ (.const (.slice none 0 0)) = .nil := rfl
    rw [this] at h2; cases h2; rfl
  subst h2'
  have hex : ∀ a n m, u = .slice a n m → (execOp vals ⟨some d, .binOp .eql t x (.const (.slice none 0 0)) t', ty, pos, after, none⟩).run P w = .ok (.value (.bool a.isNone)) w := fun a n m hu' => by
    subst hu'
    simp only [execOp, hu, hu2, Sem.run_bind, eqGuard_run .eql t x _ (.slice a n m) (.slice none 0 0) ⟨by simp, by simp⟩, Result.andThen_ok, binOp, run_eqnil ht, Sem.run_pure]
  cases h1 with
  | d h1 =>
    cases h1 with
    | nil a m => exact ⟨_, _, ⟨a.isNone, rfl, fun _ => rfl⟩, hex _ _ _ rfl, .d (.v _ rfl)⟩
    | s _ b o k cap g hS hcap => exact ⟨_, _, ⟨false, rfl, fun h => by cases h⟩, hex _ _ _ rfl, .d (.v _ rfl)⟩

end

/-! ### forms -/

def InB : List (Nat × Option Blk) → Bk → Prop
  | [], _ => True
  | (n, some B) :: r, bk => bk n = some B ∧ InB r bk
  | (_, none) :: _, _ => False

theorem InB.look : ∀ {bl : List (Nat × Option Blk)} {bk : Bk}, InB bl bk → ∀ n B, lookB bl n = some B → bk n = some B
  | [], _, _, n, B, h => by simp [lookB] at h
  | (m, some B') :: r, bk, h, n, B, hn => by
    have e : lookB ((m, some B') :: r) n = bif Nat.beq m n then some B' else lookB r n := rfl
    rw [e] at hn
    cases hb : Nat.beq m n with
    | true => have := Nat.eq_of_beq_eq_true hb; subst this; rw [hb, cond_true] at hn; injection hn with hn; subst hn; exact h.1
    | false => rw [hb, cond_false] at hn; exact InB.look h.2 n B hn
  | (_, none) :: _, _, h, _, _, _ => h.elim

theorem callB_of {P : Program} {f : Nat} {fn : Func} (h : P.funcs[f]? = some fn) (hb : (!(fn.name == "runtime.NumGoroutine") && fn.body.isSome) = true) : callB P f = true := by
  unfold callB; rw [h]; exact hb

section
variable {P : Program} {s : St} {bk0 : Bk} {dst : Option Tmp} {ty : TypeId} {pos : String} {after : Array Edge} {gd : Option (Nat × Bool)}

theorem callT {f : Nat} {x : Operand} {xs : Array Operand} {ts : Array TypeId} {first caps ys args : List AV} {bl ch : List (Nat × Option Blk)} {r : AV} {nw : List Nat}
    (hx : evalO s x = some (.clo f first caps)) (hm : mapO (evalO s) xs.toList = some ys) (ha : first ++ ys ++ caps = args) (hc : callB P f = true) (hs : Spec P f args bl r ch nw) (hb : InB bl bk0) :
    Step P ⟨dst, .call ⟨.value x, xs, ts⟩, ty, pos, after, gd⟩ (evalA s) bk0 r ch nw :=
  step_call (ev hx) (by rw [mapO_spec (g := evalA s) (fun _ _ h => ev h) _ _ hm]; exact ha) hc hs hb.look

def boundO (s : St) (o : Option Operand) (d : Int) : Option Int :=
  match o with
  | none => some d
  | some x => match evalO s x with
    | some (.d (.v (.int _ z))) => some z
    | _ => none

theorem boundO_spec {o : Option Operand} {d z : Int} (h : boundO s o d = some z) : boundA (evalA s) o d = some z := by
  cases o with
  | none => exact h
  | some x =>
    simp only [boundO] at h
    split at h
    · rename_i k z' he
      simp only [boundA]; rw [ev he]; exact h
    · cases h

theorem fillA_mono {pl pl' : Nat → Option (Nat × Nat)} (hp : ∀ i p, pl i = some p → pl' i = some p) : ∀ (ps : List (Nat × AV)) (cs l : List AV), fillA pl cs ps = some l → fillA pl' cs ps = some l
  | [], cs, l, h => by simpa [fillA] using h
  | (i, v) :: ps, cs, l, h => by
    simp only [fillA] at h ⊢
    split at h
    · rename_i off size vs h1 h2
      rw [hp i _ h1, h2]
      simp only
      split at h
      · cases h
      · rename_i h3
        rw [if_neg h3]; exact fillA_mono hp ps _ l h
    · cases h
end

section
variable {s : St} {bk0 : Bk} {dst : Option Tmp} {ty : TypeId} {pos : String} {after : Array Edge} {gd : Option (Nat × Bool)}

theorem appendT {t t2 e k by_ b b' n k2 m : Nat} {x y : Operand} {rows xs rows' : List (List D)} (hs : evalO s x = some (.own b 0 k n)) (hx : evalO s y = some (.d (.s xs))) (hb : bk0 b = some (.row k rows))
    (ht : asc tabX t = some (e, k, by_)) (ht2 : asc tabE t2 = some (e, k2)) (hne : Nat.beq b' b = false) (hn : rows.length = n) (hk : ∀ row ∈ xs, row.length = k)
    (hm : n + xs.length = m) (hr : rows ++ xs = rows') (hbytes : (2 * m + 512) * by_ ≤ 281474976710656) (h63 : m ≤ 4611686018427387904) :
    Step Try.prog ⟨dst, .call ⟨.builtin .append, #[x, y], #[t, t2]⟩, ty, pos, after, gd⟩ (evalA s) bk0 (.own b' 0 k m) [(b', some (.row k rows')), (b, none)] [b'] := by
  subst hm; subst hr
  exact step_append (tr := ty) (ev hs) (ev hx) hb hn (appT ht) (sliceT ht2) hk (fun h => by subst h; simp at hne) hbytes h63

theorem sliceRT {t e k : Nat} {x : Operand} {lo hi : Option Operand} {xs ys : List (List D)} {l h : Int} {n : Nat} (hx : evalO s x = some (.d (.s xs))) (ht : asc tabE t = some (e, k)) (hn : xs.length = n) (hl : boundO s lo 0 = some l) (hh : boundO s hi n = some h)
    (hk : ∀ row ∈ xs, row.length = k) (h0 : 0 ≤ l) (h1 : l ≤ h) (h2 : h ≤ n) (hy : (xs.take h.toNat).drop l.toNat = ys) :
    Step Try.prog ⟨dst, .slice t x lo hi none, ty, pos, after, gd⟩ (evalA s) bk0 (.d (.s ys)) [] [] := by
  subst hy; subst hn
  exact step_slice_ro (ev hx) (elemT ht) hk (boundO_spec hl) (boundO_spec hh) h0 h1 h2

theorem sliceWT {t e k b i n m p : Nat} {x : Operand} {lo hi : Option Operand} {l h : Int} (hx : evalO s x = some (.own b i k n)) (ht : asc tabE t = some (e, k)) (hl : boundO s lo 0 = some l) (hh : boundO s hi n = some h)
    (h0 : 0 ≤ l) (h1 : l < h) (h2 : h ≤ n) (hm : i + l.toNat = m) (hp : h.toNat - l.toNat = p) :
    Step Try.prog ⟨dst, .slice t x lo hi none, ty, pos, after, gd⟩ (evalA s) bk0 (.own b m k p) [] [] := by
  subst hm; subst hp
  exact step_slice_own (ev hx) (elemT ht) (boundO_spec hl) (boundO_spec hh) h0 h1 h2

theorem makeT {t e k by_ n' m : Nat} {x y : Operand} {kk kk' : IntKind} {l c : Int} {zc : List AV} {zr : List D} (hx : evalO s x = some (.d (.v (.int kk l)))) (hy : evalO s y = some (.d (.v (.int kk' c))))
    (ht : asc tabX t = some (e, k, by_)) (hz : asc tabZ e = some zc) (hzr : toDs zc = some zr) (h0 : 0 ≤ l) (hlc : l ≤ c) (hc : c * by_ ≤ 281474976710656) (hc2 : c ≤ 9223372036854775807) (hm : l.toNat = m) :
    Step Try.prog ⟨dst, .makeSlice t x y, ty, pos, after, gd⟩ (evalA s) bk0 (.own n' 0 k m) [(n', some (.row k (List.replicate m zr)))] [n'] := by
  subst hm
  exact step_makeSlice (ev hx) (ev hy) (appT ht) (zeroT hz) (zeroOkT hz) hzr h0 hlc hc hc2

theorem lit0T {t e k by_ n' : Nat} (ht : asc tabX t = some (e, k, by_)) :
    Step Try.prog ⟨dst, .buildSlice t 0 #[], ty, pos, after, gd⟩ (evalA s) bk0 (.own n' 0 k 0) [(n', some (.row k []))] [n'] := step_lit0 (appT ht)

def litPl (k n : Nat) : List (Nat × Nat) := (List.range n).map fun i => (i * k, k)

theorem litT {t e k by_ n : Nat} {parts : Array (Nat × Operand)} {ps : List (Nat × AV)} {zc cs' : List AV} {ds : List D} {rows : List (List D)} (ht : asc tabX t = some (e, k, by_)) (hz : asc tabZ e = some zc)
    (hk0 : Nat.blt 0 k = true) (hn0 : Nat.ble (n * k) 4096 = true) (hps : mapO (fun p => match evalO s p.2 with | some v => some (p.1, v) | none => none) parts.toList = some ps)
    (hf : fillO (litPl k n) ((List.range (n * k)).map fun p => (zc[p % k]?).getD .any) ps = some cs') (hds : toDs cs' = some ds) (hrows : chunkO k n ds = some rows) :
    Step Try.prog ⟨dst, .buildSlice t n parts, ty, pos, after, gd⟩ (evalA s) bk0 (.d (.s rows)) [] [] :=
  step_lit (mapO_spec (g := fun p => (p.1, evalA s p.2)) (fun a b h => by
    split at h
    · rename_i v hv; injection h with h; rw [← h, ev hv]
    · cases h) _ _ hps) (appT ht) (zeroT hz) (zeroOkT hz) (by simpa using hk0) (Nat.le_of_ble_eq_true hn0) (fillA_mono (fun i p h => by
    unfold litPl at h
    rw [List.getElem?_map] at h
    cases hr : (List.range n)[i]? with
    | none => rw [hr] at h; cases h
    | some j =>
      rw [hr] at h
      have := List.getElem?_eq_some_iff.1 hr
      obtain ⟨h1, h2⟩ := this
      simp at h2; subst h2
      simpa using h) _ _ _ (fillO_spec _ _ _ hf)) hds hrows

theorem eqNilYT {t t' e k : Nat} {x : Operand} (hx : evalO s x = some .nil) (ht : asc tabE t = some (e, k)) :
    Step Try.prog ⟨dst, .binOp .eql t x (.const (.slice none 0 0)) t', ty, pos, after, gd⟩ (evalA s) bk0 (.d (.v (.bool true))) [] [] :=
  step_pure fun E w vals bk hv hB hb => by
    have h1 := hv x (by simp [Op.operands]); rw [ev hx] at h1
    have h2 := hv (.const (.slice none 0 0)) (by simp [Op.operands])
    rw [show evalA s (.const (.slice none 0 0)) = .nil from rfl] at h2
    generalize hu : vals x = u at h1
    generalize hu2 : vals (.const (.slice none 0 0)) = u2 at h2
    cases h1
    cases h2
    refine ⟨_, ?_, .d (.v _ rfl)⟩
    simp only [execOp, hu, hu2, Sem.run_bind, eqGuard_run .eql t x _ (.slice none 0 0) (.slice none 0 0) ⟨by simp, by simp⟩, Result.andThen_ok, binOp, run_eqnil (sliceT ht), Sem.run_pure, Option.isNone]

end
end Go.Proofs.Ytencghlmckbmlaa

namespace Go.Proofs.Ytencghlmckbmlaa
open Go Go.RowKit

section
variable {P : Program} {c : Ctx} {Q : Exit → St → Prop} {s : St}

theorem awp_if {x y : Code} {o : Operand} {b : Bool} (hc : evalO s o = some (.d (.v (.bool b)))) (ht : b = true → AWp P c x Q s) (hf : b = false → AWp P c y Q s) : AWp P c (.cond o x y) Q s :=
  awp_cond (ev hc) ht hf
theorem awp_ifY {x y : Code} {o : Operand} (hc : evalO s o = some (.d (.v (.bool true)))) (h : AWp P c x Q s) : AWp P c (.cond o x y) Q s := awp_cond (ev hc) (fun _ => h) (fun h => nomatch h)
theorem awp_ifN {x y : Code} {o : Operand} (hc : evalO s o = some (.d (.v (.bool false)))) (h : AWp P c y Q s) : AWp P c (.cond o x y) Q s := awp_cond (ev hc) (fun h => nomatch h) (fun _ => h)

end

section
variable {P : Program} {c : Ctx} {ops : Array Oper} {bl0 : List (Nat × Option Blk)} {m : Nat} {Q : St → Prop} {i : Nat} {nm : List (Nat × Nat)} {tl : List (Nat × AV)} {bl : List (Nat × Option Blk)} {d : Nat} {op : Op} {ty : TypeId} {pos : String}
  {after : Array Edge} {gd : Option (Nat × Bool)} {rest : List Oper}

/-- In a drawing region: an operation without effect on known blocks. -/
theorem bodyP {v : AV} (hs : Step P ⟨some d, op, ty, pos, after, gd⟩ (evalA ⟨tl, bl⟩) (lookB bl0) v [] []) (hg : guardV ops tl gd = some true) (hd : Nat.blt d c.N = true) (hme : mentOk ops i v [] nm = true)
    (h : Body P c ops bl0 m Q (i + 1) nm ⟨(d, v) :: tl, bl⟩ rest) : Body P c ops bl0 m Q i nm ⟨tl, bl⟩ (⟨some d, op, ty, pos, after, gd⟩ :: rest) :=
  .step hs hg hd rfl rfl hme h

theorem body1 {v : AV} {n : Nat} {B : Blk} (hs : Step P ⟨some d, op, ty, pos, after, gd⟩ (evalA ⟨tl, bl⟩) (lookB bl0) v [(n, some B)] [n]) (hg : guardV ops tl gd = some true) (hd : Nat.blt d c.N = true)
    (hf : freshes c.gl [n] ⟨tl, bl⟩ = true) (hme : mentOk ops i v [(n, some B)] nm = true)
    (h : Body P c ops bl0 m Q (i + 1) ((n, i) :: nm) ⟨(d, v) :: tl, (n, some B) :: bl⟩ rest) : Body P c ops bl0 m Q i nm ⟨tl, bl⟩ (⟨some d, op, ty, pos, after, gd⟩ :: rest) :=
  .step hs hg hd hf (by simp [chOk, findB]) hme h

end

section
variable {s : St} {bk0 : Bk} {dst : Option Tmp} {ty : TypeId} {pos : String} {after : Array Edge} {gd : Option (Nat × Bool)}

theorem appendNT {t t2 e k by_ b' k2 m : Nat} {x y : Operand} {xs : List (List D)} (hs : evalO s x = some .nil) (hx : evalO s y = some (.d (.s xs)))
    (ht : asc tabX t = some (e, k, by_)) (ht2 : asc tabE t2 = some (e, k2)) (hk : ∀ row ∈ xs, row.length = k)
    (hm : xs.length = m) (hbytes : (2 * m + 512) * by_ ≤ 281474976710656) (h63 : m ≤ 4611686018427387904) :
    Step Try.prog ⟨dst, .call ⟨.builtin .append, #[x, y], #[t, t2]⟩, ty, pos, after, gd⟩ (evalA s) bk0 (.own b' 0 k m) [(b', some (.row k xs))] [b'] := by
  subst hm
  exact step_append_nil (ev hs) (ev hx) (appT ht) (sliceT ht2) hk hbytes h63

end
end Go.Proofs.Ytencghlmckbmlaa
