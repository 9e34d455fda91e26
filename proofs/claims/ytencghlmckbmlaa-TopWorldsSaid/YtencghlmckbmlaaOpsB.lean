/- The laws of the operations that read, make and turn memory, over symbolic states. -/
import Derived.Test.YtencghlmckbmlaaOpsA
import Derived.Laws.CopyRow
set_option linter.unusedVariables false
set_option linter.unusedSimpArgs false
namespace Go.Proofs.Ytencghlmckbmlaa
open Go Go.RowKit

/-! ### facts on types, each by reckoning -/

def fieldB (P : Program) (t f : Nat) : Option Nat :=
  match P.underlying t with
  | some (.struct fs) => match fs[f]? with
    | some fd => match P.info? fd.type with
      | some i => if i.size = 0 then none else some fd.offset
      | none => none
    | none => none
  | _ => none

def aggB (P : Program) (t : Nat) : Option Nat :=
  match P.underlying t with
  | some (.struct _) | some (.array _ _) => (P.info? t).map (·.size)
  | _ => none

def scalB (P : Program) (t : Nat) : Bool :=
  match P.underlying t with
  | some (.struct _) | some (.array _ _) | none => false
  | some _ => true

def sizeB (P : Program) (t : Nat) : Option Nat := (P.info? t).map (·.size)

def elemB (P : Program) (t : Nat) : Option (Nat × Nat) :=
  match P.underlying t with
  | some (.slice e) => (P.info? e).map fun i => (e, i.size)
  | _ => none

def arrB (P : Program) (t : Nat) : Option (Nat × Nat) :=
  match P.underlying t with
  | some (.array n e) => (P.info? e).map fun i => (n, i.size)
  | _ => none

def zeroB (P : Program) (t : Nat) : Option (List AV) := ((P.info? t).bind (·.zero)).map fun v => v.cells.toList.map constA

section
variable {P : Program} {ρ : Operand → AV} {bk0 : Bk} {dst : Option Tmp} {ty : TypeId} {pos : String} {after : Array Edge} {gd : Option (Nat × Bool)}

theorem run_sizeOf {t n : Nat} (h : sizeB P t = some n) (w : World) : (sizeOf t).run P w = .ok n w := by
  unfold sizeB at h
  cases hi : P.info? t with
  | none => rw [hi] at h; cases h
  | some i => rw [hi] at h; simp at h; simp [sizeOf, typeInfo, hi, h]

theorem run_fieldAt {t f off g o : Nat} (h : fieldB P t f = some off) (w : World) :
    (Instr.fieldAt t (.pointer (some ⟨g, o, none⟩)) f).run P w = .ok (.pointer (some ⟨g, o + off, none⟩)) w := by
  unfold fieldB at h
  split at h
  · rename_i fs hu
    split at h
    · rename_i fd hf
      split at h
      · rename_i i hi
        split at h
        · cases h
        · rename_i hz
          simp only [Option.some.injEq] at h
          have ha : (⟨g, o, none⟩ : Addr).add fd.offset = ⟨g, o + fd.offset, none⟩ := Addr.add_mid g o _
          simp [Instr.fieldAt, run_underlying hu, hf, Instr.sureAddr, fieldPlace, sizeOf, typeInfo, hi, hz, ha, ← h]
      · cases h
    · cases h
  · cases h

theorem step_field_ptr {t f off b i k o : Nat} {x : Operand} (hx : ρ x = .ptr b i k o) (hf : fieldB P t f = some off) :
    Step P ⟨dst, .fieldAddr t x f, ty, pos, after, gd⟩ ρ bk0 (.ptr b i k (o + off)) [] [] :=
  step_pure fun E w vals bk hv hB hb => by
    have h1 := hv x (by simp [Op.operands])
    rw [hx] at h1
    generalize hval : vals x = u at h1
    cases h1 with
    | ptr _ _ _ _ g hg =>
      refine ⟨_, ?_, .ptr b i k (o + off) g hg⟩
      simp only [execOp, hval, Sem.run_bind, run_fieldAt hf w, Result.andThen_ok, Sem.run_pure, Nat.add_assoc]

theorem RepD.drop {E : Env} {w : World} {row : List D} {v : Value} (h : Rep E w (.rop row) v) (n : Nat) :
    ∃ b o, v = .pointer (some ⟨b, o, none⟩) ∧ Rep E w (.rop (row.drop n)) (.pointer (some ⟨b, o + n, none⟩)) := by
  cases h with
  | rop _ b o g hS hc hr =>
    refine ⟨b, o, rfl, .rop _ b (o + n) (fun j => g (n + j)) hS (fun j hj => ?_) (fun j d hd => ?_)⟩
    · have := hc (n + j) (by simp at hj; omega)
      rw [← this]; congr 2; omega
    · exact hr (n + j) d (by simpa using hd)

theorem step_field_rop {t f off : Nat} {x : Operand} {row : List D} (hx : ρ x = .rop row) (hf : fieldB P t f = some off) :
    Step P ⟨dst, .fieldAddr t x f, ty, pos, after, gd⟩ ρ bk0 (.rop (row.drop off)) [] [] :=
  step_pure fun E w vals bk hv hB hb => by
    have h1 := hv x (by simp [Op.operands])
    rw [hx] at h1
    obtain ⟨b, o, e, h2⟩ := RepD.drop h1 off
    refine ⟨_, ?_, h2⟩
    simp only [execOp, e, Sem.run_bind, run_fieldAt hf w, Result.andThen_ok, Sem.run_pure]

theorem run_indexAt_slice {t e k : Nat} (h : elemB P t = some (e, k)) (w : World) (g o n c : Nat) (kk : IntKind) (z : Int) (h0 : 0 ≤ z) (h1 : z < n) :
    (Instr.indexAt t (.slice (some ⟨g, o, none⟩) n c) (.int kk z)).run P w = .ok (.pointer (some ⟨g, o + z.toNat * k, none⟩)) w := by
  unfold elemB at h
  split at h
  · rename_i e' hu
    cases hi : P.info? e' with
    | none => rw [hi] at h; cases h
    | some i =>
      rw [hi] at h
      simp at h
      obtain ⟨rfl, rfl⟩ := h
      have ha : ∀ m, (⟨g, o, none⟩ : Addr).add m = ⟨g, o + m, none⟩ := fun m => Addr.add_mid g o _
      simp [Instr.indexAt, asIntOf, run_underlying hu, sizeOf, typeInfo, hi, h0, h1, ha]
  · cases h

theorem step_index_ro {t e k : Nat} {x y : Operand} {xs : List (List D)} {kk : IntKind} {z : Int} {row : List D} (hx : ρ x = .d (.s xs)) (hy : ρ y = .d (.v (.int kk z)))
    (ht : elemB P t = some (e, k)) (h0 : 0 ≤ z) (hr : xs[z.toNat]? = some row) (hk : row.length = k) :
    Step P ⟨dst, .indexAddr t x y, ty, pos, after, gd⟩ ρ bk0 (.rop row) [] [] :=
  step_pure fun E w vals bk hv hB hb => by
    have h1 := hv x (by simp [Op.operands]); rw [hx] at h1
    have h2 := hv y (by simp [Op.operands]); rw [hy] at h2
    have hlt : z.toNat < xs.length := (List.getElem?_eq_some_iff.1 hr).1
    generalize hval : vals x = u at h1
    cases h1 with
    | d h1 =>
      cases h1 with
      | nil => simp at hlt
      | s _ b o k' cap g hS hcap' hk' hc hrr =>
        have hkk : k' = k := (hk' _ _ hr).symm.trans hk
        subst hkk
        refine ⟨_, ?_, .rop row b (o + z.toNat * k') (g z.toNat) hS (fun j hj => ?_) (fun j d hd => hrr _ j row d hr hd)⟩
        · simp only [execOp, hval, rep_val h2, Sem.run_bind, run_indexAt_slice ht w b o xs.length cap kk z h0 (by omega), Result.andThen_ok, Sem.run_pure]
        · exact hc _ j hlt (by omega)

theorem step_index_own {t e k b i n : Nat} {x y : Operand} {kk : IntKind} {z : Int} (hx : ρ x = .own b i k n) (hy : ρ y = .d (.v (.int kk z)))
    (ht : elemB P t = some (e, k)) (h0 : 0 ≤ z) (h1 : z < n) :
    Step P ⟨dst, .indexAddr t x y, ty, pos, after, gd⟩ ρ bk0 (.ptr b (i + z.toNat) k 0) [] [] :=
  step_pure fun E w vals bk hv hB hb => by
    have h2 := hv x (by simp [Op.operands]); rw [hx] at h2
    have h3 := hv y (by simp [Op.operands]); rw [hy] at h3
    generalize hval : vals x = u at h2
    cases h2 with
    | own _ _ _ _ g cap sz ty' hg =>
      refine ⟨_, ?_, .ptr b (i + z.toNat) k 0 g hg⟩
      simp only [execOp, hval, rep_val h3, Sem.run_bind, run_indexAt_slice ht w g (i * k) n cap kk z h0 h1, Result.andThen_ok, Sem.run_pure, Nat.add_mul, Nat.add_zero]
    | ownNil => omega

/-! ### load -/

theorem run_loadAt_scal {t g o : Nat} {v : Value} (ht : scalB P t = true) (w : World) (hc : w.cell? ⟨g, o, none⟩ = some v) :
    (Instr.loadAt t (.pointer (some ⟨g, o, none⟩))).run P w = .ok v w := by
  have hagg : (isAgg t).run P w = .ok false w := by
    unfold scalB at ht
    cases hu : P.underlying t with
    | none => simp [hu] at ht
    | some d =>
      unfold isAgg
      rw [Sem.run_bind, run_underlying hu w]
      rw [hu] at ht
      cases d <;> first | rfl | (simp at ht; done)
  simp [Instr.loadAt, Instr.sureAddr, loadVar, hagg, load, Sem.run, hc]

theorem run_loadAt_agg {t g o n : Nat} {cs : List Value} (ht : aggB P t = some n) (w : World) (hl : cs.length = n) (hc : w.rangeAt g o cs) :
    (Instr.loadAt t (.pointer (some ⟨g, o, none⟩))).run P w = .ok (.agg cs.toArray) w := by
  unfold aggB at ht
  split at ht
  · rename_i hu; exact run_loadAt_mid w g o t cs _ hc hu rfl (by rw [hl]; exact ht)
  · rename_i hu; exact run_loadAt_mid w g o t cs _ hc hu rfl (by rw [hl]; exact ht)
  · cases ht

theorem cell_of_heap {w : World} {g : Nat} {arr : Array Value} {t : TypeId} {fr : Nat × Nat} (h : w.heap[g]? = some (.cells arr t fr)) (o : Nat) :
    w.cell? ⟨g, o, none⟩ = arr[o]? := by simp [World.cell?, h]

/-- A cell of a known variable. -/
theorem step_load_var {t b o : Nat} {x : Operand} {k : Nat} {cs : List AV} {v : AV} (hx : ρ x = .ptr b 0 k o) (hb : bk0 b = some (.var cs)) (ht : scalB P t = true)
    (hv : cs[o]? = some v) : Step P ⟨dst, .load t x, ty, pos, after, gd⟩ ρ bk0 v [] [] :=
  step_pure fun E w vals bk hvals hB hbk => by
    have h1 := hvals x (by simp [Op.operands]); rw [hx] at h1
    generalize hval : vals x = u at h1
    cases h1 with
    | ptr _ _ _ _ g hg =>
      have hr := hB.rep b _ g (hbk b _ hb) hg
      cases hr with
      | var _ arr ty' hh hl h =>
        have hlt : o < arr.size := by rw [hl]; exact (List.getElem?_eq_some_iff.1 hv).1
        refine ⟨arr[o], ?_, (h o v arr[o] hv (Array.getElem?_eq_getElem hlt)).1⟩
        simp only [execOp, hval, Nat.zero_mul, Nat.zero_add, Sem.run_bind, run_loadAt_scal ht w (v := arr[o]) (by rw [cell_of_heap hh]; exact Array.getElem?_eq_getElem hlt), Result.andThen_ok, Sem.run_pure]

/-- Many cells of a known variable: a struct or an array. -/
theorem step_load_vars {t b o n : Nat} {x : Operand} {k : Nat} {cs : List AV} (hx : ρ x = .ptr b 0 k o) (hb : bk0 b = some (.var cs)) (ht : aggB P t = some n)
    (hn : o + n ≤ cs.length) : Step P ⟨dst, .load t x, ty, pos, after, gd⟩ ρ bk0 (.agg ((cs.drop o).take n)) [] [] :=
  step_pure fun E w vals bk hvals hB hbk => by
    have h1 := hvals x (by simp [Op.operands]); rw [hx] at h1
    generalize hval : vals x = u at h1
    cases h1 with
    | ptr _ _ _ _ g hg =>
      have hr := hB.rep b _ g (hbk b _ hb) hg
      cases hr with
      | var _ arr ty' hh hl h =>
        have hsz : ((arr.toList.drop o).take n).length = n := by simp; omega
        have hrange : w.rangeAt g o ((arr.toList.drop o).take n) := fun j v hv => by
          rw [cell_of_heap hh]
          have hj : j < n := by have := (List.getElem?_eq_some_iff.1 hv).1; omega
          rw [List.getElem?_take_of_lt hj, List.getElem?_drop] at hv
          simpa using hv
        refine ⟨.agg ((arr.toList.drop o).take n).toArray, by simp only [execOp, hval, Nat.zero_mul, Nat.zero_add, Sem.run_bind, run_loadAt_agg ht w hsz hrange, Result.andThen_ok, Sem.run_pure], ?_⟩
        have key : ∀ i c v, ((cs.drop o).take n)[i]? = some c → ((arr.toList.drop o).take n)[i]? = some v → Rep E w c v ∧ v.oneCell' = true := fun i c v hc hv => by
          have hj : i < n := by have := (List.getElem?_eq_some_iff.1 hv).1; omega
          rw [List.getElem?_take_of_lt hj, List.getElem?_drop] at hv hc
          exact h (o + i) c v hc (by simpa using hv)
        refine .agg _ _ (by simp; omega) (fun i v hv => ?_) (fun i c v hc hv => (key i c v hc (by simpa using hv)).1)
        have hv' : ((arr.toList.drop o).take n)[i]? = some v := by simpa using hv
        have hj : i < n := by have := (List.getElem?_eq_some_iff.1 hv').1; omega
        have hlt : i < ((cs.drop o).take n).length := by simp; omega
        exact (key i _ v (List.getElem?_eq_getElem hlt) hv').2

theorem step_load_rop {t : Nat} {x : Operand} {row : List D} {d : D} (hx : ρ x = .rop row) (ht : scalB P t = true) (hd : row[0]? = some d) :
    Step P ⟨dst, .load t x, ty, pos, after, gd⟩ ρ bk0 (.d d) [] [] :=
  step_pure fun E w vals bk hvals hB hbk => by
    have h1 := hvals x (by simp [Op.operands]); rw [hx] at h1
    generalize hval : vals x = u at h1
    cases h1 with
    | rop _ b o g hS hc hr =>
      have hlt : 0 < row.length := (List.getElem?_eq_some_iff.1 hd).1
      refine ⟨g 0, ?_, .d (hr 0 d hd)⟩
      simp only [execOp, hval, Sem.run_bind, run_loadAt_scal ht w (v := g 0) (by simpa using hc 0 hlt), Result.andThen_ok, Sem.run_pure]

theorem step_load_rops {t n : Nat} {x : Operand} {row : List D} (hx : ρ x = .rop row) (ht : aggB P t = some n) (hn : n ≤ row.length) :
    Step P ⟨dst, .load t x, ty, pos, after, gd⟩ ρ bk0 (.agg ((row.take n).map .d)) [] [] :=
  step_pure fun E w vals bk hvals hB hbk => by
    have h1 := hvals x (by simp [Op.operands]); rw [hx] at h1
    generalize hval : vals x = u at h1
    cases h1 with
    | rop _ b o g hS hc hr =>
      have hsz : ((List.range n).map g).length = n := by simp
      have hrange : w.rangeAt b o ((List.range n).map g) := fun j v hv => by
        have hj : j < n := by have := (List.getElem?_eq_some_iff.1 hv).1; simpa using this
        rw [List.getElem?_map, List.getElem?_range hj] at hv
        simp at hv
        rw [← hv]; exact hc j (by omega)
      refine ⟨.agg ((List.range n).map g).toArray, by simp only [execOp, hval, Sem.run_bind, run_loadAt_agg ht w hsz hrange, Result.andThen_ok, Sem.run_pure], ?_⟩
      have key : ∀ i v, ((List.range n).map g)[i]? = some v → i < n ∧ v = g i := fun i v hv => by
        have hj : i < n := by have := (List.getElem?_eq_some_iff.1 hv).1; simpa using this
        rw [List.getElem?_map, List.getElem?_range hj] at hv
        simp at hv
        exact ⟨hj, hv.symm⟩
      have rd : ∀ i, i < n → ∃ d, row[i]? = some d ∧ RepD E.S w d (g i) := fun i hi => ⟨row[i], List.getElem?_eq_getElem (by omega), hr i _ (List.getElem?_eq_getElem (by omega))⟩
      refine .agg _ _ (by simp; omega) (fun i v hv => ?_) (fun i c v hc' hv => ?_)
      · obtain ⟨hi, rfl⟩ := key i v (by simpa using hv)
        obtain ⟨d, _, h⟩ := rd i hi
        exact h.one
      · obtain ⟨hi, rfl⟩ := key i v (by simpa using hv)
        obtain ⟨d, h1, h⟩ := rd i hi
        rw [List.getElem?_map, List.getElem?_take_of_lt hi, h1] at hc'
        simp at hc'
        rw [← hc']; exact .d h

/-- A cell of a known slice's array. -/
theorem step_load_row {t b i k o : Nat} {x : Operand} {rows : List (List D)} {row : List D} {d : D} (hx : ρ x = .ptr b i k o) (hb : bk0 b = some (.row k rows)) (ht : scalB P t = true)
    (hr : rows[i]? = some row) (hd : row[o]? = some d) : Step P ⟨dst, .load t x, ty, pos, after, gd⟩ ρ bk0 (.d d) [] [] :=
  step_pure fun E w vals bk hvals hB hbk => by
    have h1 := hvals x (by simp [Op.operands]); rw [hx] at h1
    generalize hval : vals x = u at h1
    cases h1 with
    | ptr _ _ _ _ g hg =>
      have hrr := hB.rep b _ g (hbk b _ hb) hg
      cases hrr with
      | row _ _ arr ty' hh hk hl h =>
        have hi : i < rows.length := (List.getElem?_eq_some_iff.1 hr).1
        have ho : o < k := by have := (List.getElem?_eq_some_iff.1 hd).1; rw [hk i row hr] at this; exact this
        have hlt : i * k + o < arr.size := by
          have : (i + 1) * k ≤ rows.length * k := Nat.mul_le_mul_right k hi
          rw [Nat.add_mul] at this; omega
        refine ⟨arr[i * k + o], ?_, .d (h i o row d _ hr hd (Array.getElem?_eq_getElem hlt))⟩
        simp only [execOp, hval, Sem.run_bind, run_loadAt_scal ht w (v := arr[i * k + o]) (by rw [cell_of_heap hh]; exact Array.getElem?_eq_getElem hlt), Result.andThen_ok, Sem.run_pure]

theorem step_load_rows {t b i k o n : Nat} {x : Operand} {rows : List (List D)} {row : List D} (hx : ρ x = .ptr b i k o) (hb : bk0 b = some (.row k rows)) (ht : aggB P t = some n)
    (hr : rows[i]? = some row) (hn : o + n ≤ row.length) : Step P ⟨dst, .load t x, ty, pos, after, gd⟩ ρ bk0 (.agg (((row.drop o).take n).map .d)) [] [] :=
  step_pure fun E w vals bk hvals hB hbk => by
    have h1 := hvals x (by simp [Op.operands]); rw [hx] at h1
    generalize hval : vals x = u at h1
    cases h1 with
    | ptr _ _ _ _ g hg =>
      have hrr := hB.rep b _ g (hbk b _ hb) hg
      cases hrr with
      | row _ _ arr ty' hh hk hl h =>
        have hi : i < rows.length := (List.getElem?_eq_some_iff.1 hr).1
        have hrk := hk i row hr
        have hbnd : i * k + k ≤ arr.size := by
          have : (i + 1) * k ≤ rows.length * k := Nat.mul_le_mul_right k hi
          rw [Nat.add_mul] at this; omega
        have hsz : ((arr.toList.drop (i * k + o)).take n).length = n := by simp; omega
        have hrange : w.rangeAt g (i * k + o) ((arr.toList.drop (i * k + o)).take n) := fun j v hv => by
          rw [cell_of_heap hh]
          have hj : j < n := by have := (List.getElem?_eq_some_iff.1 hv).1; omega
          rw [List.getElem?_take_of_lt hj, List.getElem?_drop] at hv
          simpa using hv
        refine ⟨.agg ((arr.toList.drop (i * k + o)).take n).toArray, by simp only [execOp, hval, Sem.run_bind, run_loadAt_agg ht w hsz hrange, Result.andThen_ok, Sem.run_pure], ?_⟩
        have key : ∀ j v, ((arr.toList.drop (i * k + o)).take n)[j]? = some v → j < n ∧ RepD E.S w (row[o + j]?.getD (.s [])) v := fun j v hv => by
          have hj : j < n := by have := (List.getElem?_eq_some_iff.1 hv).1; omega
          rw [List.getElem?_take_of_lt hj, List.getElem?_drop] at hv
          refine ⟨hj, ?_⟩
          have hlt : o + j < row.length := by omega
          rw [List.getElem?_eq_getElem hlt]
          exact h i (o + j) row _ v hr (List.getElem?_eq_getElem hlt) (by rw [← Nat.add_assoc]; simpa using hv)
        refine .agg _ _ (by simp; omega) (fun j v hv => ((key j v (by simpa using hv)).2).one) (fun j c v hc hv => ?_)
        obtain ⟨hj, hR⟩ := key j v (by simpa using hv)
        have hlt : o + j < row.length := by omega
        rw [List.getElem?_map, List.getElem?_take_of_lt hj, List.getElem?_drop, List.getElem?_eq_getElem hlt] at hc
        rw [List.getElem?_eq_getElem hlt] at hR
        simp at hc hR
        rw [← hc]; exact .d hR
end

end Go.Proofs.Ytencghlmckbmlaa
