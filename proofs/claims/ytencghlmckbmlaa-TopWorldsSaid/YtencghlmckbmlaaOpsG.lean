/- Slice literals, made slices, parts of slices: over symbolic states. -/
import Derived.Test.YtencghlmckbmlaaSpec
set_option linter.unusedVariables false
set_option linter.unusedSimpArgs false
namespace Go.Proofs.Ytencghlmckbmlaa
open Go Go.RowKit

section
variable {P : Program} {ρ : Operand → AV} {bk0 : Bk} {dst : Option Tmp} {ty : TypeId} {pos : String} {after : Array Edge} {gd : Option (Nat × Bool)}

theorem run_sliceBound {x : Value} {k : IntKind} {z : Int} {y : Nat} {c : BoundsCode} (hx : x = .int k z) (h0 : 0 ≤ z) (h1 : z ≤ y) (w : World) : (Instr.sliceBound x y c).run P w = .ok z.toNat w := by
  subst hx
  simp [Instr.sliceBound, asIntOf, h0, h1]

/-- What a bound of a slice expression holds. -/
def boundA (ρ : Operand → AV) (o : Option Operand) (d : Int) : Option (Int) :=
  match o with
  | none => some d
  | some x => match ρ x with
    | .d (.v (.int _ z)) => some z
    | _ => none

theorem run_sliceBounds {vals : Operand → Value} {E : Env} {w : World} {lo hi : Option Operand} {n cap : Nat} {l h : Int} (hvals : ∀ x ∈ lo.toArray.toList ++ hi.toArray.toList, Rep E w (ρ x) (vals x))
    (hl : boundA ρ lo 0 = some l) (hh : boundA ρ hi n = some h) (h0 : 0 ≤ l) (h1 : l ≤ h) (h2 : h ≤ cap) :
    (Instr.sliceBounds true n cap (lo.map vals) (hi.map vals) none).run P w = .ok (l.toNat, h.toNat, cap) w := by
  have int : ∀ x z, x ∈ lo.toArray.toList ++ hi.toArray.toList → (match ρ x with | .d (.v (.int _ z)) => some z | _ => none) = some z → ∃ k, vals x = .int k z := fun x z hx hz => by
    have := hvals x hx
    split at hz
    · rename_i k z' he
      injection hz with hz; subst hz
      rw [he] at this
      exact ⟨k, rep_val this⟩
    · cases hz
  have lohi : ∀ (x : Operand), lo = some x → ∃ k, vals x = .int k l := fun x hx => by
    subst hx; exact int x l (by simp) hl
  have hihi : ∀ (x : Operand), hi = some x → ∃ k, vals x = .int k h := fun x hx => by
    subst hx; exact int x h (by simp) hh
  unfold Instr.sliceBounds
  cases hi with
  | none =>
    have hn : n = h.toNat := by simp [boundA] at hh; omega
    cases lo with
    | none =>
      have h0 : 0 = l.toNat := by simp [boundA] at hl; omega
      simp [← hn, ← h0]
    | some x =>
      obtain ⟨k, hk⟩ := lohi x rfl
      have := run_sliceBound (P := P) (c := .sliceB) hk h0 (show l ≤ (h.toNat : Nat) by omega) w
      simp [hn, this]
  | some y =>
    obtain ⟨k, hk⟩ := hihi y rfl
    have hH := run_sliceBound (P := P) (c := .sliceAcap) hk (by omega) h2 w
    cases lo with
    | none =>
      have h0 : 0 = l.toNat := by simp [boundA] at hl; omega
      simp [hH, ← h0]
    | some x =>
      obtain ⟨k', hk'⟩ := lohi x rfl
      have := run_sliceBound (P := P) (c := .sliceB) hk' h0 (show l ≤ (h.toNat : Nat) by omega) w
      simp [hH, this]

/-- x[lo:hi] of a slice that nobody writes. -/
theorem step_slice_ro {t e k : Nat} {x : Operand} {lo hi : Option Operand} {xs : List (List D)} {l h : Int} (hx : ρ x = .d (.s xs)) (ht : elemB P t = some (e, k)) (hk : ∀ row ∈ xs, row.length = k)
    (hl : boundA ρ lo 0 = some l) (hh : boundA ρ hi xs.length = some h) (h0 : 0 ≤ l) (h1 : l ≤ h) (h2 : h ≤ xs.length) :
    Step P ⟨dst, .slice t x lo hi none, ty, pos, after, gd⟩ ρ bk0 (.d (.s ((xs.take h.toNat).drop l.toNat))) [] [] :=
  step_pure fun E w vals bk hvals hB hbk => by
    obtain ⟨hu, hsz⟩ := elemB_spec ht
    have hv := hvals x (by simp [Op.operands]); rw [hx] at hv
    have hb : ∀ y ∈ lo.toArray.toList ++ hi.toArray.toList, Rep E w (ρ y) (vals y) := fun y hy => hvals y (by
      simp only [Op.operands, Array.toList_append, List.mem_append] at hy ⊢
      rcases hy with hy | hy
      · exact .inl (.inl (.inr hy))
      · exact .inl (.inr hy))
    generalize hval : vals x = u at hv
    cases hv with
    | d hv =>
      have len : ((xs.take h.toNat).drop l.toNat).length = h.toNat - l.toNat := by simp; omega
      cases hv with
      | nil a c =>
        simp only [List.length_nil] at h2 hh
        have hl0 : l = 0 := by omega
        have hh0 : h = 0 := by omega
        have hbd := run_sliceBounds (P := P) (n := 0) (cap := c) hb hl hh h0 h1 (by omega)
        refine ⟨.slice (if c = l.toNat then a else a.map (·.add (l.toNat * k))) (h.toNat - l.toNat) (c - l.toNat), ?_, ?_⟩
        · simp only [execOp, hval, Instr.sliceAt, Sem.run_bind, run_underlying hu w, Result.andThen_ok, Instr.slice, Option.map_none, hbd, run_sizeOf hsz w, Sem.run_pure]
        · subst hl0; subst hh0; simp; exact .d (.nil _ _)
      | s _ b o k' cap g hS hcap hk' hc hr =>
        have hbd := run_sliceBounds (P := P) (n := xs.length) (cap := cap) hb hl hh h0 h1 (by omega)
        refine ⟨.slice (if cap = l.toNat then some ⟨b, o, none⟩ else (some (⟨b, o, none⟩ : Addr)).map (·.add (l.toNat * k))) (h.toNat - l.toNat) (cap - l.toNat), ?_, ?_⟩
        · simp only [execOp, hval, Instr.sliceAt, Sem.run_bind, run_underlying hu w, Result.andThen_ok, Instr.slice, Option.map_none, hbd, run_sizeOf hsz w, Sem.run_pure]
        · by_cases he : h.toNat - l.toNat = 0
          · have : (xs.take h.toNat).drop l.toNat = [] := List.eq_nil_of_length_eq_zero (by rw [len]; exact he)
            rw [this, he]; exact .d (.nil _ _)
          · have hne : ¬ cap = l.toNat := by omega
            rw [if_neg hne]
            have hkk : k' = k := by
              have hpos : 0 < xs.length := by omega
              have h3 := List.getElem?_eq_getElem hpos
              exact (hk' 0 _ h3).symm.trans (hk _ (List.mem_of_getElem? h3))
            subst hkk
            simp only [Option.map_some, Addr.add_mid]
            rw [← len]
            have hget : ∀ (i : Nat) (row : List D), ((xs.take h.toNat).drop l.toNat)[i]? = some row → xs[l.toNat + i]? = some row := fun i row hi => by
              have hlt := (List.getElem?_eq_some_iff.1 hi).1
              rw [List.getElem?_drop, List.getElem?_take_of_lt (by omega)] at hi
              exact hi
            refine .d (.s _ b (o + l.toNat * k') k' (cap - l.toNat) (fun i j => g (l.toNat + i) j) hS (by omega) (fun i row hi => hk' _ row (hget i row hi)) (fun i j hi hj => ?_) (fun i j row d hi hd => hr (l.toNat + i) j row d (hget i row hi) hd))
            have := hc (l.toNat + i) j (by omega) hj
            rw [← this]; congr 2
            rw [Nat.add_mul]; omega

theorem step_slice_own {t e k b i n : Nat} {x : Operand} {lo hi : Option Operand} {l h : Int} (hx : ρ x = .own b i k n) (ht : elemB P t = some (e, k))
    (hl : boundA ρ lo 0 = some l) (hh : boundA ρ hi n = some h) (h0 : 0 ≤ l) (h1 : l < h) (h2 : h ≤ n) :
    Step P ⟨dst, .slice t x lo hi none, ty, pos, after, gd⟩ ρ bk0 (.own b (i + l.toNat) k (h.toNat - l.toNat)) [] [] :=
  step_pure fun E w vals bk hvals hB hbk => by
    obtain ⟨hu, hsz⟩ := elemB_spec ht
    have hv := hvals x (by simp [Op.operands]); rw [hx] at hv
    have hb : ∀ y ∈ lo.toArray.toList ++ hi.toArray.toList, Rep E w (ρ y) (vals y) := fun y hy => hvals y (by
      simp only [Op.operands, Array.toList_append, List.mem_append] at hy ⊢
      rcases hy with hy | hy
      · exact .inl (.inl (.inr hy))
      · exact .inl (.inr hy))
    generalize hval : vals x = u at hv
    cases hv with
    | ownNil => omega
    | own _ _ _ _ g cap sz ty' hg hn hs hcap =>
      have hbd := run_sliceBounds (P := P) (n := n) (cap := cap) hb hl hh h0 (by omega) (by omega)
      have hne : ¬ cap = l.toNat := by omega
      refine ⟨.slice (some ⟨g, (i + l.toNat) * k, none⟩) (h.toNat - l.toNat) (cap - l.toNat), ?_, .own b (i + l.toNat) k _ g (cap - l.toNat) sz ty' hg (by omega) hs ?_⟩
      · simp only [execOp, hval, Instr.sliceAt, Sem.run_bind, run_underlying hu w, Result.andThen_ok, Instr.slice, Option.map_none, hbd, run_sizeOf hsz w, Sem.run_pure, if_neg hne, Option.map_some, Addr.add_mid, Nat.add_mul]
      · have : i + l.toNat + (cap - l.toNat) = i + cap := by omega
        rw [this]; exact hcap

/-! ### make -/

theorem range_map_zero {α : Type} (f : Nat → α) : (Array.range 0).map f = #[] := Array.eq_empty_of_size_eq_zero (by simp)

theorem range_map_get {α : Type} [Inhabited α] (z : Array α) (n p : Nat) (hp : p < n) : ((Array.range n).map (fun i => z[i % z.size]!)).toList[p]? = some z[p % z.size]! := by
  rw [Array.toList_map, List.getElem?_map, Array.toList_range, List.getElem?_range hp]; rfl

theorem step_makeSlice {t e k by_ n' : Nat} {x y : Operand} {kk kk' : IntKind} {l c : Int} {zc : List AV} {zr : List D} (hx : ρ x = .d (.v (.int kk l))) (hy : ρ y = .d (.v (.int kk' c)))
    (ht : appB P t = some (e, k, by_)) (hz : zeroB P e = some zc) (h1 : zeroOk P e zc = true) (hzr : toDs zc = some zr) (h0 : 0 ≤ l) (hlc : l ≤ c) (hc : c * by_ ≤ 281474976710656) (hc2 : c ≤ 9223372036854775807) :
    Step P ⟨dst, .makeSlice t x y, ty, pos, after, gd⟩ ρ bk0 (.own n' 0 k l.toNat) [(n', some (.row k (List.replicate l.toNat zr)))] [n'] := by
  intro bk hbk hnw E w vals hvals hB
  obtain ⟨hn, hs⟩ := hnw n' (by simp)
  obtain ⟨i, z, hu, hi, hzv, hsz, hby, hzs⟩ := appB_spec ht
  have hv1 := hvals x (by simp [Op.operands]); rw [hx] at hv1
  have hv2 := hvals y (by simp [Op.operands]); rw [hy] at hv2
  have hzc : z.cells.toList.map constA = zc := by simp [zeroB, hi, hzv] at hz; exact hz
  simp only [zeroOk, hi, hzv, Option.bind_some] at h1
  have hone := List.all_eq_true.1 h1
  have hzL : RepL E w zc z.cells.toList := by rw [← hzc]; exact repL_zero _ hone
  have hzrl : zr.length = k := by rw [toDs_length hzr, ← hzc]; simpa using hzs
  have wl : IntKind.i64.wrap l = l := by
    unfold IntKind.wrap
    simp only [show IntKind.i64.bits = 64 from rfl, show IntKind.i64.signed = true from rfl, Int.reducePow, Nat.reduceSub, Bool.true_and, decide_eq_true_eq]
    split <;> omega
  have wc : IntKind.i64.wrap c = c := by
    unfold IntKind.wrap
    simp only [show IntKind.i64.bits = 64 from rfl, show IntKind.i64.signed = true from rfl, Int.reducePow, Nat.reduceSub, Bool.true_and, decide_eq_true_eq]
    split <;> omega
  let arr : Array Value := if c.toNat * k = 0 then #[] else (Array.range (c.toNat * k)).map (fun p => z.cells[p % z.cells.size]!)
  have harrz : arr.size = c.toNat * k := by
    simp only [arr]
    split
    · rename_i h; simp [h]
    · simp
  have hrun : (Instr.makeSlice t (vals x) (vals y)).run P w = .ok (.slice (some ⟨w.heap.size, 0, none⟩) l.toNat c.toNat) (w.alloc (.cells arr e)) := by
    have e1 : ¬ (281474976710656 < (by_ : Int) * c) := by rw [Int.mul_comm]; omega
    have e2 : ¬ l < 0 := by omega
    have e3 : ¬ c < 0 := by omega
    have e4 : ¬ c < l := by omega
    by_cases hz0 : c.toNat * k = 0
    · simp [Instr.makeSlice, run_underlying hu, rep_val hv1, rep_val hv2, asInt, asIntOf, typeInfo, hi, hby, wl, wc, e1, e2, e3, e4, sizeOf, hsz, hz0, newRow, arr, range_map_zero]
    · simp [Instr.makeSlice, run_underlying hu, rep_val hv1, rep_val hv2, asInt, asIntOf, typeInfo, hi, hby, wl, wc, e1, e2, e3, e4, sizeOf, hsz, hz0, newRow, zeroValue, hzv, arr]
  have hb := blks_new hB (pushed_alloc w (.cells arr e)) n' hn hs (.row k (List.replicate l.toNat zr)) (fun hkeep => by
    refine .row k _ arr e (pushed_alloc w _).get (fun j row hj => ?_) (by rw [List.length_replicate, harrz]; exact Nat.mul_le_mul_right k (by omega)) (fun j p row d v hj hp hv => ?_)
    · have := (List.getElem?_eq_some_iff.1 hj).2
      simp at this; rw [← this]; exact hzrl
    · have hjl := (List.getElem?_eq_some_iff.1 hj).1
      have hrow : row = zr := by have := (List.getElem?_eq_some_iff.1 hj).2; simp at this; exact this.symm
      subst hrow
      simp at hjl
      have hpk : p < k := by have := (List.getElem?_eq_some_iff.1 hp).1; omega
      have hlt : j * k + p < c.toNat * k := mul_lt_of (by omega) hpk
      have harr : arr = (Array.range (c.toNat * k)).map (fun p => z.cells[p % z.cells.size]!) := by simp only [arr]; rw [if_neg (by omega)]
      have hv' : arr.toList[j * k + p]? = some v := by simpa using hv
      rw [harr, range_map_get _ _ _ hlt] at hv'
      have hmod : (j * k + p) % z.cells.size = p := by rw [hzs, Nat.mul_comm, Nat.mul_add_mod, Nat.mod_eq_of_lt hpk]
      rw [hmod] at hv'
      injection hv' with hv'
      have hzp : z.cells.toList[p]? = some v := by
        have : p < z.cells.size := by omega
        rw [← hv']; simp [this]
      exact (repDs hzL hzr p d v hp hzp).mono hkeep.S hkeep.cell)
  simp only [execOp]
  refine benign_val hrun ⟨_, hb.1, ?_, hb.2.1, hb.2.2⟩
  have := Rep.own (E := ⟨fun m => if m = n' then some w.heap.size else E.blk m, E.S⟩) (w := w.alloc (.cells arr e)) n' 0 k l.toNat w.heap.size c.toNat arr.size e (by simp) (by omega)
    (by unfold World.shape?; rw [(pushed_alloc w _).get]) (by rw [harrz, Nat.zero_add]; exact Nat.le_refl _)
  simpa using this

/-! ### a slice literal, read from then on -/

def chunkO (k : Nat) : Nat → List D → Option (List (List D))
  | 0, [] => some []
  | 0, _ :: _ => none
  | n + 1, ds => match chunkO k n (ds.drop k) with
    | some r => bif Nat.ble k ds.length then some (ds.take k :: r) else none
    | none => none

theorem chunkO_spec {k : Nat} : ∀ (n : Nat) (ds : List D) (rows : List (List D)), chunkO k n ds = some rows → rows.length = n ∧ (∀ (i : Nat) (row : List D), rows[i]? = some row → row.length = k) ∧
    ∀ (i j : Nat) (row : List D) (d : D), rows[i]? = some row → row[j]? = some d → ds[i * k + j]? = some d
  | 0, [], rows, h => by simp [chunkO] at h; subst h; exact ⟨rfl, fun i row h => by simp at h, fun i j row d h => by simp at h⟩
  | 0, _ :: _, rows, h => by simp [chunkO] at h
  | n + 1, ds, rows, h => by
    simp only [chunkO] at h
    split at h
    · rename_i r hr
      obtain ⟨h1, h2, h3⟩ := chunkO_spec n _ _ hr
      cases hb : Nat.ble k ds.length with
      | false => rw [hb] at h; cases h
      | true =>
        rw [hb, cond_true] at h
        injection h with h; subst h
        have hk := Nat.le_of_ble_eq_true hb
        refine ⟨by simp [h1], fun i row hi => ?_, fun i j row d hi hj => ?_⟩
        · cases i with
          | zero => simp at hi; subst hi; simp; omega
          | succ i => exact h2 i row (by simpa using hi)
        · cases i with
          | zero =>
            simp at hi; subst hi
            have hlt := (List.getElem?_eq_some_iff.1 hj).1
            simp at hlt
            rw [List.getElem?_take_of_lt (by omega)] at hj
            simpa using hj
          | succ i =>
            have := h3 i j row d (by simpa using hi) hj
            rw [List.getElem?_drop] at this
            rw [← this]; congr 1; rw [Nat.add_mul]; omega
    · cases h

theorem step_lit {t e k by_ n : Nat} {parts : Array (Nat × Operand)} {ps : List (Nat × AV)} {zc cs' : List AV} {ds : List D} {rows : List (List D)} (hps : parts.toList.map (fun p => (p.1, ρ p.2)) = ps)
    (ht : appB P t = some (e, k, by_)) (hz : zeroB P e = some zc) (h1 : zeroOk P e zc = true) (hk0 : 0 < k) (hn0 : n * k ≤ 4096)
    (hf : fillA (fun i => some (i * k, k)) ((List.range (n * k)).map fun p => (zc[p % k]?).getD .any) ps = some cs') (hds : toDs cs' = some ds) (hrows : chunkO k n ds = some rows) :
    Step P ⟨dst, .buildSlice t n parts, ty, pos, after, gd⟩ ρ bk0 (.d (.s rows)) [] [] := by
  intro bk hbk _ E w vals hvals hB
  obtain ⟨i, z, hu, hi, hzv, hsz, hby, hzs⟩ := appB_spec ht
  have hzc : z.cells.toList.map constA = zc := by simp [zeroB, hi, hzv] at hz; exact hz
  simp only [zeroOk, hi, hzv, Option.bind_some] at h1
  have hone := List.all_eq_true.1 h1
  let zs : Array Value := (Array.range (n * k)).map (fun p => z.cells[p % z.cells.size]!)
  have hzero : RepL E w ((List.range (n * k)).map fun p => (zc[p % k]?).getD .any) zs.toList := by
    have hlt : ∀ p, p % k < z.cells.size := fun p => by rw [hzs]; exact Nat.mod_lt _ hk0
    refine ⟨by simp [zs], fun p c v hc hv => ?_, fun p v hv => ?_⟩
    · have hp : p < n * k := by have := (List.getElem?_eq_some_iff.1 hc).1; simpa using this
      rw [range_map_get _ _ _ hp] at hv
      rw [List.getElem?_map, List.getElem?_range hp] at hc
      simp only [Option.map_some, Option.some.injEq] at hc hv
      rw [← hc, ← hv, ← hzc, hzs]
      have := hlt p
      simp [this]
      exact rep_const E w _
    · have hp : p < n * k := by have := (List.getElem?_eq_some_iff.1 hv).1; simpa [zs] using this
      rw [range_map_get _ _ _ hp] at hv
      injection hv with hv
      rw [← hv, hzs]
      have := hlt p
      simp [this]
      exact hone _ (by simp)
  obtain ⟨xs', h3, h4⟩ := fill_rep (E := E) (w := w) (place := fun i => some (i * k, k)) ps (parts.toList.map fun p => (p.1, vals p.2)) _ zs cs' hzero (by rw [← hps]; simp) (fun j p q hp hq => by
    rw [← hps] at hp
    simp only [List.getElem?_map, Option.map_eq_some_iff] at hp hq
    obtain ⟨a, ha, rfl⟩ := hp
    obtain ⟨b, hb, rfl⟩ := hq
    rw [ha] at hb; injection hb with hb; subst hb
    exact ⟨rfl, hvals a.2 (by simp only [Op.operands, List.mem_map]; exact ⟨a, List.mem_of_getElem? ha, rfl⟩)⟩) hf
  obtain ⟨r1, r2, r3⟩ := chunkO_spec _ _ _ hrows
  have hrun : (Instr.buildSlice t n (parts.map fun p => (p.1, vals p.2))).run P w = .ok (.slice (some ⟨w.heap.size, 0, none⟩) n n) (w.alloc (.cells xs' e)) := by
    have e1 : ¬ (n * k > 2 ^ 24) := by omega
    by_cases hz0 : n * k = 0
    · have hz0' : zs = #[] := by simp [zs, hz0]
      rw [hz0'] at h3
      have h3' : Instr.fill (fun i => some (i * k, k)) #[] (parts.map fun p => (p.1, vals p.2)).toList = some xs' := by simpa using h3
      simp [Instr.buildSlice, run_underlying hu, run_sizeOf (show sizeB P e = some k by simp [sizeB, hi, hsz]), hz0, newRow, range_map_zero]
      simp at h3'
      simp [h3']
    · have h3' : Instr.fill (fun i => some (i * k, k)) zs (parts.map fun p => (p.1, vals p.2)).toList = some xs' := by simpa using h3
      simp only [Instr.buildSlice, Sem.run_bind, run_underlying hu w, Result.andThen_ok, run_sizeOf (show sizeB P e = some k by simp [sizeB, hi, hsz]) w, if_neg e1, Sem.run_pure, if_neg hz0, zeroValue, typeInfo, run_program, hi, hzv]
      rw [show ((Array.range (n * k)).map fun x => z.cells[x % z.cells.size]!) = zs from rfl, h3']
      simp [newRow]
  have hp := pushed_alloc w (.cells xs' e)
  obtain ⟨hb1, hb2, hb3, hkeep⟩ := blks_data hB hp
  simp only [execOp]
  refine benign_val hrun ⟨_, by rw [updB_nil]; exact hb1, ?_, hb2, by rw [updB_nil]; exact hb3⟩
  have hx : xs'.size = n * k := by
    have := h4.len
    have h5 : cs'.length = n * k := by
      have : ∀ (ps : List (Nat × AV)) (cs cs' : List AV), fillA (fun i => some (i * k, k)) cs ps = some cs' → cs'.length = cs.length := by
        intro ps
        induction ps with
        | nil => intro cs cs' h; simp only [fillA, Option.some.injEq] at h; rw [← h]
        | cons p ps ih =>
          obtain ⟨i, v⟩ := p
          intro cs cs' h
          simp only [fillA] at h
          split at h
          · split at h
            · cases h
            · rename_i hno; rw [ih _ _ h, setAt_length _ _ _ (by omega)]
          · cases h
      rw [this _ _ _ hf]; simp
    simp at this; omega
  refine .d ?_
  have := RepD.s (S := fun b => E.S b ∨ b = w.heap.size) (w := w.alloc (.cells xs' e)) rows w.heap.size 0 k n (fun i j => (xs'[i * k + j]?).getD undef) (.inr rfl) (by omega) r2 (fun i j hi hj => by
    have hlt : i * k + j < n * k := mul_lt_of (by omega) hj
    rw [cell_of_heap hp.get, Nat.zero_add, Array.getElem?_eq_getElem (by omega)]; rfl) (fun i j row d hrow hd => by
    have hil : i < rows.length := (List.getElem?_eq_some_iff.1 hrow).1
    have hjl : j < k := by have := (List.getElem?_eq_some_iff.1 hd).1; rw [r2 i row hrow] at this; exact this
    have hlt : i * k + j < n * k := mul_lt_of (by omega) hjl
    rw [Array.getElem?_eq_getElem (by omega)]
    exact (repDs h4 hds (i * k + j) d _ (r3 i j row d hrow hd) (by simp)).mono hkeep.S hkeep.cell)
  rw [r1] at this
  exact this
end

end Go.Proofs.Ytencghlmckbmlaa
