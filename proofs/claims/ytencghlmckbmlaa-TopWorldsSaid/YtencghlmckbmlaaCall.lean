/- Turning one symbolic state into another; contracts; calls; a function's body against its contract. -/
import Derived.Test.YtencghlmckbmlaaOpsF
set_option linter.unusedVariables false
set_option linter.unusedSimpArgs false
namespace Go.Proofs.Ytencghlmckbmlaa
open Go Go.RowKit

/-! ### renaming blocks -/

def Env.ren (E : Env) (f : Nat → Nat) : Env := ⟨fun n => E.blk (f n), E.S⟩

mutual
def AV.ren (f : Nat → Nat) : AV → AV
  | .ptr b i k o => .ptr (f b) i k o
  | .own b i k n => .own (f b) i k n
  | .agg cs => .agg (renL f cs)
  | .tup cs => .tup (renL f cs)
  | .clo g a b => .clo g (renL f a) (renL f b)
  | .any => .any
  | .nil => .nil
  | .d x => .d x
  | .rop r => .rop r
def renL (f : Nat → Nat) : List AV → List AV
  | [] => []
  | c :: r => c.ren f :: renL f r
end

theorem renL_get (f : Nat → Nat) : ∀ (l : List AV) (i : Nat) (c : AV), l[i]? = some c → (renL f l)[i]? = some (c.ren f)
  | [], i, c, h => by simp at h
  | x :: r, 0, c, h => by simp at h; subst h; rfl
  | x :: r, i + 1, c, h => by
    have := renL_get f r i c (by simpa using h)
    simpa [renL] using this

theorem renL_length (f : Nat → Nat) : ∀ (l : List AV), (renL f l).length = l.length
  | [] => rfl
  | x :: r => by simp [renL, renL_length f r]

theorem rep_ren {E : Env} {w : World} {f : Nat → Nat} : ∀ (c : AV) (v : Value), Rep E w (c.ren f) v → Rep (E.ren f) w c v
  | .any, v, h => .any v
  | .nil, v, h => by cases h; exact .nil
  | .d x, v, h => by cases h with | d h => exact .d h
  | .rop r, v, h => by cases h with | rop _ b o g h1 h2 h3 => exact .rop r b o g h1 h2 h3
  | .ptr b i k o, v, h => by cases h with | ptr _ _ _ _ g hg => exact .ptr b i k o g hg
  | .own b i k n, v, h => by
    cases h with
    | own _ _ _ _ g cap sz ty hg hn hs hb => exact .own b i k n g cap sz ty hg hn hs hb
    | ownNil _ _ _ hg => exact .ownNil b i k hg
  | .agg cs, v, h => by
    cases h with
    | agg _ arr hl h1 h => exact .agg cs arr (by rw [hl, renL_length]) h1 fun i c v hc hv => rep_ren c v (h i _ v (renL_get f cs i c hc) hv)
  | .tup cs, v, h => by
    cases h with
    | tup _ arr hl h => exact .tup cs arr (by rw [hl, renL_length]) fun i c v hc hv => rep_ren c v (h i _ v (renL_get f cs i c hc) hv)
  | .clo g a b, v, h => by
    cases h with
    | clo _ _ _ fa ca h1 h2 h3 h4 =>
      exact .clo g a b fa ca (by rw [h1, renL_length]) (by rw [h2, renL_length]) (fun i c v hc hv => rep_ren c v (h3 i _ v (renL_get f a i c hc) hv)) (fun i c v hc hv => rep_ren c v (h4 i _ v (renL_get f b i c hc) hv))
termination_by c => c
decreasing_by
  all_goals simp_wf
  all_goals (first
    | (have := List.sizeOf_lt_of_mem (List.mem_of_getElem? hc); omega))

theorem says_ren (f : Nat → Nat) : ∀ (c : AV) (m : Nat), (c.ren f).says m = true → ∃ m', m = f m' ∧ c.says m' = true
  | .any, m, h => by cases h
  | .nil, m, h => by cases h
  | .d x, m, h => by cases h
  | .rop r, m, h => by cases h
  | .ptr b i k o, m, h => ⟨b, by have : (f b == m) = true := h; exact (beq_iff_eq.1 this).symm, by simp [AV.says]⟩
  | .own b i k o, m, h => ⟨b, by have : (f b == m) = true := h; exact (beq_iff_eq.1 this).symm, by simp [AV.says]⟩
  | .agg cs, m, h => saysL_ren cs m h
  | .tup cs, m, h => saysL_ren cs m h
  | .clo g a b, m, h => by
    have h : (AV.says.saysL m (renL f a) || AV.says.saysL m (renL f b)) = true := h
    rcases Bool.or_eq_true .. ▸ h with h | h
    · obtain ⟨m', h1, h2⟩ := saysL_ren a m h; exact ⟨m', h1, by simp [AV.says, h2]⟩
    · obtain ⟨m', h1, h2⟩ := saysL_ren b m h; exact ⟨m', h1, by simp [AV.says, h2]⟩
where saysL_ren : ∀ (cs : List AV) (m : Nat), AV.says.saysL m (renL f cs) = true → ∃ m', m = f m' ∧ AV.says.saysL m' cs = true
  | [], m, h => by cases h
  | c :: r, m, h => by
    have h : ((c.ren f).says m || AV.says.saysL m (renL f r)) = true := h
    rcases Bool.or_eq_true .. ▸ h with h | h
    · obtain ⟨m', h1, h2⟩ := says_ren f c m h; exact ⟨m', h1, by simp [AV.says.saysL, h2]⟩
    · obtain ⟨m', h1, h2⟩ := saysL_ren r m h; exact ⟨m', h1, by simp [AV.says.saysL, h2]⟩

theorem saysN_ren {g : Nat → AV} {nm : List Nat} (f : Nat → Nat) (hs : ∀ i m, (g i).says m = true → m ∈ nm) : ∀ i m, ((g i).ren f).says m = true → m ∈ nm.map f := fun i m h => by
  obtain ⟨m', rfl, h2⟩ := says_ren f (g i) m h
  exact List.mem_map.2 ⟨m', hs i m' h2, rfl⟩

def Blk.ren (f : Nat → Nat) : Blk → Blk
  | .var cs => .var (renL f cs)
  | .row k rows => .row k rows
  | .cells n g nm hs => .cells n (fun i => (g i).ren f) (nm.map f) (saysN_ren f hs)
  | .mp g ks => .mp g ks

theorem blk_ren {E : Env} {w : World} {f : Nat → Nat} {g : Nat} {B : Blk} (h : BlkRep E w g (B.ren f)) : BlkRep (E.ren f) w g B := by
  cases B with
  | var cs =>
    cases h with
    | var _ arr ty hh hl h => exact .var cs arr ty hh (by rw [hl, renL_length]) fun i c v hc hv => let ⟨h1, h2⟩ := h i _ v (renL_get f cs i c hc) hv; ⟨rep_ren c v h1, h2⟩
  | row k rows =>
    cases h with
    | row _ _ arr ty hh hk hl h => exact .row k rows arr ty hh hk hl h
  | cells n fn nm hs =>
    cases h with
    | cells _ _ _ _ arr ty hh hl h => exact .cells n fn nm hs arr ty hh hl fun i v h1 h2 => ⟨rep_ren _ v (h i v h1 h2).1, (h i v h1 h2).2⟩
  | mp g' ks =>
    cases h with
    | mp _ es clock hh hk => exact .mp ks es clock hh hk

def RenT (f : Nat → Nat) : List (Nat × AV) → List (Nat × AV) → Prop
  | [], _ => True
  | (t, v) :: r, l => look l t = v.ren f ∧ RenT f r l

def RenB (f : Nat → Nat) : List (Nat × Option Blk) → List (Nat × Option Blk) → Prop
  | [], _ => True
  | (n, B) :: r, l => (match B with | some B => lookB l (f n) = some (B.ren f) | none => True) ∧ RenB f r l

theorem RenT.look {f : Nat → Nat} {l' l : List (Nat × AV)} (h : RenT f l' l) (t : Nat) : look l' t = .any ∨ Ytencghlmckbmlaa.look l t = (Ytencghlmckbmlaa.look l' t).ren f := by
  induction l' with
  | nil => exact .inl rfl
  | cons p r ih =>
    obtain ⟨u, v⟩ := p
    obtain ⟨h1, h2⟩ := h
    have e : Ytencghlmckbmlaa.look ((u, v) :: r) t = bif Nat.beq u t then v else Ytencghlmckbmlaa.look r t := rfl
    rw [e]
    cases hb : Nat.beq u t with
    | true => have : u = t := Nat.eq_of_beq_eq_true hb; subst this; right; rw [cond_true]; exact h1
    | false => rw [cond_false]; exact ih h2

theorem RenB.look {f : Nat → Nat} {l' l : List (Nat × Option Blk)} (h : RenB f l' l) (n : Nat) (B : Blk) (hB : lookB l' n = some B) : lookB l (f n) = some (B.ren f) := by
  induction l' with
  | nil => simp [lookB] at hB
  | cons p r ih =>
    obtain ⟨u, v⟩ := p
    obtain ⟨h1, h2⟩ := h
    have e : lookB ((u, v) :: r) n = bif Nat.beq u n then v else lookB r n := rfl
    rw [e] at hB
    cases hb : Nat.beq u n with
    | true => have : u = n := Nat.eq_of_beq_eq_true hb; subst this; rw [hb, cond_true] at hB; subst hB; exact h1
    | false => rw [hb, cond_false] at hB; exact ih h2 hB

def namesB : List (Nat × Option Blk) → List Nat
  | [] => []
  | (n, some _) :: r => n :: namesB r
  | (_, none) :: r => namesB r

theorem namesB_mem {bl : List (Nat × Option Blk)} {n : Nat} {B : Blk} (h : lookB bl n = some B) : n ∈ namesB bl := by
  induction bl with
  | nil => simp [lookB] at h
  | cons p r ih =>
    obtain ⟨u, v⟩ := p
    have e : lookB ((u, v) :: r) n = bif Nat.beq u n then v else lookB r n := rfl
    rw [e] at h
    cases hb : Nat.beq u n with
    | true =>
      have : u = n := Nat.eq_of_beq_eq_true hb
      subst this; rw [hb, cond_true] at h; subst h; exact List.mem_cons_self ..
    | false =>
      rw [hb, cond_false] at h
      cases v with
      | none => exact ih h
      | some v => exact List.mem_cons_of_mem _ (ih h)

/-- The names in s' stand for those that f gives in s. -/
theorem turn_ren {c : Ctx} {s s' : St} (f : Nat → Nat) (ht : RenT f s'.tl s.tl) (hb : RenB f s'.bl s.bl) (hinj : (namesB s'.bl).all (fun n => (namesB s'.bl).all fun m => !(f n == f m) || n == m) = true)
    (hg : c.gl.all (fun n => f n == n) = true) : Turns c s s' := fun E a w hr => by
  refine ⟨E.ren f, ?_⟩
  have hne : ∀ n, lookB s'.bl n ≠ none → lookB s.bl (f n) ≠ none := fun n hn => by
    cases h : lookB s'.bl n with
    | none => exact absurd h hn
    | some B => rw [RenB.look hb n B h]; simp
  have hB : Blks (E.ren f) w (lookB s'.bl) := by
    refine ⟨fun n B g h1 h2 => blk_ren (hr.bks.rep (f n) _ g (RenB.look hb n B h1) h2), fun n B h1 h2 => ?_, fun n m g hn hm h1 h2 => ?_, fun n g hn h1 => hr.bks.apart (f n) g (hne n hn) h1, hr.bks.bound⟩
    · obtain ⟨k, hk⟩ := hr.bks.unb (f n) _ (RenB.look hb n B h1) h2
      cases B with
      | var cs => cases hk
      | row k' rows => exact ⟨k, hk⟩
      | cells _ _ _ _ => cases hk
      | mp _ _ => cases hk
    · have := hr.bks.inj (f n) (f m) g (hne n hn) (hne m hm) h1 h2
      have mem : ∀ n, lookB s'.bl n ≠ none → n ∈ namesB s'.bl := fun n hn => by
        cases h : lookB s'.bl n with
        | none => exact absurd h hn
        | some B => exact namesB_mem h
      have h3 := List.all_eq_true.1 (List.all_eq_true.1 hinj n (mem n hn)) m (mem m hm)
      simpa [this] using h3
  refine { size := hr.size, defers := hr.defers, tms := fun t => ?_, bks := hB, ext := hr.ext, names := fun n g hn h => hr.names (f n) g (hne n hn) h, S := hr.S, S0 := hr.S0, given := fun n hn => ?_ }
  · rcases RenT.look ht t with h | h
    · rw [h]; exact .any _
    · exact rep_ren _ _ (h ▸ hr.tms t)
  · have : f n = n := by simpa using List.all_eq_true.1 hg n hn
    show E.blk (f n) = _
    rw [this]; exact hr.given n hn

/-! ### a nil slice under a name; a known array that is written no more -/

theorem relE_cons {c : Ctx} {tl : List (Nat × AV)} {bl bl' : List (Nat × Option Blk)} {E E' : Env} {a : Act} {w : World} (hr : RelE c ⟨tl, bl⟩ E a w) (t : Nat) (v : AV)
    (hv : Rep E' w v (a.tmps.getD t undef)) (hk : ∀ t, Rep E' w (look tl t) (a.tmps.getD t undef)) (hB : Blks E' w (lookB bl'))
    (hn : ∀ n g, lookB bl' n ≠ none → E'.blk n = some g → ∃ m, lookB bl m ≠ none ∧ E.blk m = some g) (hS : ∀ b, E'.S b → c.E0.S b ∨ c.X b ∨ c.w0.heap.size ≤ b) (hS0 : ∀ b, E.S b → E'.S b)
    (hg : ∀ n ∈ c.gl, E'.blk n = E.blk n) : RelE c ⟨(t, v) :: tl, bl'⟩ E' a w where
  size := hr.size
  defers := hr.defers
  tms := fun u => by
    have e : look ((t, v) :: tl) u = bif Nat.beq t u then v else look tl u := rfl
    rw [show look (St.mk ((t, v) :: tl) bl').tl u = look ((t, v) :: tl) u from rfl, e]
    cases hb : Nat.beq t u with
    | true => have : t = u := Nat.eq_of_beq_eq_true hb; subst this; rw [cond_true]; exact hv
    | false => rw [cond_false]; exact hk u
  bks := hB
  ext := hr.ext
  names := fun n g h1 h2 => let ⟨m, h3, h4⟩ := hn n g h1 h2; hr.names m g h3 h4
  S := hS
  S0 := fun b hb => hS0 b (hr.S0 b hb)
  given := fun n h => (hg n h).trans (hr.given n h)

theorem turn_bind {c : Ctx} {tl : List (Nat × AV)} {bl : List (Nat × Option Blk)} (t b k : Nat) (ht : look tl t = .nil) (hf : freshes c.gl [b] ⟨tl, bl⟩ = true) :
    Turns c ⟨tl, bl⟩ ⟨(t, .own b 0 k 0) :: tl, (b, some (.row k [])) :: bl⟩ := fun E a w hr => by
  have hfr := (List.all_eq_true.1 hf) b (by simp)
  simp only [Bool.and_eq_true, Bool.not_eq_true', List.contains_eq_mem, decide_eq_false_iff_not] at hfr
  obtain ⟨⟨h1, h2⟩, h3⟩ := hfr
  have hn := freshBl_none h2
  have hb0 := blks_nil b k hr.bks hn (fun m B hB => freshBl_says h2 hB)
  have hk : Keeps E ⟨fun m => if m = b then none else E.blk m, E.S⟩ w w (· ∈ [b]) := ⟨fun _ h => h, fun _ _ _ => rfl, fun m hm => by simp at hm; simp [hm], fun _ _ => rfl⟩
  refine ⟨_, relE_cons hr t _ ?_ (fun u => (hr.tms u).mono hk (fun n hn => by simp at hn; subst hn; exact freshT_look h1 u)) (bl' := (b, some (.row k [])) :: bl) ?_ (fun n g hn' hg => ?_) hr.S (fun _ h => h) (fun n hn => ?_)⟩
  · have := hr.tms t
    rw [show look (St.mk tl bl).tl t = look tl t from rfl, ht] at this
    generalize a.tmps.getD t undef = u at this ⊢
    cases this
    exact .ownNil b 0 k (by simp)
  · have := lookB_append [(b, some (.row k []))] bl
    simp only [List.cons_append, List.nil_append] at this
    rw [this]; exact hb0
  · by_cases h : n = b
    · simp [h] at hg
    · simp [h] at hg
      refine ⟨n, ?_, hg⟩
      have e : lookB ((b, some (.row k [])) :: bl) n = bif Nat.beq b n then some (.row k []) else lookB bl n := rfl
      rw [e, natbeq_false (Ne.symm h)] at hn'
      exact hn'
  · have : n ≠ b := fun e => h3 (e ▸ hn)
    simp [this]

theorem RepD_own {E : Env} {w : World} {b i k n : Nat} {rows : List (List D)} {v : Value} {bk : Bk} (hB : Blks E w bk) (hb : bk b = some (.row k rows)) (h : Rep E w (.own b i k n) v) (hin : i + n ≤ rows.length)
    (S : Nat → Prop) (hS : ∀ x, E.S x → S x) (hg : ∀ g, E.blk b = some g → S g) : RepD S w (.s ((rows.drop i).take n)) v := by
  cases h with
  | ownNil => simp; exact .nil _ _
  | own _ _ _ _ g cap sz ty hgb hn hs hcap =>
    have hl : ((rows.drop i).take n).length = n := by simp; omega
    have hr := hB.rep b _ g hb hgb
    cases hr with
    | row _ _ arr ty' hh hk hlen h =>
      by_cases h0 : n = 0
      · subst h0; simp; exact .nil _ _
      · have hget : ∀ j row, ((rows.drop i).take n)[j]? = some row → rows[i + j]? = some row := fun j row hj => by
          have hjn : j < n := by have := (List.getElem?_eq_some_iff.1 hj).1; omega
          rwa [List.getElem?_take_of_lt hjn, List.getElem?_drop] at hj
        have := RepD.s (S := S) (w := w) ((rows.drop i).take n) g (i * k) k cap (fun j p => (arr[(i + j) * k + p]?).getD undef) (hg g hgb) (by rw [hl]; exact hn) (fun j row hj => hk (i + j) row (hget j row hj))
          (fun j p hj hp => by
            have hbd : (i + j) * k + p < arr.size := by
              have : (i + j) * k + p < rows.length * k := mul_lt_of (by omega) hp
              omega
            rw [cell_of_heap hh]
            have e : i * k + j * k + p = (i + j) * k + p := by rw [Nat.add_mul]
            rw [e, Array.getElem?_eq_getElem hbd]; rfl)
          (fun j p row d hj hp => by
            have hrow := hget j row hj
            have hjl : i + j < rows.length := (List.getElem?_eq_some_iff.1 hrow).1
            have hpk : p < k := by have := (List.getElem?_eq_some_iff.1 hp).1; rw [hk _ row hrow] at this; exact this
            have hbd : (i + j) * k + p < arr.size := by have := mul_lt_of hjl hpk; omega
            refine (h (i + j) p row d _ hrow hp ?_).mono hS (fun _ _ _ => rfl)
            rw [Array.getElem?_eq_getElem hbd]; rfl)
        rw [hl] at this
        exact this

/-- What slot t holds of the known array b is read from now on; the array is given up. -/
theorem turn_freeze {c : Ctx} {tl : List (Nat × AV)} {bl : List (Nat × Option Blk)} (t b : Nat) {i k n : Nat} {rows ys : List (List D)} (ht : look tl t = .own b i k n) (hb : lookB bl b = some (.row k rows))
    (hin : i + n ≤ rows.length) (hy : (rows.drop i).take n = ys) : Turns c ⟨tl, bl⟩ ⟨(t, .d (.s ys)) :: tl, (b, none) :: bl⟩ := fun E a w hr => by
  subst hy
  let S' : Nat → Prop := fun x => E.S x ∨ E.blk b = some x
  have hk : Keeps E ⟨E.blk, S'⟩ w w (fun _ => False) := ⟨fun _ h => .inl h, fun _ _ _ => rfl, fun _ _ => rfl, fun _ _ => rfl⟩
  have e : ∀ n, lookB ((b, none) :: bl) n = if n = b then none else lookB bl n := fun n => by
    have : lookB ((b, none) :: bl) n = bif Nat.beq b n then none else lookB bl n := rfl
    rw [this]
    by_cases h : n = b
    · subst h; simp
    · rw [natbeq_false (Ne.symm h), if_neg h]; rfl
  have old : ∀ n, lookB ((b, none) :: bl) n ≠ none → n ≠ b ∧ lookB bl n ≠ none := fun n hn => by
    rw [e] at hn
    by_cases h : n = b
    · rw [if_pos h] at hn; exact absurd rfl hn
    · rw [if_neg h] at hn; exact ⟨h, hn⟩
  have hbne : lookB bl b ≠ none := by rw [hb]; simp
  have ht' := hr.tms t
  rw [show look (St.mk tl bl).tl t = look tl t from rfl, ht] at ht'
  refine ⟨⟨E.blk, S'⟩, relE_cons hr t _ (.d (RepD_own hr.bks hb ht' hin S' (fun _ h => .inl h) (fun g hg => .inr hg))) (fun u => (hr.tms u).mono hk (fun _ h => h.elim)) ?_ (fun m g hm hg => ⟨m, (old m hm).2, hg⟩) (fun x hx => ?_) (fun _ h => .inl h) (fun _ _ => rfl)⟩
  · refine ⟨fun m B g h1 h2 => ?_, fun m B h1 h2 => ?_, fun m l g hm hl => hr.bks.inj m l g (old m hm).2 (old l hl).2, fun m g hm h1 hS => ?_, fun x hx => ?_⟩
    · have := old m (by rw [h1]; simp)
      rw [e, if_neg this.1] at h1
      exact (hr.bks.rep m B g h1 h2).mono hk rfl (fun _ h => h.elim)
    · have := old m (by rw [h1]; simp)
      rw [e, if_neg this.1] at h1
      exact hr.bks.unb m B h1 h2
    · obtain ⟨h2, h3⟩ := old m hm
      rcases hS with hS | hS
      · exact hr.bks.apart m g h3 h1 hS
      · exact h2 (hr.bks.inj m b g h3 hbne h1 hS)
    · rcases hx with hx | hx
      · exact hr.bks.bound x hx
      · exact (hr.bks.rep b _ x hb hx).lt
  · rcases hx with hx | hx
    · exact hr.S x hx
    · exact .inr (hr.names b x hbne hx)

end Go.Proofs.Ytencghlmckbmlaa
