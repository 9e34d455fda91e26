/- The iterator others: its contract for every loop body that keeps all cells but one block's. -/
import Derived.Test.YtencghlmckbmlaaIter
import Derived.RangeFuncBound
set_option linter.unusedVariables false
set_option linter.unusedSimpArgs false
set_option maxRecDepth 100000
set_option maxHeartbeats 4000000
namespace Go.Proofs.Ytencghlmckbmlaa
open Go Go.RowKit

theorem rel_args {args : List AV} {vals : Array Value} {E : Env} {w : World} {N m : Nat} {X : Nat → Prop} {bl : List (Nat × Option Blk)} (ha : RepArgs E w args vals) (hB : Blks E w (lookB bl)) (hX : ∀ n g, lookB bl n ≠ none → E.blk n = some g → X g) (hN : max m args.length = N) : RelE ⟨N, [], X, w, E⟩ ⟨argT 0 args, bl⟩ E { tmps := vals ++ Array.replicate (m - vals.size) undef, defers := [] } w := by
  refine { size := ?_, defers := rfl, tms := fun t => ?_, bks := hB, ext := Ext.refl _ _, names := fun n g h h2 => .inl (hX n g h h2), S := fun _ h => .inl h, S0 := fun _ h => h, given := fun _ _ => rfl }
  · have := ha.len; simp; omega
  · rcases look_argT args 0 t with h1 | ⟨j, c, h1, h2, h3⟩
    · rw [show look (St.mk (argT 0 args) bl).tl t = look (argT 0 args) t from rfl, h1]; exact .any _
    · rw [show look (St.mk (argT 0 args) bl).tl t = look (argT 0 args) t from rfl, h3]
      have hj : j < args.length := (List.getElem?_eq_some_iff.1 h2).1
      have hl := ha.len
      have ht : t = j := by omega
      subst ht
      have hv : (vals ++ Array.replicate (m - vals.size) undef)[t]? = some vals[t] := by
        rw [Array.getElem?_append_left (by omega), Array.getElem?_eq_getElem (by omega)]
      have hv2 : (vals ++ Array.replicate (m - vals.size) undef).getD t undef = vals[t] := by
        rw [Array.getD_eq_getD_getElem?, hv]; rfl
      rw [hv2]
      exact ha.rep t c _ h2 (Array.getElem?_eq_getElem (by omega))
theorem blks_none {E : Env} {w : World} (hb : ∀ b, E.S b → b < w.heap.size) : Blks E w (lookB []) := ⟨fun n B g h => (by cases h), fun n B h => (by cases h), fun n m g h => absurd rfl h, fun n g h => absurd rfl h, hb⟩
theorem rArgs_cons {E : Env} {w : World} {c : AV} {cs : List AV} {v : Value} {vs : List Value} (h : Rep E w c v) (hs : RepArgs E w cs vs.toArray) : RepArgs E w (c :: cs) (v :: vs).toArray := by
  refine ⟨by have := hs.len; simp at this ⊢; exact this, fun i c' v' h1 h2 => ?_⟩
  cases i with
  | zero => simp at h1 h2; subst h1; subst h2; exact h
  | succ i => exact hs.rep i c' v' (by simpa using h1) (by simpa using h2)
theorem rArgs_nil {E : Env} {w : World} : RepArgs E w [] #[] := ⟨rfl, fun i c v h => by simp at h⟩

theorem lssY {P : Program} {s : St} {bk0 : Bk} {dst : Option Tmp} {ty : TypeId} {pos : String} {after : Array Edge} {gd : Option (Nat × Bool)} {t t' : TypeId} {x y : Operand} {k : IntKind} {a b : Int} (hx : evalO s x = some (.d (.v (.int k a)))) (hy : evalO s y = some (.d (.v (.int k b)))) (h : a < b) : Step P ⟨dst, .binOp .lss t x y t', ty, pos, after, gd⟩ (evalA s) bk0 (.d (.v (.bool true))) [] [] := step_int (ev hx) (ev hy) (by simp only [intV, decide_eq_true h])
theorem neqYT {P : Program} {s : St} {bk0 : Bk} {dst : Option Tmp} {ty : TypeId} {pos : String} {after : Array Edge} {gd : Option (Nat × Bool)} {t t' : TypeId} {x y : Operand} {k : IntKind} {a b : Int} (hx : evalO s x = some (.d (.v (.int k a)))) (hy : evalO s y = some (.d (.v (.int k b)))) (h : a ≠ b) : Step P ⟨dst, .binOp .neq t x y t', ty, pos, after, gd⟩ (evalA s) bk0 (.d (.v (.bool true))) [] [] := step_int (ev hx) (ev hy) (by simp [intV, h])

theorem put_bool {c : Ctx} {tl : List (Nat × AV)} {bl : List (Nat × Option Blk)} {E : Env} {a : Act} {w : World} {d : Nat} {b : Bool} (hr : RelE c ⟨tl, bl⟩ E a w) (hd : d < c.N) : RelE c ⟨(d, .d (.v (.bool b))) :: tl, bl⟩ E (a.put (some d) (.bool b)) w := by
  have hg : Grow E E w w (lookB bl) (fun _ => False) := ⟨fun _ h => h, fun _ h => .inl h, fun _ _ => rfl, Ext.refl _ _⟩
  refine RelF.put hr hg hr.bks (fun n g hn h => .inl ⟨n, hn, h⟩) (fun n h => h.elim) (some d) (fun d' h => by cases h; exact hd) (.d (.v (.bool b))) (.bool b) (.d (.v _ rfl)) _ fun t => ?_
  by_cases h : d = t
  · subst h; exact .inl ⟨rfl, by show (bif Nat.beq d d then _ else _) = _; simp⟩
  · exact .inr (.inr ⟨by simpa using h, by show (bif Nat.beq d t then _ else _) = _; rw [natbeq_false h]; rfl, fun n h => h.elim⟩)

/-- A round of the iterator's own loop, up to what is handed over. -/
theorem it189 (l : List Sending) (i n lp g : Nat) (hl : l.length ≤ 1000) (S0 : Nat → Prop) (W : World) (v1 v2 : Value) (h1 : Rep ⟨fun _ => none, S0⟩ W (.rop [.s (l.map encS)]) v1) (h2 : Rep ⟨fun _ => none, S0⟩ W (.rop [vi (i : Nat)]) v2)
    (hb : ∀ b, S0 b → b < W.heap.size) (hg : g < W.heap.size) (hgS : ¬ S0 g) (J Jx : List Sending → World → Prop) (hJ : AbidesFrom W.heap.size J) (hJx : AbidesFrom W.heap.size Jx)
    (hY : ∀ pre x W1, x ∈ l → J pre W1 → pre.length < l.length → YieldAt (FW none) (n - 1) Try.prog lp #[sendV x] W1 fun e W' => (e = .returned (.bool true) ∧ J (pre ++ [x]) W' ∧ Kp g W1 W') ∨ (e = .returned (.bool false) ∧ Jx (pre ++ [x]) W')) (h0 : J [] W) :
    CallsIn (FW none) n Try.prog 189 #[.func (.yield lp) #[] #[], v1, v2] W fun e W' => (∃ v, e = .returned v) ∧ ((∃ xs, xs = othersTo l i l.length ∧ J xs W') ∨ (∃ pre, (∃ p, p ≤ l.length ∧ pre = othersTo l i p) ∧ Jx pre W')) := by
  refine callsIn_of_wp Try.func189 rfl trivial ?_ rfl
  have hJg : ∀ {pre : List Sending} {A B : World}, J pre A → Ext (fun _ => False) A B → J pre B := fun hj he => hJ _ _ _ none hj (ext_grown he) (fun r e => by cases e)
  have hnt : Try.f189.ntmps = 23 := by kernel_rfl
  have hrel : RelE (itC S0 W) ⟨[(0, .d (.v (.func (.yield lp) #[] #[]))), (1, .rop [.s (l.map encS)]), (2, .rop [vi (i : Nat)])], []⟩ ⟨fun _ => none, S0⟩ { tmps := #[.func (.yield lp) #[] #[], v1, v2] ++ Array.replicate (Try.f189.ntmps - 3) undef, defers := [] } W := by
    have ha : RepArgs ⟨fun _ => none, S0⟩ W [.d (.v (.func (.yield lp) #[] #[])), .rop [.s (l.map encS)], .rop [vi (i : Nat)]] #[.func (.yield lp) #[] #[], v1, v2] := rArgs_cons (.d (.v _ rfl)) (rArgs_cons h1 (rArgs_cons h2 rArgs_nil))
    exact rel_args (m := Try.f189.ntmps) (N := 23) (X := fun _ => False) ha (blks_none hb) (fun n g h => absurd rfl h) (by rw [hnt]; rfl)
  refine (R_seq ?_) _ _ _ hrel
  refine R_region (fun s' => Turns (itC S0 W) s' (itS l i lp 0)) rfl ?_ ?_
  · refine seqP (loadRT rfl rfl rfl) rfl ?_
    refine seqP (lenRT rfl rfl (List.length_map ..)) rfl ?_
    refine seqP (moveT rfl) rfl ?_
    refine ops_nil ?_
    exact turn_sub ⟨⟨rfl, rfl, rfl, rfl, rfl, rfl, trivial⟩, trivial⟩
  intro s' ht E a w hr
  obtain ⟨E', hr'⟩ := ht E a w hr
  have hS' : ∀ b, E'.S b → b ≠ g := fun b hbS e => by
    subst e
    rcases hr'.S b hbS with h | h | h
    · exact hgS h
    · exact h
    · exact absurd hg (by have : W.heap.size ≤ b := h; omega)
  refine wpIn_block (wpIn_loop (fun a w => ∃ (p : Nat) (S : Nat → Prop), p ≤ l.length ∧ (∀ b, S b → b ≠ g) ∧ RelE (itC S w) (itS l i lp p) ⟨fun _ => none, S⟩ a w ∧ J (othersTo l i p) w ∧ W.heap.size ≤ w.heap.size) (itMu l) ?_ ?_)
  · exact ⟨0, E'.S, Nat.zero_le _, hS', rebase hr' rfl (fun t => by
      match t with
      | 0 => exact .inr ⟨rfl, .inl ⟨_, rfl⟩⟩
      | 1 => exact .inr ⟨rfl, .inr ⟨_, rfl⟩⟩
      | 2 => exact .inr ⟨rfl, .inr ⟨_, rfl⟩⟩
      | 3 => exact .inl rfl
      | 4 => exact .inl rfl
      | 5 => exact .inl rfl
      | 6 => exact .inr ⟨rfl, .inl ⟨_, rfl⟩⟩
      | 7 => exact .inr ⟨rfl, .inl ⟨_, rfl⟩⟩
      | 8 => exact .inr ⟨rfl, .inl ⟨_, rfl⟩⟩
      | t + 9 => exact .inl rfl) hS' (Kp.refl g w), hJg h0 hr'.ext, hr'.ext.size⟩
  rintro a w ⟨p, S, hp, hS, hr, hj, hsz⟩
  have hmu : itMu l a w = l.length - p := itMu_eq hr rfl
  by_cases hpl : p < l.length
  · obtain ⟨x, hx⟩ : ∃ x, l.getD p default = x := ⟨_, rfl⟩
    have hxr : (l.map encS)[((p : Nat) : Int).toNat]? = some (encS x) := hx ▸ idx_getD (z := default) hpl
    refine (R_seq ?_) _ _ _ hr
    refine R_region (fun s' => s' = ⟨(9, .d (vb true)) :: (itS l i lp p).tl, []⟩) rfl (seqP (lssY rfl rfl (by omega)) rfl (ops_nil rfl)) ?_
    rintro s' rfl E1 a1 w1 hr1
    refine (R_seq ?_) _ _ _ hr1
    refine R_ifY rfl ?_
    intro E2 a2 w2 hr2
    refine wpIn_skip ?_
    refine (R_seq ?_) _ _ _ hr2
    refine R_block (R_seq ?_)
    refine R_region (fun s' => Turns (itC S w) s' ⟨[(0, .d (.v (.func (.yield lp) #[] #[]))), (1, .rop [.s (l.map encS)]), (2, .rop [vi (i : Nat)]), (6, .d (.s (l.map encS))), (7, .d (vi l.length)), (8, .d (vi (p : Nat))), (4, .d (vi (p : Nat))), (5, .ptr 5 0 0 0)], [(5, some (.var x.cells))]⟩) rfl ?_ ?_
    · refine seqP (moveT rfl) rfl ?_
      refine seqP (indexRT rfl rfl rfl (by omega) hxr rfl) rfl ?_
      refine seqP (loadRsT rfl rfl rfl rfl rfl) rfl ?_
      refine seq1 (allocT rfl rfl) rfl rfl ?_
      refine seqP (assignT rfl) rfl ?_
      refine seq0 (storeVT rfl rfl rfl rfl rfl rfl rfl) ?_
      refine ops_nil ?_
      exact turn_sub ⟨⟨rfl, rfl, rfl, rfl, rfl, rfl, rfl, rfl, trivial⟩, ⟨rfl, trivial⟩⟩
    intro s3 ht3 E3 a3 w3 hr3
    obtain ⟨E4, hr4⟩ := ht3 E3 a3 w3 hr3
    have hw3 : Ext (fun _ => False) w w3 := hr4.ext
    have hj3 : J (othersTo l i p) w3 := hJg hj hw3
    have hgw : g < w.heap.size := Nat.lt_of_lt_of_le hg hsz
    have hS4 : ∀ b, E4.S b → b ≠ g := fun b hbS e => by
      subst e
      rcases hr4.S b hbS with h | h | h
      · exact hS b h rfl
      · exact h
      · have : w.heap.size ≤ b := h; omega
    refine wpIn_seq (wpIn_mono (Q := fun e a5 w5 => e = .normal ∧ ∃ (c : Ctx) (E : Env) (bv : Bool), c.N = 23 ∧ RelE c ⟨(21, .d (.v (.bool bv))) :: (bif bv then [] else (itS l i lp p).tl), []⟩ E a5 w5 ∧ (bv = false → (∀ b, E.S b → b ≠ g) ∧ w.heap.size ≤ w5.heap.size ∧ J (othersTo l i (p + 1)) w5) ∧ (bv = true → ∃ pre, (∃ p, p ≤ l.length ∧ pre = othersTo l i p) ∧ Jx pre w5)) ?_ ?_)
    · by_cases hpi : p = i
      · refine (R_region (c := itC S w) (fun s' => Turns (itC S w) s' ⟨(21, .d (.v (.bool false))) :: (itS l i lp p).tl, []⟩) rfl ?_ ?_) _ _ _ hr4
        · refine seqP (moveT rfl) rfl ?_
          refine seqP (loadRT rfl rfl rfl) rfl ?_
          refine seqP (neqFT rfl rfl (by omega)) rfl ?_
          refine seqP (moveT rfl) rfl ?_
          refine seqGn rfl rfl ?_
          refine seqGn rfl rfl ?_
          refine seqGn rfl rfl ?_
          refine seqGn rfl rfl ?_
          refine seqP (pickNT rfl rfl) rfl ?_
          refine ops_nil ?_
          exact turn_sub ⟨⟨rfl, rfl, rfl, rfl, rfl, rfl, rfl, trivial⟩, trivial⟩
        · intro s5 ht5 E5 a5 w5 hr5
          obtain ⟨E6, hr6⟩ := ht5 E5 a5 w5 hr5
          refine ⟨rfl, itC S w, E6, false, rfl, hr6, fun _ => ⟨fun b hbS e => ?_, hr6.ext.size, ?_⟩, fun h => by cases h⟩
          · subst e
            rcases hr6.S b hbS with h | h | h
            · exact hS b h rfl
            · exact h
            · have : w.heap.size ≤ b := h; omega
          · rw [others_no hpi]; exact hJg hj hr6.ext
      · refine wpIn_region_lit (l := _) ?_
        refine listCut (l1 := [_, _, _, _, _, _]) (l2 := [_, _, _]) (Q' := lift (itC S w) (nrmS fun s' => Turns (itC S w) s' ⟨[(0, .d (.v (.func (.yield lp) #[] #[]))), (1, .rop [.s (l.map encS)]), (2, .rop [vi (i : Nat)]), (6, .d (.s (l.map encS))), (7, .d (vi l.length)), (8, .d (vi (p : Nat))), (16, .d (.v (.bool true))), (17, .d (.v (.func (.yield lp) #[] #[]))), (18, x.av)], []⟩)) ?_ nrmS_out ?_
        · rintro e a5 w5 ⟨s5, E5, hr5, hq5⟩
          cases e <;> first | exact hq5.elim | skip
          obtain ⟨E6, hr6⟩ := hq5 E5 a5 w5 hr5
          refine ⟨rfl, ?_⟩
          have hj5 : J (othersTo l i p) w5 := hJg hj hr6.ext
          have hsz6 : w.heap.size ≤ w5.heap.size := hr6.ext.size
          have hS6 : ∀ b, E6.S b → b ≠ g := fun b hbS e => by
            subst e
            rcases hr6.S b hbS with h | h | h
            · exact hS b h rfl
            · exact h
            · have : w.heap.size ≤ b := h; omega
          unfold wpListIn
          rw [if_pos (wanted_of hr6 rfl rfl rfl)]
          refine run_yield_op (f := .tmp 17) (x := .tmp 18) (rep_val (RelF.eval hr6 (.tmp 17))) (rep_send (RelF.eval hr6 (.tmp 18))) ?_
          refine YieldAt.mono (hY (othersTo l i p) x w5 (hx ▸ mem_getD hpl) hj5 (by have := others_len (l := l) (i := i) (p := p); omega)) fun e W' h => ?_
          rcases h with ⟨rfl, hj7, hk⟩ | ⟨rfl, hjx⟩
          · refine ⟨.bool true, rfl, ?_⟩
            have hrb : RelE (itC E6.S W') ⟨(16, .d (.v (.bool true))) :: (itS l i lp p).tl, []⟩ ⟨fun _ => none, E6.S⟩ a5 W' := rebase hr6 rfl (fun t => by
              match t with
              | 0 => exact .inr ⟨rfl, .inl ⟨_, rfl⟩⟩
              | 1 => exact .inr ⟨rfl, .inr ⟨_, rfl⟩⟩
              | 2 => exact .inr ⟨rfl, .inr ⟨_, rfl⟩⟩
              | 3 => exact .inl rfl
              | 4 => exact .inl rfl
              | 5 => exact .inl rfl
              | 6 => exact .inr ⟨rfl, .inl ⟨_, rfl⟩⟩
              | 7 => exact .inr ⟨rfl, .inl ⟨_, rfl⟩⟩
              | 8 => exact .inr ⟨rfl, .inl ⟨_, rfl⟩⟩
              | 9 => exact .inl rfl
              | 10 => exact .inl rfl
              | 11 => exact .inl rfl
              | 12 => exact .inl rfl
              | 13 => exact .inl rfl
              | 14 => exact .inl rfl
              | 15 => exact .inl rfl
              | 16 => exact .inr ⟨rfl, .inl ⟨_, rfl⟩⟩
              | t + 17 => exact .inl rfl) hS6 hk
            have hr7 := put_bool (d := 19) (b := true) hrb (show 19 < 23 by decide)
            refine listCut (l1 := [_, _]) (l2 := []) (Q' := lift (itC E6.S W') (nrmS fun s' => Turns (itC E6.S W') s' ⟨(21, .d (.v (.bool false))) :: (itS l i lp p).tl, []⟩)) ?_ nrmS_out (listI nrmS_out rfl ((?_ : Ops Try.prog (itC E6.S W') _ _ (nrmS _) _) _ _ _ hr7))
            · rintro e a8 w8 ⟨s8, E8, hr8, hq8⟩
              cases e <;> first | exact hq8.elim | skip
              obtain ⟨E9, hr9⟩ := hq8 E8 a8 w8 hr8
              have hsz9 : W'.heap.size ≤ w8.heap.size := hr9.ext.size
              have hszk := hk.size
              refine ⟨rfl, rfl, itC E6.S W', E9, false, rfl, hr9, fun _ => ⟨fun b hbS e => ?_, by omega, ?_⟩, fun h => by cases h⟩
              · subst e
                rcases hr9.S b hbS with h | h | h
                · exact hS6 b h rfl
                · exact h
                · have : W'.heap.size ≤ b := h; omega
              · rw [others_yes hpi, hx]; exact hJg hj7 hr9.ext
            · refine seqGy rfl rfl ?_
              refine seqP (notYT rfl) rfl ?_
              refine seqP (pickYT rfl rfl) rfl ?_
              refine ops_nil ?_
              exact turn_sub ⟨⟨rfl, rfl, rfl, rfl, rfl, rfl, rfl, trivial⟩, trivial⟩
          · refine ⟨.bool false, rfl, ?_⟩
            have hrb : RelE (itC (fun _ => False) W') ⟨[(16, .d (.v (.bool true)))], []⟩ ⟨fun _ => none, fun _ => False⟩ a5 W' := by
              refine { size := hr6.size, defers := hr6.defers, tms := fun t => ?_, bks := blks_none fun b h => h.elim, ext := Ext.refl _ _, names := fun n g h => absurd rfl h, S := fun b h => h.elim, S0 := fun b h => h, given := fun n h => (by cases h) }
              by_cases ht : t = 16
              · subst ht
                have h16 : a5.tmps.getD 16 undef = .bool true := rep_val (RelF.eval hr6 (.tmp 16))
                show Rep _ _ (.d (.v (.bool true))) _
                rw [h16]; exact .d (.v _ rfl)
              · have : look [(16, AV.d (.v (.bool true)))] t = .any := by
                  show (bif Nat.beq 16 t then _ else _) = _
                  rw [natbeq_false (Ne.symm ht)]; rfl
                show Rep _ _ (look [(16, AV.d (.v (.bool true)))] t) _
                rw [this]; exact .any _
            have hr7 := put_bool (d := 19) (b := false) hrb (show 19 < 23 by decide)
            refine listCut (l1 := [_, _]) (l2 := []) (Q' := lift (itC (fun _ => False) W') (nrmS fun s' => Turns (itC (fun _ => False) W') s' ⟨[(21, .d (.v (.bool true)))], []⟩)) ?_ nrmS_out (listI nrmS_out rfl ((?_ : Ops Try.prog (itC (fun _ => False) W') _ _ (nrmS _) _) _ _ _ hr7))
            · rintro e a8 w8 ⟨s8, E8, hr8, hq8⟩
              cases e <;> first | exact hq8.elim | skip
              obtain ⟨E9, hr9⟩ := hq8 E8 a8 w8 hr8
              have hjx9 : Jx (othersTo l i p ++ [x]) w8 := hJx _ _ _ none hjx (ext_grown hr9.ext) (fun r e => by cases e)
              exact ⟨rfl, rfl, itC (fun _ => False) W', E9, true, rfl, hr9, fun h => (by cases h), fun _ => ⟨_, ⟨p + 1, by omega, by rw [others_yes hpi, hx]⟩, hjx9⟩⟩
            · refine seqGy rfl rfl ?_
              refine seqP (notNT rfl) rfl ?_
              refine seqP (pickYT rfl rfl) rfl ?_
              refine ops_nil ?_
              exact turn_sub ⟨⟨rfl, trivial⟩, trivial⟩
        · refine listI nrmS_out rfl ((?_ : Ops Try.prog (itC S w) _ _ (nrmS _) _) _ _ _ hr4)
          refine seqP (moveT rfl) rfl ?_
          refine seqP (loadRT rfl rfl rfl) rfl ?_
          refine seqP (neqYT rfl rfl (by omega)) rfl ?_
          refine seqP (moveT rfl) rfl ?_
          refine seqGy rfl rfl ?_
          refine seqP (moveT rfl) rfl ?_
          refine seqGy rfl rfl ?_
          refine seqP (loadVsT rfl rfl rfl rfl) rfl ?_
          refine ops_nil ?_
          exact turn_sub ⟨⟨rfl, rfl, rfl, rfl, rfl, rfl, rfl, rfl, rfl, trivial⟩, trivial⟩
    · rintro e a5 w5 ⟨rfl, c, E5, bv, hcN, hr5, hf, hb5⟩
      cases bv with
      | true =>
        obtain ⟨pre, hpre, hjx⟩ := hb5 rfl
        have he : a5.eval (.tmp 21) = .bool true := rep_val (RelF.eval (s := ⟨(21, .d (.v (.bool true))) :: [], []⟩) hr5 (.tmp 21))
        refine wpIn_cond_true he (wpIn_ret ?_)
        exact ⟨hr5.defers, .tuple #[], results_none rfl _ _ _, ⟨_, rfl⟩, .inr ⟨pre, hpre, hjx⟩⟩
      | false =>
        have he : a5.eval (.tmp 21) = .bool false := rep_val (RelF.eval (s := ⟨(21, .d (.v (.bool false))) :: (itS l i lp p).tl, []⟩) hr5 (.tmp 21))
        refine wpIn_cond_false he (wpIn_skip ?_)
        obtain ⟨hS5, hsz5, hj5⟩ := hf rfl
        have hr6 : RelE (itC E5.S w5) (itS l i lp p) ⟨fun _ => none, E5.S⟩ a5 w5 := rebase hr5 hcN (fun t => by
          match t with
          | 0 => exact .inr ⟨rfl, .inl ⟨_, rfl⟩⟩
          | 1 => exact .inr ⟨rfl, .inr ⟨_, rfl⟩⟩
          | 2 => exact .inr ⟨rfl, .inr ⟨_, rfl⟩⟩
          | 3 => exact .inl rfl
          | 4 => exact .inl rfl
          | 5 => exact .inl rfl
          | 6 => exact .inr ⟨rfl, .inl ⟨_, rfl⟩⟩
          | 7 => exact .inr ⟨rfl, .inl ⟨_, rfl⟩⟩
          | 8 => exact .inr ⟨rfl, .inl ⟨_, rfl⟩⟩
          | t + 9 => exact .inl rfl) hS5 (Kp.refl g w5)
        refine (R_region (c := itC E5.S w5) (fun s' => Turns (itC E5.S w5) s' (itS l i lp (p + 1))) rfl ?_ ?_) _ _ _ hr6
        · refine seqP (intnT rfl rfl rfl (wrap_succ (by omega))) rfl ?_
          refine seqP (moveT rfl) rfl ?_
          refine ops_nil ?_
          exact turn_sub ⟨⟨rfl, rfl, rfl, rfl, rfl, rfl, trivial⟩, trivial⟩
        · intro s7 ht7 E7 a7 w7 hr7
          obtain ⟨E8, hr8⟩ := ht7 E7 a7 w7 hr7
          have hS8 : ∀ b, E8.S b → b ≠ g := fun b hbS e => by
            subst e
            rcases hr8.S b hbS with h | h | h
            · exact hS5 b h rfl
            · exact h
            · have : w5.heap.size ≤ b := h; omega
          have hsz8 : w5.heap.size ≤ w7.heap.size := hr8.ext.size
          refine ⟨⟨p + 1, E8.S, by omega, hS8, rebase hr8 rfl (fun t => by
            match t with
            | 0 => exact .inr ⟨rfl, .inl ⟨_, rfl⟩⟩
            | 1 => exact .inr ⟨rfl, .inr ⟨_, rfl⟩⟩
            | 2 => exact .inr ⟨rfl, .inr ⟨_, rfl⟩⟩
            | 3 => exact .inl rfl
            | 4 => exact .inl rfl
            | 5 => exact .inl rfl
            | 6 => exact .inr ⟨rfl, .inl ⟨_, rfl⟩⟩
            | 7 => exact .inr ⟨rfl, .inl ⟨_, rfl⟩⟩
            | 8 => exact .inr ⟨rfl, .inl ⟨_, rfl⟩⟩
            | t + 9 => exact .inl rfl) hS8 (Kp.refl g w7), hJg hj5 hr8.ext, by omega⟩, ?_⟩
          rw [hmu, itMu_eq hr8 rfl]; omega
  · obtain rfl : l.length = p := by omega
    refine (R_seq ?_) _ _ _ hr
    refine R_region (fun s' => s' = ⟨(9, .d (vb false)) :: (itS l i lp l.length).tl, []⟩) rfl (seqP (lssF rfl rfl (by omega)) rfl (ops_nil rfl)) ?_
    rintro s' rfl E1 a1 w1 hr1
    refine (R_seq ?_) _ _ _ hr1
    refine R_ifN rfl ?_
    intro E2 a2 w2 hr2
    refine wpIn_exit ?_
    exact ⟨hr2.defers, .tuple #[], results_none rfl _ _ _, ⟨_, rfl⟩, .inl ⟨_, rfl, hJg hj hr2.ext⟩⟩
end Go.Proofs.Ytencghlmckbmlaa
