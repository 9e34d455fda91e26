/- Walk: can (partly printed by gen.py). -/
import Derived.Test.YtencghlmckbmlaaRr
import Derived.Test.YtencghlmckbmlaaCan1
import Derived.Test.YtencghlmckbmlaaRecv1
set_option linter.unusedVariables false
set_option linter.unusedSimpArgs false
set_option maxRecDepth 100000
set_option maxHeartbeats 4000000
namespace Go.Proofs.Ytencghlmckbmlaa
open Go Go.RowKit

theorem level_b {w : Air} (h : AirOk w) {i j : Nat} (hi : i < w.radios.length) (hj : j < w.radios.length) : -2000 ≤ levelS w i j ∧ levelS w i j ≤ 300 := by
  have h1 := h.get hi
  have hp0 := h1.p0
  have hp1 := h1.p1
  have hr := root_le (((w.radios.getD i default).x - (w.radios.getD j default).x) * ((w.radios.getD i default).x - (w.radios.getD j default).x) + ((w.radios.getD i default).y - (w.radios.getD j default).y) * ((w.radios.getD i default).y - (w.radios.getD j default).y))
  have hls := loss_le hr.1 hr.2
  have hle : 385 ≤ lossS (distS (w.radios.getD i default).x (w.radios.getD i default).y (w.radios.getD j default).x (w.radios.getD j default).y) ∧ lossS (distS (w.radios.getD i default).x (w.radios.getD i default).y (w.radios.getD j default).x (w.radios.getD j default).y) ≤ 1345 := hls
  unfold levelS
  by_cases hs : w.shadow.length > 0
  · rw [if_pos hs]
    have hsl : w.shadow.length = w.radios.length := by rcases h.sh with h | h <;> omega
    have := shadow_b h (i := i) (j := j) (by omega) hj
    omega
  · rw [if_neg hs]; omega

def IsB (g : Nat) (v : Bool) (W : World) : Prop := ∃ ty, W.heap[g]? = some (.cells #[.bool v] ty (0, 0))
theorem IsB.rep {g : Nat} {v : Bool} {W : World} (h : IsB g v W) (E : Env) : BlkRep E W g (.var [.d (vb v)]) := by
  obtain ⟨ty, h⟩ := h
  refine .var _ _ ty h rfl fun i c x hc hx => ?_
  cases i with
  | zero => simp at hc hx; subst hc; subst hx; exact ⟨.d (.v _ rfl), rfl⟩
  | succ i => simp at hc
theorem isB_of {E : Env} {W : World} {g : Nat} {v : Bool} (h : BlkRep E W g (.var [.d (vb v)])) : IsB g v W := by
  cases h with
  | var _ arr ty hh hl h =>
    have hl : arr.size = 1 := hl
    have h0 := rep_val (h 0 _ _ rfl (Array.getElem?_eq_getElem (by omega))).1
    refine ⟨ty, ?_⟩
    have : arr = #[.bool v] := by
      apply Array.ext
      · simpa using hl
      · intro i h1 h2
        have : i = 0 := by omega
        subst this
        simpa using h0
    rw [← this]; exact hh
theorem IsB.lt {g : Nat} {v : Bool} {W : World} (h : IsB g v W) : g < W.heap.size := by
  obtain ⟨ty, h⟩ := h; exact (Array.getElem?_eq_some_iff.1 h).1
theorem IsB.ne {g l : Nat} {v : Bool} {W : World} (h : IsB g v W) {o : Obj} (hl : W.heap[l]? = some o) (ho : o.isCells = false) : g ≠ l := fun e => by
  subst e; obtain ⟨ty, h⟩ := h; rw [h] at hl; cases hl; cases ho
theorem IsB.of_eq {g : Nat} {v : Bool} {W W' : World} (h : IsB g v W) (e : W'.heap[g]? = W.heap[g]?) : IsB g v W' := by
  obtain ⟨ty, h⟩ := h; exact ⟨ty, e.trans h⟩

theorem kp_any {g : Nat} {A C : World} {row : Option Nat} (hgr : A.grownBy C row) (hr : ∀ r, row = some r → ∃ o : Obj, A.heap[r]? = some o ∧ o.isCells = false) : Kp g A C := by
  cases row with
  | none => exact kp_grown hgr
  | some r => exact kp_row hgr (hr r rfl)
theorem ext_any {B : Nat} {W0 A C : World} {row : Option Nat} (h : Ext (fun _ => False) W0 A) (hgr : A.grownBy C row) (hB : W0.heap.size ≤ B) (hr : ∀ r, row = some r → B ≤ r) : Ext (fun _ => False) W0 C := by
  have hb : ∀ b, b < W0.heap.size → C.heap[b]? = A.heap[b]? := fun b hb => hgr.block b (Nat.lt_of_lt_of_le hb h.size) fun e => by have := hr b e.symm; omega
  refine ⟨Nat.le_trans h.size hgr.size, fun b hlt hx => (hb b hlt).trans (h.block b hlt hx), fun b hlt => ?_, hgr.os.trans h.os, hgr.tape.trans h.tape, hgr.output.trans h.output⟩
  rw [← h.shape b hlt]
  unfold World.shape?; rw [hb b hlt]
theorem rep_clo2 {E : Env} {w : World} {f : Nat} {x y : AV} {u : Value} (h : Rep E w (.clo f [] [x, y]) u) : ∃ v1 v2, u = .func (.func f) #[] #[v1, v2] ∧ Rep E w x v1 ∧ Rep E w y v2 := by
  cases h with
  | clo _ _ _ fa ca h1 h2 h3 h4 =>
    have h2 : ca.size = 2 := h2
    have h1 : fa.size = 0 := h1
    refine ⟨ca[0], ca[1], ?_, h4 0 _ _ rfl (Array.getElem?_eq_getElem (by omega)), h4 1 _ _ rfl (Array.getElem?_eq_getElem (by omega))⟩
    have e1 : fa = #[] := Array.eq_empty_of_size_eq_zero h1
    have e2 : ca = #[ca[0], ca[1]] := by
      apply Array.ext
      · simpa using h2
      · intro i hi1 hi2
        have : i < 2 := by omega
        match i, this with
        | 0, _ => rfl
        | 1, _ => rfl
    rw [e1]; congr 1
theorem rop_env {E : Env} {w w' : World} {r : List D} {v : Value} {bk : Nat → Option Nat} (hb : ∀ b, E.S b → b < w.heap.size) (hbl : ∀ b, b < w.heap.size → w'.heap[b]? = w.heap[b]?) (h : Rep E w (.rop r) v) : Rep ⟨bk, E.S⟩ w' (.rop r) v := by
  have hc : ∀ b, E.S b → ∀ o, w'.cell? ⟨b, o, none⟩ = w.cell? ⟨b, o, none⟩ := fun b hS o => by unfold World.cell?; rw [hbl b (hb b hS)]
  cases h with
  | rop _ b o g h1 h2 h3 => exact .rop r b o g h1 (fun j hj => (hc b h1 _).trans (h2 j hj)) (fun j d hd => (h3 j d hd).mono (fun _ h => h) hc)
theorem rep_sendV {E : Env} {w : World} (x : Sending) : Rep E w x.av (sendV x) := by
  refine .agg _ _ rfl (fun i v hv => ?_) (fun i c v hc hv => ?_)
  · match i with
    | 0 => simp at hv; subst hv; rfl
    | 1 => simp at hv; subst hv; rfl
    | 2 => simp at hv; subst hv; rfl
    | 3 => simp at hv; subst hv; rfl
    | i + 4 => simp at hv
  · match i with
    | 0 => simp at hv hc; subst hv; subst hc; exact .d (.v _ rfl)
    | 1 => simp at hv hc; subst hv; subst hc; exact .d (.v _ rfl)
    | 2 => simp at hv hc; subst hv; subst hc; exact .d (.v _ rfl)
    | 3 => simp at hv hc; subst hv; subst hc; exact .d (.v _ rfl)
    | i + 4 => simp at hv

theorem store_last {id g : Nat} {n : Nat} {v b : Bool} {ty : TypeId} {pos : String} {after : Array Edge} {Q : Exit → Act → World → Prop} {a : Act} {W : World} (he : a.eval (.tmp 8) = .pointer (some ⟨g, 0, none⟩)) (hg : IsB g v W)
    (hq : ∀ W', IsB g b W' → Kp g W W' → (∀ k, k ≠ g → W'.heap[k]? = W.heap[k]?) → Ext (fun k => k = g) W W' → Q .normal a W') : (Code.region id #[⟨none, .store 4 (.tmp 8) (.const (.bool b)), ty, pos, after, none⟩] false).wpIn (FW none) n Try.prog Q a W := by
  obtain ⟨e, hh⟩ := hg
  have hst := run_storeAt_row (P := Try.prog) (t := 4) (n := 1) (g := g) (o := 0) (x := .bool b) (w := W) (sizeT rfl) hh rfl (fun v hv => by simp [Value.cells] at hv; subst hv; rfl) (by simp)
  have harr : (setAt (#[Value.bool v]).toList 0 (Value.bool b).cells.toList).toArray = #[.bool b] := by simp [setAt, Value.cells]
  rw [harr] at hst
  refine wpIn_region_lit (l := [_]) ?_
  unfold wpListIn
  rw [if_pos (by simp [Region.wanted])]
  refine ⟨fun _ _ => trivial, ?_⟩
  have hrun : ((⟨none, .store 4 (.tmp 8) (.const (.bool b)), ty, pos, after, none⟩ : Oper).semAt (FW none).round a.eval).run Try.prog W = .ok .skip (W.setRow g #[.bool b]) := by
    show (execOp a.eval ⟨none, .store 4 (.tmp 8) (.const (.bool b)), ty, pos, after, none⟩).run Try.prog W = _
    simp only [execOp, he, Sem.run_bind]
    rw [show a.eval (.const (.bool b)) = .bool b from rfl, hst]
    rfl
  rw [hrun]
  have hx : Ext (fun k => k = g) W (W.setRow g #[.bool b]) := ⟨by simp, fun k hk hx => setRow_other W g k _ hx, fun k _ => shape_setRow (arr' := #[Value.bool b]) hh rfl k, rfl, rfl, rfl⟩
  exact hq _ ⟨e, setRow_heap W g _ _ e (0, 0) hh⟩ (Ext.kp hx) (fun k hk => setRow_other W g k _ hk) hx

def canL (w : Air) (s : Sending) (i j : Nat) : List (Nat × AV) := [(4, .rop [.s (w.radios.map encRadio), .s (w.shadow.map encRow)]), (7, .rop [vi (j : Nat)]), (9, .rop (encS s)), (10, .rop [vi (levelS w s.node j)]), (8, .ptr 8 0 0 0)]
theorem canL_keep {w : Air} {s : Sending} {i j : Nat} : KeepT 8 (canL w s i j) (canL w s i j) := ⟨⟨rfl, rfl⟩, ⟨rfl, rfl⟩, ⟨rfl, rfl⟩, ⟨rfl, rfl⟩, ⟨rfl, rfl⟩, trivial⟩

theorem can_true {w : Air} {l : List Sending} {i j : Nat} {s : Sending} (hs : l.getD i default = s) (hh : hearsS w j s.node = true) (hn : decide (levelS w s.node j < s.need) = false) (h : ∀ x ∈ othersTo l i l.length, spoils w s j x = false) : canS w l i j = true := by
  unfold canS
  rw [hs, hh, hn]
  have : ((List.range l.length).any fun k => (k != i) && spoils w s j (l.getD k default)) = false := by
    rw [List.any_eq_false]
    intro k hk hc
    simp only [Bool.and_eq_true] at hc
    have := h (l.getD k default) (List.mem_map.2 ⟨k, List.mem_filter.2 ⟨hk, hc.1⟩, rfl⟩)
    rw [this] at hc; exact absurd hc.2 (by decide)
  rw [this]; rfl
theorem can_false {w : Air} {l : List Sending} {i j p : Nat} {s x : Sending} (hs : l.getD i default = s) (hp : p ≤ l.length) (hx : x ∈ othersTo l i p) (h : spoils w s j x = true) : canS w l i j = false := by
  unfold canS
  rw [hs]
  have : ((List.range l.length).any fun k => (k != i) && spoils w s j (l.getD k default)) = true := by
    rw [List.any_eq_true]
    obtain ⟨k, hk, rfl⟩ := List.mem_map.1 hx
    obtain ⟨h1, h2⟩ := List.mem_filter.1 hk
    exact ⟨k, by simp at h1 ⊢; omega, by rw [h2, h]; rfl⟩
  rw [this]; simp


theorem sp47 (w : Air) (l : List Sending) (i j : Nat) (h : AirOk w) (hL : ListOk w l) (hi : i < l.length) (hj : j < w.radios.length) : Spec Try.prog 47 [w.av, .d (.s (l.map encS)), .d (vi (i : Nat)), .d (vi (j : Nat))] [] (.d (vb (canS w l i j))) [] [] := by
  refine spec_reads rfl fun E W0 vals hargs hB => ?_
  obtain ⟨s, hs⟩ : ∃ s, l.getD i default = s := ⟨_, rfl⟩
  have hso : SendOk w s := hs ▸ hL.ok _ (mem_getD hi)
  have hl64 := hL.len
  have hnt : Try.f47.ntmps = 89 := by kernel_rfl
  refine (callsI (ro := none) (n := 10)).1 (callsIn_of_wp_marks Try.func47 rfl trivial ?_ rfl)
  have hrel : RelE ⟨89, [], fun _ => False, W0, E⟩ ⟨argT 0 [w.av, .d (.s (l.map encS)), .d (vi (i : Nat)), .d (vi (j : Nat))], []⟩ E { tmps := vals ++ Array.replicate (Try.f47.ntmps - vals.size) undef, defers := [] } W0 := rel_args (m := Try.f47.ntmps) hargs (blks_none hB) (fun n g h => absurd rfl h) (by rw [hnt]; rfl)
  refine (?_ : WpR 10 Try.prog _ _ _ ⟨[(0, w.av), (1, .d (.s (l.map encS))), (2, .d (vi (i : Nat))), (3, .d (vi (j : Nat)))], []⟩) _ _ _ hrel
  refine R_seq ?_
  refine R_regk rfl ?_
  refine seq1 (boxT rfl rfl rfl) rfl rfl ?_
  refine seq1 (boxT rfl rfl rfl) rfl rfl ?_
  refine seq1 (allocT rfl rfl) rfl rfl ?_
  refine ops_nil ?_
  refine R_seq ?_
  refine R_regk rfl ?_
  refine seqP (moveT rfl) rfl ?_
  refine seqP (moveT rfl) rfl ?_
  refine seqP (indexRT rfl rfl rfl (by omega) (show _ = some (encS s) from hs ▸ idx_getD (z := default) hi) rfl) rfl ?_
  refine seqP (loadRsT rfl rfl rfl rfl rfl) rfl ?_
  refine seq1 (allocT rfl rfl) rfl rfl ?_
  refine seq0 (storeVT rfl rfl rfl rfl rfl rfl rfl) ?_
  refine ops_nil ?_
  refine R_seq ?_
  refine R_regk rfl ?_
  refine seqP (loadVsT rfl rfl rfl rfl) rfl ?_
  refine seqP (fieldPT rfl rfl rfl) rfl ?_
  refine seqP (loadVT rfl rfl rfl rfl) rfl ?_
  refine seqP (loadVT rfl rfl rfl rfl) rfl ?_
  refine seqP (callT rfl rfl rfl (callB_of Try.func12 rfl) (sp12 w s.node j h hso.node hj) trivial) rfl ?_
  refine seqP (moveT rfl) rfl ?_
  refine seqP (extractT rfl rfl) rfl ?_
  refine seqP (extractT rfl rfl) rfl ?_
  refine seq1 (allocT rfl rfl) rfl rfl ?_
  refine seq0 (storeVT rfl rfl rfl rfl rfl rfl rfl) ?_
  refine seqP (assignT rfl) rfl ?_
  refine ops_nil ?_
  refine R_seq ?_
  refine R_seq ?_
  refine R_regk rfl ?_
  refine seqP (loadVsT rfl rfl rfl rfl) rfl ?_
  refine seqP (loadVT rfl rfl rfl rfl) rfl ?_
  refine seqP (fieldPT rfl rfl rfl) rfl ?_
  refine seqP (loadVT rfl rfl rfl rfl) rfl ?_
  refine seqP (callT rfl rfl rfl (callB_of Try.func13 rfl) (sp13 w j s.node h hso.node hj) trivial) rfl ?_
  refine seqP (moveT rfl) rfl ?_
  refine seqP (extractT rfl rfl) rfl ?_
  refine seqP (extractT rfl rfl) rfl ?_
  refine seqP (assignT rfl) rfl ?_
  refine seqP (assignT rfl) rfl ?_
  refine ops_nil ?_
  refine R_seq ?_
  refine R_regk rfl ?_
  refine seqP (moveT rfl) rfl ?_
  refine seqP (notT rfl) rfl ?_
  refine seqP (moveT rfl) rfl ?_
  refine seqM 4 (g := 45) (x := ?_) rfl rfl (fun Q g40 hJ => ?_) (fun Q g40 hJ => ?_) ?_
  rotate_left 1
  · -- taken
    refine seqP (loadVT rfl rfl rfl rfl) rfl ?_
    refine seqGy rfl rfl ?_
    refine seqP (fieldPT rfl rfl rfl) rfl ?_
    refine seqGy rfl rfl ?_
    refine seqP (loadVT rfl rfl rfl rfl) rfl ?_
    refine seqGy rfl rfl ?_
    refine seqP (intTT rfl rfl rfl) rfl ?_
    refine seqP (pickNT rfl rfl) rfl ?_
    refine hJ 5 _ ?_
    exact ⟨.inl rfl, .inl rfl, .inl rfl, .inl rfl, .inr (congrArg (fun b => AV.d (D.v (Value.bool b))) g40), rfl⟩
  · -- left
    refine seqGn rfl rfl ?_
    refine seqGn rfl rfl ?_
    refine seqGn rfl rfl ?_
    refine seqP (pickYT rfl rfl) rfl ?_
    refine hJ 5 _ ?_
    exact ⟨.inl rfl, .inl rfl, .inl rfl, .inl rfl, .inr (congrArg (fun b => AV.d (D.v (Value.bool b))) g40), rfl⟩
  refine ops_nil ?_
  refine R_if rfl (fun h45 => ?_) (fun h45 => ?_)
  · -- yes
    simp only [mOr] at h45
    refine R_seq ?_
    refine R_regk rfl ?_
    refine seq0 (storeVT rfl rfl rfl rfl rfl rfl rfl) ?_
    refine ops_nil ?_
    refine R_ret ?_
    have hcan : canS w l i j = false := by unfold canS; rw [hs]; revert h45; cases hearsS w j s.node <;> cases decide (levelS w s.node j < s.need) <;> simp
    intro E1 a1 w1 hr1
    show LeavesInM _ _ _ Try.f47 a1.tmps _ a1.defers .returning w1
    rw [hr1.defers]
    obtain ⟨u, hu, hrep⟩ := run_results hr1 (fn := Try.f47) (vs := [.d (vb false)]) (resl_scal rfl rfl rfl rfl resl_nil)
    exact ⟨u, hu, by rw [rep_val hrep, hcan], hr1.ext⟩
  · -- no
    simp only [mOr] at h45
    refine R_skip ?_
    refine R_seq ?_
    refine R_seq ?_
    refine R_regk rfl ?_
    refine seqP (moveT rfl) rfl ?_
    refine seqP (moveT rfl) rfl ?_
    refine seqP (callT rfl rfl rfl (callB_of Try.func107 rfl) (sp107 l i) trivial) rfl ?_
    refine ops_nil ?_
    refine R_block ?_
    refine R_turn (turn_rop 4 [.s (w.radios.map encRadio), .s (w.shadow.map encRow)] (tl' := [(4, .rop [.s (w.radios.map encRadio), .s (w.shadow.map encRow)]), (7, .ptr 7 0 0 0), (9, .ptr 9 0 0 0), (10, .ptr 10 0 0 0), (8, .ptr 8 0 0 0), (48, .clo 189 [] [.rop [.s (l.map encS)], .rop [vi (i : Nat)]])]) rfl ⟨rfl, rfl, rfl, rfl, rfl, rfl, trivial⟩) ?_
    refine R_turn (turn_rop 7 [vi (j : Nat)] (tl' := [(4, .rop [.s (w.radios.map encRadio), .s (w.shadow.map encRow)]), (7, .rop [vi (j : Nat)]), (9, .ptr 9 0 0 0), (10, .ptr 10 0 0 0), (8, .ptr 8 0 0 0), (48, .clo 189 [] [.rop [.s (l.map encS)], .rop [vi (i : Nat)]])]) rfl ⟨rfl, rfl, rfl, rfl, rfl, rfl, trivial⟩) ?_
    refine R_turn (turn_rop 9 (encS s) (tl' := [(4, .rop [.s (w.radios.map encRadio), .s (w.shadow.map encRow)]), (7, .rop [vi (j : Nat)]), (9, .rop (encS s)), (10, .ptr 10 0 0 0), (8, .ptr 8 0 0 0), (48, .clo 189 [] [.rop [.s (l.map encS)], .rop [vi (i : Nat)]])]) rfl ⟨rfl, rfl, rfl, rfl, rfl, rfl, trivial⟩) ?_
    refine R_turn (turn_rop 10 [vi (levelS w s.node j)] (tl' := (48, .clo 189 [] [.rop [.s (l.map encS)], .rop [vi (i : Nat)]]) :: canL w s i j) rfl ⟨rfl, rfl, rfl, rfl, rfl, rfl, trivial⟩) ?_
    refine R_turn (s' := ⟨(48, .clo 189 [] [.rop [.s (l.map encS)], .rop [vi (i : Nat)]]) :: canL w s i j, [(8, some (.var [.d (vb false)]))]⟩) (turn_sub ⟨⟨rfl, rfl, rfl, rfl, rfl, rfl, trivial⟩, ⟨rfl, trivial⟩⟩) ?_
    intro E1 a1 W1 hr1
    obtain ⟨v1, v2, hv, hv1, hv2⟩ : ∃ v1 v2, a1.tmps.getD 48 undef = .func (.func 189) #[] #[v1, v2] ∧ Rep E1 W1 (.rop [.s (l.map encS)]) v1 ∧ Rep E1 W1 (.rop [vi (i : Nat)]) v2 := rep_clo2 (hr1.tms 48)
    obtain ⟨g, hg, hp8⟩ : ∃ g, E1.blk 8 = some g ∧ a1.tmps.getD 8 undef = .pointer (some ⟨g, 0, none⟩) := by
      have h8 : Rep E1 W1 (.ptr 8 0 0 0) (a1.tmps.getD 8 undef) := hr1.tms 8
      generalize a1.tmps.getD 8 undef = u at h8
      cases h8 with
      | ptr _ _ _ _ g hg => exact ⟨g, hg, rfl⟩
    have hB1 : BlkRep E1 W1 g (.var [.d (vb false)]) := hr1.bks.rep 8 _ g rfl hg
    have hF1 : IsB g false W1 := isB_of hB1
    have hgS : ∀ b, E1.S b → b ≠ g := fun b hb e => by subst e; exact hr1.bks.apart 8 b (by rw [show lookB [(8, some (Blk.var [.d (vb false)]))] 8 = some (.var [.d (vb false)]) from rfl]; simp) hg hb
    have hgW : W0.heap.size ≤ g := by
      rcases hr1.names 8 g (by rw [show lookB [(8, some (Blk.var [.d (vb false)]))] 8 = some (.var [.d (vb false)]) from rfl]; simp) hg with h | h
      · exact h.elim
      · exact h
    have hX1 : Ext (fun _ => False) W0 W1 := hr1.ext
    have hR1 : RelE ⟨89, [8], (· = g), W1, E1⟩ ⟨canL w s i j, [(8, some (.var [.d (vb false)]))]⟩ E1 a1 W1 := rebase2 hr1 rfl ⟨⟨rfl, rfl⟩, ⟨rfl, rfl⟩, ⟨rfl, rfl⟩, ⟨rfl, rfl⟩, ⟨rfl, rfl⟩, trivial⟩ hgS (Kp.refl g W1) hg hB1
    have hmv : ∀ {A C : World} {v : Bool}, RelE ⟨89, [8], (· = g), A, E1⟩ ⟨canL w s i j, [(8, some (.var [.d (vb false)]))]⟩ E1 a1 A → Kp g A C → IsB g v C → RelE ⟨89, [8], (· = g), C, E1⟩ ⟨canL w s i j, [(8, some (.var [.d (vb v)]))]⟩ E1 a1 C := fun hr hk hb => rebase2 hr rfl canL_keep hgS hk hg (hb.rep E1)
    clear hr1
    obtain ⟨J0, hJ0⟩ : ∃ J0 : World → Prop, J0 = fun W => IsB g false W ∧ Ext (fun _ => False) W0 W ∧ RelE ⟨89, [8], (· = g), W, E1⟩ ⟨canL w s i j, [(8, some (.var [.d (vb false)]))]⟩ E1 a1 W := ⟨_, rfl⟩
    have hJm : ∀ A C row, J0 A → A.grownBy C row → (∀ r, row = some r → W1.heap.size ≤ r ∧ ∃ o : Obj, A.heap[r]? = some o ∧ o.isCells = false) → J0 C := fun A C row ha hgr hrow => by
      rw [hJ0] at ha ⊢
      obtain ⟨h1, h2, h3⟩ := ha
      have hF : IsB g false C := h1.of_eq (hgr.block g h1.lt fun e => by obtain ⟨_, o, ho, hc⟩ := hrow g e.symm; exact h1.ne ho hc rfl)
      exact ⟨hF, ext_any h2 hgr hX1.size fun r e => (hrow r e).1, hmv h3 (kp_any hgr fun r e => (hrow r e).2) hF⟩
    have hend : ∀ (D : Nat) (W : World) (v : Bool) (ds : List Deferred), W1.heap.size ≤ D → IsB g v W → Ext (fun _ => False) W0 W → RelE ⟨89, [8], (· = g), W, E1⟩ ⟨canL w s i j, [(8, some (.var [.d (vb v)]))]⟩ E1 a1 W → W.heap[D]? = some (.deferred (some [])) → canS w l i j = v →
        LeavesInM (FW none) 10 Try.prog Try.f47 a1.tmps (fun e w' => e = .returned (.bool (canS w l i j)) ∧ Ext (fun _ => False) W0 w') [{ target := .collected D, args := #[] }] .returning W := fun D W v ds hD hb hx hr hd hc => by
      refine ⟨by simp, .inl ⟨_, _, rfl, run_takeDeferred hd, ?_⟩⟩
      have hgD : g ≠ D := hb.ne hd rfl
      have hb2 : IsB g v (W.putObj D (.deferred none)) := hb.of_eq (World.putObj_heap_other hgD)
      have hr2 := rebase2 (B := .var [.d (vb v)]) hr rfl canL_keep hgS (kp_put hd rfl) hg (hb2.rep E1)
      obtain ⟨u, hu, hrep⟩ := run_results hr2 (fn := Try.f47) (vs := [.d (vb v)]) (resl_scal rfl rfl rfl rfl resl_nil)
      exact ⟨u, hu, by rw [rep_val hrep, hc], ext_any hx (grownBy_putObj' W D _) (Nat.le_refl _) fun r e => by cases e; exact Nat.le_trans hX1.size hD⟩
    have ha1 : a1.defers = [] := hR1.defers
    refine range_rule (n := 10) (enc := fun x => #[sendV x]) (by omega) (gf := 189) (lb := #[v1, v2]) hv (fun args w => run_callFunc (callB_of Try.func189 rfl) args w) (fun _ => rfl) (fun pre W => J0 W ∧ ∀ x ∈ pre, spoils w s j x = false) (fun pre W => J0 W ∧ ∃ x ∈ pre, spoils w s j x = true) g l.length (fun xs => xs = othersTo l i l.length) (fun pre => ∃ p, p ≤ l.length ∧ pre = othersTo l i p) (fun x => x ∈ l) hF1.lt
      (fun s A C row hs hgr hrow => ⟨hJm A C row hs.1 hgr hrow, hs.2⟩) (fun s A C row hs hgr hrow => ⟨hJm A C row hs.1 hgr hrow, hs.2⟩) ⟨by rw [hJ0]; exact ⟨hF1, hX1, hR1⟩, fun x hx => by cases hx⟩ ?_ ?_ ?_ ?_
    · -- the iterator
      intro lp J Jx W hb hJ hJx hY hj0
      exact it189 l i 9 lp g (by omega) E1.S W v1 v2 (rop_env hR1.bks.bound (fun b hlt => hb.block b hlt) hv1) (rop_env hR1.bks.bound (fun b hlt => hb.block b hlt) hv2) (fun b hS => Nat.lt_of_lt_of_le (hR1.bks.bound b hS) hb.size) (Nat.lt_of_lt_of_le hF1.lt hb.size) (fun hS => hgS g hS rfl) J Jx hJ hJx hY hj0
    · -- a round
      rintro lp pre x W hlp hxl ⟨hj, hpre⟩
      have hxo := hL.ok x hxl
      rw [hJ0] at hj
      obtain ⟨hF, hX, hr⟩ := hj
      have hput := put_av (d := 49) (v := x.av) (u := sendV x) (rebase0 (tl' := canL w s i j) hr rfl canL_keep hgS (Kp.refl g W)) (show 49 < 89 by decide) (rep_sendV x)
      have hact : ({ tmps := ((#[49] : Array Tmp).zip #[sendV x]).foldl (fun t (p, v) => t.setIfInBounds p v) a1.tmps, defers := [] } : Act) = a1.put (some 49) (sendV x) := by
        simp [Act.put, ha1]
      refine (congrArg (fun a => Code.wpIn _ _ _ _ _ a W) hact).mpr ?_
      refine wpIn_mono ((?_ : AWpI (some lp) 8 Try.prog _ _ (fun e s' => e = .normal ∧ Turns ⟨89, [8], fun _ => False, W, E1⟩ s' ⟨(14, .rop (encS x)) :: canL w s i j, []⟩) _) _ _ _ hput) fun e a₁ w₁ hl => ?_
      · -- the round's variable
          refine awpI_region rfl ?_
          refine seq1 (allocT rfl rfl) rfl rfl ?_
          refine seq0 (storeVT rfl rfl rfl rfl rfl rfl rfl) ?_
          refine ops_nil ?_
          refine ⟨rfl, ?_⟩
          refine Turns.trans (turn_rop 14 (encS x) (tl' := (14, .rop (encS x)) :: canL w s i j) rfl ⟨rfl, rfl, rfl, rfl, rfl, rfl, trivial⟩) ?_
          exact turn_sub ⟨⟨rfl, rfl, rfl, rfl, rfl, rfl, trivial⟩, trivial⟩
      obtain ⟨s', E', hr', rfl, ht⟩ := hl
      obtain ⟨E2, hr2⟩ := ht E' a₁ w₁ hr'
      refine ⟨ext_grown hr2.ext, fun W2 hgr hlpo => ?_⟩
      have hq2 : E2.blk 8 = some g := (hr2.given 8 (by simp)).trans hg
      have hS2 : ∀ b, E2.S b → b ≠ g := fun b hbS e => by
        subst e
        rcases hr2.S b hbS with h | h | h
        · exact hgS b h rfl
        · exact h
        · have h1 := hF.lt; have h2 : W.heap.size ≤ b := h; omega
      have hF3 : IsB g false w₁ := hF.of_eq (hr2.ext.block g hF.lt id)
      have hF4 : IsB g false W2 := by
        obtain ⟨o, ho, hc⟩ := hlpo
        exact hF3.of_eq (hgr.block g hF3.lt fun e => by cases e; exact hF3.ne ho hc rfl)
      have hr3 := rebase2 (tl' := (14, .rop (encS x)) :: canL w s i j) (B := .var [.d (vb false)]) hr2 rfl ⟨⟨rfl, rfl⟩, ⟨rfl, rfl⟩, ⟨rfl, rfl⟩, ⟨rfl, rfl⟩, ⟨rfl, rfl⟩, ⟨rfl, rfl⟩, trivial⟩ hS2 (kp_row hgr hlpo) hq2 (hF4.rep E2)
      refine wpIn_mono ((?_ : AWpI (some lp) 8 Try.prog _ _ (fun e s' => ((e = .normal ∧ spoils w s j x = false) ∨ (e = .ret ∧ spoils w s j x = true)) ∧ lookB s'.bl 8 = some (.var [.d (vb false)])) _) _ _ _ hr3) fun e a₃ w₃ hl => ?_
      · -- the round
          refine awpI_block ?_
          refine awpI_seq ?_
          refine awpI_seq ?_
          refine awpI_region rfl ?_
          refine seqP (loadRsT rfl rfl rfl rfl rfl) rfl ?_
          refine seqP (loadRsT rfl rfl rfl rfl rfl) rfl ?_
          refine seqP (callT rfl rfl rfl (callB_of Try.func106 rfl) (sp106 x s) trivial) rfl ?_
          refine seqP (notT rfl) rfl ?_
          refine ops_nil ?_
          refine awpI_if rfl (fun h53 => ?_) (fun h53 => ?_)
          · -- yes
            have h53 : overlapS x s = false := by simpa using h53
            refine awpI_exit ?_
            exact ⟨.inl ⟨rfl, by unfold spoils; rw [h53]; rfl⟩, rfl⟩
          · -- no
            have h53 : overlapS x s = true := by simpa using h53
            have hlb := level_b h hxo.node hj
            refine awpI_skip ?_
            refine awpI_seq ?_
            refine awpI_region rfl ?_
            refine seqP (loadRsT rfl rfl rfl rfl rfl) rfl ?_
            refine seqP (fieldRT rfl rfl rfl) rfl ?_
            refine seqP (loadRT rfl rfl rfl) rfl ?_
            refine seqP (loadRT rfl rfl rfl) rfl ?_
            refine seqP (callT rfl rfl rfl (callB_of Try.func12 rfl) (sp12 w x.node j h hxo.node hj) trivial) rfl ?_
            refine seqP (moveT rfl) rfl ?_
            refine seqP (extractT rfl rfl) rfl ?_
            refine seqP (extractT rfl rfl) rfl ?_
            refine seqP (assignT rfl) rfl ?_
            refine seqP (assignT rfl) rfl ?_
            refine ops_nil ?_
            refine awpI_seq ?_
            refine awpI_any [0, 1, 0, 4, 15, 31, 63, 0, 128, 0, 896, 1920, 3968, 8191, 16383] rfl rfl ?_
            refine .step (rb := []) (wb := []) (ml := []) (fieldRT rfl rfl rfl) rfl rfl rfl rfl rfl trivial ?_
            refine .step (rb := []) (wb := []) (ml := []) (loadRT rfl rfl rfl) rfl rfl rfl rfl rfl trivial ?_
            refine .step (rb := []) (wb := []) (ml := []) (fieldRT rfl rfl rfl) rfl rfl rfl rfl rfl trivial ?_
            refine .step (rb := []) (wb := []) (ml := []) (loadRT rfl rfl rfl) rfl rfl rfl rfl rfl trivial ?_
            refine .step (rb := []) (wb := []) (ml := []) (indexRT rfl rfl rfl (by omega) (idx_getD (z := default) hxo.node) rfl) rfl rfl rfl rfl rfl trivial ?_
            refine .step (rb := []) (wb := []) (ml := []) (fieldRT rfl rfl rfl) rfl rfl rfl rfl rfl trivial ?_
            refine .step (rb := []) (wb := []) (ml := []) (loadRT rfl rfl rfl) rfl rfl rfl rfl rfl trivial ?_
            refine .step (rb := []) (wb := []) (ml := []) (fieldRT rfl rfl rfl) rfl rfl rfl rfl rfl trivial ?_
            refine .step (rb := []) (wb := []) (ml := []) (loadRT rfl rfl rfl) rfl rfl rfl rfl rfl trivial ?_
            refine .step (rb := []) (wb := []) (ml := []) (loadRT rfl rfl rfl) rfl rfl rfl rfl rfl trivial ?_
            refine .step (rb := []) (wb := []) (ml := []) (indexRT rfl rfl rfl (by omega) (idx_getD (z := default) hj) rfl) rfl rfl rfl rfl rfl trivial ?_
            refine .step (rb := []) (wb := []) (ml := []) (fieldRT rfl rfl rfl) rfl rfl rfl rfl rfl trivial ?_
            refine .step (rb := []) (wb := []) (ml := []) (loadRT rfl rfl rfl) rfl rfl rfl rfl rfl trivial ?_
            refine .step (rb := []) (wb := []) (ml := []) (intTT rfl rfl rfl) rfl rfl rfl rfl rfl trivial ?_
            refine .step (rb := []) (wb := []) (ml := []) (assignT rfl) rfl rfl rfl rfl rfl trivial ?_
            refine .done (by decide +kernel) ?_
            refine awpI_seq ?_
            refine awpI_region rfl ?_
            refine seqP (fieldRT rfl rfl rfl) rfl ?_
            refine seqP (loadRT rfl rfl rfl) rfl ?_
            refine seqP (loadRT rfl rfl rfl) rfl ?_
            refine seqP (intTT rfl rfl rfl) rfl ?_
            refine seqP (moveT rfl) rfl ?_
            refine seqM 7 (g := 88) (x := ?_) rfl rfl (fun Q g80 hJ => ?_) (fun Q g80 hJ => ?_) ?_
            rotate_left 1
            · -- taken
              refine seqP (moveT rfl) rfl ?_
              refine seqGy rfl rfl ?_
              refine seqP (moveT rfl) rfl ?_
              refine seqM 4 (g := 87) (x := ?_) rfl rfl (fun Q g82 hJ => ?_) (fun Q g82 hJ => ?_) ?_
              rotate_left 1
              · -- taken
                refine seqP (loadRT rfl rfl rfl) rfl ?_
                refine seqGy rfl rfl ?_
                refine seqP (moveT rfl) rfl ?_
                refine seqGy rfl rfl ?_
                refine seqP (intnT rfl rfl rfl (wrap_i64 ⟨by omega, by omega⟩)) rfl ?_
                refine seqGy rfl rfl ?_
                refine seqP (intTT rfl rfl rfl) rfl ?_
                refine seqGy rfl rfl ?_
                refine seqP (pickYT rfl rfl) rfl ?_
                refine hJ 5 _ ?_
                exact ⟨.inl rfl, .inl rfl, .inl rfl, .inl rfl, .inr (congrArg (fun b => AV.d (D.v (Value.bool b))) g82), rfl⟩
              · -- left
                refine seqGn rfl rfl ?_
                refine seqGn rfl rfl ?_
                refine seqGn rfl rfl ?_
                refine seqGy rfl rfl ?_
                refine seqP (pickNT rfl rfl) rfl ?_
                refine hJ 5 _ ?_
                exact ⟨.inl rfl, .inl rfl, .inl rfl, .inl rfl, .inr (congrArg (fun b => AV.d (D.v (Value.bool b))) g82), rfl⟩
              refine seqP (pickNT rfl rfl) rfl ?_
              refine hJ 4 _ ?_
              exact ⟨.inl rfl, .inl rfl, .inl rfl, .inr (congrArg (fun b => AV.d (D.v (Value.bool b))) g80), rfl⟩
            · -- left
              refine seqGn rfl rfl ?_
              refine seqGo rfl rfl ?_
              refine seqGo rfl rfl ?_
              refine seqGo rfl rfl ?_
              refine seqGo rfl rfl ?_
              refine seqGn rfl rfl ?_
              refine seqP (pickYT rfl rfl) rfl ?_
              refine hJ 8 _ ?_
              exact ⟨.inl rfl, .inl rfl, .inl rfl, .inl rfl, .inl rfl, .inl rfl, .inl rfl, .inr (congrArg (fun b => AV.d (D.v (Value.bool b))) g80), rfl⟩
            refine ops_nil ?_
            refine awpI_if rfl (fun h88 => ?_) (fun h88 => ?_)
            · -- yes
              simp only [mOr, mAnd] at h88
              refine awpI_seq ?_
              refine awpI_region rfl ?_
              refine seq0 (storeVT rfl rfl rfl rfl rfl rfl rfl) ?_
              refine ops_nil ?_
              refine awpI_ret ?_
              exact ⟨.inr ⟨rfl, by unfold spoils; rw [h53, h88]; rfl⟩, rfl⟩
            · -- no
              simp only [mOr, mAnd] at h88
              refine awpI_skip ?_
              exact ⟨.inl ⟨rfl, by unfold spoils; rw [h53, h88]; rfl⟩, rfl⟩
      obtain ⟨s4, E4, hr4, hq4, hb4⟩ := hl
      have hq5 : E4.blk 8 = some g := (hr4.given 8 (by simp)).trans hq2
      have hF5 : IsB g false w₃ := isB_of (hr4.bks.rep 8 _ g hb4 hq5)
      have hX5 : Ext (fun _ => False) W0 w₃ := ext_trans_g (ext_any (hX.trans hr2.ext fun b _ h => h) hgr (Nat.le_refl _) fun r e => by cases e; exact Nat.le_trans hX1.size hlp) hr4.ext hgW
      have hJ5 : J0 w₃ := by
        rw [hJ0]
        exact ⟨hF5, hX5, hmv hr (((kp_grown (ext_grown hr2.ext)).trans (kp_row hgr hlpo)).trans (Ext.kp hr4.ext)) hF5⟩
      refine ⟨hr4.ext, ?_⟩
      rcases hq4 with ⟨rfl, hsp⟩ | ⟨rfl, hsp⟩
      · exact .inl ⟨rfl, hJ5, fun y hy => by
          rcases List.mem_append.1 hy with hy | hy
          · exact hpre y hy
          · simp at hy; subst hy; exact hsp⟩
      · exact .inr ⟨rfl, hJ5, x, by simp, hsp⟩
    · -- all rounds are done
      rintro D xs W hD rfl ⟨hj, hall⟩ hd
      rw [hJ0] at hj
      obtain ⟨hF, hX, hr⟩ := hj
      refine wpIn_seq (store_last (b := true) (g := g) (v := false) hp8 hF fun W' hb hk ho hx => ?_)
      refine wpIn_ret ?_
      have hd' : W'.heap[D]? = some (.deferred (some [])) := (ho D fun e => hF.ne hd rfl e.symm).trans hd
      show LeavesInM _ _ _ Try.f47 a1.tmps _ ({ target := .collected D, args := #[] } :: a1.defers) .returning W'
      rw [ha1]
      exact hend D W' true [] hD hb (ext_trans_g hX hx hgW) (hmv hr hk hb) hd' (can_true hs (by simpa using (Bool.or_eq_false_iff.1 h45).1) (Bool.or_eq_false_iff.1 h45).2 hall)
    · -- a round has said no
      rintro D pre W hD ⟨p, hp, rfl⟩ ⟨hj, x, hx, hsp⟩ hd
      rw [hJ0] at hj
      obtain ⟨hF, hX, hr⟩ := hj
      show LeavesInM _ _ _ Try.f47 a1.tmps _ ({ target := .collected D, args := #[] } :: a1.defers) .returning W
      rw [ha1]
      exact hend D W false [] hD hF hX hr hd (can_false hs hp hx hsp)

end Go.Proofs.Ytencghlmckbmlaa
