/- Walks: wispFlow.items, its result read only; wispFlow.move (printed by gen.py). -/
import Derived.Test.YtencghlmckbmlaaFlow1
set_option linter.unusedVariables false
set_option linter.unusedSimpArgs false
set_option maxRecDepth 100000
namespace Go.Proofs.Ytencghlmckbmlaa
open Go Go.RowKit

def ItemOk (x : Item) : Prop := -1099511627776 ≤ x.id ∧ x.id ≤ 1099511627776 ∧ 0 ≤ x.at_ ∧ x.at_ ≤ 1099511627776 ∧ 0 ≤ x.bytes ∧ x.bytes ≤ 2304

/-- A flow's numbers. -/
structure Par where
  n : Nat
  first : Nat
  later : Int
  names : Int

def slot (p : Par) (N : Int) : Nat := ((N % p.n + p.first) % p.n).toNat
def busyOf (qs : List Fifo) : List Bool := qs.map fun q => decide ((q.items.length : Int) > 0)
instance : Inhabited Fifo := ⟨Fifo.zero⟩

structure Told where
  who : Int
  items : List Item
  e : Int
  ok : Bool

def moveS (p : Par) (ts : Shares) (qs : List Fifo) (m : Mv) (id now : Int) : Told × Shares × List Fifo :=
  if m.kind % 8 = 0 ∨ m.kind % 8 = 1 ∨ m.kind % 8 = 2 then
    (⟨m.n % p.n, [], (putS (qs.getD (slot p m.n) default) (id + p.names) (m.n % 2305) (now + p.later)).2, true⟩, ts,
      if (putS (qs.getD (slot p m.n) default) (id + p.names) (m.n % 2305) (now + p.later)).2 = 0 then qs.set (slot p m.n) (putS (qs.getD (slot p m.n) default) (id + p.names) (m.n % 2305) (now + p.later)).1 else qs)
  else if m.kind % 8 = 7 then
    (⟨m.n % p.n, (ageS (qs.getD (slot p m.n) default) (now + p.later) (3000 * (m.n % 50))).2.1.map (backI p.later p.names), (ageS (qs.getD (slot p m.n) default) (now + p.later) (3000 * (m.n % 50))).2.2, true⟩, ts,
      if (ageS (qs.getD (slot p m.n) default) (now + p.later) (3000 * (m.n % 50))).2.2 = 0 then qs.set (slot p m.n) (ageS (qs.getD (slot p m.n) default) (now + p.later) (3000 * (m.n % 50))).1 else qs)
  else if (choose ts (busyOf qs)).2.2 ≠ 0 ∨ (choose ts (busyOf qs)).1 ≥ p.n then (⟨0, [], 0, false⟩, ts, qs)
  else if (choose ts (busyOf qs)).1 < 0 then (⟨-1, [], 0, true⟩, (choose ts (busyOf qs)).2.1, qs)
  else
    let w := (choose ts (busyOf qs)).1.toNat
    let r := takeS (qs.getD w default) (now + p.later)
    if r.2.2.2.2 ≠ 0 then (⟨0, [], 0, false⟩, (choose ts (busyOf qs)).2.1, qs)
    else if r.2.2.1 = true then
      let ch := chargeS (choose ts (busyOf qs)).2.1 (choose ts (busyOf qs)).1 (1 + 14 * r.2.1.bytes)
      (⟨((choose ts (busyOf qs)).1 - p.first % p.n + p.n) % p.n, r.2.2.2.1.map (backI p.later p.names) ++ [backI p.later p.names r.2.1], ch.2, ch.2 == 0⟩, ch.1, qs.set w r.1)
    else (⟨((choose ts (busyOf qs)).1 - p.first % p.n + p.n) % p.n, r.2.2.2.1.map (backI p.later p.names), 0, true⟩, (choose ts (busyOf qs)).2.1, qs.set w r.1)


theorem sp33d (ts rows : List (List D)) (turn first later names : Int) (n : Nat) (l : List Item) (hl : l.length ≤ 100000000) (h1 : 0 ≤ later) (h2 : later ≤ 1099511627776) (h3 : 0 ≤ names) (h4 : names ≤ 1000000)
    (hit : ∀ x ∈ l, -1099511627776 ≤ x.id ∧ x.id ≤ 1099511627776 ∧ 0 ≤ x.at_ ∧ x.at_ ≤ 1099511627776) : Spec Try.prog 33 [.ptr 9001 0 0 0, .d (.s (l.map encItem))] [(9001, some (.var [.d (.s ts), .d (vi turn), .own 9002 0 3 n, .d (vi first), .d (vi later), .d (vi names)])), (9002, some (.row 3 rows))] (.d (.s ((l.map (backI later names)).map encItem))) [] [] := by
  refine enter 36 [9001, 9002] Try.func33 rfl rfl (blOk_of rfl rfl ⟨rfl, rfl, trivial⟩) rfl rfl fun X w0 E0 => ?_
  refine awp_seq ?_
  refine awp_region ?_
  refine seqP (assignT rfl) rfl ?_
  refine ops_nil ?_
  refine awp_seq ?_
  refine awp_region ?_
  refine seqP (assignT rfl) rfl ?_
  refine ops_nil ?_
  refine awp_seq ?_
  refine awp_seq ?_
  refine awp_turn (turn_bind 5 33500 3 (by rfl) (by rfl)) ?_
  refine awp_region ?_
  refine seqP (moveT rfl) rfl ?_
  refine seqP (lenRT rfl rfl (List.length_map ..)) rfl ?_
  refine seqP (moveT rfl) rfl ?_
  refine ops_nil ?_
  refine awp_block ?_
  refine awp_loop (ι := Nat) (fun p => ⟨[(0, .ptr 9001 0 0 0), (5, .own 33500 0 3 p), (8, .d (.s (l.map encItem))), (9, .d (vi l.length)), (10, .d (vi (p : Nat)))], [(9001, some (.var [.d (.s ts), .d (vi turn), .own 9002 0 3 n, .d (vi first), .d (vi later), .d (vi names)])), (9002, some (.row 3 rows)), (33500, some (.row 3 (((l.take p).map (backI later names)).map encItem)))]⟩) (fun p => p ≤ l.length) (fun p => l.length - p) 0 (Nat.zero_le _) (turn_sub ⟨⟨rfl, rfl, rfl, rfl, rfl, trivial⟩, ⟨rfl, rfl, rfl, trivial⟩⟩) (fun p hP => ?_)
  refine awp_seq ?_
  refine awp_region ?_
  refine seqP (intTT rfl rfl rfl) rfl ?_
  refine ops_nil ?_
  refine awp_seq ?_
  refine awp_if rfl (fun h11 => ?_) (fun h11 => ?_)
  · -- yes
    try simp only [mOr, mAnd, decide_eq_true_eq, decide_eq_false_iff_not, beq_iff_eq, beq_eq_false_iff_ne, bne_iff_ne, ne_eq, bne_eq_false_iff_eq, Bool.or_eq_true, Bool.or_eq_false_iff, Bool.and_eq_true, Bool.and_eq_false_iff, Bool.not_eq_true', Bool.not_eq_false', Int.not_lt, Int.not_le, gt_iff_lt, ge_iff_le] at h11
    refine awp_skip ?_
    refine awp_seq ?_
    refine awp_block ?_
    refine awp_seq ?_
    refine awp_region ?_
    obtain ⟨x, hx⟩ : ∃ x, l[p]? = some x := ⟨_, List.getElem?_eq_getElem (by omega)⟩
    have hxb := hit x (List.mem_of_getElem? hx)
    refine seqP (indexRT rfl rfl rfl (by omega) (idx_map hx) rfl) rfl ?_
    refine seqP (loadRsT rfl rfl rfl rfl rfl) rfl ?_
    refine seq1 (allocT rfl rfl) rfl rfl ?_
    refine seq0 (storeVT rfl rfl rfl rfl rfl rfl rfl) ?_
    refine ops_nil ?_
    refine awp_seq ?_
    refine awp_any [0, 1, 0, 4, 12, 28, 63, 0, 128, 0, 512, 1536, 3584, 8064, 511, 16895, 65535, 131071] rfl ?_
    refine .step (rb := []) (wb := []) (ml := [7]) (fieldPT rfl rfl rfl) rfl rfl rfl rfl rfl trivial ?_
    refine .step (rb := [7]) (wb := []) (ml := []) (loadVT rfl rfl rfl rfl) rfl rfl rfl rfl rfl trivial ?_
    refine .step (rb := []) (wb := []) (ml := [9001]) (moveT rfl) rfl rfl rfl rfl rfl trivial ?_
    refine .step (rb := []) (wb := []) (ml := [9001]) (nilPT rfl) rfl rfl rfl rfl rfl trivial ?_
    refine .step (rb := []) (wb := []) (ml := [9001]) (fieldPT rfl rfl rfl) rfl rfl rfl rfl rfl trivial ?_
    refine .step (rb := [9001]) (wb := []) (ml := []) (loadVT rfl rfl rfl rfl) rfl rfl rfl rfl rfl trivial ?_
    refine .step (rb := []) (wb := []) (ml := []) (intnT rfl rfl rfl (wrap_i64 ⟨by omega, by omega⟩)) rfl rfl rfl rfl rfl trivial ?_
    refine .step (rb := []) (wb := []) (ml := [7]) (fieldPT rfl rfl rfl) rfl rfl rfl rfl rfl trivial ?_
    refine .step (rb := [7]) (wb := []) (ml := []) (loadVT rfl rfl rfl rfl) rfl rfl rfl rfl rfl trivial ?_
    refine .step (rb := []) (wb := []) (ml := [9001]) (moveT rfl) rfl rfl rfl rfl rfl trivial ?_
    refine .step (rb := []) (wb := []) (ml := [9001]) (nilPT rfl) rfl rfl rfl rfl rfl trivial ?_
    refine .step (rb := []) (wb := []) (ml := [9001]) (fieldPT rfl rfl rfl) rfl rfl rfl rfl rfl trivial ?_
    refine .step (rb := [9001]) (wb := []) (ml := []) (loadVT rfl rfl rfl rfl) rfl rfl rfl rfl rfl trivial ?_
    refine .step (rb := []) (wb := []) (ml := []) (intnT rfl rfl rfl (wrap_i64 ⟨by omega, by omega⟩)) rfl rfl rfl rfl rfl trivial ?_
    refine .step (rb := []) (wb := []) (ml := [7]) (fieldPT rfl rfl rfl) rfl rfl rfl rfl rfl trivial ?_
    refine .step (rb := [7]) (wb := [7]) (ml := []) (storeVT rfl rfl rfl rfl rfl rfl rfl) rfl rfl rfl rfl rfl ⟨rfl, trivial⟩ ?_
    refine .step (rb := []) (wb := []) (ml := [7]) (fieldPT rfl rfl rfl) rfl rfl rfl rfl rfl trivial ?_
    refine .step (rb := [7]) (wb := [7]) (ml := []) (storeVT rfl rfl rfl rfl rfl rfl rfl) rfl rfl rfl rfl rfl ⟨rfl, trivial⟩ ?_
    refine .done (by decide +kernel) ?_
    refine awp_region ?_
    refine seqP (moveT rfl) rfl ?_
    refine seqP (loadVsT rfl rfl rfl rfl) rfl ?_
    refine seqP (litT rfl rfl rfl rfl rfl rfl rfl rfl) rfl ?_
    refine seq2 (appendT (b' := 33) rfl rfl rfl rfl rfl rfl (by simp only [List.length_map, List.length_take]; omega) (fun row h => by simp at h; subst h; rfl) (show p + 1 = p + 1 from rfl) (show _ = ((l.take (p + 1)).map (backI later names)).map encItem by rw [List.map_map, List.map_map]; exact take_map_succ (f := encItem ∘ backI later names) hx) (by omega) (by omega)) rfl rfl ?_
    refine seqP (assignT rfl) rfl ?_
    refine ops_nil ?_
    refine awp_region ?_
    refine seqP (intnT rfl rfl rfl (wrap_succ (by omega))) rfl ?_
    refine seqP (moveT rfl) rfl ?_
    refine ops_nil ?_
    refine ⟨(p + 1), (by show p + 1 ≤ _; omega), (turn_ren (fun n => bif Nat.beq n 33500 then 33 else n) ⟨rfl, rfl, rfl, rfl, rfl, trivial⟩ ⟨rfl, rfl, rfl, trivial⟩ rfl rfl), by show l.length - (p + 1) < l.length - p; omega⟩
  · -- no
    try simp only [mOr, mAnd, decide_eq_true_eq, decide_eq_false_iff_not, beq_iff_eq, beq_eq_false_iff_ne, bne_iff_ne, ne_eq, bne_eq_false_iff_eq, Bool.or_eq_true, Bool.or_eq_false_iff, Bool.and_eq_true, Bool.and_eq_false_iff, Bool.not_eq_true', Bool.not_eq_false', Int.not_lt, Int.not_le, gt_iff_lt, ge_iff_le] at h11
    refine awp_exit ?_
    refine awp_seq ?_
    refine awp_region ?_
    refine seqP (moveT rfl) rfl ?_
    refine seqP (assignT rfl) rfl ?_
    refine ops_turn (freezeT 4 33500 rfl rfl (by simp only [List.length_map, List.length_take]; omega)) ?_
    obtain rfl : p = l.length := by omega
    simp only [List.take_length]
    refine ops_nil ?_
    refine awp_ret ?_
    refine ret_blocks (resl_tmp rfl resl_nil) ?_ rfl trivial ⟨.inr rfl, .inr rfl, trivial⟩
    rfl

end Go.Proofs.Ytencghlmckbmlaa
