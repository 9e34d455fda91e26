/- The plain law of transmissions: later, by other numbers, in another order. -/
import Derived.Test.YtencghlmckbmlaaWorld5
set_option linter.unusedVariables false
set_option linter.unusedSimpArgs false
set_option maxRecDepth 100000
namespace Go.Proofs.Ytencghlmckbmlaa
open Go Go.RowKit

def renS (to : List Nat) (d : Int) (s : Sending) : Sending := ⟨at' to s.node, s.start + d, s.end_ + d, s.need⟩
def thereS (to : List Nat) (d : Int) (H : List Sending) : List Sending := (H.map (renS to d)).reverse
def sameS (n : Nat) (d : Int) (H : List Sending) : List Sending := H.map (renS (List.range n) d)

structure Trans (n : Nat) (to : List Nat) (d : Int) (w v : Air) (H : List Sending) : Prop where
  like : Like n to w v
  ok : ListOk w H
  hi : ∀ s ∈ H, s.end_ ≤ 131072
  d0 : 0 ≤ d
  d1 : d ≤ 1073741824

theorem there_len {to : List Nat} {d : Int} {H : List Sending} : (thereS to d H).length = H.length := by simp [thereS]
theorem same_len {n : Nat} {d : Int} {H : List Sending} : (sameS n d H).length = H.length := by simp [sameS]
theorem there_get {to : List Nat} {d : Int} {H : List Sending} {k : Nat} (hk : k < H.length) : (thereS to d H).getD (H.length - 1 - k) default = renS to d (H.getD k default) := by
  unfold thereS
  rw [List.getD_eq_getElem?_getD, List.getElem?_reverse (by simp; omega)]
  simp only [List.length_map]
  rw [show H.length - 1 - (H.length - 1 - k) = k by omega]
  simp [List.getD_eq_getElem?_getD, hk]
theorem same_get {n : Nat} {d : Int} {H : List Sending} {k : Nat} (hk : k < H.length) : (sameS n d H).getD k default = renS (List.range n) d (H.getD k default) := getD_map' hk
theorem mem_there {to : List Nat} {d : Int} {H : List Sending} {x : Sending} : x ∈ thereS to d H ↔ ∃ s ∈ H, renS to d s = x := by simp [thereS]
theorem mem_same {n : Nat} {d : Int} {H : List Sending} {x : Sending} : x ∈ sameS n d H ↔ ∃ s ∈ H, renS (List.range n) d s = x := by simp [sameS]

theorem apart_iff {L : List Sending} : (∀ i, i < L.length → ∀ x ∈ L.take i, clashS x (L.getD i default) = false) ↔ L.Pairwise fun x y => clashS x y = false := by
  rw [List.pairwise_iff_getElem]
  constructor
  · intro h i j hi hj hij
    have := h j hj L[i] (by rw [List.mem_take_iff_getElem]; exact ⟨i, by omega, rfl⟩)
    rwa [List.getD_eq_getElem?_getD, List.getElem?_eq_getElem hj] at this
  · intro h j hj x hx
    rw [List.mem_take_iff_getElem] at hx
    obtain ⟨i, hi, rfl⟩ := hx
    rw [List.getD_eq_getElem?_getD, List.getElem?_eq_getElem hj]
    exact h i j (by omega) hj (by omega)

theorem overlap_ren {to : List Nat} {d : Int} {a b : Sending} : overlapS (renS to d a) (renS to d b) = overlapS a b := by
  unfold overlapS renS
  simp only
  congr 1 <;> exact decide_eq_decide.2 (by omega)
theorem overlap_comm {a b : Sending} : overlapS a b = overlapS b a := Bool.and_comm ..
theorem clash_comm {a b : Sending} : clashS a b = clashS b a := by
  unfold clashS; rw [overlap_comm]; congr 1
  exact Bool.eq_iff_iff.2 ⟨fun h => by simpa using (beq_iff_eq.1 h).symm, fun h => by simpa using (beq_iff_eq.1 h).symm⟩

theorem node_eq {n : Nat} {to : List Nat} (hp : Perm n to) {i j : Nat} (hi : i < n) (hj : j < n) : (((at' to i : Nat) : Int) == ((at' to j : Nat) : Int)) = ((i : Int) == (j : Int)) := by
  apply Bool.eq_iff_iff.2
  rw [beq_iff_eq, beq_iff_eq]
  exact ⟨fun h => by rw [hp.inj i j hi hj (Int.ofNat.inj h)], fun h => by rw [Int.ofNat.inj h]⟩

section
variable {n : Nat} {to : List Nat} {d : Int} {w v : Air} {H : List Sending}

theorem Trans.node (t : Trans n to d w v H) {s : Sending} (hs : s ∈ H) : s.node < n := by
  have := (t.ok.ok s hs).node; rwa [t.like.n1] at this
theorem Trans.getN (t : Trans n to d w v H) {k : Nat} (hk : k < H.length) : (H.getD k default).node < n := t.node (mem_getD hk)

theorem Trans.sendOk (t : Trans n to d w v H) {s : Sending} (hs : s ∈ H) : SendOk v (renS to d s) := by
  have h := t.ok.ok s hs
  have := t.hi s hs
  have h0 := t.d0
  have h1 := t.d1
  have h2 := h.s0
  have h3 := h.se
  exact ⟨by rw [t.like.n2]; exact t.like.perm.lt _ (t.node hs), by show 0 ≤ s.start + d; omega, by show s.start + d < s.end_ + d; omega, by show s.end_ + d ≤ _; omega, h.n0, h.n1⟩

theorem Trans.clash (t : Trans n to d w v H) {x s : Sending} (hx : x ∈ H) (hs : s ∈ H) : clashS (renS to d x) (renS to d s) = clashS x s := by
  unfold clashS
  rw [overlap_ren]
  congr 1
  exact node_eq t.like.perm (t.node hx) (t.node hs)

theorem Trans.pw (t : Trans n to d w v H) : (H.map (renS to d)).Pairwise fun x y => clashS x y = false := by
  rw [List.pairwise_map]
  exact List.Pairwise.imp_of_mem (fun ha hb h => by rw [t.clash ha hb]; exact h) (apart_iff.1 t.ok.apart)

theorem Trans.there (t : Trans n to d w v H) : ListOk v (thereS to d H) := by
  refine ⟨by rw [there_len]; exact t.ok.len, fun s hs => ?_, apart_iff.2 ?_⟩
  · obtain ⟨s', h1, rfl⟩ := mem_there.1 hs; exact t.sendOk h1
  · unfold thereS
    rw [List.pairwise_reverse]
    exact t.pw.imp fun h => by rw [clash_comm]; exact h
theorem Trans.same (t : Trans n (List.range n) d w v H) : ListOk v (sameS n d H) := by
  refine ⟨by rw [same_len]; exact t.ok.len, fun s hs => ?_, apart_iff.2 t.pw⟩
  obtain ⟨s', h1, rfl⟩ := mem_same.1 hs; exact t.sendOk h1

theorem Trans.spoils (t : Trans n to d w v H) {s k : Sending} (hs : s ∈ H) (hk : k ∈ H) {j : Nat} (hj : j < n) : spoils v (renS to d s) (at' to j) (renS to d k) = spoils w s j k := by
  unfold Ytencghlmckbmlaa.spoils
  rw [overlap_ren]
  show (overlapS k s && ((((at' to k.node : Nat) : Int) == ((at' to j : Nat) : Int)) || (((v.radios.getD (at' to k.node) default).chan == (v.radios.getD (at' to j) default).chan) && decide (levelS v (at' to s.node) (at' to j) < levelS v (at' to k.node) (at' to j) + 100)))) = _
  rw [node_eq t.like.perm (t.node hk) hj, t.like.chan _ (t.node hk), t.like.chan _ hj, t.like.level _ _ (t.node hs) hj, t.like.level _ _ (t.node hk) hj]

theorem Trans.can0 (t : Trans n to d w v H) {L : List Sending} {g : Nat → Nat} (hl : L.length = H.length) (hg : ∀ k, k < H.length → g k < H.length ∧ g (g k) = k) (hL : ∀ k, k < H.length → L.getD (g k) default = renS to d (H.getD k default)) {i j : Nat} (hi : i < H.length) (hj : j < n) : canS v L (g i) (at' to j) = canS w H i j := by
  unfold canS
  rw [hL i hi, hl]
  have hn := t.getN hi
  have e1 : hearsS v (at' to j) (renS to d (H.getD i default)).node = hearsS w j (H.getD i default).node := t.like.hears hn hj
  have e2 : levelS v (renS to d (H.getD i default)).node (at' to j) = levelS w (H.getD i default).node j := t.like.level _ _ hn hj
  have e3 : (renS to d (H.getD i default)).need = (H.getD i default).need := rfl
  rw [e1, e2, e3]
  congr 2
  apply Bool.eq_iff_iff.2
  have inj : ∀ a b, a < H.length → b < H.length → g a = g b → a = b := fun a b ha hb e => by rw [← (hg a ha).2, e, (hg b hb).2]
  constructor
  · intro h
    obtain ⟨k, hk, h⟩ := List.any_eq_true.1 h
    have hk : k < H.length := by simpa using hk
    simp only [Bool.and_eq_true, bne_iff_ne, ne_eq] at h
    obtain ⟨h1, h2⟩ := h
    have hgk := hg k hk
    refine List.any_eq_true.2 ⟨g k, by simpa using hgk.1, ?_⟩
    simp only [Bool.and_eq_true, bne_iff_ne, ne_eq]
    refine ⟨fun e => h1 (by rw [← e, hgk.2]), ?_⟩
    rw [← hgk.2, hL (g k) hgk.1, t.spoils (mem_getD hi) (mem_getD hgk.1) hj] at h2
    exact h2
  · intro h
    obtain ⟨k, hk, h⟩ := List.any_eq_true.1 h
    have hk : k < H.length := by simpa using hk
    simp only [Bool.and_eq_true, bne_iff_ne, ne_eq] at h
    obtain ⟨h1, h2⟩ := h
    have hgk := hg k hk
    refine List.any_eq_true.2 ⟨g k, by simpa using hgk.1, ?_⟩
    simp only [Bool.and_eq_true, bne_iff_ne, ne_eq]
    refine ⟨fun e => h1 (inj _ _ hk hi e), ?_⟩
    rw [hL k hk, t.spoils (mem_getD hi) (mem_getD hk) hj]
    exact h2

theorem Trans.can (t : Trans n to d w v H) {i j : Nat} (hi : i < H.length) (hj : j < n) : canS v (thereS to d H) (H.length - 1 - i) (at' to j) = canS w H i j :=
  t.can0 (g := fun k => H.length - 1 - k) there_len (fun k hk => by show H.length - 1 - k < H.length ∧ H.length - 1 - (H.length - 1 - k) = k; omega) (fun k hk => there_get hk) hi hj
theorem Trans.canSame (t : Trans n (List.range n) d w v H) {i j : Nat} (hi : i < H.length) (hj : j < n) : canS v (sameS n d H) i j = canS w H i j := by
  have := t.can0 (L := sameS n d H) (g := fun k => k) same_len (fun k hk => ⟨hk, rfl⟩) (fun k hk => same_get hk) hi hj
  rwa [show at' (List.range n) j = j from getD_range hj] at this

theorem row_nil {can : Nat → Nat → Bool} {i c : Nat} : ∀ q, (rowR can [] i c q).2 = (List.range q).filter (can i)
  | 0 => rfl
  | q + 1 => by
    have hk : keepR [] (rowR can [] i c q).1 = true := by simp [keepR]
    rw [row_succ]
    unfold stepR
    rw [List.range_succ, List.filter_append, ← row_nil (c := c) q]
    by_cases h : can i q = true
    · rw [if_pos h, if_pos hk]; simp [h]
    · rw [if_neg h]; simp [h]
theorem out_get {can : Nat → Nat → Bool} {draws : List Bool} {n : Nat} : ∀ {p i : Nat}, i < p → (outR can draws n p).2.getD i default = (rowR can draws i (outR can draws n i).1 n).2
  | 0, i, h => absurd h (Nat.not_lt_zero _)
  | p + 1, i, h => by
    have hl := (out_le (can := can) (draws := draws) (n := n) p).2
    rw [out_succ]
    unfold stepO
    simp only
    by_cases e : i = p
    · subst e
      rw [List.getD_eq_getElem?_getD, List.getElem?_append_right (by omega)]; simp [hl]
    · have := out_get (can := can) (draws := draws) (n := n) (p := p) (i := i) (by omega)
      rw [← this, List.getD_eq_getElem?_getD, List.getElem?_append_left (by omega), List.getD_eq_getElem?_getD]
theorem recv_len {can : Nat → Nat → Bool} {draws : List Bool} {n m : Nat} : (recvS can draws n m).length = m := (out_le m).2
theorem recv_nil {can : Nat → Nat → Bool} {n m i : Nat} (h : i < m) : (recvS can [] n m).getD i default = (List.range n).filter (can i) := (out_get h).trans (row_nil n)
theorem row_congr {can can' : Nat → Nat → Bool} {draws : List Bool} {i c n : Nat} (h : ∀ j, j < n → can i j = can' i j) : ∀ q, q ≤ n → rowR can draws i c q = rowR can' draws i c q
  | 0, _ => rfl
  | q + 1, hq => by
    rw [row_succ, row_succ, row_congr h q (by omega)]
    unfold stepR
    rw [h q (by omega)]
theorem out_congr {can can' : Nat → Nat → Bool} {draws : List Bool} {n m : Nat} (h : ∀ i j, i < m → j < n → can i j = can' i j) : ∀ p, p ≤ m → outR can draws n p = outR can' draws n p
  | 0, _ => rfl
  | p + 1, hp => by
    rw [out_succ, out_succ, out_congr h p (by omega)]
    unfold stepO
    rw [row_congr (fun j hj => h p j (by omega) hj) n (Nat.le_refl _)]
theorem recv_congr {can can' : Nat → Nat → Bool} {draws : List Bool} {n m : Nat} (h : ∀ i j, i < m → j < n → can i j = can' i j) : recvS can draws n m = recvS can' draws n m := congrArg (·.2) (out_congr h m (Nat.le_refl _))
theorem row_asc {can : Nat → Nat → Bool} {draws : List Bool} {i c : Nat} : ∀ q, ((rowR can draws i c q).2.Pairwise (· < ·)) ∧ ∀ x ∈ (rowR can draws i c q).2, x < q
  | 0 => ⟨List.Pairwise.nil, fun x hx => by cases hx⟩
  | q + 1 => by
    obtain ⟨h1, h2⟩ := row_asc (can := can) (draws := draws) (i := i) (c := c) q
    rw [row_succ]
    unfold stepR
    split
    · simp only
      split
      · refine ⟨List.pairwise_append.2 ⟨h1, List.pairwise_singleton .., fun a ha b hb => ?_⟩, fun x hx => ?_⟩
        · simp at hb; subst hb; exact h2 a ha
        · rcases List.mem_append.1 hx with hx | hx
          · exact Nat.lt_succ_of_lt (h2 x hx)
          · simp at hx; omega
      · exact ⟨h1, fun x hx => Nat.lt_succ_of_lt (h2 x hx)⟩
    · exact ⟨h1, fun x hx => Nat.lt_succ_of_lt (h2 x hx)⟩

theorem Trans.recv (t : Trans n to d w v H) {i : Nat} (hi : i < H.length) : SameSet to (ints ((recvS (canS w H) [] n H.length).getD i default)) (ints ((recvS (canS v (thereS to d H)) [] n H.length).getD (H.length - 1 - i) default)) := by
  rw [recv_nil hi, recv_nil (by omega)]
  exact same_set t.like.perm fun j hj => t.can hi hj
theorem Trans.recvSame (t : Trans n (List.range n) d w v H) (draws : List Bool) : recvS (canS v (sameS n d H)) draws n H.length = recvS (canS w H) draws n H.length := recv_congr fun i j hi hj => t.canSame hi hj
theorem same_self {can : Nat → Nat → Bool} {draws : List Bool} {n m i : Nat} (hi : i < m) : SameSet (List.range n) (ints ((recvS can draws n m).getD i default)) (ints ((recvS can draws n m).getD i default)) := by
  rw [show (recvS can draws n m).getD i default = _ from out_get hi]
  obtain ⟨h1, h2⟩ := row_asc (can := can) (draws := draws) (i := i) (c := (outR can draws n i).1) n
  refine ⟨rfl, fun k hk => ?_, fun x hx => ?_⟩
  · rw [ints_len] at hk
    rw [ints_get (by omega), ints_get hk]
    have := List.pairwise_iff_getElem.1 h1 k (k + 1) (by omega) hk (by omega)
    rw [List.getD_eq_getElem?_getD, List.getD_eq_getElem?_getD, List.getElem?_eq_getElem (by omega), List.getElem?_eq_getElem hk]
    simpa using this
  · obtain ⟨y, hy, rfl⟩ := List.mem_map.1 hx
    have := h2 y hy
    refine ⟨by omega, by rw [ints_len]; simpa using this, ?_⟩
    rw [Int.toNat_natCast, ints_get (by simpa using this), getD_range this]
    exact hx

theorem Trans.sense (t : Trans n to d w v H) {s : Sending} (hs : s ∈ H) {j : Nat} (hj : j < n) : senseP v (at' to j) (renS to d s) = senseP w j s := by
  unfold senseP
  show (hearsS v (at' to j) (at' to s.node) || (((at' to s.node : Nat) : Int) == ((at' to j : Nat) : Int))) = _
  rw [t.like.hears (t.node hs) hj, node_eq t.like.perm (t.node hs) hj]
theorem Trans.sensed (t : Trans n to d w v H) {j : Nat} (hj : j < n) {x : Sending} : x ∈ sensedS v (thereS to d H) (at' to j) ↔ ∃ s ∈ sensedS w H j, renS to d s = x := by
  unfold sensedS
  rw [List.mem_filter, mem_there]
  constructor
  · rintro ⟨⟨s, hs, rfl⟩, h⟩
    rw [t.sense hs hj] at h
    exact ⟨s, List.mem_filter.2 ⟨hs, h⟩, rfl⟩
  · rintro ⟨s, hs, rfl⟩
    obtain ⟨h1, h2⟩ := List.mem_filter.1 hs
    exact ⟨⟨s, h1, rfl⟩, by rw [t.sense h1 hj]; exact h2⟩
theorem Trans.busy (t : Trans n to d w v H) {j : Nat} (hj : j < n) (z : Int) : busyS v (thereS to d H) (at' to j) (z + d) = busyS w H j z := by
  have ha : ∀ s : Sending, activeS (z + d) (renS to d s) = activeS z s := fun s => by
    unfold activeS renS
    simp only
    congr 1 <;> exact decide_eq_decide.2 (by omega)
  unfold busyS
  apply Bool.eq_iff_iff.2
  rw [List.any_eq_true, List.any_eq_true]
  constructor
  · rintro ⟨x, hx, h⟩
    obtain ⟨s, hs, rfl⟩ := (t.sensed hj).1 hx
    exact ⟨s, hs, by rw [← ha]; exact h⟩
  · rintro ⟨s, hs, h⟩
    exact ⟨_, (t.sensed hj).2 ⟨s, hs, rfl⟩, by rw [ha]; exact h⟩
theorem Trans.idle (t : Trans n to d w v H) {j : Nat} (hj : j < n) {sp f T : Int} (h : IdleIs (sensedS w H j) sp f T) : IdleIs (sensedS v (thereS to d H) (at' to j)) sp (f + d) (T + d) := by
  have hb : ∀ (s : Sending) (z : Int), blocks sp (z + d) (renS to d s) = blocks sp z s := fun s z => by
    unfold blocks renS
    simp only
    congr 1 <;> exact decide_eq_decide.2 (by omega)
  refine ⟨by have := h.ge; omega, fun x hx => ?_, fun z hz hf => ?_⟩
  · obtain ⟨s, hs, rfl⟩ := (t.sensed hj).1 hx
    rw [hb]; exact h.free s hs
  · have := h.least (z - d) (by omega) fun s hs => by
      have := hf _ ((t.sensed hj).2 ⟨s, hs, rfl⟩)
      rwa [← hb, show z - d + d = z by omega]
    omega
/-- The first idle time, as sp16 asks for it: before and after. -/
theorem Trans.idles (t : Trans n to d w v H) {j : Nat} (hj : j < n) {sp f : Int} (hf0 : 0 ≤ f) (hf : f ≤ 1000000) (hs0 : 0 ≤ sp) (hs : sp ≤ 1000000) : ∃ T : Int, (0 ≤ T ∧ T ≤ 2000000) ∧ (if sp = 0 then T = f else IdleIs (sensedS w H j) sp f T) ∧ (if sp = 0 then T + d = f + d else IdleIs (sensedS v (thereS to d H) (at' to j)) sp (f + d) (T + d)) := by
  by_cases h0 : sp = 0
  · exact ⟨f, by omega, by rw [if_pos h0], by rw [if_pos h0]⟩
  · obtain ⟨T, hT⟩ := idle_ex (sensedS w H j) sp _ f (Nat.lt_succ_self _)
    refine ⟨T, ⟨by have := hT.ge; omega, ?_⟩, by rw [if_neg h0]; exact hT, by rw [if_neg h0]; exact t.idle hj hT⟩
    have := hT.least 2000000 (by omega) fun s hs' => by
      have := t.hi s (List.mem_filter.1 hs').1
      exact blocks_no.2 (by omega)
    exact this
end
end Go.Proofs.Ytencghlmckbmlaa
