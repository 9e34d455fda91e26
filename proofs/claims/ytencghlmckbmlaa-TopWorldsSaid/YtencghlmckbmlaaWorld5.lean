/- The plain law of worlds: turned and moved, with other numbers, later. -/
import Derived.Test.YtencghlmckbmlaaRow7
set_option linter.unusedVariables false
set_option linter.unusedSimpArgs false
set_option maxRecDepth 100000
namespace Go.Proofs.Ytencghlmckbmlaa
open Go Go.RowKit

abbrev at' (to : List Nat) (i : Nat) : Nat := to.getD i default

structure Like (n : Nat) (to : List Nat) (w v : Air) : Prop where
  perm : Perm n to
  n1 : w.radios.length = n
  n2 : v.radios.length = n
  ok1 : AirOk w
  ok2 : AirOk v
  level : ∀ i j, i < n → j < n → levelS v (at' to i) (at' to j) = levelS w i j
  chan : ∀ i, i < n → (v.radios.getD (at' to i) default).chan = (w.radios.getD i default).chan

theorem getD_map' {α β : Type} [Inhabited α] [Inhabited β] {f : α → β} {l : List α} {i : Nat} (h : i < l.length) : (l.map f).getD i default = f (l.getD i default) := by
  simp [List.getD_eq_getElem?_getD, h]
theorem getD_range {n i : Nat} (h : i < n) : (List.range n).getD i default = i := by
  simp [List.getD_eq_getElem?_getD, h]

theorem moved_sq (x y u v way dx dy : Int) :
    ((movedS x y way dx dy).1 - (movedS u v way dx dy).1) * ((movedS x y way dx dy).1 - (movedS u v way dx dy).1) + ((movedS x y way dx dy).2 - (movedS u v way dx dy).2) * ((movedS x y way dx dy).2 - (movedS u v way dx dy).2) = (x - u) * (x - u) + (y - v) * (y - v) := by
  have e1 : ∀ b : Bool, ∀ p q z : Int, (flipS b p + z - (flipS b q + z)) * (flipS b p + z - (flipS b q + z)) = (p - q) * (p - q) := fun b p q z => by
    unfold flipS
    cases b with
    | true => 
      have : (if true = true then 0 - p else p) + z - ((if true = true then 0 - q else q) + z) = -(p - q) := by simp; omega
      rw [this, Int.neg_mul_neg]
    | false =>
      have : (if false = true then 0 - p else p) + z - ((if false = true then 0 - q else q) + z) = p - q := by simp; omega
      rw [this]
  unfold movedS
  split
  · simp only [e1]; exact Int.add_comm _ _
  · simp only [e1]

theorem like_air {l : List Place} {sh : List Int} {to : List Nat} {way dx dy : Int} {n : Nat} (hn : l.length = n) (hn1 : 1 ≤ n) (hn10 : n ≤ 10) (hto : Perm n to) (hok : ∀ x ∈ l, PlaceOk x) (hsh : ∀ x ∈ sh, 0 ≤ x ∧ x ≤ 65535) (x0 : -4000 ≤ dx) (x1 : dx ≤ 4000) (y0 : -4000 ≤ dy) (y1 : dy ≤ 4000) :
    Like n to (airA l sh) (airB l sh to way dx dy) := by
  subst hn
  have ra : ∀ i, i < l.length → (airA l sh).radios.getD i default = radioA (l.getD i default) := fun i hi => getD_map' hi
  have rb : ∀ i, i < l.length → (airB l sh to way dx dy).radios.getD (at' to i) default = moveR way dx dy (radioA (l.getD i default)) := fun i hi => setF_get hto (Nat.le_refl _) hi
  have na : (airA l sh).radios.length = l.length := List.length_map ..
  have nb : (airB l sh to way dx dy).radios.length = l.length := setF_len _
  have hsv : ∀ i j, i < l.length → j < l.length → sh.length ≠ 0 → 0 ≤ shad l.length sh i j ∧ shad l.length sh i j ≤ 600 := fun i j hi hj h0 => by
    unfold shad
    split
    · omega
    · omega
  have shA : ∀ i j, i < l.length → j < l.length → sh.length ≠ 0 → ((airA l sh).shadow.getD i default).getD j default = shad l.length sh i j := fun i j hi hj h0 => by
    have : (airA l sh).shadow = (List.range l.length).map (rowS l.length sh) := if_neg h0
    rw [this, getD_map' (by simpa using hi), getD_range hi, rowS_get hj]
  have shB : ∀ i j, i < l.length → j < l.length → sh.length ≠ 0 → ((airB l sh to way dx dy).shadow.getD (at' to i) default).getD (at' to j) default = shad l.length sh i j := fun i j hi hj h0 => by
    have : (airB l sh to way dx dy).shadow = (List.range l.length).map (famS l.length sh to l.length) := if_neg h0
    rw [this, getD_map' (by simpa using hto.lt i hi), getD_range (hto.lt i hi), famS_get hto (Nat.le_refl _) hi]
    exact setF_get hto (Nat.le_refl _) hj
  have hlA : (airA l sh).shadow.length = if sh.length = 0 then 0 else l.length := by
    simp only [airA, airB]
    split <;> simp
  have hlB : (airB l sh to way dx dy).shadow.length = if sh.length = 0 then 0 else l.length := by
    simp only [airA, airB]
    split <;> simp
  have radOk : ∀ i, i < l.length → RadioOk (radioA (l.getD i default)) ∧ RadioOk (moveR way dx dy (radioA (l.getD i default))) := fun i hi => by
    have hp := hok _ (mem_getD hi)
    obtain ⟨⟨b1, b2⟩, ⟨b3, b4⟩⟩ := place_b hp
    have c0 := hp.c0
    have p0 := hp.p0
    have p1 := hp.p1
    refine ⟨⟨by show -10000 ≤ Int.tmod _ _; omega, by show Int.tmod _ _ ≤ _; omega, by show -10000 ≤ Int.tmod _ _; omega, by show Int.tmod _ _ ≤ _; omega, p0, by show (l.getD i default).power ≤ _; omega, by show 1 ≤ 1 + _ % 3; omega, by show 1 + _ % 3 ≤ 64; omega⟩, ?_⟩
    have f1 := fun b => flip_b (b := b) (x := Int.tmod (l.getD i default).x 4000) (A := 3999) b1 b2
    have f2 := fun b => flip_b (b := b) (x := Int.tmod (l.getD i default).y 4000) (A := 3999) b3 b4
    have hm : (-10000 ≤ (movedS (Int.tmod (l.getD i default).x 4000) (Int.tmod (l.getD i default).y 4000) way dx dy).1 ∧ (movedS (Int.tmod (l.getD i default).x 4000) (Int.tmod (l.getD i default).y 4000) way dx dy).1 ≤ 10000) ∧ (-10000 ≤ (movedS (Int.tmod (l.getD i default).x 4000) (Int.tmod (l.getD i default).y 4000) way dx dy).2 ∧ (movedS (Int.tmod (l.getD i default).x 4000) (Int.tmod (l.getD i default).y 4000) way dx dy).2 ≤ 10000) := by
      unfold movedS
      split
      · have := f2 (bitS way 2); have := f1 (bitS way 1); simp only; omega
      · have := f1 (bitS way 1); have := f2 (bitS way 2); simp only; omega
    exact ⟨hm.1.1, hm.1.2, hm.2.1, hm.2.2, p0, by show (l.getD i default).power ≤ _; omega, by show 1 ≤ 1 + _ % 3; omega, by show 1 + _ % 3 ≤ 64; omega⟩
  refine ⟨hto, na, nb, ⟨by omega, by omega, fun r hr => ?_, ?_, fun i hi => ?_⟩, ⟨by omega, by omega, fun r hr => ?_, ?_, fun i hi => ?_⟩, fun i j hi hj => ?_, fun i hi => ?_⟩
  · obtain ⟨k, hk, rfl⟩ := List.getElem_of_mem hr
    have hk' : k < l.length := by omega
    have := ra k hk'
    rw [List.getD_eq_getElem?_getD, List.getElem?_eq_getElem hk] at this
    have e : (airA l sh).radios[k] = radioA (l.getD k default) := this
    rw [e]; exact (radOk k hk').1
  · rw [hlA, na]; split <;> simp
  · rw [hlA] at hi
    split at hi
    · omega
    · rename_i h0
      have hrow : (airA l sh).shadow.getD i default = rowS l.length sh i := by
        have : (airA l sh).shadow = (List.range l.length).map (rowS l.length sh) := if_neg h0
        rw [this, getD_map' (by simpa using hi), getD_range hi]
      rw [hrow, na]
      refine ⟨by simp [rowS], by rw [rowS_get hi]; simp [shad], fun x hx => ?_⟩
      obtain ⟨j, hj, rfl⟩ := List.mem_map.1 hx
      exact hsv i j hi (by simpa using hj) h0
  · obtain ⟨k, hk, rfl⟩ := List.getElem_of_mem hr
    obtain ⟨i, hi, hik⟩ := hto.surj k (by omega)
    have := rb i hi
    rw [show at' to i = k from hik, List.getD_eq_getElem?_getD, List.getElem?_eq_getElem hk] at this
    have e : (airB l sh to way dx dy).radios[k] = moveR way dx dy (radioA (l.getD i default)) := this
    rw [e]; exact (radOk i hi).2
  · rw [hlB, nb]; split <;> simp
  · rw [hlB] at hi
    split at hi
    · omega
    · rename_i h0
      obtain ⟨k, hk, hik⟩ := hto.surj i hi
      have hrow : (airB l sh to way dx dy).shadow.getD i default = setF to (shad l.length sh k) 0 l.length l.length := by
        have : (airB l sh to way dx dy).shadow = (List.range l.length).map (famS l.length sh to l.length) := if_neg h0
        rw [this, getD_map' (by simpa using hi), getD_range hi, ← hik, famS_get hto (Nat.le_refl _) hk]
      have hlen : (setF to (shad l.length sh k) 0 l.length l.length).length = l.length := setF_len _
      have hval : ∀ v, v < l.length → ∃ j, j < l.length ∧ to.getD j default = v ∧ (setF to (shad l.length sh k) 0 l.length l.length).getD v default = shad l.length sh k j := fun v hv => by
        obtain ⟨j, hj, hjv⟩ := hto.surj v hv
        exact ⟨j, hj, hjv, by rw [← hjv]; exact setF_get hto (Nat.le_refl _) hj⟩
      rw [hrow, nb]
      refine ⟨hlen, ?_, fun x hx => ?_⟩
      · obtain ⟨j, hj, hjv, hv⟩ := hval i hi
        have : j = k := hto.inj j k hj hk (hjv.trans hik.symm)
        rw [hv, this]; simp [shad]
      · obtain ⟨v, hv, rfl⟩ := List.getElem_of_mem hx
        obtain ⟨j, hj, hjv, hval⟩ := hval v (by omega)
        rw [List.getD_eq_getElem?_getD, List.getElem?_eq_getElem hv] at hval
        have e : (setF to (shad l.length sh k) 0 l.length l.length)[v] = shad l.length sh k j := hval
        rw [e]; exact hsv k j hk hj h0
  · unfold levelS
    rw [rb i hi, rb j hj, ra i hi, ra j hj, hlA, hlB]
    have hd : distS (moveR way dx dy (radioA (l.getD i default))).x (moveR way dx dy (radioA (l.getD i default))).y (moveR way dx dy (radioA (l.getD j default))).x (moveR way dx dy (radioA (l.getD j default))).y = distS (radioA (l.getD i default)).x (radioA (l.getD i default)).y (radioA (l.getD j default)).x (radioA (l.getD j default)).y := by
      unfold distS moveR
      rw [moved_sq]
    rw [hd]
    by_cases h0 : sh.length = 0
    · rw [if_pos h0]; rfl
    · rw [if_neg h0, shA i j hi hj h0, shB i j hi hj h0]; rfl
  · rw [rb i hi, ra i hi]; rfl

theorem Like.hears {n : Nat} {to : List Nat} {w v : Air} (h : Like n to w v) {i j : Nat} (hi : i < n) (hj : j < n) : hearsS v (at' to j) (at' to i) = hearsS w j i := by
  unfold hearsS
  rw [h.chan i hi, h.chan j hj, h.level i j hi hj]
  congr 1
  by_cases e : i = j
  · subst e; simp
  · have : at' to i ≠ at' to j := fun h' => e (h.perm.inj i j hi hj h')
    rw [show (((at' to i : Nat) : Int) != ((at' to j : Nat) : Int)) = true from bne_iff_ne.2 fun h' => this (Int.ofNat.inj h'), show ((i : Int) != (j : Int)) = true from bne_iff_ne.2 fun h' => e (Int.ofNat.inj h')]

theorem nodup_le : ∀ {L M : List Nat}, L.Nodup → (∀ x ∈ L, x ∈ M) → L.length ≤ M.length
  | [], _, _, _ => Nat.zero_le _
  | a :: L, M, hn, hs => by
    have hn := List.nodup_cons.1 hn
    have ha := hs a (List.mem_cons_self ..)
    have := nodup_le (L := L) (M := M.erase a) hn.2 fun x hx => (List.mem_erase_of_ne (fun (e : x = a) => hn.1 (e ▸ hx))).2 (hs x (List.mem_cons_of_mem _ hx))
    rw [List.length_erase_of_mem ha] at this
    have := List.length_pos_of_mem ha
    simp only [List.length_cons]; omega

theorem asc_filter {n : Nat} {q : Nat → Bool} : ∀ i, i + 1 < (ints ((List.range n).filter q)).length → (ints ((List.range n).filter q)).getD i default < (ints ((List.range n).filter q)).getD (i + 1) default := fun i hi => by
  have hp : ((List.range n).filter q).Pairwise (· < ·) := List.Pairwise.filter _ List.pairwise_lt_range
  rw [ints_len] at hi
  rw [ints_get (by omega), ints_get hi]
  have := List.pairwise_iff_getElem.1 hp i (i + 1) (by omega) hi (by omega)
  rw [List.getD_eq_getElem?_getD, List.getD_eq_getElem?_getD, List.getElem?_eq_getElem (by omega), List.getElem?_eq_getElem hi]
  simpa using this

/-- What wispSame asks. -/
structure SameSet (to : List Nat) (a b : List Int) : Prop where
  len : a.length = b.length
  asc : ∀ i, i + 1 < b.length → b.getD i default < b.getD (i + 1) default
  mem : ∀ x ∈ a, 0 ≤ x ∧ x < (ints to).length ∧ (ints to).getD x.toNat default ∈ b

theorem same_set {n : Nat} {to : List Nat} {p q : Nat → Bool} (h : Perm n to) (hq : ∀ i, i < n → q (at' to i) = p i) : SameSet to (ints ((List.range n).filter p)) (ints ((List.range n).filter q)) := by
  refine ⟨?_, asc_filter, fun x hx => ?_⟩
  · rw [ints_len, ints_len]
    have nd : ∀ p : Nat → Bool, ((List.range n).filter p).Nodup := fun p => List.nodup_range.filter _
    have e1 : (((List.range n).filter p).map (at' to)).length = ((List.range n).filter p).length := List.length_map ..
    have h1 : (((List.range n).filter p).map (at' to)).length ≤ ((List.range n).filter q).length := by
      refine nodup_le ?_ fun x hx => ?_
      · rw [List.Nodup, List.pairwise_map]
        refine List.Pairwise.imp_of_mem ?_ (nd p)
        intro a b ha hb hab e
        have ha := (List.mem_filter.1 ha).1
        have hb := (List.mem_filter.1 hb).1
        exact hab (h.inj a b (by simpa using ha) (by simpa using hb) e)
      · obtain ⟨i, hi, rfl⟩ := List.mem_map.1 hx
        obtain ⟨h1, h2⟩ := List.mem_filter.1 hi
        have h1 : i < n := by simpa using h1
        exact List.mem_filter.2 ⟨by simpa using h.lt i h1, by rw [hq i h1]; exact h2⟩
    have h2 : ((List.range n).filter q).length ≤ (((List.range n).filter p).map (at' to)).length := by
      refine nodup_le (nd q) fun x hx => ?_
      obtain ⟨h1, h2⟩ := List.mem_filter.1 hx
      obtain ⟨i, hi, hix⟩ := h.surj x (by simpa using h1)
      exact List.mem_map.2 ⟨i, List.mem_filter.2 ⟨by simpa using hi, by rw [← hq i hi, show at' to i = x from hix]; exact h2⟩, hix⟩
    omega
  · obtain ⟨i, hi, rfl⟩ := List.mem_map.1 hx
    obtain ⟨h1, h2⟩ := List.mem_filter.1 hi
    have h1 : i < n := by simpa using h1
    refine ⟨by omega, by rw [ints_len, h.len]; omega, ?_⟩
    rw [Int.toNat_natCast, ints_get (by rw [h.len]; exact h1)]
    exact List.mem_map.2 ⟨at' to i, List.mem_filter.2 ⟨by simpa using h.lt i h1, by rw [hq i h1]; exact h2⟩, rfl⟩

theorem Like.neigh {n : Nat} {to : List Nat} {w v : Air} (h : Like n to w v) {j : Nat} (hj : j < n) : SameSet to (neighS w j) (neighS v (at' to j)) := by
  unfold neighS
  rw [h.n1, h.n2]
  exact same_set h.perm fun i hi => h.hears hi hj
end Go.Proofs.Ytencghlmckbmlaa
