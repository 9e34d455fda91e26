/- A world by numbers, and the same one turned and moved with its nodes called otherwise: plain functions. -/
import Derived.Test.YtencghlmckbmlaaWorld3
set_option linter.unusedVariables false
set_option linter.unusedSimpArgs false
namespace Go.Proofs.Ytencghlmckbmlaa
open Go Go.RowKit

structure Place where
  x : Int
  y : Int
  power : Int
  chan : Int
deriving Inhabited
def encP (p : Place) : List D := [.v (.int .i16 p.x), .v (.int .i16 p.y), .v (.int .u8 p.power), .v (.int .u8 p.chan)]
def encU16 (x : Int) : List D := [.v (.int .u16 x)]
structure PlaceOk (p : Place) : Prop where
  x0 : -32768 ≤ p.x
  x1 : p.x ≤ 32767
  y0 : -32768 ≤ p.y
  y1 : p.y ≤ 32767
  p0 : 0 ≤ p.power
  p1 : p.power ≤ 255
  c0 : 0 ≤ p.chan
  c1 : p.chan ≤ 255

def radioA (p : Place) : Radio := ⟨Int.tmod p.x 4000, Int.tmod p.y 4000, p.power, 1 + p.chan % 3⟩
def moveR (way dx dy : Int) (r : Radio) : Radio := ⟨(movedS r.x r.y way dx dy).1, (movedS r.x r.y way dx dy).2, r.power, r.chan⟩

/-- Elements set one by one at the places that 'to' gives. -/
def setF {α : Type} [Inhabited α] (to : List Nat) (f : Nat → α) (z : α) (n p : Nat) : List α := (List.range p).foldl (fun B j => B.set (to.getD j default) (f j)) (List.replicate n z)
theorem setF_succ {α : Type} [Inhabited α] {to : List Nat} {f : Nat → α} {z : α} {n p : Nat} : setF to f z n (p + 1) = (setF to f z n p).set (to.getD p default) (f p) := by
  simp [setF, List.range_succ, List.foldl_append]
theorem setF_len {α : Type} [Inhabited α] {to : List Nat} {f : Nat → α} {z : α} {n : Nat} : ∀ p, (setF to f z n p).length = n
  | 0 => by simp [setF]
  | p + 1 => by rw [setF_succ]; simpa using setF_len p
theorem setF_get {α : Type} [Inhabited α] {to : List Nat} {f : Nat → α} {z : α} {n : Nat} (h : Perm n to) : ∀ {p : Nat}, p ≤ n → ∀ {j : Nat}, j < p → (setF to f z n p).getD (to.getD j default) default = f j
  | 0, _, j, hj => absurd hj (Nat.not_lt_zero _)
  | p + 1, hp, j, hj => by
    rw [setF_succ]
    by_cases e : p = j
    · subst e; exact getD_set_eq' (by rw [setF_len]; exact h.lt p (by omega))
    · rw [getD_set_ne2 (fun e2 => e (h.inj p j (by omega) (by omega) e2))]
      exact setF_get h (by omega) (by omega)

/-- The shadow of a pair. -/
def shad (n : Nat) (sh : List Int) (i j : Nat) : Int := if i ≠ j then (sh.getD (((i : Int) * (n : Int) + (j : Int)) % (sh.length : Int)).toNat default) % 601 else 0
def rowS (n : Nat) (sh : List Int) (i : Nat) : List Int := (List.range n).map (shad n sh i)
/-- The rows of the other world's shadow, when so many rows are done. -/
def famZ (n p v : Nat) : List Int := if v < p then List.replicate n 0 else []
def famS (n : Nat) (sh : List Int) (to : List Nat) : Nat → Nat → List Int
  | 0, v => famZ n n v
  | i + 1, v => if v = to.getD i default then setF to (shad n sh i) 0 n n else famS n sh to i v
def famG (n : Nat) (sh : List Int) (to : List Nat) (i q v : Nat) : List Int := if v = to.getD i default then setF to (shad n sh i) 0 n q else famS n sh to i v

theorem famS_new {n : Nat} {sh : List Int} {to : List Nat} (h : Perm n to) : ∀ {i : Nat}, ∀ {v : Nat}, v < n → i < n → v < n → i ≤ v ∨ True → (∀ k, k < i → to.getD k default ≠ to.getD v default) → famS n sh to i (to.getD v default) = List.replicate n 0
  | 0, v, hv, hi, _, _, _ => by show famZ n n _ = _; unfold famZ; rw [if_pos (h.lt v hv)]
  | i + 1, v, hv, hi, _, _, hn => by
    show (if _ then _ else _) = _
    rw [if_neg (fun e => hn i (by omega) e.symm)]
    exact famS_new h hv (by omega) hv (.inr trivial) fun k hk => hn k (by omega)
theorem famG_zero {n : Nat} {sh : List Int} {to : List Nat} (h : Perm n to) {i : Nat} (hi : i < n) (v : Nat) : famG n sh to i 0 v = famS n sh to i v := by
  unfold famG
  split
  · rename_i e
    subst e
    rw [famS_new h hi hi hi (.inr trivial) (fun k hk e => by have := h.inj k i (by omega) hi e; omega)]
    rfl
  · rfl
theorem famG_end {n : Nat} {sh : List Int} {to : List Nat} {i : Nat} (v : Nat) : famG n sh to i n v = famS n sh to (i + 1) v := rfl
theorem famG_step {n : Nat} {sh : List Int} {to : List Nat} {i q x : Nat} (hx : to.getD i default = x) : famG n sh to i (q + 1) x = (famG n sh to i q x).set (to.getD q default) (shad n sh i q) := by
  unfold famG; rw [if_pos hx.symm, if_pos hx.symm, setF_succ]
theorem famG_other {n : Nat} {sh : List Int} {to : List Nat} {i q v x : Nat} (hx : to.getD i default = x) (hv : v ≠ x) : famG n sh to i (q + 1) v = famG n sh to i q v := by
  unfold famG; rw [if_neg (fun e => hv (e.trans hx)), if_neg (fun e => hv (e.trans hx))]
theorem famS_len {n : Nat} {sh : List Int} {to : List Nat} (h : Perm n to) : ∀ {i : Nat}, i ≤ n → ∀ v, (famS n sh to i v).length = if v < n then n else 0
  | 0, _, v => by show (famZ n n v).length = _; unfold famZ; split <;> simp
  | i + 1, hi, v => by
    show (if _ then _ else _ : List Int).length = _
    split
    · rename_i e
      rw [setF_len, if_pos (by rw [e]; exact h.lt i (by omega))]
    · exact famS_len h (by omega) v
theorem famG_len {n : Nat} {sh : List Int} {to : List Nat} (h : Perm n to) {i q : Nat} (hi : i < n) (v : Nat) : (famG n sh to i q v).length = if v < n then n else 0 := by
  unfold famG
  split
  · rename_i e
    rw [setF_len, if_pos (by rw [e]; exact h.lt i hi)]
  · exact famS_len h (by omega) v
theorem famS_get {n : Nat} {sh : List Int} {to : List Nat} (h : Perm n to) : ∀ {p : Nat}, p ≤ n → ∀ {i : Nat}, i < p → famS n sh to p (to.getD i default) = setF to (shad n sh i) 0 n n
  | 0, _, i, hi => absurd hi (Nat.not_lt_zero _)
  | p + 1, hp, i, hi => by
    show (if _ then _ else _) = _
    by_cases e : i = p
    · subst e; rw [if_pos rfl]
    · rw [if_neg (fun e2 => e (h.inj i p (by omega) (by omega) e2))]
      exact famS_get h (by omega) (by omega)

/-- The cells of the other world's shadow: rows under ten names. -/
def famF (len : Nat → Nat) (j : Nat) : AV := if j < 10 then .own (20000 + j) 0 1 (len j) else .nil
theorem famF_get {n x : Nat} (h : x < 10) (hx : x < n) : famF (fun j => if j < n then n else 0) x = .own (20000 + x) 0 1 n := by
  unfold famF; rw [if_pos h]; show AV.own _ 0 1 (if x < n then n else 0) = _; rw [if_pos hx]
def fnames : List Nat := [20000, 20001, 20002, 20003, 20004, 20005, 20006, 20007, 20008, 20009]
theorem mem_fnames {m : Nat} (h : 20000 ≤ m) (h2 : m < 20010) : m ∈ fnames := by
  obtain ⟨k, rfl⟩ : ∃ k, m = 20000 + k := ⟨m - 20000, by omega⟩
  have : ∀ k, k < 10 → 20000 + k ∈ fnames := by decide
  exact this k (by omega)
theorem fam_says {len : Nat → Nat} : ∀ i m, (famF len i).says m = true → m ∈ fnames := fun i m h => by
  unfold famF at h
  split at h
  · have : (20000 + i == m) = true := h
    simp at this
    exact mem_fnames (by omega) (by omega)
  · cases h
theorem famF_ren {len : Nat → Nat} {f : Nat → Nat} (h : ∀ k, k < 10 → f (20000 + k) = 20000 + k) : (fun i => (famF len i).ren f) = famF len := by
  funext i
  unfold famF
  split
  · rename_i hi; show AV.own (f (20000 + i)) 0 1 (len i) = _; rw [h i hi]
  · rfl
/-- The first k under their names, none made. -/
def famB (k j : Nat) : AV := if j < k then .own (20000 + j) 0 1 0 else .nil
theorem famB_says {k : Nat} : ∀ i m, (famB k i).says m = true → m ∈ (List.range k).map (20000 + ·) := fun i m h => by
  unfold famB at h
  split at h
  · rename_i hi
    have : (20000 + i == m) = true := h
    simp at this
    exact List.mem_map.2 ⟨i, List.mem_range.2 hi, this⟩
  · cases h
theorem famB_at {k : Nat} : famB k k = .nil := by unfold famB; rw [if_neg (by omega)]
theorem famB_new {k : Nat} : famB (k + 1) k = .own (20000 + k) 0 1 0 := by unfold famB; rw [if_pos (by omega)]
theorem famB_other {k j : Nat} (h : j ≠ k) : famB (k + 1) j = famB k j := by
  unfold famB
  by_cases h1 : j < k
  · rw [if_pos (by omega), if_pos h1]
  · rw [if_neg (by omega), if_neg h1]
theorem famB_end {n : Nat} : famB 10 = famF fun j => if j < 0 then n else 0 := by
  funext j; unfold famB famF; split <;> rfl
theorem famB_first {j : Nat} (h : j ≠ 0) : famB 1 j = .nil := (famB_other h).trans (if_neg (Nat.not_lt_zero j))
/-- The cells while one is being made under another name. -/
def famM (p n b : Nat) (j : Nat) : AV := if j = p then .own b 0 1 n else famF (fun j => if j < p then n else 0) j
theorem famM_says {p n b : Nat} (hp : p < 10) : ∀ i m, (famM p n b i).says m = true → m ∈ fnames.map (fun m => bif Nat.beq m (20000 + p) then b else m) := fun i m h => by
  unfold famM at h
  split at h
  · have : (b == m) = true := h
    simp at this; subst this
    exact List.mem_map.2 ⟨20000 + p, mem_fnames (by omega) (by omega), by simp⟩
  · rename_i hi
    unfold famF at h
    split at h
    · have : (20000 + i == m) = true := h
      simp at this; subst this
      exact List.mem_map.2 ⟨20000 + i, mem_fnames (by omega) (by omega), by rw [show Nat.beq (20000 + i) (20000 + p) = false from natbeq_false (by omega)]; rfl⟩
    · cases h
theorem famM_ren {p n b : Nat} (hp : p < 10) : (fun i => (famF (fun j => if j < p + 1 then n else 0) i).ren (fun m => bif Nat.beq m (20000 + p) then b else m)) = famM p n b := by
  funext i
  unfold famF famM famF
  by_cases h : i = p
  · subst h
    rw [if_pos hp, if_pos rfl]
    simp [AV.ren]
  · rw [if_neg h]
    split
    · have e : Nat.beq (20000 + i) (20000 + p) = false := natbeq_false (by omega)
      simp only [AV.ren, e, cond_false]
      by_cases h2 : i < p
      · rw [if_pos (by omega), if_pos h2]
      · rw [if_neg (by omega), if_neg h2]
    · rfl
/-- The first k rows are data. -/
def famD (n : Nat) (F : Nat → List Int) (k j : Nat) : AV := if j < k then .d (.s ((F j).map encInt)) else famF (fun j => if j < n then n else 0) j
theorem famD_says {n : Nat} {F : Nat → List Int} {k : Nat} : ∀ i m, (famD n F k i).says m = true → m ∈ fnames := fun i m h => by
  unfold famD at h
  split at h
  · cases h
  · exact fam_says i m h
theorem famD_zero {n : Nat} {F : Nat → List Int} : famD n F 0 = famF (fun j => if j < n then n else 0) := by
  funext j; unfold famD; rw [if_neg (Nat.not_lt_zero _)]
theorem famD_at {n : Nat} {F : Nat → List Int} {k : Nat} (h : k < 10) : famD n F k k = .own (20000 + k) 0 1 (if k < n then n else 0) := by
  unfold famD famF; rw [if_neg (by omega), if_pos h]
theorem famD_new {n : Nat} {F : Nat → List Int} {k : Nat} : famD n F (k + 1) k = .d (.s ((F k).map encInt)) := by unfold famD; rw [if_pos (by omega)]
theorem famD_other {n : Nat} {F : Nat → List Int} {k j : Nat} (h : j ≠ k) : famD n F (k + 1) j = famD n F k j := by
  unfold famD
  by_cases h1 : j < k
  · rw [if_pos (by omega), if_pos h1]
  · rw [if_neg (by omega), if_neg h1]
theorem famD_all {n : Nat} {F : Nat → List Int} {i : Nat} (h : i < 10) : famD n F 10 i = .d (.s ((F i).map encInt)) := by unfold famD; rw [if_pos h]

theorem fill_step {n q : Nat} {L : List Int} {f : Nat → Int} (hl : L.length = n) (hq : q < n) (h : ∀ j, j < n → L.getD j default = if j < q then f j else 0) : ∀ j, j < n → (L.set q (f q)).getD j default = if j < q + 1 then f j else 0 := fun j hj => by
  by_cases e : q = j
  · subst e; rw [getD_set_eq' (by omega), if_pos (by omega)]
  · rw [getD_set_ne2 e, h j hj]
    by_cases h2 : j < q
    · rw [if_pos h2, if_pos (by omega)]
    · rw [if_neg h2, if_neg (by omega)]
theorem fill_skip {n q : Nat} {L : List Int} {f : Nat → Int} (hf : f q = 0) (h : ∀ j, j < n → L.getD j default = if j < q then f j else 0) : ∀ j, j < n → L.getD j default = if j < q + 1 then f j else 0 := fun j hj => by
  rw [h j hj]
  by_cases e : j = q
  · subst e; rw [if_neg (by omega), if_pos (by omega), hf]
  · by_cases h2 : j < q
    · rw [if_pos h2, if_pos (by omega)]
    · rw [if_neg h2, if_neg (by omega)]
theorem fill_end {n : Nat} {L : List Int} {f : Nat → Int} (hl : L.length = n) (h : ∀ j, j < n → L.getD j default = if j < n then f j else 0) : L = (List.range n).map f := by
  apply List.ext_getElem?
  intro j
  by_cases hj : j < n
  · have h1 := h j hj
    rw [if_pos hj, List.getD_eq_getElem?_getD, List.getElem?_eq_getElem (by omega)] at h1
    have h2 : L[j] = f j := h1
    rw [List.getElem?_eq_getElem (by omega), h2]; simp [hj]
  · rw [List.getElem?_eq_none (by omega), List.getElem?_eq_none (by simp; omega)]
theorem rowS_get {n : Nat} {sh : List Int} {i q : Nat} (h : q < n) : (rowS n sh i).getD q default = shad n sh i q := by
  simp [rowS, List.getD_eq_getElem?_getD, h]
def airA (l : List Place) (sh : List Int) : Air := ⟨l.map radioA, if sh.length = 0 then [] else (List.range l.length).map (rowS l.length sh)⟩
def airB (l : List Place) (sh : List Int) (to : List Nat) (way dx dy : Int) : Air :=
  ⟨setF to (fun j => moveR way dx dy (radioA (l.getD j default))) default l.length l.length, if sh.length = 0 then [] else (List.range l.length).map (famS l.length sh to l.length)⟩

theorem place_b {p : Place} (h : PlaceOk p) : (-3999 ≤ Int.tmod p.x 4000 ∧ Int.tmod p.x 4000 ≤ 3999) ∧ (-3999 ≤ Int.tmod p.y 4000 ∧ Int.tmod p.y 4000 ≤ 3999) := by
  have b : ∀ x : Int, -3999 ≤ Int.tmod x 4000 ∧ Int.tmod x 4000 ≤ 3999 := fun x => by
    rcases Int.le_total 0 x with h | h
    · rw [Int.tmod_eq_emod_of_nonneg h]; omega
    · have e : x = -(-x) := by omega
      rw [e, Int.neg_tmod, Int.tmod_eq_emod_of_nonneg (by omega)]; omega
  exact ⟨b _, b _⟩
end Go.Proofs.Ytencghlmckbmlaa
