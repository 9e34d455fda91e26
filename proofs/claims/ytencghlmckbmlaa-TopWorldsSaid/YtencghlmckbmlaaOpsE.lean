/- Slices made and appended to; contracts and calls: over symbolic states. -/
import Derived.Test.YtencghlmckbmlaaOpsD
set_option linter.unusedVariables false
set_option linter.unusedSimpArgs false
namespace Go.Proofs.Ytencghlmckbmlaa
open Go Go.RowKit

section
variable {P : Program} {ρ : Operand → AV} {bk0 : Bk} {dst : Option Tmp} {ty : TypeId} {pos : String} {after : Array Edge} {gd : Option (Nat × Bool)}

def bytesB (P : Program) (t : Nat) : Option Nat := (P.info? t).map (·.bytes)

theorem elemB_spec {t e k : Nat} (h : elemB P t = some (e, k)) : P.underlying t = some (.slice e) ∧ sizeB P e = some k := by
  unfold elemB at h
  split at h
  · rename_i e' hu
    cases hi : P.info? e' with
    | none => rw [hi] at h; cases h
    | some i => rw [hi] at h; simp at h; obtain ⟨rfl, rfl⟩ := h; exact ⟨hu, by simp [sizeB, hi]⟩
  · cases h

/-- What was read out of a slice that nobody writes. -/
theorem ro_cells {S : Nat → Prop} {w : World} {xs : List (List D)} {x : Value} (h : RepD S w (.s xs) x) {k : Nat} (hk : ∀ row ∈ xs, row.length = k) :
    ∃ (a : Option Addr) (c : Nat) (news : List Value), x = .slice a xs.length c ∧ news.length = xs.length * k ∧
      (∀ w' : World, w'.heap = w.heap → ∀ P : Program, (Builtin.firstCells k xs.length x).run P w' = .ok news.toArray w') ∧
      (∀ (i j : Nat) (row : List D) (d : D) (v : Value), xs[i]? = some row → row[j]? = some d → news[i * k + j]? = some v → RepD S w d v) ∧ (∀ v ∈ news, v.oneCell' = true) := by
  cases h with
  | nil a c =>
    refine ⟨a, c, [], rfl, by simp, fun w' _ P => ?_, fun i j row d v h => by simp at h, fun v h => by cases h⟩
    cases a with
    | none => simp [Builtin.firstCells]
    | some a => simp [Builtin.firstCells, loadCells, loadCellsFrom]
  | s _ b o k' cap g hS hcap' hk' hc hr =>
    by_cases hne : xs = []
    · subst hne
      refine ⟨_, cap, [], rfl, by simp, fun w' _ P => by simp [Builtin.firstCells, loadCells, loadCellsFrom], fun i j row d v h => by simp at h, fun v h => by cases h⟩
    · have hkk : k' = k := by
        cases xs with
        | nil => exact absurd rfl hne
        | cons r rest => exact (hk' 0 r rfl).symm.trans (hk r (List.mem_cons_self ..))
      subst hkk
      let f : Nat → Value := fun p => g (p / k') (p % k')
      have hget : ∀ i j, j < k' → f (i * k' + j) = g i j := fun i j hj => by
        have h1 : (i * k' + j) / k' = i := by rw [Nat.mul_comm, Nat.mul_add_div (by omega), Nat.div_eq_of_lt hj]; omega
        have h2 : (i * k' + j) % k' = j := by rw [Nat.mul_comm, Nat.mul_add_mod, Nat.mod_eq_of_lt hj]
        simp only [f, h1, h2]
      have hpos : ∀ p, p < xs.length * k' → 0 < k' := fun p hp => by
        rcases Nat.eq_zero_or_pos k' with h | h
        · rw [h] at hp; simp at hp
        · exact h
      have hcell : ∀ p, p < xs.length * k' → w.cell? ⟨b, o + p, none⟩ = some (f p) := fun p hp => by
        have hk0 := hpos p hp
        have h1 : p / k' < xs.length := by rw [Nat.div_lt_iff_lt_mul hk0]; exact hp
        have := hc (p / k') (p % k') h1 (Nat.mod_lt _ hk0)
        have e : o + p / k' * k' + p % k' = o + p := by have := Nat.div_add_mod p k'; rw [Nat.mul_comm] at this; omega
        rw [e] at this
        exact this
      refine ⟨_, cap, (List.range (xs.length * k')).map f, rfl, by simp, fun w' hw' P => ?_, fun i j row d v h1 h2 h3 => ?_, fun v hv => ?_⟩
      · refine run_firstCells_some (P := P) w' k' xs.length ⟨b, o, none⟩ xs.length cap _ (by simp) fun p v hv => ?_
        have hp : p < xs.length * k' := by have := (List.getElem?_eq_some_iff.1 hv).1; simpa using this
        rw [List.getElem?_map, List.getElem?_range hp] at hv
        simp at hv
        rw [Addr.add_mid, ← hv]
        have := hcell p hp
        unfold World.cell? at this ⊢
        rw [hw']; exact this
      · have hi : i < xs.length := (List.getElem?_eq_some_iff.1 h1).1
        have hj : j < k' := by have := (List.getElem?_eq_some_iff.1 h2).1; rw [hk' i row h1] at this; exact this
        rw [List.getElem?_map, List.getElem?_range (mul_lt_of hi hj)] at h3
        simp at h3
        rw [← h3, hget i j hj]
        exact hr i j row d h1 h2
      · rw [List.mem_map] at hv
        obtain ⟨p, hp, rfl⟩ := hv
        have hp : p < xs.length * k' := by simpa using hp
        have hk0 := hpos p hp
        have h1 : p / k' < xs.length := by rw [Nat.div_lt_iff_lt_mul hk0]; exact hp
        have h2 := List.getElem?_eq_getElem h1
        have h3 : p % k' < (xs[p / k']).length := by rw [hk' _ _ h2]; exact Nat.mod_lt _ hk0
        exact (hr _ _ _ _ h2 (List.getElem?_eq_getElem h3)).one

theorem cut_none_forced {need cap e : Nat} : (Question.appendCap need cap e).forced = false := rfl

theorem nextcap_le (n c : Nat) (h : c < n) : Builtin.nextslicecap n c ≤ 2 * n + 512 := by
  unfold Builtin.nextslicecap
  split
  · omega
  · split
    · omega
    · have key : ∀ r c, c ≤ 2 * n → c < n + n → Builtin.growBy n r c ≤ 2 * n + 512 := by
        intro r
        induction r with
        | zero => intro c hc _; simp [Builtin.growBy]; omega
        | succ r ih =>
          intro c hc h2
          simp only [Builtin.growBy]
          split
          · omega
          · rename_i hlt
            by_cases h3 : c + (c + 768) / 4 < n + n
            · exact ih _ (by omega) h3
            · have : ∀ r, Builtin.growBy n r (c + (c + 768) / 4) = c + (c + 768) / 4 := by
                intro r; cases r with
                | zero => rfl
                | succ r => simp only [Builtin.growBy]; rw [if_pos (by omega)]
              rw [this]; omega
      exact key 4 c (by omega) (by omega)

/-- append(s, x...): within the room, or into a new array. -/
theorem run_append_any {t t2 tr e : TypeId} {i : TypeInfo} {z : Value} {bytes k : Nat} (w : World) (ht : P.underlying t = some (.slice e)) (ht2 : P.underlying t2 = some (.slice e)) (hi : P.info? e = some i)
    (hz : i.zero = some z) (hk : i.size = k) (hby : i.bytes = bytes) (base : Option Addr) (n cap m : Nat) (x : Value) (olds news : List Value)
    (hlen : ∀ w' : World, (Builtin.lenOf x).run P w' = .ok m w')
    (hold : n + m > cap → ∀ w' : World, w'.heap = w.heap → (Builtin.firstCells k n (.slice base n cap)).run P w' = .ok olds.toArray w')
    (hnew : ∀ w' : World, w'.heap = w.heap → (Builtin.firstCells k m x).run P w' = .ok news.toArray w')
    (hbytes : (2 * (n + m) + 512) * bytes ≤ 281474976710656) (h63 : n + m ≤ 4611686018427387904) :
    (Builtin.append_ #[t, t2] tr #[.slice base n cap, x]).run P w =
      if n + m ≤ cap then (match base with
        | some a => ((storeCells (a.add (n * k)) news).run P w).andThen fun _ w' => .ok (.slice base (n + m) cap) w'
        | none => .ok (.slice base (n + m) cap) w)
      else .ok (.slice (some ⟨w.heap.size, 0, none⟩) (n + m) ((Question.appendCap (n + m) cap e).cut (w.tape w.drawn (.appendCap (n + m) cap e))))
        (w.drew.alloc (.cells (olds.toArray ++ news.toArray ++ Builtin.zeroCells z.cells ((Question.appendCap (n + m) cap e).cut (w.tape w.drawn (.appendCap (n + m) cap e)) - (n + m))) e)) := by
  have hsz : (sizeOf e).run P w = .ok k w := run_sizeOf (by simp [sizeB, hi, hk]) w
  by_cases hfit : n + m ≤ cap
  · rw [if_pos hfit]
    have := hnew w rfl
    cases base with
    | none => simp [Builtin.append_, run_underlying ht, run_underlying ht2, hsz, hlen, hfit, this]
    | some a => simp [Builtin.append_, run_underlying ht, run_underlying ht2, hsz, hlen, hfit, this]
  · rw [if_neg hfit]
    have h1 := hold (by omega) w.drew rfl
    have h2 := hnew w.drew rfl
    have h3 := nextcap_le (n + m) cap (by omega)
    have h4 : ¬ (281474976710656 < Builtin.nextslicecap (n + m) cap * bytes) := by
      have := Nat.mul_le_mul_right bytes h3; omega
    have h5 : ¬ (9223372036854775807 < (n : Int) + (m : Int)) := by omega
    simp [Builtin.append_, run_underlying ht, run_underlying ht2, hsz, hlen, hfit, typeInfo, hi, hby, h4, h5, cut_none_forced, h1, h2, zeroValue, hz, newRow]
    simp [← List.append_toArray, Array.append_assoc]
end

end Go.Proofs.Ytencghlmckbmlaa
