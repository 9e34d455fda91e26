/- Radios and worlds: data and plain functions, and the forms of three operations. -/
import Derived.Test.YtencghlmckbmlaaEq2
import Derived.Test.YtencghlmckbmlaaRun1
set_option linter.unusedVariables false
set_option linter.unusedSimpArgs false
set_option maxRecDepth 100000
namespace Go.Proofs.Ytencghlmckbmlaa
open Go Go.RowKit

section
variable {P : Program} {s : St} {bk0 : Bk} {dst : Option Tmp} {ty : TypeId} {pos : String} {after : Array Edge} {gd : Option (Nat × Bool)}
theorem shrT {t t' : TypeId} {x y : Operand} {k k' : IntKind} {a b z : Int} (hx : evalO s x = some (.d (.v (.int k a)))) (hy : evalO s y = some (.d (.v (.int k' b)))) (h0 : 0 ≤ b) (hz : a.fdiv (2 ^ (min b.toNat k.bits)) = z) :
    Step P ⟨dst, .binOp .shr t x y t', ty, pos, after, gd⟩ (evalA s) bk0 (.d (.v (.int k z))) [] [] := hz ▸ step_shr (ev hx) (ev hy) h0
theorem negT {t : TypeId} {x : Operand} {k : IntKind} {a z : Int} (hx : evalO s x = some (.d (.v (.int k a)))) (hz : k.wrap (0 - a) = z) :
    Step P ⟨dst, .unOp .neg t x, ty, pos, after, gd⟩ (evalA s) bk0 (.d (.v (.int k z))) [] [] := hz ▸ step_neg (ev hx)
theorem step_indexS {P : Program} {ρ : Operand → AV} {t : TypeId} {x y : Operand} {str : ByteArray} {kk : IntKind} {z : Int} {b : UInt8} (hx : ρ x = .d (.v (.string str))) (hy : ρ y = .d (.v (.int kk z))) (ht : P.underlying t = some .string) (h0 : 0 ≤ z) (hb : str[z.toNat]? = some b) :
    Step P ⟨dst, .index t x y, ty, pos, after, gd⟩ ρ bk0 (.d (.v (.int .u8 b.toNat))) [] [] :=
  step_pure fun E w vals bk hv hB hb' => by
    have h1 := hv x (by simp [Op.operands]); rw [hx] at h1
    have h2 := hv y (by simp [Op.operands]); rw [hy] at h2
    refine ⟨_, ?_, .d (.v _ rfl)⟩
    simp only [execOp, rep_val h1, rep_val h2, Instr.index, Sem.run_bind, asIntOf, run_underlying ht, Result.andThen_ok, Sem.run_pure, if_pos h0, hb]
end
section
variable {s : St} {bk0 : Bk} {dst : Option Tmp} {ty : TypeId} {pos : String} {after : Array Edge} {gd : Option (Nat × Bool)}
theorem under9 : Try.prog.underlying 9 = some .string := by kernel_rfl
theorem indexST {x y : Operand} {str : ByteArray} {kk : IntKind} {z n : Int} {b : UInt8} (hx : evalO s x = some (.d (.v (.string str)))) (hy : evalO s y = some (.d (.v (.int kk z)))) (h0 : 0 ≤ z) (hb : str[z.toNat]? = some b) (hn : (b.toNat : Int) = n) :
    Step Try.prog ⟨dst, .index 9 x y, ty, pos, after, gd⟩ (evalA s) bk0 (.d (.v (.int .u8 n))) [] [] := hn ▸ step_indexS (ev hx) (ev hy) under9 h0 hb
end

def len8 (x : Int) : Int := if x ≤ 0 then 0 else (Nat.log2 x.toNat : Nat) + 1
def tabB (str : ByteArray) : Bool := (List.range 256).all fun k => match str[k]? with | some b => (b.toNat : Int) == len8 (k : Nat) | none => false
theorem tab_get {str : ByteArray} (h : tabB str = true) {x : Int} (h0 : 0 ≤ x) (h1 : x < 256) : ∃ b, str[x.toNat]? = some b ∧ (b.toNat : Int) = len8 x := by
  have := List.all_eq_true.1 h x.toNat (List.mem_range.2 (by omega))
  split at this
  · rename_i b hb
    refine ⟨b, hb, ?_⟩
    have e : ((x.toNat : Nat) : Int) = x := by omega
    rw [e] at this
    simpa using this
  · cases this
theorem indexLT {s : St} {bk0 : Bk} {dst : Option Tmp} {ty : TypeId} {pos : String} {after : Array Edge} {gd : Option (Nat × Bool)} {x y : Operand} {str : ByteArray} {kk : IntKind} {z : Int} (hx : evalO s x = some (.d (.v (.string str)))) (hy : evalO s y = some (.d (.v (.int kk z)))) (h0 : 0 ≤ z) (h1 : z < 256) (hs : tabB str = true) :
    Step Try.prog ⟨dst, .index 9 x y, ty, pos, after, gd⟩ (evalA s) bk0 (.d (.v (.int .u8 (len8 z)))) [] [] :=
  let ⟨_, hb, hn⟩ := tab_get hs h0 h1
  indexST hx hy h0 hb hn

theorem wrap_u64 {n : Int} (h : 0 ≤ n ∧ n ≤ 18446744073709551615) : IntKind.u64.wrap n = n := by
  unfold IntKind.wrap
  simp only [show IntKind.u64.bits = 64 from rfl, show IntKind.u64.signed = false from rfl, Int.reducePow, Bool.false_and]
  simp only [Bool.false_eq_true, if_false]
  omega
theorem wrap_u8 {n : Int} (h : 0 ≤ n ∧ n ≤ 255) : IntKind.u8.wrap n = n := by
  unfold IntKind.wrap
  simp only [show IntKind.u8.bits = 8 from rfl, show IntKind.u8.signed = false from rfl, Int.reducePow, Bool.false_and]
  simp only [Bool.false_eq_true, if_false]
  omega

structure Radio where
  x : Int
  y : Int
  power : Int
  chan : Int
deriving Inhabited

def encRadio (r : Radio) : List D := [vi r.x, vi r.y, vi r.power, vi r.chan]
theorem radio_rows {l : List Radio} : ∀ row ∈ l.map encRadio, row.length = 4 := fun row h => by
  obtain ⟨x, _, rfl⟩ := List.mem_map.1 h; rfl

structure Air where
  radios : List Radio
  shadow : List (List Int)

def Air.av (w : Air) : AV := .agg [.d (.s (w.radios.map encRadio)), .d (.s (w.shadow.map encRow))]
def Air.cells (w : Air) : List AV := [.d (.s (w.radios.map encRadio)), .d (.s (w.shadow.map encRow))]

structure RadioOk (r : Radio) : Prop where
  x0 : -10000 ≤ r.x
  x1 : r.x ≤ 10000
  y0 : -10000 ≤ r.y
  y1 : r.y ≤ 10000
  p0 : 0 ≤ r.power
  p1 : r.power ≤ 300
  c0 : 1 ≤ r.chan
  c1 : r.chan ≤ 64

structure RowOk (n i : Nat) (row : List Int) : Prop where
  len : row.length = n
  zero : row.getD i default = 0
  ok : ∀ x ∈ row, 0 ≤ x ∧ x ≤ 600

structure AirOk (w : Air) : Prop where
  n1 : 1 ≤ w.radios.length
  n32 : w.radios.length ≤ 32
  rad : ∀ r ∈ w.radios, RadioOk r
  sh : w.shadow.length = 0 ∨ w.shadow.length = w.radios.length
  rows : ∀ i, i < w.shadow.length → RowOk w.radios.length i (w.shadow.getD i default)

theorem mem_getD {α : Type} [Inhabited α] {l : List α} {i : Nat} (h : i < l.length) : l.getD i default ∈ l := by
  rw [List.getD_eq_getElem?_getD, List.getElem?_eq_getElem h]; exact List.getElem_mem _

theorem AirOk.get {w : Air} (h : AirOk w) {i : Nat} (hi : i < w.radios.length) : RadioOk (w.radios.getD i default) := h.rad _ (mem_getD hi)

def withinS (x lo hi : Int) : Bool := decide (x ≥ lo) && decide (x ≤ hi)
theorem within_true {x lo hi : Int} (h1 : lo ≤ x) (h2 : x ≤ hi) : withinS x lo hi = true := by simp [withinS, h1, h2]

def searchF (p : Int → Bool) : Nat → Int → Int → Int
  | 0, i, _ => i
  | f + 1, i, j => if i < j then (if p ((i + j) / 2) = true then searchF p f i ((i + j) / 2) else searchF p f ((i + j) / 2 + 1) j) else i

theorem search_le (p : Int → Bool) : ∀ (f : Nat) (i j : Int), i ≤ j → i ≤ searchF p f i j ∧ searchF p f i j ≤ j
  | 0, i, j, h => ⟨Int.le_refl _, h⟩
  | f + 1, i, j, h => by
    unfold searchF
    split
    · split
      · have := search_le p f i ((i + j) / 2) (by omega); omega
      · have := search_le p f ((i + j) / 2 + 1) j (by omega); omega
    · omega

def rootP (s d : Int) : Bool := decide ((d + 1) * (d + 1) > s)
def rootS (s : Int) : Int := searchF (rootP s) 30001 0 30000
theorem root_le (s : Int) : 0 ≤ rootS s ∧ rootS s ≤ 30000 := search_le _ _ _ _ (by decide)

def distS (x1 y1 x2 y2 : Int) : Int := rootS ((x1 - x2) * (x1 - x2) + (y1 - y2) * (y1 - y2))

def len16 (n x : Int) : Int := if x ≥ 256 then n + 8 + len8 (x / 256) else n + len8 x
def len32 (n x : Int) : Int := if x ≥ 65536 then len16 (n + 16) (x / 65536) else len16 n x
def len64S (x : Int) : Int := if x ≥ 4294967296 then len32 32 (x / 4294967296) else len32 0 x

theorem len8_le {x : Int} (h : x < 256) : 0 ≤ len8 x ∧ len8 x ≤ 8 := by
  unfold len8
  split
  · omega
  · have h1 : Nat.log2 x.toNat < 8 := (Nat.log2_lt (by omega)).2 (by omega)
    omega
theorem wrap_len8 {n x : Int} (hn : 0 ≤ n ∧ n ≤ 1000) (hx : x < 256) : IntKind.i64.wrap (n + len8 x) = n + len8 x := by
  have := len8_le hx
  exact wrap_i64 ⟨by omega, by omega⟩
theorem wrap_len8c {x : Int} (hx : x < 256) : IntKind.i64.wrap (len8 x) = len8 x := by
  have := len8_le hx
  exact wrap_i64 ⟨by omega, by omega⟩
theorem len16_le {n x : Int} (h : x < 65536) : n ≤ len16 n x ∧ len16 n x ≤ n + 16 := by
  unfold len16
  split
  · have := len8_le (x := x / 256) (by omega); omega
  · have := len8_le (x := x) (by omega); omega
theorem len32_le {n x : Int} (h : x < 4294967296) : n ≤ len32 n x ∧ len32 n x ≤ n + 32 := by
  unfold len32
  split
  · have := len16_le (n := n + 16) (x := x / 65536) (by omega); omega
  · have := len16_le (n := n) (x := x) (by omega); omega
theorem len64_le {x : Int} (h : x < 18446744073709551616) : 0 ≤ len64S x ∧ len64S x ≤ 64 := by
  unfold len64S
  split
  · have := len32_le (n := 32) (x := x / 4294967296) (by omega); omega
  · have := len32_le (n := 0) (x := x) (by omega); omega

theorem shr32 {x : Int} : x.fdiv (2 ^ (min (32 : Int).toNat IntKind.u64.bits)) = x / 4294967296 := Int.fdiv_eq_ediv_of_nonneg _ (by decide)
theorem shr16 {x : Int} : x.fdiv (2 ^ (min (16 : Int).toNat IntKind.u64.bits)) = x / 65536 := Int.fdiv_eq_ediv_of_nonneg _ (by decide)
theorem shr8 {x : Int} : x.fdiv (2 ^ (min (8 : Int).toNat IntKind.u64.bits)) = x / 256 := Int.fdiv_eq_ediv_of_nonneg _ (by decide)

def lossE (d : Int) : Int := if (1 : Int) > d then 1 else d
def lossS (d : Int) : Int := 400 + 15 * (len64S (lossE d * lossE d * lossE d * lossE d) - 1)

theorem mul_b {a b A B : Int} (ha : 0 ≤ a) (hA : a ≤ A) (hb : 0 ≤ b) (hB : b ≤ B) : 0 ≤ a * b ∧ a * b ≤ A * B :=
  ⟨Int.mul_nonneg ha hb, Int.mul_le_mul hA hB hb (by omega)⟩
theorem sq_b {a A : Int} (h0 : -A ≤ a) (h1 : a ≤ A) : 0 ≤ a * a ∧ a * a ≤ A * A := by
  rcases Int.le_total 0 a with h | h
  · exact mul_b h h1 h h1
  · have := mul_b (a := -a) (b := -a) (A := A) (B := A) (by omega) (by omega) (by omega) (by omega)
    rwa [Int.neg_mul_neg] at this

theorem lossE_b {d : Int} (h0 : 0 ≤ d) (h1 : d ≤ 30000) : 1 ≤ lossE d ∧ lossE d ≤ 30000 := by unfold lossE; split <;> omega
theorem lossE4 {e : Int} (h : 1 ≤ e ∧ e ≤ 30000) : (0 ≤ e * e ∧ e * e ≤ 900000000) ∧ (0 ≤ e * e * e ∧ e * e * e ≤ 27000000000000) ∧ (0 ≤ e * e * e * e ∧ e * e * e * e ≤ 810000000000000000) := by
  have h2 := mul_b (a := e) (b := e) (by omega) h.2 (by omega) h.2
  have h3 := mul_b (a := e * e) (b := e) h2.1 h2.2 (by omega) h.2
  have h4 := mul_b (a := e * e * e) (b := e) h3.1 h3.2 (by omega) h.2
  refine ⟨⟨h2.1, ?_⟩, ⟨h3.1, ?_⟩, ⟨h4.1, ?_⟩⟩
  · exact Int.le_trans h2.2 (by decide)
  · exact Int.le_trans h3.2 (by decide)
  · exact Int.le_trans h4.2 (by decide)

theorem loss_le {d : Int} (h0 : 0 ≤ d) (h1 : d ≤ 30000) : 385 ≤ lossS d ∧ lossS d ≤ 1345 := by
  have h := (lossE4 (lossE_b h0 h1)).2.2
  have := len64_le (x := lossE d * lossE d * lossE d * lossE d) (by omega)
  unfold lossS; omega

def levelS (w : Air) (i j : Nat) : Int :=
  (w.radios.getD i default).power - (lossS (distS (w.radios.getD i default).x (w.radios.getD i default).y (w.radios.getD j default).x (w.radios.getD j default).y) + (if w.shadow.length > 0 then (w.shadow.getD i default).getD j default else 0))

def hearsS (w : Air) (j i : Nat) : Bool := ((i : Int) != (j : Int)) && (((w.radios.getD i default).chan == (w.radios.getD j default).chan) && decide (levelS w i j ≥ -820))

def ints (l : List Nat) : List Int := l.map fun (i : Nat) => ((i : Nat) : Int)
def neighS (w : Air) (j : Nat) : List Int := ints ((List.range w.radios.length).filter (hearsS w j))

theorem shadow_b {w : Air} (h : AirOk w) {i j : Nat} (hi : i < w.shadow.length) (hj : j < w.radios.length) : 0 ≤ (w.shadow.getD i default).getD j default ∧ (w.shadow.getD i default).getD j default ≤ 600 := by
  have := h.rows i hi
  exact this.ok _ (mem_getD (by rw [this.len]; exact hj))

end Go.Proofs.Ytencghlmckbmlaa
