/- The table of the types that the program's text names, by reckoning (printed by gentab.py). -/
import Derived.Test.YtencghlmckbmlaaSpec
import Derived.Test.YtencghlmckbmlaaRows
set_option linter.unusedVariables false
set_option linter.unusedSimpArgs false
set_option maxRecDepth 100000
namespace Go.Proofs.Ytencghlmckbmlaa
open Go Go.RowKit

def asc {α : Type} : List (Nat × α) → Nat → Option α
  | [], _ => none
  | (u, v) :: r, t => bif Nat.beq u t then some v else asc r t

theorem asc_mem {α : Type} {l : List (Nat × α)} {t : Nat} {v : α} (h : asc l t = some v) : (t, v) ∈ l := by
  induction l with
  | nil => cases h
  | cons p r ih =>
    obtain ⟨u, x⟩ := p
    have e : asc ((u, x) :: r) t = bif Nat.beq u t then some x else asc r t := rfl
    rw [e] at h
    cases hb : Nat.beq u t with
    | true =>
      have : u = t := Nat.eq_of_beq_eq_true hb
      subst this; rw [hb, cond_true] at h; injection h with h; subst h; exact List.mem_cons_self ..
    | false => rw [hb, cond_false] at h; exact List.mem_cons_of_mem _ (ih h)

def tabF : List (Nat × List Nat) :=
  [(35, [0, 1]), (42, [0, 1, 2, 3]), (44, [0, 1, 2, 3]), (64, [0, 1, 2, 3]), (70, [0, 4, 5]), (72, [0, 1, 2]), (77, [0, 1, 2, 3, 4, 5, 6, 7, 8, 9, 10, 16, 22, 28, 34, 35, 36, 37, 38, 39]), (79, [0, 40]), (82, [0, 1, 2]), (95, [0, 1]), (101, [0, 2, 3, 4, 5]), (104, [0, 1, 2]), (109, [0, 1, 2]), (112, [0, 1]), (119, [0, 1, 2]), (124, [0, 1, 2, 3, 4, 5, 6, 7, 8]), (128, [0, 1]), (130, [0, 1, 2, 3, 4]), (139, [0, 1, 2, 3]), (141, [0, 1, 2, 3]), (166, [0, 1, 2]), (168, [0, 1, 2]), (177, [0, 1]), (181, [0, 1, 2]), (195, [0, 1, 2]), (215, [0, 1, 2, 3]), (220, [0, 1, 2, 3]), (222, [0, 9, 15, 16]), (238, [0, 1, 2, 3]), (240, [0, 1]), (291, [0])]

def tabA : List (Nat × Nat) :=
  [(35, 2), (42, 4), (44, 4), (58, 8), (64, 4), (68, 8), (70, 13), (72, 3), (74, 6), (77, 40), (79, 41), (82, 3), (95, 2), (101, 6), (104, 3), (109, 3), (112, 2), (114, 2), (119, 3), (124, 9), (128, 2), (130, 6), (139, 4), (141, 4), (166, 3), (168, 43), (177, 2), (181, 3), (195, 3), (215, 4), (220, 4), (222, 17), (238, 44), (240, 42), (285, 4), (291, 2)]

def tabS : List (Nat × Nat) :=
  [(3, 1), (4, 1), (5, 1), (9, 1), (22, 1), (23, 1), (24, 1), (25, 1), (26, 1), (27, 1), (28, 1), (30, 1), (32, 1), (33, 1), (35, 2), (38, 1), (39, 1), (40, 1), (42, 4), (44, 4), (45, 1), (58, 8), (59, 1), (61, 1), (62, 1), (64, 4), (67, 1), (68, 8), (70, 13), (72, 3), (74, 6), (77, 40), (79, 41), (80, 1), (82, 3), (93, 1), (95, 2), (99, 1), (101, 6), (102, 1), (104, 3), (109, 3), (112, 2), (114, 2), (119, 3), (122, 1), (124, 9), (125, 1), (126, 1), (128, 2), (130, 6), (139, 4), (141, 4), (166, 3), (168, 43), (177, 2), (179, 1), (181, 3), (185, 1), (189, 1), (195, 3), (215, 4), (220, 4), (222, 17), (238, 44), (240, 42), (285, 4), (291, 2), (319, 1)]

def tabC : List (Nat × Unit) :=
  [(3, ()), (4, ()), (5, ()), (9, ()), (22, ()), (23, ()), (24, ()), (25, ()), (26, ()), (27, ()), (28, ()), (30, ()), (32, ()), (33, ()), (38, ()), (39, ()), (40, ()), (45, ()), (59, ()), (61, ()), (62, ()), (67, ()), (80, ()), (93, ()), (99, ()), (102, ()), (122, ()), (125, ()), (126, ()), (179, ()), (185, ()), (189, ()), (319, ())]

def tabE : List (Nat × (Nat × Nat)) :=
  [(22, 141, 4), (23, 39, 1), (24, 42, 4), (25, 4, 1), (26, 5, 1), (30, 3, 1), (32, 139, 4), (33, 30, 1), (38, 44, 4), (59, 72, 3), (61, 166, 3), (62, 168, 43), (80, 79, 41), (93, 112, 2), (99, 109, 3), (102, 195, 3), (122, 238, 44), (125, 240, 42), (185, 189, 1)]

def tabX : List (Nat × (Nat × Nat × Nat)) :=
  [(22, 141, 4, 6), (23, 39, 1, 2), (24, 42, 4, 8), (25, 4, 1, 1), (26, 5, 1, 1), (30, 3, 1, 8), (32, 139, 4, 32), (33, 30, 1, 24), (38, 44, 4, 32), (59, 72, 3, 24), (61, 166, 3, 40), (62, 168, 43, 120), (80, 79, 41, 104), (93, 112, 2, 16), (99, 109, 3, 40), (102, 195, 3, 24), (122, 238, 44, 128), (125, 240, 42, 112), (185, 189, 1, 8)]

def tabR : List (Nat × (Nat × Nat)) :=
  [(58, 8, 1), (68, 8, 1), (74, 6, 1), (114, 2, 1), (285, 4, 1)]

def tabP : List (Nat × List (Nat × Nat)) :=
  [(35, [(0, 1), (1, 1)]), (42, [(0, 1), (1, 1), (2, 1), (3, 1)]), (44, [(0, 1), (1, 1), (2, 1), (3, 1)]), (64, [(0, 1), (1, 1), (2, 1), (3, 1)]), (70, [(0, 4), (4, 1), (5, 8)]), (72, [(0, 1), (1, 1), (2, 1)]), (77, [(0, 1), (1, 1), (2, 1), (3, 1), (4, 1), (5, 1), (6, 1), (7, 1), (8, 1), (9, 1), (10, 6), (16, 6), (22, 6), (28, 6), (34, 1), (35, 1), (36, 1), (37, 1), (38, 1), (39, 1)]), (79, [(0, 40), (40, 1)]), (82, [(0, 1), (1, 1), (2, 1)]), (95, [(0, 1), (1, 1)]), (101, [(0, 2), (2, 1), (3, 1), (4, 1), (5, 1)]), (104, [(0, 1), (1, 1), (2, 1)]), (109, [(0, 1), (1, 1), (2, 1)]), (112, [(0, 1), (1, 1)]), (119, [(0, 1), (1, 1), (2, 1)]), (124, [(0, 1), (1, 1), (2, 1), (3, 1), (4, 1), (5, 1), (6, 1), (7, 1), (8, 1)]), (128, [(0, 1), (1, 1)]), (130, [(0, 1), (1, 1), (2, 1), (3, 1), (4, 2)]), (139, [(0, 1), (1, 1), (2, 1), (3, 1)]), (141, [(0, 1), (1, 1), (2, 1), (3, 1)]), (166, [(0, 1), (1, 1), (2, 1)]), (168, [(0, 1), (1, 1), (2, 41)]), (177, [(0, 1), (1, 1)]), (181, [(0, 1), (1, 1), (2, 1)]), (195, [(0, 1), (1, 1), (2, 1)]), (215, [(0, 1), (1, 1), (2, 1), (3, 1)]), (220, [(0, 1), (1, 1), (2, 1), (3, 1)]), (222, [(0, 9), (9, 6), (15, 1), (16, 1)]), (238, [(0, 1), (1, 1), (2, 1), (3, 41)]), (240, [(0, 1), (1, 41)]), (291, [(0, 2)])]

def tabI : List (Nat × IntKind) :=
  [(3, .i64), (5, .u8), (27, .i16), (28, .u32), (39, .u16), (40, .i8), (45, .i64), (126, .u64), (179, .u64)]

def tabZ : List (Nat × List AV) :=
  [(3, [.d (.v (.int .i64 0))]), (4, [.d (.v (.bool false))]), (5, [.d (.v (.int .u8 0))]), (9, [.d (.v (.string ⟨#[]⟩))]), (22, [.nil]), (23, [.nil]), (24, [.nil]), (25, [.nil]), (26, [.nil]), (27, [.d (.v (.int .i16 0))]), (28, [.d (.v (.int .u32 0))]), (30, [.nil]), (32, [.nil]), (33, [.nil]), (35, [.nil, .nil]), (38, [.nil]), (39, [.d (.v (.int .u16 0))]), (40, [.d (.v (.int .i8 0))]), (42, [.d (.v (.int .u8 0)), .d (.v (.int .u16 0)), .d (.v (.int .u16 0)), .d (.v (.int .i8 0))]), (44, [.d (.v (.int .i64 0)), .d (.v (.int .i64 0)), .d (.v (.int .i64 0)), .d (.v (.int .i64 0))]), (45, [.d (.v (.int .i64 0))]), (58, [.d (.v (.int .u8 0)), .d (.v (.int .u8 0)), .d (.v (.int .u8 0)), .d (.v (.int .u8 0)), .d (.v (.int .u8 0)), .d (.v (.int .u8 0)), .d (.v (.int .u8 0)), .d (.v (.int .u8 0))]), (59, [.nil]), (61, [.nil]), (62, [.nil]), (64, [.d (.v (.int .i64 0)), .d (.v (.int .i64 0)), .nil, .nil]), (67, [.d (.v (.pointer none))]), (68, [.d (.v (.int .i64 0)), .d (.v (.int .i64 0)), .d (.v (.int .i64 0)), .d (.v (.int .i64 0)), .d (.v (.int .i64 0)), .d (.v (.int .i64 0)), .d (.v (.int .i64 0)), .d (.v (.int .i64 0))]), (70, [.d (.v (.int .i64 0)), .d (.v (.int .i64 0)), .nil, .nil, .d (.v (.int .i64 0)), .d (.v (.int .i64 0)), .d (.v (.int .i64 0)), .d (.v (.int .i64 0)), .d (.v (.int .i64 0)), .d (.v (.int .i64 0)), .d (.v (.int .i64 0)), .d (.v (.int .i64 0)), .d (.v (.int .i64 0))]), (72, [.d (.v (.int .u8 0)), .d (.v (.int .i64 0)), .d (.v (.int .i64 0))]), (74, [.d (.v (.int .u8 0)), .d (.v (.int .u8 0)), .d (.v (.int .u8 0)), .d (.v (.int .u8 0)), .d (.v (.int .u8 0)), .d (.v (.int .u8 0))]), (77, [.d (.v (.int .u8 0)), .d (.v (.int .u8 0)), .d (.v (.bool false)), .d (.v (.bool false)), .d (.v (.bool false)), .d (.v (.bool false)), .d (.v (.bool false)), .d (.v (.bool false)), .d (.v (.bool false)), .d (.v (.int .i64 0)), .d (.v (.int .u8 0)), .d (.v (.int .u8 0)), .d (.v (.int .u8 0)), .d (.v (.int .u8 0)), .d (.v (.int .u8 0)), .d (.v (.int .u8 0)), .d (.v (.int .u8 0)), .d (.v (.int .u8 0)), .d (.v (.int .u8 0)), .d (.v (.int .u8 0)), .d (.v (.int .u8 0)), .d (.v (.int .u8 0)), .d (.v (.int .u8 0)), .d (.v (.int .u8 0)), .d (.v (.int .u8 0)), .d (.v (.int .u8 0)), .d (.v (.int .u8 0)), .d (.v (.int .u8 0)), .d (.v (.int .u8 0)), .d (.v (.int .u8 0)), .d (.v (.int .u8 0)), .d (.v (.int .u8 0)), .d (.v (.int .u8 0)), .d (.v (.int .u8 0)), .d (.v (.int .i64 0)), .d (.v (.int .i64 0)), .d (.v (.int .i64 0)), .d (.v (.int .u8 0)), .d (.v (.bool false)), .d (.v (.bool false))]), (79, [.d (.v (.int .u8 0)), .d (.v (.int .u8 0)), .d (.v (.bool false)), .d (.v (.bool false)), .d (.v (.bool false)), .d (.v (.bool false)), .d (.v (.bool false)), .d (.v (.bool false)), .d (.v (.bool false)), .d (.v (.int .i64 0)), .d (.v (.int .u8 0)), .d (.v (.int .u8 0)), .d (.v (.int .u8 0)), .d (.v (.int .u8 0)), .d (.v (.int .u8 0)), .d (.v (.int .u8 0)), .d (.v (.int .u8 0)), .d (.v (.int .u8 0)), .d (.v (.int .u8 0)), .d (.v (.int .u8 0)), .d (.v (.int .u8 0)), .d (.v (.int .u8 0)), .d (.v (.int .u8 0)), .d (.v (.int .u8 0)), .d (.v (.int .u8 0)), .d (.v (.int .u8 0)), .d (.v (.int .u8 0)), .d (.v (.int .u8 0)), .d (.v (.int .u8 0)), .d (.v (.int .u8 0)), .d (.v (.int .u8 0)), .d (.v (.int .u8 0)), .d (.v (.int .u8 0)), .d (.v (.int .u8 0)), .d (.v (.int .i64 0)), .d (.v (.int .i64 0)), .d (.v (.int .i64 0)), .d (.v (.int .u8 0)), .d (.v (.bool false)), .d (.v (.bool false)), .nil]), (80, [.nil]), (82, [.nil, .nil, .d (.v (.int .i64 0))]), (93, [.nil]), (95, [.nil, .d (.v (.int .i64 0))]), (99, [.nil]), (101, [.nil, .d (.v (.int .i64 0)), .nil, .d (.v (.int .i64 0)), .d (.v (.int .i64 0)), .d (.v (.int .i64 0))]), (102, [.nil]), (104, [.d (.v (.int .i64 0)), .nil, .d (.v (.int .i64 0))]), (109, [.nil, .d (.v (.int .i64 0)), .d (.v (.int .i64 0))]), (112, [.d (.v (.int .i64 0)), .d (.v (.int .i64 0))]), (114, [.d (.v (.int .u16 0)), .d (.v (.int .u16 0))]), (119, [.nil, .nil, .d (.v (.int .i64 0))]), (122, [.nil]), (124, [.d (.v (.int .i64 0)), .d (.v (.int .u8 0)), .d (.v (.int .i64 0)), .d (.v (.int .i64 0)), .d (.v (.int .i64 0)), .d (.v (.int .i64 0)), .d (.v (.int .i64 0)), .nil, .d (.v (.bool false))]), (125, [.nil]), (126, [.d (.v (.int .u64 0))]), (128, [.d (.v (.int .i64 0)), .d (.v (.int .u64 0))]), (130, [.d (.v (.int .i64 0)), .d (.v (.int .i64 0)), .d (.v (.int .i64 0)), .nil, .d (.v (.int .i64 0)), .d (.v (.int .u64 0))]), (139, [.d (.v (.int .i64 0)), .d (.v (.int .i64 0)), .d (.v (.int .i64 0)), .d (.v (.int .i64 0))]), (141, [.d (.v (.int .i16 0)), .d (.v (.int .i16 0)), .d (.v (.int .u8 0)), .d (.v (.int .u8 0))]), (166, [.d (.v (.int .i64 0)), .d (.v (.bool false)), .nil]), (168, [.d (.v (.int .u8 0)), .d (.v (.int .i64 0)), .d (.v (.int .u8 0)), .d (.v (.int .u8 0)), .d (.v (.bool false)), .d (.v (.bool false)), .d (.v (.bool false)), .d (.v (.bool false)), .d (.v (.bool false)), .d (.v (.bool false)), .d (.v (.bool false)), .d (.v (.int .i64 0)), .d (.v (.int .u8 0)), .d (.v (.int .u8 0)), .d (.v (.int .u8 0)), .d (.v (.int .u8 0)), .d (.v (.int .u8 0)), .d (.v (.int .u8 0)), .d (.v (.int .u8 0)), .d (.v (.int .u8 0)), .d (.v (.int .u8 0)), .d (.v (.int .u8 0)), .d (.v (.int .u8 0)), .d (.v (.int .u8 0)), .d (.v (.int .u8 0)), .d (.v (.int .u8 0)), .d (.v (.int .u8 0)), .d (.v (.int .u8 0)), .d (.v (.int .u8 0)), .d (.v (.int .u8 0)), .d (.v (.int .u8 0)), .d (.v (.int .u8 0)), .d (.v (.int .u8 0)), .d (.v (.int .u8 0)), .d (.v (.int .u8 0)), .d (.v (.int .u8 0)), .d (.v (.int .i64 0)), .d (.v (.int .i64 0)), .d (.v (.int .i64 0)), .d (.v (.int .u8 0)), .d (.v (.bool false)), .d (.v (.bool false)), .nil]), (177, [.nil, .d (.v (.bool false))]), (179, [.d (.v (.int .u64 0))]), (181, [.d (.v (.bool false)), .d (.v (.bool false)), .d (.v (.bool false))]), (185, [.nil]), (189, [.d (.v (.pointer none))]), (195, [.d (.v (.int .i64 0)), .d (.v (.int .i64 0)), .d (.v (.int .i64 0))]), (215, [.d (.v (.int .i64 0)), .d (.v (.int .i64 0)), .d (.v (.int .i64 0)), .d (.v (.int .i64 0))]), (220, [.d (.v (.int .i64 0)), .d (.v (.int .i64 0)), .d (.v (.int .i64 0)), .d (.v (.int .i64 0))]), (222, [.d (.v (.int .i64 0)), .d (.v (.int .u8 0)), .d (.v (.int .i64 0)), .d (.v (.int .i64 0)), .d (.v (.int .i64 0)), .d (.v (.int .i64 0)), .d (.v (.int .i64 0)), .nil, .d (.v (.bool false)), .d (.v (.int .i64 0)), .d (.v (.int .i64 0)), .d (.v (.int .i64 0)), .nil, .d (.v (.int .i64 0)), .d (.v (.int .u64 0)), .d (.v (.int .i64 0)), .d (.v (.int .i64 0))]), (238, [.d (.v (.int .i64 0)), .d (.v (.int .i64 0)), .d (.v (.bool false)), .d (.v (.int .u8 0)), .d (.v (.int .u8 0)), .d (.v (.bool false)), .d (.v (.bool false)), .d (.v (.bool false)), .d (.v (.bool false)), .d (.v (.bool false)), .d (.v (.bool false)), .d (.v (.bool false)), .d (.v (.int .i64 0)), .d (.v (.int .u8 0)), .d (.v (.int .u8 0)), .d (.v (.int .u8 0)), .d (.v (.int .u8 0)), .d (.v (.int .u8 0)), .d (.v (.int .u8 0)), .d (.v (.int .u8 0)), .d (.v (.int .u8 0)), .d (.v (.int .u8 0)), .d (.v (.int .u8 0)), .d (.v (.int .u8 0)), .d (.v (.int .u8 0)), .d (.v (.int .u8 0)), .d (.v (.int .u8 0)), .d (.v (.int .u8 0)), .d (.v (.int .u8 0)), .d (.v (.int .u8 0)), .d (.v (.int .u8 0)), .d (.v (.int .u8 0)), .d (.v (.int .u8 0)), .d (.v (.int .u8 0)), .d (.v (.int .u8 0)), .d (.v (.int .u8 0)), .d (.v (.int .u8 0)), .d (.v (.int .i64 0)), .d (.v (.int .i64 0)), .d (.v (.int .i64 0)), .d (.v (.int .u8 0)), .d (.v (.bool false)), .d (.v (.bool false)), .nil]), (240, [.d (.v (.int .i64 0)), .d (.v (.int .u8 0)), .d (.v (.int .u8 0)), .d (.v (.bool false)), .d (.v (.bool false)), .d (.v (.bool false)), .d (.v (.bool false)), .d (.v (.bool false)), .d (.v (.bool false)), .d (.v (.bool false)), .d (.v (.int .i64 0)), .d (.v (.int .u8 0)), .d (.v (.int .u8 0)), .d (.v (.int .u8 0)), .d (.v (.int .u8 0)), .d (.v (.int .u8 0)), .d (.v (.int .u8 0)), .d (.v (.int .u8 0)), .d (.v (.int .u8 0)), .d (.v (.int .u8 0)), .d (.v (.int .u8 0)), .d (.v (.int .u8 0)), .d (.v (.int .u8 0)), .d (.v (.int .u8 0)), .d (.v (.int .u8 0)), .d (.v (.int .u8 0)), .d (.v (.int .u8 0)), .d (.v (.int .u8 0)), .d (.v (.int .u8 0)), .d (.v (.int .u8 0)), .d (.v (.int .u8 0)), .d (.v (.int .u8 0)), .d (.v (.int .u8 0)), .d (.v (.int .u8 0)), .d (.v (.int .u8 0)), .d (.v (.int .i64 0)), .d (.v (.int .i64 0)), .d (.v (.int .i64 0)), .d (.v (.int .u8 0)), .d (.v (.bool false)), .d (.v (.bool false)), .nil]), (285, [.d (.v (.pointer none)), .d (.v (.pointer none)), .d (.v (.pointer none)), .d (.v (.pointer none))]), (291, [.nil, .d (.v (.int .i64 0))]), (319, [.d (.v .nilFunc)])]

theorem tabF_ok : (tabF.all fun p => p.2.zipIdx.all fun q => fieldB Try.prog p.1 q.2 == some q.1) = true := by kernel_rfl
theorem tabA_ok : (tabA.all fun p => aggB Try.prog p.1 == some p.2) = true := by kernel_rfl
theorem tabS_ok : (tabS.all fun p => sizeB Try.prog p.1 == some p.2) = true := by kernel_rfl
theorem tabC_ok : (tabC.all fun p => scalB Try.prog p.1) = true := by kernel_rfl
theorem tabE_ok : (tabE.all fun p => elemB Try.prog p.1 == some p.2) = true := by kernel_rfl
theorem tabX_ok : (tabX.all fun p => appB Try.prog p.1 == some p.2) = true := by kernel_rfl
theorem tabR_ok : (tabR.all fun p => arrB Try.prog p.1 == some p.2) = true := by kernel_rfl
theorem tabP_ok : (tabP.all fun p => placesB Try.prog p.1 == some p.2) = true := by kernel_rfl
def intB (P : Program) (t : Nat) : Option IntKind := match P.underlying t with
  | some (.int k) => some k
  | _ => none
theorem tabI_ok : (tabI.all fun p => intB Try.prog p.1 == some p.2) = true := by kernel_rfl

theorem z3 : zeroB Try.prog 3 = some [.d (.v (.int .i64 0))] := by kernel_rfl
theorem z4 : zeroB Try.prog 4 = some [.d (.v (.bool false))] := by kernel_rfl
theorem z5 : zeroB Try.prog 5 = some [.d (.v (.int .u8 0))] := by kernel_rfl
theorem z9 : zeroB Try.prog 9 = some [.d (.v (.string ⟨#[]⟩))] := by kernel_rfl
theorem z22 : zeroB Try.prog 22 = some [.nil] := by kernel_rfl
theorem z23 : zeroB Try.prog 23 = some [.nil] := by kernel_rfl
theorem z24 : zeroB Try.prog 24 = some [.nil] := by kernel_rfl
theorem z25 : zeroB Try.prog 25 = some [.nil] := by kernel_rfl
theorem z26 : zeroB Try.prog 26 = some [.nil] := by kernel_rfl
theorem z27 : zeroB Try.prog 27 = some [.d (.v (.int .i16 0))] := by kernel_rfl
theorem z28 : zeroB Try.prog 28 = some [.d (.v (.int .u32 0))] := by kernel_rfl
theorem z30 : zeroB Try.prog 30 = some [.nil] := by kernel_rfl
theorem z32 : zeroB Try.prog 32 = some [.nil] := by kernel_rfl
theorem z33 : zeroB Try.prog 33 = some [.nil] := by kernel_rfl
theorem z35 : zeroB Try.prog 35 = some [.nil, .nil] := by kernel_rfl
theorem z38 : zeroB Try.prog 38 = some [.nil] := by kernel_rfl
theorem z39 : zeroB Try.prog 39 = some [.d (.v (.int .u16 0))] := by kernel_rfl
theorem z40 : zeroB Try.prog 40 = some [.d (.v (.int .i8 0))] := by kernel_rfl
theorem z42 : zeroB Try.prog 42 = some [.d (.v (.int .u8 0)), .d (.v (.int .u16 0)), .d (.v (.int .u16 0)), .d (.v (.int .i8 0))] := by kernel_rfl
theorem z44 : zeroB Try.prog 44 = some [.d (.v (.int .i64 0)), .d (.v (.int .i64 0)), .d (.v (.int .i64 0)), .d (.v (.int .i64 0))] := by kernel_rfl
theorem z45 : zeroB Try.prog 45 = some [.d (.v (.int .i64 0))] := by kernel_rfl
theorem z58 : zeroB Try.prog 58 = some [.d (.v (.int .u8 0)), .d (.v (.int .u8 0)), .d (.v (.int .u8 0)), .d (.v (.int .u8 0)), .d (.v (.int .u8 0)), .d (.v (.int .u8 0)), .d (.v (.int .u8 0)), .d (.v (.int .u8 0))] := by kernel_rfl
theorem z59 : zeroB Try.prog 59 = some [.nil] := by kernel_rfl
theorem z61 : zeroB Try.prog 61 = some [.nil] := by kernel_rfl
theorem z62 : zeroB Try.prog 62 = some [.nil] := by kernel_rfl
theorem z64 : zeroB Try.prog 64 = some [.d (.v (.int .i64 0)), .d (.v (.int .i64 0)), .nil, .nil] := by kernel_rfl
theorem z67 : zeroB Try.prog 67 = some [.d (.v (.pointer none))] := by kernel_rfl
theorem z68 : zeroB Try.prog 68 = some [.d (.v (.int .i64 0)), .d (.v (.int .i64 0)), .d (.v (.int .i64 0)), .d (.v (.int .i64 0)), .d (.v (.int .i64 0)), .d (.v (.int .i64 0)), .d (.v (.int .i64 0)), .d (.v (.int .i64 0))] := by kernel_rfl
theorem z70 : zeroB Try.prog 70 = some [.d (.v (.int .i64 0)), .d (.v (.int .i64 0)), .nil, .nil, .d (.v (.int .i64 0)), .d (.v (.int .i64 0)), .d (.v (.int .i64 0)), .d (.v (.int .i64 0)), .d (.v (.int .i64 0)), .d (.v (.int .i64 0)), .d (.v (.int .i64 0)), .d (.v (.int .i64 0)), .d (.v (.int .i64 0))] := by kernel_rfl
theorem z72 : zeroB Try.prog 72 = some [.d (.v (.int .u8 0)), .d (.v (.int .i64 0)), .d (.v (.int .i64 0))] := by kernel_rfl
theorem z74 : zeroB Try.prog 74 = some [.d (.v (.int .u8 0)), .d (.v (.int .u8 0)), .d (.v (.int .u8 0)), .d (.v (.int .u8 0)), .d (.v (.int .u8 0)), .d (.v (.int .u8 0))] := by kernel_rfl
theorem z77 : zeroB Try.prog 77 = some [.d (.v (.int .u8 0)), .d (.v (.int .u8 0)), .d (.v (.bool false)), .d (.v (.bool false)), .d (.v (.bool false)), .d (.v (.bool false)), .d (.v (.bool false)), .d (.v (.bool false)), .d (.v (.bool false)), .d (.v (.int .i64 0)), .d (.v (.int .u8 0)), .d (.v (.int .u8 0)), .d (.v (.int .u8 0)), .d (.v (.int .u8 0)), .d (.v (.int .u8 0)), .d (.v (.int .u8 0)), .d (.v (.int .u8 0)), .d (.v (.int .u8 0)), .d (.v (.int .u8 0)), .d (.v (.int .u8 0)), .d (.v (.int .u8 0)), .d (.v (.int .u8 0)), .d (.v (.int .u8 0)), .d (.v (.int .u8 0)), .d (.v (.int .u8 0)), .d (.v (.int .u8 0)), .d (.v (.int .u8 0)), .d (.v (.int .u8 0)), .d (.v (.int .u8 0)), .d (.v (.int .u8 0)), .d (.v (.int .u8 0)), .d (.v (.int .u8 0)), .d (.v (.int .u8 0)), .d (.v (.int .u8 0)), .d (.v (.int .i64 0)), .d (.v (.int .i64 0)), .d (.v (.int .i64 0)), .d (.v (.int .u8 0)), .d (.v (.bool false)), .d (.v (.bool false))] := by kernel_rfl
theorem z79 : zeroB Try.prog 79 = some [.d (.v (.int .u8 0)), .d (.v (.int .u8 0)), .d (.v (.bool false)), .d (.v (.bool false)), .d (.v (.bool false)), .d (.v (.bool false)), .d (.v (.bool false)), .d (.v (.bool false)), .d (.v (.bool false)), .d (.v (.int .i64 0)), .d (.v (.int .u8 0)), .d (.v (.int .u8 0)), .d (.v (.int .u8 0)), .d (.v (.int .u8 0)), .d (.v (.int .u8 0)), .d (.v (.int .u8 0)), .d (.v (.int .u8 0)), .d (.v (.int .u8 0)), .d (.v (.int .u8 0)), .d (.v (.int .u8 0)), .d (.v (.int .u8 0)), .d (.v (.int .u8 0)), .d (.v (.int .u8 0)), .d (.v (.int .u8 0)), .d (.v (.int .u8 0)), .d (.v (.int .u8 0)), .d (.v (.int .u8 0)), .d (.v (.int .u8 0)), .d (.v (.int .u8 0)), .d (.v (.int .u8 0)), .d (.v (.int .u8 0)), .d (.v (.int .u8 0)), .d (.v (.int .u8 0)), .d (.v (.int .u8 0)), .d (.v (.int .i64 0)), .d (.v (.int .i64 0)), .d (.v (.int .i64 0)), .d (.v (.int .u8 0)), .d (.v (.bool false)), .d (.v (.bool false)), .nil] := by kernel_rfl
theorem z80 : zeroB Try.prog 80 = some [.nil] := by kernel_rfl
theorem z82 : zeroB Try.prog 82 = some [.nil, .nil, .d (.v (.int .i64 0))] := by kernel_rfl
theorem z93 : zeroB Try.prog 93 = some [.nil] := by kernel_rfl
theorem z95 : zeroB Try.prog 95 = some [.nil, .d (.v (.int .i64 0))] := by kernel_rfl
theorem z99 : zeroB Try.prog 99 = some [.nil] := by kernel_rfl
theorem z101 : zeroB Try.prog 101 = some [.nil, .d (.v (.int .i64 0)), .nil, .d (.v (.int .i64 0)), .d (.v (.int .i64 0)), .d (.v (.int .i64 0))] := by kernel_rfl
theorem z102 : zeroB Try.prog 102 = some [.nil] := by kernel_rfl
theorem z104 : zeroB Try.prog 104 = some [.d (.v (.int .i64 0)), .nil, .d (.v (.int .i64 0))] := by kernel_rfl
theorem z109 : zeroB Try.prog 109 = some [.nil, .d (.v (.int .i64 0)), .d (.v (.int .i64 0))] := by kernel_rfl
theorem z112 : zeroB Try.prog 112 = some [.d (.v (.int .i64 0)), .d (.v (.int .i64 0))] := by kernel_rfl
theorem z114 : zeroB Try.prog 114 = some [.d (.v (.int .u16 0)), .d (.v (.int .u16 0))] := by kernel_rfl
theorem z119 : zeroB Try.prog 119 = some [.nil, .nil, .d (.v (.int .i64 0))] := by kernel_rfl
theorem z122 : zeroB Try.prog 122 = some [.nil] := by kernel_rfl
theorem z124 : zeroB Try.prog 124 = some [.d (.v (.int .i64 0)), .d (.v (.int .u8 0)), .d (.v (.int .i64 0)), .d (.v (.int .i64 0)), .d (.v (.int .i64 0)), .d (.v (.int .i64 0)), .d (.v (.int .i64 0)), .nil, .d (.v (.bool false))] := by kernel_rfl
theorem z125 : zeroB Try.prog 125 = some [.nil] := by kernel_rfl
theorem z126 : zeroB Try.prog 126 = some [.d (.v (.int .u64 0))] := by kernel_rfl
theorem z128 : zeroB Try.prog 128 = some [.d (.v (.int .i64 0)), .d (.v (.int .u64 0))] := by kernel_rfl
theorem z130 : zeroB Try.prog 130 = some [.d (.v (.int .i64 0)), .d (.v (.int .i64 0)), .d (.v (.int .i64 0)), .nil, .d (.v (.int .i64 0)), .d (.v (.int .u64 0))] := by kernel_rfl
theorem z139 : zeroB Try.prog 139 = some [.d (.v (.int .i64 0)), .d (.v (.int .i64 0)), .d (.v (.int .i64 0)), .d (.v (.int .i64 0))] := by kernel_rfl
theorem z141 : zeroB Try.prog 141 = some [.d (.v (.int .i16 0)), .d (.v (.int .i16 0)), .d (.v (.int .u8 0)), .d (.v (.int .u8 0))] := by kernel_rfl
theorem z166 : zeroB Try.prog 166 = some [.d (.v (.int .i64 0)), .d (.v (.bool false)), .nil] := by kernel_rfl
theorem z168 : zeroB Try.prog 168 = some [.d (.v (.int .u8 0)), .d (.v (.int .i64 0)), .d (.v (.int .u8 0)), .d (.v (.int .u8 0)), .d (.v (.bool false)), .d (.v (.bool false)), .d (.v (.bool false)), .d (.v (.bool false)), .d (.v (.bool false)), .d (.v (.bool false)), .d (.v (.bool false)), .d (.v (.int .i64 0)), .d (.v (.int .u8 0)), .d (.v (.int .u8 0)), .d (.v (.int .u8 0)), .d (.v (.int .u8 0)), .d (.v (.int .u8 0)), .d (.v (.int .u8 0)), .d (.v (.int .u8 0)), .d (.v (.int .u8 0)), .d (.v (.int .u8 0)), .d (.v (.int .u8 0)), .d (.v (.int .u8 0)), .d (.v (.int .u8 0)), .d (.v (.int .u8 0)), .d (.v (.int .u8 0)), .d (.v (.int .u8 0)), .d (.v (.int .u8 0)), .d (.v (.int .u8 0)), .d (.v (.int .u8 0)), .d (.v (.int .u8 0)), .d (.v (.int .u8 0)), .d (.v (.int .u8 0)), .d (.v (.int .u8 0)), .d (.v (.int .u8 0)), .d (.v (.int .u8 0)), .d (.v (.int .i64 0)), .d (.v (.int .i64 0)), .d (.v (.int .i64 0)), .d (.v (.int .u8 0)), .d (.v (.bool false)), .d (.v (.bool false)), .nil] := by kernel_rfl
theorem z177 : zeroB Try.prog 177 = some [.nil, .d (.v (.bool false))] := by kernel_rfl
theorem z179 : zeroB Try.prog 179 = some [.d (.v (.int .u64 0))] := by kernel_rfl
theorem z181 : zeroB Try.prog 181 = some [.d (.v (.bool false)), .d (.v (.bool false)), .d (.v (.bool false))] := by kernel_rfl
theorem z185 : zeroB Try.prog 185 = some [.nil] := by kernel_rfl
theorem z189 : zeroB Try.prog 189 = some [.d (.v (.pointer none))] := by kernel_rfl
theorem z195 : zeroB Try.prog 195 = some [.d (.v (.int .i64 0)), .d (.v (.int .i64 0)), .d (.v (.int .i64 0))] := by kernel_rfl
theorem z215 : zeroB Try.prog 215 = some [.d (.v (.int .i64 0)), .d (.v (.int .i64 0)), .d (.v (.int .i64 0)), .d (.v (.int .i64 0))] := by kernel_rfl
theorem z220 : zeroB Try.prog 220 = some [.d (.v (.int .i64 0)), .d (.v (.int .i64 0)), .d (.v (.int .i64 0)), .d (.v (.int .i64 0))] := by kernel_rfl
theorem z222 : zeroB Try.prog 222 = some [.d (.v (.int .i64 0)), .d (.v (.int .u8 0)), .d (.v (.int .i64 0)), .d (.v (.int .i64 0)), .d (.v (.int .i64 0)), .d (.v (.int .i64 0)), .d (.v (.int .i64 0)), .nil, .d (.v (.bool false)), .d (.v (.int .i64 0)), .d (.v (.int .i64 0)), .d (.v (.int .i64 0)), .nil, .d (.v (.int .i64 0)), .d (.v (.int .u64 0)), .d (.v (.int .i64 0)), .d (.v (.int .i64 0))] := by kernel_rfl
theorem z238 : zeroB Try.prog 238 = some [.d (.v (.int .i64 0)), .d (.v (.int .i64 0)), .d (.v (.bool false)), .d (.v (.int .u8 0)), .d (.v (.int .u8 0)), .d (.v (.bool false)), .d (.v (.bool false)), .d (.v (.bool false)), .d (.v (.bool false)), .d (.v (.bool false)), .d (.v (.bool false)), .d (.v (.bool false)), .d (.v (.int .i64 0)), .d (.v (.int .u8 0)), .d (.v (.int .u8 0)), .d (.v (.int .u8 0)), .d (.v (.int .u8 0)), .d (.v (.int .u8 0)), .d (.v (.int .u8 0)), .d (.v (.int .u8 0)), .d (.v (.int .u8 0)), .d (.v (.int .u8 0)), .d (.v (.int .u8 0)), .d (.v (.int .u8 0)), .d (.v (.int .u8 0)), .d (.v (.int .u8 0)), .d (.v (.int .u8 0)), .d (.v (.int .u8 0)), .d (.v (.int .u8 0)), .d (.v (.int .u8 0)), .d (.v (.int .u8 0)), .d (.v (.int .u8 0)), .d (.v (.int .u8 0)), .d (.v (.int .u8 0)), .d (.v (.int .u8 0)), .d (.v (.int .u8 0)), .d (.v (.int .u8 0)), .d (.v (.int .i64 0)), .d (.v (.int .i64 0)), .d (.v (.int .i64 0)), .d (.v (.int .u8 0)), .d (.v (.bool false)), .d (.v (.bool false)), .nil] := by kernel_rfl
theorem z240 : zeroB Try.prog 240 = some [.d (.v (.int .i64 0)), .d (.v (.int .u8 0)), .d (.v (.int .u8 0)), .d (.v (.bool false)), .d (.v (.bool false)), .d (.v (.bool false)), .d (.v (.bool false)), .d (.v (.bool false)), .d (.v (.bool false)), .d (.v (.bool false)), .d (.v (.int .i64 0)), .d (.v (.int .u8 0)), .d (.v (.int .u8 0)), .d (.v (.int .u8 0)), .d (.v (.int .u8 0)), .d (.v (.int .u8 0)), .d (.v (.int .u8 0)), .d (.v (.int .u8 0)), .d (.v (.int .u8 0)), .d (.v (.int .u8 0)), .d (.v (.int .u8 0)), .d (.v (.int .u8 0)), .d (.v (.int .u8 0)), .d (.v (.int .u8 0)), .d (.v (.int .u8 0)), .d (.v (.int .u8 0)), .d (.v (.int .u8 0)), .d (.v (.int .u8 0)), .d (.v (.int .u8 0)), .d (.v (.int .u8 0)), .d (.v (.int .u8 0)), .d (.v (.int .u8 0)), .d (.v (.int .u8 0)), .d (.v (.int .u8 0)), .d (.v (.int .u8 0)), .d (.v (.int .i64 0)), .d (.v (.int .i64 0)), .d (.v (.int .i64 0)), .d (.v (.int .u8 0)), .d (.v (.bool false)), .d (.v (.bool false)), .nil] := by kernel_rfl
theorem z285 : zeroB Try.prog 285 = some [.d (.v (.pointer none)), .d (.v (.pointer none)), .d (.v (.pointer none)), .d (.v (.pointer none))] := by kernel_rfl
theorem z291 : zeroB Try.prog 291 = some [.nil, .d (.v (.int .i64 0))] := by kernel_rfl
theorem z319 : zeroB Try.prog 319 = some [.d (.v .nilFunc)] := by kernel_rfl
theorem zok : (tabZ.all fun p => zeroOk Try.prog p.1 p.2) = true := by kernel_rfl
theorem tabZ_ok : ∀ p ∈ tabZ, zeroB Try.prog p.1 = some p.2 := by
  intro p hp
  simp only [tabZ, List.mem_cons, List.not_mem_nil, or_false] at hp
  rcases hp with rfl | rfl | rfl | rfl | rfl | rfl | rfl | rfl | rfl | rfl | rfl | rfl | rfl | rfl | rfl | rfl | rfl | rfl | rfl | rfl | rfl | rfl | rfl | rfl | rfl | rfl | rfl | rfl | rfl | rfl | rfl | rfl | rfl | rfl | rfl | rfl | rfl | rfl | rfl | rfl | rfl | rfl | rfl | rfl | rfl | rfl | rfl | rfl | rfl | rfl | rfl | rfl | rfl | rfl | rfl | rfl | rfl | rfl | rfl | rfl | rfl | rfl | rfl | rfl | rfl | rfl | rfl | rfl | rfl
  · exact z3
  · exact z4
  · exact z5
  · exact z9
  · exact z22
  · exact z23
  · exact z24
  · exact z25
  · exact z26
  · exact z27
  · exact z28
  · exact z30
  · exact z32
  · exact z33
  · exact z35
  · exact z38
  · exact z39
  · exact z40
  · exact z42
  · exact z44
  · exact z45
  · exact z58
  · exact z59
  · exact z61
  · exact z62
  · exact z64
  · exact z67
  · exact z68
  · exact z70
  · exact z72
  · exact z74
  · exact z77
  · exact z79
  · exact z80
  · exact z82
  · exact z93
  · exact z95
  · exact z99
  · exact z101
  · exact z102
  · exact z104
  · exact z109
  · exact z112
  · exact z114
  · exact z119
  · exact z122
  · exact z124
  · exact z125
  · exact z126
  · exact z128
  · exact z130
  · exact z139
  · exact z141
  · exact z166
  · exact z168
  · exact z177
  · exact z179
  · exact z181
  · exact z185
  · exact z189
  · exact z195
  · exact z215
  · exact z220
  · exact z222
  · exact z238
  · exact z240
  · exact z285
  · exact z291
  · exact z319

theorem fieldT {t f off : Nat} (h : (asc tabF t).bind (fun l => l[f]?) = some off) : fieldB Try.prog t f = some off := by
  cases ha : asc tabF t with
  | none => rw [ha] at h; cases h
  | some l =>
    rw [ha] at h
    have h1 := List.all_eq_true.1 (List.all_eq_true.1 tabF_ok _ (asc_mem ha)) (off, f) (by
      rw [List.mem_zipIdx_iff_getElem?]; exact h)
    simpa using h1
theorem aggT {t n : Nat} (h : asc tabA t = some n) : aggB Try.prog t = some n := by simpa using List.all_eq_true.1 tabA_ok _ (asc_mem h)
theorem sizeT {t n : Nat} (h : asc tabS t = some n) : sizeB Try.prog t = some n := by simpa using List.all_eq_true.1 tabS_ok _ (asc_mem h)
theorem scalT {t : Nat} (h : asc tabC t = some ()) : scalB Try.prog t = true := by simpa using List.all_eq_true.1 tabC_ok _ (asc_mem h)
theorem elemT {t e k : Nat} (h : asc tabE t = some (e, k)) : elemB Try.prog t = some (e, k) := by simpa using List.all_eq_true.1 tabE_ok _ (asc_mem h)
theorem appT {t e k b : Nat} (h : asc tabX t = some (e, k, b)) : appB Try.prog t = some (e, k, b) := by simpa using List.all_eq_true.1 tabX_ok _ (asc_mem h)
theorem arrT {t n k : Nat} (h : asc tabR t = some (n, k)) : arrB Try.prog t = some (n, k) := by simpa using List.all_eq_true.1 tabR_ok _ (asc_mem h)
theorem placesT {t : Nat} {l : List (Nat × Nat)} (h : asc tabP t = some l) : placesB Try.prog t = some l := by simpa using List.all_eq_true.1 tabP_ok _ (asc_mem h)
theorem intT {t : Nat} {k : IntKind} (h : asc tabI t = some k) : Try.prog.underlying t = some (.int k) := by
  have : intB Try.prog t = some k := by simpa using List.all_eq_true.1 tabI_ok _ (asc_mem h)
  unfold intB at this
  split at this
  · rename_i hu; injection this with this; subst this; exact hu
  · cases this
theorem zeroT {t : Nat} {l : List AV} (h : asc tabZ t = some l) : zeroB Try.prog t = some l := tabZ_ok _ (asc_mem h)
theorem zeroOkT {t : Nat} {l : List AV} (h : asc tabZ t = some l) : zeroOk Try.prog t l = true := List.all_eq_true.1 zok _ (asc_mem h)
theorem sliceT {t e k : Nat} (h : asc tabE t = some (e, k)) : Try.prog.underlying t = some (.slice e) := (elemB_spec (elemT h)).1

end Go.Proofs.Ytencghlmckbmlaa
