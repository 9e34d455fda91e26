/- TopServed returns true whatever its arguments are, and they read behind the call as they read before. There is no further condition. -/
import Derived.Test.YtencghlmckbmlaaRows
import Derived.Test.YtencghlmckbmlaaServed2
import Derived.Test.YtencghlmckbmlaaOpen
set_option linter.unusedVariables false
namespace Go.Proofs.Ytencghlmckbmlaa
open Go Go.RowKit Go.ChangeShapes Go.WideShapes

theorem Try.own : ownKnob Try.prog.godebug = none := by kernel_rfl
theorem Try.laidOut : laidOutB Try.prog = true := by kernel_rfl

theorem flatU8 : FlatT Try.prog 5 [.int .u8] := flat_int Try.underlying5 (by kernel_rfl)
theorem flatI64 : FlatT Try.prog 3 [.int .i64] := flat_int Try.underlying3 (by kernel_rfl)

theorem u8_row {row : List D} (h : FlatRow [.int .u8] row) : ∃ x, row = encU8 x ∧ 0 ≤ x ∧ x ≤ 255 := by
  obtain ⟨hl, hg⟩ := h
  match row, hl with
  | [d0], _ =>
    obtain ⟨v, hv, n, rfl, h1, h2⟩ := hg 0 _ rfl
    simp at hv; subst hv
    exact ⟨n, rfl, h1, h2⟩

theorem mv_row {row : List D} (h : FlatRow [.int .u8, .int .i64, .int .i64] row) : ∃ m, row = encMv m ∧ 0 ≤ m.kind ∧ m.kind ≤ 255 := by
  obtain ⟨hl, hg⟩ := h
  match row, hl with
  | [d0, d1, d2], _ =>
    obtain ⟨v, hv, n, rfl, h1, h2⟩ := hg 0 _ rfl
    obtain ⟨v1, hv1, n1, rfl, _⟩ := hg 1 _ rfl
    obtain ⟨v2, hv2, n2, rfl, _⟩ := hg 2 _ rfl
    simp at hv hv1 hv2; subst hv; subst hv1; subst hv2
    exact ⟨⟨n, n1, n2⟩, rfl, h1, h2⟩

theorem flatMv : FlatT Try.prog 72 [.int .u8, .int .i64, .int .i64] := by
  refine flat_struct Try.underlying72 (by kernel_rfl) rfl fun i f c hf hc => ?_
  match i, hf, hc with
  | 0, hf, hc => cases hf; cases hc; exact ⟨rfl, flatU8⟩
  | 1, hf, hc => cases hf; cases hc; exact ⟨rfl, flatI64⟩
  | 2, hf, hc => cases hf; cases hc; exact ⟨rfl, flatI64⟩
  | i + 3, hf, hc => exact absurd hc (by simp)

set_option maxRecDepth 100000 in
set_option maxHeartbeats 4000000 in
theorem served_lifted (os : Os) (started : os.Started) (H : Type) (enc : TypeId × Value → H) :
    ReturnsInHanded {} Try.checked os 5 .any (Rows.topServedSpec.pre6 enc Try.prog Try.f5 Rows.topServedRow.domain false) (Rows.topServedSpec.post enc Try.prog Try.f5 false true false false) := by
  refine returnsInHanded_of_change (C := Try.checked) Try.own started (by kernel_rfl) Try.func5
    (ChangeSpec.witness6 (enc := enc) (C := Try.checked) false ⟨#[], #[.slice none 0 0, .int .u8 0, .int .u32 0, .slice none 0 0], []⟩ 8 (by kernel_rfl) (by kernel_rfl) (by kernel_rfl) (by kernel_rfl)) ?_
  intro W base args ds gs before hval0 hW hcnd _
  have hval : ∀ (j : Nat) t v, Try.f5.params[j]? = some t → args[j]? = some v → Value.okWide Try.prog W .any base t v := hval0
  have hW' := hW
  obtain ⟨p, q, hA0, hV, rfl, hfz, hnd⟩ := hW
  have hA : DataW.TrodAll enc Try.prog W 0 (fun _ => true) true Try.f5.params.toList args.toList ds p := hA0
  rw [Try.params5] at hA hval
  obtain ⟨v0, v1, v2, v3, d0, d1, d2, d3, p0, p1, p2, p3, rfl, rfl, rfl, h0, h1, h2, h3⟩ := trodAll_four hA
  obtain ⟨rfl, rfl⟩ := trodVars_none hV
  obtain ⟨r0, hr0, hl0, hg0⟩ := open_flat Try.underlying26 flatU8 (by decide) (okWide_slice Try.underlying26 (hval 0 26 v0 rfl rfl)) h0
  obtain ⟨r3, hr3, hl3, hg3⟩ := open_flat Try.underlying59 flatMv (by decide) (okWide_slice Try.underlying59 (hval 3 59 v3 rfl rfl)) h3
  obtain ⟨first, rfl, rfl, rfl, w1⟩ := open_int Try.underlying5 (hval 1 5 v1 rfl rfl) h1
  obtain ⟨later, rfl, rfl, rfl, w2⟩ := open_int Try.underlying28 (hval 2 28 v2 rfl rfl) h2
  obtain ⟨ws, rfl, hws⟩ := rows_list fun row hr => u8_row (hg0 row hr)
  obtain ⟨ms, rfl, hms⟩ := rows_list fun row hr => mv_row (hg3 row hr)
  simp only [List.length_map] at hl0 hl3
  have hsp := sp5 ws first later ms _ rfl hl0 hws (wf_ok w1) (wf_ok w2) hl3 hms
  refine (calls_true hsp ?_).mono fun e W' ⟨he, hb⟩ => ?_
  · exact repArgs_cons (.d hr0) (repArgs_cons (.d (.v _ rfl)) (repArgs_cons (.d (.v _ rfl)) (repArgs_cons (.d hr3) repArgs_nil)))
  · subst he
    exact ⟨_, rfl, post_true Try.laidOut rfl (by kernel_rfl) rfl Try.underlying4 hb hW' rfl rfl rfl⟩

theorem served_holds : Rows.TopServedSaid :=
  OpenClaim.holds_of_wide 5 Try.f5 rfl rfl rfl rfl rfl rfl rfl ⟨rfl, rfl, rfl, rfl, rfl⟩ rfl rfl rfl rfl rfl (by kernel_rfl) Try.func5 (by kernel_rfl)
    (of_decide_eq_true (by kernel_rfl)) (by unfold Func.isWrapper; first | (rw [if_pos (by decide +kernel)]; kernel_rfl) | (rw [if_neg (by decide +kernel)]; exact ⟨rfl, rfl⟩))
    (fun os started H enc _ => served_lifted os started H enc)
end Go.Proofs.Ytencghlmckbmlaa
