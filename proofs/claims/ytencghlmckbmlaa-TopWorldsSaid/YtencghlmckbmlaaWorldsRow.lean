/- TopWorlds returns true whatever its arguments are, and they read behind the call as they read before. There is no further condition. -/
import Derived.Test.YtencghlmckbmlaaRows
import Derived.Test.YtencghlmckbmlaaWorlds
import Derived.Test.YtencghlmckbmlaaOpen
set_option linter.unusedVariables false
namespace Go.Proofs.Ytencghlmckbmlaa
open Go Go.RowKit Go.ChangeShapes Go.WideShapes

theorem Try.own : ownKnob Try.prog.godebug = none := by kernel_rfl
theorem Try.laidOut : laidOutB Try.prog = true := by kernel_rfl

theorem flatU8 : FlatT Try.prog 5 [.int .u8] := flat_int Try.underlying5 (by kernel_rfl)
theorem flatU16 : FlatT Try.prog 39 [.int .u16] := flat_int Try.underlying39 (by kernel_rfl)
theorem flatI16 : FlatT Try.prog 27 [.int .i16] := flat_int Try.underlying27 (by kernel_rfl)
theorem flatI8 : FlatT Try.prog 40 [.int .i8] := flat_int Try.underlying40 (by kernel_rfl)
theorem flatBool : FlatT Try.prog 4 [.bool] := flat_bool Try.underlying4 (by kernel_rfl)

theorem u8_row {row : List D} (h : FlatRow [.int .u8] row) : ∃ x, row = encU8 x ∧ 0 ≤ x ∧ x ≤ 255 := by
  obtain ⟨hl, hg⟩ := h
  match row, hl with
  | [d0], _ =>
    obtain ⟨v, hv, n, rfl, h1, h2⟩ := hg 0 _ rfl
    simp at hv; subst hv
    exact ⟨n, rfl, h1, h2⟩
theorem u16_row {row : List D} (h : FlatRow [.int .u16] row) : ∃ x, row = encU16 x ∧ 0 ≤ x ∧ x ≤ 65535 := by
  obtain ⟨hl, hg⟩ := h
  match row, hl with
  | [d0], _ =>
    obtain ⟨v, hv, n, rfl, h1, h2⟩ := hg 0 _ rfl
    simp at hv; subst hv
    exact ⟨n, rfl, h1, h2⟩
theorem bool_row {row : List D} (h : FlatRow [.bool] row) : ∃ x, row = encBool x ∧ True := by
  obtain ⟨hl, hg⟩ := h
  match row, hl with
  | [d0], _ =>
    obtain ⟨v, hv, n, rfl⟩ := hg 0 _ rfl
    simp at hv; subst hv
    exact ⟨n, rfl, trivial⟩
theorem place_row {row : List D} (h : FlatRow [.int .i16, .int .i16, .int .u8, .int .u8] row) : ∃ m, row = encP m ∧ PlaceOk m := by
  obtain ⟨hl, hg⟩ := h
  match row, hl with
  | [d0, d1, d2, d3], _ =>
    obtain ⟨v, hv, n, rfl, a1, a2⟩ := hg 0 _ rfl
    obtain ⟨v1, hv1, n1, rfl, b1, b2⟩ := hg 1 _ rfl
    obtain ⟨v2, hv2, n2, rfl, c1, c2⟩ := hg 2 _ rfl
    obtain ⟨v3, hv3, n3, rfl, d1, d2⟩ := hg 3 _ rfl
    simp at hv hv1 hv2 hv3; subst hv; subst hv1; subst hv2; subst hv3
    exact ⟨⟨n, n1, n2, n3⟩, rfl, ⟨a1, a2, b1, b2, c1, c2, d1, d2⟩⟩
theorem burst_row {row : List D} (h : FlatRow [.int .u8, .int .u16, .int .u16, .int .i8] row) : ∃ m, row = encB m ∧ BurstOk m := by
  obtain ⟨hl, hg⟩ := h
  match row, hl with
  | [d0, d1, d2, d3], _ =>
    obtain ⟨v, hv, n, rfl, a1, a2⟩ := hg 0 _ rfl
    obtain ⟨v1, hv1, n1, rfl, b1, b2⟩ := hg 1 _ rfl
    obtain ⟨v2, hv2, n2, rfl, c1, c2⟩ := hg 2 _ rfl
    obtain ⟨v3, hv3, n3, rfl, d1, d2⟩ := hg 3 _ rfl
    simp at hv hv1 hv2 hv3; subst hv; subst hv1; subst hv2; subst hv3
    exact ⟨⟨n, n1, n2, n3⟩, rfl, ⟨a1, a2, b1, b2, c1, c2, d1, d2⟩⟩

theorem flatPlace : FlatT Try.prog 141 [.int .i16, .int .i16, .int .u8, .int .u8] := by
  refine flat_struct Try.underlying141 (by kernel_rfl) rfl fun i f c hf hc => ?_
  match i, hf, hc with
  | 0, hf, hc => cases hf; cases hc; exact ⟨rfl, flatI16⟩
  | 1, hf, hc => cases hf; cases hc; exact ⟨rfl, flatI16⟩
  | 2, hf, hc => cases hf; cases hc; exact ⟨rfl, flatU8⟩
  | 3, hf, hc => cases hf; cases hc; exact ⟨rfl, flatU8⟩
  | i + 4, hf, hc => exact absurd hc (by simp)
theorem flatBurst : FlatT Try.prog 42 [.int .u8, .int .u16, .int .u16, .int .i8] := by
  refine flat_struct Try.underlying42 (by kernel_rfl) rfl fun i f c hf hc => ?_
  match i, hf, hc with
  | 0, hf, hc => cases hf; cases hc; exact ⟨rfl, flatU8⟩
  | 1, hf, hc => cases hf; cases hc; exact ⟨rfl, flatU16⟩
  | 2, hf, hc => cases hf; cases hc; exact ⟨rfl, flatU16⟩
  | 3, hf, hc => cases hf; cases hc; exact ⟨rfl, flatI8⟩
  | i + 4, hf, hc => exact absurd hc (by simp)

set_option maxRecDepth 100000 in
set_option maxHeartbeats 4000000 in
theorem worlds_lifted (os : Os) (started : os.Started) (H : Type) (enc : TypeId × Value → H) :
    ReturnsInHanded {} Try.checked os 3 .any (Rows.topWorldsSpec.pre6 enc Try.prog Try.f3 Rows.topWorldsRow.domain false) (Rows.topWorldsSpec.post enc Try.prog Try.f3 false true false false) := by
  refine returnsInHanded_of_change (C := Try.checked) Try.own started (by kernel_rfl) Try.func3
    (ChangeSpec.witness6 (enc := enc) (C := Try.checked) false ⟨#[], #[.slice none 0 0, .slice none 0 0, .slice none 0 0, .slice none 0 0, .slice none 0 0, .int .u8 0, .int .i16 0, .int .i16 0, .int .u32 0], []⟩ 8 (by kernel_rfl) (by kernel_rfl) (by kernel_rfl) (by kernel_rfl)) ?_
  intro W base args ds gs before hval0 hW hcnd _
  have hval : ∀ (j : Nat) t v, Try.f3.params[j]? = some t → args[j]? = some v → Value.okWide Try.prog W .any base t v := hval0
  have hW' := hW
  obtain ⟨p, q, hA0, hV, rfl, hfz, hnd⟩ := hW
  have hA : DataW.TrodAll enc Try.prog W 0 (fun _ => true) true Try.f3.params.toList args.toList ds p := hA0
  rw [Try.params3] at hA hval
  obtain ⟨v0, vs0, d0, ds0, p0, q0, e0, rfl, rfl, h0, hA⟩ := trodAll_cons hA
  obtain ⟨v1, vs1, d1, ds1, p1, q1, rfl, rfl, rfl, h1, hA⟩ := trodAll_cons hA
  obtain ⟨v2, vs2, d2, ds2, p2, q2, rfl, rfl, rfl, h2, hA⟩ := trodAll_cons hA
  obtain ⟨v3, vs3, d3, ds3, p3, q3, rfl, rfl, rfl, h3, hA⟩ := trodAll_cons hA
  obtain ⟨v4, vs4, d4, ds4, p4, q4, rfl, rfl, rfl, h4, hA⟩ := trodAll_cons hA
  obtain ⟨v5, vs5, d5, ds5, p5, q5, rfl, rfl, rfl, h5, hA⟩ := trodAll_cons hA
  obtain ⟨v6, vs6, d6, ds6, p6, q6, rfl, rfl, rfl, h6, hA⟩ := trodAll_cons hA
  obtain ⟨v7, vs7, d7, ds7, p7, q7, rfl, rfl, rfl, h7, hA⟩ := trodAll_cons hA
  obtain ⟨v8, vs8, d8, ds8, p8, q8, rfl, rfl, rfl, h8, hA⟩ := trodAll_cons hA
  obtain ⟨rfl, rfl, rfl⟩ := trodAll_nil hA
  obtain rfl : args = #[v0, v1, v2, v3, v4, v5, v6, v7, v8] := by cases args; simp_all
  obtain ⟨rfl, rfl⟩ := trodVars_none hV
  obtain ⟨r0, hr0, hl0, hg0⟩ := open_flat Try.underlying22 flatPlace (by decide) (okWide_slice Try.underlying22 (hval 0 22 v0 rfl rfl)) h0
  obtain ⟨r1, hr1, hl1, hg1⟩ := open_flat Try.underlying23 flatU16 (by decide) (okWide_slice Try.underlying23 (hval 1 23 v1 rfl rfl)) h1
  obtain ⟨r2, hr2, hl2, hg2⟩ := open_flat Try.underlying24 flatBurst (by decide) (okWide_slice Try.underlying24 (hval 2 24 v2 rfl rfl)) h2
  obtain ⟨r3, hr3, hl3, hg3⟩ := open_flat Try.underlying25 flatBool (by decide) (okWide_slice Try.underlying25 (hval 3 25 v3 rfl rfl)) h3
  obtain ⟨r4, hr4, hl4, hg4⟩ := open_flat Try.underlying26 flatU8 (by decide) (okWide_slice Try.underlying26 (hval 4 26 v4 rfl rfl)) h4
  obtain ⟨way, rfl, rfl, rfl, w5⟩ := open_int Try.underlying5 (hval 5 5 v5 rfl rfl) h5
  obtain ⟨dx, rfl, rfl, rfl, w6⟩ := open_int Try.underlying27 (hval 6 27 v6 rfl rfl) h6
  obtain ⟨dy, rfl, rfl, rfl, w7⟩ := open_int Try.underlying27 (hval 7 27 v7 rfl rfl) h7
  obtain ⟨later, rfl, rfl, rfl, w8⟩ := open_int Try.underlying28 (hval 8 28 v8 rfl rfl) h8
  obtain ⟨l, rfl, hl⟩ := rows_list fun row hr => place_row (hg0 row hr)
  obtain ⟨sh, rfl, hsh⟩ := rows_list fun row hr => u16_row (hg1 row hr)
  obtain ⟨bs, rfl, hbs⟩ := rows_list fun row hr => burst_row (hg2 row hr)
  obtain ⟨draws, rfl, _⟩ := rows_list fun row hr => bool_row (hg3 row hr)
  obtain ⟨by_, rfl, hby⟩ := rows_list fun row hr => u8_row (hg4 row hr)
  simp only [List.length_map] at hl0 hl1 hl2 hl3 hl4
  have b5 := wf_ok w5
  have b6 := wf_ok w6
  have b7 := wf_ok w7
  have b8 := wf_ok w8
  have hsp := sp3 l sh bs draws by_ way dx dy later hl0 hl1 hl2 hl3 hl4 hl hsh hbs hby b5.1 b5.2 b6.1 b6.2 b7.1 b7.2 b8.1 b8.2
  refine (calls_true hsp ?_).mono fun e W' ⟨he, hb⟩ => ?_
  · exact repArgs_cons (.d hr0) (repArgs_cons (.d hr1) (repArgs_cons (.d hr2) (repArgs_cons (.d hr3) (repArgs_cons (.d hr4) (repArgs_cons (.d (.v _ rfl)) (repArgs_cons (.d (.v _ rfl)) (repArgs_cons (.d (.v _ rfl)) (repArgs_cons (.d (.v _ rfl)) repArgs_nil))))))))
  · subst he
    exact ⟨_, rfl, post_true Try.laidOut rfl (by kernel_rfl) rfl Try.underlying4 hb hW' rfl rfl rfl⟩

theorem worlds_holds : Rows.TopWorldsSaid :=
  OpenClaim.holds_of_wide 3 Try.f3 rfl rfl rfl rfl rfl rfl rfl ⟨rfl, rfl, rfl, rfl, rfl⟩ rfl rfl rfl rfl rfl (by kernel_rfl) Try.func3 (by kernel_rfl)
    (of_decide_eq_true (by kernel_rfl)) (by unfold Func.isWrapper; first | (rw [if_pos (by decide +kernel)]; kernel_rfl) | (rw [if_neg (by decide +kernel)]; exact ⟨rfl, rfl⟩))
    (fun os started H enc _ => worlds_lifted os started H enc)
end Go.Proofs.Ytencghlmckbmlaa
