/- NumDraws, for every input: draws one after the other do not come back for 250 steps and are never 0; no condition. -/
import Derived.Test.YtgpjnppakffoiaaRows
import Derived.Test.YtgpjnppakffoiaaQ01
namespace Go.Proofs.Ytgpjnppakffoiaa
open Go.ChangeShapes Go.WideShapes Go.ChangeAt Go.RowKit Go.Proofs.YtgpjnppakffoiaaV

theorem Try.own : ownKnob Try.prog.godebug = none := by kernel_rfl
theorem Try.laidOut : laidOutB Try.prog = true := by kernel_rfl

theorem numDraws_all : Holds Try.prog G0 3 numDraws_C :=
  have hd := draw_holds trivial draw_ok
  numDraws_holds ⟨wakes01_holds ⟨hd, trivial⟩, within_holds trivial, hd, trivial⟩ numDraws_ok

set_option maxRecDepth 100000 in
theorem numDraws_lifted (os : Os) (started : os.Started) (H : Type) (enc : TypeId × Value → H) :
    ReturnsInHanded {} Try.checked os 3 .any (Rows.numDrawsSpec.pre6 enc Try.prog Try.f3 Rows.numDrawsRow.domain false) (Rows.numDrawsSpec.post enc Try.prog Try.f3 false true false false) := by
  refine returnsInHanded_of_change (C := Try.checked) Try.own started (by kernel_rfl) Try.func3
    (ChangeSpec.witness6 (enc := enc) (C := Try.checked) false ⟨#[], #[.int .u32 0, .int .i64 0], []⟩ 8 (by kernel_rfl) (by kernel_rfl) (by kernel_rfl) (by kernel_rfl)) ?_
  intro W base args ds gs before hval0 hW _ _
  have hval : ∀ (j : Nat) t v, Try.f3.params[j]? = some t → args[j]? = some v → Value.okWide Try.prog W .any base t v := hval0
  have hW' := hW
  obtain ⟨p, q, hA0, hV, rfl, hfz, hnd⟩ := hW
  have hA : DataW.TrodAll enc Try.prog W 0 (fun _ => true) true Try.f3.params.toList args.toList ds p := hA0
  rw [Try.params3] at hA hval
  obtain ⟨v0, v1, d0, d1, p0, p1, rfl, rfl, rfl, h0, h1⟩ := trodAll_two hA
  obtain ⟨rfl, rfl⟩ := trodVars_none hV
  obtain ⟨a, rfl, rfl, rfl, wa⟩ := open_int (k := .u32) rfl (hval 0 _ _ rfl rfl) h0
  obtain ⟨b, rfl, rfl, rfl, wb⟩ := open_int (k := .i64) rfl (hval 1 _ _ rfl rfl) h1
  have ha := wf_u32 wa
  have hb := wf_i64 wb
  exact law_calls (n := 2) (ps := [.int .u32 a, .int .i64 b]) numDraws_all rfl rfl Try.func3 rfl rfl Try.laidOut (by kernel_rfl) rfl rfl rfl rfl hW' (fun g cs h => by cases h) rfl
    (by simp [relL, rel]) (by unfold numDraws_C; simp [sNumDraws, ha, hb])

theorem numDraws_holdsRow : Rows.NumDrawsSaid :=
  OpenClaim.holds_of_wide 3 Try.f3 rfl rfl rfl rfl rfl rfl rfl ⟨rfl, rfl, rfl, rfl, rfl⟩ rfl rfl rfl rfl rfl (by kernel_rfl) Try.func3 (by kernel_rfl)
    (of_decide_eq_true (by kernel_rfl)) (by unfold Func.isWrapper; rw [if_neg (by decide +kernel)]; exact ⟨rfl, rfl⟩)
    (fun os started H enc _ => numDraws_lifted os started H enc)

end Go.Proofs.Ytgpjnppakffoiaa
