/- ScanBack, for every input of bulk at most 1048576: digits read back; words between any blanks read back. -/
import Derived.Test.YtkeklbicmfhemaaDoorWd
import Derived.Test.YtkeklbicmfhemaaDoorH02
import Derived.Test.YtkeklbicmfhemaaDoorArg
namespace Go.Proofs.YtkeklbicmfhemaaDoor.scanBack
open Go Go.ChangeShapes Go.WideShapes Go.ChangeAt Go.RowKit Go.Proofs.YtkeklbicmfhemaaDoorV
theorem arg {a0 : Int} (w0 : (Lit.int .i64 a0).wf = true) {a1 : List ByteArray} (w1 : ∀ s ∈ a1, s.size ≤ maxLen) (l1 : a1.length ≤ maxLen) (m1 : a1.length ≤ 1048576 ∧ ∀ s ∈ a1, s.size ≤ 1048576) {a2 : Int} (w2 : (Lit.int .i64 a2).wf = true) : scanBack_C.F [PV.int .i64 a0, PV.fs (a1.map fun s => [PV.str s]), PV.int .i64 a2] = some (.bool true, []) := by
  have e : sScanBack a0 (a1.map fun s => [PV.str s]) a2 = some true := by
    unfold sScanBack
    rw [show unS (a1.map fun s => [PV.str s]) = some a1 from unS_row a1, Option.bind_some]
    have f0 := inI_arg w0
    obtain ⟨f1, g1⟩ := m1
    have f2 := inI_arg w2
    exact if_pos (by repeat' apply And.intro
                     all_goals assumption)
  show Option.bind (sScanBack a0 (a1.map fun s => [PV.str s]) a2) _ = _
  rw [e]
  rfl

attribute [local irreducible] Value.okWide Holds Applies Calls GOk in
theorem contract (H : Type) (enc : TypeId × Value → H) (W : World) (base : Nat) (args : Array Value) (ds gs : List (DataW H)) (before : List MemPlace)
    (hval : ∀ (j : Nat) t v, Tryd.f10.params[j]? = some t → args[j]? = some v → Value.okWide Tryd.prog W .any base t v)
    (hW : DataW.Whole enc Tryd.prog Tryd.f10.params.toList Rows.scanBackSpec.vars false W args.toList ds gs before) (hk : Rows.uptoSmall H (ds ++ gs) = true) (hL : laidMetH Tryd.prog Rows.scanBackUptoRow.laid W) (hsh : W.ShapedOpen Tryd.prog) :
    Calls Tryd.prog 10 args W fun e W' => ∃ v, e = .returned v ∧ Rows.scanBackSpec.post enc Tryd.prog Tryd.f10 false true false false W args v W' := by
  have hW' := hW
  obtain ⟨p, q, hA0, hV, rfl, hfz, hnd⟩ := hW
  have hA : DataW.TrodAll enc Tryd.prog W 0 (fun _ => true) true Tryd.f10.params.toList args.toList ds p := hA0
  rw [Tryd.params10] at hA hval
  obtain ⟨v0, vs0, d0, ds0, p0, q0, ha0, rfl, rfl, h0, r0⟩ := trodAll_cons hA
  obtain ⟨v1, vs1, d1, ds1, p1, q1, ha1, rfl, rfl, h1, r1⟩ := trodAll_cons r0
  obtain ⟨v2, vs2, d2, ds2, p2, q2, ha2, rfl, rfl, h2, r2⟩ := trodAll_cons r1
  obtain ⟨rfl, rfl, rfl⟩ := trodAll_nil r2
  obtain rfl : args = #[v0, v1, v2] := by cases args; simp_all
  obtain ⟨rfl, rfl⟩ := trodVars_none hV
  obtain ⟨a0, rfl, rfl, rfl, w0⟩ := open_int (k := .i64) Tryd.underlying3 (hval 0 _ _ rfl rfl) h0
  obtain ⟨a1, e1, w1, l1, b1⟩ := arg_strings Tryd.underlying38 Tryd.underlying9 (by kernel_rfl) (hval 1 _ _ rfl rfl) h1
  have m1 := bulk_strs hk (by simp) b1
  obtain ⟨a2, rfl, rfl, rfl, w2⟩ := open_int (k := .i64) Tryd.underlying3 (hval 2 _ _ rfl rfl) h2
  exact law_calls (n := 3) (t := 4) (ps := [PV.int .i64 a0, PV.fs (a1.map fun s => [PV.str s]), PV.int .i64 a2]) scanBack_all (by kernel_rfl) (by kernel_rfl) Tryd.func10 (by kernel_rfl) (by kernel_rfl) laidOut (by kernel_rfl) rfl (by kernel_rfl) Tryd.underlying4 rfl hW' (go_of hL hsh laid_ok) rfl
    (by simp only [relL]; exact ⟨_, _, rfl, (by simp only [rel]), ⟨_, _, rfl, e1, ⟨_, _, rfl, (by simp only [rel]), rfl⟩⟩⟩) (arg w0 w1 l1 m1 w2)

set_option maxRecDepth 100000 in
theorem lifted (os : Os) (started : os.Started) (H : Type) (enc : TypeId × Value → H) (F : Stop.Interp) :
    ReturnsInHanded {} Tryd.checked os 10 .any ((Rows.OpenSpec.upto Rows.scanBackSpec).preRow enc Tryd.prog Tryd.f10 Rows.scanBackUptoRow.domain false Rows.scanBackUptoRow.laid) (((Rows.OpenSpec.upto Rows.scanBackSpec).at F).post enc Tryd.prog Tryd.f10 false true false false) := by
  obtain ⟨places, hx⟩ : ∃ places, DataW.whole enc Tryd.prog ((laidWorld os).forCall (fun _ _ => 0) ⟨#[], #[.int .i64 0, .slice none 0 0, .int .i64 0], []⟩).memory Tryd.f10.params.toList Rows.scanBackSpec.vars false (#[.int .i64 0, .slice none 0 0, .int .i64 0] : Array Value).toList 8 = some ([.lit (.int .i64 0), .nil, .lit (.int .i64 0)], [], places) := ⟨[], by kernel_rfl⟩
  refine returnsInHanded_of_row (C := Tryd.checked) (s := Rows.OpenSpec.upto Rows.scanBackSpec) own started (by kernel_rfl) Tryd.func10
    (witness_row_atRef (enc := enc) (C := Tryd.checked) false (laidWorld os) #[.int .i64 0, .slice none 0 0, .int .i64 0] rfl (refs os _) (rests os _) (by kernel_rfl)
      (OpenSpec.preRow_of_cond 8 hx (by kernel_rfl) (fun k hk => by cases hk; kernel_rfl) (by kernel_rfl) (laid_met os _))) ?_
  intro W base args ds gs before hval hW _ hcond _ hL hsh _
  exact contract H enc W base args ds gs before hval hW (hcond _ rfl) hL hsh

theorem said : Rows.ScanBackUptoSaid :=
  OpenClaim.holds_of_cond 10 Tryd.f10 rfl rfl rfl rfl rfl rfl rfl ⟨rfl, rfl, rfl, rfl, rfl⟩ rfl rfl rfl rfl rfl (by kernel_rfl) Tryd.func10 (by kernel_rfl)
    (of_decide_eq_true (by kernel_rfl)) (by unfold Func.isWrapper; first | (rw [if_pos (by decide +kernel)]; kernel_rfl) | (rw [if_neg (by decide +kernel)]; exact ⟨rfl, rfl⟩))
    (fun os started H enc _ F => by rw [OpenClaim.pre_eq_preRow]; exact lifted os started H enc F)

theorem plain (f : FuncId) (fn : Func) (hf : Tryd.pinned.checked.prog.funcNamed "drayman/draymanlaw02.ScanBack" = some f) (hfn : Tryd.pinned.checked.prog.funcs[f]? = some fn) :
    true = Tryd.pinned.checked.prog.looks [] ∧ ∀ (j : Nat) t, fn.params[j]? = some t → Tryd.pinned.checked.prog.wantsStandIn t = false := by
  obtain rfl : f = 10 := Option.some.inj ((show Tryd.prog.funcNamed "drayman/draymanlaw02.ScanBack" = some 10 by kernel_rfl).symm.trans hf) |>.symm
  obtain rfl : fn = Tryd.f10 := (Option.some.inj (Tryd.func10.symm.trans hfn)).symm
  have h : (Tryd.f10.params.toList.all fun t => !Tryd.prog.wantsStandIn t) = true := by kernel_rfl
  refine ⟨by kernel_rfl, fun j t ht => ?_⟩
  have h1 := List.all_eq_true.1 h t (by have := Array.mem_of_getElem? ht; exact Array.mem_toList_iff.2 this)
  exact (Bool.not_eq_true' _).mp h1

theorem proved : Rows.ScanBackUptoCardSaid :=
  Claim7.holds_tied_plain_at .later [] _ _ _ _ said (fun _ h => by cases h) (by kernel_rfl) (fun _ h => by cases h) scanBackUpto_row_tie rfl ⟨rfl, rfl⟩ (by kernel_rfl) rfl plain (by kernel_rfl)
end Go.Proofs.YtkeklbicmfhemaaDoor.scanBack
