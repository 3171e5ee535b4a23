/- CmdNumbers, for every input: a line of a command's word and numbers is one just if there are as many as may be, each from 0 to 999. -/
import Derived.Test.YtkeklbicmfhemaaDoorWd
import Derived.Test.YtkeklbicmfhemaaDoorH15
import Derived.Test.YtkeklbicmfhemaaDoorArg
namespace Go.Proofs.YtkeklbicmfhemaaDoor.cmdNumbers
open Go Go.ChangeShapes Go.WideShapes Go.ChangeAt Go.RowKit Go.Proofs.YtkeklbicmfhemaaDoorV
theorem arg {a0 : Int} (w0 : (Lit.int .i64 a0).wf = true) {a1 : List Int} (w1 : ∀ n ∈ a1, (Lit.int .i64 n).wf = true) (l1 : a1.length ≤ maxLen) : cmdNumbers_C.F [PV.int .i64 a0, PV.fs (a1.map fun n => [PV.int .i64 n])] = some (.bool true, []) := by
  have e : sCmdNumbers a0 (a1.map fun n => [PV.int .i64 n]) = some true := by
    unfold sCmdNumbers
    rw [show unI (a1.map fun n => [PV.int .i64 n]) = some a1 from unI_arg w1, Option.bind_some]
    have f0 := inI_arg w0
    exact if_pos (by repeat' apply And.intro
                     all_goals assumption)
  show Option.bind (sCmdNumbers a0 (a1.map fun n => [PV.int .i64 n])) _ = _
  rw [e]
  rfl

attribute [local irreducible] Value.okWide Holds Applies Calls GOk in
theorem contract (H : Type) (enc : TypeId × Value → H) (W : World) (base : Nat) (args : Array Value) (ds gs : List (DataW H)) (before : List MemPlace)
    (hval : ∀ (j : Nat) t v, Tryd.f13.params[j]? = some t → args[j]? = some v → Value.okWide Tryd.prog W .any base t v)
    (hW : DataW.Whole enc Tryd.prog Tryd.f13.params.toList Rows.cmdNumbersSpec.vars false W args.toList ds gs before) (hL : laidMetH Tryd.prog Rows.cmdNumbersRow.laid W) (hsh : W.ShapedOpen Tryd.prog) :
    Calls Tryd.prog 13 args W fun e W' => ∃ v, e = .returned v ∧ Rows.cmdNumbersSpec.post enc Tryd.prog Tryd.f13 false true false false W args v W' := by
  have hW' := hW
  obtain ⟨p, q, hA0, hV, rfl, hfz, hnd⟩ := hW
  have hA : DataW.TrodAll enc Tryd.prog W 0 (fun _ => true) true Tryd.f13.params.toList args.toList ds p := hA0
  rw [Tryd.params13] at hA hval
  obtain ⟨v0, vs0, d0, ds0, p0, q0, ha0, rfl, rfl, h0, r0⟩ := trodAll_cons hA
  obtain ⟨v1, vs1, d1, ds1, p1, q1, ha1, rfl, rfl, h1, r1⟩ := trodAll_cons r0
  obtain ⟨rfl, rfl, rfl⟩ := trodAll_nil r1
  obtain rfl : args = #[v0, v1] := by cases args; simp_all
  obtain ⟨rfl, rfl⟩ := trodVars_none hV
  obtain ⟨a0, rfl, rfl, rfl, w0⟩ := open_int (k := .i64) Tryd.underlying3 (hval 0 _ _ rfl rfl) h0
  obtain ⟨a1, e1, w1, l1, b1⟩ := arg_ints (k := .i64) Tryd.underlying40 Tryd.underlying3 (by kernel_rfl) (hval 1 _ _ rfl rfl) h1
  exact law_calls (n := 2) (t := 4) (ps := [PV.int .i64 a0, PV.fs (a1.map fun n => [PV.int .i64 n])]) cmdNumbers_all (by kernel_rfl) (by kernel_rfl) Tryd.func13 (by kernel_rfl) (by kernel_rfl) laidOut (by kernel_rfl) rfl (by kernel_rfl) Tryd.underlying4 rfl hW' (go_of hL hsh laid_ok) rfl
    (by simp only [relL]; exact ⟨_, _, rfl, (by simp only [rel]), ⟨_, _, rfl, e1, rfl⟩⟩) (arg w0 w1 l1)

set_option maxRecDepth 100000 in
theorem lifted (os : Os) (started : os.Started) (H : Type) (enc : TypeId × Value → H) (F : Stop.Interp) :
    ReturnsInHanded {} Tryd.checked os 13 .any ((OpenSpec.ofChange Rows.cmdNumbersSpec).preRow enc Tryd.prog Tryd.f13 Rows.cmdNumbersRow.domain false Rows.cmdNumbersRow.laid) (((OpenSpec.ofChange Rows.cmdNumbersSpec).at F).post enc Tryd.prog Tryd.f13 false true false false) := by
  obtain ⟨places, hx⟩ : ∃ places, DataW.whole enc Tryd.prog ((laidWorld os).forCall (fun _ _ => 0) ⟨#[], #[.int .i64 0, .slice none 0 0], []⟩).memory Tryd.f13.params.toList Rows.cmdNumbersSpec.vars false (#[.int .i64 0, .slice none 0 0] : Array Value).toList 8 = some ([.lit (.int .i64 0), .nil], [], places) := ⟨[], by kernel_rfl⟩
  refine returnsInHanded_of_row (C := Tryd.checked) (s := OpenSpec.ofChange Rows.cmdNumbersSpec) own started (by kernel_rfl) Tryd.func13
    (witness_row_atRef (enc := enc) (C := Tryd.checked) false (laidWorld os) #[.int .i64 0, .slice none 0 0] rfl (refs os _) (rests os _) (by kernel_rfl)
      (OpenSpec.preRow_of_cond 8 hx (by kernel_rfl) (fun k hk => by cases hk) (by kernel_rfl) (laid_met os _))) ?_
  intro W base args ds gs before hval hW _ _ _ hL hsh _
  exact contract H enc W base args ds gs before hval hW hL hsh

theorem said : Rows.CmdNumbersSaid :=
  OpenClaim.holds_of_cond 13 Tryd.f13 rfl rfl rfl rfl rfl rfl rfl ⟨rfl, rfl, rfl, rfl, rfl⟩ rfl rfl rfl rfl rfl (by kernel_rfl) Tryd.func13 (by kernel_rfl)
    (of_decide_eq_true (by kernel_rfl)) (by unfold Func.isWrapper; first | (rw [if_pos (by decide +kernel)]; kernel_rfl) | (rw [if_neg (by decide +kernel)]; exact ⟨rfl, rfl⟩))
    (fun os started H enc _ F => by rw [OpenClaim.pre_eq_preRow]; exact lifted os started H enc F)

theorem plain (f : FuncId) (fn : Func) (hf : Tryd.pinned.checked.prog.funcNamed "drayman/draymanlaw15.CmdNumbers" = some f) (hfn : Tryd.pinned.checked.prog.funcs[f]? = some fn) :
    true = Tryd.pinned.checked.prog.looks [] ∧ ∀ (j : Nat) t, fn.params[j]? = some t → Tryd.pinned.checked.prog.wantsStandIn t = false := by
  obtain rfl : f = 13 := Option.some.inj ((show Tryd.prog.funcNamed "drayman/draymanlaw15.CmdNumbers" = some 13 by kernel_rfl).symm.trans hf) |>.symm
  obtain rfl : fn = Tryd.f13 := (Option.some.inj (Tryd.func13.symm.trans hfn)).symm
  have h : (Tryd.f13.params.toList.all fun t => !Tryd.prog.wantsStandIn t) = true := by kernel_rfl
  refine ⟨by kernel_rfl, fun j t ht => ?_⟩
  have h1 := List.all_eq_true.1 h t (by have := Array.mem_of_getElem? ht; exact Array.mem_toList_iff.2 this)
  exact (Bool.not_eq_true' _).mp h1

theorem proved : Rows.CmdNumbersCardSaid :=
  Claim7.holds_tied_plain_at .later [] _ _ _ _ said (fun _ h => by cases h) (by kernel_rfl) (fun _ h => by cases h) cmdNumbers_row_tie rfl ⟨rfl, rfl⟩ (by kernel_rfl) rfl plain (by kernel_rfl)
end Go.Proofs.YtkeklbicmfhemaaDoor.cmdNumbers
