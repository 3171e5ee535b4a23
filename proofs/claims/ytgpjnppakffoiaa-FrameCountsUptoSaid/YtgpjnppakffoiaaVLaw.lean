/- The reading machine: what holds of a law's function is what its row asks. -/
import Derived.Test.YtgpjnppakffoiaaVFunOk
import Derived.ProofKit
import Derived.OpenShut
import Derived.JoinedCond
import Derived.Carry
import Derived.Below
namespace Go.Proofs.YtgpjnppakffoiaaV
open Go Go.RowKit Go.ChangeShapes Go.WideShapes Go.ChangeAt

section
variable {H : Type} {enc : TypeId × Value → H} {P : Program}

theorem trodAll_stays (hl : laidOutB P = true) {W W' : World} (hb : Below W.heap.size W W') {sp : Nat → Bool} : ∀ {ts : List TypeId} {vs : List Value} {ds : List (DataW H)} {ps : List MemPlace}, ts.all (fun t => P.readableRec t && decide (t < P.types.size)) = true →
    DataW.TrodAll enc P W 0 (fun _ => true) true ts vs ds ps → (∀ x ∈ ps, x.block < W.heap.size) → (∀ x ∈ ps, sp x.block = true) → DataW.TrodAll enc P W' 0 sp true ts vs ds ps
  | [], vs, ds, ps, _, h, _, _ => by
    obtain ⟨rfl, rfl, rfl⟩ := trodAll_nil h
    exact trodAll_mk0
  | t :: ts, vs, ds, ps, hr, h, hlt, hsp => by
    simp only [List.all_cons, Bool.and_eq_true, decide_eq_true_eq] at hr
    obtain ⟨v, vs', d, ds', p, q, rfl, rfl, rfl, h1, h2⟩ := trodAll_cons h
    refine trodAll_cons_mk (WideElems.Trod_stays hl hr.1.1 hr.1.2 h1 (fun x hx => hb.same (hlt x (by simp [hx]))) (fun x hx => hsp x (by simp [hx]))) (trodAll_stays hl hb ?_ h2 (fun x hx => hlt x (by simp [hx])) (fun x hx => hsp x (by simp [hx])))
    simpa using hr.2

/-- What a law's row asks of its end. -/
theorem law_post {fn : Func} {s : ChangeSpec} {W W' : World} {args : Array Value} {ds gs : List (DataW H)} {before : List MemPlace} (hl : laidOutB P = true) (hread : fn.params.toList.all (fun t => P.readableRec t && decide (t < P.types.size)) = true)
    (hvars : s.vars = []) {t : TypeId} (hres : fn.resultTypes = #[t]) (hbool : P.underlying t = some .bool) (hfn : s.fn H (ds ++ gs) = { results := [.lit (.bool true)], args := ds })
    (hW : DataW.Whole enc P fn.params.toList s.vars false W args.toList ds gs before) (hb : Below W.heap.size W W') : s.post enc P fn false true false false W args (.bool true) W' := by
  have hlt := hW.lt
  have hW' := hW
  obtain ⟨p, q, hA, hV, rfl, _, _⟩ := hW'
  rw [hvars] at hV
  obtain ⟨rfl, rfl⟩ := trodVars_none hV
  refine ⟨ds, [], p ++ [], [], p, [], hW, ?_, ?_, ?_, World.keptBut_mono (fun x hx => ⟨hx, .inr (.inl (by simpa using hx))⟩) (hb.frame (fun x => x ∈ p ++ [])), fun h => by cases h⟩
  · rw [hfn, hres]
    exact trodAll_mk1 (shut_bool hbool true)
  · rw [hfn]
    exact trodAll_stays hl hb hread hA (fun x hx => hlt x (by simpa using hx)) (fun x hx => by simpa using hlt x (by simpa using hx))
  · rw [hfn, hvars]
    exact hV

theorem args_data {w : World} {S : Nat → Prop} : ∀ {n : Nat} {ps : List PV} {us : List Value}, ps.length = n → relL w S ps us → argsOk w S (List.replicate n none) ps us []
  | 0, ps, us, hn, h => by
    have : ps = [] := List.eq_nil_of_length_eq_zero hn
    subst this
    simp only [relL] at h
    simp [argsOk, h]
  | n + 1, [], us, hn, h => by simp at hn
  | n + 1, p :: ps, us, hn, h => by
    simp only [relL] at h
    obtain ⟨u, us', rfl, h1, h2⟩ := h
    simp only [List.replicate_succ, argsOk]
    exact ⟨p, ps, u, us', rfl, rfl, h1, args_data (by simpa using hn) h2⟩

/-- A law whose function comes to true answers its row. -/
theorem law_calls {f : FuncId} {fn : Func} {c : Ctr} {s : ChangeSpec} {W : World} {args : Array Value} {ds gs : List (DataW H)} {before : List MemPlace} {G : Nat → Option (List PV)} (hH : Holds P G f c) {n : Nat} (hm : c.modes = List.replicate n none) (hd : c.res = .d)
    (hf : P.funcs[f]? = some fn) (hbody : fn.body.isSome = true) (hname : (fn.name == "runtime.NumGoroutine") = false) (hl : laidOutB P = true) (hread : fn.params.toList.all (fun t => P.readableRec t && decide (t < P.types.size)) = true)
    (hvars : s.vars = []) {t : TypeId} (hres : fn.resultTypes = #[t]) (hbool : P.underlying t = some .bool) (hfn : s.fn H (ds ++ gs) = { results := [.lit (.bool true)], args := ds })
    (hW : DataW.Whole enc P fn.params.toList s.vars false W args.toList ds gs before) (hgo : GOk G W (fun b => b < W.heap.size)) {ps : List PV} (hn : ps.length = n) (hr : relL W (fun b => b < W.heap.size) ps args.toList) (hF : c.F ps = some (.bool true, [])) :
    Calls P f args W fun e W' => ∃ v, e = .returned v ∧ s.post enc P fn false true false false W args v W' := by
  have happ := hH W (fun b => b < W.heap.size) ps args.toList [] (.bool true) [] (by rw [hm]; exact args_data hn hr) (by simp) (by simp) (fun b hb => hb) hgo hF
  have hcall : (callFunc f args.toList.toArray).run P W = .ok (.enter f args) W := by
    simp only [beq_eq_false_iff_ne] at hname
    obtain ⟨b, hb⟩ := Option.isSome_iff_exists.1 hbody
    simp [callFunc, hf, hname, hb]
  unfold Applies at happ
  rw [hcall] at happ
  simp only at happ
  refine happ.mono fun e W' ⟨v, he, S', g, gps, hB⟩ => ⟨v, he, ?_⟩
  have hrv := (hB.res S' (.inl rfl)).1
  rw [hd] at hrv
  simp only [ownS, rel] at hrv
  obtain ⟨_, rfl⟩ := hrv
  exact law_post hl hread hvars hres hbool hfn hW ⟨hB.os, hB.tape, hB.output, hB.size, fun k hk => hB.same k hk (by simp)⟩

end
end Go.Proofs.YtgpjnppakffoiaaV
