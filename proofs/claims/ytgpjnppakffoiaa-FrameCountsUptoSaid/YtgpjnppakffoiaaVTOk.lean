/- The reading machine: the table of types is the program's. -/
import Derived.Test.YtgpjnppakffoiaaVOk
namespace Go.Proofs.YtgpjnppakffoiaaV
open Go

def zOkB : TV → Value → Bool
  | .val (.bool b), .bool b' => b == b'
  | .val (.int k n), .int k' n' => decide (k = k') && n == n'
  | .val (.str s), .string s' => s.data.toList == s'.data.toList
  | .nil _, .slice none 0 0 => true
  | .val .pnil, .pointer none => true
  | .val .mnil, .map none => true
  | .val .fnil, .nilFunc => true
  | _, _ => false
def zsOkB : List TV → List Value → Bool
  | [], [] => true
  | z :: zs, u :: us => zOkB z u && zsOkB zs us
  | _, _ => false

def descOkB (P : Program) (t : TypeId) : TD → Bool
  | .bool => match P.underlying t with | some .bool => true | _ => false
  | .int k => match P.underlying t with | some (.int k') => decide (k' = k) | _ => false
  | .string => match P.underlying t with | some .string => true | _ => false
  | .slice e => match P.underlying t with | some (.slice e') => e' == e | _ => false
  | .array n e => match P.underlying t with | some (.array n' e') => n' == n && e' == e | _ => false
  | .struct fs => match P.underlying t with
    | some (.struct F) => F.toList.map (fun f => (f.type, f.offset)) == fs && F.toList.all (fun f => f.name != "_") && !P.stoodInHeld t && !P.eqGuardType P.depth t
    | _ => false
  | .map k e => match P.underlying t with | some (.map k' e') => k' == k && e' == e | _ => false
  | .ptr e => match P.underlying t with | some (.pointer e') => e' == e | _ => false
  | .func => match P.underlying t with | some (.func _ _ _) => true | _ => false
  | .other => match P.underlying t with | some (.struct _) => false | some (.array _ _) => false | some _ => true | none => false

def tyOkB (P : Program) (t : TypeId) (i : TI) : Bool :=
  (match P.info? t with
  | some f => f.size == i.size && f.bytes == i.bytes &&
    (match f.zero with
    | some z => z.cells.size == i.size && zsOkB i.zero z.cells.toList && (match z with | .agg _ => i.desc.isAgg | _ => !i.desc.isAgg && z.oneCell')
    | none => false)
  | none => false) &&
  decide (0 < i.size) && decide (0 < i.bytes) && descOkB P t i.desc && (i.desc.isAgg || i.size == 1)

theorem zOkB_ok {z : TV} {u : Value} (h : zOkB z u = true) : zOk z u := by
  unfold zOkB at h
  split at h <;> simp only [zOk, Bool.false_eq_true, Bool.and_eq_true, decide_eq_true_eq, beq_iff_eq] at h ⊢
  · rw [h]
  · rw [h.1, h.2]
  · rename_i s s'
    have : s = s' := by cases s; cases s'; simp only [ByteArray.mk.injEq]; exact (Array.toList_inj.1 h)
    rw [this]
theorem zsOkB_ok : ∀ {zs : List TV} {us : List Value}, zsOkB zs us = true → zsOk zs us
  | [], [], _ => by simp [zsOk]
  | [], _ :: _, h => by simp [zsOkB] at h
  | _ :: _, [], h => by simp [zsOkB] at h
  | z :: zs, u :: us, h => by
    simp only [zsOkB, Bool.and_eq_true] at h
    simp only [zsOk]
    exact ⟨u, us, rfl, zOkB_ok h.1, zsOkB_ok h.2⟩

theorem descOkB_ok {P : Program} {t : TypeId} {d : TD} (h : descOkB P t d = true) : descOk P t d := by
  cases d <;> simp only [descOkB] at h <;> simp only [descOk]
  case struct fs =>
    split at h
    · rename_i F hu
      simp only [Bool.and_eq_true, beq_iff_eq, List.all_eq_true, bne_iff_ne, Bool.not_eq_true'] at h
      exact ⟨F, hu, h.1.1.1, h.1.1.2, h.1.2, h.2⟩
    · cases h
  case func =>
    split at h
    · rename_i a b c hu; exact ⟨a, b, c, hu⟩
    · cases h
  case other =>
    split at h
    · cases h
    · cases h
    · rename_i d h1 h2 hu
      exact ⟨d, hu, fun F e => h1 F (by rw [← e]), fun n e hh => h2 n e (by rw [← hh])⟩
    · cases h
  all_goals
    split at h
    · rename_i hu
      first
        | exact hu
        | (simp only [decide_eq_true_eq, beq_iff_eq, Bool.and_eq_true] at h; first | (subst h; exact hu) | (obtain ⟨rfl, rfl⟩ := h; exact hu))
    · cases h

theorem tyOkB_ok {P : Program} {t : TypeId} {i : TI} (h : tyOkB P t i = true) : TyOk P t i := by
  simp only [tyOkB, Bool.and_eq_true, decide_eq_true_eq] at h
  obtain ⟨⟨⟨⟨h1, h2⟩, h3⟩, h4⟩, h5⟩ := h
  refine ⟨?_, h2, h3, descOkB_ok h4, fun hd => ?_⟩
  · split at h1
    · rename_i f hf
      simp only [Bool.and_eq_true, beq_iff_eq] at h1
      obtain ⟨⟨k1, k2⟩, k3⟩ := h1
      split at k3
      · rename_i z hz
        simp only [Bool.and_eq_true, beq_iff_eq] at k3
        obtain ⟨⟨q1, q2⟩, q3⟩ := k3
        refine ⟨f, z, hf, k1, k2, hz, q1, zsOkB_ok q2, fun hd => ?_, fun hd => ?_⟩
        · cases z <;> first | rfl | (simp only [hd, Bool.not_true, Bool.false_and, Bool.false_eq_true] at q3)
        · cases z <;> first | rfl | (simp [hd] at q3; done) | (simp [hd, Value.oneCell'] at q3; done)
      · cases k3
    · cases h1
  · rw [hd] at h5
    simpa using h5

theorem tOk_of {P : Program} {T : TypeId → Option TI} {tab : List (Option TI)} (hT : ∀ t, T t = match tab[t]? with | some x => x | none => none) (h : (tab.zipIdx.all fun x => match x.1 with | some i => tyOkB P x.2 i | none => true) = true) : TOk P T := by
  intro t i hi
  rw [hT] at hi
  split at hi
  · rename_i x hx
    subst hi
    simp only [List.all_eq_true] at h
    have hm : (some i, t) ∈ tab.zipIdx := by
      rw [List.mem_iff_getElem?]
      exact ⟨t, by simp [List.getElem?_zipIdx, hx]⟩
    exact tyOkB_ok (h _ hm)
  · cases hi

end Go.Proofs.YtgpjnppakffoiaaV
