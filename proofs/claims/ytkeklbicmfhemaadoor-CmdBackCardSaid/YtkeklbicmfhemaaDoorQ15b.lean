/- Chapter 15: commands printed; what lines of numbers are parsed as. -/
import Derived.Test.YtkeklbicmfhemaaDoorQ15
namespace Go.Proofs.YtkeklbicmfhemaaDoorV
open Go
set_option maxRecDepth 20000
set_option linter.unusedSimpArgs false

theorem inC_get {c : Cm} (h : inC c = true) (b : UInt8) : inI (getC c b) = true := by
  obtain ⟨a1, a2, a3, a4, a5, a6, a7, a8⟩ := c
  simp only [inC, Bool.and_eq_true] at h
  obtain ⟨h1, h2, h3, h4, h5, h6, h7, h8⟩ := h
  unfold getC
  repeat' split
  all_goals assumption
theorem inC_put {c : Cm} (h : inC c = true) (b : UInt8) {n : Int} (hn : inI n = true) : inC (putC c b n) = true := by
  obtain ⟨a1, a2, a3, a4, a5, a6, a7, a8⟩ := c
  simp only [inC, Bool.and_eq_true] at h
  obtain ⟨h1, h2, h3, h4, h5, h6, h7, h8⟩ := h
  unfold putC
  repeat' split
  all_goals simp only [inC, Bool.and_eq_true]
  all_goals exact ⟨by assumption, by assumption, by assumption, by assumption, by assumption, by assumption, by assumption, by assumption⟩
theorem get_cond {R : Type} (F : Int → Option R) (b : UInt8) (c : Cm) :
    (cond ((b.toNat : Int) == 115) (F c.2.1) (cond ((b.toNat : Int) == 99) (F c.2.2.1) (cond ((b.toNat : Int) == 97) (F c.2.2.2.1) (cond ((b.toNat : Int) == 109) (F c.2.2.2.2.1) (cond ((b.toNat : Int) == 98) (F c.2.2.2.2.2.1) (cond ((b.toNat : Int) == 120) (F c.2.2.2.2.2.2.1) (F c.2.2.2.2.2.2.2))))))) = F (getC c b) := by
  have e : ∀ d : UInt8, (((b.toNat : Int) == (d.toNat : Int)) : Bool) = decide (b = d) := fun d => by
    rw [u8_cast, Bool.eq_iff_iff]
    simp
  rw [show ((b.toNat : Int) == 115) = _ from e 115, show ((b.toNat : Int) == 99) = _ from e 99, show ((b.toNat : Int) == 97) = _ from e 97, show ((b.toNat : Int) == 109) = _ from e 109, show ((b.toNat : Int) == 98) = _ from e 98, show ((b.toNat : Int) == 120) = _ from e 120]
  unfold getC
  by_cases h1 : b = 115
  · rw [decide_eq_true h1, cond_true, if_pos h1]
  rw [decide_eq_false h1, cond_false, if_neg h1]
  by_cases h2 : b = 99
  · rw [decide_eq_true h2, cond_true, if_pos h2]
  rw [decide_eq_false h2, cond_false, if_neg h2]
  by_cases h3 : b = 97
  · rw [decide_eq_true h3, cond_true, if_pos h3]
  rw [decide_eq_false h3, cond_false, if_neg h3]
  by_cases h4 : b = 109
  · rw [decide_eq_true h4, cond_true, if_pos h4]
  rw [decide_eq_false h4, cond_false, if_neg h4]
  by_cases h5 : b = 98
  · rw [decide_eq_true h5, cond_true, if_pos h5]
  rw [decide_eq_false h5, cond_false, if_neg h5]
  by_cases h6 : b = 120
  · rw [decide_eq_true h6, cond_true, if_pos h6]
  rw [decide_eq_false h6, cond_false, if_neg h6]
/-- Numbers behind a word. -/
def tailW (ns : List Int) : List UInt8 := (ns.map fun n => 32 :: dig n).flatten
theorem lineC_tail (f : Form) (c : Cm) : lineC f c = f.1 ++ tailW (f.2.2.map (getC c)) := by
  unfold lineC tailW
  rw [List.map_map]
  rfl
theorem tailW_len {ns : List Int} (h : ∀ n ∈ ns, inI n = true) : (tailW ns).length ≤ 21 * ns.length := by
  induction ns with
  | nil => simp [tailW]
  | cons n ns ih =>
    have h1 := dig_length (h n (by simp))
    have h2 := ih fun m hm => h m (by simp [hm])
    simp only [tailW, List.map_cons, List.flatten_cons, List.length_append, List.length_cons] at h2 ⊢
    omega
theorem print_letters {R : Type} {to : List UInt8} (ha : ∀ b ∈ to, b.toNat < 128) {c : Cm} (hc : inC c = true) (x1 x2 : Int) (es : List (List PV))
    (k0 : ByteArray → Int → Int → Int → Int → Int → Int → Int → Int → Int → Int → List (List PV) → Option R) : ∀ (rest pre : List UInt8) (out : List UInt8) (n : Nat), to = pre ++ rest → rest.length < n → out.length + 21 * rest.length ≤ 100000 →
    cPrint_l6 n (text out) x1 x2 c.1 c.2.1 c.2.2.1 c.2.2.2.1 c.2.2.2.2.1 c.2.2.2.2.2.1 c.2.2.2.2.2.2.1 c.2.2.2.2.2.2.2 es (text to) pre.length k0 =
      k0 (text (out ++ tailW (rest.map (getC c)))) x1 x2 c.1 c.2.1 c.2.2.1 c.2.2.2.1 c.2.2.2.2.1 c.2.2.2.2.2.1 c.2.2.2.2.2.2.1 c.2.2.2.2.2.2.2 es
  | [], pre, out, n, e, hn, ho => by
    obtain ⟨m, rfl⟩ : ∃ m, n = m + 1 := ⟨n - 1, by omega⟩
    simp only [List.append_nil] at e
    subst e
    unfold cPrint_l6
    rw [if_neg (by rw [text_size]; omega)]
    simp [tailW]
  | b :: rest, pre, out, n, e, hn, ho => by
    obtain ⟨m, rfl⟩ : ∃ m, n = m + 1 := ⟨n - 1, by omega⟩
    have hlen : to.length = pre.length + (rest.length + 1) := by rw [e]; simp
    have hb : b.toNat < 128 := ha b (by rw [e]; simp)
    have hd := decode_text e hb
    have h32 : ByteArray.mk #[32] = text [32] := rfl
    simp only [List.length_cons] at ho hn
    unfold cPrint_l6
    rw [if_pos (by rw [text_size]; omega), h32, if_pos (by rw [text_size, text_size]; simp; omega)]
    simp only [hd, text_append]
    have hg := inC_get hc b
    have hl := dig_length hg
    refine (get_cond (fun v => Option.bind (digits_d v) fun y => if (text (out ++ [32])).size + y.size ≤ 140737488355328 then cPrint_l6 m (text (out ++ [32]) ++ y) x1 x2 c.1 c.2.1 c.2.2.1 c.2.2.2.1 c.2.2.2.2.1 c.2.2.2.2.2.1 c.2.2.2.2.2.2.1 c.2.2.2.2.2.2.2 es (text to) (pre.length + 1) k0 else none) b c).trans ?_
    simp only [digits_ok hg, Option.bind_some]
    rw [if_pos (by rw [text_size, text_size]; simp; omega), text_append]
    have ih := print_letters ha hc x1 x2 es k0 rest (pre ++ [b]) (out ++ [32] ++ dig (getC c b)) m (by rw [e]; simp) (by omega) (by simp; omega)
    rw [show (pre ++ [b]).length = pre.length + 1 by simp] at ih
    refine ih.trans ?_
    congr 2
    simp [tailW]
theorem sCParse_text {l : List UInt8} (h : l.length ≤ lim) : sCParse (text l) = some (match parseC l with | some c => cmE c 0 | none => cmE zeroC 2) := by
  unfold sCParse
  rw [text_size, if_pos h, text_data]
  rfl
theorem print_rounds15 {R : Type} {c : Cm} (hc : inC c = true) {L : List Form} (hL : ∀ f ∈ L, okF f ∧ f.1.length ≤ 100) (hl : L.length ≤ 100)
    (k0 : Unit → Option R) (k1 : ByteArray → Int → Option R) : ∀ (rest pre : List Form) (n : Nat), L = pre ++ rest → rest.length + 101 < n →
    cPrint_l2 n (L.length : Int) (pre.length : Int) c.1 c.2.1 c.2.2.1 c.2.2.2.1 c.2.2.2.2.1 c.2.2.2.2.2.1 c.2.2.2.2.2.2.1 c.2.2.2.2.2.2.2 (fRow L) k0 k1 =
      match rest.findSome? fun f => if backC f c = true then some (lineC f c) else none with
      | some l => k1 (text l) 0
      | none => k0 ()
  | [], pre, n, e, hn => by
    obtain ⟨m, rfl⟩ : ∃ m, n = m + 1 := ⟨n - 1, by omega⟩
    simp only [List.append_nil] at e
    subst e
    unfold cPrint_l2
    rw [decide_eq_false (by omega), cond_false]
    rfl
  | f :: rest, pre, n, e, hn => by
    obtain ⟨m, rfl⟩ : ∃ m, n = m + 1 := ⟨n - 1, by omega⟩
    have hlen : L.length = pre.length + (rest.length + 1) := by rw [e]; simp
    obtain ⟨⟨f1, f2, f3⟩, f4⟩ := hL f (by rw [e]; simp)
    have hrl : (fRow L).length = L.length := by simp [fRow]
    have hget : (fRow L)[Int.toNat (pre.length : Int)]? = some [PV.str (text f.1), .int .i64 f.2.1, .str (text f.2.2)] := by
      rw [Int.toNat_natCast, e, fRow, List.map_append, List.map_cons, List.getElem?_append_right (by simp)]
      simp
    unfold cPrint_l2
    rw [decide_eq_true (by omega), cond_true, hrl, if_pos (by omega), hget, Option.bind_some]
    have hsub : subAgg [PV.str (text f.1), .int .i64 f.2.1, .str (text f.2.2)] 0 3 = some (.agg [PV.str (text f.1), .int .i64 f.2.1, .str (text f.2.2)]) := rfl
    rw [hsub, Option.bind_some, if_pos (show PV.isAgg (.agg [PV.str (text f.1), .int .i64 f.2.1, .str (text f.2.2)]) 3 = true from rfl)]
    have c0 : (PV.cells (.agg [PV.str (text f.1), .int .i64 f.2.1, .str (text f.2.2)]))[0]? = some (PV.str (text f.1)) := rfl
    have c2 : (PV.cells (.agg [PV.str (text f.1), .int .i64 f.2.1, .str (text f.2.2)]))[2]? = some (PV.str (text f.2.2)) := rfl
    rw [c0, Option.bind_some]
    simp only [PV.asS, Option.bind_some, c2]
    simp only [List.length_cons] at hn
    refine (print_letters (R := R) (to := f.2.2) f3 hc (L.length : Int) (pre.length : Int) (fRow L) _ f.2.2 [] f.1 m rfl (by omega) (by omega)).trans ?_
    rw [← lineC_tail]
    have hll : (lineC f c).length ≤ lim := by
      have := tailW_len (ns := f.2.2.map (getC c)) (fun n hn => by obtain ⟨b, _, rfl⟩ := List.mem_map.1 hn; exact inC_get hc b)
      rw [lineC_tail, List.length_append]
      rw [List.length_map] at this
      unfold lim
      omega
    simp only [sCParse_text hll, Option.bind_some]
    rw [List.findSome?_cons]
    have ih := print_rounds15 hc hL hl k0 k1 rest (pre ++ [f]) m (by rw [e]; simp) (by omega)
    rw [show ((pre ++ [f]).length : Int) = (pre.length : Int) + 1 by simp] at ih
    rw [wrapN (n := (pre.length : Int) + 1) (by omega) (by omega)]
    cases hp : parseC (lineC f c) with
    | none =>
      have hb : backC f c = false := by unfold backC; rw [hp]
      rw [hb]
      simp only [cmE, zeroC]
      rw [show ((2 : Int) == 0) = false from rfl, cond_false, ih]
      rfl
    | some d =>
      have hb : backC f c = eqC d c := by unfold backC; rw [hp]
      rw [hb]
      have ee : ((d.1 == c.1) && ((d.2.1 == c.2.1) && ((d.2.2.1 == c.2.2.1) && ((d.2.2.2.1 == c.2.2.2.1) && ((d.2.2.2.2.1 == c.2.2.2.2.1) && ((d.2.2.2.2.2.1 == c.2.2.2.2.2.1) && ((d.2.2.2.2.2.2.1 == c.2.2.2.2.2.2.1) && ((d.2.2.2.2.2.2.2 == c.2.2.2.2.2.2.2) && true)))))))) = eqC d c := rfl
      simp only [cmE]
      rw [show ((0 : Int) == 0) = true from rfl, cond_true, ee]
      cases eqC d c with
      | true => rw [cond_true]; rfl
      | false => rw [cond_false, ih]; rfl
theorem formsL_short : ∀ f ∈ formsL, okF f ∧ f.1.length ≤ 100 := fun f hf => ⟨formsL_ok f hf, (by decide : ∀ f ∈ formsL, f.1.length ≤ 100) f hf⟩
theorem cPrint_ok : ∀ (c1 c2 c3 c4 c5 c6 c7 c8 : Int) (y : ByteArray × Int), sCPrint c1 c2 c3 c4 c5 c6 c7 c8 = some y → ∃ n, ∀ (R : Type) (k : ByteArray → Int → Option R), cPrint_b n c1 c2 c3 c4 c5 c6 c7 c8 k = k y.1 y.2 := by
  intro c1 c2 c3 c4 c5 c6 c7 c8 y h
  unfold sCPrint at h
  split at h
  case isFalse => cases h
  rename_i hc
  cases h
  refine ⟨120, fun R k => ?_⟩
  unfold cPrint_b
  rw [cForms_ok, Option.bind_some]
  have := print_rounds15 (R := R) hc formsL_short (by decide) (fun _ => k (ByteArray.mk #[]) 1) k formsL [] 120 rfl (by decide)
  refine this.trans ?_
  unfold printC
  cases (formsL.findSome? fun f => if backC f (c1, c2, c3, c4, c5, c6, c7, c8) = true then some (lineC f (c1, c2, c3, c4, c5, c6, c7, c8)) else none) <;> rfl
theorem sCPrint_of {c : Cm} (h : inC c = true) : sCPrint c.1 c.2.1 c.2.2.1 c.2.2.2.1 c.2.2.2.2.1 c.2.2.2.2.2.1 c.2.2.2.2.2.2.1 c.2.2.2.2.2.2.2 = some (match printC c with | some l => (text l, 0) | none => (text [], 1)) := if_pos h
theorem wakes15_ok : wakes15_d = some true := by
  unfold wakes15_d wakes15_b
  have e : sCParse (ByteArray.mk #[100, 101, 108, 32, 51]) = some (cmE (2, 3, 0, 0, -1, 0, 0, -1) 0) := (sCParse_text (l := [100, 101, 108, 32, 51]) (by decide)).trans (by kernel_rfl)
  rw [e]
  rfl
/-! Lines as words. -/
theorem dig_word {n : Int} (h : inI n = true) : dig n ≠ [] ∧ ∀ b ∈ dig n, b ≠ 32 := by
  have hl := dig_length h
  refine ⟨fun e => by rw [e] at hl; simp at hl, fun b hb e => ?_⟩
  subst e
  rcases dig_chars h 32 hb with h' | h'
  · revert h'; decide
  · revert h'; decide
theorem words_line : ∀ {w : List UInt8} {ns : List Int}, w ≠ [] → (∀ b ∈ w, b ≠ 32) → (∀ n ∈ ns, inI n = true) → words (w ++ tailW ns) = w :: ns.map dig
  | w, [], h0, h1, _ => by
    simp only [tailW, List.map_nil, List.flatten_nil, List.append_nil]
    exact words_one h0 h1
  | w, n :: ns, h0, h1, h => by
    obtain ⟨d0, d1⟩ := dig_word (h n (by simp))
    have ih := words_line (ns := ns) d0 d1 fun m hm => h m (by simp [hm])
    have e : w ++ tailW (n :: ns) = w ++ 32 :: (dig n ++ tailW ns) := by simp [tailW]
    rw [e, words_join, words_one h0 h1, ih]
    rfl
theorem formsL_words : ∀ f ∈ formsL, f.1 ≠ [] ∧ ∀ b ∈ f.1, b ≠ 32 := by decide
theorem formsL_one : ∀ f ∈ formsL, ∀ g ∈ formsL, f.1 = g.1 → f.2.2.length = g.2.2.length → f = g := by decide
theorem formsL_x : ∀ f ∈ formsL, ∀ g ∈ formsL, f.1 ≠ 120 :: g.1 := by decide
theorem words_lineC {f : Form} (hf : f ∈ formsL) {c : Cm} (hc : inC c = true) : words (lineC f c) = f.1 :: (f.2.2.map (getC c)).map dig := by
  rw [lineC_tail, words_line (formsL_words f hf).1 (formsL_words f hf).2]
  intro n hn
  obtain ⟨b, _, rfl⟩ := List.mem_map.1 hn
  exact inC_get hc b
theorem fillC_bad : ∀ {to : List UInt8} {ws : List (List UInt8)} {x : List UInt8} (c : Cm), to.length = ws.length → x ∈ ws → numW x = none → fillC to ws c = none
  | [], [], x, c, _, hx, _ => by cases hx
  | [], w :: ws, x, c, hl, hx, _ => by simp at hl
  | b :: to, [], x, c, hl, hx, _ => by cases hx
  | b :: to, w :: ws, x, c, hl, hx, hn => by
    rw [fillC]
    rcases List.mem_cons.1 hx with rfl | hx
    · rw [hn]; rfl
    · cases numW w with
      | none => rfl
      | some v =>
        rw [Option.bind_some]
        exact fillC_bad _ (by simpa using hl) hx hn
theorem readC_bad {f : Form} {w : List UInt8} {ws : List (List UInt8)} {x : List UInt8} (hx : x ∈ ws) (hn : numW x = none) : readC f (w :: ws) = none := by
  unfold readC
  split
  · rename_i h
    rw [List.tail_cons, fillC_bad _ (by have := h.2; simp at this; omega) hx hn]
    rfl
  · rfl
theorem parseW_none {W : List (List UInt8)} (h : ∀ f ∈ formsL, readC f W = none) : parseW W = none := List.findSome?_eq_none_iff.2 h
theorem numW_x : numW [120] = none := by decide
/-- What a printed line is: a form's. -/
theorem printC_form {c : Cm} {l : List UInt8} (h : printC c = some l) : ∃ f ∈ formsL, l = lineC f c ∧ parseC l = some c := by
  obtain ⟨f, hf, h1⟩ := List.exists_of_findSome?_eq_some h
  split at h1
  · rename_i hb
    cases h1
    refine ⟨f, hf, rfl, ?_⟩
    unfold backC at hb
    split at hb
    · rename_i d hd
      rw [hd, (eqC_iff _ _).1 hb]
    · cases hb
  · cases h1
theorem parse_more {c : Cm} (hc : inC c = true) {l : List UInt8} (h : printC c = some l) : parseC (l ++ [32, 120]) = none ∧ parseC (120 :: l) = none := by
  obtain ⟨f, hf, rfl, _⟩ := printC_form h
  have hw := words_lineC hf hc
  constructor
  · unfold parseC
    have e : words (lineC f c ++ [32, 120]) = words (lineC f c) ++ words [120] := words_join _ [120]
    rw [e, hw, words_one (w := [120]) (by simp) (by decide)]
    exact parseW_none fun g _ => readC_bad (x := [120]) (by simp) numW_x
  · unfold parseC
    have e : 120 :: lineC f c = (120 :: f.1) ++ tailW (f.2.2.map (getC c)) := by rw [lineC_tail]; rfl
    rw [e, words_line (by simp) (by
      intro b hb
      rcases List.mem_cons.1 hb with rfl | hb
      · decide
      · exact (formsL_words f hf).2 b hb) (by
      intro n hn
      obtain ⟨b, _, rfl⟩ := List.mem_map.1 hn
      exact inC_get hc b)]
    refine parseW_none fun g hg => ?_
    unfold readC
    rw [if_neg]
    intro h1
    rw [List.head?_cons, Option.some.injEq] at h1
    exact formsL_x g hg f hf h1.1.symm
/-- Each blank many times. -/
def blow (b : Nat) (t : List UInt8) : List UInt8 := t.flatMap fun c => if c = 32 then 32 :: List.replicate b 32 else [c]
theorem words_blanks (b : Nat) (l : List UInt8) : words (List.replicate b 32 ++ l) = words l := by
  induction b with
  | zero => rfl
  | succ b ih => rw [List.replicate_succ, List.cons_append, words_blank, ih]
theorem words_blow (b : Nat) : ∀ (t pre : List UInt8), words (pre ++ blow b t) = words (pre ++ t)
  | [], pre => rfl
  | c :: t, pre => by
    by_cases h : c = 32
    · subst h
      have e : blow b (32 :: t) = 32 :: (List.replicate b 32 ++ blow b t) := by simp [blow]
      rw [e, words_join, words_join, words_blanks, show blow b t = [] ++ blow b t from rfl, words_blow b t []]
      rfl
    · have e : blow b (c :: t) = c :: blow b t := by simp [blow, h]
      rw [e, show pre ++ c :: blow b t = (pre ++ [c]) ++ blow b t by simp, words_blow b t (pre ++ [c])]
      simp
theorem parse_blow (b : Nat) (t : List UInt8) : parseC ([32, 32] ++ blow b t ++ [32]) = parseC t := by
  unfold parseC
  rw [words_join, show [32, 32] ++ blow b t = 32 :: 32 :: blow b t from rfl, words_blank, words_blank, show blow b t = [] ++ blow b t from rfl, words_blow]
  simp [words, splitOn]
theorem blow_len (b : Nat) (t : List UInt8) : (blow b t).length ≤ (b + 1) * t.length := by
  induction t with
  | nil => simp [blow]
  | cons c t ih =>
    by_cases h : c = 32
    · have e : blow b (c :: t) = 32 :: (List.replicate b 32 ++ blow b t) := by simp [blow, h]
      rw [e, List.length_cons, List.length_append, List.length_replicate, List.length_cons, Nat.mul_add]
      omega
    · have e : blow b (c :: t) = c :: blow b t := by simp [blow, h]
      rw [e, List.length_cons, List.length_cons, Nat.mul_add]
      omega
end Go.Proofs.YtkeklbicmfhemaaDoorV
