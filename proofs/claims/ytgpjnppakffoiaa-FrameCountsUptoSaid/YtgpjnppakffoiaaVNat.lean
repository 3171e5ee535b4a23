/- The reading machine: what follows an operation follows what it comes to. -/
import Derived.Test.YtgpjnppakffoiaaVCallOk
namespace Go.Proofs.YtgpjnppakffoiaaV
open Go Go.RowKit

def unc {R : Type} (k : K R) (r : Res) : Option R := k r.1 r.2.1 r.2.2.1 r.2.2.2

theorem ret4_bind {R : Type} (k : K R) (v : TV) (up : List (Nat × Ob)) (nw : List Ob) (rd : List Nat) : (ret4 v up nw rd).bind (unc k) = k v up nw rd := rfl

section
variable {R : Type} {T : TypeId → Option TI} {look : Nat → Option Ob} {nx : Nat}

theorem coeK_nat (t : TypeId) (c : PV) (f : PV → Option Res) (k : K R) : (coeK T t c f).bind (unc k) = coeK T t c fun p => (f p).bind (unc k) := by
  unfold coeK
  (repeat' split) <;> first | rfl | (simp only [Option.bind_assoc]; done) | (simp only [Option.bind_none]; done)

theorem intK_nat (op : BinOp) (ik : IntKind) (a b : Int) (f : PV → Option Res) (k : K R) : (intK op ik a b f).bind (unc k) = intK op ik a b fun p => (f p).bind (unc k) := by
  cases op <;> simp only [intK] <;> first | rfl | (split <;> rfl)
theorem shiftK_nat (op : BinOp) (ik : IntKind) (a b : Int) (f : PV → Option Res) (k : K R) : (shiftK op ik a b f).bind (unc k) = shiftK op ik a b fun p => (f p).bind (unc k) := by
  unfold shiftK; split
  · rfl
  · cases op <;> rfl
theorem strK_nat (op : BinOp) (a b : ByteArray) (f : PV → Option Res) (k : K R) : (strK op a b f).bind (unc k) = strK op a b fun p => (f p).bind (unc k) := by
  cases op <;> simp only [strK] <;> first | rfl | (split <;> rfl)

theorem binK_nat (op : BinOp) (xt yt : TypeId) (x y : TV) (f : PV → Option Res) (k : K R) : (binK T op xt yt x y f).bind (unc k) = binK T op xt yt x y fun p => (f p).bind (unc k) := by
  unfold binK
  (repeat' split) <;> first | rfl | (simp only [Option.bind_assoc, intK_nat, shiftK_nat, strK_nat]; done) | (simp only [Option.bind_none]; done)
theorem unK_nat (op : UnOp) (xt : TypeId) (x : TV) (f : PV → Option Res) (k : K R) : (unK T op xt x f).bind (unc k) = unK T op xt x fun p => (f p).bind (unc k) := by
  unfold unK
  (repeat' split) <;> first | rfl | (simp only [Option.bind_assoc]; done) | (simp only [Option.bind_none]; done)

theorem bind_ite {α β : Type} {c : Prop} [Decidable c] (a b : Option α) (f : α → Option β) : (if c then a else b).bind f = if c then a.bind f else b.bind f := by split <;> rfl
theorem bind_cond {α β : Type} {c : Bool} (a b : Option α) (f : α → Option β) : (cond c a b).bind f = cond c (a.bind f) (b.bind f) := by cases c <;> rfl

theorem loadK_nat (t : TypeId) (x : TV) (k : K R) : loadK T look t x k = (loadK T look t x ret4).bind (unc k) := by
  unfold loadK
  (repeat' split) <;> first | rfl | (simp only [Option.bind_assoc, coeK_nat, ret4_bind]; done) | (simp only [Option.bind_none]; done)
theorem storeK_nat (t : TypeId) (x y : TV) (k : K R) : storeK T look t x y k = (storeK T look t x y ret4).bind (unc k) := by
  unfold storeK
  (repeat' split) <;> first | rfl | (simp only [Option.bind_assoc, coeK_nat, ret4_bind]; done) | (simp only [Option.bind_none]; done)
theorem indexAddrK_nat (t : TypeId) (x i : TV) (k : K R) : indexAddrK T look t x i k = (indexAddrK T look t x i ret4).bind (unc k) := by
  unfold indexAddrK
  (repeat' split) <;> first | rfl | (simp only [Option.bind_assoc, bind_ite, coeK_nat, ret4_bind, Option.bind_none]; done)
theorem indexK_nat (t : TypeId) (x i : TV) (k : K R) : indexK T t x i k = (indexK T t x i ret4).bind (unc k) := by
  unfold indexK
  (repeat' split) <;> first | rfl | (simp only [Option.bind_assoc, bind_ite, coeK_nat, ret4_bind, Option.bind_none]; done)
theorem boundK_nat (o : Option TV) (d : Int) (f : Int → Option Res) (k : K R) : (boundK o d f).bind (unc k) = boundK o d fun n => (f n).bind (unc k) := by
  unfold boundK
  (repeat' split) <;> first | rfl | (simp only [Option.bind_assoc]; done) | (simp only [Option.bind_none]; done)
theorem sliceK_nat (t : TypeId) (x : TV) (lo hi mx : Option TV) (k : K R) : sliceK T look t x lo hi mx k = (sliceK T look t x lo hi mx ret4).bind (unc k) := by
  unfold sliceK
  (repeat' split) <;> first | rfl | (simp only [Option.bind_assoc, bind_ite, boundK_nat, ret4_bind, Option.bind_none]; done)
theorem elemsK_nat (n : Nat) (x : TV) (f : List (List PV) → List Nat → Option Res) (k : K R) : (elemsK look n x f).bind (unc k) = elemsK look n x fun es rd => (f es rd).bind (unc k) := by
  unfold elemsK
  (repeat' split) <;> first | rfl | (simp only [Option.bind_assoc, bind_ite, Option.bind_none]; done)
theorem growK_nat (i : TI) (x : TV) (ms : List (List PV)) (rd : List Nat) (k : K R) : growK look nx i x ms rd k = (growK look nx i x ms rd ret4).bind (unc k) := by
  unfold growK
  (repeat' split) <;> first | rfl | (simp only [bind_cond, ret4_bind]; done)
theorem appendK_nat (t u : TypeId) (x y : TV) (k : K R) : appendK T look nx t u x y k = (appendK T look nx t u x y ret4).bind (unc k) := by
  unfold appendK
  (repeat' split) <;> first | rfl | (simp only [Option.bind_assoc, bind_ite, elemsK_nat, ← growK_nat, Option.bind_none]; done)
theorem lenK_nat (t : TypeId) (x : TV) (k : K R) : lenK T look t x k = (lenK T look t x ret4).bind (unc k) := by
  unfold lenK
  (repeat' split) <;> first | rfl | (simp only [Option.bind_assoc, ret4_bind]; done)
theorem lookupK_nat (t : TypeId) (m i : TV) (ok : Bool) (k : K R) : lookupK T look t m i ok k = (lookupK T look t m i ok ret4).bind (unc k) := by
  cases ok <;> unfold lookupK <;> (repeat' split) <;> first | rfl | (simp only [Option.bind_assoc, ret4_bind]; done)
theorem mapUpdateK_nat (t : TypeId) (m i x : TV) (k : K R) : mapUpdateK T look t m i x k = (mapUpdateK T look t m i x ret4).bind (unc k) := by
  unfold mapUpdateK
  (repeat' split) <;> first | rfl | (simp only [Option.bind_assoc, ret4_bind]; done)
theorem convertK_nat (src dst : TypeId) (x : TV) (k : K R) : convertK T look nx src dst x k = (convertK T look nx src dst x ret4).bind (unc k) := by
  unfold convertK
  (repeat' split) <;> first | rfl | (simp only [Option.bind_assoc, bind_ite, bind_cond, elemsK_nat, ret4_bind, Option.bind_none]; done)
theorem fieldAddrK_nat (t : TypeId) (x : TV) (f : Nat) (k : K R) : fieldAddrK T t x f k = (fieldAddrK T t x f ret4).bind (unc k) := by
  unfold fieldAddrK
  (repeat' split) <;> rfl
theorem fieldK_nat (t : TypeId) (x : TV) (f : Nat) (k : K R) : fieldK T t x f k = (fieldK T t x f ret4).bind (unc k) := by
  unfold fieldK
  (repeat' split) <;> first | rfl | (simp only [Option.bind_assoc, coeK_nat, ret4_bind, Option.bind_none]; done) | skip
theorem buildK_nat (t : TypeId) (parts : List (Nat × Option TV)) (k : K R) : buildK T t parts k = (buildK T t parts ret4).bind (unc k) := by
  unfold buildK
  (repeat' split) <;> rfl
theorem buildSliceK_nat (t : TypeId) (n : Nat) (parts : List (Nat × Option TV)) (k : K R) : buildSliceK T nx t n parts k = (buildSliceK T nx t n parts ret4).bind (unc k) := by
  unfold buildSliceK
  (repeat' split) <;> rfl
theorem makeSliceK_nat (t : TypeId) (l c : TV) (k : K R) : makeSliceK T nx t l c k = (makeSliceK T nx t l c ret4).bind (unc k) := by
  unfold makeSliceK
  (repeat' split) <;> first | rfl | (simp only [Option.bind_assoc, bind_ite, ret4_bind, Option.bind_none]; done)
theorem nextK_nat (x : TV) (k : K R) : nextK look x k = (nextK look x ret4).bind (unc k) := by
  unfold nextK
  (repeat' split) <;> rfl

mutual
theorem impK_nat : ∀ (sh : Shp) (p : PV) (nx : Nat) (f : TV → List Ob → Option Res) (k : K R), (impK sh p nx f).bind (unc k) = impK sh p nx fun tv obs => (f tv obs).bind (unc k)
  | .d, p, nx, f, k => rfl
  | .s, p, nx, f, k => by simp only [impK, Option.bind_assoc]
  | .o shs, p, nx, f, k => by simp only [impK, Option.bind_assoc, impLK_nat]
  | .a shs, p, nx, f, k => by simp only [impK, Option.bind_assoc, impLK_nat]
  | .t shs, p, nx, f, k => by simp only [impK, Option.bind_assoc, impLK_nat]
theorem impLK_nat : ∀ (shs : List Shp) (ps : List PV) (nx : Nat) (f : List TV → List Ob → Option Res) (k : K R), (impLK shs ps nx f).bind (unc k) = impLK shs ps nx fun tvs obs => (f tvs obs).bind (unc k)
  | [], ps, nx, f, k => by simp only [impLK, bind_ite, Option.bind_none]
  | sh :: shs, ps, nx, f, k => by simp only [impLK, Option.bind_assoc, impK_nat, impLK_nat]
end

theorem outsK_nat : ∀ (lins : List (TV × Shp × Bool × List Nat)) (outs : List PV) (nx : Nat) (f : List (Nat × Ob) → List Ob → Option Res) (k : K R), (outsK look lins outs nx f).bind (unc k) = outsK look lins outs nx fun up nw => (f up nw).bind (unc k)
  | [], outs, nx, f, k => rfl
  | (v, sh, false, ids) :: ls, outs, nx, f, k => by simp only [outsK, outsK_nat]
  | (v, sh, true, ids) :: ls, outs, nx, f, k => by
    simp only [outsK, Option.bind_assoc]
    congr 1
    funext p
    split
    · simp only [Option.bind_assoc, impLK_nat, outsK_nat]
    · split
      · simp only [Option.bind_assoc, bind_ite, outsK_nat, Option.bind_none]
      · rfl
    · rfl

theorem resK_nat (ty : TypeId) (k : K R) : (fun tv up nw rd => (resK T ty ret4 tv up nw rd).bind (unc k)) = resK T ty k := by
  funext tv up nw rd
  unfold resK
  split
  · simp only [coeK_nat, ret4_bind]
  · rfl

theorem callK_nat {Γ : FuncId → Option Ctr} (g : FuncId) (args : List TV) (f : K Res) (k : K R) : (callK Γ look nx g args f).bind (unc k) = callK Γ look nx g args fun tv up nw rd => (f tv up nw rd).bind (unc k) := by
  unfold callK
  (repeat' split) <;> first | rfl | (simp only [Option.bind_assoc, outsK_nat, impK_nat]; done)

theorem opK_nat {Γ : FuncId → Option Ctr} {ev : Operand → Option TV} (o : Op) (ty : TypeId) (k : K R) : opK T Γ look nx ev o ty k = (opK T Γ look nx ev o ty ret4).bind (unc k) := by
  unfold opK
  (repeat' split)
  all_goals try rfl
  all_goals try (simp only [Option.bind_assoc, bind_cond, bind_ite, binK_nat, unK_nat, coeK_nat, ret4_bind, callK_nat, resK_nat, Option.bind_none]; done)
  all_goals try exact loadK_nat ..
  all_goals try exact storeK_nat ..
  all_goals try exact indexAddrK_nat ..
  all_goals try exact indexK_nat ..
  all_goals try exact sliceK_nat ..
  all_goals try exact appendK_nat ..
  all_goals try exact lenK_nat ..
  all_goals try exact lookupK_nat ..
  all_goals try exact mapUpdateK_nat ..
  all_goals try exact convertK_nat ..
  all_goals try exact fieldAddrK_nat ..
  all_goals try exact fieldK_nat ..
  all_goals try exact buildK_nat ..
  all_goals try exact buildSliceK_nat ..
  all_goals try exact makeSliceK_nat ..
  all_goals try exact nextK_nat ..
end
end Go.Proofs.YtgpjnppakffoiaaV
