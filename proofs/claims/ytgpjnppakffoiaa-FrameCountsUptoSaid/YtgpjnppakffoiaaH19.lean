/- Frames: what their functions are claimed to come to holds of the program. -/
import Derived.Test.YtgpjnppakffoiaaO19
import Derived.Test.YtgpjnppakffoiaaH01
namespace Go.Proofs.YtgpjnppakffoiaaV
open Go

theorem frNew_all : Holds Try.prog G0 17 frNew_C := frNew_holds trivial
theorem frLeft_all : Holds Try.prog G0 19 frLeft_C := frLeft_holds trivial
theorem frLine_all : Holds Try.prog G0 33 frLine_C := frLine_holds trivial
theorem frFeed_all : Holds Try.prog G0 18 frFeed_C := frFeed_holds ⟨frLine_all, trivial⟩ feed_ok feed_no
theorem copyB_all : Holds Try.prog G0 34 copyB_C := copyB_holds trivial
theorem cutB_all : Holds Try.prog G0 21 cutB_C := cutB_holds ⟨copyB_all, trivial⟩
theorem sameL_all : Holds Try.prog G0 23 sameL_C := sameL_holds trivial same_ok
theorem wakes19_all : Holds Try.prog G0 20 wakes19_C := wakes19_holds ⟨frNew_all, frFeed_all, sameL_all, frLeft_all, trivial⟩
theorem linesOf_all : Holds Try.prog G0 24 linesOf_C := linesOf_holds trivial lines_ok lines_no
theorem bytesL_all : Holds Try.prog G0 22 bytesL_C := bytesL_holds ⟨within_all, trivial⟩ bytesL_ok bytesL_no

theorem frameOrder_all : Holds Try.prog G0 4 frameOrder_C := frameOrder_holds (by simp only [frameOrder_Γ, HoldsAll]; exact ⟨frNew_all, within_all, frFeed_all, frLeft_all, wakes19_all, trivial⟩) frameOrder_ok
theorem frameBytes_all : Holds Try.prog G0 5 frameBytes_C := frameBytes_holds (by simp only [frameBytes_Γ, HoldsAll]; simp only [bytesL_all, cutB_all, frNew_all, frFeed_all, sameL_all, frLeft_all, wakes19_all, and_self]) frameBytes_ok
theorem frameTells_all : Holds Try.prog G0 6 frameTells_C := frameTells_holds (by simp only [frameTells_Γ, HoldsAll]; simp only [bytesL_all, within_all, linesOf_all, frNew_all, frFeed_all, sameL_all, frLeft_all, wakes19_all, and_self]) frameTells_ok
theorem frameLong_all : Holds Try.prog G0 7 frameLong_C := frameLong_holds (by simp only [frameLong_Γ, HoldsAll]; simp only [within_all, frNew_all, frFeed_all, sameL_all, frLeft_all, wakes19_all, and_self]) frameLong_ok
theorem frameCounts_all : Holds Try.prog G0 8 frameCounts_C := frameCounts_holds (by simp only [frameCounts_Γ, HoldsAll]; simp only [bytesL_all, cutB_all, frNew_all, frFeed_all, frLeft_all, wakes19_all, and_self]) frameCounts_ok

theorem frameOrder_arg {l : List ByteArray} {n : Int} (_ : ∀ s ∈ l, s.size ≤ maxLen) (h1 : l.length ≤ maxLen) (h2 : (Lit.int .i64 n).wf = true) : frameOrder_C.F [PV.fs (l.map fun s => [PV.str s]), PV.int .i64 n] = some (.bool true, []) := by
  have e : sFrameOrder (l.map fun s => [PV.str s]) n = some true := by
    unfold sFrameOrder
    rw [show unS (l.map fun s => [PV.str s]) = some l from unS_row l, Option.bind_some, if_pos ⟨h1, inI_arg h2⟩]
  show Option.bind (sFrameOrder (l.map fun s => [PV.str s]) n) _ = _
  rw [e]
  rfl
theorem frameBytes_arg {l r : List Int} (h1 : ∀ n ∈ l, (Lit.int .i64 n).wf = true) (_ : l.length ≤ maxLen) (_ : l.length ≤ 1048576) (h2 : ∀ n ∈ r, (Lit.int .u8 n).wf = true) (_ : r.length ≤ maxLen) (h3 : r.length ≤ 1048576) : frameBytes_C.F [PV.fs (l.map fun n => [PV.int .i64 n]), PV.fs (r.map fun n => [PV.int .u8 n])] = some (.bool true, []) := by
  have e : sFrameBytes (l.map fun n => [PV.int .i64 n]) (r.map fun n => [PV.int .u8 n]) = some true := by
    unfold sFrameBytes
    rw [unI_arg h1, Option.bind_some, unB_arg h2, Option.bind_some, if_pos (by simpa using h3)]
  show Option.bind (sFrameBytes _ _) _ = _
  rw [e]
  rfl
theorem frameCounts_arg {l r : List Int} (h1 : ∀ n ∈ l, (Lit.int .i64 n).wf = true) (_ : l.length ≤ maxLen) (_ : l.length ≤ 1048576) (h2 : ∀ n ∈ r, (Lit.int .u8 n).wf = true) (_ : r.length ≤ maxLen) (h3 : r.length ≤ 1048576) : frameCounts_C.F [PV.fs (l.map fun n => [PV.int .i64 n]), PV.fs (r.map fun n => [PV.int .u8 n])] = some (.bool true, []) := by
  have e : sFrameCounts (l.map fun n => [PV.int .i64 n]) (r.map fun n => [PV.int .u8 n]) = some true := by
    unfold sFrameCounts
    rw [unI_arg h1, Option.bind_some, unB_arg h2, Option.bind_some, if_pos (by simpa using h3)]
  show Option.bind (sFrameCounts _ _) _ = _
  rw [e]
  rfl
theorem frameTells_arg {l r c : List Int} (h1 : ∀ n ∈ l, (Lit.int .i64 n).wf = true) (_ : l.length ≤ maxLen) (_ : l.length ≤ 1048576) (h2 : ∀ n ∈ r, (Lit.int .u8 n).wf = true) (_ : r.length ≤ maxLen) (h3 : r.length ≤ 1048576) (h4 : ∀ n ∈ c, (Lit.int .i64 n).wf = true) (h5 : c.length ≤ maxLen) (_ : c.length ≤ 1048576) :
    frameTells_C.F [PV.fs (l.map fun n => [PV.int .i64 n]), PV.fs (r.map fun n => [PV.int .u8 n]), PV.fs (c.map fun n => [PV.int .i64 n])] = some (.bool true, []) := by
  have e : sFrameTells (l.map fun n => [PV.int .i64 n]) (r.map fun n => [PV.int .u8 n]) (c.map fun n => [PV.int .i64 n]) = some true := by
    unfold sFrameTells
    rw [unI_arg h1, Option.bind_some, unB_arg h2, Option.bind_some, unI_arg h4, Option.bind_some, if_pos ⟨by simpa using h3, h5⟩]
  show Option.bind (sFrameTells _ _ _) _ = _
  rw [e]
  rfl
theorem frameLong_arg {n c k : Int} (h1 : (Lit.int .i64 n).wf = true) (h2 : (Lit.int .u8 c).wf = true) (h3 : (Lit.int .i64 k).wf = true) : frameLong_C.F [PV.int .i64 n, PV.int .u8 c, PV.int .i64 k] = some (.bool true, []) := by
  have e : sFrameLong n c k = some true := by
    unfold sFrameLong
    rw [if_pos ⟨inI_arg h1, wf_u8 h2, inI_arg h3⟩]
  show Option.bind (sFrameLong _ _ _) _ = _
  rw [e]
  rfl
end Go.Proofs.YtgpjnppakffoiaaV
