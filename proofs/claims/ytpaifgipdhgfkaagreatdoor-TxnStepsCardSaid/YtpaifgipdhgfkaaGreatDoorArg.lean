/- Arguments of laws: their rows, and how long they are where a statement bounds them. -/
import Derived.Test.YtpaifgipdhgfkaaGreatDoorPK
import Derived.Test.YtpaifgipdhgfkaaGreatDoorInt
import Derived.Test.YtpaifgipdhgfkaaGreatDoorVF
import Derived.Test.YtpaifgipdhgfkaaGreatDoorRows
namespace Go.Proofs.YtpaifgipdhgfkaaGreatDoorV
open Go Go.ChangeShapes Go.Proofs.YtpaifgipdhgfkaaGreatDoor

theorem unB_arg : ∀ {zs : List Int}, (∀ n ∈ zs, (Lit.int .u8 n).wf = true) → unB (zs.map fun n => [.int .u8 n]) = some (zs.map fun n => UInt8.ofNat n.toNat)
  | [], _ => rfl
  | n :: zs, h => by
    have ih := unB_arg (zs := zs) fun m hm => h m (by simp [hm])
    have h1 := wf_u8 (h n (by simp))
    have h2 : unB1 [.int .u8 n] = some (UInt8.ofNat n.toNat) := by
      show (if 0 ≤ n ∧ n < 256 then some (UInt8.ofNat n.toNat) else none) = _
      rw [if_pos h1]
    simp only [List.map_cons, unB, h2, ih, Option.bind_some]
theorem unI_arg {zs : List Int} (h : ∀ n ∈ zs, (Lit.int .i64 n).wf = true) : unI (zs.map fun n => [.int .i64 n]) = some zs := unI_row fun n hn => wf_i64 (h n hn)
theorem inI_arg {n : Int} (h : (Lit.int .i64 n).wf = true) : inI n = true := by
  have := wf_i64 h
  simp [inI, this]

theorem bulk_pos {H : Type} (d : DataW H) : 1 ≤ Rows.uptoBulk d := by
  cases d <;> first
    | (simp [Rows.uptoBulk]; done)
    | (rename_i l; cases l <;> simp [Rows.uptoBulk])
theorem bulk_len {H : Type} : ∀ l : List (DataW H), l.length ≤ Rows.uptoBulkAll l
  | [] => by simp [Rows.uptoBulkAll]
  | d :: l => by have h1 := bulk_pos d; have h2 := bulk_len l; simp only [Rows.uptoBulkAll, List.length_cons]; omega
theorem bulk_part {H : Type} {d : DataW H} : ∀ {l : List (DataW H)}, d ∈ l → Rows.uptoBulk d ≤ Rows.uptoBulkAll l
  | x :: l, h => by
    simp only [Rows.uptoBulkAll]
    rcases List.mem_cons.1 h with rfl | h
    · omega
    · have := bulk_part h; omega
theorem bulk_ints {H : Type} {l : List (DataW H)} {k : IntKind} {zs : List Int} {d : DataW H} (hk : Rows.uptoSmall H l = true) (hd : d ∈ l) (h : zs = [] ∨ ∃ sp, d = .slice (lits k zs) sp) : zs.length ≤ 1048576 := by
  rcases h with rfl | ⟨sp, rfl⟩
  · simp
  · simp only [Rows.uptoSmall, decide_eq_true_eq] at hk
    have h1 := bulk_part hd
    have h2 := bulk_len (lits (H := H) k zs)
    simp only [Rows.uptoBulk] at h1
    simp only [lits, List.length_map] at h2 h1
    omega
theorem bulk_strs {H : Type} {l : List (DataW H)} {ss : List ByteArray} {d : DataW H} (hk : Rows.uptoSmall H l = true) (hd : d ∈ l) (h : ss = [] ∨ ∃ sp, d = .slice (strs ss) sp) : ss.length ≤ 1048576 ∧ ∀ s ∈ ss, s.size ≤ 1048576 := by
  rcases h with rfl | ⟨sp, rfl⟩
  · simp
  · simp only [Rows.uptoSmall, decide_eq_true_eq] at hk
    have h1 := bulk_part hd
    have h2 := bulk_len (strs (H := H) ss)
    simp only [Rows.uptoBulk] at h1
    refine ⟨by simp only [strs, List.length_map] at h2 h1; omega, fun s hs => ?_⟩
    have h3 := bulk_part (d := DataW.lit (H := H) (Lit.string s.data.toList)) (l := strs ss) (by simp only [strs, List.mem_map]; exact ⟨s, hs, rfl⟩)
    have h4 : Rows.uptoBulk (DataW.lit (H := H) (Lit.string s.data.toList)) = s.data.toList.length + 1 := by simp [Rows.uptoBulk]
    have h5 : s.data.toList.length = s.size := by rw [Array.length_toList]; rfl
    omega
theorem bulk_str {H : Type} {l : List (DataW H)} {s : ByteArray} (hk : Rows.uptoSmall H l = true) (hd : DataW.lit (Lit.string s.data.toList) ∈ l) : s.size ≤ 1048576 := by
  simp only [Rows.uptoSmall, decide_eq_true_eq] at hk
  have h1 := bulk_part hd
  have h4 : Rows.uptoBulk (DataW.lit (H := H) (Lit.string s.data.toList)) = s.data.toList.length + 1 := by simp [Rows.uptoBulk]
  have h5 : s.data.toList.length = s.size := by rw [Array.length_toList]; rfl
  omega
end Go.Proofs.YtpaifgipdhgfkaaGreatDoorV
