/- .. what is asked of no map here. -/
import Derived.Test.YtpaifgipdhgfkaaGreatDoorTX3
namespace Go.Proofs.YtpaifgipdhgfkaaGreatDoorV
open Go
theorem aSeenStill_ok : ∀ (p1 p2 p3 p4 p5 p6 : List (List PV)) (p7 : Int) (v8 : PV) (y : Bool), sStill p1 p2 p3 p4 p5 p6 p7 v8 = some y → ∃ n, ∀ (R : Type) (k : Bool → Option R), aSeenStill_b n p1 p2 p3 p4 p5 p6 p7 v8 k = k y := by
  intro p1 p2 p3 p4 p5 p6 p7 v8 y h
  unfold sStill at h
  split at h
  · cases h
    exact ⟨1, fun R k => rfl⟩
  · cases h
end Go.Proofs.YtpaifgipdhgfkaaGreatDoorV
