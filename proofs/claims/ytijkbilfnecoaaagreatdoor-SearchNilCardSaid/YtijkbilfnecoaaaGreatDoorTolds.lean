/- The calls of 'told' that are known. -/
import Derived.Test.YtijkbilfnecoaaaGreatDoorTold1
import Derived.Test.YtijkbilfnecoaaaGreatDoorTold2
import Derived.Test.YtijkbilfnecoaaaGreatDoorTold3
import Derived.Test.YtijkbilfnecoaaaGreatDoorTold4
import Derived.Test.YtijkbilfnecoaaaGreatDoorTold5
import Derived.Test.YtijkbilfnecoaaaGreatDoorTold6
namespace Go.Proofs.YtijkbilfnecoaaaGreatDoor.KAb
def tolds : List Sum := [told1, told2, told3, told4, told5, told6]
theorem tolds_of : ∀ x ∈ tolds, SumOf Tryz.prog masks 100000 1000 18 (cells .u8 d32) (cells .u8 d64) (cells .u64 p10) x := by
  intro x hx
  simp only [tolds, List.mem_cons, List.not_mem_nil, or_false] at hx
  rcases hx with rfl | rfl | rfl | rfl | rfl | rfl
  · exact told1_of
  · exact told2_of
  · exact told3_of
  · exact told4_of
  · exact told5_of
  · exact told6_of
end Go.Proofs.YtijkbilfnecoaaaGreatDoor.KAb
