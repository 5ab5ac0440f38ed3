/- The call of assizelaw18's 'awake', worked out by the kernel alone: it hands true. -/
import Derived.Test.YtbbknbmmpkpgdaaGreatDoorClose
namespace Go.Proofs.YtbbknbmmpkpgdaaGreatDoor.KAb
def awake18 : Sum := ⟨24, [], [], .bool true⟩
theorem awake18_of : SumOf Tryz.prog masks 100000 1000 16 (cells .u8 d32) (cells .u8 d64) (cells .u64 p10) awake18 := ⟨by kernel_rfl, by kernel_rfl, fun e0 e1 e2 => by kernel_rfl⟩
def tolds : List Sum := [awake18]
theorem tolds_of : ∀ x ∈ tolds, SumOf Tryz.prog masks 100000 1000 16 (cells .u8 d32) (cells .u8 d64) (cells .u64 p10) x := by
  intro x hx
  simp only [tolds, List.mem_cons, List.not_mem_nil, or_false] at hx
  subst hx
  exact awake18_of
end Go.Proofs.YtbbknbmmpkpgdaaGreatDoor.KAb
