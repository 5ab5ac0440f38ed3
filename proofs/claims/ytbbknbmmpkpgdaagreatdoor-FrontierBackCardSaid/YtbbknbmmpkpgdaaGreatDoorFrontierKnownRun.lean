/- FrontierKnown's call, worked out by the kernel: whatever types the three tables' blocks bear, the evaluator answers true. -/
import Derived.Test.YtbbknbmmpkpgdaaGreatDoorClose
namespace Go.Proofs.YtbbknbmmpkpgdaaGreatDoor.frontierKnown
open KAb
theorem runsTrue (e0 e1 e2 : TypeId) : isTrue ((aCall Tryz.prog masks 100000 1000).call 3 [] (KAb.start (cells .u8 d32) (cells .u8 d64) (cells .u64 p10) e0 e1 e2)) = true := by kernel_rfl
end Go.Proofs.YtbbknbmmpkpgdaaGreatDoor.frontierKnown
