/- A call of assizelaw16's 'told' (its 3. one in SearchKnown), worked out by the kernel alone: it hands true. -/
import Derived.Test.YtijkbilfnecoaaaGreatDoorClose
namespace Go.Proofs.YtijkbilfnecoaaaGreatDoor.KAb
def told3 : Sum := ⟨44, [.string ⟨#[109, 117, 116, 101, 120, 32, 109, 59, 32, 109, 117, 116, 101, 120, 32, 110, 59, 32, 116, 104, 114, 101, 97, 100, 32, 97, 32, 123, 32, 108, 111, 99, 107, 32, 109, 59, 32, 108, 111, 99, 107, 32, 110, 59, 32, 125, 32, 116, 104, 114, 101, 97, 100, 32, 98, 32, 123, 32, 108, 111, 99, 107, 32, 110, 59, 32, 108, 111, 99, 107, 32, 109, 59, 32, 125]⟩, .int .i64 1000, .agg #[.int .i64 2, .int .i64 4, .int .i64 (-1), .slice (some ⟨17, 0, none⟩) 2 4], .int .i64 0, .int .i64 2], [(17, List.replicate 2 (.int .i64 0), 3)], .bool true⟩
theorem told3_of : SumOf Tryz.prog masks 100000 1000 18 (cells .u8 d32) (cells .u8 d64) (cells .u64 p10) told3 := ⟨by kernel_rfl, by kernel_rfl, fun e0 e1 e2 => by kernel_rfl⟩
end Go.Proofs.YtijkbilfnecoaaaGreatDoor.KAb
