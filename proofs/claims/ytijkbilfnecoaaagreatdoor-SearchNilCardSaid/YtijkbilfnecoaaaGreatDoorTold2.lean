/- A call of assizelaw16's 'told' (its 2. one in SearchKnown), worked out by the kernel alone: it hands true. -/
import Derived.Test.YtijkbilfnecoaaaGreatDoorClose
namespace Go.Proofs.YtijkbilfnecoaaaGreatDoor.KAb
def told2 : Sum := ⟨44, [.string ⟨#[115, 104, 97, 114, 101, 100, 32, 120, 32, 105, 110, 116, 59, 32, 116, 104, 114, 101, 97, 100, 32, 97, 32, 123, 32, 120, 32, 61, 32, 49, 59, 32, 125, 32, 116, 104, 114, 101, 97, 100, 32, 98, 32, 123, 32, 120, 32, 61, 32, 50, 59, 32, 125]⟩, .int .i64 1000, .agg #[.int .i64 1, .int .i64 0, .int .i64 0, .slice none 0 0], .int .i64 2, .int .i64 8], [], .bool true⟩
theorem told2_of : SumOf Tryz.prog masks 100000 1000 18 (cells .u8 d32) (cells .u8 d64) (cells .u64 p10) told2 := ⟨by kernel_rfl, by kernel_rfl, fun e0 e1 e2 => by kernel_rfl⟩
end Go.Proofs.YtijkbilfnecoaaaGreatDoor.KAb
