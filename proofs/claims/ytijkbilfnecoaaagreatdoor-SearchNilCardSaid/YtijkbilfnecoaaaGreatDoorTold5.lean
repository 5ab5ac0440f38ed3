/- A call of assizelaw16's 'told' (its 5. one in SearchKnown), worked out by the kernel alone: it hands true. -/
import Derived.Test.YtijkbilfnecoaaaGreatDoorClose
namespace Go.Proofs.YtijkbilfnecoaaaGreatDoor.KAb
def told5 : Sum := ⟨44, [.string ⟨#[116, 104, 114, 101, 97, 100, 32, 97, 32, 123, 32, 119, 104, 105, 108, 101, 32, 116, 114, 117, 101, 32, 123, 32, 125, 32, 125]⟩, .int .i64 99, .agg #[.int .i64 3, .int .i64 0, .int .i64 0, .slice none 0 0], .int .i64 0, .int .i64 99], [], .bool true⟩
theorem told5_of : SumOf Tryz.prog masks 100000 1000 18 (cells .u8 d32) (cells .u8 d64) (cells .u64 p10) told5 := ⟨by kernel_rfl, by kernel_rfl, fun e0 e1 e2 => by kernel_rfl⟩
end Go.Proofs.YtijkbilfnecoaaaGreatDoor.KAb
