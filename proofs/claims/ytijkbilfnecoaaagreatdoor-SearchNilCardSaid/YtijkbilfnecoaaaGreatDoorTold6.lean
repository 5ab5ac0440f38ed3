/- A call of assizelaw16's 'told' (its 6. one in SearchKnown), worked out by the kernel alone: it hands true. -/
import Derived.Test.YtijkbilfnecoaaaGreatDoorClose
namespace Go.Proofs.YtijkbilfnecoaaaGreatDoor.KAb
def told6 : Sum := ⟨44, [.string ⟨#[116, 104, 114, 101, 97, 100, 32, 97, 32, 123, 32, 125]⟩, .int .i64 1000, .agg #[.int .i64 1, .int .i64 0, .int .i64 0, .slice none 0 0], .int .i64 1, .int .i64 0], [], .bool true⟩
theorem told6_of : SumOf Tryz.prog masks 100000 1000 18 (cells .u8 d32) (cells .u8 d64) (cells .u64 p10) told6 := ⟨by kernel_rfl, by kernel_rfl, fun e0 e1 e2 => by kernel_rfl⟩
end Go.Proofs.YtijkbilfnecoaaaGreatDoor.KAb
