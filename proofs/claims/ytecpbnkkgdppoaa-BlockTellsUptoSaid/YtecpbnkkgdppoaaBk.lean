/- A block that is handed over. -/
import Derived.Test.YtecpbnkkgdppoaaBa
namespace Go.Proofs.Ytecpbnkkgdppoaa
structure Bk where
  v : Value
  c : Bc
def bEnc (b : Bk) : Value := .agg #[.int .i64 b.c.num, .int .i64 b.c.start, .int .i64 b.c.warm, b.v]
def bCells (b : Bk) : List Value := [.int .i64 b.c.num, .int .i64 b.c.start, .int .i64 b.c.warm, b.v]
end Go.Proofs.Ytecpbnkkgdppoaa
