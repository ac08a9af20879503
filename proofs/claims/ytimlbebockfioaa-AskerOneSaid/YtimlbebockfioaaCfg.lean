/- The settings, in plain words and as cells. No program in sight. -/
import Derived.Test.YtimlbebockfioaaKit
namespace Go.Proofs.Ytimlbebockfioaa
open Go.RowKit

/-- What a puller is set to. -/
structure Cfg where
  e : Int
  w : Int
  m : Int
  l : Int
  b : Int
  room : Int
  begin_ : Int
structure Cfg.Ok (c : Cfg) : Prop where
  w1 : 1 ≤ c.w
  wl : c.w ≤ c.l
  w64 : c.w ≤ 64
  l2 : c.l ≤ 4096
  m1 : 2 * (c.w + c.l) < c.m
  m2 : c.m ≤ 65536
  r1 : 1 ≤ c.room
  r2 : c.room ≤ 16
def cfgVals (c : Cfg) : List Value := [.int .i64 c.e, .int .i64 c.w, .int .i64 c.m, .int .i64 c.l, .int .i64 c.b, .int .i64 c.room, .int .u64 c.begin_]
end Go.Proofs.Ytimlbebockfioaa
