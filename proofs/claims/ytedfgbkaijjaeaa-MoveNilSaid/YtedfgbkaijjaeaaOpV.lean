/- Operations as values. -/
import Derived.Test.YtedfgbkaijjaeaaBase
namespace Go.Proofs.Ytedfgbkaijjaeaa
open Go.RowKit

structure OpV where
  kind : Int
  count : Nat
  who : Int
  thing : Nat
  parent : Nat
  name : ByteArray
  dir : Bool
  digest : ByteArray
  size : Int
abbrev OpV.cells (o : OpV) : Array Value := #[.int .i64 o.kind, .int .u64 o.count, .int .i64 o.who, .int .u64 o.thing, .int .u64 o.parent, .string o.name, .bool o.dir, .string o.digest, .int .i64 o.size]
abbrev OpV.val (o : OpV) : Value := .agg o.cells
end Go.Proofs.Ytedfgbkaijjaeaa
