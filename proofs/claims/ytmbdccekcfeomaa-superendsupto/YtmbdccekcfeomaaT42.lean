/- One search, run by the kernel. -/
import Derived.Test.YtmbdccekcfeomaaT17
open Go
namespace Go.Proofs.Ytmbdccekcfeomaa.Am
set_option maxRecDepth 100000

def leafAV : AV := .agg [.int .i64 1, .nilSlice]
def apartAV : AV := .agg [.slice 1 [.int .i64 0], .slice 1 [.slice 5 [.agg [.bool true, .int .i64 1, .nilSlice, .int .i64 1, .nilSlice]]]]
def isTwo : AV → Bool
  | .tup [.int .i64 v, .slice _ (_ :: _), .agg [.int .i64 0, .int .i64 0]] => v == 2
  | _ => false
def apartRun (n : Nat) : Bool := match callN tab n 0 5 [apartAV, .int .i64 100] (fun _ => none) 12 with
  | some (r, _, _) => isTwo r
  | none => false
theorem apart_run : apartRun 12 = true := by decide +kernel
end Go.Proofs.Ytmbdccekcfeomaa.Am
