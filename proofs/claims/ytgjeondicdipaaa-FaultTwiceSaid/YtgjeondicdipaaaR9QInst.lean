/- Instructions. No conditions. -/
import Derived.Test.YtgjeondicdipaaaCode
import Derived.Test.YtgjeondicdipaaaS6
set_option linter.unusedVariables false
set_option linter.unusedSimpArgs false
namespace Go.Cd
open Go Go.Fw
structure Inst where
  op : Int
  a : Int
  b : Int
  n : Int
def Inst.d (i : Inst) : D := .agg [.int .i64 i.op, .int .i64 i.a, .int .i64 i.b, .int .i64 i.n]
end Go.Cd
