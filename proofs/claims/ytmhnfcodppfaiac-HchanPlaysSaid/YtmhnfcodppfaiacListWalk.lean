
/- The walk of ListWalk. -/
import Derived.Test.YtmhnfcodppfaiacListAlive
namespace Go.Proofs.Ytmhnfcodppfaiac.ListCode
open Go Go.RowKit Go.Proofs.Ytmhnfcodppfaiac.Obj Go.Proofs.Ytmhnfcodppfaiac.ListPure
set_option linter.unusedVariables false
set_option maxRecDepth 100000
def popV (L : List Int) : Int := L.headD 0
def popC (L : List Int) : Int := if L = [] then 3 else 0
end Go.Proofs.Ytmhnfcodppfaiac.ListCode
