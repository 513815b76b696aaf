/-
  THE CONTRACT of packthreadkeep.Picked. Conditions: the second number above 0.
-/
import Derived.Test.YtcllddkhnbnigaaBase
namespace Go.Proofs.Ytcllddkhnbnigaa
open Go.RowKit
set_option linter.unusedVariables false


end Go.Proofs.Ytcllddkhnbnigaa
