/-
  THE CONTRACT of packthreadkeep.Picked. Conditions: the second number above 0.
-/
import Derived.Test.YtmceappjldcbmaaDoorBase
namespace Go.Proofs.YtmceappjldcbmaaDoor
open Go.RowKit
set_option linter.unusedVariables false


end Go.Proofs.YtmceappjldcbmaaDoor
