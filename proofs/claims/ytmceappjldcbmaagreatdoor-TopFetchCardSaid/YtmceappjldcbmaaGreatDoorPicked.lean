/-
  THE CONTRACT of packthreadkeep.Picked. Conditions: the second number above 0.
-/
import Derived.Test.YtmceappjldcbmaaGreatDoorBase
namespace Go.Proofs.YtmceappjldcbmaaGreatDoor
open Go.RowKit
set_option linter.unusedVariables false


end Go.Proofs.YtmceappjldcbmaaGreatDoor
