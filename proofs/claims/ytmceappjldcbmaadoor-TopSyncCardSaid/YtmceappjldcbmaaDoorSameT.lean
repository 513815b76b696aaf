/-
  CONTRACT of packthreadkeep.sameTexts where the texts are the same, by the kit.
-/
import Derived.Test.YtmceappjldcbmaaDoorKitN2
import Derived.Test.YtmceappjldcbmaaDoorTypes
namespace Go.Proofs.YtmceappjldcbmaaDoor
open Go.RowKit
attribute [local irreducible] Ex G GC GE Gq FPost LPost
set_option linter.unusedVariables false
set_option linter.unusedSimpArgs false

end Go.Proofs.YtmceappjldcbmaaDoor
