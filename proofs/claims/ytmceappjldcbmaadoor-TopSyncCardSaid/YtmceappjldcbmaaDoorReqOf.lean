/-
  CONTRACT of packthreadkeep.RequestOf, by the kit.
-/
import Derived.Test.YtmceappjldcbmaaDoorRq
import Derived.Test.YtmceappjldcbmaaDoorTreeN4
namespace Go.Proofs.YtmceappjldcbmaaDoor
open Go.RowKit
attribute [local irreducible] Ex G GC GE Gq FPost LPost
set_option linter.unusedVariables false
set_option linter.unusedSimpArgs false
namespace msg
def reqF (kind mark a b : Int) (data : List UInt8) : Rq :=
  let k := 1 + kind % 10
  let mk := mark % 4294967296
  if k = 1 then { Rq.zero with kind := k, mark := mk, path := pathF a, how := b % 32 }
  else if k = 2 then { Rq.zero with kind := k, mark := mk, handle := a % 30 }
  else if k = 3 then { Rq.zero with kind := k, mark := mk, handle := a % 30, at_ := b % 300, count := b.tdiv 300 % 102 }
  else if k = 4 then { Rq.zero with kind := k, mark := mk, handle := a % 30, at_ := b % 300, data := data.take 100 }
  else if k = 9 ∨ k = 10 then { Rq.zero with kind := k, mark := mk, path := pathF a, to_ := pathF b }
  else { Rq.zero with kind := k, mark := mk, path := pathF a }
end msg
end Go.Proofs.YtmceappjldcbmaaDoor
