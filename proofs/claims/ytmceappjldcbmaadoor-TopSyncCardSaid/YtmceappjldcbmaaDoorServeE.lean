/-
  CONTRACTS of packthreadkeep.Requests, served, sameReply, by the kit.
-/
import Derived.Test.YtmceappjldcbmaaDoorServeD
import Derived.Test.YtmceappjldcbmaaDoorServeL
import Derived.Test.YtmceappjldcbmaaDoorReqOf
import Derived.Test.YtmceappjldcbmaaDoorSameT
import Derived.Test.YtmceappjldcbmaaDoorJob
import Derived.Test.YtmceappjldcbmaaDoorKitN2
namespace Go.Proofs.YtmceappjldcbmaaDoor
open Go.RowKit
attribute [local irreducible] Ex G GC GE Gq FPost LPost
set_option linter.unusedVariables false
set_option linter.unusedSimpArgs false
namespace serve
open tree path msg
/-- the request that a call is made of -/
def rqF (j : JbM) (i : Nat) : Rq :=
  if 1 + j.kind % 10 = 1 then (if j.b.tmod 2 = 0 then { reqF j.kind ((i : Int) + 1) j.a j.b j.d.l with how := 7 } else reqF j.kind ((i : Int) + 1) j.a j.b j.d.l)
  else if 2 ≤ 1 + j.kind % 10 ∧ 1 + j.kind % 10 ≤ 4 then { reqF j.kind ((i : Int) + 1) j.a j.b j.d.l with handle := j.a % 12 } else reqF j.kind ((i : Int) + 1) j.a j.b j.d.l
def rqsF (J : List JbM) : List Rq := (List.range J.length).map fun i => rqF (J.getD i default) i
/-- a small talk with who serves, as a row -/
def rq3 (y : Option Addr) : List Ms := [⟨openR xP 7, none, 0, 0⟩, ⟨writeR 0 0 [5], y, 1, 1⟩, ⟨setM (readR 0 0 9) 4, none, 0, 0⟩]
end serve
end Go.Proofs.YtmceappjldcbmaaDoor
