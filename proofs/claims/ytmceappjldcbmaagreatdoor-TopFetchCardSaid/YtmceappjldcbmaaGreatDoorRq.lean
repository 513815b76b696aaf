/-
  REQUESTS, in plain Lean and in memory. No condition.
-/
import Derived.Test.YtmceappjldcbmaaGreatDoorKitN2
namespace Go.Proofs.YtmceappjldcbmaaGreatDoor
open Go.RowKit
set_option linter.unusedVariables false
set_option linter.unusedSimpArgs false
namespace msg
structure Rq where
  kind : Int
  mark : Int
  path : List UInt8
  to_ : List UInt8
  how : Int
  handle : Int
  at_ : Int
  count : Int
  data : List UInt8
def Rq.zero : Rq := ⟨0, 0, [], [], 0, 0, 0, 0, []⟩
instance : Inhabited Rq := ⟨Rq.zero⟩
/-- a message in memory: what it says, and where its data lie -/
structure Ms where
  r : Rq
  ao : Option Addr
  n : Nat
  c : Nat
def eRq (m : Ms) : List Value := [.int .i64 m.r.kind, .int .i64 m.r.mark, .string (sOf m.r.path), .string (sOf m.r.to_), .int .i64 m.r.how, .int .i64 m.r.handle, .int .i64 m.r.at_, .int .i64 m.r.count, .slice m.ao m.n m.c]
instance : Enc eRq 9 := ⟨fun _ => rfl, fun x u hu => by simp only [eRq, List.mem_cons, List.not_mem_nil, or_false] at hu; rcases hu with rfl | rfl | rfl | rfl | rfl | rfl | rfl | rfl | rfl <;> rfl⟩
end msg
end Go.Proofs.YtmceappjldcbmaaGreatDoor
