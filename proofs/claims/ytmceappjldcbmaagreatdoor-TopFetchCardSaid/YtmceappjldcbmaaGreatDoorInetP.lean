/-
  PLAIN LAW of inet's folds, over bytes: sums of pairs, what stands where, turned round, one changed. No program in sight.
-/
import Derived.Test.YtmceappjldcbmaaGreatDoorCom
namespace Go.Proofs.YtmceappjldcbmaaGreatDoor
open Go.RowKit
set_option linter.unusedVariables false

theorem flat_cut {α : Type} {enc : α → List Value} {s : Nat} (h : Enc enc s) (l : List α) (a b : Nat) : ((flat enc l).drop (a * s)).take ((b - a) * s) = flat enc ((l.drop a).take (b - a)) := by
  rw [flat_drop h, flat_take h]
/-- a number's last byte -/
def byteZ (v : Int) : UInt8 := UInt8.ofNat (v % 256).toNat

namespace inet
def ofold (n : Int) : Int := if n ≤ 0 then 0 else (n - 1) % 65535 + 1
def ws : Bool → List UInt8 → Int
  | _, [] => 0
  | false, a :: t => (a.toNat : Int) * 256 + ws true t
  | true, a :: t => (a.toNat : Int) + ws false t
/-- sums -/
def S (f : Nat → Int) : Nat → Int
  | 0 => 0
  | n + 1 => S f n + f n
/-- the number at a place -/
def pr (l : List UInt8) (i : Nat) : Int := ((l.getD (2 * i) default).toNat : Int) * 256 + ((l.getD (2 * i + 1) default).toNat : Int)
end inet
end Go.Proofs.YtmceappjldcbmaaGreatDoor
