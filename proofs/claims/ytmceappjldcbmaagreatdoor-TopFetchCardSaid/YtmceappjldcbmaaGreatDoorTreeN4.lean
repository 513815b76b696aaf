/-
  CONTRACT of packthreadkeep.PathBy: the path that a number stands for, by the kit.
-/
import Derived.Test.YtmceappjldcbmaaGreatDoorCom
import Derived.Test.YtmceappjldcbmaaGreatDoorKitN2
import Derived.Test.YtmceappjldcbmaaGreatDoorKitN1
import Derived.Test.YtmceappjldcbmaaGreatDoorTreeN1
import Derived.Test.YtmceappjldcbmaaGreatDoorTreeN3
namespace Go.Proofs.YtmceappjldcbmaaGreatDoor
open Go.RowKit
attribute [local irreducible] Ex G GC GE Gq FPost LPost
set_option linter.unusedVariables false
set_option linter.unusedSimpArgs false

/-- the name with a number -/
def nmF (k : Int) : List UInt8 := if k = 0 then [97] else if k = 1 then [98] else if k = 2 then [99] else [100]
def pathK (a : Int) : Nat → List UInt8
  | 0 => []
  | i + 1 => pathK a i ++ (47 :: nmF (a.tdiv (7 * ((i : Int) + 1)) % 4))
def pathF (a : Int) : List UInt8 := pathK a (1 + (a % 3).toNat)
end Go.Proofs.YtmceappjldcbmaaGreatDoor
/-
  THE NAMES OF A PATH THAT A NUMBER STANDS FOR.
-/
namespace Go.Proofs.YtmceappjldcbmaaGreatDoor
set_option linter.unusedVariables false
set_option linter.unusedSimpArgs false
namespace tree
open path
def partsK (a : Int) : Nat → List Nm
  | 0 => []
  | i + 1 => partsK a i ++ [nmF (a.tdiv (7 * ((i : Int) + 1)) % 4)]
/-- the names of a path by a number -/
def namesK (a : Int) : List Nm := partsK a (1 + (a % 3).toNat)
def abcd : List Nm := [[97], [98], [99], [100]]
end tree
end Go.Proofs.YtmceappjldcbmaaGreatDoor
/-
  PLAIN LAWS of a tree of files: names stay among a, b, c, d; a link leads where it leads.
-/
namespace Go.Proofs.YtmceappjldcbmaaGreatDoor
set_option linter.unusedVariables false
set_option linter.unusedSimpArgs false
namespace tree
open path
/-- all names are a, b, c, d -/
def Abcd (t : Tr) : Prop := ∀ i l, t.nd i = .dir l → ∀ k j, (k, j) ∈ l → k ∈ abcd
/-- to look at something -/
def lookA (kind : Int) (p : Nm) : Ac := ⟨kind, p, [], 0, 60, []⟩
theorem find_root (t : Tr) (f : Bool) : t.find [] f = (0, 0) := rfl
theorem place_one (t : Tr) {l : List (Nm × Nat)} (h : t.nd 0 = .dir l) (x : Nm) : placeF t [x] = (0, 0) := by
  unfold placeF
  rw [show ([x] : List Nm).dropLast = [] from rfl, find_root]
  simp only [h]
  rfl
theorem free_one {t : Tr} {l : List (Nm × Nat)} (h : t.nd 0 = .dir l) {x : Nm} (hx : ent l x = none) : freeF t [x] = (0, 0, x) := by
  unfold freeF
  rw [if_neg (fun h => nomatch h), place_one t h, if_neg (fun h => h rfl), names_of h]
  rw [show ([x] : List Nm).getLastD [] = x from rfl, hx]
  rfl
/-- a node made in the root -/
theorem make_one {t : Tr} {l : List (Nm × Nat)} (h : t.nd 0 = .dir l) {x : Nm} (hx : ent l x = none) (nd : Nd) : makeF t [x] nd = if t.count = 40 then (9, t) else (0, ⟨t.ns.set 0 (.dir (l ++ [(x, t.ns.length)])) ++ [nd], t.count + 1⟩) := by
  unfold makeF
  rw [free_one h hx, if_neg (fun h => h rfl), add_ns h]
def zz : Nm := [122, 122]
def linkA (p : Nm) : Ac := ⟨10, 47 :: zz, p, 0, 0, []⟩
def rmA (p : Nm) : Ac := ⟨8, p, [], 0, 0, []⟩
end tree
end Go.Proofs.YtmceappjldcbmaaGreatDoor
