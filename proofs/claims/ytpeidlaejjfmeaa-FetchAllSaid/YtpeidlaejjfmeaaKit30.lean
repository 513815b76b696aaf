/-
  THE KIT OF MY OWN, THIRTIETH PART: a list of slices of which each is one of two that can be read; a list's entry set. Over any program; no condition.
-/
import Derived.Test.YtpeidlaejjfmeaaKit29
namespace Go.Proofs.Ytpeidlaejjfmeaa
open Go.RowKit Go.Sort
set_option linter.unusedVariables false
theorem Holds.rdTwo {w0 w : World} {rs : List Res} {α : Type} {enc : α → List Value} {s : Nat} (l : List (SlD α)) (x y : SlD α) (h : ∀ z ∈ l, z = x ∨ z = y) (H : Holds w0 w (.sl x.ao x.n x.c s (flat enc x.l) :: .sl y.ao y.n y.c s (flat enc y.l) :: rs)) : Holds w0 w (.per (Rd enc s l) :: rs) :=
  H.join fun f a b ha hb _ z hz => by
    rcases h z hz with rfl | rfl
    · exact ha
    · exact hb
theorem getD_set1 {α : Type} [Inhabited α] (l : List α) (i k : Nat) (x : α) (h : i < l.length) : (l.set i x).getD k default = if k = i then x else l.getD k default := by
  by_cases e : k = i
  · subst e
    rw [if_pos rfl, List.getD_eq_getElem?_getD, List.getElem?_set_self h]; rfl
  · rw [if_neg e, List.getD_eq_getElem?_getD, List.getElem?_set_ne (Ne.symm e), ← List.getD_eq_getElem?_getD]
theorem getD_mapT {α β : Type} [Inhabited α] [Inhabited β] (f : α → β) (l : List α) (k : Nat) (h : k < l.length) : (l.map f).getD k default = f (l.getD k default) := by
  rw [List.getD_eq_getElem?_getD, List.getElem?_map, List.getD_eq_getElem?_getD, List.getElem?_eq_getElem h]; rfl
end Go.Proofs.Ytpeidlaejjfmeaa
