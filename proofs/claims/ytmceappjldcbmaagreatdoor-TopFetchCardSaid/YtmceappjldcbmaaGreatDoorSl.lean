/-
  SLICES AS THE WALKS OF THIS SEAT SPEAK OF THEM: 'Sl' (a slice that can be read), 'Own' (a slice that the call made itself), and append as one law for both. Over any program; no condition.
-/
import Derived.Test.YtmceappjldcbmaaGreatDoorBase
namespace Go.Proofs.YtmceappjldcbmaaGreatDoor
open Go.RowKit
open Go.BigFrame (wpList_want)
set_option linter.unusedVariables false

/-- the slice value '.slice ao n c' reads as the cells xs ('size' cells each element) -/
structure Sl (w : World) (ao : Option Addr) (n c size : Nat) (xs : List Value) : Prop where
  len : xs.length = n * size
  le : n ≤ c
  cap : c ≤ maxLen
  nil : ao = none → c = 0
  get : 0 < n → ∃ b o, ao = some ⟨b, o, none⟩ ∧ b < w.heap.size ∧ ∀ j u, xs[j]? = some u → w.cell? ⟨b, o + j, none⟩ = some u
  one : ∀ u ∈ xs, u.oneCell' = true

/-- the block that a slice value leads to -/
def blk : Option Addr → Option Nat
  | some a => some a.block
  | none => none

/-- the slice value '.slice ao n c' leads to a row of the call's own: a block from 'base' on, not frozen, xs its first cells -/
structure Own (w : World) (base : Nat) (e : TypeId) (size : Nat) (ao : Option Addr) (n c : Nat) (xs : List Value) : Prop where
  row : w.ownsRow base e size (.slice ao n c) n xs
  one : ∀ u ∈ xs, u.oneCell' = true

theorem Own.cases {w : World} {base : Nat} {e : TypeId} {size : Nat} {ao : Option Addr} {n c : Nat} {xs : List Value} (h : Own w base e size ao n c xs) :
    (ao = none ∧ n = 0 ∧ c = 0 ∧ xs = []) ∨ ∃ g cur, ao = some ⟨g, 0, none⟩ ∧ base ≤ g ∧ w.heap[g]? = some (.cells cur e (0, 0)) ∧ n ≤ c ∧ c ≤ maxLen ∧ cur.size = c * size ∧ cur.toList.take (n * size) = xs := by
  obtain ⟨h1, h2⟩ := h.row
  rcases h2 with ⟨h2, rfl⟩ | ⟨g, cap, cur, h3, h4⟩
  · simp only [Value.slice.injEq] at h2
    obtain ⟨rfl, -, rfl⟩ := h2
    exact .inl ⟨rfl, rfl, rfl, List.eq_nil_of_length_eq_zero (by simpa using h1)⟩
  · simp only [Value.slice.injEq] at h3
    obtain ⟨rfl, -, rfl⟩ := h3
    exact .inr ⟨g, cur, rfl, h4⟩


theorem Own.len {w : World} {base : Nat} {e : TypeId} {size : Nat} {ao : Option Addr} {n c : Nat} {xs : List Value} (h : Own w base e size ao n c xs) : xs.length = n * size := h.row.1

theorem block_lt {w : World} {g : Nat} {o : Obj} (h : w.heap[g]? = some o) : g < w.heap.size := (Array.getElem?_eq_some_iff.1 h).1


theorem Own.sl {w : World} {base : Nat} {e : TypeId} {size : Nat} {ao : Option Addr} {n c : Nat} {xs : List Value} (h : Own w base e size ao n c xs) : Sl w ao n c size xs := by
  rcases h.cases with ⟨rfl, rfl, rfl, rfl⟩ | ⟨g, cur, rfl, hb, hg, hn, hm, hs, ht⟩
  · exact ⟨by simp, Nat.le_refl _, Nat.zero_le _, fun _ => rfl, fun h0 => (by omega), by simp⟩
  · refine ⟨h.len, hn, hm, fun h => (by cases h), fun _ => ?_, h.one⟩
    refine ⟨g, 0, rfl, block_lt hg, fun j u hu => ?_⟩
    rw [Nat.zero_add, cell_of_row w g j cur e (0, 0) hg]
    rw [← ht, List.getElem?_take] at hu
    split at hu
    · simpa using hu
    · cases hu










/-- what the program's table says of a slice's element -/
structure Elem (P : Program) (t e : TypeId) (size bytes : Nat) : Prop where
  sl : P.underlying t = some (.slice e)
  info : ∃ i z, P.info? e = some i ∧ i.zero = some z ∧ i.size = size ∧ i.bytes = bytes ∧ z.cells.size = size
  pos : 0 < size

/-- what an append has done to the world: only the row itself may have been written; its block is the old one or a new one -/
structure Grew (w w' : World) (ao ao' : Option Addr) : Prop where
  by_ : w.grownBy w' (blk ao)
  blk : ∀ k, blk ao' = some k → blk ao = some k ∨ w.heap.size ≤ k






/-- block b is a variable of the call's own, written out: its cells, none frozen -/
def Var (w : World) (b : Nat) (t : TypeId) (cs : List Value) : Prop := w.heap[b]? = some (.cells cs.toArray t (0, 0))





/-- a slice of integers that came in, as 'Sl' -/
theorem IsRow.sl {k : IntKind} {w : World} {a : Option Addr} {len cap : Nat} {zs : List Int} (h : IsRow k w a len cap zs) : Sl w a len cap 1 ((zs.take len).map (Value.int k)) ∧ ∀ z ∈ zs.take len, (Lit.int k z).wf = true := by
  rcases h with ⟨rfl, rfl, rfl, rfl⟩ | ⟨x, rfl, h1, h2, h3, h4, h5⟩
  · exact ⟨⟨by simp, Nat.le_refl _, Nat.zero_le _, fun _ => rfl, fun h0 => (by omega), by simp⟩, by simp⟩
  · refine ⟨⟨by simp [h3]; omega, h1, h2, fun h => (by cases h), fun h0 => ?_, ints_oneCell k _⟩, fun z hz => h5 z (List.mem_of_mem_take hz)⟩
    obtain ⟨b, off, spot⟩ := x
    have hc := h4 0 (by omega)
    have hspot : spot = none := by simpa [Addr.add] using World.cell?_spot hc
    subst hspot
    refine ⟨b, off, rfl, World.block_lt_of_cell? w _ hc |> (by simpa [Addr.add] using ·), fun j u hu => ?_⟩
    rw [List.getElem?_map, List.getElem?_take] at hu
    by_cases hj : j < len
    · rw [if_pos hj, List.getElem?_eq_getElem (by omega)] at hu
      have := h4 j (by omega)
      rw [Addr.add_lit] at this
      rw [this]
      simpa [List.getD, List.getElem?_eq_getElem (show j < zs.length by omega)] using hu
    · rw [if_neg hj] at hu; simp at hu
end Go.Proofs.YtmceappjldcbmaaGreatDoor
