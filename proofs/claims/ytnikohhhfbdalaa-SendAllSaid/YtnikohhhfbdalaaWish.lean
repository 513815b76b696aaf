/-
  ROWS OF Wish as arguments. No condition.
-/
import Derived.Test.YtnikohhhfbdalaaKit28
namespace Go.Proofs.Ytnikohhhfbdalaa
open Go.RowKit
set_option linter.unusedVariables false
/-- a wish as it lies in memory -/
structure WiM where
  kind : Int
  d : SlD UInt8
  a : Int
  b : Int
instance : Inhabited WiM := ⟨⟨0, default, 0, 0⟩⟩
def eWi (m : WiM) : List Value := [.int .i64 m.kind, .slice m.d.ao m.d.n m.d.c, .int .i64 m.a, .int .i64 m.b]
instance : Enc eWi 4 := ⟨fun _ => rfl, fun x u hu => by simp [eWi] at hu; rcases hu with rfl | rfl | rfl | rfl <;> rfl⟩
structure WOk (m : WiM) : Prop where
  k : -9223372036854775808 ≤ m.kind ∧ m.kind ≤ 9223372036854775807
  a : -9223372036854775808 ≤ m.a ∧ m.a ≤ 9223372036854775807
  b : -9223372036854775808 ≤ m.b ∧ m.b ≤ 9223372036854775807
  len : m.d.l.length = m.d.n
  le : m.d.n ≤ 9223372036854775807
abbrev wishS : List (Option IntKind) := [[some .i64], [none], [some .i64], [some .i64]].flatten
theorem wish_rows {w : World} {a : Option Addr} {len cap : Nat} {A : List (List Value)} (h : IsRecs wishS w a len cap A) :
    ∃ L : List WiM, L.length = len ∧ len ≤ maxLen ∧ (∀ m ∈ L, WOk m) ∧ ∀ rs, Holds w w rs → Holds w w (.sl a len cap 4 (flat eWi L) :: .per (Rd eB 1 (L.map (·.d))) :: rs) := by
  obtain ⟨L, h1, h2, h3⟩ := recs_list eWi (fun m => WOk m ∧ rowB m.d w) A fun c hc => by
    obtain ⟨k, c1, rfl, wk, q1⟩ := (h.2.2 c hc).int
    obtain ⟨ao, n, cp, zs, c2, rfl, hr, q2⟩ := q1.row
    obtain ⟨x, c3, rfl, wx, q3⟩ := q2.int
    obtain ⟨y, c4, rfl, wy, q4⟩ := q3.int
    obtain rfl := q4.nil
    obtain ⟨d, rfl, rfl, rfl, d4, d5, d6⟩ := row_of hr
    exact ⟨⟨k, d, x, y⟩, rfl, ⟨bd_i64 wk, bd_i64 wx, bd_i64 wy, d4, by unfold maxLen at d5; simp only; omega⟩, d6⟩
  refine ⟨L, by rw [h2]; exact h.1, Nat.le_trans h.2.1.le h.2.1.cap, fun m hm => (h3 m hm).1, fun rs H => ?_⟩
  exact H.argRecs h eWi (·.d) L (by decide) h1 fun m hm => (h3 m hm).2
end Go.Proofs.Ytnikohhhfbdalaa
