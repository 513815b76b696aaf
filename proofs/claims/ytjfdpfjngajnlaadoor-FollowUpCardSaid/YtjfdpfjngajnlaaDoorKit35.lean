/-
  CONTRACTS THAT KEEP THE WORLD BELOW THEIR START (the library's shelf) AS CONTRACTS OF THIS KIT.
-/
import Derived.Test.YtjfdpfjngajnlaaDoorKit2
namespace Go.Proofs.YtjfdpfjngajnlaaDoor
open Go.RowKit
theorem Holds.kept {w0 w w' : World} {rs : List Res} (H : Holds w0 w rs) (hB : Below w.heap.size w w') : Holds w0 w' rs := by
  obtain ⟨h1, h2, h3, h4, f, l, hl, hf, h0, hall, hpw⟩ := H
  have hle : (hp w).le (hp w') := fun k o hk => by
    have hlt : k < w.heap.size := by
      rcases Nat.lt_or_ge k w.heap.size with h | h
      · exact h
      · have : w.heap[k]? = some o := hk
        rw [Array.getElem?_eq_none h] at this
        cases this
    show w'.heap[k]? = some o
    rw [hB.block k hlt]
    exact hk
  exact ⟨hB.os.trans h1, hB.tape.trans h2, hB.output.trans h3, Nat.le_trans h4 hB.size, f, l, hl, hf.trans hle, h0, fun x hx => ⟨(hall x hx).1, (hall x hx).2.1.trans hle, (hall x hx).2.2⟩, hpw⟩
theorem Spec.kept {P : Program} {f : FuncId} {args : List Value} {need : List Res} {v : Value} (h : ∀ w0 rest w, Holds w0 w (need ++ rest) → Calls P f args.toArray w fun e w' => e = .returned v ∧ Below w.heap.size w w') :
    Spec P f args need fun v' give => v' = v ∧ give = need := fun w0 rest w H =>
  (h w0 rest w H).mono fun _ _ ⟨he, hB⟩ => ⟨v, need, ⟨rfl, rfl⟩, he, H.kept hB⟩
end Go.Proofs.YtjfdpfjngajnlaaDoor
