/-
  CONTRACT of recv.New, by the kit.
-/
import Derived.Test.YtcllddkhnbnigaaRecvE
namespace Go.Proofs.Ytcllddkhnbnigaa
open Go.RowKit
attribute [local irreducible] Ex G GC GE Gq FPost LPost
set_option linter.unusedVariables false
set_option linter.unusedSimpArgs false
namespace recv
open hole
theorem new_sp (room : Int) : Spec Try.prog 20 [.int .i64 room] [] fun v give => ∃ hb, v = .pointer (some (badr hb 0)) ∧ give = [.blk hb 81 [.int .i64 room, .slice none 0 0, .int .i64 0, .slice none 0 0, .int .i64 0, .int .i64 (-1)]] := by
  refine Spec.intro Try.func20 rfl Try.ntmps20 rfl fun w0 rest rs_ hrs_ => ?_
  simp only [List.cons_append, List.nil_append] at hrs_
  subst hrs_
  repeat (first | (apply G.ex (hd := rfl); case h => (first | exact Ex.move rfl | exact Ex.assign rfl | exact Ex.build rfl rfl)) | refine G.nil ?_ | refine GC.seq ?_ | refine GC.region ?_ | refine GE.then_normal ?_)
  refine G.box rfl rfl rfl (fun hb => ?_)
  repeat (first | (apply G.ex (hd := rfl); case h => (first | exact Ex.assign rfl)) | refine G.nil ?_ | refine GC.ret ?_ | refine GE.then_normal ?_)
  refine GE.ret (by first | exact .inl rfl | exact .inr rfl) (res1 Try.results20 rfl) ⟨hb, rfl, rfl⟩ (by repeat first | exact tn_ | apply td_ rfl | apply tc_ | exact .here | apply Take1.there) (by repeat (first | exact Subs.refl | refine Subs.skip ?_))
end recv
end Go.Proofs.Ytcllddkhnbnigaa
