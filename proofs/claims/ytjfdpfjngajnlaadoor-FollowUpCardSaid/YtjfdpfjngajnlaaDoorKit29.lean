/-
  THE KIT OF MY OWN, TWENTY-NINTH PART: the cells of a block told in another form. Over any program; no condition.
-/
import Derived.Test.YtjfdpfjngajnlaaDoorKit27
namespace Go.Proofs.YtjfdpfjngajnlaaDoor
open Go.RowKit Go.Sort
set_option linter.unusedVariables false
section
variable {P : Program} {ops : Array Oper} {Q : Exit → Act → World → Prop} {n : Nat} {ds : List Deferred} {w0 : World} {rest : List Oper} {fr : Slots} {rs : List Res} {b : Nat} {t : TypeId} {cs : List Value}
theorem GC.reblk {c : Code} (cs' : List Value) (h : cs = cs') (k : @GC P c Q n ds w0 fr (.blk b t cs' :: rs)) : @GC P c Q n ds w0 fr (.blk b t cs :: rs) := h ▸ k
theorem G.reblk (cs' : List Value) (h : cs = cs') (k : @G P ops Q n ds w0 rest fr (.blk b t cs' :: rs)) : @G P ops Q n ds w0 rest fr (.blk b t cs :: rs) := h ▸ k
end
end Go.Proofs.YtjfdpfjngajnlaaDoor
