/-
  CONTRACTS of package fair's ring, by the kit.
-/
import Derived.Test.YtcabcpealkbekaaFairP
import Derived.Test.YtcabcpealkbekaaKit19
import Derived.Test.YtcabcpealkbekaaKit17
namespace Go.Proofs.Ytcabcpealkbekaa
open Go.RowKit
attribute [local irreducible] Ex G GC GE Gq FPost LPost
set_option linter.unusedVariables false
set_option linter.unusedSimpArgs false

namespace fair
structure Fl where
  q : Int
  w : SlD Int
  d : Int
  fed : Bool
instance : Inhabited Fl := ⟨⟨0, ⟨none, 0, 0, []⟩, 0, false⟩⟩
def eF (x : Fl) : List Value := [.int .i64 x.q, .slice x.w.ao x.w.n x.w.c, .int .i64 x.d, .bool x.fed]
instance : Enc eF 4 := ⟨fun _ => rfl, fun x u hu => by simp [eF] at hu; rcases hu with rfl | rfl | rfl | rfl <;> rfl⟩
def ab (x : Fl) : AF := ⟨x.q, x.w.l, x.d, x.fed⟩
def wv (s : SlD Int) : Res := .vec 3 1 s.ao s.n s.c (flat (eI .i64) s.l)
def wvs (fs : List Fl) : List Res := fs.map fun x => wv x.w
def eV (c i z : Int) : List Value := [.int .i64 c, .int .i64 i, .int .i64 z]
structure Fits (fs : List Fl) : Prop where
  n : ∀ x ∈ fs, x.w.l.length = x.w.n
theorem no_sp (e : Int) : Spec Try.prog 45 [.int .i64 e] [] fun v give => v = .agg (eV e 0 0).toArray ∧ give = [] := by
  refine Spec.intro Try.func45 rfl Try.ntmps45 rfl fun w0 rest rs_ hrs_ => ?_
  simp only [List.cons_append, List.nil_append] at hrs_
  subst hrs_
  repeat (first | refine GC.seq ?_ | refine GC.region ?_)
  refine G.alloc rfl (fun b => ?_)
  repeat (first | refine G.storeBA rfl rfl rfl rfl rfl ?_ | (apply G.ex (hd := rfl); case h => (first | exact Ex.move rfl | exact Ex.build rfl rfl)) | refine G.nil ?_ | refine GC.seq ?_ | refine GC.region ?_ | refine GC.ret ?_ | refine GE.then_normal ?_)
  refine GE.ret (by first | exact .inl rfl | exact .inr rfl) (by first | exact res0 Try.results45 | exact res1 Try.results45 rfl | exact res2 Try.results45 rfl rfl | exact resR1 Try.results45 (by first | exact RV.tmp rfl | exact RV.cell rfl rfl | exact RV.cell1 rfl) | exact resR2 Try.results45 (by first | exact RV.tmp rfl | exact RV.cell rfl rfl | exact RV.cell1 rfl) (by first | exact RV.tmp rfl | exact RV.cell rfl rfl | exact RV.cell1 rfl) | exact resR3 Try.results45 (by first | exact RV.tmp rfl | exact RV.cell rfl rfl | exact RV.cell1 rfl) (by first | exact RV.tmp rfl | exact RV.cell rfl rfl | exact RV.cell1 rfl) (by first | exact RV.tmp rfl | exact RV.cell rfl rfl | exact RV.cell1 rfl)) ⟨rfl, rfl⟩ (by repeat (first | exact Takes.nil | apply Takes.dup rfl | apply Takes.cons | exact Take1.here | apply Take1.there)) (by repeat (first | exact Subs.refl | refine Subs.skip ?_))
end fair
end Go.Proofs.Ytcabcpealkbekaa
