/-
  CONTRACT of packthreadkeep.sameTexts where the texts are the same, by the kit.
-/
import Derived.Test.YtmceappjldcbmaaDoorKitN2
import Derived.Test.YtmceappjldcbmaaDoorTypes
namespace Go.Proofs.YtmceappjldcbmaaDoor
open Go.RowKit
attribute [local irreducible] Ex G GC GE Gq FPost LPost
set_option linter.unusedVariables false
set_option linter.unusedSimpArgs false

theorem sameTexts_sp (r r' : Res) (ao bo : Option Addr) (n c d : Nat) (xs : List (List UInt8)) (hx : xs.length = n) (h1 : n ≤ 1000) [hr : RdR r ao n c 1 (flat eO xs)] [hr' : RdR r' bo n d 1 (flat eO xs)] :
    Spec Tryd.prog 20 [.slice ao n c, .slice bo n d] [r, r'] fun v give => v = .bool true ∧ give = [r, r'] := by
  have hnn : ¬ ¬ ((n : Nat) : Int) = ((n : Nat) : Int) := fun h => h rfl
  refine Spec.intro Tryd.func20 rfl Tryd.ntmps20 rfl fun w0 rest rs_ hrs_ => ?_
  simp only [List.cons_append, List.nil_append] at hrs_
  subst hrs_
  repeat (first | (apply G.ex (hd := rfl); case h => (first | exact Ex.move rfl | exact Ex.neI rfl rfl | exact Ex.lenSl rfl | exact Ex.assign rfl)) | refine G.nil ?_ | refine GC.seq ?_ | refine GC.region ?_ | refine GC.block ?_ | refine GC.skip ?_ | refine GE.then_normal ?_ | refine GC.cond_no rfl (by first | assumption | omega) ?_)
  refine GC.loop (ι := Nat) (fun i => i ≤ n) (fun i => n - i) (fun i => [(0, .slice ao n c), (1, .slice bo n d), (5, .int .i64 (i : Int))]) (fun _ => [r, r']) 0 (Nat.zero_le _) (by simp only [fits]; repeat (first | exact trivial | refine And.intro rfl ?_)) (by repeat first | exact tn_ | apply td_ rfl | apply tc_ | exact .here | apply Take1.there) ?_
  rintro i hi fr_ rs_ hfr_ hrs_
  simp only [List.cons_append, List.nil_append] at hfr_ hrs_
  subst hfr_ hrs_
  repeat (first | (apply G.ex (hd := rfl); case h => (first | exact Ex.move rfl | exact Ex.lss rfl rfl | exact Ex.lenSl rfl)) | refine G.nil ?_ | refine GC.seq ?_ | refine GC.region ?_ | refine GE.then_normal ?_)
  refine GC.cond_dec rfl (fun hlt => ?_) (fun hlt => ?_)
  · have hlt : i < n := by omega
    have hee : ¬ ¬ xs.getD i default = xs.getD i default := fun h => h rfl
    repeat (first | (apply G.ex (hd := rfl); case h => (first | exact Ex.move rfl | exact Ex.add rfl rfl (by omega) | exact Ex.assign rfl)) | refine G.nil ?_ | (apply Gq.ex (hd := rfl); case h => (first | exact Ex.move rfl | exact Ex.neO rfl rfl | exact Ex.indexN rfl rfl (by first | omega | (simp; done) | (simp; omega)) | exact Ex.loadT0 rfl (by first | omega | (simp; done) | (simp; omega)) rfl)) | refine Gq.nil ?_ | refine GC.seq ?_ | refine GC.region ?_ | refine GC.draw (by kernel_rfl) (by kernel_rfl) ?_ | refine GC.block ?_ | refine GC.skip ?_ | refine GE.then_normal ?_ | refine GE.block_normal ?_ | refine GC.cond_no rfl (by first | assumption | omega) ?_)
    rw [show (i : Int) + 1 = ((i + 1 : Nat) : Int) by omega]
    refine GE.loop (i + 1) (by omega) (by omega) (by simp only [fits]; repeat (first | exact trivial | refine And.intro rfl ?_)) (by repeat first | exact tn_ | apply td_ rfl | apply tc_ | exact .here | apply Take1.there) (by repeat (first | exact Subs.refl | refine Subs.skip ?_))
  · repeat (first | (apply G.ex (hd := rfl); case h => (first | exact Ex.assign rfl)) | refine G.nil ?_ | refine GC.seq ?_ | refine GC.region ?_ | refine GC.ret ?_ | refine GC.exit ?_ | refine GE.then_normal ?_ | refine GE.then_exit ?_ | refine GE.block_hit ?_)
    refine GE.ret (by first | exact .inl rfl | exact .inr rfl) (res1 Tryd.results20 rfl) ⟨rfl, rfl⟩ (by repeat first | exact tn_ | apply td_ rfl | apply tc_ | exact .here | apply Take1.there) (by repeat (first | exact Subs.refl | refine Subs.skip ?_))
end Go.Proofs.YtmceappjldcbmaaDoor
