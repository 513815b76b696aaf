/-
  CONTRACTS of slices.Backward (over ranges) and of the iterator that it makes: whatever a round keeps, all rounds keep.
-/
import Derived.Test.YtcllddkhnbnigaaKitM1
import Derived.Test.YtcllddkhnbnigaaHole2
namespace Go.Proofs.Ytcllddkhnbnigaa
open Go.RowKit
attribute [local irreducible] Ex G GC GE Gq FPost LPost
set_option linter.unusedVariables false
set_option linter.unusedSimpArgs false
namespace hole
theorem backward_sp (ao : Option Addr) (n c : Nat) : Spec Try.prog 51 [.slice ao n c] [] fun v give => ∃ b, v = .func (.func 66) #[] #[.pointer (some (badr b 0))] ∧ give = [.blk b 61 [.slice ao n c]] := by
  refine Spec.intro Try.func51 rfl Try.ntmps51 rfl fun w0 rest rs_ hrs_ => ?_
  simp only [List.cons_append, List.nil_append] at hrs_
  subst hrs_
  repeat (first | refine GC.seq ?_ | refine GC.region ?_)
  refine G.box rfl rfl rfl (fun b => ?_)
  repeat (first | (apply G.ex (hd := rfl); case h => (first | exact Ex.assign rfl | exact Ex.mkFunc rfl)) | refine G.nil ?_ | refine GC.seq ?_ | refine GC.region ?_ | refine GC.ret ?_ | refine GE.then_normal ?_)
  refine GE.ret (by first | exact .inl rfl | exact .inr rfl) (res1 Try.results51 rfl) ⟨_, rfl, rfl⟩ (by repeat first | exact tn_ | apply td_ rfl | apply tc_ | exact .here | apply Take1.there) (by repeat (first | exact Subs.refl | refine Subs.skip ?_))
theorem back1_sp (r : Res) (ao : Option Addr) (n c : Nat) (l : List R) [hr : RdR r ao n c 2 (flat eR l)] (hl : l.length = n) (hn : n ≤ 1000000) (b yl : Nat) (rec_ : Loop) {κ : Type} (φ : Nat → κ → Prop) (rsI : κ → List Res)
    (hY : ∀ k i, k < n → φ (k + 1) i → YSpec Try.prog yl [.int .i64 (k : Int), .agg (eR (l.getD k default)).toArray] (.own (LoopR yl rec_) :: rsI i) (fun v give => v = .bool true ∧ ∃ g, (∃ j, φ k j ∧ g = rsI j) ∧ give = .own (LoopR yl rec_) :: g)) (i0 : κ) (h0 : φ n i0) :
    Spec Try.prog 66 [.func (.yield yl) #[] #[], .pointer (some (badr b 0))] (.own (LoopR yl rec_) :: .blk b 61 [.slice ao n c] :: r :: rsI i0) fun v give => ∃ j, φ 0 j ∧ v = .tuple #[] ∧ give = .own (LoopR yl rec_) :: .blk b 61 [.slice ao n c] :: r :: rsI j := by
  refine Spec.intro Try.func66 rfl Try.ntmps66 rfl fun w0 rest rs_ hrs_ => ?_
  simp only [List.cons_append, List.nil_append] at hrs_
  subst hrs_
  repeat (first | (apply G.ex (hd := rfl); case h => (first | exact Ex.loadB rfl rfl | exact Ex.sub rfl rfl (by omega) | exact Ex.lenSl rfl | exact Ex.assign rfl)) | refine G.nil ?_ | refine GC.seq ?_ | refine GC.region ?_ | refine GC.block ?_ | refine GE.then_normal ?_)
  refine GC.loop (ι := Nat × κ) (fun x => x.1 ≤ n ∧ φ x.1 x.2) (fun x => x.1) (fun x => [(0, .func (.yield yl) #[] #[]), (1, .pointer (some (badr b 0))), (3, .int .i64 ((x.1 : Int) - 1))]) (fun x => .own (LoopR yl rec_) :: .blk b 61 [.slice ao n c] :: r :: rsI x.2) (n, i0) ⟨Nat.le_refl _, h0⟩ (by simp only [fits]; repeat (first | exact trivial | refine And.intro rfl ?_)) (Takes.cons .here (.cons .here (.cons .here Takes.app))) ?_
  rintro ⟨k, i⟩ ⟨hk, hi⟩ fr_ rs_ hfr_ hrs_
  simp only [List.cons_append, List.nil_append] at hfr_ hrs_
  subst hfr_ hrs_
  simp only at hk hi
  by_cases h0 : 0 ≤ (k : Int) - 1
  · obtain ⟨k, rfl⟩ : ∃ k', k = k' + 1 := ⟨k - 1, by omega⟩
    rw [show ((k + 1 : Nat) : Int) - 1 = (k : Int) by omega]
    have h0' : 0 ≤ (k : Int) := by omega
    repeat ((fail_if_success (refine GC.seq ?_; refine GC.region (id := 3) ?_)); first | (apply G.ex (hd := rfl); case h => (first | exact Ex.move rfl | exact Ex.geq rfl rfl)) | refine G.nil ?_ | refine GC.seq ?_ | refine GC.region ?_ | refine GC.block ?_ | refine GC.skip ?_ | refine GE.then_normal ?_ | refine GC.cond_yes rfl (by first | assumption | omega) ?_)
    refine GC.seq ?_
    refine GC.regionYk 6 rfl rfl ?_
    repeat (first | (apply G.ex (hd := rfl); case h => (first | exact Ex.move rfl | exact Ex.loadB rfl rfl | exact Ex.indexN rfl rfl (by first | omega | (simp; done) | (simp; omega)) | exact Ex.loadTA rfl (by first | omega | (simp; done) | (simp; omega)))) | refine G.nil ?_)
    refine GE.yield (hY k i (by omega) hi) rfl rfl rfl (Takes.cons .here (Takes.deep (Takes.deep Takes.app))) ?_
    rintro v_ give_ ⟨rfl, g, ⟨j, hj, rfl⟩, rfl⟩ rs_ hrs_
    simp only [List.cons_append, List.nil_append] at hrs_
    subst hrs_
    refine GE.on rfl ?_
    have htt : ¬ ¬ true = true := fun h => h rfl
    repeat (first | (apply G.ex (hd := rfl); case h => (first | exact Ex.notB rfl)) | refine G.nil ?_)
    refine GE.nrm ?_
    repeat (first | (apply G.ex (hd := rfl); case h => (first | exact Ex.move rfl | exact Ex.sub rfl rfl (by omega) | exact Ex.assign rfl)) | refine G.nil ?_ | refine GC.region ?_ | refine GC.skip ?_ | refine GE.then_normal ?_ | refine GE.block_normal ?_ | refine GC.cond_no rfl (by first | assumption | omega) ?_)
    refine GE.loop (k, j) ⟨by simp only; omega, hj⟩ (by simp only; omega) (by simp only [fits]; repeat (first | exact trivial | refine And.intro rfl ?_)) (Takes.cons .here (.cons .mid (.cons .mid Takes.app))) .refl
  · obtain rfl : k = 0 := by omega
    repeat (first | (apply G.ex (hd := rfl); case h => (first | exact Ex.move rfl | exact Ex.geq rfl rfl)) | refine G.nil ?_ | refine GC.seq ?_ | refine GC.region ?_ | refine GC.exit ?_ | refine GE.then_normal ?_ | refine GE.then_exit ?_ | refine GE.block_hit ?_ | refine GC.cond_no rfl (by first | assumption | omega) ?_)
    refine GE.ret (by first | exact .inl rfl | exact .inr rfl) (res0 Try.results66) ⟨i, hi, rfl, rfl⟩ (Takes.cons .here (.cons .here (.cons .here Takes.app))) .refl
end hole
end Go.Proofs.Ytcllddkhnbnigaa
