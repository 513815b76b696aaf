/-
  CONTRACTS of glob.Pick and of sameTexts of the laws' package, by the kit.
-/
import Derived.Test.YtmkojbeongiimaaGlobQ
namespace Go.Proofs.Ytmkojbeongiimaa
open Go.RowKit
open glob
attribute [local irreducible] Ex G GC GE Gq FPost LPost
set_option linter.unusedVariables false
set_option linter.unusedSimpArgs false
namespace glob
set_option maxHeartbeats 2000000 in
theorem Pick_sp (p : List UInt8) (l : List Pt) (hp : Toks p l) (h40 : p.length ≤ 40) (r : Res) (ao : Option Addr) (n c : Nat) (names : List (List UInt8)) (hn : names.length = n) (h64 : n ≤ 64) [hr : RdR r ao n c 1 (flat eO names)] (h200 : ∀ k, (names.getD k default).length ≤ 200) :
    Spec Try.prog 12 [.string (sOf p), .slice ao n c] [r] fun v give => ∃ o m d, m = (names.filter (mtB l)).length ∧ v = .tuple #[.slice o m d, .int .i64 0] ∧ give = [.vec 9 1 o m d (flat eO (names.filter (mtB l))), r] := by
  have hll := hp.len
  have htt : ¬ ¬ true = true := fun h => h rfl
  have h64' : ¬ (64 : Int) < ((n : Nat) : Int) := by omega
  refine Spec.intro Try.func12 rfl Try.ntmps12 rfl fun w0 rest rs_ hrs_ => ?_
  simp only [List.cons_append, List.nil_append] at hrs_
  subst hrs_
  repeat (first | (apply G.ex (hd := rfl); case h => (first | exact Ex.move rfl | exact Ex.assign rfl)) | refine G.nil ?_ | refine GC.seq ?_ | refine GC.region ?_ | refine GE.then_normal ?_)
  first | refine G.call (caps := []) (parts_sp p l hp h40) rfl rfl rfl rfl (by repeat (first | exact Takes.nil | apply Takes.dup rfl | apply Takes.cons | exact Take1.here | apply Take1.there)) ?_ | refine G.callU (caps := []) (parts_sp p l hp h40) rfl rfl rfl (by repeat (first | exact Takes.nil | apply Takes.dup rfl | apply Takes.cons | exact Take1.here | apply Take1.there)) ?_
  rintro v_ give_ ⟨po, pc, rfl, rfl⟩ rs_ hrs_
  simp only [List.cons_append, List.nil_append] at hrs_
  subst hrs_
  repeat (first | (apply G.ex (hd := rfl); case h => (first | exact Ex.move rfl | exact Ex.gtr rfl rfl | exact Ex.lenSl rfl | exact Ex.extract rfl rfl | exact Ex.assign rfl | exact Ex.notB rfl)) | refine G.nil ?_ | refine GC.seq ?_ | refine GC.region ?_ | refine GC.block ?_ | refine GC.skip ?_ | refine GE.then_normal ?_ | refine GC.cond_no rfl (by first | assumption | omega) ?_)
  first | refine G.nilvec 9 1 ?_ | refine GC.nilvec 9 1 ?_
  refine GC.loop (ι := Nat × Nat × Option Addr × Nat) (fun x => x.1 ≤ n ∧ x.2.1 = ((names.take x.1).filter (mtB l)).length) (fun x => n - x.1) (fun x => [(6, .slice po l.length pc), (8, .slice x.2.2.1 x.2.1 x.2.2.2), (21, .slice ao n c), (22, .int .i64 (n : Int)), (23, .int .i64 (x.1 : Int))]) (fun x => [.vec 9 1 x.2.2.1 x.2.1 x.2.2.2 (flat eO ((names.take x.1).filter (mtB l))), .vec 45 257 po l.length pc (flat eP l), r]) (0, 0, none, 0) ⟨Nat.zero_le _, rfl⟩ (by simp only [fits]; repeat (first | exact trivial | refine And.intro rfl ?_)) (by repeat (first | exact Takes.nil | apply Takes.dup rfl | apply Takes.cons | exact Take1.here | apply Take1.there)) ?_
  rintro ⟨i, m, o, d⟩ ⟨hi, hm⟩ fr_ rs_ hfr_ hrs_
  simp only [List.cons_append, List.nil_append] at hfr_ hrs_
  subst hfr_ hrs_
  simp only at hi hm
  have hm64 : m ≤ i := by rw [hm]; exact Nat.le_trans (List.length_filter_le ..) (by rw [List.length_take]; omega)
  repeat (first | (apply G.ex (hd := rfl); case h => (first | exact Ex.lss rfl rfl)) | refine G.nil ?_ | refine GC.seq ?_ | refine GC.region ?_ | refine GE.then_normal ?_)
  refine GC.cond_dec rfl (fun hlt => ?_) (fun hlt => ?_)
  · have hlt : i < n := by omega
    have hs := h200 i
    have hs2 : ¬ (200 : Int) < (((names.getD i default).length : Nat) : Int) := by omega
    have hcat : mtB l (names.getD i default) = true → (names.take i).filter (mtB l) ++ [names.getD i default] = (names.take (i + 1)).filter (mtB l) := fun h => by
      rw [List.take_succ_eq_append_getElem (by omega), List.filter_append, List.filter_cons, List.filter_nil]
      rw [List.getD_eq_getElem?_getD, List.getElem?_eq_getElem (by omega)] at h ⊢
      rw [Option.getD_some] at h ⊢
      rw [if_pos h]
    have hno : mtB l (names.getD i default) = false → (names.take i).filter (mtB l) = (names.take (i + 1)).filter (mtB l) := fun h => by
      rw [List.take_succ_eq_append_getElem (by omega), List.filter_append, List.filter_cons, List.filter_nil]
      rw [List.getD_eq_getElem?_getD, List.getElem?_eq_getElem (by omega), Option.getD_some] at h
      rw [if_neg (by rw [h]; exact fun k => nomatch k), List.append_nil]
    repeat (first | (apply G.ex (hd := rfl); case h => (first | exact Ex.move rfl | exact Ex.lenO rfl | exact Ex.gtr rfl rfl | exact Ex.indexN rfl rfl (by first | omega | (simp; done) | (simp; omega)) | exact Ex.loadT0 rfl (by first | omega | (simp; done) | (simp; omega)) rfl | exact Ex.assign rfl)) | refine G.nil ?_ | refine GC.seq ?_ | refine GC.region ?_ | refine GC.block ?_ | refine GC.skip ?_ | refine GE.then_normal ?_ | refine GC.cond_no rfl (by first | assumption | omega) ?_)
    first | refine G.call (caps := []) (match_sp (.vec 45 257 po l.length pc (flat eP l)) po l.length pc l rfl (by omega) (names.getD i default) hs) rfl rfl rfl rfl (by repeat (first | exact Takes.nil | apply Takes.dup rfl | apply Takes.cons | exact Take1.here | apply Take1.there)) ?_ | refine G.callU (caps := []) (match_sp (.vec 45 257 po l.length pc (flat eP l)) po l.length pc l rfl (by omega) (names.getD i default) hs) rfl rfl rfl (by repeat (first | exact Takes.nil | apply Takes.dup rfl | apply Takes.cons | exact Take1.here | apply Take1.there)) ?_
    rintro v_ give_ ⟨rfl, rfl⟩ rs_ hrs_
    simp only [List.cons_append, List.nil_append] at hrs_
    subst hrs_
    cases hmt : mtB l (names.getD i default) with
    | false =>
      rw [hno hmt]
      repeat (first | (apply G.ex (hd := rfl); case h => (first | exact Ex.move rfl | exact Ex.add rfl rfl (by omega))) | refine G.nil ?_ | refine GC.region ?_ | refine GC.skip ?_ | refine GE.then_normal ?_ | refine GE.block_normal ?_ | refine GC.cond_f rfl ?_)
      rw [show (i : Int) + 1 = ((i + 1 : Nat) : Int) by omega]
      refine GE.loop (i + 1, m, o, d) ⟨by simp only; omega, by simp only; rw [hm, hno hmt]⟩ (by simp only; omega) (by simp only [fits]; repeat (first | exact trivial | refine And.intro rfl ?_)) (by repeat (first | exact Takes.nil | apply Takes.dup rfl | apply Takes.cons | exact Take1.here | apply Take1.there)) (by repeat (first | exact Subs.refl | refine Subs.skip ?_))
    | true =>
      have hcat2 : flat eO ((names.take i).filter (mtB l)) ++ flat eO [names.getD i default] = flat eO ((names.take (i + 1)).filter (mtB l)) := by rw [← flat_append, hcat hmt]
      repeat (first | (apply G.ex (hd := rfl); case h => (first | exact Ex.move rfl)) | refine G.nil ?_ | refine GC.region ?_ | refine GE.then_normal ?_ | refine GC.cond_t rfl ?_)
      refine G.lit (cells := flat eO [names.getD i default]) rfl (by rfl) (by rfl) (by rfl) (by rfl) (by rfl) (by rfl) rfl (fun q => ?_)
      refine G.app rfl rfl (by rfl) (by omega) rfl (hcat2) (fun o2 d2 rs_ hrs_ => ?_)
      try simp only at hrs_
      subst hrs_
      repeat (first | (apply G.ex (hd := rfl); case h => (first | exact Ex.move rfl | exact Ex.add rfl rfl (by omega) | exact Ex.assign rfl)) | refine G.nil ?_ | refine GC.region ?_ | refine GE.then_normal ?_ | refine GE.block_normal ?_)
      rw [show (i : Int) + 1 = ((i + 1 : Nat) : Int) by omega]
      refine GE.loop (i + 1, m + 1, o2, d2) ⟨by simp only; omega, by simp only; rw [hm, ← hcat hmt, List.length_append]; rfl⟩ (by simp only; omega) (by simp only [fits]; repeat (first | exact trivial | refine And.intro rfl ?_)) (by repeat (first | exact Takes.nil | apply Takes.dup rfl | apply Takes.cons | exact Take1.here | apply Take1.there)) (by repeat (first | exact Subs.refl | refine Subs.skip ?_))
  · obtain rfl : i = n := by omega
    rw [List.take_of_length_le (by omega)] at hm ⊢
    repeat (first | (apply G.ex (hd := rfl); case h => (first | exact Ex.move rfl | exact Ex.assign rfl)) | refine G.nil ?_ | refine GC.seq ?_ | refine GC.region ?_ | refine GC.ret ?_ | refine GC.exit ?_ | refine GE.then_normal ?_ | refine GE.then_exit ?_ | refine GE.block_hit ?_)
    refine GE.ret (by first | exact .inl rfl | exact .inr rfl) (by first | exact res0 Try.results12 | exact res1 Try.results12 rfl | exact res2 Try.results12 rfl rfl | exact resR1 Try.results12 (by first | exact RV.tmp rfl | exact RV.cell rfl (eP_len _) | exact RV.cell rfl rfl | exact RV.cell1 rfl) | exact resR2 Try.results12 (by first | exact RV.tmp rfl | exact RV.cell rfl (eP_len _) | exact RV.cell rfl rfl | exact RV.cell1 rfl) (by first | exact RV.tmp rfl | exact RV.cell rfl (eP_len _) | exact RV.cell rfl rfl | exact RV.cell1 rfl) | exact resR3 Try.results12 (by first | exact RV.tmp rfl | exact RV.cell rfl (eP_len _) | exact RV.cell rfl rfl | exact RV.cell1 rfl) (by first | exact RV.tmp rfl | exact RV.cell rfl (eP_len _) | exact RV.cell rfl rfl | exact RV.cell1 rfl) (by first | exact RV.tmp rfl | exact RV.cell rfl (eP_len _) | exact RV.cell rfl rfl | exact RV.cell1 rfl)) ⟨_, _, _, hm, rfl, rfl⟩ (by repeat (first | exact Takes.nil | apply Takes.dup rfl | apply Takes.cons | exact Take1.here | apply Take1.there)) (by repeat (first | exact Subs.refl | refine Subs.skip ?_))
theorem sameTexts_sp (r r' : Res) (ao bo : Option Addr) (n c d : Nat) (xs : List (List UInt8)) (hx : xs.length = n) (h1 : n ≤ 1000) [hr : RdR r ao n c 1 (flat eO xs)] [hr' : RdR r' bo n d 1 (flat eO xs)] :
    Spec Try.prog 13 [.slice ao n c, .slice bo n d] [r, r'] fun v give => v = .bool true ∧ give = [r, r'] := by
  have hnn : ¬ ¬ ((n : Nat) : Int) = ((n : Nat) : Int) := fun h => h rfl
  refine Spec.intro Try.func13 rfl Try.ntmps13 rfl fun w0 rest rs_ hrs_ => ?_
  simp only [List.cons_append, List.nil_append] at hrs_
  subst hrs_
  repeat (first | (apply G.ex (hd := rfl); case h => (first | exact Ex.move rfl | exact Ex.neI rfl rfl | exact Ex.lenSl rfl | exact Ex.assign rfl)) | refine G.nil ?_ | refine GC.seq ?_ | refine GC.region ?_ | refine GC.block ?_ | refine GC.skip ?_ | refine GE.then_normal ?_ | refine GC.cond_no rfl (by first | assumption | omega) ?_)
  refine GC.loop (ι := Nat) (fun i => i ≤ n) (fun i => n - i) (fun i => [(0, .slice ao n c), (1, .slice bo n d), (5, .int .i64 (i : Int))]) (fun _ => [r, r']) 0 (Nat.zero_le _) (by simp only [fits]; repeat (first | exact trivial | refine And.intro rfl ?_)) (by repeat (first | exact Takes.nil | apply Takes.dup rfl | apply Takes.cons | exact Take1.here | apply Take1.there)) ?_
  rintro i hi fr_ rs_ hfr_ hrs_
  simp only [List.cons_append, List.nil_append] at hfr_ hrs_
  subst hfr_ hrs_
  repeat (first | (apply G.ex (hd := rfl); case h => (first | exact Ex.move rfl | exact Ex.lss rfl rfl | exact Ex.lenSl rfl)) | refine G.nil ?_ | refine GC.seq ?_ | refine GC.region ?_ | refine GE.then_normal ?_)
  refine GC.cond_dec rfl (fun hlt => ?_) (fun hlt => ?_)
  · have hlt : i < n := by omega
    have hee : ¬ ¬ xs.getD i default = xs.getD i default := fun h => h rfl
    repeat (first | (apply G.ex (hd := rfl); case h => (first | exact Ex.move rfl | exact Ex.add rfl rfl (by omega) | exact Ex.assign rfl)) | refine G.nil ?_ | (apply Gq.ex (hd := rfl); case h => (first | exact Ex.move rfl | exact Ex.neO rfl rfl | exact Ex.indexN rfl rfl (by first | omega | (simp; done) | (simp; omega)) | exact Ex.loadT0 rfl (by first | omega | (simp; done) | (simp; omega)) rfl)) | refine Gq.nil ?_ | refine GC.seq ?_ | refine GC.region ?_ | refine GC.draw (by kernel_rfl) (by kernel_rfl) ?_ | refine GC.block ?_ | refine GC.skip ?_ | refine GE.then_normal ?_ | refine GE.block_normal ?_ | refine GC.cond_no rfl (by first | assumption | omega) ?_)
    rw [show (i : Int) + 1 = ((i + 1 : Nat) : Int) by omega]
    refine GE.loop (i + 1) (by omega) (by omega) (by simp only [fits]; repeat (first | exact trivial | refine And.intro rfl ?_)) (by repeat (first | exact Takes.nil | apply Takes.dup rfl | apply Takes.cons | exact Take1.here | apply Take1.there)) (by repeat (first | exact Subs.refl | refine Subs.skip ?_))
  · repeat (first | (apply G.ex (hd := rfl); case h => (first | exact Ex.assign rfl)) | refine G.nil ?_ | refine GC.seq ?_ | refine GC.region ?_ | refine GC.ret ?_ | refine GC.exit ?_ | refine GE.then_normal ?_ | refine GE.then_exit ?_ | refine GE.block_hit ?_)
    refine GE.ret (by first | exact .inl rfl | exact .inr rfl) (by first | exact res0 Try.results13 | exact res1 Try.results13 rfl | exact res2 Try.results13 rfl rfl | exact resR1 Try.results13 (by first | exact RV.tmp rfl | exact RV.cell rfl (eP_len _) | exact RV.cell rfl rfl | exact RV.cell1 rfl) | exact resR2 Try.results13 (by first | exact RV.tmp rfl | exact RV.cell rfl (eP_len _) | exact RV.cell rfl rfl | exact RV.cell1 rfl) (by first | exact RV.tmp rfl | exact RV.cell rfl (eP_len _) | exact RV.cell rfl rfl | exact RV.cell1 rfl) | exact resR3 Try.results13 (by first | exact RV.tmp rfl | exact RV.cell rfl (eP_len _) | exact RV.cell rfl rfl | exact RV.cell1 rfl) (by first | exact RV.tmp rfl | exact RV.cell rfl (eP_len _) | exact RV.cell rfl rfl | exact RV.cell1 rfl) (by first | exact RV.tmp rfl | exact RV.cell rfl (eP_len _) | exact RV.cell rfl rfl | exact RV.cell1 rfl)) ⟨rfl, rfl⟩ (by repeat (first | exact Takes.nil | apply Takes.dup rfl | apply Takes.cons | exact Take1.here | apply Take1.there)) (by repeat (first | exact Subs.refl | refine Subs.skip ?_))
end glob
end Go.Proofs.Ytmkojbeongiimaa
