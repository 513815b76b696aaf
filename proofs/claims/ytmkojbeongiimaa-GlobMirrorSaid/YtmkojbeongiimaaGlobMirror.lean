/-
  CONTRACT of packthreadkeep.GlobMirror: it is true.
-/
import Derived.Test.YtmkojbeongiimaaGlobQ
namespace Go.Proofs.Ytmkojbeongiimaa
open Go.RowKit
open glob
attribute [local irreducible] Ex G GC GE Gq FPost LPost
set_option linter.unusedVariables false
set_option linter.unusedSimpArgs false
namespace glob
theorem rev_step {α : Type} [Inhabited α] (l : List α) (k : Nat) (h : k < l.length) : (l.drop (k + 1)).reverse ++ [l.getD k default] = (l.drop k).reverse := by
  rw [drop_at h, List.reverse_cons]
theorem take_getD {α : Type} [Inhabited α] (l : List α) (m k : Nat) (h : k < m) : (l.take m).getD k default = l.getD k default := by
  rw [List.getD_eq_getElem?_getD, List.getD_eq_getElem?_getD, List.getElem?_take_of_lt h]
theorem cut_one (l : List UInt8) (k : Nat) (h : k < l.length) : (l.drop k).take (k + 1 - k) = [l.getD k default] := by
  rw [drop_at h, show k + 1 - k = 1 by omega]; rfl
set_option maxHeartbeats 1000000 in
theorem globMirror_sp (a0 : Option Addr) (len0 cap0 : Nat) (z0 : List Int) (hl0 : z0.length = len0) (hb0 : len0 ≤ 9223372036854775807) (hw0 : ∀ z ∈ z0, -9223372036854775808 ≤ z ∧ z ≤ 9223372036854775807) (a1 : Option Addr) (len1 cap1 : Nat) (z1 : List Int) (hl1 : z1.length = len1) (hb1 : len1 ≤ 9223372036854775807) (hw1 : ∀ z ∈ z1, -9223372036854775808 ≤ z ∧ z ≤ 9223372036854775807) :
    Spec Try.prog 5 [.slice a0 len0 cap0, .slice a1 len1 cap1] [.sl a0 len0 cap0 1 (flat (eI .i64) z0), .sl a1 len1 cap1 1 (flat (eI .i64) z1)] fun v give => v = .bool true ∧ give = [] := by
  refine Spec.intro Try.func5 rfl Try.ntmps5 rfl fun w0 rest rs_ hrs_ => ?_
  simp only [List.cons_append, List.nil_append] at hrs_
  subst hrs_
  repeat (first | (apply G.ex (hd := rfl); case h => (first | exact Ex.move rfl | exact Ex.assign rfl)) | refine G.nil ?_ | refine GC.seq ?_ | refine GC.region ?_ | refine GE.then_normal ?_)
  first | refine G.call (caps := []) (Short_sp (.sl a1 len1 cap1 1 (flat (eI .i64) z1)) a1 len1 cap1 z1 hl1 14 (by omega)) rfl rfl rfl rfl (by repeat (first | exact Takes.nil | apply Takes.dup rfl | apply Takes.cons | exact Take1.here | apply Take1.there)) ?_ | refine G.callU (caps := []) (Short_sp (.sl a1 len1 cap1 1 (flat (eI .i64) z1)) a1 len1 cap1 z1 hl1 14 (by omega)) rfl rfl rfl (by repeat (first | exact Takes.nil | apply Takes.dup rfl | apply Takes.cons | exact Take1.here | apply Take1.there)) ?_
  rintro v_ give_ ⟨rfl, rfl⟩ rs_ hrs_
  simp only [List.cons_append, List.nil_append] at hrs_
  subst hrs_
  have hs := short_len (z1.take 14)
  rw [List.length_take] at hs
  generalize short (z1.take 14) = s at *
  repeat (first | (apply G.ex (hd := rfl); case h => (first | exact Ex.move rfl | exact Ex.sub rfl rfl (by omega) | exact Ex.lenSl rfl | exact Ex.assign rfl | exact Ex.min rfl rfl)) | refine G.nil ?_ | refine GC.seq ?_ | refine GC.region ?_ | refine GC.block ?_ | refine GE.then_normal ?_)
  obtain ⟨m, hm⟩ : ∃ m, m = min len0 7 := ⟨_, rfl⟩
  have hml : (z0.take 7).length = m := by rw [List.length_take, hm, hl0, Nat.min_comm]
  rw [show min (len0 : Int) 7 = (m : Int) by omega]
  repeat (first | fail)
  first | refine G.nilvec 3 1 ?_ | refine GC.nilvec 3 1 ?_
  rw [show ([] : List Value) = flat (eI .i64) (((z0.take 7).drop m).reverse) by rw [List.drop_eq_nil_of_le (by omega)]; rfl]
  refine GC.loop (ι := Nat × Nat × Option Addr × Nat) (fun x => x.1 + x.2.1 = m) (fun x => x.1) (fun x => [(0, .slice a0 len0 cap0), (5, .string (sOf s)), (6, .slice x.2.2.1 x.2.1 x.2.2.2), (7, .int .i64 ((x.1 : Int) - 1))]) (fun x => [.sl a0 len0 cap0 1 (flat (eI .i64) z0), .vec 3 1 x.2.2.1 x.2.1 x.2.2.2 (flat (eI .i64) (((z0.take 7).drop x.1).reverse))]) (m, 0, none, 0) rfl (by simp only [fits]; repeat (first | exact trivial | refine And.intro rfl ?_)) (by repeat (first | exact Takes.nil | apply Takes.dup rfl | apply Takes.cons | exact Take1.here | apply Take1.there)) ?_
  rintro ⟨k, j, ao, c⟩ hk fr_ rs_ hfr_ hrs_
  simp only [List.cons_append, List.nil_append] at hfr_ hrs_
  subst hfr_ hrs_
  simp only at hk
  by_cases h0 : 0 ≤ (k : Int) - 1
  · obtain ⟨k, rfl⟩ : ∃ k', k = k' + 1 := ⟨k - 1, by omega⟩
    rw [show ((k + 1 : Nat) : Int) - 1 = (k : Int) by omega]
    have h0' : 0 ≤ (k : Int) := by omega
    have hcat : flat (eI .i64) (((z0.take 7).drop (k + 1)).reverse) ++ flat (eI .i64) [z0.getD k default] = flat (eI .i64) (((z0.take 7).drop k).reverse) := by
      rw [← flat_append, ← rev_step _ k (by omega), take_getD _ _ _ (by omega)]
    repeat (first | (apply G.ex (hd := rfl); case h => (first | exact Ex.move rfl | exact Ex.geq rfl rfl | exact Ex.indexN rfl rfl (by first | omega | (simp; done) | (simp; omega)) | exact Ex.loadT0 rfl (by first | omega | (simp; done) | (simp; omega)) rfl)) | refine G.nil ?_ | refine GC.seq ?_ | refine GC.region ?_ | refine GC.block ?_ | refine GC.skip ?_ | refine GE.then_normal ?_ | refine GC.cond_yes rfl (by first | assumption | omega) ?_)
    refine G.lit rfl (by rfl) (by rfl) (by rfl) (by rfl) (by rfl) (by rfl) rfl (fun q => ?_)
    refine G.app rfl rfl (by rfl) (by omega) rfl (hcat) (fun a2 c2 rs_ hrs_ => ?_)
    try simp only at hrs_
    subst hrs_
    repeat (first | (apply G.ex (hd := rfl); case h => (first | exact Ex.move rfl | exact Ex.sub rfl rfl (by omega) | exact Ex.assign rfl)) | refine G.nil ?_ | refine GC.region ?_ | refine GE.then_normal ?_ | refine GE.block_normal ?_)
    refine GE.loop (k, j + 1, a2, c2) (by simp only; omega) (by simp only; omega) (by simp only [fits]; repeat (first | exact trivial | refine And.intro rfl ?_)) (by repeat (first | exact Takes.nil | apply Takes.dup rfl | apply Takes.cons | exact Take1.here | apply Take1.there)) (by repeat (first | exact Subs.refl | refine Subs.skip ?_))
  · obtain rfl : k = 0 := by omega
    obtain rfl : j = m := by omega
    rw [List.drop_zero]
    repeat (first | (apply G.ex (hd := rfl); case h => (first | exact Ex.move rfl | exact Ex.lenO rfl | exact Ex.sub rfl rfl (by omega) | exact Ex.geq rfl rfl | exact Ex.assign rfl)) | refine G.nil ?_ | refine GC.seq ?_ | refine GC.region ?_ | refine GC.block ?_ | refine GC.exit ?_ | refine GE.then_normal ?_ | refine GE.then_exit ?_ | refine GE.block_hit ?_ | refine GC.cond_no rfl (by first | assumption | omega) ?_)
    refine GC.loop (ι := Nat × List UInt8) (fun x => x.1 ≤ s.length ∧ x.2 = (s.drop x.1).reverse) (fun x => x.1) (fun x => [(0, .slice a0 len0 cap0), (5, .string (sOf s)), (6, .slice ao j c), (8, .string (sOf x.2)), (9, .int .i64 ((x.1 : Int) - 1))]) (fun x => [.sl a0 len0 cap0 1 (flat (eI .i64) z0), .vec 3 1 ao j c (flat (eI .i64) (z0.take 7).reverse)]) (s.length, []) ⟨Nat.le_refl _, by simp only [List.drop_length, List.reverse_nil]⟩ (by simp only [fits]; repeat (first | exact trivial | refine And.intro rfl ?_)) (by repeat (first | exact Takes.nil | apply Takes.dup rfl | apply Takes.cons | exact Take1.here | apply Take1.there)) ?_
    rintro ⟨k, o⟩ ⟨hk, ho⟩ fr_ rs_ hfr_ hrs_
    simp only [List.cons_append, List.nil_append] at hfr_ hrs_
    subst hfr_ hrs_
    simp only at hk ho
    subst ho
    by_cases h0 : 0 ≤ (k : Int) - 1
    · obtain ⟨k, rfl⟩ : ∃ k', k = k' + 1 := ⟨k - 1, by omega⟩
      rw [show ((k + 1 : Nat) : Int) - 1 = (k : Int) by omega]
      have h0' : 0 ≤ (k : Int) := by omega
      have hbn : ((s.drop (k + 1)).reverse).length ≤ 14 := by rw [List.length_reverse, List.length_drop]; omega
      have hbn2 : ((s.drop k).take (k + 1 - k)).length ≤ 14 := by rw [List.length_take, List.length_drop]; omega
      repeat (first | (apply G.ex (hd := rfl); case h => (first | exact Ex.move rfl | exact Ex.add rfl rfl (by omega) | exact Ex.geq rfl rfl)) | refine G.nil ?_ | refine GC.seq ?_ | refine GC.region ?_ | refine GC.block ?_ | refine GC.skip ?_ | refine GE.then_normal ?_ | refine GC.cond_yes rfl (by first | assumption | omega) ?_)
      rw [show (k : Int) + 1 = ((k + 1 : Nat) : Int) by omega]
      repeat (first | (apply G.ex (hd := rfl); case h => (first | exact Ex.move rfl | exact Ex.subMid rfl rfl rfl (by omega) | exact Ex.addO rfl rfl (by omega) | exact Ex.sub rfl rfl (by omega) | exact Ex.assign rfl)) | refine G.nil ?_ | refine GC.region ?_ | refine GE.then_normal ?_ | refine GE.block_normal ?_)
      rw [cut_one s k (by omega), rev_step s k (by omega)]
      refine GE.loop (k, (s.drop k).reverse) ⟨by simp only; omega, rfl⟩ (by simp only; omega) (by simp only [fits]; repeat (first | exact trivial | refine And.intro rfl ?_)) (by repeat (first | exact Takes.nil | apply Takes.dup rfl | apply Takes.cons | exact Take1.here | apply Take1.there)) (by repeat (first | exact Subs.refl | refine Subs.skip ?_))
    · obtain rfl : k = 0 := by omega
      have hp1 := pat_len (z0.take 7)
      have hp2 := pat_len ((z0.take 7).reverse)
      rw [List.length_reverse] at hp2
      repeat (first | (apply G.ex (hd := rfl); case h => (first | exact Ex.move rfl | exact Ex.geq rfl rfl)) | refine G.nil ?_ | refine GC.seq ?_ | refine GC.region ?_ | refine GC.exit ?_ | refine GE.then_normal ?_ | refine GE.then_exit ?_ | refine GE.block_hit ?_ | refine GC.cond_no rfl (by first | assumption | omega) ?_)
      first | refine G.call (caps := []) (matches_sp [97] [97] [oneP 97] toks_a (by decide) (by decide)) rfl rfl rfl rfl (by repeat (first | exact Takes.nil | apply Takes.dup rfl | apply Takes.cons | exact Take1.here | apply Take1.there)) ?_ | refine G.callU (caps := []) (matches_sp [97] [97] [oneP 97] toks_a (by decide) (by decide)) rfl rfl rfl (by repeat (first | exact Takes.nil | apply Takes.dup rfl | apply Takes.cons | exact Take1.here | apply Take1.there)) ?_
      rintro v_ give_ ⟨rfl, rfl⟩ rs_ hrs_
      simp only [List.cons_append, List.nil_append] at hrs_
      subst hrs_
      rw [mtB_true.2 mt_a]
      repeat (first | (apply G.ex (hd := rfl); case h => (first | exact Ex.move rfl)) | refine G.yes rfl rfl ?_)
      first | refine G.call (caps := []) (PatternOf_sp (.sl a0 len0 cap0 1 (flat (eI .i64) z0)) a0 len0 cap0 z0 hl0 7 (by omega)) rfl rfl rfl rfl (by repeat (first | exact Takes.nil | apply Takes.dup rfl | apply Takes.cons | exact Take1.here | apply Take1.there)) ?_ | refine G.callU (caps := []) (PatternOf_sp (.sl a0 len0 cap0 1 (flat (eI .i64) z0)) a0 len0 cap0 z0 hl0 7 (by omega)) rfl rfl rfl (by repeat (first | exact Takes.nil | apply Takes.dup rfl | apply Takes.cons | exact Take1.here | apply Take1.there)) ?_
      rintro v_ give_ ⟨rfl, rfl⟩ rs_ hrs_
      simp only [List.cons_append, List.nil_append] at hrs_
      subst hrs_
      repeat (first | (apply G.ex (hd := rfl); case h => (first | exact Ex.move rfl)) | refine G.yes rfl rfl ?_)
      first | refine G.call (caps := []) (matches_sp (pat (z0.take 7)) s (patP (z0.take 7)) (pat_toks _) (by omega) (by omega)) rfl rfl rfl rfl (by repeat (first | exact Takes.nil | apply Takes.dup rfl | apply Takes.cons | exact Take1.here | apply Take1.there)) ?_ | refine G.callU (caps := []) (matches_sp (pat (z0.take 7)) s (patP (z0.take 7)) (pat_toks _) (by omega) (by omega)) rfl rfl rfl (by repeat (first | exact Takes.nil | apply Takes.dup rfl | apply Takes.cons | exact Take1.here | apply Take1.there)) ?_
      rintro v_ give_ ⟨rfl, rfl⟩ rs_ hrs_
      simp only [List.cons_append, List.nil_append] at hrs_
      subst hrs_
      repeat (first | (apply G.ex (hd := rfl); case h => (first | exact Ex.move rfl)) | refine G.yes rfl rfl ?_)
      first | refine G.call (caps := []) (PatternOf_sp (.vec 3 1 ao j c (flat (eI .i64) (z0.take 7).reverse)) ao j c (z0.take 7).reverse (by rw [List.length_reverse]; exact hml) 7 (by omega)) rfl rfl rfl rfl (by repeat (first | exact Takes.nil | apply Takes.dup rfl | apply Takes.cons | exact Take1.here | apply Take1.there)) ?_ | refine G.callU (caps := []) (PatternOf_sp (.vec 3 1 ao j c (flat (eI .i64) (z0.take 7).reverse)) ao j c (z0.take 7).reverse (by rw [List.length_reverse]; exact hml) 7 (by omega)) rfl rfl rfl (by repeat (first | exact Takes.nil | apply Takes.dup rfl | apply Takes.cons | exact Take1.here | apply Take1.there)) ?_
      rintro v_ give_ ⟨rfl, rfl⟩ rs_ hrs_
      simp only [List.cons_append, List.nil_append] at hrs_
      subst hrs_
      rw [show (z0.take 7).reverse.take 7 = (z0.take 7).reverse from List.take_of_length_le (by rw [List.length_reverse]; omega)]
      repeat (first | (apply G.ex (hd := rfl); case h => (first | exact Ex.move rfl)) | refine G.yes rfl rfl ?_)
      rw [List.drop_zero]
      first | refine G.call (caps := []) (matches_sp (pat (z0.take 7).reverse) s.reverse (patP (z0.take 7).reverse) (pat_toks _) (by omega) (by rw [List.length_reverse]; omega)) rfl rfl rfl rfl (by repeat (first | exact Takes.nil | apply Takes.dup rfl | apply Takes.cons | exact Take1.here | apply Take1.there)) ?_ | refine G.callU (caps := []) (matches_sp (pat (z0.take 7).reverse) s.reverse (patP (z0.take 7).reverse) (pat_toks _) (by omega) (by rw [List.length_reverse]; omega)) rfl rfl rfl (by repeat (first | exact Takes.nil | apply Takes.dup rfl | apply Takes.cons | exact Take1.here | apply Take1.there)) ?_
      rintro v_ give_ ⟨rfl, rfl⟩ rs_ hrs_
      simp only [List.cons_append, List.nil_append] at hrs_
      subst hrs_
      rw [patP_rev, ← mtB_rev]
      repeat (first | (apply G.ex (hd := rfl); case h => (first | exact Ex.assign rfl | exact Ex.eqB rfl rfl | exact Ex.pickLT rfl rfl)) | refine G.yes rfl rfl ?_ | refine G.nil ?_ | refine GC.ret ?_ | refine GE.then_normal ?_)
      refine GE.ret (by first | exact .inl rfl | exact .inr rfl) (by first | exact res0 Try.results5 | exact res1 Try.results5 rfl | exact res2 Try.results5 rfl rfl | exact resR1 Try.results5 (by first | exact RV.tmp rfl | exact RV.cell rfl (eP_len _) | exact RV.cell rfl rfl | exact RV.cell1 rfl) | exact resR2 Try.results5 (by first | exact RV.tmp rfl | exact RV.cell rfl (eP_len _) | exact RV.cell rfl rfl | exact RV.cell1 rfl) (by first | exact RV.tmp rfl | exact RV.cell rfl (eP_len _) | exact RV.cell rfl rfl | exact RV.cell1 rfl) | exact resR3 Try.results5 (by first | exact RV.tmp rfl | exact RV.cell rfl (eP_len _) | exact RV.cell rfl rfl | exact RV.cell1 rfl) (by first | exact RV.tmp rfl | exact RV.cell rfl (eP_len _) | exact RV.cell rfl rfl | exact RV.cell1 rfl) (by first | exact RV.tmp rfl | exact RV.cell rfl (eP_len _) | exact RV.cell rfl rfl | exact RV.cell1 rfl)) ⟨by simp, rfl⟩ (by repeat (first | exact Takes.nil | apply Takes.dup rfl | apply Takes.cons | exact Take1.here | apply Take1.there)) (by repeat (first | exact Subs.refl | refine Subs.skip ?_))
end glob
end Go.Proofs.Ytmkojbeongiimaa
