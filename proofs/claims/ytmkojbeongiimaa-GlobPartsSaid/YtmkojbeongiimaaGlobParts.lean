/-
  CONTRACT of packthreadkeep.GlobParts: it is true.
-/
import Derived.Test.YtmkojbeongiimaaGlobQ
namespace Go.Proofs.Ytmkojbeongiimaa
open Go.RowKit
open glob
attribute [local irreducible] Ex G GC GE Gq FPost LPost
set_option linter.unusedVariables false
set_option linter.unusedSimpArgs false
namespace glob
set_option maxHeartbeats 1000000 in
theorem globParts_sp (a0 : Option Addr) (len0 cap0 : Nat) (z0 : List Int) (hl0 : z0.length = len0) (hb0 : len0 ≤ 9223372036854775807) (hw0 : ∀ z ∈ z0, -9223372036854775808 ≤ z ∧ z ≤ 9223372036854775807) (a1 : Option Addr) (len1 cap1 : Nat) (z1 : List Int) (hl1 : z1.length = len1) (hb1 : len1 ≤ 9223372036854775807) (hw1 : ∀ z ∈ z1, -9223372036854775808 ≤ z ∧ z ≤ 9223372036854775807) (a2 : Option Addr) (len2 cap2 : Nat) (z2 : List Int) (hl2 : z2.length = len2) (hb2 : len2 ≤ 9223372036854775807) (hw2 : ∀ z ∈ z2, -9223372036854775808 ≤ z ∧ z ≤ 9223372036854775807) :
    Spec Try.prog 3 [.slice a0 len0 cap0, .slice a1 len1 cap1, .slice a2 len2 cap2] [.sl a0 len0 cap0 1 (flat (eI .i64) z0), .sl a1 len1 cap1 1 (flat (eI .i64) z1), .sl a2 len2 cap2 1 (flat (eI .i64) z2)] fun v give => v = .bool true ∧ give = [] := by
  refine Spec.intro Try.func3 rfl Try.ntmps3 rfl fun w0 rest rs_ hrs_ => ?_
  simp only [List.cons_append, List.nil_append] at hrs_
  subst hrs_
  repeat (first | (apply G.ex (hd := rfl); case h => (first | exact Ex.move rfl | exact Ex.assign rfl)) | refine G.nil ?_ | refine GC.seq ?_ | refine GC.region ?_ | refine GE.then_normal ?_)
  first | refine G.call (caps := []) (PatternOf_sp (.sl a0 len0 cap0 1 (flat (eI .i64) z0)) a0 len0 cap0 z0 hl0 4 (by omega)) rfl rfl rfl rfl (by repeat (first | exact Takes.nil | apply Takes.dup rfl | apply Takes.cons | exact Take1.here | apply Take1.there)) ?_ | refine G.callU (caps := []) (PatternOf_sp (.sl a0 len0 cap0 1 (flat (eI .i64) z0)) a0 len0 cap0 z0 hl0 4 (by omega)) rfl rfl rfl (by repeat (first | exact Takes.nil | apply Takes.dup rfl | apply Takes.cons | exact Take1.here | apply Take1.there)) ?_
  rintro v_ give_ ⟨rfl, rfl⟩ rs_ hrs_
  simp only [List.cons_append, List.nil_append] at hrs_
  subst hrs_
  repeat (first | (apply G.ex (hd := rfl); case h => (first | exact Ex.move rfl | exact Ex.assign rfl)) | refine G.nil ?_ | refine GC.seq ?_ | refine GC.region ?_ | refine GE.then_normal ?_)
  first | refine G.call (caps := []) (PatternOf_sp (.sl a1 len1 cap1 1 (flat (eI .i64) z1)) a1 len1 cap1 z1 hl1 4 (by omega)) rfl rfl rfl rfl (by repeat (first | exact Takes.nil | apply Takes.dup rfl | apply Takes.cons | exact Take1.here | apply Take1.there)) ?_ | refine G.callU (caps := []) (PatternOf_sp (.sl a1 len1 cap1 1 (flat (eI .i64) z1)) a1 len1 cap1 z1 hl1 4 (by omega)) rfl rfl rfl (by repeat (first | exact Takes.nil | apply Takes.dup rfl | apply Takes.cons | exact Take1.here | apply Take1.there)) ?_
  rintro v_ give_ ⟨rfl, rfl⟩ rs_ hrs_
  simp only [List.cons_append, List.nil_append] at hrs_
  subst hrs_
  repeat (first | (apply G.ex (hd := rfl); case h => (first | exact Ex.move rfl | exact Ex.assign rfl)) | refine G.nil ?_ | refine GC.seq ?_ | refine GC.region ?_ | refine GE.then_normal ?_)
  first | refine G.call (caps := []) (Short_sp (.sl a2 len2 cap2 1 (flat (eI .i64) z2)) a2 len2 cap2 z2 hl2 12 (by omega)) rfl rfl rfl rfl (by repeat (first | exact Takes.nil | apply Takes.dup rfl | apply Takes.cons | exact Take1.here | apply Take1.there)) ?_ | refine G.callU (caps := []) (Short_sp (.sl a2 len2 cap2 1 (flat (eI .i64) z2)) a2 len2 cap2 z2 hl2 12 (by omega)) rfl rfl rfl (by repeat (first | exact Takes.nil | apply Takes.dup rfl | apply Takes.cons | exact Take1.here | apply Take1.there)) ?_
  rintro v_ give_ ⟨rfl, rfl⟩ rs_ hrs_
  simp only [List.cons_append, List.nil_append] at hrs_
  subst hrs_
  have hp := pat_len (z0.take 4)
  have hq := pat_len (z1.take 4)
  have hs := short_len (z2.take 12)
  rw [List.length_take] at hp hq hs
  have tp := pat_toks (z0.take 4)
  have tq := pat_toks (z1.take 4)
  generalize pat (z0.take 4) = p at *
  generalize pat (z1.take 4) = q at *
  generalize patP (z0.take 4) = P at *
  generalize patP (z1.take 4) = Q at *
  generalize short (z2.take 12) = s at *
  repeat (first | (apply G.ex (hd := rfl); case h => (first | exact Ex.assign rfl)) | refine G.nil ?_ | refine GC.seq ?_ | refine GC.region ?_ | refine GC.block ?_ | refine GE.then_normal ?_)
  refine GC.loop (ι := Nat × Bool) (fun x => x.1 ≤ s.length + 1 ∧ (x.2 = true ↔ ∃ j, j < x.1 ∧ Mt P (s.take j) ∧ Mt Q (s.drop j))) (fun x => s.length + 1 - x.1) (fun x => [(7, .string (sOf p)), (8, .string (sOf q)), (9, .string (sOf s)), (10, .bool x.2), (11, .int .i64 (x.1 : Int))]) (fun _ => []) (0, false) ⟨Nat.zero_le _, ⟨fun h => (nomatch h), fun ⟨j, h, _⟩ => absurd h (Nat.not_lt_zero j)⟩⟩ (by simp only [fits]; repeat (first | exact trivial | refine And.intro rfl ?_)) (by repeat (first | exact Takes.nil | apply Takes.dup rfl | apply Takes.cons | exact Take1.here | apply Take1.there)) ?_
  rintro ⟨i, b⟩ ⟨hi, hb⟩ fr_ rs_ hfr_ hrs_
  simp only [List.cons_append, List.nil_append] at hfr_ hrs_
  subst hfr_ hrs_
  simp only at hi hb
  repeat (first | (apply G.ex (hd := rfl); case h => (first | exact Ex.move rfl | exact Ex.lenO rfl | exact Ex.leq rfl rfl)) | refine G.nil ?_ | refine GC.seq ?_ | refine GC.region ?_ | refine GE.then_normal ?_)
  refine GC.cond_dec rfl (fun hle => ?_) (fun hle => ?_)
  · have hle : i ≤ s.length := by omega
    have hnext : ∀ b' : Bool, (b' = true ↔ b = true ∨ (Mt P (s.take i) ∧ Mt Q (s.drop i))) → (b' = true ↔ ∃ j, j < i + 1 ∧ Mt P (s.take j) ∧ Mt Q (s.drop j)) := by
      intro b' h
      rw [h, hb]
      constructor
      · rintro (⟨j, h1, h2⟩ | h)
        · exact ⟨j, by omega, h2⟩
        · exact ⟨i, by omega, h⟩
      · rintro ⟨j, h1, h2⟩
        by_cases e : j = i
        · subst e; exact .inr h2
        · exact .inl ⟨j, by omega, h2⟩
    cases b with
    | true =>
      repeat (first | (apply G.ex (hd := rfl); case h => (first | exact Ex.move rfl | exact Ex.add rfl rfl (by omega) | exact Ex.assign rfl | exact Ex.pickLT rfl rfl)) | refine G.g_un rfl rfl rfl ?_ | refine G.l_ft rfl rfl rfl ?_ | refine G.nil ?_ | refine GC.seq ?_ | refine GC.region ?_ | refine GC.block ?_ | refine GC.skip ?_ | refine GE.then_normal ?_ | refine GE.block_normal ?_)
      rw [show (i : Int) + 1 = ((i + 1 : Nat) : Int) by omega]
      refine GE.loop (i + 1, true) ⟨by simp only; omega, hnext true ⟨fun _ => .inl rfl, fun _ => rfl⟩⟩ (by simp only; omega) (by simp only [fits]; repeat (first | exact trivial | refine And.intro rfl ?_)) (by repeat (first | exact Takes.nil | apply Takes.dup rfl | apply Takes.cons | exact Take1.here | apply Take1.there)) (by repeat (first | exact Subs.refl | refine Subs.skip ?_))
    | false =>
      have ht1 : (s.take i).length ≤ 200 := by rw [List.length_take]; omega
      have ht2 : (s.drop i).length ≤ 200 := by rw [List.length_drop]; omega
      repeat (first | (apply G.ex (hd := rfl); case h => (first | exact Ex.move rfl | exact Ex.subHi rfl rfl (by omega))) | refine G.yes rfl rfl ?_ | refine GC.seq ?_ | refine GC.region ?_ | refine GC.block ?_ | refine GC.skip ?_ | refine GE.then_normal ?_)
      first | refine G.call (caps := []) (matches_sp p (s.take i) P tp (by omega) ht1) rfl rfl rfl rfl (by repeat (first | exact Takes.nil | apply Takes.dup rfl | apply Takes.cons | exact Take1.here | apply Take1.there)) ?_ | refine G.callU (caps := []) (matches_sp p (s.take i) P tp (by omega) ht1) rfl rfl rfl (by repeat (first | exact Takes.nil | apply Takes.dup rfl | apply Takes.cons | exact Take1.here | apply Take1.there)) ?_
      rintro v_ give_ ⟨rfl, rfl⟩ rs_ hrs_
      simp only [List.cons_append, List.nil_append] at hrs_
      subst hrs_
      cases h1 : mtB P (s.take i) with
      | false =>
        repeat (first | (apply G.ex (hd := rfl); case h => (first | exact Ex.move rfl | exact Ex.add rfl rfl (by omega) | exact Ex.assign rfl | exact Ex.pickLF rfl rfl)) | refine G.yes rfl rfl ?_ | refine G.l_tf rfl rfl rfl ?_ | refine G.nil ?_ | refine GC.region ?_ | refine GE.then_normal ?_ | refine GE.block_normal ?_)
        rw [show (i : Int) + 1 = ((i + 1 : Nat) : Int) by omega]
        refine GE.loop (i + 1, false) ⟨by simp only; omega, hnext false ⟨(fun h => nomatch h), fun h => h.elim (fun h => nomatch h) (fun h => absurd h.1 (mtB_false.1 h1))⟩⟩ (by simp only; omega) (by simp only [fits]; repeat (first | exact trivial | refine And.intro rfl ?_)) (by repeat (first | exact Takes.nil | apply Takes.dup rfl | apply Takes.cons | exact Take1.here | apply Take1.there)) (by repeat (first | exact Subs.refl | refine Subs.skip ?_))
      | true =>
        repeat (first | (apply G.ex (hd := rfl); case h => (first | exact Ex.move rfl | exact Ex.subLo rfl rfl (by omega))) | refine G.yes rfl rfl ?_)
        first | refine G.call (caps := []) (matches_sp q (s.drop i) Q tq (by omega) ht2) rfl rfl rfl rfl (by repeat (first | exact Takes.nil | apply Takes.dup rfl | apply Takes.cons | exact Take1.here | apply Take1.there)) ?_ | refine G.callU (caps := []) (matches_sp q (s.drop i) Q tq (by omega) ht2) rfl rfl rfl (by repeat (first | exact Takes.nil | apply Takes.dup rfl | apply Takes.cons | exact Take1.here | apply Take1.there)) ?_
        rintro v_ give_ ⟨rfl, rfl⟩ rs_ hrs_
        simp only [List.cons_append, List.nil_append] at hrs_
        subst hrs_
        repeat (first | (apply G.ex (hd := rfl); case h => (first | exact Ex.move rfl | exact Ex.add rfl rfl (by omega) | exact Ex.assign rfl | exact Ex.pickLT rfl rfl | exact Ex.pickLF rfl rfl)) | refine G.yes rfl rfl ?_ | refine G.nil ?_ | refine GC.region ?_ | refine GE.then_normal ?_ | refine GE.block_normal ?_)
        rw [show (i : Int) + 1 = ((i + 1 : Nat) : Int) by omega]
        refine GE.loop (i + 1, mtB Q (s.drop i)) ⟨by simp only; omega, hnext _ (mtB_true.trans ⟨fun h => .inr ⟨mtB_true.1 h1, h⟩, fun h => h.elim (fun h => nomatch h) (fun h => h.2)⟩)⟩ (by simp only; omega) (by simp only [fits]; repeat (first | exact trivial | refine And.intro rfl ?_)) (by repeat (first | exact Takes.nil | apply Takes.dup rfl | apply Takes.cons | exact Take1.here | apply Take1.there)) (by repeat (first | exact Subs.refl | refine Subs.skip ?_))
  · obtain rfl : i = s.length + 1 := by omega
    repeat (first | refine GC.seq ?_ | refine GC.region ?_ | refine GC.exit ?_ | refine GE.then_normal ?_ | refine GE.then_exit ?_ | refine GE.block_hit ?_)
    first | refine G.call (caps := []) (matches_sp [97] [97] [oneP 97] toks_a (by decide) (by decide)) rfl rfl rfl rfl (by repeat (first | exact Takes.nil | apply Takes.dup rfl | apply Takes.cons | exact Take1.here | apply Take1.there)) ?_ | refine G.callU (caps := []) (matches_sp [97] [97] [oneP 97] toks_a (by decide) (by decide)) rfl rfl rfl (by repeat (first | exact Takes.nil | apply Takes.dup rfl | apply Takes.cons | exact Take1.here | apply Take1.there)) ?_
    rintro v_ give_ ⟨rfl, rfl⟩ rs_ hrs_
    simp only [List.cons_append, List.nil_append] at hrs_
    subst hrs_
    rw [mtB_true.2 mt_a]
    repeat (first | (apply G.ex (hd := rfl); case h => (first | exact Ex.move rfl | exact Ex.addO rfl rfl (by omega))) | refine G.yes rfl rfl ?_)
    first | refine G.call (caps := []) (matches_sp (p ++ q) s (P ++ Q) (tp.app tq) (by rw [List.length_append]; omega) (by omega)) rfl rfl rfl rfl (by repeat (first | exact Takes.nil | apply Takes.dup rfl | apply Takes.cons | exact Take1.here | apply Take1.there)) ?_ | refine G.callU (caps := []) (matches_sp (p ++ q) s (P ++ Q) (tp.app tq) (by rw [List.length_append]; omega) (by omega)) rfl rfl rfl (by repeat (first | exact Takes.nil | apply Takes.dup rfl | apply Takes.cons | exact Take1.here | apply Take1.there)) ?_
    rintro v_ give_ ⟨rfl, rfl⟩ rs_ hrs_
    simp only [List.cons_append, List.nil_append] at hrs_
    subst hrs_
    rw [mtB_app hb]
    repeat (first | (apply G.ex (hd := rfl); case h => (first | exact Ex.move rfl | exact Ex.assign rfl | exact Ex.eqB rfl rfl | exact Ex.pickLT rfl rfl)) | refine G.yes rfl rfl ?_ | refine G.nil ?_ | refine GC.ret ?_ | refine GE.then_normal ?_)
    refine GE.ret (by first | exact .inl rfl | exact .inr rfl) (by first | exact res0 Try.results3 | exact res1 Try.results3 rfl | exact res2 Try.results3 rfl rfl | exact resR1 Try.results3 (by first | exact RV.tmp rfl | exact RV.cell rfl (eP_len _) | exact RV.cell rfl rfl | exact RV.cell1 rfl) | exact resR2 Try.results3 (by first | exact RV.tmp rfl | exact RV.cell rfl (eP_len _) | exact RV.cell rfl rfl | exact RV.cell1 rfl) (by first | exact RV.tmp rfl | exact RV.cell rfl (eP_len _) | exact RV.cell rfl rfl | exact RV.cell1 rfl) | exact resR3 Try.results3 (by first | exact RV.tmp rfl | exact RV.cell rfl (eP_len _) | exact RV.cell rfl rfl | exact RV.cell1 rfl) (by first | exact RV.tmp rfl | exact RV.cell rfl (eP_len _) | exact RV.cell rfl rfl | exact RV.cell1 rfl) (by first | exact RV.tmp rfl | exact RV.cell rfl (eP_len _) | exact RV.cell rfl rfl | exact RV.cell1 rfl)) ⟨by simp, rfl⟩ (by repeat (first | exact Takes.nil | apply Takes.dup rfl | apply Takes.cons | exact Take1.here | apply Take1.there)) (by repeat (first | exact Subs.refl | refine Subs.skip ?_))
end glob
end Go.Proofs.Ytmkojbeongiimaa
