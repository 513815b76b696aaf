/-
  CONTRACT of packthreadkeep.SegSees: it returns true. By the kit.
-/
import Derived.Test.YtfahoengenbgcaaSeg4
namespace Go.Proofs.Ytfahoengenbgcaa
open Go.RowKit
attribute [local irreducible] Ex G GC GE Gq FPost LPost
set_option linter.unusedVariables false
set_option linter.unusedSimpArgs false

namespace seg
theorem xor_zero (x : UInt8) : x ^^^ 0 = x := by
  apply UInt8.toNat_inj.1
  rw [UInt8.toNat_xor]
  exact Nat.xor_zero _
theorem xor_ne {x y : UInt8} (h : y ≠ 0) : x ^^^ y ≠ x := fun e => by
  apply h
  have e2 := congrArg UInt8.toNat e
  rw [UInt8.toNat_xor] at e2
  have h3 : x.toNat ^^^ (x.toNat ^^^ y.toNat) = y.toNat := by rw [← Nat.xor_assoc, Nat.xor_self, Nat.zero_xor]
  rw [e2, Nat.xor_self] at h3
  apply UInt8.toNat_inj.1
  rw [← h3]; rfl
theorem set_same {l : List UInt8} {p : Nat} (h : p < l.length) : l.set p (l.getD p default) = l := by
  rw [List.getD_eq_getElem?_getD, List.getElem?_eq_getElem h]
  exact List.set_getElem_self h
set_option maxHeartbeats 4000000 in
set_option maxRecDepth 100000 in
theorem segSees_sp (a0 : Int) (ha0 : -9223372036854775808 ≤ a0 ∧ a0 ≤ 9223372036854775807) (a1 : Int) (ha1 : -9223372036854775808 ≤ a1 ∧ a1 ≤ 9223372036854775807) (a2 : Int) (ha2 : -9223372036854775808 ≤ a2 ∧ a2 ≤ 9223372036854775807) (a3 : Int) (ha3 : -9223372036854775808 ≤ a3 ∧ a3 ≤ 9223372036854775807) (a4 : Option Addr) (len4 cap4 : Nat) (z4 : List Int) (hl4 : z4.length = len4) (hb4 : len4 ≤ 9223372036854775807) (hw4 : ∀ z ∈ z4, -9223372036854775808 ≤ z ∧ z ≤ 9223372036854775807) (a5 : Option Addr) (len5 cap5 : Nat) (z5 : List UInt8) (hl5 : z5.length = len5) (hb5 : len5 ≤ 9223372036854775807) (a6 : Int) (ha6 : -9223372036854775808 ≤ a6 ∧ a6 ≤ 9223372036854775807) (a7 : Int) (ha7 : 0 ≤ a7 ∧ a7 ≤ 255) :
    Spec Try.prog 4 [.int .i64 a0, .int .i64 a1, .int .i64 a2, .int .i64 a3, .slice a4 len4 cap4, .slice a5 len5 cap5, .int .i64 a6, .int .u8 a7] [.sl a4 len4 cap4 1 (flat (eI .i64) z4), .sl a5 len5 cap5 1 (flat eB z5)] fun v give => v = .bool true ∧ give = [] := by
  have q1 := Int.emod_nonneg a3 (show (16 : Int) ≠ 0 by decide)
  have q2 := Int.emod_lt_of_pos a3 (show (0 : Int) < 16 by decide)
  obtain ⟨f, hf⟩ : ∃ f : Nat, a3 % 16 = (f : Int) := ⟨(a3 % 16).toNat, by omega⟩
  obtain ⟨s, hs⟩ : ∃ s, s = segOf a0 a1 a2 f z4 z5 := ⟨_, rfl⟩
  obtain ⟨hR, h0, h3, h64⟩ := segOf_ok a0 a1 a2 f (by omega) z4 z5
  rw [← hs] at hR h0 h3 h64
  have S := seg_sp a0 a1 a2 a3 (by omega) f hf a4 len4 cap4 z4 hl4 hb4 hw4 a5 len5 cap5 z5 hl5 hb5 s hs
  have hel := enc_len s
  have h1024 : 10 + 4 * s.sk.length + s.d.length ≤ 1024 := by omega
  obtain ⟨N, hN⟩ : ∃ N, 10 + 4 * s.sk.length + s.d.length = N := ⟨_, rfl⟩
  have hN10 : 10 ≤ N := by omega
  obtain ⟨c, hc⟩ : ∃ c : UInt8, a7 = (c.toNat : Int) := ⟨byteZ a7, by rw [byteZ_toNat]; omega⟩
  subst hc
  have p1 := Int.emod_nonneg a6 (show (N : Int) ≠ 0 by omega)
  have p2 := Int.emod_lt_of_pos a6 (show (0 : Int) < N by omega)
  obtain ⟨p, hp⟩ : ∃ p : Nat, a6 % (N : Int) = (p : Int) := ⟨(a6 % (N : Int)).toNat, by omega⟩
  rw [hN] at h1024 hel
  have hpl : p < (enc s).length := by omega
  unfold eSg sg at S
  refine Spec.intro Try.func4 rfl Try.ntmps4 rfl fun w0 rest rs_ hrs_ => ?_
  simp only [List.cons_append, List.nil_append] at hrs_
  subst hrs_
  repeat (first | (apply G.ex (hd := rfl); case h => (first | exact Ex.move rfl | exact Ex.assign rfl)) | refine G.nil ?_ | refine GC.seq ?_ | refine GC.region ?_ | refine GE.then_normal ?_)
  first | refine G.call (caps := []) (S) rfl rfl rfl rfl (by repeat (first | exact Takes.nil | apply Takes.dup rfl | apply Takes.cons | exact Take1.here | apply Take1.there)) ?_ | refine G.callU (caps := []) (S) rfl rfl rfl (by repeat (first | exact Takes.nil | apply Takes.dup rfl | apply Takes.cons | exact Take1.here | apply Take1.there)) ?_
  rintro v_ give_ ⟨ra, rc, da, dc, rfl, rfl⟩ rs_ hrs_
  simp only [List.cons_append, List.nil_append] at hrs_
  subst hrs_
  repeat (first | fail)
  have E := encode_sp s hR h0 (.vec 41 2 ra s.sk.length rc (flat eR s.sk)) (.vec 5 1 da s.d.length dc (flat eB s.d)) ra rc da dc
  unfold eSg sg at E
  rw [hN] at E
  first | refine G.call (caps := []) (E) rfl rfl rfl rfl (by repeat (first | exact Takes.nil | apply Takes.dup rfl | apply Takes.cons | exact Take1.here | apply Take1.there)) ?_ | refine G.callU (caps := []) (E) rfl rfl rfl (by repeat (first | exact Takes.nil | apply Takes.dup rfl | apply Takes.cons | exact Take1.here | apply Take1.there)) ?_
  rintro v_ give_ ⟨o1, c1, rfl, rfl⟩ rs_ hrs_
  simp only [List.cons_append, List.nil_append] at hrs_
  subst hrs_
  repeat (first | (apply G.ex (hd := rfl); case h => (first | exact Ex.move rfl | exact Ex.lss rfl rfl | exact Ex.neI rfl rfl | exact Ex.lenSl rfl | exact Ex.extract rfl rfl | exact Ex.assign rfl | exact Ex.pickF rfl (by first | assumption | omega) rfl)) | refine G.g_ff rfl rfl (by first | assumption | omega) ?_ | refine G.nil ?_ | refine GC.seq ?_ | refine GC.region ?_ | refine GC.skip ?_ | refine GE.then_normal ?_ | refine GC.cond_no rfl (by first | assumption | omega) ?_)
  refine G.appNil rfl rfl (by rfl) (by omega) rfl (rfl) (fun o2 c2 => ?_)
  repeat (first | (apply G.ex (hd := rfl); case h => (first | exact Ex.move rfl | exact Ex.lenSl rfl | exact Ex.assign rfl)) | refine G.nil ?_ | refine GC.seq ?_ | refine GC.region ?_ | refine GE.then_normal ?_)
  first | refine G.call (caps := []) (picked_sp a6 (N : Int) (by omega) (by omega)) rfl rfl rfl rfl (by repeat (first | exact Takes.nil | apply Takes.dup rfl | apply Takes.cons | exact Take1.here | apply Take1.there)) ?_ | refine G.callU (caps := []) (picked_sp a6 (N : Int) (by omega) (by omega)) rfl rfl rfl (by repeat (first | exact Takes.nil | apply Takes.dup rfl | apply Takes.cons | exact Take1.here | apply Take1.there)) ?_
  rintro v_ give_ ⟨rfl, rfl⟩ rs_ hrs_
  simp only [List.cons_append, List.nil_append] at hrs_
  subst hrs_
  rw [hp]
  repeat (first | (apply G.ex (hd := rfl); case h => (first | exact Ex.move rfl | exact Ex.indexN rfl rfl (by first | omega | (simp; done) | (simp; omega)) | exact Ex.loadT0 rfl (by first | omega | (simp; done) | (simp; omega)) rfl | exact Ex.xorB rfl rfl)))
  first | refine G.storeT0 rfl rfl rfl rfl (by first | omega | (simp; omega)) rfl (((enc s).getD p default ^^^ c)) (rfl) (fun rs_ hrs_ => ?_) | refine G.storeT rfl rfl rfl rfl (by first | omega | (simp; omega)) rfl (((enc s).getD p default ^^^ c)) (rfl) (fun rs_ hrs_ => ?_) | refine G.storeTA rfl rfl (by first | omega | (simp; omega)) rfl (((enc s).getD p default ^^^ c)) (rfl) (fun rs_ hrs_ => ?_)
  try simp only at hrs_
  subst hrs_
  have hyl : ((enc s).set p ((enc s).getD p default ^^^ c)).length = N := by rw [List.length_set]; exact hel
  first | refine G.frz o2 ?_ | refine GC.frz o2 ?_ | refine GE.frz o2 ?_
  by_cases hc0 : c = 0
  · have hd : dec ((enc s).set p ((enc s).getD p default ^^^ c)) = (0, s) := by rw [hc0, xor_zero, set_same hpl]; exact dec_enc hR h0
    have hcz : ((c.toNat : Nat) : Int) = 0 := by rw [hc0]; rfl
    have D := decode_sp o2 N c2 _ hyl (by omega) 0 s hd
    unfold eSg sg at D
    repeat (first | (apply G.ex (hd := rfl); case h => (first | exact Ex.move rfl)) | refine G.nil ?_ | refine GC.seq ?_ | refine GC.region ?_ | refine GE.then_normal ?_)
    first | refine G.call (caps := []) (D) rfl rfl rfl rfl (by repeat (first | exact Takes.nil | apply Takes.dup rfl | apply Takes.cons | exact Take1.here | apply Take1.there)) ?_ | refine G.callU (caps := []) (D) rfl rfl rfl (by repeat (first | exact Takes.nil | apply Takes.dup rfl | apply Takes.cons | exact Take1.here | apply Take1.there)) ?_
    rintro v_ give_ ⟨sa, sc, ea, ec, rfl, rfl⟩ rs_ hrs_
    simp only [List.cons_append, List.nil_append] at hrs_
    subst hrs_
    repeat (first | (apply G.ex (hd := rfl); case h => (first | exact Ex.move rfl | exact Ex.extract rfl rfl)))
    refine G.alloc rfl (fun b2 => ?_)
    repeat (first | refine G.storeBA rfl rfl rfl rfl rfl ?_ | (apply G.ex (hd := rfl); case h => (first | exact Ex.move rfl | exact Ex.eqI rfl rfl | exact Ex.assign rfl)) | refine G.nil ?_ | refine GC.seq ?_ | refine GC.region ?_ | refine GC.ret ?_ | refine GE.then_normal ?_ | refine GE.then_ret ?_ | refine GC.cond_yes rfl (by first | assumption | omega) ?_)
    refine GE.ret (by first | exact .inl rfl | exact .inr rfl) (by first | exact res0 Try.results4 | exact res1 Try.results4 rfl | exact res2 Try.results4 rfl rfl | exact resR1 Try.results4 (by first | exact RV.tmp rfl | exact RV.cell rfl rfl | exact RV.cell1 rfl) | exact resR2 Try.results4 (by first | exact RV.tmp rfl | exact RV.cell rfl rfl | exact RV.cell1 rfl) (by first | exact RV.tmp rfl | exact RV.cell rfl rfl | exact RV.cell1 rfl) | exact resR3 Try.results4 (by first | exact RV.tmp rfl | exact RV.cell rfl rfl | exact RV.cell1 rfl) (by first | exact RV.tmp rfl | exact RV.cell rfl rfl | exact RV.cell1 rfl) (by first | exact RV.tmp rfl | exact RV.cell rfl rfl | exact RV.cell1 rfl)) ⟨rfl, rfl⟩ (by repeat (first | exact Takes.nil | apply Takes.dup rfl | apply Takes.cons | exact Take1.here | apply Take1.there)) (by repeat (first | exact Subs.refl | refine Subs.skip ?_))
  · have hd : dec ((enc s).set p ((enc s).getD p default ^^^ c)) = (6, ⟨0, 0, 0, 0, [], []⟩) := dec_seen hpl (xor_ne hc0)
    have hcz : ¬ ((c.toNat : Nat) : Int) = 0 := fun h => hc0 (UInt8.toNat_inj.1 (by rw [show c.toNat = 0 by omega]; rfl))
    have D := decode_sp o2 N c2 _ hyl (by omega) 6 ⟨0, 0, 0, 0, [], []⟩ hd
    unfold eSg sg at D
    repeat (first | (apply G.ex (hd := rfl); case h => (first | exact Ex.move rfl)) | refine G.nil ?_ | refine GC.seq ?_ | refine GC.region ?_ | refine GE.then_normal ?_)
    first | refine G.call (caps := []) (D) rfl rfl rfl rfl (by repeat (first | exact Takes.nil | apply Takes.dup rfl | apply Takes.cons | exact Take1.here | apply Take1.there)) ?_ | refine G.callU (caps := []) (D) rfl rfl rfl (by repeat (first | exact Takes.nil | apply Takes.dup rfl | apply Takes.cons | exact Take1.here | apply Take1.there)) ?_
    rintro v_ give_ ⟨sa, sc, ea, ec, rfl, rfl⟩ rs_ hrs_
    simp only [List.cons_append, List.nil_append] at hrs_
    subst hrs_
    first | refine G.nilvec 41 2 ?_ | refine GC.nilvec 41 2 ?_
    first | refine G.nilvec 5 1 ?_ | refine GC.nilvec 5 1 ?_
    repeat (first | (apply G.ex (hd := rfl); case h => (first | exact Ex.move rfl | exact Ex.extract rfl rfl)))
    refine G.alloc rfl (fun b2 => ?_)
    repeat (first | refine G.storeBA rfl rfl rfl rfl rfl ?_ | (apply G.ex (hd := rfl); case h => (first | exact Ex.move rfl | exact Ex.eqI rfl rfl | exact Ex.assign rfl | exact Ex.loadBA rfl rfl rfl | exact Ex.build rfl rfl)) | refine G.g_tt rfl rfl (by first | assumption | omega) ?_ | refine G.nil ?_ | refine GC.seq ?_ | refine GC.region ?_ | refine GC.skip ?_ | refine GE.then_normal ?_ | refine GC.cond_no rfl (by first | assumption | omega) ?_)
    have W := sameSeg_sp ⟨0, 0, 0, 0, [], []⟩ (by simp) (by simp) (.vec 41 2 sa 0 sc []) (.vec 5 1 ea 0 ec []) (.vec 41 2 none 0 0 []) (.vec 5 1 none 0 0 []) sa sc ea ec none 0 none 0
    unfold eSg sg at W
    first | refine G.call (caps := []) (W) rfl rfl rfl rfl (by repeat (first | exact Takes.nil | apply Takes.dup rfl | apply Takes.cons | exact Take1.here | apply Take1.there)) ?_ | refine G.callU (caps := []) (W) rfl rfl rfl (by repeat (first | exact Takes.nil | apply Takes.dup rfl | apply Takes.cons | exact Take1.here | apply Take1.there)) ?_
    rintro v_ give_ ⟨rfl, rfl⟩ rs_ hrs_
    simp only [List.cons_append, List.nil_append] at hrs_
    subst hrs_
    repeat (first | (apply G.ex (hd := rfl); case h => (first | exact Ex.assign rfl | exact Ex.pickT rfl (by first | assumption | omega) rfl)) | refine G.nil ?_ | refine GC.ret ?_ | refine GE.then_normal ?_)
    refine GE.ret (by first | exact .inl rfl | exact .inr rfl) (by first | exact res0 Try.results4 | exact res1 Try.results4 rfl | exact res2 Try.results4 rfl rfl | exact resR1 Try.results4 (by first | exact RV.tmp rfl | exact RV.cell rfl rfl | exact RV.cell1 rfl) | exact resR2 Try.results4 (by first | exact RV.tmp rfl | exact RV.cell rfl rfl | exact RV.cell1 rfl) (by first | exact RV.tmp rfl | exact RV.cell rfl rfl | exact RV.cell1 rfl) | exact resR3 Try.results4 (by first | exact RV.tmp rfl | exact RV.cell rfl rfl | exact RV.cell1 rfl) (by first | exact RV.tmp rfl | exact RV.cell rfl rfl | exact RV.cell1 rfl) (by first | exact RV.tmp rfl | exact RV.cell rfl rfl | exact RV.cell1 rfl)) ⟨rfl, rfl⟩ (by repeat (first | exact Takes.nil | apply Takes.dup rfl | apply Takes.cons | exact Take1.here | apply Take1.there)) (by repeat (first | exact Subs.refl | refine Subs.skip ?_))
end seg
end Go.Proofs.Ytfahoengenbgcaa
