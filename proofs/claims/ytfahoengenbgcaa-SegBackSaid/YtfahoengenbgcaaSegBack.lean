/-
  CONTRACT of packthreadkeep.SegBack: it returns true. By the kit.
-/
import Derived.Test.YtfahoengenbgcaaSeg4
namespace Go.Proofs.Ytfahoengenbgcaa
open Go.RowKit
attribute [local irreducible] Ex G GC GE Gq FPost LPost
set_option linter.unusedVariables false
set_option linter.unusedSimpArgs false

namespace seg
set_option maxHeartbeats 4000000 in
set_option maxRecDepth 100000 in
theorem segBack_sp (a0 : Int) (ha0 : -9223372036854775808 ≤ a0 ∧ a0 ≤ 9223372036854775807) (a1 : Int) (ha1 : -9223372036854775808 ≤ a1 ∧ a1 ≤ 9223372036854775807) (a2 : Int) (ha2 : -9223372036854775808 ≤ a2 ∧ a2 ≤ 9223372036854775807) (a3 : Int) (ha3 : -9223372036854775808 ≤ a3 ∧ a3 ≤ 9223372036854775807) (a4 : Option Addr) (len4 cap4 : Nat) (z4 : List Int) (hl4 : z4.length = len4) (hb4 : len4 ≤ 9223372036854775807) (hw4 : ∀ z ∈ z4, -9223372036854775808 ≤ z ∧ z ≤ 9223372036854775807) (a5 : Option Addr) (len5 cap5 : Nat) (z5 : List UInt8) (hl5 : z5.length = len5) (hb5 : len5 ≤ 9223372036854775807) :
    Spec Try.prog 3 [.int .i64 a0, .int .i64 a1, .int .i64 a2, .int .i64 a3, .slice a4 len4 cap4, .slice a5 len5 cap5] [.sl a4 len4 cap4 1 (flat (eI .i64) z4), .sl a5 len5 cap5 1 (flat eB z5)] fun v give => v = .bool true ∧ give = [] := by
  have q1 := Int.emod_nonneg a3 (show (16 : Int) ≠ 0 by decide)
  have q2 := Int.emod_lt_of_pos a3 (show (0 : Int) < 16 by decide)
  obtain ⟨f, hf⟩ : ∃ f : Nat, a3 % 16 = (f : Int) := ⟨(a3 % 16).toNat, by omega⟩
  obtain ⟨s, hs⟩ : ∃ s, s = segOf a0 a1 a2 f z4 z5 := ⟨_, rfl⟩
  obtain ⟨hR, h0, h3, h64⟩ := segOf_ok a0 a1 a2 f (by omega) z4 z5
  rw [← hs] at hR h0 h3 h64
  have S := seg_sp a0 a1 a2 a3 (by omega) f hf a4 len4 cap4 z4 hl4 hb4 hw4 a5 len5 cap5 z5 hl5 hb5 s hs
  have hel := enc_len s
  have h1024 : 10 + 4 * s.sk.length + s.d.length ≤ 1024 := by omega
  unfold eSg sg at S
  refine Spec.intro Try.func3 rfl Try.ntmps3 rfl fun w0 rest rs_ hrs_ => ?_
  simp only [List.cons_append, List.nil_append] at hrs_
  subst hrs_
  repeat (first | (apply G.ex (hd := rfl); case h => (first | exact Ex.move rfl | exact Ex.assign rfl)) | refine G.nil ?_ | refine GC.seq ?_ | refine GC.region ?_ | refine GE.then_normal ?_)
  first | refine G.call (caps := []) (S) rfl rfl rfl rfl (by repeat (first | exact Takes.nil | apply Takes.dup rfl | apply Takes.cons | exact Take1.here | apply Take1.there)) ?_ | refine G.callU (caps := []) (S) rfl rfl rfl (by repeat (first | exact Takes.nil | apply Takes.dup rfl | apply Takes.cons | exact Take1.here | apply Take1.there)) ?_
  rintro v_ give_ ⟨ra, rc, da, dc, rfl, rfl⟩ rs_ hrs_
  simp only [List.cons_append, List.nil_append] at hrs_
  subst hrs_
  repeat (first | fail)
  refine G.alloc rfl (fun b1 => ?_)
  repeat (first | refine G.storeBA rfl rfl rfl rfl rfl ?_ | (apply G.ex (hd := rfl); case h => (first | exact Ex.loadBA rfl rfl rfl)) | refine G.nil ?_ | refine GC.seq ?_ | refine GC.region ?_ | refine GE.then_normal ?_)
  have E := encode_sp s hR h0 (.vec 41 2 ra s.sk.length rc (flat eR s.sk)) (.vec 5 1 da s.d.length dc (flat eB s.d)) ra rc da dc
  unfold eSg sg at E
  first | refine G.call (caps := []) (E) rfl rfl rfl rfl (by repeat (first | exact Takes.nil | apply Takes.dup rfl | apply Takes.cons | exact Take1.here | apply Take1.there)) ?_ | refine G.callU (caps := []) (E) rfl rfl rfl (by repeat (first | exact Takes.nil | apply Takes.dup rfl | apply Takes.cons | exact Take1.here | apply Take1.there)) ?_
  rintro v_ give_ ⟨o1, c1, rfl, rfl⟩ rs_ hrs_
  simp only [List.cons_append, List.nil_append] at hrs_
  subst hrs_
  repeat (first | (apply G.ex (hd := rfl); case h => (first | exact Ex.move rfl | exact Ex.extract rfl rfl | exact Ex.assign rfl)) | refine G.nil ?_ | refine GC.seq ?_ | refine GC.region ?_ | refine GE.then_normal ?_)
  refine G.appNil rfl rfl (by rfl) (by omega) rfl (rfl) (fun o2 c2 => ?_)
  first | refine G.frz o2 ?_ | refine GC.frz o2 ?_ | refine GE.frz o2 ?_
  repeat (first | fail)
  have D := decode_sp o2 (10 + 4 * s.sk.length + s.d.length) c2 (enc s) hel (by omega) 0 s (dec_enc hR h0)
  unfold eSg sg at D
  first | refine G.call (caps := []) (D) rfl rfl rfl rfl (by repeat (first | exact Takes.nil | apply Takes.dup rfl | apply Takes.cons | exact Take1.here | apply Take1.there)) ?_ | refine G.callU (caps := []) (D) rfl rfl rfl (by repeat (first | exact Takes.nil | apply Takes.dup rfl | apply Takes.cons | exact Take1.here | apply Take1.there)) ?_
  rintro v_ give_ ⟨sa, sc, ea, ec, rfl, rfl⟩ rs_ hrs_
  simp only [List.cons_append, List.nil_append] at hrs_
  subst hrs_
  repeat (first | (apply G.ex (hd := rfl); case h => (first | exact Ex.move rfl | exact Ex.extract rfl rfl)))
  refine G.alloc rfl (fun b2 => ?_)
  repeat (first | refine G.storeBA rfl rfl rfl rfl rfl ?_ | (apply G.ex (hd := rfl); case h => (first | exact Ex.move rfl | exact Ex.fieldB rfl | exact Ex.loadB rfl rfl | exact Ex.add rfl rfl (by omega) | exact Ex.eqI rfl rfl | exact Ex.lenSl rfl | exact Ex.assign rfl | exact Ex.mul rfl rfl (by omega) | exact Ex.pickT rfl (by first | assumption | omega) rfl | exact Ex.loadBA rfl rfl rfl)) | refine G.g_tt rfl rfl (by first | assumption | omega) ?_ | refine G.nil ?_ | refine GC.seq ?_ | refine GC.region ?_ | refine GE.then_normal ?_)
  have W := sameSeg_sp s (by omega) (by omega) (.vec 41 2 ra s.sk.length rc (flat eR s.sk)) (.vec 5 1 da s.d.length dc (flat eB s.d)) (.vec 41 2 sa s.sk.length sc (flat eR s.sk)) (.vec 5 1 ea s.d.length ec (flat eB s.d)) ra rc da dc sa sc ea ec
  unfold eSg sg at W
  first | refine G.call (caps := []) (W) rfl rfl rfl rfl (by repeat (first | exact Takes.nil | apply Takes.dup rfl | apply Takes.cons | exact Take1.here | apply Take1.there)) ?_ | refine G.callU (caps := []) (W) rfl rfl rfl (by repeat (first | exact Takes.nil | apply Takes.dup rfl | apply Takes.cons | exact Take1.here | apply Take1.there)) ?_
  rintro v_ give_ ⟨rfl, rfl⟩ rs_ hrs_
  simp only [List.cons_append, List.nil_append] at hrs_
  subst hrs_
  repeat (first | (apply G.ex (hd := rfl); case h => (first | exact Ex.assign rfl | exact Ex.pickT rfl (by first | assumption | omega) rfl)) | refine G.nil ?_ | refine GC.ret ?_ | refine GE.then_normal ?_)
  refine GE.ret (by first | exact .inl rfl | exact .inr rfl) (by first | exact res0 Try.results3 | exact res1 Try.results3 rfl | exact res2 Try.results3 rfl rfl | exact resR1 Try.results3 (by first | exact RV.tmp rfl | exact RV.cell rfl rfl | exact RV.cell1 rfl) | exact resR2 Try.results3 (by first | exact RV.tmp rfl | exact RV.cell rfl rfl | exact RV.cell1 rfl) (by first | exact RV.tmp rfl | exact RV.cell rfl rfl | exact RV.cell1 rfl) | exact resR3 Try.results3 (by first | exact RV.tmp rfl | exact RV.cell rfl rfl | exact RV.cell1 rfl) (by first | exact RV.tmp rfl | exact RV.cell rfl rfl | exact RV.cell1 rfl) (by first | exact RV.tmp rfl | exact RV.cell rfl rfl | exact RV.cell1 rfl)) ⟨rfl, rfl⟩ (by repeat (first | exact Takes.nil | apply Takes.dup rfl | apply Takes.cons | exact Take1.here | apply Take1.there)) (by repeat (first | exact Subs.refl | refine Subs.skip ?_))
end seg
end Go.Proofs.Ytfahoengenbgcaa
