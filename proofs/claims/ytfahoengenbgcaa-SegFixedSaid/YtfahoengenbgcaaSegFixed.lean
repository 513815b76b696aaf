/-
  CONTRACT of packthreadkeep.SegFixed: it returns true. By the kit.
-/
import Derived.Test.YtfahoengenbgcaaSeg4
namespace Go.Proofs.Ytfahoengenbgcaa
open Go.RowKit
attribute [local irreducible] Ex G GC GE Gq FPost LPost
set_option linter.unusedVariables false
set_option linter.unusedSimpArgs false

namespace seg
theorem dec_err {l : List UInt8} {e : Int} {s : Sg} (h : dec l = (e, s)) (he : ¬ e = 0) : (e = 5 ∨ e = 6 ∨ e = 4) ∧ s = ⟨0, 0, 0, 0, [], []⟩ := by
  unfold dec at h
  rw [show (default : Sg) = ⟨0, 0, 0, 0, [], []⟩ from rfl] at h
  split at h
  · obtain ⟨rfl, rfl⟩ := Prod.mk.inj h; exact ⟨.inl rfl, rfl⟩
  split at h
  · obtain ⟨rfl, rfl⟩ := Prod.mk.inj h; exact ⟨.inr (.inl rfl), rfl⟩
  split at h
  · obtain ⟨rfl, rfl⟩ := Prod.mk.inj h; exact ⟨.inr (.inr rfl), rfl⟩
  split at h
  · obtain ⟨rfl, rfl⟩ := Prod.mk.inj h; exact ⟨.inr (.inr rfl), rfl⟩
  · obtain ⟨rfl, rfl⟩ := Prod.mk.inj h; exact absurd rfl he
set_option maxRecDepth 100000 in
theorem dec_none : dec [0, 0, 0, 0, 0, 0, 0, 0, 255, 255] = (0, ⟨0, 0, 0, 0, [], []⟩) := by kernel_rfl
theorem dec_nil : dec [] = (5, ⟨0, 0, 0, 0, [], []⟩) := by rfl
set_option maxHeartbeats 4000000 in
set_option maxRecDepth 100000 in
theorem segFixed_sp (a0 : Option Addr) (len0 cap0 : Nat) (z0 : List UInt8) (hl0 : z0.length = len0) (hb0 : len0 ≤ 140737488351232) :
    Spec Try.prog 5 [.slice a0 len0 cap0] [.sl a0 len0 cap0 1 (flat eB z0)] fun v give => v = .bool true ∧ give = [] := by
  obtain ⟨e, s, hdec⟩ : ∃ e s, dec z0 = (e, s) := ⟨_, _, rfl⟩
  have W := fun (sa : Option Addr) (sc : Nat) (ea : Option Addr) (ec : Nat) => sameSeg_sp ⟨0, 0, 0, 0, [], []⟩ (by simp) (by simp) (.vec 41 2 sa 0 sc []) (.vec 5 1 ea 0 ec []) (.vec 41 2 none 0 0 []) (.vec 5 1 none 0 0 []) sa sc ea ec none 0 none 0
  unfold eSg sg at W
  refine Spec.intro Try.func5 rfl Try.ntmps5 rfl fun w0 rest rs_ hrs_ => ?_
  simp only [List.cons_append, List.nil_append] at hrs_
  subst hrs_
  first | refine G.nilvec 41 2 ?_ | refine GC.nilvec 41 2 ?_
  first | refine G.nilvec 5 1 ?_ | refine GC.nilvec 5 1 ?_
  first | refine G.nilvec 5 1 ?_ | refine GC.nilvec 5 1 ?_
  first | refine G.frz none ?_ | refine GC.frz none ?_ | refine GE.frz none ?_
  repeat (first | (apply G.ex (hd := rfl); case h => (first | exact Ex.move rfl | exact Ex.assign rfl)) | refine G.nil ?_ | refine GC.seq ?_ | refine GC.region ?_ | refine GE.then_normal ?_)
  refine G.appNil rfl rfl (by rfl) (by omega) rfl (rfl) (fun b1 c1 => ?_)
  first | refine G.frz b1 ?_ | refine GC.frz b1 ?_ | refine GE.frz b1 ?_
  repeat (first | fail)
  have D := decode_sp b1 len0 c1 z0 hl0 hb0 e s hdec
  unfold eSg sg at D
  first | refine G.call (caps := []) (D) rfl rfl rfl rfl (by repeat (first | exact Takes.nil | apply Takes.dup rfl | apply Takes.cons | exact Take1.here | apply Take1.there)) ?_ | refine G.callU (caps := []) (D) rfl rfl rfl (by repeat (first | exact Takes.nil | apply Takes.dup rfl | apply Takes.cons | exact Take1.here | apply Take1.there)) ?_
  rintro v_ give_ ⟨ra, rc, da, dc, rfl, rfl⟩ rs_ hrs_
  simp only [List.cons_append, List.nil_append] at hrs_
  subst hrs_
  repeat (first | (apply G.ex (hd := rfl); case h => (first | exact Ex.move rfl | exact Ex.extract rfl rfl)))
  refine G.alloc rfl (fun r1 => ?_)
  repeat (first | refine G.storeBA rfl rfl rfl rfl rfl ?_ | (apply G.ex (hd := rfl); case h => (first | exact Ex.assign rfl)) | refine G.nil ?_ | refine GC.seq ?_ | refine GC.region ?_ | refine GE.then_normal ?_)
  refine G.lit rfl (by rfl) (by rfl) (by rfl) (by rfl) (by rfl) (by rfl) rfl (fun y => ?_)
  first | refine G.frz y ?_ | refine GC.frz y ?_ | refine GE.frz y ?_
  have D2 := decode_sp y 10 10 [0, 0, 0, 0, 0, 0, 0, 0, 255, 255] rfl (by omega) 0 _ dec_none
  unfold eSg sg at D2
  first | refine G.call (caps := []) (D2) rfl rfl rfl rfl (by repeat (first | exact Takes.nil | apply Takes.dup rfl | apply Takes.cons | exact Take1.here | apply Take1.there)) ?_ | refine G.callU (caps := []) (D2) rfl rfl rfl (by repeat (first | exact Takes.nil | apply Takes.dup rfl | apply Takes.cons | exact Take1.here | apply Take1.there)) ?_
  rintro v_ give_ ⟨sa, sc, ea, ec, rfl, rfl⟩ rs_ hrs_
  simp only [List.cons_append, List.nil_append] at hrs_
  subst hrs_
  repeat (first | (apply G.ex (hd := rfl); case h => (first | exact Ex.move rfl | exact Ex.extract rfl rfl)))
  refine G.alloc rfl (fun r2 => ?_)
  repeat (first | refine G.storeBA rfl rfl rfl rfl rfl ?_ | (apply G.ex (hd := rfl); case h => (first | exact Ex.assign rfl)) | refine G.nil ?_ | refine GC.seq ?_ | refine GC.region ?_ | refine GE.then_normal ?_)
  have D3 := decode_sp none 0 0 [] rfl (by omega) 5 _ dec_nil
  unfold eSg sg at D3
  first | refine G.call (caps := []) (D3) rfl rfl rfl rfl (by repeat (first | exact Takes.nil | apply Takes.dup rfl | apply Takes.cons | exact Take1.here | apply Take1.there)) ?_ | refine G.callU (caps := []) (D3) rfl rfl rfl (by repeat (first | exact Takes.nil | apply Takes.dup rfl | apply Takes.cons | exact Take1.here | apply Take1.there)) ?_
  rintro v_ give_ ⟨ta, tc, ua, uc, rfl, rfl⟩ rs_ hrs_
  simp only [List.cons_append, List.nil_append] at hrs_
  subst hrs_
  repeat (first | (apply G.ex (hd := rfl); case h => (first | exact Ex.move rfl | exact Ex.extract rfl rfl)))
  refine G.alloc rfl (fun r3 => ?_)
  repeat (first | refine G.storeBA rfl rfl rfl rfl rfl ?_ | (apply G.ex (hd := rfl); case h => (first | exact Ex.move rfl | exact Ex.neI rfl rfl | exact Ex.assign rfl | exact Ex.pickF rfl (by first | assumption | omega) rfl | exact Ex.loadBA rfl rfl rfl | exact Ex.build rfl rfl)) | refine G.g_ff rfl rfl (by first | assumption | omega) ?_ | refine G.nil ?_ | refine GC.seq ?_ | refine GC.region ?_ | refine GE.then_normal ?_)
  first | refine G.call (caps := []) (W sa sc ea ec) rfl rfl rfl rfl (by repeat (first | exact Takes.nil | apply Takes.dup rfl | apply Takes.cons | exact Take1.here | apply Take1.there)) ?_ | refine G.callU (caps := []) (W sa sc ea ec) rfl rfl rfl (by repeat (first | exact Takes.nil | apply Takes.dup rfl | apply Takes.cons | exact Take1.here | apply Take1.there)) ?_
  rintro v_ give_ ⟨rfl, rfl⟩ rs_ hrs_
  simp only [List.cons_append, List.nil_append] at hrs_
  subst hrs_
  by_cases he : e = 0
  · subst he
    obtain ⟨hR, h0, hen⟩ := dec_ok hdec
    have hel := enc_len s
    have hN : 10 + 4 * s.sk.length + s.d.length = len0 := by rw [← hel, hen]; exact hl0
    have E := encode_sp s hR h0 (.vec 41 2 ra s.sk.length rc (flat eR s.sk)) (.vec 5 1 da s.d.length dc (flat eB s.d)) ra rc da dc
    unfold eSg sg at E
    rw [hN, hen] at E
    repeat (first | (apply G.ex (hd := rfl); case h => (first | exact Ex.move rfl | exact Ex.neI rfl rfl | exact Ex.notB rfl | exact Ex.pickF rfl (by first | assumption | omega) rfl | exact Ex.loadBA rfl rfl rfl)) | refine G.g_ff rfl rfl (by first | assumption | omega) ?_ | refine G.nil ?_ | refine GC.seq ?_ | refine GC.region ?_ | refine GC.skip ?_ | refine GE.then_normal ?_ | refine GC.cond_no rfl (by first | assumption | omega) ?_ | refine GC.cond_f rfl ?_)
    first | refine G.call (caps := []) (E) rfl rfl rfl rfl (by repeat (first | exact Takes.nil | apply Takes.dup rfl | apply Takes.cons | exact Take1.here | apply Take1.there)) ?_ | refine G.callU (caps := []) (E) rfl rfl rfl (by repeat (first | exact Takes.nil | apply Takes.dup rfl | apply Takes.cons | exact Take1.here | apply Take1.there)) ?_
    rintro v_ give_ ⟨o1, k1, rfl, rfl⟩ rs_ hrs_
    simp only [List.cons_append, List.nil_append] at hrs_
    subst hrs_
    repeat (first | (apply G.ex (hd := rfl); case h => (first | exact Ex.move rfl | exact Ex.eqI rfl rfl | exact Ex.extract rfl rfl | exact Ex.assign rfl)) | refine G.g_tt rfl rfl (by first | assumption | omega) ?_ | refine G.nil ?_ | refine GC.seq ?_ | refine GC.region ?_ | refine GE.then_normal ?_)
    first | refine G.call (caps := []) (sameBytes_sp (.vec 5 1 o1 len0 k1 (flat eB z0)) (.sl a0 len0 cap0 1 (flat eB z0)) o1 a0 len0 k1 len0 cap0 z0 z0 hl0 hl0 (by omega) (by omega)) rfl rfl rfl rfl (by repeat (first | exact Takes.nil | apply Takes.dup rfl | apply Takes.cons | exact Take1.here | apply Take1.there)) ?_ | refine G.callU (caps := []) (sameBytes_sp (.vec 5 1 o1 len0 k1 (flat eB z0)) (.sl a0 len0 cap0 1 (flat eB z0)) o1 a0 len0 k1 len0 cap0 z0 z0 hl0 hl0 (by omega) (by omega)) rfl rfl rfl (by repeat (first | exact Takes.nil | apply Takes.dup rfl | apply Takes.cons | exact Take1.here | apply Take1.there)) ?_
    rintro v_ give_ ⟨rfl, rfl⟩ rs_ hrs_
    simp only [List.cons_append, List.nil_append] at hrs_
    subst hrs_
    repeat (first | (apply G.ex (hd := rfl); case h => (first | exact Ex.assign rfl | exact Ex.pickT rfl (by first | assumption | omega) rfl)) | refine G.nil ?_ | refine GC.ret ?_ | refine GE.then_normal ?_)
    refine GE.ret (by first | exact .inl rfl | exact .inr rfl) (by first | exact res0 Try.results5 | exact res1 Try.results5 rfl | exact res2 Try.results5 rfl rfl | exact resR1 Try.results5 (by first | exact RV.tmp rfl | exact RV.cell rfl rfl | exact RV.cell1 rfl) | exact resR2 Try.results5 (by first | exact RV.tmp rfl | exact RV.cell rfl rfl | exact RV.cell1 rfl) (by first | exact RV.tmp rfl | exact RV.cell rfl rfl | exact RV.cell1 rfl) | exact resR3 Try.results5 (by first | exact RV.tmp rfl | exact RV.cell rfl rfl | exact RV.cell1 rfl) (by first | exact RV.tmp rfl | exact RV.cell rfl rfl | exact RV.cell1 rfl) (by first | exact RV.tmp rfl | exact RV.cell rfl rfl | exact RV.cell1 rfl)) ⟨by simp, rfl⟩ (by repeat (first | exact Takes.nil | apply Takes.dup rfl | apply Takes.cons | exact Take1.here | apply Take1.there)) (by repeat (first | exact Subs.refl | refine Subs.skip ?_))
  · obtain ⟨h3, rfl⟩ := dec_err hdec he
    rcases h3 with rfl | rfl | rfl
    · repeat (first | (apply G.ex (hd := rfl); case h => (first | exact Ex.move rfl | exact Ex.eqI rfl rfl | exact Ex.neI rfl rfl | exact Ex.notB rfl | exact Ex.pickT rfl (by first | assumption | omega) rfl | exact Ex.pickF rfl (by first | assumption | omega) rfl | exact Ex.loadBA rfl rfl rfl | exact Ex.build rfl rfl | exact Ex.pickLT rfl rfl)) | refine G.g_ft rfl rfl (by first | assumption | omega) rfl ?_ | refine G.g_ff rfl rfl (by first | assumption | omega) ?_ | refine G.yes rfl rfl ?_ | refine G.l_ft rfl rfl rfl ?_ | refine G.nil ?_ | refine GC.seq ?_ | refine GC.region ?_ | refine GC.skip ?_ | refine GE.then_normal ?_ | refine GC.cond_yes rfl (by first | assumption | omega) ?_ | refine GC.cond_f rfl ?_)
      first | refine G.call (caps := []) (W ra rc da dc) rfl rfl rfl rfl (by repeat (first | exact Takes.nil | apply Takes.dup rfl | apply Takes.cons | exact Take1.here | apply Take1.there)) ?_ | refine G.callU (caps := []) (W ra rc da dc) rfl rfl rfl (by repeat (first | exact Takes.nil | apply Takes.dup rfl | apply Takes.cons | exact Take1.here | apply Take1.there)) ?_
      rintro v_ give_ ⟨rfl, rfl⟩ rs_ hrs_
      simp only [List.cons_append, List.nil_append] at hrs_
      subst hrs_
      repeat (first | (apply G.ex (hd := rfl); case h => (first | exact Ex.assign rfl | exact Ex.pickLT rfl rfl)) | refine G.nil ?_ | refine GC.ret ?_ | refine GE.then_normal ?_ | refine GE.then_ret ?_)
      refine GE.ret (by first | exact .inl rfl | exact .inr rfl) (by first | exact res0 Try.results5 | exact res1 Try.results5 rfl | exact res2 Try.results5 rfl rfl | exact resR1 Try.results5 (by first | exact RV.tmp rfl | exact RV.cell rfl rfl | exact RV.cell1 rfl) | exact resR2 Try.results5 (by first | exact RV.tmp rfl | exact RV.cell rfl rfl | exact RV.cell1 rfl) (by first | exact RV.tmp rfl | exact RV.cell rfl rfl | exact RV.cell1 rfl) | exact resR3 Try.results5 (by first | exact RV.tmp rfl | exact RV.cell rfl rfl | exact RV.cell1 rfl) (by first | exact RV.tmp rfl | exact RV.cell rfl rfl | exact RV.cell1 rfl) (by first | exact RV.tmp rfl | exact RV.cell rfl rfl | exact RV.cell1 rfl)) ⟨rfl, rfl⟩ (by repeat (first | exact Takes.nil | apply Takes.dup rfl | apply Takes.cons | exact Take1.here | apply Take1.there)) (by repeat (first | exact Subs.refl | refine Subs.skip ?_))
    · repeat (first | (apply G.ex (hd := rfl); case h => (first | exact Ex.move rfl | exact Ex.eqI rfl rfl | exact Ex.neI rfl rfl | exact Ex.notB rfl | exact Ex.pickT rfl (by first | assumption | omega) rfl | exact Ex.pickF rfl (by first | assumption | omega) rfl | exact Ex.loadBA rfl rfl rfl | exact Ex.build rfl rfl)) | refine G.g_ft rfl rfl (by first | assumption | omega) rfl ?_ | refine G.g_ff rfl rfl (by first | assumption | omega) ?_ | refine G.yes rfl rfl ?_ | refine G.nil ?_ | refine GC.seq ?_ | refine GC.region ?_ | refine GC.skip ?_ | refine GE.then_normal ?_ | refine GC.cond_yes rfl (by first | assumption | omega) ?_ | refine GC.cond_f rfl ?_)
      first | refine G.call (caps := []) (W ra rc da dc) rfl rfl rfl rfl (by repeat (first | exact Takes.nil | apply Takes.dup rfl | apply Takes.cons | exact Take1.here | apply Take1.there)) ?_ | refine G.callU (caps := []) (W ra rc da dc) rfl rfl rfl (by repeat (first | exact Takes.nil | apply Takes.dup rfl | apply Takes.cons | exact Take1.here | apply Take1.there)) ?_
      rintro v_ give_ ⟨rfl, rfl⟩ rs_ hrs_
      simp only [List.cons_append, List.nil_append] at hrs_
      subst hrs_
      repeat (first | (apply G.ex (hd := rfl); case h => (first | exact Ex.assign rfl | exact Ex.pickLT rfl rfl)) | refine G.nil ?_ | refine GC.ret ?_ | refine GE.then_normal ?_ | refine GE.then_ret ?_)
      refine GE.ret (by first | exact .inl rfl | exact .inr rfl) (by first | exact res0 Try.results5 | exact res1 Try.results5 rfl | exact res2 Try.results5 rfl rfl | exact resR1 Try.results5 (by first | exact RV.tmp rfl | exact RV.cell rfl rfl | exact RV.cell1 rfl) | exact resR2 Try.results5 (by first | exact RV.tmp rfl | exact RV.cell rfl rfl | exact RV.cell1 rfl) (by first | exact RV.tmp rfl | exact RV.cell rfl rfl | exact RV.cell1 rfl) | exact resR3 Try.results5 (by first | exact RV.tmp rfl | exact RV.cell rfl rfl | exact RV.cell1 rfl) (by first | exact RV.tmp rfl | exact RV.cell rfl rfl | exact RV.cell1 rfl) (by first | exact RV.tmp rfl | exact RV.cell rfl rfl | exact RV.cell1 rfl)) ⟨rfl, rfl⟩ (by repeat (first | exact Takes.nil | apply Takes.dup rfl | apply Takes.cons | exact Take1.here | apply Take1.there)) (by repeat (first | exact Subs.refl | refine Subs.skip ?_))
    · repeat (first | (apply G.ex (hd := rfl); case h => (first | exact Ex.move rfl | exact Ex.eqI rfl rfl | exact Ex.neI rfl rfl | exact Ex.notB rfl | exact Ex.pickF rfl (by first | assumption | omega) rfl | exact Ex.loadBA rfl rfl rfl | exact Ex.build rfl rfl)) | refine G.g_tt rfl rfl (by first | assumption | omega) ?_ | refine G.g_ff rfl rfl (by first | assumption | omega) ?_ | refine G.nil ?_ | refine GC.seq ?_ | refine GC.region ?_ | refine GC.skip ?_ | refine GE.then_normal ?_ | refine GC.cond_yes rfl (by first | assumption | omega) ?_ | refine GC.cond_f rfl ?_)
      first | refine G.call (caps := []) (W ra rc da dc) rfl rfl rfl rfl (by repeat (first | exact Takes.nil | apply Takes.dup rfl | apply Takes.cons | exact Take1.here | apply Take1.there)) ?_ | refine G.callU (caps := []) (W ra rc da dc) rfl rfl rfl (by repeat (first | exact Takes.nil | apply Takes.dup rfl | apply Takes.cons | exact Take1.here | apply Take1.there)) ?_
      rintro v_ give_ ⟨rfl, rfl⟩ rs_ hrs_
      simp only [List.cons_append, List.nil_append] at hrs_
      subst hrs_
      repeat (first | (apply G.ex (hd := rfl); case h => (first | exact Ex.assign rfl | exact Ex.pickT rfl (by first | assumption | omega) rfl)) | refine G.nil ?_ | refine GC.ret ?_ | refine GE.then_normal ?_ | refine GE.then_ret ?_)
      refine GE.ret (by first | exact .inl rfl | exact .inr rfl) (by first | exact res0 Try.results5 | exact res1 Try.results5 rfl | exact res2 Try.results5 rfl rfl | exact resR1 Try.results5 (by first | exact RV.tmp rfl | exact RV.cell rfl rfl | exact RV.cell1 rfl) | exact resR2 Try.results5 (by first | exact RV.tmp rfl | exact RV.cell rfl rfl | exact RV.cell1 rfl) (by first | exact RV.tmp rfl | exact RV.cell rfl rfl | exact RV.cell1 rfl) | exact resR3 Try.results5 (by first | exact RV.tmp rfl | exact RV.cell rfl rfl | exact RV.cell1 rfl) (by first | exact RV.tmp rfl | exact RV.cell rfl rfl | exact RV.cell1 rfl) (by first | exact RV.tmp rfl | exact RV.cell rfl rfl | exact RV.cell1 rfl)) ⟨rfl, rfl⟩ (by repeat (first | exact Takes.nil | apply Takes.dup rfl | apply Takes.cons | exact Take1.here | apply Take1.there)) (by repeat (first | exact Subs.refl | refine Subs.skip ?_))
end seg
end Go.Proofs.Ytfahoengenbgcaa
