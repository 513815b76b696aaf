/-
  THE LAW FrameLong, by the kit.
-/
import Derived.Test.YtcabcpealkbekaaFrame3
namespace Go.Proofs.Ytcabcpealkbekaa
open Go.RowKit
attribute [local irreducible] Ex G GC GE Gq FPost LPost
set_option linter.unusedVariables false
set_option linter.unusedSimpArgs false

namespace frame
theorem zrepB (m : Nat) : zrep [Value.int .u8 0] m = flat eB (List.replicate m 0) := (flat_rep eB (0 : UInt8) m).symm
set_option maxHeartbeats 4000000 in
theorem frameLong_sp (a0 : Option Addr) (len0 cap0 : Nat) (z0 : List (SlD UInt8)) (hl0 : z0.length = len0) (hb0 : len0 ≤ 9223372036854775807) (hz0 : ∀ x ∈ z0, x.l.length = x.n ∧ x.n ≤ 9223372036854775807) (a1 : Int) (ha1 : -9223372036854775808 ≤ a1 ∧ a1 ≤ 9223372036854775807) :
    Spec Try.prog 6 [.slice a0 len0 cap0, .int .i64 a1] [.sl a0 len0 cap0 1 (flat eS z0), .per (Rd eB 1 z0)] fun v give => v = .bool true ∧ give = [] := by
  refine Spec.intro Try.func6 rfl Try.ntmps6 rfl fun w0 rest rs_ hrs_ => ?_
  simp only [List.cons_append, List.nil_append] at hrs_
  subst hrs_
  repeat (first | (apply G.ex (hd := rfl); case h => (first | exact Ex.move rfl | exact Ex.assign rfl)) | refine G.nil ?_ | refine GC.seq ?_ | refine GC.region ?_ | refine GE.then_normal ?_)
  first | refine G.call (caps := []) (wrapped_sp a0 len0 cap0 z0 hl0 hb0 hz0 10 (by omega)) rfl rfl rfl rfl (by repeat (first | exact Takes.nil | apply Takes.dup rfl | apply Takes.cons | exact Take1.here | apply Take1.there)) ?_ | refine G.callU (caps := []) (wrapped_sp a0 len0 cap0 z0 hl0 hb0 hz0 10 (by omega)) rfl rfl rfl (by repeat (first | exact Takes.nil | apply Takes.dup rfl | apply Takes.cons | exact Take1.here | apply Take1.there)) ?_
  rintro v_ give_ ⟨B, oa, oc, ba, bc, rfl, hB, hBn, rfl⟩ rs_ hrs_
  simp only [List.cons_append, List.nil_append] at hrs_
  subst hrs_
  have hwl := wrap_len (dats B) 100 (hB.dats (Nat.le_refl _))
  rw [show (dats B).length = B.length by rw [dats, List.length_map]] at hwl
  have hwl2 : (wrap (dats B)).length ≤ 3120 := by omega
  clear hwl
  repeat (first | (apply G.ex (hd := rfl); case h => (first | exact Ex.move rfl | exact Ex.extract rfl rfl | exact Ex.assign rfl)) | refine G.nil ?_ | refine GC.seq ?_ | refine GC.region ?_ | refine GE.then_normal ?_)
  first | refine G.call (caps := []) (picked_sp a1 1048576 (by omega) (by omega)) rfl rfl rfl rfl (by repeat (first | exact Takes.nil | apply Takes.dup rfl | apply Takes.cons | exact Take1.here | apply Take1.there)) ?_ | refine G.callU (caps := []) (picked_sp a1 1048576 (by omega) (by omega)) rfl rfl rfl (by repeat (first | exact Takes.nil | apply Takes.dup rfl | apply Takes.cons | exact Take1.here | apply Take1.there)) ?_
  rintro v_ give_ ⟨rfl, rfl⟩ rs_ hrs_
  simp only [List.cons_append, List.nil_append] at hrs_
  subst hrs_
  obtain ⟨N, hN, hN1, hN2⟩ : ∃ N : Nat, 1025 + a1 % 1048576 = (N : Int) ∧ 1025 ≤ N ∧ N ≤ 1049600 := ⟨(1025 + a1 % 1048576).toNat, by omega, by omega, by omega⟩
  first | (apply G.ex (hd := rfl); case h => (first | exact Ex.add rfl rfl (by omega)))
  rw [hN]
  have hst := big_stop (r := h4 N) ⟨by simp [h4_len], by rw [show (h4 N).take 4 = h4 N from rfl, num_h4 N (by omega)]; omega⟩
  have hbg : big (h4 N) := ⟨by simp [h4_len], by rw [show (h4 N).take 4 = h4 N from rfl, num_h4 N (by omega)]; omega⟩
  have h3l : ((h4 N).take 3).length = 3 := rfl
  have hst3 : stop ((h4 N).take 3) := .inl (by rw [h3l]; omega)
  have hnb3 : ¬ big ((h4 N).take 3) := fun h => by have := h.1; rw [h3l] at this; omega
  repeat (first | (apply G.ex (hd := rfl); case h => (first | exact Ex.move rfl | exact Ex.assign rfl | exact Ex.conv8 rfl | exact Ex.shr8 rfl rfl | exact Ex.shr16 rfl rfl | exact Ex.shr24 rfl rfl)) | refine G.nil ?_ | refine GC.seq ?_ | refine GC.region ?_ | refine GE.then_normal ?_)
  rw [← byteZ_toNat ((N : Int) / 16777216), ← byteZ_toNat ((N : Int) / 65536), ← byteZ_toNat ((N : Int) / 256), ← byteZ_toNat (N : Int)]
  refine G.lit rfl (by rfl) (by rfl) (by rfl) (by rfl) (by rfl) (by rfl) rfl (fun q => ?_)
  change @G _ _ _ _ _ _ _ (.vec 5 1 q 4 4 (flat eB (h4 N)) :: _)
  first | refine G.frz q ?_ | refine GC.frz q ?_ | refine GE.frz q ?_
  repeat (first | (apply G.ex (hd := rfl); case h => (first | exact Ex.move rfl | exact Ex.assign rfl)) | refine G.nil ?_ | refine GC.seq ?_ | refine GC.region ?_ | refine GE.then_normal ?_)
  refine G.appNil rfl rfl (by rfl) (by omega) rfl (rfl) (fun ga gc => ?_)
  repeat (first | (apply G.ex (hd := rfl); case h => (first | exact Ex.move rfl)))
  have hcat : flat eB (wrap (dats B)) ++ flat eB (h4 N) = flat eB (wrap (dats B) ++ h4 N) := (flat_append ..).symm
  have hcl : (wrap (dats B) ++ h4 N).length = (wrap (dats B)).length + 4 := by rw [List.length_append, h4_len]
  refine G.app rfl rfl (by rfl) (by omega) rfl (hcat) (fun ga2 gc2 rs_ hrs_ => ?_)
  try simp only at hrs_
  subst hrs_
  rw [← hcl]
  first | refine G.frz ga2 ?_ | refine GC.frz ga2 ?_ | refine GE.frz ga2 ?_
  refine G.nilvec 5 1 ?_
  first | refine G.frz none ?_ | refine GC.frz none ?_ | refine GE.frz none ?_
  first | refine G.call (caps := []) (feed_big_sp none 0 0 [] rfl (by omega) ga2 (wrap (dats B) ++ h4 N).length gc2 (wrap (dats B) ++ h4 N) rfl (by omega) (fun F r h1 h2 h3 => (wrap_inj (hB.dats (by omega)) h1 hst h2 (by simpa using h3)).2 ▸ hbg)) rfl rfl rfl rfl (by repeat (first | exact Takes.nil | apply Takes.dup rfl | apply Takes.cons | exact Take1.here | apply Take1.there)) ?_ | refine G.callU (caps := []) (feed_big_sp none 0 0 [] rfl (by omega) ga2 (wrap (dats B) ++ h4 N).length gc2 (wrap (dats B) ++ h4 N) rfl (by omega) (fun F r h1 h2 h3 => (wrap_inj (hB.dats (by omega)) h1 hst h2 (by simpa using h3)).2 ▸ hbg)) rfl rfl rfl (by repeat (first | exact Takes.nil | apply Takes.dup rfl | apply Takes.cons | exact Take1.here | apply Take1.there)) ?_
  rintro v_ give_ ⟨rfl, rfl⟩ rs_ hrs_
  simp only [List.cons_append, List.nil_append] at hrs_
  subst hrs_
  repeat (first | (apply G.ex (hd := rfl); case h => (first | exact Ex.move rfl | exact Ex.extract rfl rfl | exact Ex.assign rfl)) | refine G.nil ?_ | refine GC.seq ?_ | refine GE.then_normal ?_)
  refine GC.drawA [] [] (by repeat (first | exact Takes.nil | apply Takes.dup rfl | apply Takes.cons | exact Take1.here | apply Take1.there)) (by kernel_rfl) ?_
  first | (apply GA.take [] (hD := .inl rfl) (hsub := ⟨_, Takes.nil⟩) (i := 0) (hi := rfl) (hs := by kernel_rfl) (hfr := by kernel_rfl) (hr := by kernel_rfl) (hQ := (by repeat (first | exact NoPanic.fpost | apply NoPanic.then_ | apply NoPanic.block))) (hd := rfl); case hx => (first | exact Ex.move rfl))
  first | (apply GA.take [] (hD := .inl rfl) (hsub := ⟨_, Takes.nil⟩) (i := 2) (hi := rfl) (hs := by kernel_rfl) (hfr := by kernel_rfl) (hr := by kernel_rfl) (hQ := (by repeat (first | exact NoPanic.fpost | apply NoPanic.then_ | apply NoPanic.block))) (hd := rfl); case hx => (first | exact Ex.move rfl))
  refine GA.two (i := 1) (j := 3) (by kernel_rfl) rfl rfl ?_ ?_
  · refine G.appNil rfl rfl (by rfl) (by omega) rfl (rfl) (fun ga3 gc3 => ?_)
    try refine G.nil ?_
    refine GA.back (by first | exact .inl (by decide) | exact .inr ⟨_, (by repeat (first | exact Takes.nil | apply Takes.dup rfl | apply Takes.cons | exact Take1.here | apply Take1.there))⟩) ?_
    refine GA.one (i := 3) (by kernel_rfl) rfl ?_
    refine G.sub (l := 0) (r := 3) rfl rfl (by first | exact .inl ⟨rfl, rfl⟩ | exact .inr ⟨_, _, rfl, ev_int rfl (by omega)⟩) (by first | exact .inl ⟨rfl, rfl⟩ | exact .inr ⟨_, _, rfl, ev_int rfl (by omega)⟩) (by omega) rfl (rfl) (fun s3 => ?_)
    rw [flat_cut (enc := eB) (s := 1) inferInstance (h4 N) 0 3, List.drop_zero, Nat.sub_zero]
    try refine G.nil ?_
    refine GA.back (by first | exact .inl (by decide) | exact .inr ⟨_, (by repeat (first | exact Takes.nil | apply Takes.dup rfl | apply Takes.cons | exact Take1.here | apply Take1.there))⟩) ?_
    refine GA.one (i := 4) (by kernel_rfl) rfl ?_
    have hcat3 : flat eB (wrap (dats B)) ++ flat eB ((h4 N).take 3) = flat eB (wrap (dats B) ++ (h4 N).take 3) := (flat_append ..).symm
    have hcl3 : (wrap (dats B) ++ (h4 N).take 3).length = (wrap (dats B)).length + 3 := by rw [List.length_append, h3l]
    refine G.app rfl rfl (by rfl) (by omega) rfl (hcat3) (fun ga4 gc4 rs_ hrs_ => ?_)
    try simp only at hrs_
    subst hrs_
    rw [← hcl3]
    try refine G.nil ?_
    refine GA.back (by first | exact .inl (by decide) | exact .inr ⟨_, (by repeat (first | exact Takes.nil | apply Takes.dup rfl | apply Takes.cons | exact Take1.here | apply Take1.there))⟩) ?_
    refine GA.one (i := 5) (by kernel_rfl) rfl ?_
    first | refine G.frz ga4 ?_ | refine GC.frz ga4 ?_ | refine GE.frz ga4 ?_
    refine G.nilvec 5 1 ?_
    first | refine G.frz none ?_ | refine GC.frz none ?_ | refine GE.frz none ?_
    first | refine G.call (caps := []) (feed_ok_sp none 0 0 [] rfl (by omega) ga4 (wrap (dats B) ++ (h4 N).take 3).length gc4 (wrap (dats B) ++ (h4 N).take 3) rfl (by omega) (fun F r h1 h2 h3 => (wrap_inj (hB.dats (by omega)) h1 hst3 h2 (by simpa using h3)).2 ▸ hnb3)) rfl rfl rfl rfl (by repeat (first | exact Takes.nil | apply Takes.dup rfl | apply Takes.cons | exact Take1.here | apply Take1.there)) ?_ | refine G.callU (caps := []) (feed_ok_sp none 0 0 [] rfl (by omega) ga4 (wrap (dats B) ++ (h4 N).take 3).length gc4 (wrap (dats B) ++ (h4 N).take 3) rfl (by omega) (fun F r h1 h2 h3 => (wrap_inj (hB.dats (by omega)) h1 hst3 h2 (by simpa using h3)).2 ▸ hnb3)) rfl rfl rfl (by repeat (first | exact Takes.nil | apply Takes.dup rfl | apply Takes.cons | exact Take1.here | apply Take1.there)) ?_
    rintro v_ give_ ⟨A, rest, fa, fc, ra, rc, rfl, he, hA, hsr, hnr, rfl⟩ rs_ hrs_
    simp only [List.cons_append, List.nil_append] at hrs_
    subst hrs_
    try refine G.nil ?_
    refine GA.back (by first | exact .inl (by decide) | exact .inr ⟨_, (by repeat (first | exact Takes.nil | apply Takes.dup rfl | apply Takes.cons | exact Take1.here | apply Take1.there))⟩) ?_
    obtain ⟨e1, e2⟩ := wrap_inj (hB.dats (by omega)) (hA.dats (Nat.le_refl _)) hst3 hsr (by simpa using he)
    have hrl : rest.length = 3 := by rw [← e2]; exact h3l
    first | (apply GA.take [] (hD := .inl rfl) (hsub := ⟨_, Takes.nil⟩) (i := 6) (hi := rfl) (hs := by kernel_rfl) (hfr := by kernel_rfl) (hr := by kernel_rfl) (hQ := (by repeat (first | exact NoPanic.fpost | apply NoPanic.then_ | apply NoPanic.block))) (hd := rfl); case hx => (first | exact Ex.move rfl))
    first | (apply GA.take [] (hD := .inl rfl) (hsub := ⟨_, Takes.nil⟩) (i := 7) (hi := rfl) (hs := by kernel_rfl) (hfr := by kernel_rfl) (hr := by kernel_rfl) (hQ := (by repeat (first | exact NoPanic.fpost | apply NoPanic.then_ | apply NoPanic.block))) (hd := rfl); case hx => (first | exact Ex.extract rfl rfl))
    first | (apply GA.take [] (hD := .inl rfl) (hsub := ⟨_, Takes.nil⟩) (i := 8) (hi := rfl) (hs := by kernel_rfl) (hfr := by kernel_rfl) (hr := by kernel_rfl) (hQ := (by repeat (first | exact NoPanic.fpost | apply NoPanic.then_ | apply NoPanic.block))) (hd := rfl); case hx => (first | exact Ex.extract rfl rfl))
    first | (apply GA.take [] (hD := .inl rfl) (hsub := ⟨_, Takes.nil⟩) (i := 9) (hi := rfl) (hs := by kernel_rfl) (hfr := by kernel_rfl) (hr := by kernel_rfl) (hQ := (by repeat (first | exact NoPanic.fpost | apply NoPanic.then_ | apply NoPanic.block))) (hd := rfl); case hx => (first | exact Ex.extract rfl rfl))
    first | (apply GA.take [] (hD := .inl rfl) (hsub := ⟨_, Takes.nil⟩) (i := 10) (hi := rfl) (hs := by kernel_rfl) (hfr := by kernel_rfl) (hr := by kernel_rfl) (hQ := (by repeat (first | exact NoPanic.fpost | apply NoPanic.then_ | apply NoPanic.block))) (hd := rfl); case hx => (first | exact Ex.assign rfl))
    first | (apply GA.take [] (hD := .inl rfl) (hsub := ⟨_, Takes.nil⟩) (i := 11) (hi := rfl) (hs := by kernel_rfl) (hfr := by kernel_rfl) (hr := by kernel_rfl) (hQ := (by repeat (first | exact NoPanic.fpost | apply NoPanic.then_ | apply NoPanic.block))) (hd := rfl); case hx => (first | exact Ex.assign rfl))
    first | (apply GA.take [] (hD := .inl rfl) (hsub := ⟨_, Takes.nil⟩) (i := 12) (hi := rfl) (hs := by kernel_rfl) (hfr := by kernel_rfl) (hr := by kernel_rfl) (hQ := (by repeat (first | exact NoPanic.fpost | apply NoPanic.then_ | apply NoPanic.block))) (hd := rfl); case hx => (first | exact Ex.assign rfl))
    refine GA.done (by kernel_rfl) ?_
    repeat (first | refine GC.seq ?_ | refine GC.region ?_ | refine GE.then_normal ?_)
    refine G.make (m := 1025) rfl rfl (by omega) rfl rfl (fun mk => ?_)
    rw [zrepB]
    obtain ⟨Z, hZ, hZl⟩ : ∃ Z : List UInt8, List.replicate 1025 0 = Z ∧ Z.length = 1025 := ⟨_, rfl, List.length_replicate ..⟩
    rw [hZ]
    first | refine G.frz mk ?_ | refine GC.frz mk ?_ | refine GE.frz mk ?_
    first | refine G.call (caps := []) (wrap_big_sp mk 1025 1025 Z hZl (by omega) (by omega)) rfl rfl rfl rfl (by repeat (first | exact Takes.nil | apply Takes.dup rfl | apply Takes.cons | exact Take1.here | apply Take1.there)) ?_ | refine G.callU (caps := []) (wrap_big_sp mk 1025 1025 Z hZl (by omega) (by omega)) rfl rfl rfl (by repeat (first | exact Takes.nil | apply Takes.dup rfl | apply Takes.cons | exact Take1.here | apply Take1.there)) ?_
    rintro v_ give_ ⟨rfl, rfl⟩ rs_ hrs_
    simp only [List.cons_append, List.nil_append] at hrs_
    subst hrs_
    repeat (first | (apply G.ex (hd := rfl); case h => (first | exact Ex.move rfl | exact Ex.eqI rfl rfl | exact Ex.lenSl rfl | exact Ex.extract rfl rfl | exact Ex.assign rfl | exact Ex.pickT rfl (by first | assumption | omega) rfl | exact Ex.pickLT rfl rfl)) | refine G.g_tt rfl rfl (by first | assumption | omega) ?_ | refine G.yes rfl rfl ?_ | refine G.nil ?_ | refine GC.seq ?_ | refine GC.region ?_ | refine GC.ret ?_ | refine GE.then_normal ?_)
    refine GE.ret (by first | exact .inl rfl | exact .inr rfl) (by first | exact res0 Try.results6 | exact res1 Try.results6 rfl | exact res2 Try.results6 rfl rfl | exact resR1 Try.results6 (by first | exact RV.tmp rfl | exact RV.cell rfl rfl | exact RV.cell1 rfl) | exact resR2 Try.results6 (by first | exact RV.tmp rfl | exact RV.cell rfl rfl | exact RV.cell1 rfl) (by first | exact RV.tmp rfl | exact RV.cell rfl rfl | exact RV.cell1 rfl) | exact resR3 Try.results6 (by first | exact RV.tmp rfl | exact RV.cell rfl rfl | exact RV.cell1 rfl) (by first | exact RV.tmp rfl | exact RV.cell rfl rfl | exact RV.cell1 rfl) (by first | exact RV.tmp rfl | exact RV.cell rfl rfl | exact RV.cell1 rfl)) ⟨by simp, rfl⟩ (by repeat (first | exact Takes.nil | apply Takes.dup rfl | apply Takes.cons | exact Take1.here | apply Take1.there)) (by repeat (first | exact Subs.refl | refine Subs.skip ?_))
  · refine G.sub (l := 0) (r := 3) rfl rfl (by first | exact .inl ⟨rfl, rfl⟩ | exact .inr ⟨_, _, rfl, ev_int rfl (by omega)⟩) (by first | exact .inl ⟨rfl, rfl⟩ | exact .inr ⟨_, _, rfl, ev_int rfl (by omega)⟩) (by omega) rfl (rfl) (fun s3 => ?_)
    rw [flat_cut (enc := eB) (s := 1) inferInstance (h4 N) 0 3, List.drop_zero, Nat.sub_zero]
    try refine G.nil ?_
    refine GA.back (by first | exact .inl (by decide) | exact .inr ⟨_, (by repeat (first | exact Takes.nil | apply Takes.dup rfl | apply Takes.cons | exact Take1.here | apply Take1.there))⟩) ?_
    refine GA.one (i := 1) (by kernel_rfl) rfl ?_
    refine G.appNil rfl rfl (by rfl) (by omega) rfl (rfl) (fun ga3 gc3 => ?_)
    try refine G.nil ?_
    refine GA.back (by first | exact .inl (by decide) | exact .inr ⟨_, (by repeat (first | exact Takes.nil | apply Takes.dup rfl | apply Takes.cons | exact Take1.here | apply Take1.there))⟩) ?_
    refine GA.one (i := 4) (by kernel_rfl) rfl ?_
    have hcat3 : flat eB (wrap (dats B)) ++ flat eB ((h4 N).take 3) = flat eB (wrap (dats B) ++ (h4 N).take 3) := (flat_append ..).symm
    have hcl3 : (wrap (dats B) ++ (h4 N).take 3).length = (wrap (dats B)).length + 3 := by rw [List.length_append, h3l]
    refine G.app rfl rfl (by rfl) (by omega) rfl (hcat3) (fun ga4 gc4 rs_ hrs_ => ?_)
    try simp only at hrs_
    subst hrs_
    rw [← hcl3]
    try refine G.nil ?_
    refine GA.back (by first | exact .inl (by decide) | exact .inr ⟨_, (by repeat (first | exact Takes.nil | apply Takes.dup rfl | apply Takes.cons | exact Take1.here | apply Take1.there))⟩) ?_
    refine GA.one (i := 5) (by kernel_rfl) rfl ?_
    first | refine G.frz ga4 ?_ | refine GC.frz ga4 ?_ | refine GE.frz ga4 ?_
    refine G.nilvec 5 1 ?_
    first | refine G.frz none ?_ | refine GC.frz none ?_ | refine GE.frz none ?_
    first | refine G.call (caps := []) (feed_ok_sp none 0 0 [] rfl (by omega) ga4 (wrap (dats B) ++ (h4 N).take 3).length gc4 (wrap (dats B) ++ (h4 N).take 3) rfl (by omega) (fun F r h1 h2 h3 => (wrap_inj (hB.dats (by omega)) h1 hst3 h2 (by simpa using h3)).2 ▸ hnb3)) rfl rfl rfl rfl (by repeat (first | exact Takes.nil | apply Takes.dup rfl | apply Takes.cons | exact Take1.here | apply Take1.there)) ?_ | refine G.callU (caps := []) (feed_ok_sp none 0 0 [] rfl (by omega) ga4 (wrap (dats B) ++ (h4 N).take 3).length gc4 (wrap (dats B) ++ (h4 N).take 3) rfl (by omega) (fun F r h1 h2 h3 => (wrap_inj (hB.dats (by omega)) h1 hst3 h2 (by simpa using h3)).2 ▸ hnb3)) rfl rfl rfl (by repeat (first | exact Takes.nil | apply Takes.dup rfl | apply Takes.cons | exact Take1.here | apply Take1.there)) ?_
    rintro v_ give_ ⟨A, rest, fa, fc, ra, rc, rfl, he, hA, hsr, hnr, rfl⟩ rs_ hrs_
    simp only [List.cons_append, List.nil_append] at hrs_
    subst hrs_
    try refine G.nil ?_
    refine GA.back (by first | exact .inl (by decide) | exact .inr ⟨_, (by repeat (first | exact Takes.nil | apply Takes.dup rfl | apply Takes.cons | exact Take1.here | apply Take1.there))⟩) ?_
    obtain ⟨e1, e2⟩ := wrap_inj (hB.dats (by omega)) (hA.dats (Nat.le_refl _)) hst3 hsr (by simpa using he)
    have hrl : rest.length = 3 := by rw [← e2]; exact h3l
    first | (apply GA.take [] (hD := .inl rfl) (hsub := ⟨_, Takes.nil⟩) (i := 6) (hi := rfl) (hs := by kernel_rfl) (hfr := by kernel_rfl) (hr := by kernel_rfl) (hQ := (by repeat (first | exact NoPanic.fpost | apply NoPanic.then_ | apply NoPanic.block))) (hd := rfl); case hx => (first | exact Ex.move rfl))
    first | (apply GA.take [] (hD := .inl rfl) (hsub := ⟨_, Takes.nil⟩) (i := 7) (hi := rfl) (hs := by kernel_rfl) (hfr := by kernel_rfl) (hr := by kernel_rfl) (hQ := (by repeat (first | exact NoPanic.fpost | apply NoPanic.then_ | apply NoPanic.block))) (hd := rfl); case hx => (first | exact Ex.extract rfl rfl))
    first | (apply GA.take [] (hD := .inl rfl) (hsub := ⟨_, Takes.nil⟩) (i := 8) (hi := rfl) (hs := by kernel_rfl) (hfr := by kernel_rfl) (hr := by kernel_rfl) (hQ := (by repeat (first | exact NoPanic.fpost | apply NoPanic.then_ | apply NoPanic.block))) (hd := rfl); case hx => (first | exact Ex.extract rfl rfl))
    first | (apply GA.take [] (hD := .inl rfl) (hsub := ⟨_, Takes.nil⟩) (i := 9) (hi := rfl) (hs := by kernel_rfl) (hfr := by kernel_rfl) (hr := by kernel_rfl) (hQ := (by repeat (first | exact NoPanic.fpost | apply NoPanic.then_ | apply NoPanic.block))) (hd := rfl); case hx => (first | exact Ex.extract rfl rfl))
    first | (apply GA.take [] (hD := .inl rfl) (hsub := ⟨_, Takes.nil⟩) (i := 10) (hi := rfl) (hs := by kernel_rfl) (hfr := by kernel_rfl) (hr := by kernel_rfl) (hQ := (by repeat (first | exact NoPanic.fpost | apply NoPanic.then_ | apply NoPanic.block))) (hd := rfl); case hx => (first | exact Ex.assign rfl))
    first | (apply GA.take [] (hD := .inl rfl) (hsub := ⟨_, Takes.nil⟩) (i := 11) (hi := rfl) (hs := by kernel_rfl) (hfr := by kernel_rfl) (hr := by kernel_rfl) (hQ := (by repeat (first | exact NoPanic.fpost | apply NoPanic.then_ | apply NoPanic.block))) (hd := rfl); case hx => (first | exact Ex.assign rfl))
    first | (apply GA.take [] (hD := .inl rfl) (hsub := ⟨_, Takes.nil⟩) (i := 12) (hi := rfl) (hs := by kernel_rfl) (hfr := by kernel_rfl) (hr := by kernel_rfl) (hQ := (by repeat (first | exact NoPanic.fpost | apply NoPanic.then_ | apply NoPanic.block))) (hd := rfl); case hx => (first | exact Ex.assign rfl))
    refine GA.done (by kernel_rfl) ?_
    repeat (first | refine GC.seq ?_ | refine GC.region ?_ | refine GE.then_normal ?_)
    refine G.make (m := 1025) rfl rfl (by omega) rfl rfl (fun mk => ?_)
    rw [zrepB]
    obtain ⟨Z, hZ, hZl⟩ : ∃ Z : List UInt8, List.replicate 1025 0 = Z ∧ Z.length = 1025 := ⟨_, rfl, List.length_replicate ..⟩
    rw [hZ]
    first | refine G.frz mk ?_ | refine GC.frz mk ?_ | refine GE.frz mk ?_
    first | refine G.call (caps := []) (wrap_big_sp mk 1025 1025 Z hZl (by omega) (by omega)) rfl rfl rfl rfl (by repeat (first | exact Takes.nil | apply Takes.dup rfl | apply Takes.cons | exact Take1.here | apply Take1.there)) ?_ | refine G.callU (caps := []) (wrap_big_sp mk 1025 1025 Z hZl (by omega) (by omega)) rfl rfl rfl (by repeat (first | exact Takes.nil | apply Takes.dup rfl | apply Takes.cons | exact Take1.here | apply Take1.there)) ?_
    rintro v_ give_ ⟨rfl, rfl⟩ rs_ hrs_
    simp only [List.cons_append, List.nil_append] at hrs_
    subst hrs_
    repeat (first | (apply G.ex (hd := rfl); case h => (first | exact Ex.move rfl | exact Ex.eqI rfl rfl | exact Ex.lenSl rfl | exact Ex.extract rfl rfl | exact Ex.assign rfl | exact Ex.pickT rfl (by first | assumption | omega) rfl | exact Ex.pickLT rfl rfl)) | refine G.g_tt rfl rfl (by first | assumption | omega) ?_ | refine G.yes rfl rfl ?_ | refine G.nil ?_ | refine GC.seq ?_ | refine GC.region ?_ | refine GC.ret ?_ | refine GE.then_normal ?_)
    refine GE.ret (by first | exact .inl rfl | exact .inr rfl) (by first | exact res0 Try.results6 | exact res1 Try.results6 rfl | exact res2 Try.results6 rfl rfl | exact resR1 Try.results6 (by first | exact RV.tmp rfl | exact RV.cell rfl rfl | exact RV.cell1 rfl) | exact resR2 Try.results6 (by first | exact RV.tmp rfl | exact RV.cell rfl rfl | exact RV.cell1 rfl) (by first | exact RV.tmp rfl | exact RV.cell rfl rfl | exact RV.cell1 rfl) | exact resR3 Try.results6 (by first | exact RV.tmp rfl | exact RV.cell rfl rfl | exact RV.cell1 rfl) (by first | exact RV.tmp rfl | exact RV.cell rfl rfl | exact RV.cell1 rfl) (by first | exact RV.tmp rfl | exact RV.cell rfl rfl | exact RV.cell1 rfl)) ⟨by simp, rfl⟩ (by repeat (first | exact Takes.nil | apply Takes.dup rfl | apply Takes.cons | exact Take1.here | apply Take1.there)) (by repeat (first | exact Subs.refl | refine Subs.skip ?_))
end frame
end Go.Proofs.Ytcabcpealkbekaa
