/-
  CONTRACT of packthreadkeep.RecvTrue: it is true.
-/
import Derived.Test.YtfopnlfdoljcdaaRecvQ
namespace Go.Proofs.Ytfopnlfdoljcdaa
open Go.RowKit
attribute [local irreducible] Ex G GC GE Gq FPost LPost
set_option linter.unusedVariables false
set_option linter.unusedSimpArgs false
namespace recv
open hole
theorem RdR.pieceS {size : Nat} {ao : Option Addr} {n c : Nat} {xs : List Value} (l r : Nat) (hlr : l ≤ r) (hr : r ≤ n) : RdR (.sl ao n c size xs) (subA ao c l size) (r - l) (c - l) size ((xs.drop (l * size)).take ((r - l) * size)) :=
  ⟨fun H hm => slIn.sl (slIn.piece (H.at hm) l r hlr hr)⟩
set_option maxHeartbeats 8000000 in
set_option maxRecDepth 100000 in
theorem recvTrue_sp (a0 : Int) (ha0 : -9223372036854775808 ≤ a0 ∧ a0 ≤ 9223372036854775807) (a1 : Int) (ha1 : -9223372036854775808 ≤ a1 ∧ a1 ≤ 9223372036854775807) (a2 : Int) (ha2 : -9223372036854775808 ≤ a2 ∧ a2 ≤ 9223372036854775807) (a3 : Option Addr) (len3 cap3 : Nat) (z3 : List Int) (hl3 : z3.length = len3) (hb3 : len3 ≤ 9223372036854775807) (hw3 : ∀ z ∈ z3, -9223372036854775808 ≤ z ∧ z ≤ 9223372036854775807) (a4 : Bool) :
    Spec Try.prog 4 [.int .i64 a0, .int .i64 a1, .int .i64 a2, .slice a3 len3 cap3, .bool a4] [.sl a3 len3 cap3 1 (flat (eI .i64) z3)] fun v give => v = .bool true ∧ give = [] := by
  have r1 := Int.emod_nonneg a0 (show (300 : Int) ≠ 0 by omega)
  have r2 := Int.emod_lt_of_pos a0 (show (0 : Int) < 300 by omega)
  have n1 := Int.emod_nonneg a2 (show (300 : Int) ≠ 0 by omega)
  have n2 := Int.emod_lt_of_pos a2 (show (0 : Int) < 300 by omega)
  obtain ⟨m, hm⟩ : ∃ m : Nat, a2 % 300 = (m : Int) := ⟨(a2 % 300).toNat, by omega⟩
  have htt : ¬ ¬ true = true := fun h => h rfl
  refine Spec.intro Try.func4 rfl Try.ntmps4 rfl fun w0 rest rs_ hrs_ => ?_
  simp only [List.cons_append, List.nil_append] at hrs_
  subst hrs_
  repeat (first | (apply G.ex (hd := rfl); case h => (first | exact Ex.move rfl | exact Ex.assign rfl)) | refine G.nil ?_ | refine GC.seq ?_ | refine GC.region ?_ | refine GE.then_normal ?_)
  first | refine G.call (caps := []) (picked_sp a0 300 (by omega) (by omega)) rfl rfl rfl rfl (by repeat (first | exact Takes.nil | apply Takes.dup rfl | apply Takes.cons | exact Take1.here | apply Take1.there)) ?_ | refine G.callU (caps := []) (picked_sp a0 300 (by omega) (by omega)) rfl rfl rfl (by repeat (first | exact Takes.nil | apply Takes.dup rfl | apply Takes.cons | exact Take1.here | apply Take1.there)) ?_
  rintro v_ give_ ⟨rfl, rfl⟩ rs_ hrs_
  simp only [List.cons_append, List.nil_append] at hrs_
  subst hrs_
  repeat (first | (apply G.ex (hd := rfl); case h => (first | exact Ex.move rfl | exact Ex.add rfl rfl (by omega) | exact Ex.assign rfl)) | refine G.nil ?_ | refine GC.seq ?_ | refine GC.region ?_ | refine GE.then_normal ?_)
  first | refine G.call (caps := []) (picked_sp a2 300 (by omega) (by omega)) rfl rfl rfl rfl (by repeat (first | exact Takes.nil | apply Takes.dup rfl | apply Takes.cons | exact Take1.here | apply Take1.there)) ?_ | refine G.callU (caps := []) (picked_sp a2 300 (by omega) (by omega)) rfl rfl rfl (by repeat (first | exact Takes.nil | apply Takes.dup rfl | apply Takes.cons | exact Take1.here | apply Take1.there)) ?_
  rintro v_ give_ ⟨rfl, rfl⟩ rs_ hrs_
  simp only [List.cons_append, List.nil_append] at hrs_
  subst hrs_
  rw [hm] at n1 n2 ⊢
  first | refine G.call (caps := []) (stream_sp a1 m (by omega)) rfl rfl rfl rfl (by repeat (first | exact Takes.nil | apply Takes.dup rfl | apply Takes.cons | exact Take1.here | apply Take1.there)) ?_ | refine G.callU (caps := []) (stream_sp a1 m (by omega)) rfl rfl rfl (by repeat (first | exact Takes.nil | apply Takes.dup rfl | apply Takes.cons | exact Take1.here | apply Take1.there)) ?_
  rintro v_ give_ ⟨so, sc, s, hsl, rfl, rfl⟩ rs_ hrs_
  simp only [List.cons_append, List.nil_append] at hrs_
  subst hrs_
  subst hsl
  first | refine G.frz so ?_ | refine GC.frz so ?_ | refine GE.frz so ?_
  repeat (first | (apply G.ex (hd := rfl); case h => (first | exact Ex.move rfl | exact Ex.assign rfl)) | refine G.nil ?_ | refine GC.seq ?_ | refine GC.region ?_ | refine GE.then_normal ?_)
  first | refine G.call (caps := []) (arrivals_sp a3 len3 cap3 z3 hl3 hb3 hw3 so sc s (by omega) 150 (by omega) a4) rfl rfl rfl rfl (by repeat (first | exact Takes.nil | apply Takes.dup rfl | apply Takes.cons | exact Take1.here | apply Take1.there)) ?_ | refine G.callU (caps := []) (arrivals_sp a3 len3 cap3 z3 hl3 hb3 hw3 so sc s (by omega) 150 (by omega) a4) rfl rfl rfl (by repeat (first | exact Takes.nil | apply Takes.dup rfl | apply Takes.cons | exact Take1.here | apply Take1.there)) ?_
  rintro v_ give_ ⟨A, ao, ac, hA, hM, rfl, rfl⟩ rs_ hrs_
  simp only [List.cons_append, List.nil_append] at hrs_
  subst hrs_
  have hAl : A.length ≤ 150 := by
    have := congrArg List.length hA
    rw [List.length_map, List.length_map, List.length_take] at this
    omega
  have hof : ∀ a ∈ A.map toAr, OfS s a4 a := by
    rw [hA]
    intro a ha
    obtain ⟨z, _, rfl⟩ := List.mem_map.1 ha
    exact arOf_ofS s a4 z
  generalize hr : 1 + a0 % 300 = r at *
  have hr0 : 1 ≤ r ∧ r ≤ 4096 := by omega
  have hnew : Tru s a4 (newF r) := Tru.new hr0
  have hrun := (Tru.run (by omega) hnew hof).1
  repeat (first | (apply G.ex (hd := rfl); case h => (first | exact Ex.move rfl | exact Ex.assign rfl)) | refine G.nil ?_ | refine GC.seq ?_ | refine GC.region ?_ | refine GE.then_normal ?_)
  first | refine G.call (caps := []) (hearer_sp r hr0 (.vec 46 5 ao A.length ac (flat eAr A)) ao A.length ac A rfl (by omega) hM hrun) rfl rfl rfl rfl (by repeat (first | exact Takes.nil | apply Takes.dup rfl | apply Takes.cons | exact Take1.here | apply Take1.there)) ?_ | refine G.callU (caps := []) (hearer_sp r hr0 (.vec 46 5 ao A.length ac (flat eAr A)) ao A.length ac A rfl (by omega) hM hrun) rfl rfl rfl (by repeat (first | exact Takes.nil | apply Takes.dup rfl | apply Takes.cons | exact Take1.here | apply Take1.there)) ?_
  rintro v_ give_ ⟨T, o, oc, hT, rfl, rfl⟩ rs_ hrs_
  simp only [List.cons_append, List.nil_append] at hrs_
  subst hrs_
  have hTl : T.length = A.length := by
    have := congrArg List.length hT
    rw [List.length_map, runs_len, List.length_map] at this
    exact this
  have hZl : (A.map toAr).length = A.length := List.length_map ..
  generalize A.map toAr = Z at *
  repeat (first | (apply G.ex (hd := rfl); case h => (first | exact Ex.move rfl | exact Ex.extract rfl rfl | exact Ex.assign rfl | exact Ex.notB rfl)) | refine G.nil ?_ | refine GC.seq ?_ | refine GC.region ?_ | refine GC.block ?_ | refine GC.skip ?_ | refine GE.then_normal ?_ | refine GC.cond_no rfl (by first | assumption | omega) ?_)
  refine GC.conv (rs' := [.sl so s.length sc 1 (flat eB s), .vec 42 6 o A.length oc (flat eTo T), .per (Rd eB 1 (T.map xoF))] ++ rest) (fun w_ H_ => by
    have h := H_.take (need := [.sl so s.length sc 1 (flat eB s), .vec 42 6 o A.length oc (flat eTo T), .per (Rd eB 1 (T.map xoF))]) (by repeat (first | exact Takes.nil | apply Takes.dup rfl | apply Takes.cons | exact Take1.here | apply Take1.there))
    exact subs_app (by repeat (first | exact Subs.refl | refine Subs.skip ?_)) h) ?_
  refine GC.loop (ι := Nat) (fun i => i ≤ A.length) (fun i => A.length - i) (fun i => [(4, .bool a4), (11, .int .i64 r), (12, .slice so s.length sc), (14, .slice o A.length oc), (16, .int .i64 (ends (newF r) (Z.take i)).taken), (17, .int .i64 (ackOf (ends (newF r) (Z.take i)))), (18, .int .i64 (i : Int))]) (fun _ => [.sl so s.length sc 1 (flat eB s), .vec 42 6 o A.length oc (flat eTo T), .per (Rd eB 1 (T.map xoF))]) 0 (Nat.zero_le _) (by simp only [fits]; repeat (first | exact trivial | refine And.intro rfl ?_)) (by repeat (first | exact Takes.nil | apply Takes.dup rfl | apply Takes.cons | exact Take1.here | apply Take1.there)) ?_
  rintro i hi fr_ rs_ hfr_ hrs_
  simp only [List.cons_append, List.nil_append] at hfr_ hrs_
  subst hfr_ hrs_
  by_cases hlt : i < A.length
  · have hxk : (T.map xoF).getD i default = xoF (T.getD i default) := by
      rw [List.getD_eq_getElem?_getD, List.getElem?_map, List.getD_eq_getElem?_getD, List.getElem?_eq_getElem (show i < T.length by omega)]; rfl
    have hst : Said s a4 r (ends (newF r) (Z.take i)) (T.getD i default).t (ends (newF r) (Z.take (i + 1))) := by
      obtain ⟨e1, e2⟩ := takes_cons (newF r) Z i (by omega)
      have hsub : ∀ a ∈ Z.take i, OfS s a4 a := fun a ha => hof a (List.mem_of_mem_take ha)
      have k := (Tru.run (by omega) hnew hsub).2
      have hroom := ends_room (by omega) hnew hsub
      have hai : OfS s a4 (Z.getD i default) := hof _ (by rw [List.getD_eq_getElem?_getD, List.getElem?_eq_getElem (show i < Z.length by omega)]; exact List.getElem_mem _)
      have h1 := k.step (by omega) hai
      rw [hroom] at h1
      rw [e2]
      have e3 : (T.getD i default).t = (doF (ends (newF r) (Z.take i)) (Z.getD i default)).2 := by
        have h2 : (T.map (·.t)).getD i default = (T.getD i default).t := by
          rw [List.getD_eq_getElem?_getD, List.getElem?_map, List.getD_eq_getElem?_getD, List.getElem?_eq_getElem (show i < T.length by omega)]; rfl
        rw [← h2, hT]
        have h3 : runs (newF r) Z = runs (newF r) (Z.take (i + 1)) ++ runs (ends (newF r) (Z.take (i + 1))) (Z.drop (i + 1)) := by
          rw [← runs_app, List.take_append_drop]
        rw [h3, e1, List.append_assoc, List.getD_eq_getElem?_getD, List.getElem?_append_right (by rw [runs_len, List.length_take]; omega), runs_len, List.length_take, show i - min i Z.length = 0 by omega]
        rfl
      rw [e3]; exact h1
    refine GC.conv (rs' := .sl (T.getD i default).xo (T.getD i default).t.data.length (T.getD i default).xc 1 (flat eB (T.getD i default).t.data) :: _) (fun w_ H_ => by
      have h := H_.rdAt (l := T.map xoF) (enc := eB) (s := 1) (by simp) i (by rw [List.length_map]; omega)
      rw [hxk] at h
      exact h) ?_
    have hiT : i < T.length := by omega
    repeat (first | (apply G.ex (hd := rfl); case h => (first | exact Ex.move rfl | exact Ex.lss rfl rfl | exact Ex.lenSl rfl | exact Ex.indexN rfl rfl (by first | omega | (simp; done) | (simp; omega)) | exact Ex.loadTA rfl (by first | omega | (simp; done) | (simp; omega)))) | refine G.nil ?_ | refine GC.seq ?_ | refine GC.region ?_ | refine GC.block ?_ | refine GC.skip ?_ | refine GE.then_normal ?_ | refine GC.cond_yes rfl (by first | assumption | omega) ?_)
    refine G.alloc rfl (fun xb => ?_)
    repeat (first | refine G.storeBA rfl rfl rfl rfl rfl ?_ | refine G.nil ?_ | refine GC.seq ?_ | refine GE.then_normal ?_)
    generalize T.getD i default = x at *
    generalize hH0 : ends (newF r) (Z.take i) = h0 at *
    generalize hH1 : ends (newF r) (Z.take (i + 1)) = h1 at *
    obtain ⟨s1, s2, s3, s4, s5, s6, s7, s8, s9, s10, s11, s12, s13⟩ := hst
    obtain ⟨T0, hT0⟩ : ∃ T0 : Nat, h0.taken = (T0 : Int) := by
      have hsub : ∀ a ∈ Z.take i, OfS s a4 a := fun a ha => hof a (List.mem_of_mem_take ha)
      have k := (Tru.run (by omega) hnew hsub).2
      rw [hH0] at k
      exact ⟨h0.taken.toNat, by have := k.ok.t0; omega⟩
    rw [show h0.taken.toNat = T0 by omega] at s6
    have hE : h0.taken + (x.t.data.length : Int) = ((T0 + x.t.data.length : Nat) : Int) := by omega
    have hTE : T0 ≤ T0 + x.t.data.length := by omega
    have hEs : T0 + x.t.data.length ≤ s.length := by omega
    have hRs : RdR (.sl so s.length sc 1 (flat eB s)) (subA so sc T0 1) (T0 + x.t.data.length - T0) (sc - T0) 1 (flat eB ((s.drop T0).take (T0 + x.t.data.length - T0))) := by
      rw [← flat_cutB]; exact RdR.pieceS T0 (T0 + x.t.data.length) hTE hEs
    have hdd : x.t.data = (s.drop T0).take (T0 + x.t.data.length - T0) := by rw [Nat.add_sub_cancel_left]; exact s6
    have hdl : ((s.drop T0).take (T0 + x.t.data.length - T0)).length = T0 + x.t.data.length - T0 := by rw [List.length_take, List.length_drop]; omega
    refine GC.len (m := s.length) (c := sc) so fun ⟨hq1, hq2, hq3⟩ => ?_
    refine GC.meet (ι := Unit) (fun _ => True) (fun _ => [(4, .bool a4), (11, .int .i64 r), (12, .slice so s.length sc), (14, .slice o A.length oc), (16, .int .i64 h0.taken), (17, .int .i64 (ackOf h0)), (18, .int .i64 (i : Int)), (19, .pointer (some (badr xb 0))), (80, .bool false)]) (fun _ => [.blk xb 42 [.int .i64 x.t.code, .int .i64 x.t.ack, .int .i64 x.t.window, .slice x.so x.t.sacks.length x.sc, .slice x.xo x.t.data.length x.xc, .bool x.t.fin], .sl so s.length sc 1 (flat eB s), .vec 42 6 o A.length oc (flat eTo T), .per (Rd eB 1 (T.map xoF))]) rest ?_ ?_
    · rcases s3 with e | e
      · repeat (first | (apply Gq.ex (hd := rfl); case h => (first | exact Ex.move rfl | exact Ex.fieldB rfl | exact Ex.loadB rfl rfl | exact Ex.add rfl rfl (by omega) | exact Ex.gtr rfl rfl | exact Ex.neI rfl rfl | exact Ex.lenSl rfl | exact Ex.pickF rfl (by first | assumption | omega) rfl)) | refine Gq.g_tf rfl rfl (by first | assumption | omega) rfl ?_ | refine Gq.g_ff rfl rfl (by first | assumption | omega) ?_ | refine GC.draw (by kernel_rfl) (by kernel_rfl) ?_)
        refine Gq.ex (Ex.slLH rfl (ev_int rfl hT0) (ev_int rfl hE) ⟨hTE, by omega⟩) rfl ?_
        repeat (first | refine Gq.g_ff rfl rfl (by first | assumption | omega) ?_)
        refine Gq.call (caps := []) (sameBytes_sp (.sl x.xo x.t.data.length x.xc 1 (flat eB x.t.data)) (.sl so s.length sc 1 (flat eB s)) (hs := hRs) x.xo (subA so sc T0 1) x.t.data.length x.xc (T0 + x.t.data.length - T0) (sc - T0) x.t.data ((s.drop T0).take (T0 + x.t.data.length - T0)) rfl hdl (by omega) (by omega)) rfl rfl rfl rfl (by repeat (first | exact Takes.nil | apply Takes.dup rfl | apply Takes.cons | exact Take1.here | apply Take1.there)) (fun v give hp => by obtain ⟨rfl, rfl⟩ := hp; exact ⟨congrArg Value.bool (decide_eq_true hdd), _, Takes.deep (Takes.deep (Takes.self _))⟩) ?_
        repeat (first | (apply Gq.ex (hd := rfl); case h => (first | exact Ex.notB rfl | exact Ex.pickF rfl (by first | assumption | omega) rfl)) | refine Gq.g_ff rfl rfl (by first | assumption | omega) ?_ | refine Gq.nil ?_)
        refine GE.meet () trivial (by simp only [fits]; repeat (first | exact trivial | refine And.intro rfl ?_)) (by repeat (first | exact Takes.nil | apply Takes.dup rfl | apply Takes.cons | exact Take1.here | apply Take1.there)) (by repeat (first | exact Subs.refl | refine Subs.skip ?_))
      · repeat (first | (apply Gq.ex (hd := rfl); case h => (first | exact Ex.move rfl | exact Ex.fieldB rfl | exact Ex.loadB rfl rfl | exact Ex.add rfl rfl (by omega) | exact Ex.gtr rfl rfl | exact Ex.neI rfl rfl | exact Ex.lenSl rfl | exact Ex.pickT rfl (by first | assumption | omega) rfl | exact Ex.pickF rfl (by first | assumption | omega) rfl)) | refine Gq.g_tt rfl rfl (by first | assumption | omega) ?_ | refine Gq.g_ff rfl rfl (by first | assumption | omega) ?_ | refine GC.draw (by kernel_rfl) (by kernel_rfl) ?_)
        refine Gq.ex (Ex.slLH rfl (ev_int rfl hT0) (ev_int rfl hE) ⟨hTE, by omega⟩) rfl ?_
        repeat (first | refine Gq.g_ff rfl rfl (by first | assumption | omega) ?_)
        refine Gq.call (caps := []) (sameBytes_sp (.sl x.xo x.t.data.length x.xc 1 (flat eB x.t.data)) (.sl so s.length sc 1 (flat eB s)) (hs := hRs) x.xo (subA so sc T0 1) x.t.data.length x.xc (T0 + x.t.data.length - T0) (sc - T0) x.t.data ((s.drop T0).take (T0 + x.t.data.length - T0)) rfl hdl (by omega) (by omega)) rfl rfl rfl rfl (by repeat (first | exact Takes.nil | apply Takes.dup rfl | apply Takes.cons | exact Take1.here | apply Take1.there)) (fun v give hp => by obtain ⟨rfl, rfl⟩ := hp; exact ⟨congrArg Value.bool (decide_eq_true hdd), _, Takes.deep (Takes.deep (Takes.self _))⟩) ?_
        repeat (first | (apply Gq.ex (hd := rfl); case h => (first | exact Ex.notB rfl | exact Ex.pickF rfl (by first | assumption | omega) rfl)) | refine Gq.g_ff rfl rfl (by first | assumption | omega) ?_ | refine Gq.nil ?_)
        refine GE.meet () trivial (by simp only [fits]; repeat (first | exact trivial | refine And.intro rfl ?_)) (by repeat (first | exact Takes.nil | apply Takes.dup rfl | apply Takes.cons | exact Take1.here | apply Take1.there)) (by repeat (first | exact Subs.refl | refine Subs.skip ?_))
    rintro ⟨⟩ - fr_ rs_ hfr_ hrs_
    simp only [List.cons_append, List.nil_append] at hfr_ hrs_
    subst hfr_ hrs_
    have htd : h1.taken = ((T0 + x.t.data.length : Nat) : Int) := by omega
    have hal := s7
    cases hfin : x.t.fin
    · repeat (first | (apply G.ex (hd := rfl); case h => (first | exact Ex.move rfl | exact Ex.fieldB rfl | exact Ex.loadB rfl rfl | exact Ex.add rfl rfl (by omega) | exact Ex.sub rfl rfl (by omega) | exact Ex.lss rfl rfl | exact Ex.gtr rfl rfl | exact Ex.neI rfl rfl | exact Ex.lenSl rfl | exact Ex.assign rfl | exact Ex.min rfl rfl | exact Ex.pickF rfl (by first | assumption | omega) rfl)) | refine G.g_tf rfl rfl (by first | assumption | omega) rfl ?_ | refine G.g_ff rfl rfl (by first | assumption | omega) ?_ | refine G.g_un rfl rfl rfl ?_ | refine G.nil ?_ | refine GC.seq ?_ | refine GC.region ?_ | refine GC.skip ?_ | refine GE.then_normal ?_ | refine GE.block_normal ?_ | refine GC.cond_no rfl (by first | assumption | omega) ?_)
      rw [show h0.taken + (x.t.data.length : Int) = h1.taken by omega, s8]
      subst hH1
      refine GE.loop (i + 1) (by show i + 1 ≤ A.length; omega) (by show A.length - (i + 1) < A.length - i; omega) (by simp only [fits]; repeat (first | exact trivial | refine And.intro rfl ?_)) (by repeat (first | exact Takes.nil | apply Takes.dup rfl | apply Takes.cons | exact Take1.here | apply Take1.there)) (by repeat (first | exact Subs.refl | refine Subs.skip ?_))
    · obtain ⟨f1, f2⟩ := s12 hfin
      subst f1
      repeat (first | (apply G.ex (hd := rfl); case h => (first | exact Ex.move rfl | exact Ex.fieldB rfl | exact Ex.loadB rfl rfl | exact Ex.add rfl rfl (by omega) | exact Ex.sub rfl rfl (by omega) | exact Ex.lss rfl rfl | exact Ex.gtr rfl rfl | exact Ex.neI rfl rfl | exact Ex.lenSl rfl | exact Ex.assign rfl | exact Ex.min rfl rfl | exact Ex.notB rfl | exact Ex.pickF rfl (by first | assumption | omega) rfl | exact Ex.pickLT rfl rfl)) | refine G.g_ff rfl rfl (by first | assumption | omega) ?_ | refine G.yes rfl rfl ?_ | refine G.nil ?_ | refine GC.seq ?_ | refine GC.region ?_ | refine GC.skip ?_ | refine GE.then_normal ?_ | refine GE.block_normal ?_ | refine GC.cond_no rfl (by first | assumption | omega) ?_)
      rw [show h0.taken + (x.t.data.length : Int) = h1.taken by omega, s8]
      subst hH1
      refine GE.loop (i + 1) (by show i + 1 ≤ A.length; omega) (by show A.length - (i + 1) < A.length - i; omega) (by simp only [fits]; repeat (first | exact trivial | refine And.intro rfl ?_)) (by repeat (first | exact Takes.nil | apply Takes.dup rfl | apply Takes.cons | exact Take1.here | apply Take1.there)) (by repeat (first | exact Subs.refl | refine Subs.skip ?_))
  · repeat (first | (apply G.ex (hd := rfl); case h => (first | exact Ex.move rfl | exact Ex.lss rfl rfl | exact Ex.lenSl rfl | exact Ex.assign rfl)) | refine G.nil ?_ | refine GC.seq ?_ | refine GC.region ?_ | refine GC.ret ?_ | refine GC.exit ?_ | refine GE.then_normal ?_ | refine GE.then_exit ?_ | refine GE.block_hit ?_ | refine GC.cond_no rfl (by first | assumption | omega) ?_)
    refine GE.ret (by first | exact .inl rfl | exact .inr rfl) (by first | exact res0 Try.results4 | exact res1 Try.results4 rfl | exact res2 Try.results4 rfl rfl | exact resR1 Try.results4 (by first | exact RV.tmp rfl | exact RV.cell rfl (eP_len _) | exact RV.cell rfl rfl | exact RV.cell1 rfl) | exact resR2 Try.results4 (by first | exact RV.tmp rfl | exact RV.cell rfl (eP_len _) | exact RV.cell rfl rfl | exact RV.cell1 rfl) (by first | exact RV.tmp rfl | exact RV.cell rfl (eP_len _) | exact RV.cell rfl rfl | exact RV.cell1 rfl) | exact resR3 Try.results4 (by first | exact RV.tmp rfl | exact RV.cell rfl (eP_len _) | exact RV.cell rfl rfl | exact RV.cell1 rfl) (by first | exact RV.tmp rfl | exact RV.cell rfl (eP_len _) | exact RV.cell rfl rfl | exact RV.cell1 rfl) (by first | exact RV.tmp rfl | exact RV.cell rfl (eP_len _) | exact RV.cell rfl rfl | exact RV.cell1 rfl)) ⟨rfl, rfl⟩ (by repeat (first | exact Takes.nil | apply Takes.dup rfl | apply Takes.cons | exact Take1.here | apply Take1.there)) (by repeat (first | exact Subs.refl | refine Subs.skip ?_))
end recv
end Go.Proofs.Ytfopnlfdoljcdaa
