/-
  CONTRACT of packthreadkeep.RecvTwice: it is true.
-/
import Derived.Test.YtfopnlfdoljcdaaRecvTwiceP
import Derived.Test.YtfopnlfdoljcdaaKit21
import Derived.Test.YtfopnlfdoljcdaaHole2
namespace Go.Proofs.Ytfopnlfdoljcdaa
open Go.RowKit
attribute [local irreducible] Ex G GC GE Gq FPost LPost
set_option linter.unusedVariables false
set_option linter.unusedSimpArgs false
namespace recv
open hole
theorem mapd_set {B : List ArM} {i : Nat} (hi : i < B.length) {z : ArM} (hz : z.d = (B.getD i default).d) : (B.set i z).map (·.d) = B.map (·.d) := by
  rw [List.map_set, hz]
  apply List.ext_getElem?
  intro j
  by_cases e : i = j
  · subst e
    rw [List.getElem?_set_self (by rw [List.length_map]; exact hi), List.getElem?_map, List.getD_eq_getElem?_getD, List.getElem?_eq_getElem hi]; rfl
  · rw [List.getElem?_set_ne e]
set_option maxHeartbeats 8000000 in
set_option maxRecDepth 100000 in
theorem recvTwice_sp (a0 : Int) (ha0 : -9223372036854775808 ≤ a0 ∧ a0 ≤ 9223372036854775807) (a1 : Int) (ha1 : -9223372036854775808 ≤ a1 ∧ a1 ≤ 9223372036854775807) (a2 : Int) (ha2 : -9223372036854775808 ≤ a2 ∧ a2 ≤ 9223372036854775807) (a3 : Option Addr) (len3 cap3 : Nat) (z3 : List Int) (hl3 : z3.length = len3) (hb3 : len3 ≤ 9223372036854775807) (hw3 : ∀ z ∈ z3, -9223372036854775808 ≤ z ∧ z ≤ 9223372036854775807) (a4 : Int) (ha4 : -9223372036854775808 ≤ a4 ∧ a4 ≤ 9223372036854775807) (a5 : Int) (ha5 : 0 ≤ a5 ∧ a5 ≤ 255) :
    Spec Try.prog 6 [.int .i64 a0, .int .i64 a1, .int .i64 a2, .slice a3 len3 cap3, .int .i64 a4, .int .u8 a5] [.sl a3 len3 cap3 1 (flat (eI .i64) z3)] fun v give => v = .bool true ∧ give = [] := by
  have r1 := Int.emod_nonneg a0 (show (300 : Int) ≠ 0 by omega)
  have r2 := Int.emod_lt_of_pos a0 (show (0 : Int) < 300 by omega)
  have n1 := Int.emod_nonneg a2 (show (300 : Int) ≠ 0 by omega)
  have n2 := Int.emod_lt_of_pos a2 (show (0 : Int) < 300 by omega)
  obtain ⟨m, hm⟩ : ∃ m : Nat, 1 + a2 % 300 = (m : Int) := ⟨(1 + a2 % 300).toNat, by omega⟩
  obtain ⟨ob, rfl⟩ : ∃ ob : UInt8, a5 = (ob.toNat : Int) := ⟨byteZ a5, by rw [byteZ_toNat]; omega⟩
  have htt : ¬ ¬ true = true := fun h => h rfl
  refine Spec.intro Try.func6 rfl Try.ntmps6 rfl fun w0 rest rs_ hrs_ => ?_
  simp only [List.cons_append, List.nil_append] at hrs_
  subst hrs_
  repeat (first | (apply G.ex (hd := rfl); case h => (first | exact Ex.move rfl | exact Ex.assign rfl)) | refine G.nil ?_ | refine GC.seq ?_ | refine GC.region ?_ | refine GE.then_normal ?_)
  first | refine G.call (caps := []) (picked_sp a0 300 (by omega) (by omega)) rfl rfl rfl rfl (by repeat (first | exact Takes.nil | apply Takes.dup rfl | apply Takes.cons | exact Take1.here | apply Take1.there)) ?_ | refine G.callU (caps := []) (picked_sp a0 300 (by omega) (by omega)) rfl rfl rfl (by repeat (first | exact Takes.nil | apply Takes.dup rfl | apply Takes.cons | exact Take1.here | apply Take1.there)) ?_
  rintro v_ give_ ⟨rfl, rfl⟩ rs_ hrs_
  simp only [List.cons_append, List.nil_append] at hrs_
  subst hrs_
  repeat (first | (apply G.ex (hd := rfl); case h => (first | exact Ex.move rfl | exact Ex.add rfl rfl (by omega) | exact Ex.assign rfl)) | refine G.nil ?_ | refine GC.seq ?_ | refine GC.region ?_ | refine GE.then_normal ?_)
  first | refine G.call (caps := []) (picked_sp a2 300 (by omega) (by omega)) rfl rfl rfl rfl (by repeat (first | exact Takes.nil | apply Takes.dup rfl | apply Takes.cons | exact Take1.here | apply Take1.there)) ?_ | refine G.callU (caps := []) (picked_sp a2 300 (by omega) (by omega)) rfl rfl rfl (by repeat (first | exact Takes.nil | apply Takes.dup rfl | apply Takes.cons | exact Take1.here | apply Take1.there)) ?_
  rintro v_ give_ ⟨rfl, rfl⟩ rs_ hrs_
  simp only [List.cons_append, List.nil_append] at hrs_
  subst hrs_
  repeat (first | (apply G.ex (hd := rfl); case h => (first | exact Ex.add rfl rfl (by omega))))
  rw [hm]
  first | refine G.call (caps := []) (stream_sp a1 m (by omega)) rfl rfl rfl rfl (by repeat (first | exact Takes.nil | apply Takes.dup rfl | apply Takes.cons | exact Take1.here | apply Take1.there)) ?_ | refine G.callU (caps := []) (stream_sp a1 m (by omega)) rfl rfl rfl (by repeat (first | exact Takes.nil | apply Takes.dup rfl | apply Takes.cons | exact Take1.here | apply Take1.there)) ?_
  rintro v_ give_ ⟨so, sc, s, hsl, rfl, rfl⟩ rs_ hrs_
  simp only [List.cons_append, List.nil_append] at hrs_
  subst hrs_
  subst hsl
  first | refine G.frz so ?_ | refine GC.frz so ?_ | refine GE.frz so ?_
  repeat (first | (apply G.ex (hd := rfl); case h => (first | exact Ex.move rfl | exact Ex.assign rfl)) | refine G.nil ?_ | refine GC.seq ?_ | refine GC.region ?_ | refine GE.then_normal ?_)
  first | refine G.call (caps := []) (arrivals_sp a3 len3 cap3 z3 hl3 hb3 hw3 so sc s (by omega) 80 (by omega) false) rfl rfl rfl rfl (by repeat (first | exact Takes.nil | apply Takes.dup rfl | apply Takes.cons | exact Take1.here | apply Take1.there)) ?_ | refine G.callU (caps := []) (arrivals_sp a3 len3 cap3 z3 hl3 hb3 hw3 so sc s (by omega) 80 (by omega) false) rfl rfl rfl (by repeat (first | exact Takes.nil | apply Takes.dup rfl | apply Takes.cons | exact Take1.here | apply Take1.there)) ?_
  rintro v_ give_ ⟨A, ao, ac, hA, hM, rfl, rfl⟩ rs_ hrs_
  simp only [List.cons_append, List.nil_append] at hrs_
  subst hrs_
  have hAl : A.length ≤ 80 := by
    have := congrArg List.length hA
    rw [List.length_map, List.length_map, List.length_take] at this
    omega
  have hP : ∀ m ∈ A, PlM m := fun m hm => ⟨hM m hm, by
    have h1 : toAr m ∈ (z3.take 80).map (arOf s false) := by rw [← hA]; exact List.mem_map_of_mem hm
    obtain ⟨z, _, hz⟩ := List.mem_map.1 h1
    rw [← hz]
    exact (arOf_ofS s false z).plain (by omega)⟩
  generalize hr : 1 + a0 % 300 = r at *
  have hr0 : 1 ≤ r ∧ r ≤ 4096 := by omega
  clear hA hM
  repeat (first | (apply G.ex (hd := rfl); case h => (first | exact Ex.move rfl | exact Ex.lenSl rfl | exact Ex.assign rfl)) | refine G.nil ?_ | refine GC.seq ?_ | refine GC.region ?_ | refine GC.block ?_ | refine GE.then_normal ?_)
  obtain ⟨n, hn⟩ : ∃ n, n = A.length := ⟨_, rfl⟩
  rw [← hn]
  refine GC.conv (rs' := [.vec 46 5 ao n ac (flat eAr A), .per (Rd eB 1 (A.map (·.d)))] ++ rest) (fun w_ H_ => by
    have h := H_.take (need := [.vec 46 5 ao n ac (flat eAr A), .per (Rd eB 1 (A.map (·.d)))]) (by repeat (first | exact Takes.nil | apply Takes.dup rfl | apply Takes.cons | exact Take1.here | apply Take1.there))
    exact subs_app (by repeat (first | exact Subs.refl | refine Subs.skip ?_)) h) ?_
  refine GC.loop (ι := Nat × List ArM) (fun x => x.1 ≤ n ∧ x.2.length = n ∧ x.2.map (·.d) = A.map (·.d) ∧ ∀ m ∈ x.2, PlM m) (fun x => n - x.1) (fun x => [(4, .int .i64 a4), (5, .int .u8 (ob.toNat : Int)), (13, .int .i64 r), (15, .slice ao n ac), (16, .int .i64 (n : Int)), (17, .int .i64 (x.1 : Int))]) (fun x => [.vec 46 5 ao n ac (flat eAr x.2), .per (Rd eB 1 (A.map (·.d)))]) (0, A) ⟨Nat.zero_le _, hn.symm, rfl, hP⟩ (by simp only [fits]; repeat (first | exact trivial | refine And.intro rfl ?_)) (by repeat (first | exact Takes.nil | apply Takes.dup rfl | apply Takes.cons | exact Take1.here | apply Take1.there)) ?_
  clear hP
  rintro ⟨i, B⟩ ⟨hi, hBl, hBd, hP⟩ fr_ rs_ hfr_ hrs_
  simp only [List.cons_append, List.nil_append] at hfr_ hrs_
  subst hfr_ hrs_
  simp only at hi hBl hBd hP
  by_cases hlt : i < n
  · have hmi : B.getD i default ∈ B := by
      rw [List.getD_eq_getElem?_getD, List.getElem?_eq_getElem (by omega)]; exact List.getElem_mem _
    have hp := hP _ hmi
    have hiB : i < B.length := by omega
    rcases hp.ok.kind with e | e
    · repeat (first | (apply G.ex (hd := rfl); case h => (first | exact Ex.move rfl | exact Ex.fieldE rfl | exact Ex.add rfl rfl (by omega) | exact Ex.lss rfl rfl | exact Ex.eqI rfl rfl | exact Ex.indexN rfl rfl (by first | omega | (simp; done) | (simp; omega)) | exact Ex.loadT0 rfl (by first | omega | (simp; done) | (simp; omega)) rfl | exact Ex.assign rfl)) | refine G.nil ?_ | refine GC.seq ?_ | refine GC.region ?_ | refine GC.block ?_ | refine GC.skip ?_ | refine GE.then_normal ?_ | refine GE.block_normal ?_ | refine GC.cond_yes rfl (by first | assumption | omega) ?_ | refine GC.cond_no rfl (by first | assumption | omega) ?_)
      refine GE.loop (i + 1, B) ⟨by simp only; omega, hBl, hBd, hP⟩ (by simp only; omega) (by simp only [fits]; repeat (first | exact trivial | refine And.intro rfl ?_)) (by repeat (first | exact Takes.nil | apply Takes.dup rfl | apply Takes.cons | exact Take1.here | apply Take1.there)) (by repeat (first | exact Subs.refl | refine Subs.skip ?_))
    · repeat (first | (apply G.ex (hd := rfl); case h => (first | exact Ex.move rfl | exact Ex.fieldE rfl | exact Ex.lss rfl rfl | exact Ex.eqI rfl rfl | exact Ex.indexN rfl rfl (by first | omega | (simp; done) | (simp; omega)) | exact Ex.loadT0 rfl (by first | omega | (simp; done) | (simp; omega)) rfl)) | refine G.nil ?_ | refine GC.seq ?_ | refine GC.region ?_ | refine GC.block ?_ | refine GC.skip ?_ | refine GE.then_normal ?_ | refine GC.cond_yes rfl (by first | assumption | omega) ?_)
      first | refine G.storeT0 rfl rfl rfl rfl (by first | omega | (simp; omega)) rfl ((⟨(B.getD i default).kind, (B.getD i default).f, (B.getD i default).d, (B.getD i default).fin, 0⟩ : ArM)) (rfl) (fun rs_ hrs_ => ?_) | refine G.storeT rfl rfl rfl rfl (by first | omega | (simp; omega)) rfl ((⟨(B.getD i default).kind, (B.getD i default).f, (B.getD i default).d, (B.getD i default).fin, 0⟩ : ArM)) (rfl) (fun rs_ hrs_ => ?_) | refine G.storeTA rfl rfl (by first | omega | (simp; omega)) rfl ((⟨(B.getD i default).kind, (B.getD i default).f, (B.getD i default).d, (B.getD i default).fin, 0⟩ : ArM)) (rfl) (fun rs_ hrs_ => ?_)
      try simp only at hrs_
      subst hrs_
      repeat (first | (apply G.ex (hd := rfl); case h => (first | exact Ex.move rfl | exact Ex.add rfl rfl (by omega) | exact Ex.assign rfl)) | refine G.nil ?_ | refine GC.region ?_ | refine GE.then_normal ?_ | refine GE.block_normal ?_)
      refine GE.loop (i + 1, B.set i ⟨(B.getD i default).kind, (B.getD i default).f, (B.getD i default).d, (B.getD i default).fin, 0⟩) ⟨by simp only; omega, by simp only; rw [List.length_set]; exact hBl, by simp only; exact (mapd_set hiB (z := ⟨(B.getD i default).kind, (B.getD i default).f, (B.getD i default).d, (B.getD i default).fin, 0⟩) rfl).trans hBd, fun m hm => (List.mem_or_eq_of_mem_set hm).elim (hP m) (fun q => by rw [q]; exact hp.zero e)⟩ (by simp only; omega) (by simp only [fits]; repeat (first | exact trivial | refine And.intro rfl ?_)) (by repeat (first | exact Takes.nil | apply Takes.dup rfl | apply Takes.cons | exact Take1.here | apply Take1.there)) (by repeat (first | exact Subs.refl | refine Subs.skip ?_))
  · obtain rfl : i = n := by omega
    rw [← hBd]
    have hi80 : i ≤ 80 := by omega
    clear hBd hn hi hlt
    clear hAl
    repeat (first | (apply G.ex (hd := rfl); case h => (first | exact Ex.move rfl | exact Ex.lss rfl rfl | exact Ex.assign rfl)) | refine G.nil ?_ | refine GC.seq ?_ | refine GC.region ?_ | refine GC.block ?_ | refine GC.exit ?_ | refine GE.then_normal ?_ | refine GE.then_exit ?_ | refine GE.block_hit ?_ | refine GC.cond_no rfl (by first | assumption | omega) ?_)
    first | refine G.nilvec 46 5 ?_ | refine GC.nilvec 46 5 ?_
    refine GC.conv (fun w_ H_ => Holds.rdNil eB 1 H_) ?_
    refine GC.loop (ι := Nat × List ArM × Option Addr × Nat) (fun x => x.1 ≤ i ∧ (∀ m ∈ x.2.1, MOk m) ∧ Same ((B.take x.1).map toAr) (x.2.1.map toAr) ∧ x.2.1.length ≤ 2 * x.1) (fun x => i - x.1) (fun x => [(4, .int .i64 a4), (5, .int .u8 (ob.toNat : Int)), (13, .int .i64 r), (15, .slice ao i ac), (16, .int .i64 (i : Int)), (18, .slice x.2.2.1 x.2.1.length x.2.2.2), (19, .int .i64 (x.1 : Int))]) (fun x => [.vec 46 5 x.2.2.1 x.2.1.length x.2.2.2 (flat eAr x.2.1), .per (Rd eB 1 (x.2.1.map (·.d))), .vec 46 5 ao i ac (flat eAr B), .per (Rd eB 1 (B.map (·.d)))]) (0, [], none, 0) ⟨Nat.zero_le _, fun m h => (nomatch h), Same.nil, Nat.le_refl _⟩ (by simp only [fits]; repeat (first | exact trivial | refine And.intro rfl ?_)) (by repeat (first | exact Takes.nil | apply Takes.dup rfl | apply Takes.cons | exact Take1.here | apply Take1.there)) ?_
    rintro ⟨k, W, wa, wc⟩ ⟨hk, hW, hS, hWl⟩ fr_ rs_ hfr_ hrs_
    simp only [List.cons_append, List.nil_append] at hfr_ hrs_
    subst hfr_ hrs_
    simp only at hk hW hS hWl
    by_cases hlt : k < i
    · have hiB : k < B.length := by omega
      have hmi : B.getD k default ∈ B := by
        rw [List.getD_eq_getElem?_getD, List.getElem?_eq_getElem (by omega)]; exact List.getElem_mem _
      have hp := hP _ hmi
      have hxk : (B.map (·.d)).getD k default = (B.getD k default).d := by
        rw [List.getD_eq_getElem?_getD, List.getElem?_map, List.getD_eq_getElem?_getD, List.getElem?_eq_getElem hiB]; rfl
      have htk : (B.take (k + 1)).map toAr = (B.take k).map toAr ++ [toAr (B.getD k default)] := by
        rw [List.take_succ_eq_append_getElem hiB, List.map_append, List.getD_eq_getElem?_getD, List.getElem?_eq_getElem hiB]; rfl
      refine GC.conv (rs' := .sl (B.getD k default).d.ao (B.getD k default).d.n (B.getD k default).d.c 1 (flat eB (B.getD k default).d.l) :: _) (fun w_ H_ => by
        have h := H_.rdAt (l := B.map (·.d)) (enc := eB) (s := 1) (by simp) k (by rw [List.length_map]; omega)
        rw [hxk] at h
        exact h) ?_
      have hml := hp.ok.len
      have hS1 := hS.snoc hp.pl
      rw [← htk] at hS1
      have hcat : flat eAr W ++ flat eAr [B.getD k default] = flat eAr (W ++ [B.getD k default]) := (flat_append ..).symm
      repeat (first | (apply G.ex (hd := rfl); case h => (first | exact Ex.move rfl | exact Ex.lss rfl rfl | exact Ex.indexN rfl rfl (by first | omega | (simp; done) | (simp; omega)) | exact Ex.loadTA rfl (by first | omega | (simp; done) | (simp; omega)))) | refine G.nil ?_ | refine GC.seq ?_ | refine GC.region ?_ | refine GC.block ?_ | refine GC.skip ?_ | refine GE.then_normal ?_ | refine GC.cond_yes rfl (by first | assumption | omega) ?_)
      refine G.lit (cells := flat eAr [B.getD k default]) rfl (by rfl) (by rfl) (by rfl) (by rfl) (by rfl) (by rfl) rfl (fun q_ => ?_)
      refine G.app rfl rfl (by rfl) (by omega) rfl (hcat) (fun o2 oc2 rs_ hrs_ => ?_)
      try simp only at hrs_
      subst hrs_
      refine G.conv (fun w_ H_ => Holds.rdSnoc (x := (B.getD k default).d) (H_.take (need := [.sl (B.getD k default).d.ao (B.getD k default).d.n (B.getD k default).d.c 1 (flat eB (B.getD k default).d.l), .per (Rd eB 1 (W.map (·.d)))]) (by repeat (first | exact Takes.nil | apply Takes.dup rfl | apply Takes.cons | exact Take1.here | apply Take1.there)))) ?_
      try simp only [List.append_eq, List.nil_append, List.cons_append]
      rw [show W.map (·.d) ++ [(B.getD k default).d] = (W ++ [B.getD k default]).map (·.d) by rw [List.map_append]; rfl]
      rw [show W.length + 1 = (W ++ [B.getD k default]).length by rw [List.length_append]; rfl]
      have hwl : (W ++ [B.getD k default]).length = W.length + 1 := by rw [List.length_append]; rfl
      rcases hp.ok.kind with e | e
      · repeat (first | (apply G.ex (hd := rfl); case h => (first | exact Ex.move rfl | exact Ex.fieldE rfl | exact Ex.eqI rfl rfl | exact Ex.indexN rfl rfl (by first | omega | (simp; done) | (simp; omega)) | exact Ex.loadT0 rfl (by first | omega | (simp; done) | (simp; omega)) rfl | exact Ex.assign rfl)) | refine G.g_tt rfl rfl (by first | assumption | omega) ?_ | refine G.nil ?_ | refine GC.seq ?_ | refine GC.region ?_ | refine GE.then_normal ?_)
        refine G.ex (Ex.addw rfl rfl) rfl ?_
        generalize IntKind.i64.wrap (a4 + (k : Int)) = u
        repeat (first | refine G.g_tt rfl rfl (by first | assumption | omega) ?_)
        first | refine G.call (caps := []) (picked_sp u 3 (by omega) (by omega)) rfl rfl rfl rfl (by repeat (first | exact Takes.nil | apply Takes.dup rfl | apply Takes.cons | exact Take1.here | apply Take1.there)) ?_ | refine G.callU (caps := []) (picked_sp u 3 (by omega) (by omega)) rfl rfl rfl (by repeat (first | exact Takes.nil | apply Takes.dup rfl | apply Takes.cons | exact Take1.here | apply Take1.there)) ?_
        rintro v_ give_ ⟨rfl, rfl⟩ rs_ hrs_
        simp only [List.cons_append, List.nil_append] at hrs_
        subst hrs_
        by_cases h3 : u % 3 = 0
        · have hfin := hp.fin e
          have hta := hp.arr e
          have hpl := hp.pl
          rw [hta] at hS1 hpl
          have h64 := hpl.2.2.1
          clear hcat hpl
          repeat (first | (apply G.ex (hd := rfl); case h => (first | exact Ex.move rfl | exact Ex.eqI rfl rfl | exact Ex.indexN rfl rfl (by first | omega | (simp; done) | (simp; omega)) | exact Ex.pickT rfl (by first | assumption | omega) rfl | exact Ex.loadTA rfl (by first | omega | (simp; done) | (simp; omega)))) | refine G.g_tt rfl rfl (by first | assumption | omega) ?_ | refine G.nil ?_ | refine GC.seq ?_ | refine GC.region ?_ | refine GE.then_normal ?_ | refine GC.cond_yes rfl (by first | assumption | omega) ?_)
          refine G.alloc rfl (fun xb => ?_)
          repeat (first | refine G.storeBA rfl rfl rfl rfl rfl ?_ | (apply G.ex (hd := rfl); case h => (first | exact Ex.fieldB rfl | exact Ex.loadB rfl rfl)) | refine G.nil ?_ | refine GC.seq ?_ | refine GC.region ?_ | refine GE.then_normal ?_)
          generalize hgm : B.getD k default = M at *
          obtain ⟨kd, mf, ⟨mo, mn, mc, ml⟩, mfin, mcnt⟩ := M
          simp only at e hfin hml hS1 h64
          subst e hfin hml
          refine G.conv (rs' := .blk xb 46 [.int .i64 1, .int .i64 mf, .slice mo ml.length mc, .bool false, .int .i64 mcnt] :: _) (fun w_ H_ => H_) ?_
          repeat (first | fail)
          have h64' : (⟨1, mf, ⟨mo, ml.length, mc, ml⟩, false, mcnt⟩ : ArM).d.n ≤ 64 := h64
          refine G.appNil rfl rfl (by rfl) (by omega) rfl (rfl) (fun a2 c2 => ?_)
          repeat (first | refine G.storeB rfl rfl rfl rfl rfl ?_ | (apply G.ex (hd := rfl); case h => (first | exact Ex.fieldB rfl | exact Ex.assign rfl)) | refine G.nil ?_ | refine GC.seq ?_ | refine GC.region ?_ | refine GC.block ?_ | refine GE.then_normal ?_)
          refine GC.loop (ι := Nat × List UInt8) (fun y => y.1 ≤ ml.length ∧ y.2.length = ml.length) (fun y => ml.length - y.1) (fun y => [(4, .int .i64 a4), (5, .int .u8 (ob.toNat : Int)), (13, .int .i64 r), (15, .slice ao i ac), (16, .int .i64 (i : Int)), (18, .slice o2 (W ++ [(⟨1, mf, ⟨mo, ml.length, mc, ml⟩, false, mcnt⟩ : ArM)]).length oc2), (19, .int .i64 (k : Int)), (20, .pointer (some (badr xb 0))), (21, .int .i64 (y.1 : Int))]) (fun y => [.vec 5 1 a2 ml.length c2 (flat eB y.2), .blk xb 46 [.int .i64 1, .int .i64 mf, .slice a2 ml.length c2, .bool false, .int .i64 mcnt], .vec 46 5 o2 (W ++ [(⟨1, mf, ⟨mo, ml.length, mc, ml⟩, false, mcnt⟩ : ArM)]).length oc2 (flat eAr (W ++ [(⟨1, mf, ⟨mo, ml.length, mc, ml⟩, false, mcnt⟩ : ArM)])), .per (Rd eB 1 ((W ++ [(⟨1, mf, ⟨mo, ml.length, mc, ml⟩, false, mcnt⟩ : ArM)]).map (·.d))), .vec 46 5 ao i ac (flat eAr B), .per (Rd eB 1 (B.map (·.d)))]) (0, ml) ⟨Nat.zero_le _, rfl⟩ (by simp only [fits]; repeat (first | exact trivial | refine And.intro rfl ?_)) (by repeat (first | exact Takes.nil | apply Takes.dup rfl | apply Takes.cons | exact Take1.here | apply Take1.there)) ?_
          rintro ⟨y, l⟩ ⟨hy, hyl⟩ fr_ rs_ hfr_ hrs_
          simp only [List.cons_append, List.nil_append] at hfr_ hrs_
          subst hfr_ hrs_
          simp only at hy hyl
          by_cases hyt : y < ml.length
          · repeat (first | (apply G.ex (hd := rfl); case h => (first | exact Ex.move rfl | exact Ex.fieldB rfl | exact Ex.loadB rfl rfl | exact Ex.lss rfl rfl | exact Ex.lenSl rfl | exact Ex.indexN rfl rfl (by first | omega | (simp; done) | (simp; omega)) | exact Ex.loadT0 rfl (by first | omega | (simp; done) | (simp; omega)) rfl | exact Ex.xorB rfl rfl)) | refine G.nil ?_ | refine GC.seq ?_ | refine GC.region ?_ | refine GC.block ?_ | refine GC.skip ?_ | refine GE.then_normal ?_ | refine GC.cond_yes rfl (by first | assumption | omega) ?_)
            first | refine G.storeT0 rfl rfl rfl rfl (by first | omega | (simp; omega)) rfl ((l.getD y default ^^^ ob)) (rfl) (fun rs_ hrs_ => ?_) | refine G.storeT rfl rfl rfl rfl (by first | omega | (simp; omega)) rfl ((l.getD y default ^^^ ob)) (rfl) (fun rs_ hrs_ => ?_) | refine G.storeTA rfl rfl (by first | omega | (simp; omega)) rfl ((l.getD y default ^^^ ob)) (rfl) (fun rs_ hrs_ => ?_)
            try simp only at hrs_
            subst hrs_
            repeat (first | (apply G.ex (hd := rfl); case h => (first | exact Ex.move rfl | exact Ex.add rfl rfl (by omega) | exact Ex.assign rfl)) | refine G.nil ?_ | refine GC.region ?_ | refine GE.then_normal ?_ | refine GE.block_normal ?_)
            refine GE.loop (y + 1, l.set y (l.getD y default ^^^ ob)) ⟨by simp only; omega, by simp only; rw [List.length_set]; exact hyl⟩ (by simp only; omega) (by simp only [fits]; repeat (first | exact trivial | refine And.intro rfl ?_)) (by repeat (first | exact Takes.nil | apply Takes.dup rfl | apply Takes.cons | exact Take1.here | apply Take1.there)) (by repeat (first | exact Subs.refl | refine Subs.skip ?_))
          · have hcat : flat eAr (W ++ [(⟨1, mf, ⟨mo, ml.length, mc, ml⟩, false, mcnt⟩ : ArM)]) ++ flat eAr [(⟨1, mf, ⟨a2, ml.length, c2, l⟩, false, mcnt⟩ : ArM)] = flat eAr (W ++ [(⟨1, mf, ⟨mo, ml.length, mc, ml⟩, false, mcnt⟩ : ArM)] ++ [(⟨1, mf, ⟨a2, ml.length, c2, l⟩, false, mcnt⟩ : ArM)]) := (flat_append ..).symm
            have hl1 : (W ++ [(⟨1, mf, ⟨mo, ml.length, mc, ml⟩, false, mcnt⟩ : ArM)]).length = W.length + 1 := by rw [List.length_append]; rfl
            have hl2 : (W ++ [(⟨1, mf, ⟨mo, ml.length, mc, ml⟩, false, mcnt⟩ : ArM)] ++ [(⟨1, mf, ⟨a2, ml.length, c2, l⟩, false, mcnt⟩ : ArM)]).length = (W ++ [(⟨1, mf, ⟨mo, ml.length, mc, ml⟩, false, mcnt⟩ : ArM)]).length + 1 := by rw [List.length_append]; rfl
            have hS2 := hS1.dup hyl
            repeat (first | (apply G.ex (hd := rfl); case h => (first | exact Ex.move rfl | exact Ex.fieldB rfl | exact Ex.loadB rfl rfl | exact Ex.lss rfl rfl | exact Ex.lenSl rfl | exact Ex.loadBA rfl rfl rfl)) | refine G.nil ?_ | refine GC.seq ?_ | refine GC.region ?_ | refine GC.exit ?_ | refine GE.then_normal ?_ | refine GE.then_exit ?_ | refine GE.block_hit ?_ | refine GC.cond_no rfl (by first | assumption | omega) ?_)
            refine G.lit (cells := flat eAr [(⟨1, mf, ⟨a2, ml.length, c2, l⟩, false, mcnt⟩ : ArM)]) rfl (by rfl) (by rfl) (by rfl) (by rfl) (by rfl) (by rfl) rfl (fun q3 => ?_)
            refine G.app rfl rfl (by rfl) (by omega) rfl (hcat) (fun o3 oc3 rs_ hrs_ => ?_)
            try simp only at hrs_
            subst hrs_
            rw [← hl2]
            first | refine G.frz a2 ?_ | refine GC.frz a2 ?_ | refine GE.frz a2 ?_
            refine G.conv (fun w_ H_ => Holds.rdSnoc (x := ⟨a2, ml.length, c2, l⟩) (H_.take (need := [.sl a2 ml.length c2 1 (flat eB l), .per (Rd eB 1 ((W ++ [(⟨1, mf, ⟨mo, ml.length, mc, ml⟩, false, mcnt⟩ : ArM)]).map (·.d)))]) (by repeat (first | exact Takes.nil | apply Takes.dup rfl | apply Takes.cons | exact Take1.here | apply Take1.there)))) ?_
            try simp only [List.append_eq, List.nil_append, List.cons_append]
            rw [show (W ++ [(⟨1, mf, ⟨mo, ml.length, mc, ml⟩, false, mcnt⟩ : ArM)]).map (·.d) ++ [⟨a2, ml.length, c2, l⟩] = (W ++ [(⟨1, mf, ⟨mo, ml.length, mc, ml⟩, false, mcnt⟩ : ArM)] ++ [(⟨1, mf, ⟨a2, ml.length, c2, l⟩, false, mcnt⟩ : ArM)]).map (·.d) by rw [List.map_append (l₂ := [(⟨1, mf, ⟨a2, ml.length, c2, l⟩, false, mcnt⟩ : ArM)])]; rfl]
            repeat (first | (apply G.ex (hd := rfl); case h => (first | exact Ex.move rfl | exact Ex.add rfl rfl (by omega) | exact Ex.assign rfl)) | refine G.nil ?_ | refine GC.region ?_ | refine GE.then_normal ?_ | refine GE.block_normal ?_)
            refine GE.loop (k + 1, W ++ [(⟨1, mf, ⟨mo, ml.length, mc, ml⟩, false, mcnt⟩ : ArM)] ++ [(⟨1, mf, ⟨a2, ml.length, c2, l⟩, false, mcnt⟩ : ArM)], o3, oc3) ⟨by simp only; omega, mem_snoc (mem_snoc hW ⟨.inl rfl, rfl⟩) ⟨.inl rfl, hyl⟩, by simp only; rw [List.map_append, List.map_append]; exact hS2, by simp only; rw [hl2, hl1]; omega⟩ (by simp only; omega) (by simp only [fits]; repeat (first | exact trivial | refine And.intro rfl ?_)) (by repeat (first | exact Takes.nil | apply Takes.dup rfl | apply Takes.cons | exact Take1.here | apply Take1.there)) (by repeat (first | exact Subs.refl | refine Subs.skip ?_))
        · repeat (first | (apply G.ex (hd := rfl); case h => (first | exact Ex.move rfl | exact Ex.add rfl rfl (by omega) | exact Ex.eqI rfl rfl | exact Ex.assign rfl | exact Ex.pickT rfl (by first | assumption | omega) rfl)) | refine G.g_tt rfl rfl (by first | assumption | omega) ?_ | refine G.nil ?_ | refine GC.region ?_ | refine GC.skip ?_ | refine GE.then_normal ?_ | refine GE.block_normal ?_ | refine GC.cond_no rfl (by first | assumption | omega) ?_)
          refine GE.loop (k + 1, W ++ [B.getD k default], o2, oc2) ⟨by simp only; omega, mem_snoc hW hp.ok, by simp only; rw [List.map_append]; exact hS1, by simp only; rw [List.length_append]; simp only [List.length_singleton]; omega⟩ (by simp only; omega) (by simp only [fits]; repeat (first | exact trivial | refine And.intro rfl ?_)) (by repeat (first | exact Takes.nil | apply Takes.dup rfl | apply Takes.cons | exact Take1.here | apply Take1.there)) (by repeat (first | exact Subs.refl | refine Subs.skip ?_))
      · repeat (first | (apply G.ex (hd := rfl); case h => (first | exact Ex.move rfl | exact Ex.fieldE rfl | exact Ex.add rfl rfl (by omega) | exact Ex.eqI rfl rfl | exact Ex.indexN rfl rfl (by first | omega | (simp; done) | (simp; omega)) | exact Ex.loadT0 rfl (by first | omega | (simp; done) | (simp; omega)) rfl | exact Ex.assign rfl | exact Ex.pickF rfl (by first | assumption | omega) rfl)) | refine G.g_tf rfl rfl (by first | assumption | omega) rfl ?_ | refine G.nil ?_ | refine GC.seq ?_ | refine GC.region ?_ | refine GC.skip ?_ | refine GE.then_normal ?_ | refine GE.block_normal ?_ | refine GC.cond_no rfl (by first | assumption | omega) ?_)
        refine GE.loop (k + 1, W ++ [B.getD k default], o2, oc2) ⟨by simp only; omega, mem_snoc hW hp.ok, by simp only; rw [List.map_append]; exact hS1, by simp only; rw [List.length_append]; simp only [List.length_singleton]; omega⟩ (by simp only; omega) (by simp only [fits]; repeat (first | exact trivial | refine And.intro rfl ?_)) (by repeat (first | exact Takes.nil | apply Takes.dup rfl | apply Takes.cons | exact Take1.here | apply Take1.there)) (by repeat (first | exact Subs.refl | refine Subs.skip ?_))
    · obtain rfl : k = i := by omega
      have hBt : B.take B.length = B := List.take_length
      rw [show (k : Nat) = B.length by omega, hBt] at hS
      have ht : Plain (.take 4096) := ⟨by omega, by omega⟩
      have hS1 := hS.snoc ht
      have hcatW : flat eAr W ++ flat eAr [mTk] = flat eAr (W ++ [mTk]) := (flat_append ..).symm
      have hcatB : flat eAr B ++ flat eAr [mTk] = flat eAr (B ++ [mTk]) := (flat_append ..).symm
      have hlW : (W ++ [mTk]).length = W.length + 1 := by rw [List.length_append]; rfl
      have hlB : (B ++ [mTk]).length = k + 1 := by rw [List.length_append, hBl]; rfl
      have hmW : (W ++ [mTk]).map toAr = W.map toAr ++ [.take 4096] := by rw [List.map_append]; rfl
      have hmB : (B ++ [mTk]).map toAr = B.map toAr ++ [.take 4096] := by rw [List.map_append]; rfl
      have hMt : MOk mTk := ⟨.inr rfl, rfl⟩
      have hMW : ∀ m ∈ W ++ [mTk], MOk m := mem_snoc hW hMt
      have hMB : ∀ m ∈ B ++ [mTk], MOk m := mem_snoc (fun m hm => (hP m hm).ok) hMt
      have hrW : RunOk (newF r) ((W ++ [mTk]).map toAr) := by rw [hmW]; exact (Tw.run (Tw.new hr0) hS1.pw).1
      have hrB : RunOk (newF r) ((B ++ [mTk]).map toAr) := by rw [hmB]; exact (Tw.run (Tw.new hr0) hS1.pz).1
      repeat (first | (apply G.ex (hd := rfl); case h => (first | exact Ex.move rfl | exact Ex.lss rfl rfl | exact Ex.build rfl rfl)) | refine G.nil ?_ | refine GC.seq ?_ | refine GC.region ?_ | refine GC.exit ?_ | refine GE.then_normal ?_ | refine GE.then_exit ?_ | refine GE.block_hit ?_ | refine GC.cond_no rfl (by first | assumption | omega) ?_)
      refine G.lit (cells := flat eAr [mTk]) rfl (by rfl) (by rfl) (by rfl) (by rfl) (by rfl) (by rfl) rfl (fun q1 => ?_)
      refine G.app rfl rfl (by rfl) (by omega) rfl (hcatB) (fun o2 oc2 rs_ hrs_ => ?_)
      try simp only at hrs_
      subst hrs_
      first | refine G.nilvec 5 1 ?_ | refine GC.nilvec 5 1 ?_
      first | refine G.frz none ?_ | refine GC.frz none ?_ | refine GE.frz none ?_
      refine G.conv (fun w_ H_ => Holds.rdSnoc (x := ⟨none, 0, 0, []⟩) (H_.take (need := [.sl none 0 0 1 [], .per (Rd eB 1 (B.map (·.d)))]) (by repeat (first | exact Takes.nil | apply Takes.dup rfl | apply Takes.cons | exact Take1.here | apply Take1.there)))) ?_
      try simp only [List.append_eq, List.nil_append, List.cons_append]
      rw [show B.map (·.d) ++ [⟨none, 0, 0, []⟩] = (B ++ [mTk]).map (·.d) by rw [List.map_append]; rfl, ← hlB]
      repeat (first | (apply G.ex (hd := rfl); case h => (first | exact Ex.move rfl | exact Ex.assign rfl | exact Ex.build rfl rfl)) | refine G.nil ?_ | refine GC.seq ?_ | refine GC.region ?_ | refine GE.then_normal ?_)
      refine G.lit (cells := flat eAr [mTk]) rfl (by rfl) (by rfl) (by rfl) (by rfl) (by rfl) (by rfl) rfl (fun q2 => ?_)
      refine G.app rfl rfl (by rfl) (by omega) rfl (hcatW) (fun o3 oc3 rs_ hrs_ => ?_)
      try simp only at hrs_
      subst hrs_
      first | refine G.nilvec 5 1 ?_ | refine GC.nilvec 5 1 ?_
      first | refine G.frz none ?_ | refine GC.frz none ?_ | refine GE.frz none ?_
      refine G.conv (fun w_ H_ => Holds.rdSnoc (x := ⟨none, 0, 0, []⟩) (H_.take (need := [.sl none 0 0 1 [], .per (Rd eB 1 (W.map (·.d)))]) (by repeat (first | exact Takes.nil | apply Takes.dup rfl | apply Takes.cons | exact Take1.here | apply Take1.there)))) ?_
      try simp only [List.append_eq, List.nil_append, List.cons_append]
      rw [show W.map (·.d) ++ [⟨none, 0, 0, []⟩] = (W ++ [mTk]).map (·.d) by rw [List.map_append]; rfl, ← hlW]
      repeat (first | (apply G.ex (hd := rfl); case h => (first | exact Ex.move rfl | exact Ex.assign rfl)) | refine G.nil ?_ | refine GC.seq ?_ | refine GC.region ?_ | refine GE.then_normal ?_)
      first | refine G.call (caps := []) (hearer_sp r (by omega) (.vec 46 5 o2 (B ++ [mTk]).length oc2 (flat eAr (B ++ [mTk]))) o2 (B ++ [mTk]).length oc2 (B ++ [mTk]) rfl (by omega) hMB hrB) rfl rfl rfl rfl (by repeat (first | exact Takes.nil | apply Takes.dup rfl | apply Takes.cons | exact Take1.here | apply Take1.there)) ?_ | refine G.callU (caps := []) (hearer_sp r (by omega) (.vec 46 5 o2 (B ++ [mTk]).length oc2 (flat eAr (B ++ [mTk]))) o2 (B ++ [mTk]).length oc2 (B ++ [mTk]) rfl (by omega) hMB hrB) rfl rfl rfl (by repeat (first | exact Takes.nil | apply Takes.dup rfl | apply Takes.cons | exact Take1.here | apply Take1.there)) ?_
      rintro v_ give_ ⟨T1, p1, pc1, hT1, rfl, rfl⟩ rs_ hrs_
      simp only [List.cons_append, List.nil_append] at hrs_
      subst hrs_
      have hTl1 : T1.length = B.length + 1 := by
        have := congrArg List.length hT1
        rw [List.length_map, runs_len, List.length_map] at this
        omega
      repeat (first | (apply G.ex (hd := rfl); case h => (first | exact Ex.move rfl | exact Ex.extract rfl rfl | exact Ex.assign rfl)) | refine G.nil ?_ | refine GC.seq ?_ | refine GC.region ?_ | refine GE.then_normal ?_)
      first | refine G.call (caps := []) (hearer_sp r (by omega) (.vec 46 5 o3 (W ++ [mTk]).length oc3 (flat eAr (W ++ [mTk]))) o3 (W ++ [mTk]).length oc3 (W ++ [mTk]) rfl (by omega) hMW hrW) rfl rfl rfl rfl (by repeat (first | exact Takes.nil | apply Takes.dup rfl | apply Takes.cons | exact Take1.here | apply Take1.there)) ?_ | refine G.callU (caps := []) (hearer_sp r (by omega) (.vec 46 5 o3 (W ++ [mTk]).length oc3 (flat eAr (W ++ [mTk]))) o3 (W ++ [mTk]).length oc3 (W ++ [mTk]) rfl (by omega) hMW hrW) rfl rfl rfl (by repeat (first | exact Takes.nil | apply Takes.dup rfl | apply Takes.cons | exact Take1.here | apply Take1.there)) ?_
      rintro v_ give_ ⟨T2, p2, pc2, hT2, rfl, rfl⟩ rs_ hrs_
      simp only [List.cons_append, List.nil_append] at hrs_
      subst hrs_
      have hTl2 : T2.length = W.length + 1 := by
        have := congrArg List.length hT2
        rw [List.length_map, runs_len, List.length_map] at this
        omega
      have hxy : (T2.getD W.length default).t = (T1.getD B.length default).t := by
        have h := hS.last hr0 (.take 4096)
        rw [← hmB, ← hmW, ← hT1, ← hT2, List.length_map, List.length_map] at h
        rw [List.getD_eq_getElem?_getD, List.getD_eq_getElem?_getD, List.getElem?_eq_getElem (show W.length < T2.length by omega), List.getElem?_eq_getElem (show B.length < T1.length by omega)]
        rw [List.getD_eq_getElem?_getD, List.getD_eq_getElem?_getD, List.getElem?_map, List.getElem?_map, List.getElem?_eq_getElem (show W.length < T2.length by omega), List.getElem?_eq_getElem (show B.length < T1.length by omega)] at h
        exact h
      have hi1 : ((((B ++ [mTk]).length : Nat) : Int) - 1).toNat = B.length := by omega
      have hi2 : ((((W ++ [mTk]).length : Nat) : Int) - 1).toNat = W.length := by omega
      repeat (first | (apply G.ex (hd := rfl); case h => (first | exact Ex.move rfl | exact Ex.sub rfl rfl (by omega) | exact Ex.lenSl rfl | exact Ex.extract rfl rfl | exact Ex.assign rfl | exact Ex.notB rfl | exact Ex.pickF rfl (by first | assumption | omega) rfl | exact Ex.loadTA rfl (by first | omega | (simp; done) | (simp; omega)) | exact Ex.indexI rfl rfl (by omega))) | refine G.g_ff rfl rfl (by first | assumption | omega) ?_ | refine G.nil ?_ | refine GC.seq ?_ | refine GC.region ?_ | refine GC.skip ?_ | refine GE.then_normal ?_ | refine GC.cond_no rfl (by first | assumption | omega) ?_)
      have hsm : (T1.getD B.length default).t.data.length ≤ 4096 ∧ (T1.getD B.length default).t.sacks.length ≤ 3 := by
        have h := runs_at (newF r) ((B ++ [mTk]).map toAr) B.length (by rw [List.length_map]; omega)
        have h2 := told_small (ends (newF r) (((B ++ [mTk]).map toAr).take B.length)) (a := ((B ++ [mTk]).map toAr).getD B.length default) (by rw [hmB]; exact hS1.pz _ (piece_getD (by simp)))
        rw [← h, ← hT1, List.getD_eq_getElem?_getD, List.getElem?_map, List.getElem?_eq_getElem (show B.length < T1.length by omega)] at h2
        rw [List.getD_eq_getElem?_getD, List.getElem?_eq_getElem (show B.length < T1.length by omega)]
        exact h2
      have gx : ∀ (T : List ToM) (i : Nat), i < T.length → (T.map xoF).getD i default = xoF (T.getD i default) := fun T i h => by
        rw [List.getD_eq_getElem?_getD, List.getElem?_map, List.getD_eq_getElem?_getD, List.getElem?_eq_getElem h]; rfl
      have gs : ∀ (T : List ToM) (i : Nat), i < T.length → (T.map soF).getD i default = soF (T.getD i default) := fun T i h => by
        rw [List.getD_eq_getElem?_getD, List.getElem?_map, List.getD_eq_getElem?_getD, List.getElem?_eq_getElem h]; rfl
      rw [hi1]
      refine G.alloc rfl (fun xb => ?_)
      repeat (first | refine G.storeBA rfl rfl rfl rfl rfl ?_ | (apply G.ex (hd := rfl); case h => (first | exact Ex.move rfl | exact Ex.sub rfl rfl (by omega) | exact Ex.lenSl rfl | exact Ex.loadTA rfl (by first | omega | (simp; done) | (simp; omega)) | exact Ex.indexI rfl rfl (by omega))) | refine G.nil ?_ | refine GC.seq ?_ | refine GC.region ?_ | refine GE.then_normal ?_)
      rw [hi2]
      refine G.alloc rfl (fun yb => ?_)
      repeat (first | refine G.storeBA rfl rfl rfl rfl rfl ?_ | (apply G.ex (hd := rfl); case h => (first | exact Ex.fieldB rfl | exact Ex.loadB rfl rfl)) | refine G.nil ?_ | refine GC.seq ?_ | refine GC.region ?_ | refine GE.then_normal ?_)
      refine G.conv (rs' := .sl (T1.getD B.length default).xo (T1.getD B.length default).t.data.length (T1.getD B.length default).xc 1 (flat eB (T1.getD B.length default).t.data) :: _) (fun w_ H_ => by
        have h := H_.rdAt (l := T1.map xoF) (enc := eB) (s := 1) (by simp) B.length (by rw [List.length_map]; omega)
        rw [gx _ _ (by omega)] at h
        exact h) ?_
      refine G.conv (rs' := .sl (T1.getD B.length default).so (T1.getD B.length default).t.sacks.length (T1.getD B.length default).sc 2 (flat eR (T1.getD B.length default).t.sacks) :: _) (fun w_ H_ => by
        have h := H_.rdAt (l := T1.map soF) (enc := eR) (s := 2) (by simp) B.length (by rw [List.length_map]; omega)
        rw [gs _ _ (by omega)] at h
        exact h) ?_
      refine G.conv (rs' := .sl (T2.getD W.length default).xo (T2.getD W.length default).t.data.length (T2.getD W.length default).xc 1 (flat eB (T2.getD W.length default).t.data) :: _) (fun w_ H_ => by
        have h := H_.rdAt (l := T2.map xoF) (enc := eB) (s := 1) (by simp) W.length (by rw [List.length_map]; omega)
        rw [gx _ _ (by omega)] at h
        exact h) ?_
      refine G.conv (rs' := .sl (T2.getD W.length default).so (T2.getD W.length default).t.sacks.length (T2.getD W.length default).sc 2 (flat eR (T2.getD W.length default).t.sacks) :: _) (fun w_ H_ => by
        have h := H_.rdAt (l := T2.map soF) (enc := eR) (s := 2) (by simp) W.length (by rw [List.length_map]; omega)
        rw [gs _ _ (by omega)] at h
        exact h) ?_
      generalize T1.getD B.length default = x at *
      generalize T2.getD W.length default = y at *
      obtain ⟨hsm1, hsm2⟩ := hsm
      refine G.conv (rs' := .blk xb 42 [.int .i64 x.t.code, .int .i64 x.t.ack, .int .i64 x.t.window, .slice x.so x.t.sacks.length x.sc, .slice x.xo x.t.data.length x.xc, .bool x.t.fin] :: .blk yb 42 [.int .i64 y.t.code, .int .i64 y.t.ack, .int .i64 y.t.window, .slice y.so y.t.sacks.length y.sc, .slice y.xo y.t.data.length y.xc, .bool y.t.fin] :: .sl x.xo x.t.data.length x.xc 1 (flat eB x.t.data) :: .sl y.xo y.t.data.length y.xc 1 (flat eB y.t.data) :: .sl x.so x.t.sacks.length x.sc 2 (flat eR x.t.sacks) :: .sl y.so y.t.sacks.length y.sc 2 (flat eR y.t.sacks) :: rest) (fun w_ H_ => by
        have h := H_.take (need := [.blk xb 42 [.int .i64 x.t.code, .int .i64 x.t.ack, .int .i64 x.t.window, .slice x.so x.t.sacks.length x.sc, .slice x.xo x.t.data.length x.xc, .bool x.t.fin], .blk yb 42 [.int .i64 y.t.code, .int .i64 y.t.ack, .int .i64 y.t.window, .slice y.so y.t.sacks.length y.sc, .slice y.xo y.t.data.length y.xc, .bool y.t.fin], .sl x.xo x.t.data.length x.xc 1 (flat eB x.t.data), .sl y.xo y.t.data.length y.xc 1 (flat eB y.t.data), .sl x.so x.t.sacks.length x.sc 2 (flat eR x.t.sacks), .sl y.so y.t.sacks.length y.sc 2 (flat eR y.t.sacks)]) (by repeat (first | exact Takes.nil | apply Takes.dup rfl | apply Takes.cons | exact Take1.here | apply Take1.there))
        exact subs_app (by repeat (first | exact Subs.refl | refine Subs.skip ?_)) h) ?_
      rw [hxy]
      first | refine G.call (caps := []) (sameBytes_sp (.sl x.xo x.t.data.length x.xc 1 (flat eB x.t.data)) (.sl y.xo x.t.data.length y.xc 1 (flat eB x.t.data)) x.xo y.xo x.t.data.length x.xc x.t.data.length y.xc x.t.data x.t.data rfl rfl (by omega) (by omega)) rfl rfl rfl rfl (by repeat (first | exact Takes.nil | apply Takes.dup rfl | apply Takes.cons | exact Take1.here | apply Take1.there)) ?_ | refine G.callU (caps := []) (sameBytes_sp (.sl x.xo x.t.data.length x.xc 1 (flat eB x.t.data)) (.sl y.xo x.t.data.length y.xc 1 (flat eB x.t.data)) x.xo y.xo x.t.data.length x.xc x.t.data.length y.xc x.t.data x.t.data rfl rfl (by omega) (by omega)) rfl rfl rfl (by repeat (first | exact Takes.nil | apply Takes.dup rfl | apply Takes.cons | exact Take1.here | apply Take1.there)) ?_
      rintro v_ give_ ⟨rfl, rfl⟩ rs_ hrs_
      simp only [List.cons_append, List.nil_append] at hrs_
      subst hrs_
      rw [decide_eq_true (rfl : x.t.data = x.t.data)]
      repeat (first | (apply G.ex (hd := rfl); case h => (first | exact Ex.move rfl | exact Ex.fieldB rfl | exact Ex.loadB rfl rfl | exact Ex.eqI rfl rfl | exact Ex.pickLT rfl rfl)) | refine G.g_tt rfl rfl (by first | assumption | omega) ?_ | refine G.yes rfl rfl ?_)
      first | refine G.call (caps := []) (sameRanges_sp (.sl x.so x.t.sacks.length x.sc 2 (flat eR x.t.sacks)) (.sl y.so x.t.sacks.length y.sc 2 (flat eR x.t.sacks)) x.so y.so x.t.sacks.length x.sc x.t.sacks.length y.sc x.t.sacks x.t.sacks rfl rfl (by omega) rfl) rfl rfl rfl rfl (by repeat (first | exact Takes.nil | apply Takes.dup rfl | apply Takes.cons | exact Take1.here | apply Take1.there)) ?_ | refine G.callU (caps := []) (sameRanges_sp (.sl x.so x.t.sacks.length x.sc 2 (flat eR x.t.sacks)) (.sl y.so x.t.sacks.length y.sc 2 (flat eR x.t.sacks)) x.so y.so x.t.sacks.length x.sc x.t.sacks.length y.sc x.t.sacks x.t.sacks rfl rfl (by omega) rfl) rfl rfl rfl (by repeat (first | exact Takes.nil | apply Takes.dup rfl | apply Takes.cons | exact Take1.here | apply Take1.there)) ?_
      rintro v_ give_ ⟨rfl, rfl⟩ rs_ hrs_
      simp only [List.cons_append, List.nil_append] at hrs_
      subst hrs_
      repeat (first | (apply G.ex (hd := rfl); case h => (first | exact Ex.assign rfl | exact Ex.pickT rfl (by first | assumption | omega) rfl)) | refine G.nil ?_ | refine GC.ret ?_ | refine GE.then_normal ?_)
      refine GE.ret (by first | exact .inl rfl | exact .inr rfl) (by first | exact res0 Try.results6 | exact res1 Try.results6 rfl | exact res2 Try.results6 rfl rfl | exact resR1 Try.results6 (by first | exact RV.tmp rfl | exact RV.cell rfl (eP_len _) | exact RV.cell rfl rfl | exact RV.cell1 rfl) | exact resR2 Try.results6 (by first | exact RV.tmp rfl | exact RV.cell rfl (eP_len _) | exact RV.cell rfl rfl | exact RV.cell1 rfl) (by first | exact RV.tmp rfl | exact RV.cell rfl (eP_len _) | exact RV.cell rfl rfl | exact RV.cell1 rfl) | exact resR3 Try.results6 (by first | exact RV.tmp rfl | exact RV.cell rfl (eP_len _) | exact RV.cell rfl rfl | exact RV.cell1 rfl) (by first | exact RV.tmp rfl | exact RV.cell rfl (eP_len _) | exact RV.cell rfl rfl | exact RV.cell1 rfl) (by first | exact RV.tmp rfl | exact RV.cell rfl (eP_len _) | exact RV.cell rfl rfl | exact RV.cell1 rfl)) ⟨rfl, rfl⟩ (by repeat (first | exact Takes.nil | apply Takes.dup rfl | apply Takes.cons | exact Take1.here | apply Take1.there)) (by repeat (first | exact Subs.refl | refine Subs.skip ?_))
end recv
end Go.Proofs.Ytfopnlfdoljcdaa
