/-
  CONTRACT of packthreadkeep.RecvAll: it is true.
-/
import Derived.Test.YtfopnlfdoljcdaaRecvAllP
namespace Go.Proofs.Ytfopnlfdoljcdaa
open Go.RowKit
attribute [local irreducible] Ex G GC GE Gq FPost LPost
set_option linter.unusedVariables false
set_option linter.unusedSimpArgs false
namespace recv
open hole
set_option maxHeartbeats 8000000 in
set_option maxRecDepth 100000 in
theorem recvAll_sp (a0 : Int) (ha0 : -9223372036854775808 ≤ a0 ∧ a0 ≤ 9223372036854775807) (a1 : Int) (ha1 : -9223372036854775808 ≤ a1 ∧ a1 ≤ 9223372036854775807) (a2 : Int) (ha2 : -9223372036854775808 ≤ a2 ∧ a2 ≤ 9223372036854775807) (a3 : Option Addr) (len3 cap3 : Nat) (z3 : List Int) (hl3 : z3.length = len3) (hb3 : len3 ≤ 9223372036854775807) (hw3 : ∀ z ∈ z3, -9223372036854775808 ≤ z ∧ z ≤ 9223372036854775807) (a4 : Int) (ha4 : -9223372036854775808 ≤ a4 ∧ a4 ≤ 9223372036854775807) :
    Spec Try.prog 5 [.int .i64 a0, .int .i64 a1, .int .i64 a2, .slice a3 len3 cap3, .int .i64 a4] [.sl a3 len3 cap3 1 (flat (eI .i64) z3)] fun v give => v = .bool true ∧ give = [] := by
  have r1 := Int.emod_nonneg a0 (show (300 : Int) ≠ 0 by omega)
  have r2 := Int.emod_lt_of_pos a0 (show (0 : Int) < 300 by omega)
  have n1 := Int.emod_nonneg a2 (show (300 : Int) ≠ 0 by omega)
  have n2 := Int.emod_lt_of_pos a2 (show (0 : Int) < 300 by omega)
  have p1 := Int.emod_nonneg a4 (show (64 : Int) ≠ 0 by omega)
  have p2 := Int.emod_lt_of_pos a4 (show (0 : Int) < 64 by omega)
  obtain ⟨m, hm⟩ : ∃ m : Nat, a2 % 300 = (m : Int) := ⟨(a2 % 300).toNat, by omega⟩
  obtain ⟨k0, hk0⟩ : ∃ k0 : Nat, 1 + a4 % 64 = (k0 : Int) := ⟨(1 + a4 % 64).toNat, by omega⟩
  have htt : ¬ ¬ true = true := fun h => h rfl
  refine Spec.intro Try.func5 rfl Try.ntmps5 rfl fun w0 rest rs_ hrs_ => ?_
  simp only [List.cons_append, List.nil_append] at hrs_
  subst hrs_
  repeat (first | (apply G.ex (hd := rfl); case h => (first | exact Ex.move rfl | exact Ex.assign rfl)) | refine G.nil ?_ | refine GC.seq ?_ | refine GC.region ?_ | refine GE.then_normal ?_)
  first | refine G.call (caps := []) (picked_sp a0 300 (by omega) (by omega)) rfl rfl rfl rfl (by repeat (first | exact Takes.nil | apply Takes.dup rfl | apply Takes.cons | exact Take1.here | apply Take1.there)) ?_ | refine G.callU (caps := []) (picked_sp a0 300 (by omega) (by omega)) rfl rfl rfl (by repeat (first | exact Takes.nil | apply Takes.dup rfl | apply Takes.cons | exact Take1.here | apply Take1.there)) ?_
  rintro v_ give_ ⟨rfl, rfl⟩ rs_ hrs_
  simp only [List.cons_append, List.nil_append] at hrs_
  subst hrs_
  repeat (first | (apply G.ex (hd := rfl); case h => (first | exact Ex.move rfl | exact Ex.add rfl rfl (by omega) | exact Ex.assign rfl)) | refine G.nil ?_ | refine GC.seq ?_ | refine GC.region ?_ | refine GE.then_normal ?_)
  first | refine G.call (caps := []) (picked_sp a2 300 (by omega) (by omega)) rfl rfl rfl rfl (by repeat (first | exact Takes.nil | apply Takes.dup rfl | apply Takes.cons | exact Take1.here | apply Take1.there)) ?_ | refine G.callU (caps := []) (picked_sp a2 300 (by omega) (by omega)) rfl rfl rfl (by repeat (first | exact Takes.nil | apply Takes.dup rfl | apply Takes.cons | exact Take1.here | apply Take1.there)) ?_
  rintro v_ give_ ⟨rfl, rfl⟩ rs_ hrs_
  simp only [List.cons_append, List.nil_append] at hrs_
  subst hrs_
  rw [hm] at n1 n2 ⊢
  first | refine G.call (caps := []) (stream_sp a1 m (by omega)) rfl rfl rfl rfl (by repeat (first | exact Takes.nil | apply Takes.dup rfl | apply Takes.cons | exact Take1.here | apply Take1.there)) ?_ | refine G.callU (caps := []) (stream_sp a1 m (by omega)) rfl rfl rfl (by repeat (first | exact Takes.nil | apply Takes.dup rfl | apply Takes.cons | exact Take1.here | apply Take1.there)) ?_
  rintro v_ give_ ⟨so, sc, s, hsl, rfl, rfl⟩ rs_ hrs_
  simp only [List.cons_append, List.nil_append] at hrs_
  subst hrs_
  subst hsl
  first | refine G.frz so ?_ | refine GC.frz so ?_ | refine GE.frz so ?_
  repeat (first | (apply G.ex (hd := rfl); case h => (first | exact Ex.move rfl | exact Ex.assign rfl)) | refine G.nil ?_ | refine GC.seq ?_ | refine GC.region ?_ | refine GE.then_normal ?_)
  first | refine G.call (caps := []) (arrivals_sp a3 len3 cap3 z3 hl3 hb3 hw3 so sc s (by omega) 60 (by omega) true) rfl rfl rfl rfl (by repeat (first | exact Takes.nil | apply Takes.dup rfl | apply Takes.cons | exact Take1.here | apply Take1.there)) ?_ | refine G.callU (caps := []) (arrivals_sp a3 len3 cap3 z3 hl3 hb3 hw3 so sc s (by omega) 60 (by omega) true) rfl rfl rfl (by repeat (first | exact Takes.nil | apply Takes.dup rfl | apply Takes.cons | exact Take1.here | apply Take1.there)) ?_
  rintro v_ give_ ⟨A0, ao, ac, hA, hM, rfl, rfl⟩ rs_ hrs_
  simp only [List.cons_append, List.nil_append] at hrs_
  subst hrs_
  have hof : ∀ a ∈ A0.map toAr, OfS s true a := by
    rw [hA]
    intro a ha
    obtain ⟨z, _, rfl⟩ := List.mem_map.1 ha
    exact arOf_ofS s true z
  generalize hr : 70 + a0 % 300 = r at *
  have hr0 : 64 ≤ r ∧ r ≤ 4096 := by omega
  have hs : s.length ≤ 300 := by omega
  have hnew : Tru s true (newF r) := Tru.new (by omega)
  repeat (first | (apply G.ex (hd := rfl); case h => (first | exact Ex.move rfl | exact Ex.assign rfl)) | refine G.nil ?_ | refine GC.seq ?_ | refine GC.region ?_ | refine GE.then_normal ?_)
  first | refine G.call (caps := []) (picked_sp a4 64 (by omega) (by omega)) rfl rfl rfl rfl (by repeat (first | exact Takes.nil | apply Takes.dup rfl | apply Takes.cons | exact Take1.here | apply Take1.there)) ?_ | refine G.callU (caps := []) (picked_sp a4 64 (by omega) (by omega)) rfl rfl rfl (by repeat (first | exact Takes.nil | apply Takes.dup rfl | apply Takes.cons | exact Take1.here | apply Take1.there)) ?_
  rintro v_ give_ ⟨rfl, rfl⟩ rs_ hrs_
  simp only [List.cons_append, List.nil_append] at hrs_
  subst hrs_
  repeat (first | (apply G.ex (hd := rfl); case h => (first | exact Ex.add rfl rfl (by omega) | exact Ex.assign rfl)) | refine G.nil ?_ | refine GC.seq ?_ | refine GC.region ?_ | refine GC.block ?_ | refine GE.then_normal ?_)
  rw [hk0]
  have o0 : Out s r 0 A0 k0 := ⟨by omega, hM, hof, fun h => absurd h (by omega), fun h => absurd h (by omega), fun h => absurd h (by omega)⟩
  have hAl : A0.length ≤ 60 := by
    have := congrArg List.length hA
    rw [List.length_map, List.length_map, List.length_take] at this
    omega
  clear hA hM hof
  repeat (first | fail)
  refine GC.conv (rs' := [.vec 46 5 ao A0.length ac (flat eAr A0), .per (Rd eB 1 (A0.map (·.d))), .sl so s.length sc 1 (flat eB s)] ++ rest) (fun w_ H_ => by
    have h := H_.take (need := [.vec 46 5 ao A0.length ac (flat eAr A0), .per (Rd eB 1 (A0.map (·.d))), .sl so s.length sc 1 (flat eB s)]) (by repeat (first | exact Takes.nil | apply Takes.dup rfl | apply Takes.cons | exact Take1.here | apply Take1.there))
    exact subs_app (by repeat (first | exact Subs.refl | refine Subs.skip ?_)) h) ?_
  refine GC.loop (ι := Nat × Nat × List ArM × Option Addr × Nat) (fun x => x.1 ≤ 2 ∧ Out s r x.1 x.2.2.1 x.2.1 ∧ x.2.2.1.length ≤ 60 + 800 * x.1) (fun x => 2 - x.1) (fun x => [(11, .int .i64 r), (12, .slice so s.length sc), (13, .slice x.2.2.2.1 x.2.2.1.length x.2.2.2.2), (14, .int .i64 (x.2.1 : Int)), (15, .int .i64 (x.1 : Int))]) (fun x => [.vec 46 5 x.2.2.2.1 x.2.2.1.length x.2.2.2.2 (flat eAr x.2.2.1), .per (Rd eB 1 (x.2.2.1.map (·.d))), .sl so s.length sc 1 (flat eB s)]) (0, k0, A0, ao, ac) ⟨Nat.zero_le _, o0, hAl⟩ (by simp only [fits]; repeat (first | exact trivial | refine And.intro rfl ?_)) (by repeat (first | exact Takes.nil | apply Takes.dup rfl | apply Takes.cons | exact Take1.here | apply Take1.there)) ?_
  clear o0
  rintro ⟨j, k1, A1, ao1, ac1⟩ ⟨hj, o1, hl1⟩ fr_ rs_ hfr_ hrs_
  simp only [List.cons_append, List.nil_append] at hfr_ hrs_
  subst hfr_ hrs_
  simp only at hj o1 hl1
  by_cases hlj : j < 2
  · repeat (first | (apply G.ex (hd := rfl); case h => (first | exact Ex.move rfl | exact Ex.lss rfl rfl | exact Ex.assign rfl)) | refine G.nil ?_ | refine GC.seq ?_ | refine GC.region ?_ | refine GC.block ?_ | refine GC.skip ?_ | refine GE.then_normal ?_ | refine GC.cond_yes rfl (by first | assumption | omega) ?_)
    refine GC.loop (ι := Nat × Nat × List ArM × Option Addr × Nat) (fun x => Rnd s r k1 (Full s (ends (newF r) (A1.map toAr))) x.2.2.1 x.2.1 x.1 ∧ x.2.2.1.length ≤ A1.length + 2 * x.1) (fun x => s.length + 65 - x.1) (fun x => [(11, .int .i64 r), (12, .slice so s.length sc), (13, .slice x.2.2.2.1 x.2.2.1.length x.2.2.2.2), (14, .int .i64 (x.2.1 : Int)), (15, .int .i64 (j : Int)), (16, .int .i64 (x.1 : Int))]) (fun x => [.vec 46 5 x.2.2.2.1 x.2.2.1.length x.2.2.2.2 (flat eAr x.2.2.1), .per (Rd eB 1 (x.2.2.1.map (·.d))), .sl so s.length sc 1 (flat eB s)]) (0, k1, A1, ao1, ac1) ⟨o1.rnd (by omega) hr0, Nat.le_refl _⟩ (by simp only [fits]; repeat (first | exact trivial | refine And.intro rfl ?_)) (by repeat (first | exact Takes.nil | apply Takes.dup rfl | apply Takes.cons | exact Take1.here | apply Take1.there)) ?_
    rintro ⟨F, k, A, oa, oc⟩ ⟨q, hla⟩ fr_ rs_ hfr_ hrs_
    simp only [List.cons_append, List.nil_append] at hfr_ hrs_
    subst hfr_ hrs_
    simp only at q hla
    have kb := q.kb
    have fb := q.fb
    by_cases hF : F ≤ s.length
    · obtain ⟨E, hE⟩ : ∃ E : Nat, E = min (F + k) s.length := ⟨_, rfl⟩
      have hE' : min ((F : Int) + (k : Int)) (s.length : Int) = (E : Int) := by omega
      have hel : ((s.drop F).take (E - F)).length = E - F := by rw [List.length_take, List.length_drop]; omega
      repeat (first | (apply G.ex (hd := rfl); case h => (first | exact Ex.move rfl | exact Ex.add rfl rfl (by omega) | exact Ex.leq rfl rfl | exact Ex.lenSl rfl | exact Ex.assign rfl | exact Ex.min rfl rfl)) | refine G.nil ?_ | refine GC.seq ?_ | refine GC.region ?_ | refine GC.block ?_ | refine GC.skip ?_ | refine GE.then_normal ?_ | refine GC.cond_yes rfl (by first | assumption | omega) ?_)
      rw [hE']
      repeat (first | fail)
      refine G.sub (l := F) (r := E) rfl rfl (by first | exact .inl ⟨rfl, rfl⟩ | exact .inr ⟨_, _, rfl, ev_int rfl (by omega)⟩) (by first | exact .inl ⟨rfl, rfl⟩ | exact .inr ⟨_, _, rfl, ev_int rfl (by omega)⟩) (by omega) rfl (rfl) (fun s2 => ?_)
      rw [flat_cutB]
      refine G.appNil rfl rfl (by rfl) (by omega) rfl (rfl) (fun a2 c2 => ?_)
      first | refine G.frz a2 ?_ | refine GC.frz a2 ?_ | refine GE.frz a2 ?_
      have hcat : flat eAr A ++ flat eAr [mPc s F E a2 c2, mTk] = flat eAr (A ++ [mPc s F E a2 c2, mTk]) := (flat_append ..).symm
      repeat (first | (apply G.ex (hd := rfl); case h => (first | exact Ex.move rfl | exact Ex.eqI rfl rfl | exact Ex.lenSl rfl | exact Ex.build rfl rfl)))
      refine G.lit (cells := flat eAr [mPc s F E a2 c2, mTk]) rfl (by rfl) (by rfl) (by rfl) (by rfl) (by rfl) (by rfl) rfl (fun q_ => ?_)
      refine G.app rfl rfl (by rfl) (by omega) rfl (hcat) (fun o2 oc2 rs_ hrs_ => ?_)
      try simp only at hrs_
      subst hrs_
      refine G.conv (fun w_ H_ => Holds.rdSnoc (x := ⟨a2, E - F, c2, (s.drop F).take (E - F)⟩) (H_.take (need := [.sl a2 (E - F) c2 1 (flat eB ((s.drop F).take (E - F))), .per (Rd eB 1 (A.map (·.d)))]) (by repeat (first | exact Takes.nil | apply Takes.dup rfl | apply Takes.cons | exact Take1.here | apply Take1.there)))) ?_
      try simp only [List.append_eq, List.nil_append, List.cons_append]
      first | refine G.nilvec 5 1 ?_ | refine GC.nilvec 5 1 ?_
      first | refine G.frz none ?_ | refine GC.frz none ?_ | refine GE.frz none ?_
      refine G.conv (fun w_ H_ => Holds.rdSnoc (x := ⟨none, 0, 0, []⟩) (H_.take (need := [.sl none 0 0 1 [], .per (Rd eB 1 (A.map (·.d) ++ [⟨a2, E - F, c2, (s.drop F).take (E - F)⟩]))]) (by repeat (first | exact Takes.nil | apply Takes.dup rfl | apply Takes.cons | exact Take1.here | apply Take1.there)))) ?_
      try simp only [List.append_eq, List.nil_append, List.cons_append]
      rw [show A.map (·.d) ++ [⟨a2, E - F, c2, (s.drop F).take (E - F)⟩] ++ [⟨none, 0, 0, []⟩] = (A ++ [mPc s F E a2 c2, mTk]).map (·.d) by rw [List.map_append, List.append_assoc]; rfl]
      have hal : (A ++ [mPc s F E a2 c2, mTk]).length = A.length + 2 := by rw [List.length_append]; rfl
      by_cases h290 : 290 < A.length + 2
      · have qn := q.step (by omega) hr0 hF (k' := 64) (.inr rfl) hE a2 c2
        rw [← hal] at h290
        repeat (first | (apply G.ex (hd := rfl); case h => (first | exact Ex.move rfl | exact Ex.add rfl rfl (by omega) | exact Ex.gtr rfl rfl | exact Ex.lenSl rfl | exact Ex.assign rfl)) | refine G.nil ?_ | refine GC.seq ?_ | refine GC.region ?_ | refine GE.then_normal ?_ | refine GE.block_normal ?_ | refine GC.cond_yes rfl (by first | assumption | omega) ?_)
        rw [← hal]
        repeat (first | fail)
        refine GE.loop (F + 64, 64, A ++ [mPc s F E a2 c2, mTk], o2, oc2) ⟨qn, by simp only; omega⟩ (by simp only; omega) (by simp only [fits]; repeat (first | exact trivial | refine And.intro rfl ?_)) (by repeat (first | exact Takes.nil | apply Takes.dup rfl | apply Takes.cons | exact Take1.here | apply Take1.there)) (by repeat (first | exact Subs.refl | refine Subs.skip ?_))
      · have qn := q.step (by omega) hr0 hF (k' := k) (.inl rfl) hE a2 c2
        rw [← hal] at h290
        repeat (first | (apply G.ex (hd := rfl); case h => (first | exact Ex.move rfl | exact Ex.add rfl rfl (by omega) | exact Ex.gtr rfl rfl | exact Ex.lenSl rfl | exact Ex.assign rfl)) | refine G.nil ?_ | refine GC.seq ?_ | refine GC.region ?_ | refine GC.skip ?_ | refine GE.then_normal ?_ | refine GE.block_normal ?_ | refine GC.cond_no rfl (by first | assumption | omega) ?_)
        rw [← hal]
        repeat (first | fail)
        refine GE.loop (F + k, k, A ++ [mPc s F E a2 c2, mTk], o2, oc2) ⟨qn, by simp only; omega⟩ (by simp only; omega) (by simp only [fits]; repeat (first | exact trivial | refine And.intro rfl ?_)) (by repeat (first | exact Takes.nil | apply Takes.dup rfl | apply Takes.cons | exact Take1.here | apply Take1.there)) (by repeat (first | exact Subs.refl | refine Subs.skip ?_))
    · have o2 := Rnd.out o1 q hlj (by omega)
      repeat (first | (apply G.ex (hd := rfl); case h => (first | exact Ex.move rfl | exact Ex.add rfl rfl (by omega) | exact Ex.leq rfl rfl | exact Ex.lenSl rfl | exact Ex.assign rfl)) | refine G.nil ?_ | refine GC.seq ?_ | refine GC.region ?_ | refine GC.exit ?_ | refine GE.then_normal ?_ | refine GE.then_exit ?_ | refine GE.block_normal ?_ | refine GE.block_hit ?_ | refine GC.cond_no rfl (by first | assumption | omega) ?_)
      refine GE.loop (j + 1, k, A, oa, oc) ⟨by simp only; omega, o2, by simp only; omega⟩ (by simp only; omega) (by simp only [fits]; repeat (first | exact trivial | refine And.intro rfl ?_)) (by repeat (first | exact Takes.nil | apply Takes.dup rfl | apply Takes.cons | exact Take1.here | apply Take1.there)) (by repeat (first | exact Subs.refl | refine Subs.skip ?_))
  · obtain rfl : j = 2 := by omega
    by_cases h300 : 300 < A1.length
    · repeat (first | (apply G.ex (hd := rfl); case h => (first | exact Ex.move rfl | exact Ex.lss rfl rfl | exact Ex.gtr rfl rfl | exact Ex.lenSl rfl | exact Ex.assign rfl)) | refine G.nil ?_ | refine GC.seq ?_ | refine GC.region ?_ | refine GC.ret ?_ | refine GC.exit ?_ | refine GE.then_normal ?_ | refine GE.then_ret ?_ | refine GE.then_exit ?_ | refine GE.block_hit ?_ | refine GC.cond_yes rfl (by first | assumption | omega) ?_ | refine GC.cond_no rfl (by first | assumption | omega) ?_)
      refine GE.ret (by first | exact .inl rfl | exact .inr rfl) (by first | exact res0 Try.results5 | exact res1 Try.results5 rfl | exact res2 Try.results5 rfl rfl | exact resR1 Try.results5 (by first | exact RV.tmp rfl | exact RV.cell rfl (eP_len _) | exact RV.cell rfl rfl | exact RV.cell1 rfl) | exact resR2 Try.results5 (by first | exact RV.tmp rfl | exact RV.cell rfl (eP_len _) | exact RV.cell rfl rfl | exact RV.cell1 rfl) (by first | exact RV.tmp rfl | exact RV.cell rfl (eP_len _) | exact RV.cell rfl rfl | exact RV.cell1 rfl) | exact resR3 Try.results5 (by first | exact RV.tmp rfl | exact RV.cell rfl (eP_len _) | exact RV.cell rfl rfl | exact RV.cell1 rfl) (by first | exact RV.tmp rfl | exact RV.cell rfl (eP_len _) | exact RV.cell rfl rfl | exact RV.cell1 rfl) (by first | exact RV.tmp rfl | exact RV.cell rfl (eP_len _) | exact RV.cell rfl rfl | exact RV.cell1 rfl)) ⟨rfl, rfl⟩ (by repeat (first | exact Takes.nil | apply Takes.dup rfl | apply Takes.cons | exact Take1.here | apply Take1.there)) (by repeat (first | exact Subs.refl | refine Subs.skip ?_))
    · have hrun := (Tru.run (by omega) hnew o1.ofs).1
      repeat (first | (apply G.ex (hd := rfl); case h => (first | exact Ex.move rfl | exact Ex.lss rfl rfl | exact Ex.gtr rfl rfl | exact Ex.lenSl rfl)) | refine G.nil ?_ | refine GC.seq ?_ | refine GC.region ?_ | refine GC.skip ?_ | refine GC.exit ?_ | refine GE.then_normal ?_ | refine GE.then_exit ?_ | refine GE.block_hit ?_ | refine GC.cond_no rfl (by first | assumption | omega) ?_)
      first | refine G.call (caps := []) (hearer_sp r (by omega) (.vec 46 5 ao1 A1.length ac1 (flat eAr A1)) ao1 A1.length ac1 A1 rfl (by omega) o1.mok hrun) rfl rfl rfl rfl (by repeat (first | exact Takes.nil | apply Takes.dup rfl | apply Takes.cons | exact Take1.here | apply Take1.there)) ?_ | refine G.callU (caps := []) (hearer_sp r (by omega) (.vec 46 5 ao1 A1.length ac1 (flat eAr A1)) ao1 A1.length ac1 A1 rfl (by omega) o1.mok hrun) rfl rfl rfl (by repeat (first | exact Takes.nil | apply Takes.dup rfl | apply Takes.cons | exact Take1.here | apply Take1.there)) ?_
      rintro v_ give_ ⟨T, o, oc, hT, rfl, rfl⟩ rs_ hrs_
      simp only [List.cons_append, List.nil_append] at hrs_
      subst hrs_
      have hTl : T.length = A1.length := by
        have := congrArg List.length hT
        rw [List.length_map, runs_len, List.length_map] at this
        exact this
      obtain ⟨n, hn, l1, l2, l3, l4, l5⟩ := o1.last (by omega) hr0
      have hof := o1.ofs
      have hZl : (A1.map toAr).length = A1.length := List.length_map ..
      generalize A1.map toAr = Z at *
      repeat (first | (apply G.ex (hd := rfl); case h => (first | exact Ex.move rfl | exact Ex.extract rfl rfl | exact Ex.assign rfl | exact Ex.notB rfl)) | refine G.nil ?_ | refine GC.seq ?_ | refine GC.region ?_ | refine GC.block ?_ | refine GC.skip ?_ | refine GE.then_normal ?_ | refine GC.cond_no rfl (by first | assumption | omega) ?_)
      refine GC.conv (rs' := [.sl so s.length sc 1 (flat eB s), .vec 42 6 o A1.length oc (flat eTo T), .per (Rd eB 1 (T.map xoF))] ++ rest) (fun w_ H_ => by
        have h := H_.take (need := [.sl so s.length sc 1 (flat eB s), .vec 42 6 o A1.length oc (flat eTo T), .per (Rd eB 1 (T.map xoF))]) (by repeat (first | exact Takes.nil | apply Takes.dup rfl | apply Takes.cons | exact Take1.here | apply Take1.there))
        exact subs_app (by repeat (first | exact Subs.refl | refine Subs.skip ?_)) h) ?_
      have g0 : gotF s r Z 0 = [] := by show s.take (0 : Int).toNat = []; simp
      first | refine G.nilvec 5 1 ?_ | refine GC.nilvec 5 1 ?_
      refine GC.loop (ι := Nat × Option Addr × Nat) (fun x => x.1 ≤ A1.length) (fun x => A1.length - x.1) (fun x => [(11, .int .i64 r), (12, .slice so s.length sc), (18, .slice o A1.length oc), (20, .slice x.2.1 (gotF s r Z x.1).length x.2.2), (21, .int .i64 (x.1 : Int))]) (fun x => [.vec 5 1 x.2.1 (gotF s r Z x.1).length x.2.2 (flat eB (gotF s r Z x.1)), .sl so s.length sc 1 (flat eB s), .vec 42 6 o A1.length oc (flat eTo T), .per (Rd eB 1 (T.map xoF))]) (0, none, 0) (Nat.zero_le _) (by simp only [fits]; repeat (first | exact trivial | refine And.intro rfl ?_)) (by repeat (first | exact Takes.nil | apply Takes.dup rfl | apply Takes.cons | exact Take1.here | apply Take1.there)) ?_
      rintro ⟨i, ga, gc⟩ hi fr_ rs_ hfr_ hrs_
      simp only [List.cons_append, List.nil_append] at hfr_ hrs_
      subst hfr_ hrs_
      simp only at hi
      have hgl := got_len (by omega) hnew hof i
      by_cases hlt : i < A1.length
      · have hxk : (T.map xoF).getD i default = xoF (T.getD i default) := by
          rw [List.getD_eq_getElem?_getD, List.getElem?_map, List.getD_eq_getElem?_getD, List.getElem?_eq_getElem (show i < T.length by omega)]; rfl
        have hsc := got_succ (by omega) hnew hof (i := i) (by omega)
        have hst := said_at (by omega) hnew hof (i := i) (by omega)
        have hgl2 := got_len (by omega) hnew hof (i + 1)
        have e3 : (T.getD i default).t = (runs (newF r) Z).getD i default := by
          rw [← hT, List.getD_eq_getElem?_getD, List.getD_eq_getElem?_getD, List.getElem?_map, List.getElem?_eq_getElem (show i < T.length by omega)]; rfl
        rw [← e3] at hsc hst
        refine GC.conv (rs' := .sl (T.getD i default).xo (T.getD i default).t.data.length (T.getD i default).xc 1 (flat eB (T.getD i default).t.data) :: _) (fun w_ H_ => by
          have h := H_.rdAt (l := T.map xoF) (enc := eB) (s := 1) (by simp) i (by rw [List.length_map]; omega)
          rw [hxk] at h
          exact h) ?_
        have hiT : i < T.length := by omega
        have hcat : flat eB (gotF s r Z i) ++ flat eB (T.getD i default).t.data = flat eB (gotF s r Z (i + 1)) := by rw [← hsc]; exact (flat_append ..).symm
        have hln : (gotF s r Z i).length + (T.getD i default).t.data.length = (gotF s r Z (i + 1)).length := by rw [← hsc, List.length_append]
        repeat (first | (apply G.ex (hd := rfl); case h => (first | exact Ex.move rfl | exact Ex.fieldE rfl | exact Ex.lss rfl rfl | exact Ex.lenSl rfl | exact Ex.indexN rfl rfl (by first | omega | (simp; done) | (simp; omega)) | exact Ex.loadT rfl (by first | omega | (simp; done) | (simp; omega)) rfl)) | refine G.nil ?_ | refine GC.seq ?_ | refine GC.region ?_ | refine GC.block ?_ | refine GC.skip ?_ | refine GE.then_normal ?_ | refine GC.cond_yes rfl (by first | assumption | omega) ?_)
        refine G.app rfl rfl (by rfl) (by omega) rfl (hcat) (fun o2 c2 rs_ hrs_ => ?_)
        try simp only at hrs_
        subst hrs_
        rw [hln]
        repeat (first | (apply G.ex (hd := rfl); case h => (first | exact Ex.move rfl | exact Ex.add rfl rfl (by omega) | exact Ex.assign rfl)) | refine G.nil ?_ | refine GC.region ?_ | refine GE.then_normal ?_ | refine GE.block_normal ?_)
        refine GE.loop (i + 1, o2, c2) (by simp only; omega) (by simp only; omega) (by simp only [fits]; repeat (first | exact trivial | refine And.intro rfl ?_)) (by repeat (first | exact Takes.nil | apply Takes.dup rfl | apply Takes.cons | exact Take1.here | apply Take1.there)) (by repeat (first | exact Subs.refl | refine Subs.skip ?_))
      · obtain rfl : i = A1.length := by omega
        have hAn : A1.length = n + 1 := by omega
        have hg : gotF s r Z A1.length = s := by rw [hAn]; exact l1
        have e3 : (T.getD n default).t = (runs (newF r) Z).getD n default := by
          rw [← hT, List.getD_eq_getElem?_getD, List.getD_eq_getElem?_getD, List.getElem?_map, List.getElem?_eq_getElem (show n < T.length by omega)]; rfl
        rw [← e3] at l2 l3 l4 l5
        have hi1 : (((A1.length : Nat) : Int) - 1).toNat = n := by omega
        rw [hg]
        repeat (first | (apply G.ex (hd := rfl); case h => (first | exact Ex.move rfl | exact Ex.sub rfl rfl (by omega) | exact Ex.lss rfl rfl | exact Ex.lenSl rfl | exact Ex.loadTA rfl (by first | omega | (simp; done) | (simp; omega)) | exact Ex.indexI rfl rfl (by omega))) | refine G.nil ?_ | refine GC.seq ?_ | refine GC.region ?_ | refine GC.exit ?_ | refine GE.then_normal ?_ | refine GE.then_exit ?_ | refine GE.block_hit ?_ | refine GC.cond_no rfl (by first | assumption | omega) ?_)
        rw [hi1]
        refine G.alloc rfl (fun xb => ?_)
        repeat (first | refine G.storeBA rfl rfl rfl rfl rfl ?_ | (apply G.ex (hd := rfl); case h => (first | exact Ex.move rfl)) | refine G.nil ?_ | refine GC.seq ?_ | refine GC.region ?_ | refine GE.then_normal ?_)
        generalize T.getD n default = x at *
        refine G.conv (rs' := .blk xb 42 [.int .i64 x.t.code, .int .i64 x.t.ack, .int .i64 x.t.window, .slice x.so x.t.sacks.length x.sc, .slice x.xo x.t.data.length x.xc, .bool x.t.fin] :: _) (fun w_ H_ => H_) ?_
        rw [l2, l3, l4, l5]
        first | refine G.call (caps := []) (sameBytes_sp (.vec 5 1 ga s.length gc (flat eB s)) (.sl so s.length sc 1 (flat eB s)) ga so s.length gc s.length sc s s rfl rfl (by omega) (by omega)) rfl rfl rfl rfl (by repeat (first | exact Takes.nil | apply Takes.dup rfl | apply Takes.cons | exact Take1.here | apply Take1.there)) ?_ | refine G.callU (caps := []) (sameBytes_sp (.vec 5 1 ga s.length gc (flat eB s)) (.sl so s.length sc 1 (flat eB s)) ga so s.length gc s.length sc s s rfl rfl (by omega) (by omega)) rfl rfl rfl (by repeat (first | exact Takes.nil | apply Takes.dup rfl | apply Takes.cons | exact Take1.here | apply Take1.there)) ?_
        rintro v_ give_ ⟨rfl, rfl⟩ rs_ hrs_
        simp only [List.cons_append, List.nil_append] at hrs_
        subst hrs_
        rw [decide_eq_true (rfl : s = s)]
        repeat (first | (apply G.ex (hd := rfl); case h => (first | exact Ex.move rfl | exact Ex.fieldB rfl | exact Ex.loadB rfl rfl | exact Ex.add rfl rfl (by omega) | exact Ex.eqI rfl rfl | exact Ex.lenSl rfl | exact Ex.assign rfl | exact Ex.pickT rfl (by first | assumption | omega) rfl | exact Ex.pickLT rfl rfl)) | refine G.g_tt rfl rfl (by first | assumption | omega) ?_ | refine G.yes rfl rfl ?_ | refine G.nil ?_ | refine GC.ret ?_ | refine GE.then_normal ?_)
        refine GE.ret (by first | exact .inl rfl | exact .inr rfl) (by first | exact res0 Try.results5 | exact res1 Try.results5 rfl | exact res2 Try.results5 rfl rfl | exact resR1 Try.results5 (by first | exact RV.tmp rfl | exact RV.cell rfl (eP_len _) | exact RV.cell rfl rfl | exact RV.cell1 rfl) | exact resR2 Try.results5 (by first | exact RV.tmp rfl | exact RV.cell rfl (eP_len _) | exact RV.cell rfl rfl | exact RV.cell1 rfl) (by first | exact RV.tmp rfl | exact RV.cell rfl (eP_len _) | exact RV.cell rfl rfl | exact RV.cell1 rfl) | exact resR3 Try.results5 (by first | exact RV.tmp rfl | exact RV.cell rfl (eP_len _) | exact RV.cell rfl rfl | exact RV.cell1 rfl) (by first | exact RV.tmp rfl | exact RV.cell rfl (eP_len _) | exact RV.cell rfl rfl | exact RV.cell1 rfl) (by first | exact RV.tmp rfl | exact RV.cell rfl (eP_len _) | exact RV.cell rfl rfl | exact RV.cell1 rfl)) ⟨rfl, rfl⟩ (by repeat (first | exact Takes.nil | apply Takes.dup rfl | apply Takes.cons | exact Take1.here | apply Take1.there)) (by repeat (first | exact Subs.refl | refine Subs.skip ?_))
end recv
end Go.Proofs.Ytfopnlfdoljcdaa
