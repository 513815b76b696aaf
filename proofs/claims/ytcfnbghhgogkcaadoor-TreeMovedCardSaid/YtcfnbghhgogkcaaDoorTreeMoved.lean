/-
  CONTRACT of packthreadkeep.TreeMoved, by the kit.
-/
import Derived.Test.YtcfnbghhgogkcaaDoorTreeX
import Derived.Test.YtcfnbghhgogkcaaDoorTreeLinked
namespace Go.Proofs.YtcfnbghhgogkcaaDoor
open Go.RowKit
attribute [local irreducible] Ex G GC GE Gq FPost LPost
set_option linter.unusedVariables false
set_option linter.unusedSimpArgs false
namespace tree
open path
set_option maxHeartbeats 16000000 in
theorem treeMoved_sp (a0 : Option Addr) (len0 cap0 : Nat) (z0 : List JbM) (hl0 : z0.length = len0) (hb0 : len0 ≤ 9223372036854775807) (hw0 : ∀ m ∈ z0, JOk m) (a1 : Int) (ha1 : -9223372036854775808 ≤ a1 ∧ a1 ≤ 9223372036854775807) (a2 : Int) (ha2 : -9223372036854775808 ≤ a2 ∧ a2 ≤ 9223372036854775807) :
    Spec Tryd.prog 6 [.slice a0 len0 cap0, .int .i64 a1, .int .i64 a2] [.sl a0 len0 cap0 4 (flat eJb z0), .per (Rd eB 1 (z0.map (·.d)))] fun v give => v = .bool true ∧ give = [] := by
  have hwp := pathF_walk a1
  have hpl := pathF_len a1
  have hwq := pathF_walk a2
  have hql := pathF_len a2
  refine Spec.intro Tryd.func6 rfl Tryd.ntmps6 rfl fun w0 rest rs_ hrs_ => ?_
  simp only [List.cons_append, List.nil_append] at hrs_
  subst hrs_
  repeat (first | (apply G.ex (hd := rfl); case h => (first | exact Ex.move rfl | exact Ex.assign rfl)) | refine G.nil ?_ | refine GC.seq ?_ | refine GC.region ?_ | refine GE.then_normal ?_)
  first | refine G.call (caps := []) (acts_sp a0 len0 cap0 z0 hl0 hb0 hw0 60 (by decide)) rfl rfl rfl rfl (by repeat first | exact tn_ | apply td_ rfl | apply tc_ | exact .here | apply Take1.there) ?_ | refine G.callU (caps := []) (acts_sp a0 len0 cap0 z0 hl0 hb0 hw0 60 (by decide)) rfl rfl rfl (by repeat first | exact tn_ | apply td_ rfl | apply tc_ | exact .here | apply Take1.there) ?_
  rintro v_ give_ ⟨A, oa, oc, hA, rfl, rfl⟩ rs_ hrs_
  simp only [List.cons_append, List.nil_append] at hrs_
  subst hrs_
  have hAok := acts_ok hA
  have hAl : A.length ≤ 60 := by have := congrArg List.length hA; rw [List.length_map, List.length_map, List.length_take] at this; omega
  obtain ⟨kT, cT⟩ := ends_ok (A.map (·.a)) TrOk.new Cnt.new
  generalize hn : A.length = n at hAl ⊢
  repeat (first | (apply G.ex (hd := rfl); case h => (first | exact Ex.move rfl | exact Ex.assign rfl)) | refine G.nil ?_ | refine GC.seq ?_ | refine GC.region ?_ | refine GE.then_normal ?_)
  first | refine G.call (caps := []) (pathBy_sp a1 ha1) rfl rfl rfl rfl (by repeat first | exact tn_ | apply td_ rfl | apply tc_ | exact .here | apply Take1.there) ?_ | refine G.callU (caps := []) (pathBy_sp a1 ha1) rfl rfl rfl (by repeat first | exact tn_ | apply td_ rfl | apply tc_ | exact .here | apply Take1.there) ?_
  rintro v_ give_ ⟨rfl, rfl⟩ rs_ hrs_
  simp only [List.cons_append, List.nil_append] at hrs_
  subst hrs_
  repeat (first | (apply G.ex (hd := rfl); case h => (first | exact Ex.move rfl | exact Ex.assign rfl)) | refine G.nil ?_ | refine GC.seq ?_ | refine GC.region ?_ | refine GE.then_normal ?_)
  first | refine G.call (caps := []) (pathBy_sp a2 ha2) rfl rfl rfl rfl (by repeat first | exact tn_ | apply td_ rfl | apply tc_ | exact .here | apply Take1.there) ?_ | refine G.callU (caps := []) (pathBy_sp a2 ha2) rfl rfl rfl (by repeat first | exact tn_ | apply td_ rfl | apply tc_ | exact .here | apply Take1.there) ?_
  rintro v_ give_ ⟨rfl, rfl⟩ rs_ hrs_
  simp only [List.cons_append, List.nil_append] at hrs_
  subst hrs_
  generalize pathF a1 = p at *
  generalize namesK a1 = ns at *
  generalize pathF a2 = q at *
  generalize namesK a2 = ms at *
  have okM : AcOk (mvA p q) := ⟨show p.length ≤ 1000000 by omega, show q.length ≤ 1000000 by omega, Nat.zero_le _⟩
  have okB : AcOk (mvA q p) := ⟨show q.length ≤ 1000000 by omega, show p.length ≤ 1000000 by omega, Nat.zero_le _⟩
  have hlaw := fun h => moved_law kT hwp hwq h
  repeat (first | (apply G.ex (hd := rfl); case h => (first | exact Ex.move rfl | exact Ex.assign rfl | exact Ex.build rfl rfl)) | refine G.nil ?_ | refine GC.seq ?_ | refine GC.region ?_ | refine GE.then_normal ?_)
  refine G.alloc rfl (fun mb => ?_)
  repeat (first | refine G.storeBA rfl rfl rfl rfl rfl ?_ | (apply G.ex (hd := rfl); case h => (first | exact Ex.move rfl | exact Ex.loadBA rfl rfl rfl)) | refine G.nil ?_ | refine GC.seq ?_ | refine GC.region ?_ | refine GE.then_normal ?_)
  refine G.lit (cells := flat eAcM [acN (mvA p q)]) rfl (by rfl) (by rfl) (by rfl) (by rfl) (by rfl) (by rfl) rfl (fun g => ?_)
  refine G.rdNone [acN (mvA p q)] (acN_none fun x hx => by simp only [List.mem_cons, List.not_mem_nil, or_false] at hx; exact ⟨_, rfl, hx⟩) ?_
  first | refine G.call (caps := []) (lastSeen_sp (.vec 36 6 oa n oc (flat eAcM A)) (.vec 36 6 g 1 1 (flat eAcM [acN (mvA p q)])) oa g n oc 1 1 A [acN (mvA p q)] hn rfl (by omega) (by omega) hAok (fun x hx => by rw [List.mem_singleton] at hx; rw [hx]; exact okM)) rfl rfl rfl rfl (by repeat first | exact tn_ | apply td_ rfl | apply tc_ | exact .here | apply Take1.there) ?_ | refine G.callU (caps := []) (lastSeen_sp (.vec 36 6 oa n oc (flat eAcM A)) (.vec 36 6 g 1 1 (flat eAcM [acN (mvA p q)])) oa g n oc 1 1 A [acN (mvA p q)] hn rfl (by omega) (by omega) hAok (fun x hx => by rw [List.mem_singleton] at hx; rw [hx]; exact okM)) rfl rfl rfl (by repeat first | exact tn_ | apply td_ rfl | apply tc_ | exact .here | apply Take1.there) ?_
  rintro v_ give_ ⟨x, hx, rfl, rfl⟩ rs_ hrs_
  simp only [List.cons_append, List.nil_append] at hrs_
  subst hrs_
  replace hx : x.s = (doF (ends newT (A.map (·.a))) (mvA p q)).2 := hx.trans (lastF_snoc _ _)
  repeat (first | (apply G.ex (hd := rfl); case h => (first | exact Ex.move rfl | exact Ex.extract rfl rfl)))
  refine G.alloc rfl (fun xb => ?_)
  rw [← hx] at hlaw
  by_cases hc : x.s.code = 0
  · obtain ⟨l1, l2⟩ := hlaw hc
    repeat (first | refine G.storeBA rfl rfl rfl rfl rfl ?_ | (apply G.ex (hd := rfl); case h => (first | exact Ex.move rfl | exact Ex.fieldB rfl | exact Ex.loadB rfl rfl | exact Ex.neI rfl rfl | exact Ex.assign rfl | exact Ex.notB rfl | exact Ex.loadBA rfl rfl rfl)) | refine G.nil ?_ | refine GC.seq ?_ | refine GC.region ?_ | refine GC.skip ?_ | refine GE.then_normal ?_ | refine GC.cond_no rfl (by first | assumption | omega) ?_ | refine GC.cond_f rfl ?_)
    refine G.lit (cells := flat eAcM [acN (mvA p q), acN (mvA p q)]) rfl (by rfl) (by rfl) (by rfl) (by rfl) (by rfl) (by rfl) rfl (fun g2 => ?_)
    refine G.rdNone [acN (mvA p q), acN (mvA p q)] (acN_none fun x hx => by simp only [List.mem_cons, List.not_mem_nil, or_false] at hx; rcases hx with hx | hx <;> exact ⟨_, rfl, hx⟩) ?_
    first | refine G.call (caps := []) (lastSeen_sp (.vec 36 6 oa n oc (flat eAcM A)) (.vec 36 6 g2 2 2 (flat eAcM [acN (mvA p q), acN (mvA p q)])) oa g2 n oc 2 2 A [acN (mvA p q), acN (mvA p q)] hn rfl (by omega) (by omega) hAok (fun x hx => by simp only [List.mem_cons, List.not_mem_nil, or_false] at hx; rcases hx with hx | hx <;> rw [hx] <;> exact okM)) rfl rfl rfl rfl (by repeat first | exact tn_ | apply td_ rfl | apply tc_ | exact .here | apply Take1.there) ?_ | refine G.callU (caps := []) (lastSeen_sp (.vec 36 6 oa n oc (flat eAcM A)) (.vec 36 6 g2 2 2 (flat eAcM [acN (mvA p q), acN (mvA p q)])) oa g2 n oc 2 2 A [acN (mvA p q), acN (mvA p q)] hn rfl (by omega) (by omega) hAok (fun x hx => by simp only [List.mem_cons, List.not_mem_nil, or_false] at hx; rcases hx with hx | hx <;> rw [hx] <;> exact okM)) rfl rfl rfl (by repeat first | exact tn_ | apply td_ rfl | apply tc_ | exact .here | apply Take1.there) ?_
    rintro v_ give_ ⟨x2, hx2, rfl, rfl⟩ rs_ hrs_
    simp only [List.cons_append, List.nil_append] at hrs_
    subst hrs_
    replace hx2 : x2.s = (doF (doF (ends newT (A.map (·.a))) (mvA p q)).1 (mvA p q)).2 := hx2.trans (lastF_two _ _ _)
    repeat (first | (apply G.ex (hd := rfl); case h => (first | exact Ex.move rfl | exact Ex.extract rfl rfl)))
    refine G.alloc rfl (fun xb2 => ?_)
    repeat (first | refine G.storeBA rfl rfl rfl rfl rfl ?_ | (apply G.ex (hd := rfl); case h => (first | exact Ex.move rfl | exact Ex.assign rfl | exact Ex.loadBA rfl rfl rfl | exact Ex.build rfl rfl)) | refine G.nil ?_ | refine GC.seq ?_ | refine GC.region ?_ | refine GE.then_normal ?_)
    refine G.lit (cells := flat eAcM [acN (mvA p q), acN (mvA q p)]) rfl (by rfl) (by rfl) (by rfl) (by rfl) (by rfl) (by rfl) rfl (fun g3 => ?_)
    refine G.rdNone [acN (mvA p q), acN (mvA q p)] (acN_none fun x hx => by simp only [List.mem_cons, List.not_mem_nil, or_false] at hx; rcases hx with hx | hx <;> exact ⟨_, rfl, hx⟩) ?_
    first | refine G.call (caps := []) (lastSeen_sp (.vec 36 6 oa n oc (flat eAcM A)) (.vec 36 6 g3 2 2 (flat eAcM [acN (mvA p q), acN (mvA q p)])) oa g3 n oc 2 2 A [acN (mvA p q), acN (mvA q p)] hn rfl (by omega) (by omega) hAok (fun x hx => by simp only [List.mem_cons, List.not_mem_nil, or_false] at hx; rcases hx with hx | hx <;> rw [hx] <;> first | exact okM | exact okB)) rfl rfl rfl rfl (by repeat first | exact tn_ | apply td_ rfl | apply tc_ | exact .here | apply Take1.there) ?_ | refine G.callU (caps := []) (lastSeen_sp (.vec 36 6 oa n oc (flat eAcM A)) (.vec 36 6 g3 2 2 (flat eAcM [acN (mvA p q), acN (mvA q p)])) oa g3 n oc 2 2 A [acN (mvA p q), acN (mvA q p)] hn rfl (by omega) (by omega) hAok (fun x hx => by simp only [List.mem_cons, List.not_mem_nil, or_false] at hx; rcases hx with hx | hx <;> rw [hx] <;> first | exact okM | exact okB)) rfl rfl rfl (by repeat first | exact tn_ | apply td_ rfl | apply tc_ | exact .here | apply Take1.there) ?_
    rintro v_ give_ ⟨x3, hx3, rfl, rfl⟩ rs_ hrs_
    simp only [List.cons_append, List.nil_append] at hrs_
    subst hrs_
    replace hx3 : x3.s = (doF (doF (ends newT (A.map (·.a))) (mvA p q)).1 (mvA q p)).2 := hx3.trans (lastF_two _ _ _)
    repeat (first | (apply G.ex (hd := rfl); case h => (first | exact Ex.move rfl | exact Ex.extract rfl rfl)))
    refine G.alloc rfl (fun xb3 => ?_)
    rw [← hx2] at l1
    rw [← hx3] at l2
    clear hx hx2 hlaw
    by_cases hc3 : x3.s.code = 0
    · replace l2 := l2 hc3
      obtain ⟨L, hL⟩ : ∃ L : List Int, L = [7, 6, 4] := ⟨_, rfl⟩
      have hLl : L.length = 3 := by rw [hL]; rfl
      have hkd : ∀ i, 3 ≤ L.getD (i % 3) default ∧ L.getD (i % 3) default ≤ 7 := fun i => by
        rw [hL]
        have h3 : i % 3 < 3 := Nat.mod_lt _ (by decide)
        generalize i % 3 = K at h3
        match K, h3 with
        | 0, _ => exact ⟨by decide, by decide⟩
        | 1, _ => exact ⟨by decide, by decide⟩
        | 2, _ => exact ⟨by decide, by decide⟩
      have st1 := kT.do_ cT (mvA p q)
      have st2 := st1.1.do_ st1.2 (mvA q p)
      repeat (first | refine G.storeBA rfl rfl rfl rfl rfl ?_ | (apply G.ex (hd := rfl); case h => (first | exact Ex.move rfl | exact Ex.fieldB rfl | exact Ex.loadB rfl rfl | exact Ex.eqI rfl rfl | exact Ex.neI rfl rfl | exact Ex.assign rfl | exact Ex.notB rfl | exact Ex.pickLF rfl rfl)) | refine G.yes rfl rfl ?_ | refine G.nil ?_ | refine GC.seq ?_ | refine GC.region ?_ | refine GC.block ?_ | refine GC.skip ?_ | refine GE.then_normal ?_ | refine GC.cond_no rfl (by first | assumption | omega) ?_)
      refine GC.conv (rs' := [.vec 36 6 oa n oc (flat eAcM A), .per (Rd eB 1 (A.map dA)), .blk mb 36 (eAcM (acN (mvA p q)))] ++ rest) (fun w_ H_ => ?_) ?_
      · have h_ := H_.take (need := [.vec 36 6 oa n oc (flat eAcM A), .per (Rd eB 1 (A.map dA)), .blk mb 36 (eAcM (acN (mvA p q)))]) (by repeat first | exact tn_ | apply td_ rfl | apply tc_ | exact .here | apply Take1.there)
        exact subs_app (by repeat (first | exact Subs.refl | refine Subs.skip ?_)) h_
      try simp only [List.append_eq, List.nil_append, List.cons_append]
      refine GC.loop (ι := Nat) (fun i => i ≤ 30) (fun i => 30 - i) (fun i => [(7, .slice oa n oc), (8, .string (sOf p)), (9, .string (sOf q)), (10, ptr mb), (17, .int .i64 (i : Int))]) (fun i => [.vec 36 6 oa n oc (flat eAcM A), .per (Rd eB 1 (A.map dA)), .blk mb 36 (eAcM (acN (mvA p q)))]) 0 (Nat.zero_le _) (by simp only [fits]; repeat (first | exact trivial | refine And.intro rfl ?_)) (by repeat first | exact tn_ | apply td_ rfl | apply tc_ | exact .here | apply Take1.there) ?_
      rintro i hi fr_ rs_ hfr_ hrs_
      simp only [List.cons_append, List.nil_append] at hfr_ hrs_
      subst hfr_ hrs_
      repeat (first | (apply G.ex (hd := rfl); case h => (first | exact Ex.move rfl | exact Ex.lss rfl rfl)) | refine G.nil ?_ | refine GC.seq ?_ | refine GC.region ?_ | refine GE.then_normal ?_)
      refine GC.cond_dec rfl (fun hlt => ?_) (fun hlt => ?_)
      · have hlt : i < 30 := by omega
        have hi3 : i % 3 < L.length := by omega
        repeat ((fail_if_success (refine GC.region (id := 19) ?_)); first | refine GC.seq ?_ | refine GC.block ?_ | refine GC.skip ?_ | refine GE.then_normal ?_)
        refine GC.meet (ι := Nat) (fun _ => True) (fun ab => [(18, ptr ab), (7, .slice oa n oc), (8, .string (sOf p)), (9, .string (sOf q)), (10, ptr mb), (17, .int .i64 (i : Int))]) (fun ab => [.blk ab 36 (eAcM (acN (lookA (L.getD (i % 3) default) (pathF ((i : Int) * 7))))), .vec 36 6 oa n oc (flat eAcM A), .per (Rd eB 1 (A.map dA)), .blk mb 36 (eAcM (acN (mvA p q)))]) (.per (Rd eB 1 (A.map dA)) :: rest) ?_ ?_
        · refine GC.drawA [] [] (by repeat first | exact tn_ | apply td_ rfl | apply tc_ | exact .here | apply Take1.there) (by kernel_rfl) ?_
          first | (apply GA.take [] (hD := .inl rfl) (hsub := ⟨_, Takes.nil⟩) (i := 1) (hi := rfl) (hs := by kernel_rfl) (hfr := by kernel_rfl) (hr := by kernel_rfl) (hQ := np_) (hd := rfl); case hx => (first | exact Ex.move rfl))
          first | (apply GA.take [] (hD := .inl rfl) (hsub := ⟨_, Takes.nil⟩) (i := 2) (hi := rfl) (hs := by kernel_rfl) (hfr := by kernel_rfl) (hr := by kernel_rfl) (hQ := np_) (hd := rfl); case hx => (first | exact Ex.rem rfl rfl (by omega)))
          rw [show (i : Int) % 3 = ((i % 3 : Nat) : Int) by omega]
          first | (apply GA.take [] (hD := .inl rfl) (hsub := ⟨_, Takes.nil⟩) (i := 5) (hi := rfl) (hs := by kernel_rfl) (hfr := by kernel_rfl) (hr := by kernel_rfl) (hQ := np_) (hd := rfl); case hx => (first | exact Ex.move rfl))
          first | (apply GA.take [] (hD := .inl rfl) (hsub := ⟨_, Takes.nil⟩) (i := 6) (hi := rfl) (hs := by kernel_rfl) (hfr := by kernel_rfl) (hr := by kernel_rfl) (hQ := np_) (hd := rfl); case hx => (first | exact Ex.mul rfl rfl (by omega)))
          refine GA.three (i := 0) (j := 7) (k := 9) (by kernel_rfl) rfl rfl rfl ?_ ?_ ?_
          · refine G.lit (cells := flat (eI .i64) [7, 6, 4]) rfl (by rfl) (by rfl) (by rfl) (by rfl) (by rfl) (by rfl) rfl (fun y => ?_)
            rw [← hL]
            try refine G.nil ?_
            refine GA.back (by first | exact .inl (by decide) | exact .inr ⟨_, (by repeat first | exact tn_ | apply td_ rfl | apply tc_ | exact .here | apply Take1.there)⟩) ?_
            refine GA.three (i := 3) (j := 7) (k := 9) (by kernel_rfl) rfl rfl rfl ?_ ?_ ?_
            · repeat (first | (apply G.ex (hd := rfl); case h => (first | exact Ex.indexN rfl rfl (by first | omega | (simp; done) | (simp; omega)))) | refine G.nil ?_)
              try refine G.nil ?_
              refine GA.back (by first | exact .inl (by decide) | exact .inr ⟨_, (by repeat first | exact tn_ | apply td_ rfl | apply tc_ | exact .here | apply Take1.there)⟩) ?_
              refine GA.three (i := 4) (j := 7) (k := 9) (by kernel_rfl) rfl rfl rfl ?_ ?_ ?_
              · repeat (first | (apply G.ex (hd := rfl); case h => (first | exact Ex.loadT0 rfl (by first | omega | (simp; done) | (simp; omega)) rfl)) | refine G.nil ?_)
                try refine G.nil ?_
                refine GA.back (by first | exact .inl (by decide) | exact .inr ⟨_, (by repeat first | exact tn_ | apply td_ rfl | apply tc_ | exact .here | apply Take1.there)⟩) ?_
                refine GA.two (i := 7) (j := 9) (by kernel_rfl) rfl rfl ?_ ?_
                · first | refine G.call (caps := []) (pathBy_sp ((i : Int) * 7) (by omega)) rfl rfl rfl rfl (by repeat first | exact tn_ | apply td_ rfl | apply tc_ | exact .here | apply Take1.there) ?_ | refine G.callU (caps := []) (pathBy_sp ((i : Int) * 7) (by omega)) rfl rfl rfl (by repeat first | exact tn_ | apply td_ rfl | apply tc_ | exact .here | apply Take1.there) ?_
                  rintro v_ give_ ⟨rfl, rfl⟩ rs_ hrs_
                  simp only [List.cons_append, List.nil_append] at hrs_
                  subst hrs_
                  try refine G.nil ?_
                  refine GA.back (by first | exact .inl (by decide) | exact .inr ⟨_, (by repeat first | exact tn_ | apply td_ rfl | apply tc_ | exact .here | apply Take1.there)⟩) ?_
                  first | (apply GA.take [] (hD := .inl rfl) (hsub := ⟨_, Takes.nil⟩) (i := 8) (hi := rfl) (hs := by kernel_rfl) (hfr := by kernel_rfl) (hr := by kernel_rfl) (hQ := np_) (hd := rfl); case hx => (first | exact Ex.build rfl rfl))
                  refine GA.one (i := 9) (by kernel_rfl) rfl ?_
                  refine G.alloc rfl (fun ab => ?_)
                  try refine G.nil ?_
                  refine GA.back (by first | exact .inl (by decide) | exact .inr ⟨_, (by repeat first | exact tn_ | apply td_ rfl | apply tc_ | exact .here | apply Take1.there)⟩) ?_
                  refine GA.one (i := 10) (by kernel_rfl) rfl ?_
                  repeat (first | refine G.storeBA rfl rfl rfl rfl rfl ?_ | refine G.nil ?_)
                  try refine G.nil ?_
                  refine GA.back (by first | exact .inl (by decide) | exact .inr ⟨_, (by repeat first | exact tn_ | apply td_ rfl | apply tc_ | exact .here | apply Take1.there)⟩) ?_
                  refine GA.done (by kernel_rfl) ?_
                  refine GE.meet ab trivial (by simp only [fits]; repeat (first | exact trivial | refine And.intro rfl ?_)) (by repeat first | exact tn_ | apply td_ rfl | apply tc_ | exact .here | apply Take1.there) (by repeat (first | exact Subs.refl | refine Subs.skip ?_))
                · refine G.alloc rfl (fun ab => ?_)
                  try refine G.nil ?_
                  refine GA.back (by first | exact .inl (by decide) | exact .inr ⟨_, (by repeat first | exact tn_ | apply td_ rfl | apply tc_ | exact .here | apply Take1.there)⟩) ?_
                  refine GA.one (i := 7) (by kernel_rfl) rfl ?_
                  first | refine G.call (caps := []) (pathBy_sp ((i : Int) * 7) (by omega)) rfl rfl rfl rfl (by repeat first | exact tn_ | apply td_ rfl | apply tc_ | exact .here | apply Take1.there) ?_ | refine G.callU (caps := []) (pathBy_sp ((i : Int) * 7) (by omega)) rfl rfl rfl (by repeat first | exact tn_ | apply td_ rfl | apply tc_ | exact .here | apply Take1.there) ?_
                  rintro v_ give_ ⟨rfl, rfl⟩ rs_ hrs_
                  simp only [List.cons_append, List.nil_append] at hrs_
                  subst hrs_
                  try refine G.nil ?_
                  refine GA.back (by first | exact .inl (by decide) | exact .inr ⟨_, (by repeat first | exact tn_ | apply td_ rfl | apply tc_ | exact .here | apply Take1.there)⟩) ?_
                  first | (apply GA.take [] (hD := .inl rfl) (hsub := ⟨_, Takes.nil⟩) (i := 8) (hi := rfl) (hs := by kernel_rfl) (hfr := by kernel_rfl) (hr := by kernel_rfl) (hQ := np_) (hd := rfl); case hx => (first | exact Ex.build rfl rfl))
                  refine GA.one (i := 10) (by kernel_rfl) rfl ?_
                  repeat (first | refine G.storeBA rfl rfl rfl rfl rfl ?_ | refine G.nil ?_)
                  try refine G.nil ?_
                  refine GA.back (by first | exact .inl (by decide) | exact .inr ⟨_, (by repeat first | exact tn_ | apply td_ rfl | apply tc_ | exact .here | apply Take1.there)⟩) ?_
                  refine GA.done (by kernel_rfl) ?_
                  refine GE.meet ab trivial (by simp only [fits]; repeat (first | exact trivial | refine And.intro rfl ?_)) (by repeat first | exact tn_ | apply td_ rfl | apply tc_ | exact .here | apply Take1.there) (by repeat (first | exact Subs.refl | refine Subs.skip ?_))
              · first | refine G.call (caps := []) (pathBy_sp ((i : Int) * 7) (by omega)) rfl rfl rfl rfl (by repeat first | exact tn_ | apply td_ rfl | apply tc_ | exact .here | apply Take1.there) ?_ | refine G.callU (caps := []) (pathBy_sp ((i : Int) * 7) (by omega)) rfl rfl rfl (by repeat first | exact tn_ | apply td_ rfl | apply tc_ | exact .here | apply Take1.there) ?_
                rintro v_ give_ ⟨rfl, rfl⟩ rs_ hrs_
                simp only [List.cons_append, List.nil_append] at hrs_
                subst hrs_
                try refine G.nil ?_
                refine GA.back (by first | exact .inl (by decide) | exact .inr ⟨_, (by repeat first | exact tn_ | apply td_ rfl | apply tc_ | exact .here | apply Take1.there)⟩) ?_
                refine GA.two (i := 4) (j := 9) (by kernel_rfl) rfl rfl ?_ ?_
                · repeat (first | (apply G.ex (hd := rfl); case h => (first | exact Ex.loadT0 rfl (by first | omega | (simp; done) | (simp; omega)) rfl)) | refine G.nil ?_)
                  try refine G.nil ?_
                  refine GA.back (by first | exact .inl (by decide) | exact .inr ⟨_, (by repeat first | exact tn_ | apply td_ rfl | apply tc_ | exact .here | apply Take1.there)⟩) ?_
                  first | (apply GA.take [] (hD := .inl rfl) (hsub := ⟨_, Takes.nil⟩) (i := 8) (hi := rfl) (hs := by kernel_rfl) (hfr := by kernel_rfl) (hr := by kernel_rfl) (hQ := np_) (hd := rfl); case hx => (first | exact Ex.build rfl rfl))
                  refine GA.one (i := 9) (by kernel_rfl) rfl ?_
                  refine G.alloc rfl (fun ab => ?_)
                  try refine G.nil ?_
                  refine GA.back (by first | exact .inl (by decide) | exact .inr ⟨_, (by repeat first | exact tn_ | apply td_ rfl | apply tc_ | exact .here | apply Take1.there)⟩) ?_
                  refine GA.one (i := 10) (by kernel_rfl) rfl ?_
                  repeat (first | refine G.storeBA rfl rfl rfl rfl rfl ?_ | refine G.nil ?_)
                  try refine G.nil ?_
                  refine GA.back (by first | exact .inl (by decide) | exact .inr ⟨_, (by repeat first | exact tn_ | apply td_ rfl | apply tc_ | exact .here | apply Take1.there)⟩) ?_
                  refine GA.done (by kernel_rfl) ?_
                  refine GE.meet ab trivial (by simp only [fits]; repeat (first | exact trivial | refine And.intro rfl ?_)) (by repeat first | exact tn_ | apply td_ rfl | apply tc_ | exact .here | apply Take1.there) (by repeat (first | exact Subs.refl | refine Subs.skip ?_))
                · refine G.alloc rfl (fun ab => ?_)
                  try refine G.nil ?_
                  refine GA.back (by first | exact .inl (by decide) | exact .inr ⟨_, (by repeat first | exact tn_ | apply td_ rfl | apply tc_ | exact .here | apply Take1.there)⟩) ?_
                  refine GA.one (i := 4) (by kernel_rfl) rfl ?_
                  repeat (first | (apply G.ex (hd := rfl); case h => (first | exact Ex.loadT0 rfl (by first | omega | (simp; done) | (simp; omega)) rfl)) | refine G.nil ?_)
                  try refine G.nil ?_
                  refine GA.back (by first | exact .inl (by decide) | exact .inr ⟨_, (by repeat first | exact tn_ | apply td_ rfl | apply tc_ | exact .here | apply Take1.there)⟩) ?_
                  first | (apply GA.take [] (hD := .inl rfl) (hsub := ⟨_, Takes.nil⟩) (i := 8) (hi := rfl) (hs := by kernel_rfl) (hfr := by kernel_rfl) (hr := by kernel_rfl) (hQ := np_) (hd := rfl); case hx => (first | exact Ex.build rfl rfl))
                  refine GA.one (i := 10) (by kernel_rfl) rfl ?_
                  repeat (first | refine G.storeBA rfl rfl rfl rfl rfl ?_ | refine G.nil ?_)
                  try refine G.nil ?_
                  refine GA.back (by first | exact .inl (by decide) | exact .inr ⟨_, (by repeat first | exact tn_ | apply td_ rfl | apply tc_ | exact .here | apply Take1.there)⟩) ?_
                  refine GA.done (by kernel_rfl) ?_
                  refine GE.meet ab trivial (by simp only [fits]; repeat (first | exact trivial | refine And.intro rfl ?_)) (by repeat first | exact tn_ | apply td_ rfl | apply tc_ | exact .here | apply Take1.there) (by repeat (first | exact Subs.refl | refine Subs.skip ?_))
              · refine G.alloc rfl (fun ab => ?_)
                try refine G.nil ?_
                refine GA.back (by first | exact .inl (by decide) | exact .inr ⟨_, (by repeat first | exact tn_ | apply td_ rfl | apply tc_ | exact .here | apply Take1.there)⟩) ?_
                refine GA.two (i := 4) (j := 7) (by kernel_rfl) rfl rfl ?_ ?_
                · repeat (first | (apply G.ex (hd := rfl); case h => (first | exact Ex.loadT0 rfl (by first | omega | (simp; done) | (simp; omega)) rfl)) | refine G.nil ?_)
                  try refine G.nil ?_
                  refine GA.back (by first | exact .inl (by decide) | exact .inr ⟨_, (by repeat first | exact tn_ | apply td_ rfl | apply tc_ | exact .here | apply Take1.there)⟩) ?_
                  refine GA.one (i := 7) (by kernel_rfl) rfl ?_
                  first | refine G.call (caps := []) (pathBy_sp ((i : Int) * 7) (by omega)) rfl rfl rfl rfl (by repeat first | exact tn_ | apply td_ rfl | apply tc_ | exact .here | apply Take1.there) ?_ | refine G.callU (caps := []) (pathBy_sp ((i : Int) * 7) (by omega)) rfl rfl rfl (by repeat first | exact tn_ | apply td_ rfl | apply tc_ | exact .here | apply Take1.there) ?_
                  rintro v_ give_ ⟨rfl, rfl⟩ rs_ hrs_
                  simp only [List.cons_append, List.nil_append] at hrs_
                  subst hrs_
                  try refine G.nil ?_
                  refine GA.back (by first | exact .inl (by decide) | exact .inr ⟨_, (by repeat first | exact tn_ | apply td_ rfl | apply tc_ | exact .here | apply Take1.there)⟩) ?_
                  first | (apply GA.take [] (hD := .inl rfl) (hsub := ⟨_, Takes.nil⟩) (i := 8) (hi := rfl) (hs := by kernel_rfl) (hfr := by kernel_rfl) (hr := by kernel_rfl) (hQ := np_) (hd := rfl); case hx => (first | exact Ex.build rfl rfl))
                  refine GA.one (i := 10) (by kernel_rfl) rfl ?_
                  repeat (first | refine G.storeBA rfl rfl rfl rfl rfl ?_ | refine G.nil ?_)
                  try refine G.nil ?_
                  refine GA.back (by first | exact .inl (by decide) | exact .inr ⟨_, (by repeat first | exact tn_ | apply td_ rfl | apply tc_ | exact .here | apply Take1.there)⟩) ?_
                  refine GA.done (by kernel_rfl) ?_
                  refine GE.meet ab trivial (by simp only [fits]; repeat (first | exact trivial | refine And.intro rfl ?_)) (by repeat first | exact tn_ | apply td_ rfl | apply tc_ | exact .here | apply Take1.there) (by repeat (first | exact Subs.refl | refine Subs.skip ?_))
                · first | refine G.call (caps := []) (pathBy_sp ((i : Int) * 7) (by omega)) rfl rfl rfl rfl (by repeat first | exact tn_ | apply td_ rfl | apply tc_ | exact .here | apply Take1.there) ?_ | refine G.callU (caps := []) (pathBy_sp ((i : Int) * 7) (by omega)) rfl rfl rfl (by repeat first | exact tn_ | apply td_ rfl | apply tc_ | exact .here | apply Take1.there) ?_
                  rintro v_ give_ ⟨rfl, rfl⟩ rs_ hrs_
                  simp only [List.cons_append, List.nil_append] at hrs_
                  subst hrs_
                  try refine G.nil ?_
                  refine GA.back (by first | exact .inl (by decide) | exact .inr ⟨_, (by repeat first | exact tn_ | apply td_ rfl | apply tc_ | exact .here | apply Take1.there)⟩) ?_
                  refine GA.one (i := 4) (by kernel_rfl) rfl ?_
                  repeat (first | (apply G.ex (hd := rfl); case h => (first | exact Ex.loadT0 rfl (by first | omega | (simp; done) | (simp; omega)) rfl)) | refine G.nil ?_)
                  try refine G.nil ?_
                  refine GA.back (by first | exact .inl (by decide) | exact .inr ⟨_, (by repeat first | exact tn_ | apply td_ rfl | apply tc_ | exact .here | apply Take1.there)⟩) ?_
                  first | (apply GA.take [] (hD := .inl rfl) (hsub := ⟨_, Takes.nil⟩) (i := 8) (hi := rfl) (hs := by kernel_rfl) (hfr := by kernel_rfl) (hr := by kernel_rfl) (hQ := np_) (hd := rfl); case hx => (first | exact Ex.build rfl rfl))
                  refine GA.one (i := 10) (by kernel_rfl) rfl ?_
                  repeat (first | refine G.storeBA rfl rfl rfl rfl rfl ?_ | refine G.nil ?_)
                  try refine G.nil ?_
                  refine GA.back (by first | exact .inl (by decide) | exact .inr ⟨_, (by repeat first | exact tn_ | apply td_ rfl | apply tc_ | exact .here | apply Take1.there)⟩) ?_
                  refine GA.done (by kernel_rfl) ?_
                  refine GE.meet ab trivial (by simp only [fits]; repeat (first | exact trivial | refine And.intro rfl ?_)) (by repeat first | exact tn_ | apply td_ rfl | apply tc_ | exact .here | apply Take1.there) (by repeat (first | exact Subs.refl | refine Subs.skip ?_))
            · first | refine G.call (caps := []) (pathBy_sp ((i : Int) * 7) (by omega)) rfl rfl rfl rfl (by repeat first | exact tn_ | apply td_ rfl | apply tc_ | exact .here | apply Take1.there) ?_ | refine G.callU (caps := []) (pathBy_sp ((i : Int) * 7) (by omega)) rfl rfl rfl (by repeat first | exact tn_ | apply td_ rfl | apply tc_ | exact .here | apply Take1.there) ?_
              rintro v_ give_ ⟨rfl, rfl⟩ rs_ hrs_
              simp only [List.cons_append, List.nil_append] at hrs_
              subst hrs_
              try refine G.nil ?_
              refine GA.back (by first | exact .inl (by decide) | exact .inr ⟨_, (by repeat first | exact tn_ | apply td_ rfl | apply tc_ | exact .here | apply Take1.there)⟩) ?_
              refine GA.two (i := 3) (j := 9) (by kernel_rfl) rfl rfl ?_ ?_
              · repeat (first | (apply G.ex (hd := rfl); case h => (first | exact Ex.indexN rfl rfl (by first | omega | (simp; done) | (simp; omega)))) | refine G.nil ?_)
                try refine G.nil ?_
                refine GA.back (by first | exact .inl (by decide) | exact .inr ⟨_, (by repeat first | exact tn_ | apply td_ rfl | apply tc_ | exact .here | apply Take1.there)⟩) ?_
                refine GA.two (i := 4) (j := 9) (by kernel_rfl) rfl rfl ?_ ?_
                · repeat (first | (apply G.ex (hd := rfl); case h => (first | exact Ex.loadT0 rfl (by first | omega | (simp; done) | (simp; omega)) rfl)) | refine G.nil ?_)
                  try refine G.nil ?_
                  refine GA.back (by first | exact .inl (by decide) | exact .inr ⟨_, (by repeat first | exact tn_ | apply td_ rfl | apply tc_ | exact .here | apply Take1.there)⟩) ?_
                  first | (apply GA.take [] (hD := .inl rfl) (hsub := ⟨_, Takes.nil⟩) (i := 8) (hi := rfl) (hs := by kernel_rfl) (hfr := by kernel_rfl) (hr := by kernel_rfl) (hQ := np_) (hd := rfl); case hx => (first | exact Ex.build rfl rfl))
                  refine GA.one (i := 9) (by kernel_rfl) rfl ?_
                  refine G.alloc rfl (fun ab => ?_)
                  try refine G.nil ?_
                  refine GA.back (by first | exact .inl (by decide) | exact .inr ⟨_, (by repeat first | exact tn_ | apply td_ rfl | apply tc_ | exact .here | apply Take1.there)⟩) ?_
                  refine GA.one (i := 10) (by kernel_rfl) rfl ?_
                  repeat (first | refine G.storeBA rfl rfl rfl rfl rfl ?_ | refine G.nil ?_)
                  try refine G.nil ?_
                  refine GA.back (by first | exact .inl (by decide) | exact .inr ⟨_, (by repeat first | exact tn_ | apply td_ rfl | apply tc_ | exact .here | apply Take1.there)⟩) ?_
                  refine GA.done (by kernel_rfl) ?_
                  refine GE.meet ab trivial (by simp only [fits]; repeat (first | exact trivial | refine And.intro rfl ?_)) (by repeat first | exact tn_ | apply td_ rfl | apply tc_ | exact .here | apply Take1.there) (by repeat (first | exact Subs.refl | refine Subs.skip ?_))
                · refine G.alloc rfl (fun ab => ?_)
                  try refine G.nil ?_
                  refine GA.back (by first | exact .inl (by decide) | exact .inr ⟨_, (by repeat first | exact tn_ | apply td_ rfl | apply tc_ | exact .here | apply Take1.there)⟩) ?_
                  refine GA.one (i := 4) (by kernel_rfl) rfl ?_
                  repeat (first | (apply G.ex (hd := rfl); case h => (first | exact Ex.loadT0 rfl (by first | omega | (simp; done) | (simp; omega)) rfl)) | refine G.nil ?_)
                  try refine G.nil ?_
                  refine GA.back (by first | exact .inl (by decide) | exact .inr ⟨_, (by repeat first | exact tn_ | apply td_ rfl | apply tc_ | exact .here | apply Take1.there)⟩) ?_
                  first | (apply GA.take [] (hD := .inl rfl) (hsub := ⟨_, Takes.nil⟩) (i := 8) (hi := rfl) (hs := by kernel_rfl) (hfr := by kernel_rfl) (hr := by kernel_rfl) (hQ := np_) (hd := rfl); case hx => (first | exact Ex.build rfl rfl))
                  refine GA.one (i := 10) (by kernel_rfl) rfl ?_
                  repeat (first | refine G.storeBA rfl rfl rfl rfl rfl ?_ | refine G.nil ?_)
                  try refine G.nil ?_
                  refine GA.back (by first | exact .inl (by decide) | exact .inr ⟨_, (by repeat first | exact tn_ | apply td_ rfl | apply tc_ | exact .here | apply Take1.there)⟩) ?_
                  refine GA.done (by kernel_rfl) ?_
                  refine GE.meet ab trivial (by simp only [fits]; repeat (first | exact trivial | refine And.intro rfl ?_)) (by repeat first | exact tn_ | apply td_ rfl | apply tc_ | exact .here | apply Take1.there) (by repeat (first | exact Subs.refl | refine Subs.skip ?_))
              · refine G.alloc rfl (fun ab => ?_)
                try refine G.nil ?_
                refine GA.back (by first | exact .inl (by decide) | exact .inr ⟨_, (by repeat first | exact tn_ | apply td_ rfl | apply tc_ | exact .here | apply Take1.there)⟩) ?_
                refine GA.one (i := 3) (by kernel_rfl) rfl ?_
                repeat (first | (apply G.ex (hd := rfl); case h => (first | exact Ex.indexN rfl rfl (by first | omega | (simp; done) | (simp; omega)))) | refine G.nil ?_)
                try refine G.nil ?_
                refine GA.back (by first | exact .inl (by decide) | exact .inr ⟨_, (by repeat first | exact tn_ | apply td_ rfl | apply tc_ | exact .here | apply Take1.there)⟩) ?_
                refine GA.one (i := 4) (by kernel_rfl) rfl ?_
                repeat (first | (apply G.ex (hd := rfl); case h => (first | exact Ex.loadT0 rfl (by first | omega | (simp; done) | (simp; omega)) rfl)) | refine G.nil ?_)
                try refine G.nil ?_
                refine GA.back (by first | exact .inl (by decide) | exact .inr ⟨_, (by repeat first | exact tn_ | apply td_ rfl | apply tc_ | exact .here | apply Take1.there)⟩) ?_
                first | (apply GA.take [] (hD := .inl rfl) (hsub := ⟨_, Takes.nil⟩) (i := 8) (hi := rfl) (hs := by kernel_rfl) (hfr := by kernel_rfl) (hr := by kernel_rfl) (hQ := np_) (hd := rfl); case hx => (first | exact Ex.build rfl rfl))
                refine GA.one (i := 10) (by kernel_rfl) rfl ?_
                repeat (first | refine G.storeBA rfl rfl rfl rfl rfl ?_ | refine G.nil ?_)
                try refine G.nil ?_
                refine GA.back (by first | exact .inl (by decide) | exact .inr ⟨_, (by repeat first | exact tn_ | apply td_ rfl | apply tc_ | exact .here | apply Take1.there)⟩) ?_
                refine GA.done (by kernel_rfl) ?_
                refine GE.meet ab trivial (by simp only [fits]; repeat (first | exact trivial | refine And.intro rfl ?_)) (by repeat first | exact tn_ | apply td_ rfl | apply tc_ | exact .here | apply Take1.there) (by repeat (first | exact Subs.refl | refine Subs.skip ?_))
            · refine G.alloc rfl (fun ab => ?_)
              try refine G.nil ?_
              refine GA.back (by first | exact .inl (by decide) | exact .inr ⟨_, (by repeat first | exact tn_ | apply td_ rfl | apply tc_ | exact .here | apply Take1.there)⟩) ?_
              refine GA.two (i := 3) (j := 7) (by kernel_rfl) rfl rfl ?_ ?_
              · repeat (first | (apply G.ex (hd := rfl); case h => (first | exact Ex.indexN rfl rfl (by first | omega | (simp; done) | (simp; omega)))) | refine G.nil ?_)
                try refine G.nil ?_
                refine GA.back (by first | exact .inl (by decide) | exact .inr ⟨_, (by repeat first | exact tn_ | apply td_ rfl | apply tc_ | exact .here | apply Take1.there)⟩) ?_
                refine GA.two (i := 4) (j := 7) (by kernel_rfl) rfl rfl ?_ ?_
                · repeat (first | (apply G.ex (hd := rfl); case h => (first | exact Ex.loadT0 rfl (by first | omega | (simp; done) | (simp; omega)) rfl)) | refine G.nil ?_)
                  try refine G.nil ?_
                  refine GA.back (by first | exact .inl (by decide) | exact .inr ⟨_, (by repeat first | exact tn_ | apply td_ rfl | apply tc_ | exact .here | apply Take1.there)⟩) ?_
                  refine GA.one (i := 7) (by kernel_rfl) rfl ?_
                  first | refine G.call (caps := []) (pathBy_sp ((i : Int) * 7) (by omega)) rfl rfl rfl rfl (by repeat first | exact tn_ | apply td_ rfl | apply tc_ | exact .here | apply Take1.there) ?_ | refine G.callU (caps := []) (pathBy_sp ((i : Int) * 7) (by omega)) rfl rfl rfl (by repeat first | exact tn_ | apply td_ rfl | apply tc_ | exact .here | apply Take1.there) ?_
                  rintro v_ give_ ⟨rfl, rfl⟩ rs_ hrs_
                  simp only [List.cons_append, List.nil_append] at hrs_
                  subst hrs_
                  try refine G.nil ?_
                  refine GA.back (by first | exact .inl (by decide) | exact .inr ⟨_, (by repeat first | exact tn_ | apply td_ rfl | apply tc_ | exact .here | apply Take1.there)⟩) ?_
                  first | (apply GA.take [] (hD := .inl rfl) (hsub := ⟨_, Takes.nil⟩) (i := 8) (hi := rfl) (hs := by kernel_rfl) (hfr := by kernel_rfl) (hr := by kernel_rfl) (hQ := np_) (hd := rfl); case hx => (first | exact Ex.build rfl rfl))
                  refine GA.one (i := 10) (by kernel_rfl) rfl ?_
                  repeat (first | refine G.storeBA rfl rfl rfl rfl rfl ?_ | refine G.nil ?_)
                  try refine G.nil ?_
                  refine GA.back (by first | exact .inl (by decide) | exact .inr ⟨_, (by repeat first | exact tn_ | apply td_ rfl | apply tc_ | exact .here | apply Take1.there)⟩) ?_
                  refine GA.done (by kernel_rfl) ?_
                  refine GE.meet ab trivial (by simp only [fits]; repeat (first | exact trivial | refine And.intro rfl ?_)) (by repeat first | exact tn_ | apply td_ rfl | apply tc_ | exact .here | apply Take1.there) (by repeat (first | exact Subs.refl | refine Subs.skip ?_))
                · first | refine G.call (caps := []) (pathBy_sp ((i : Int) * 7) (by omega)) rfl rfl rfl rfl (by repeat first | exact tn_ | apply td_ rfl | apply tc_ | exact .here | apply Take1.there) ?_ | refine G.callU (caps := []) (pathBy_sp ((i : Int) * 7) (by omega)) rfl rfl rfl (by repeat first | exact tn_ | apply td_ rfl | apply tc_ | exact .here | apply Take1.there) ?_
                  rintro v_ give_ ⟨rfl, rfl⟩ rs_ hrs_
                  simp only [List.cons_append, List.nil_append] at hrs_
                  subst hrs_
                  try refine G.nil ?_
                  refine GA.back (by first | exact .inl (by decide) | exact .inr ⟨_, (by repeat first | exact tn_ | apply td_ rfl | apply tc_ | exact .here | apply Take1.there)⟩) ?_
                  refine GA.one (i := 4) (by kernel_rfl) rfl ?_
                  repeat (first | (apply G.ex (hd := rfl); case h => (first | exact Ex.loadT0 rfl (by first | omega | (simp; done) | (simp; omega)) rfl)) | refine G.nil ?_)
                  try refine G.nil ?_
                  refine GA.back (by first | exact .inl (by decide) | exact .inr ⟨_, (by repeat first | exact tn_ | apply td_ rfl | apply tc_ | exact .here | apply Take1.there)⟩) ?_
                  first | (apply GA.take [] (hD := .inl rfl) (hsub := ⟨_, Takes.nil⟩) (i := 8) (hi := rfl) (hs := by kernel_rfl) (hfr := by kernel_rfl) (hr := by kernel_rfl) (hQ := np_) (hd := rfl); case hx => (first | exact Ex.build rfl rfl))
                  refine GA.one (i := 10) (by kernel_rfl) rfl ?_
                  repeat (first | refine G.storeBA rfl rfl rfl rfl rfl ?_ | refine G.nil ?_)
                  try refine G.nil ?_
                  refine GA.back (by first | exact .inl (by decide) | exact .inr ⟨_, (by repeat first | exact tn_ | apply td_ rfl | apply tc_ | exact .here | apply Take1.there)⟩) ?_
                  refine GA.done (by kernel_rfl) ?_
                  refine GE.meet ab trivial (by simp only [fits]; repeat (first | exact trivial | refine And.intro rfl ?_)) (by repeat first | exact tn_ | apply td_ rfl | apply tc_ | exact .here | apply Take1.there) (by repeat (first | exact Subs.refl | refine Subs.skip ?_))
              · first | refine G.call (caps := []) (pathBy_sp ((i : Int) * 7) (by omega)) rfl rfl rfl rfl (by repeat first | exact tn_ | apply td_ rfl | apply tc_ | exact .here | apply Take1.there) ?_ | refine G.callU (caps := []) (pathBy_sp ((i : Int) * 7) (by omega)) rfl rfl rfl (by repeat first | exact tn_ | apply td_ rfl | apply tc_ | exact .here | apply Take1.there) ?_
                rintro v_ give_ ⟨rfl, rfl⟩ rs_ hrs_
                simp only [List.cons_append, List.nil_append] at hrs_
                subst hrs_
                try refine G.nil ?_
                refine GA.back (by first | exact .inl (by decide) | exact .inr ⟨_, (by repeat first | exact tn_ | apply td_ rfl | apply tc_ | exact .here | apply Take1.there)⟩) ?_
                refine GA.one (i := 3) (by kernel_rfl) rfl ?_
                repeat (first | (apply G.ex (hd := rfl); case h => (first | exact Ex.indexN rfl rfl (by first | omega | (simp; done) | (simp; omega)))) | refine G.nil ?_)
                try refine G.nil ?_
                refine GA.back (by first | exact .inl (by decide) | exact .inr ⟨_, (by repeat first | exact tn_ | apply td_ rfl | apply tc_ | exact .here | apply Take1.there)⟩) ?_
                refine GA.one (i := 4) (by kernel_rfl) rfl ?_
                repeat (first | (apply G.ex (hd := rfl); case h => (first | exact Ex.loadT0 rfl (by first | omega | (simp; done) | (simp; omega)) rfl)) | refine G.nil ?_)
                try refine G.nil ?_
                refine GA.back (by first | exact .inl (by decide) | exact .inr ⟨_, (by repeat first | exact tn_ | apply td_ rfl | apply tc_ | exact .here | apply Take1.there)⟩) ?_
                first | (apply GA.take [] (hD := .inl rfl) (hsub := ⟨_, Takes.nil⟩) (i := 8) (hi := rfl) (hs := by kernel_rfl) (hfr := by kernel_rfl) (hr := by kernel_rfl) (hQ := np_) (hd := rfl); case hx => (first | exact Ex.build rfl rfl))
                refine GA.one (i := 10) (by kernel_rfl) rfl ?_
                repeat (first | refine G.storeBA rfl rfl rfl rfl rfl ?_ | refine G.nil ?_)
                try refine G.nil ?_
                refine GA.back (by first | exact .inl (by decide) | exact .inr ⟨_, (by repeat first | exact tn_ | apply td_ rfl | apply tc_ | exact .here | apply Take1.there)⟩) ?_
                refine GA.done (by kernel_rfl) ?_
                refine GE.meet ab trivial (by simp only [fits]; repeat (first | exact trivial | refine And.intro rfl ?_)) (by repeat first | exact tn_ | apply td_ rfl | apply tc_ | exact .here | apply Take1.there) (by repeat (first | exact Subs.refl | refine Subs.skip ?_))
          · first | refine G.call (caps := []) (pathBy_sp ((i : Int) * 7) (by omega)) rfl rfl rfl rfl (by repeat first | exact tn_ | apply td_ rfl | apply tc_ | exact .here | apply Take1.there) ?_ | refine G.callU (caps := []) (pathBy_sp ((i : Int) * 7) (by omega)) rfl rfl rfl (by repeat first | exact tn_ | apply td_ rfl | apply tc_ | exact .here | apply Take1.there) ?_
            rintro v_ give_ ⟨rfl, rfl⟩ rs_ hrs_
            simp only [List.cons_append, List.nil_append] at hrs_
            subst hrs_
            try refine G.nil ?_
            refine GA.back (by first | exact .inl (by decide) | exact .inr ⟨_, (by repeat first | exact tn_ | apply td_ rfl | apply tc_ | exact .here | apply Take1.there)⟩) ?_
            refine GA.two (i := 0) (j := 9) (by kernel_rfl) rfl rfl ?_ ?_
            · refine G.lit (cells := flat (eI .i64) [7, 6, 4]) rfl (by rfl) (by rfl) (by rfl) (by rfl) (by rfl) (by rfl) rfl (fun y => ?_)
              rw [← hL]
              try refine G.nil ?_
              refine GA.back (by first | exact .inl (by decide) | exact .inr ⟨_, (by repeat first | exact tn_ | apply td_ rfl | apply tc_ | exact .here | apply Take1.there)⟩) ?_
              refine GA.two (i := 3) (j := 9) (by kernel_rfl) rfl rfl ?_ ?_
              · repeat (first | (apply G.ex (hd := rfl); case h => (first | exact Ex.indexN rfl rfl (by first | omega | (simp; done) | (simp; omega)))) | refine G.nil ?_)
                try refine G.nil ?_
                refine GA.back (by first | exact .inl (by decide) | exact .inr ⟨_, (by repeat first | exact tn_ | apply td_ rfl | apply tc_ | exact .here | apply Take1.there)⟩) ?_
                refine GA.two (i := 4) (j := 9) (by kernel_rfl) rfl rfl ?_ ?_
                · repeat (first | (apply G.ex (hd := rfl); case h => (first | exact Ex.loadT0 rfl (by first | omega | (simp; done) | (simp; omega)) rfl)) | refine G.nil ?_)
                  try refine G.nil ?_
                  refine GA.back (by first | exact .inl (by decide) | exact .inr ⟨_, (by repeat first | exact tn_ | apply td_ rfl | apply tc_ | exact .here | apply Take1.there)⟩) ?_
                  first | (apply GA.take [] (hD := .inl rfl) (hsub := ⟨_, Takes.nil⟩) (i := 8) (hi := rfl) (hs := by kernel_rfl) (hfr := by kernel_rfl) (hr := by kernel_rfl) (hQ := np_) (hd := rfl); case hx => (first | exact Ex.build rfl rfl))
                  refine GA.one (i := 9) (by kernel_rfl) rfl ?_
                  refine G.alloc rfl (fun ab => ?_)
                  try refine G.nil ?_
                  refine GA.back (by first | exact .inl (by decide) | exact .inr ⟨_, (by repeat first | exact tn_ | apply td_ rfl | apply tc_ | exact .here | apply Take1.there)⟩) ?_
                  refine GA.one (i := 10) (by kernel_rfl) rfl ?_
                  repeat (first | refine G.storeBA rfl rfl rfl rfl rfl ?_ | refine G.nil ?_)
                  try refine G.nil ?_
                  refine GA.back (by first | exact .inl (by decide) | exact .inr ⟨_, (by repeat first | exact tn_ | apply td_ rfl | apply tc_ | exact .here | apply Take1.there)⟩) ?_
                  refine GA.done (by kernel_rfl) ?_
                  refine GE.meet ab trivial (by simp only [fits]; repeat (first | exact trivial | refine And.intro rfl ?_)) (by repeat first | exact tn_ | apply td_ rfl | apply tc_ | exact .here | apply Take1.there) (by repeat (first | exact Subs.refl | refine Subs.skip ?_))
                · refine G.alloc rfl (fun ab => ?_)
                  try refine G.nil ?_
                  refine GA.back (by first | exact .inl (by decide) | exact .inr ⟨_, (by repeat first | exact tn_ | apply td_ rfl | apply tc_ | exact .here | apply Take1.there)⟩) ?_
                  refine GA.one (i := 4) (by kernel_rfl) rfl ?_
                  repeat (first | (apply G.ex (hd := rfl); case h => (first | exact Ex.loadT0 rfl (by first | omega | (simp; done) | (simp; omega)) rfl)) | refine G.nil ?_)
                  try refine G.nil ?_
                  refine GA.back (by first | exact .inl (by decide) | exact .inr ⟨_, (by repeat first | exact tn_ | apply td_ rfl | apply tc_ | exact .here | apply Take1.there)⟩) ?_
                  first | (apply GA.take [] (hD := .inl rfl) (hsub := ⟨_, Takes.nil⟩) (i := 8) (hi := rfl) (hs := by kernel_rfl) (hfr := by kernel_rfl) (hr := by kernel_rfl) (hQ := np_) (hd := rfl); case hx => (first | exact Ex.build rfl rfl))
                  refine GA.one (i := 10) (by kernel_rfl) rfl ?_
                  repeat (first | refine G.storeBA rfl rfl rfl rfl rfl ?_ | refine G.nil ?_)
                  try refine G.nil ?_
                  refine GA.back (by first | exact .inl (by decide) | exact .inr ⟨_, (by repeat first | exact tn_ | apply td_ rfl | apply tc_ | exact .here | apply Take1.there)⟩) ?_
                  refine GA.done (by kernel_rfl) ?_
                  refine GE.meet ab trivial (by simp only [fits]; repeat (first | exact trivial | refine And.intro rfl ?_)) (by repeat first | exact tn_ | apply td_ rfl | apply tc_ | exact .here | apply Take1.there) (by repeat (first | exact Subs.refl | refine Subs.skip ?_))
              · refine G.alloc rfl (fun ab => ?_)
                try refine G.nil ?_
                refine GA.back (by first | exact .inl (by decide) | exact .inr ⟨_, (by repeat first | exact tn_ | apply td_ rfl | apply tc_ | exact .here | apply Take1.there)⟩) ?_
                refine GA.one (i := 3) (by kernel_rfl) rfl ?_
                repeat (first | (apply G.ex (hd := rfl); case h => (first | exact Ex.indexN rfl rfl (by first | omega | (simp; done) | (simp; omega)))) | refine G.nil ?_)
                try refine G.nil ?_
                refine GA.back (by first | exact .inl (by decide) | exact .inr ⟨_, (by repeat first | exact tn_ | apply td_ rfl | apply tc_ | exact .here | apply Take1.there)⟩) ?_
                refine GA.one (i := 4) (by kernel_rfl) rfl ?_
                repeat (first | (apply G.ex (hd := rfl); case h => (first | exact Ex.loadT0 rfl (by first | omega | (simp; done) | (simp; omega)) rfl)) | refine G.nil ?_)
                try refine G.nil ?_
                refine GA.back (by first | exact .inl (by decide) | exact .inr ⟨_, (by repeat first | exact tn_ | apply td_ rfl | apply tc_ | exact .here | apply Take1.there)⟩) ?_
                first | (apply GA.take [] (hD := .inl rfl) (hsub := ⟨_, Takes.nil⟩) (i := 8) (hi := rfl) (hs := by kernel_rfl) (hfr := by kernel_rfl) (hr := by kernel_rfl) (hQ := np_) (hd := rfl); case hx => (first | exact Ex.build rfl rfl))
                refine GA.one (i := 10) (by kernel_rfl) rfl ?_
                repeat (first | refine G.storeBA rfl rfl rfl rfl rfl ?_ | refine G.nil ?_)
                try refine G.nil ?_
                refine GA.back (by first | exact .inl (by decide) | exact .inr ⟨_, (by repeat first | exact tn_ | apply td_ rfl | apply tc_ | exact .here | apply Take1.there)⟩) ?_
                refine GA.done (by kernel_rfl) ?_
                refine GE.meet ab trivial (by simp only [fits]; repeat (first | exact trivial | refine And.intro rfl ?_)) (by repeat first | exact tn_ | apply td_ rfl | apply tc_ | exact .here | apply Take1.there) (by repeat (first | exact Subs.refl | refine Subs.skip ?_))
            · refine G.alloc rfl (fun ab => ?_)
              try refine G.nil ?_
              refine GA.back (by first | exact .inl (by decide) | exact .inr ⟨_, (by repeat first | exact tn_ | apply td_ rfl | apply tc_ | exact .here | apply Take1.there)⟩) ?_
              refine GA.one (i := 0) (by kernel_rfl) rfl ?_
              refine G.lit (cells := flat (eI .i64) [7, 6, 4]) rfl (by rfl) (by rfl) (by rfl) (by rfl) (by rfl) (by rfl) rfl (fun y => ?_)
              rw [← hL]
              try refine G.nil ?_
              refine GA.back (by first | exact .inl (by decide) | exact .inr ⟨_, (by repeat first | exact tn_ | apply td_ rfl | apply tc_ | exact .here | apply Take1.there)⟩) ?_
              refine GA.one (i := 3) (by kernel_rfl) rfl ?_
              repeat (first | (apply G.ex (hd := rfl); case h => (first | exact Ex.indexN rfl rfl (by first | omega | (simp; done) | (simp; omega)))) | refine G.nil ?_)
              try refine G.nil ?_
              refine GA.back (by first | exact .inl (by decide) | exact .inr ⟨_, (by repeat first | exact tn_ | apply td_ rfl | apply tc_ | exact .here | apply Take1.there)⟩) ?_
              refine GA.one (i := 4) (by kernel_rfl) rfl ?_
              repeat (first | (apply G.ex (hd := rfl); case h => (first | exact Ex.loadT0 rfl (by first | omega | (simp; done) | (simp; omega)) rfl)) | refine G.nil ?_)
              try refine G.nil ?_
              refine GA.back (by first | exact .inl (by decide) | exact .inr ⟨_, (by repeat first | exact tn_ | apply td_ rfl | apply tc_ | exact .here | apply Take1.there)⟩) ?_
              first | (apply GA.take [] (hD := .inl rfl) (hsub := ⟨_, Takes.nil⟩) (i := 8) (hi := rfl) (hs := by kernel_rfl) (hfr := by kernel_rfl) (hr := by kernel_rfl) (hQ := np_) (hd := rfl); case hx => (first | exact Ex.build rfl rfl))
              refine GA.one (i := 10) (by kernel_rfl) rfl ?_
              repeat (first | refine G.storeBA rfl rfl rfl rfl rfl ?_ | refine G.nil ?_)
              try refine G.nil ?_
              refine GA.back (by first | exact .inl (by decide) | exact .inr ⟨_, (by repeat first | exact tn_ | apply td_ rfl | apply tc_ | exact .here | apply Take1.there)⟩) ?_
              refine GA.done (by kernel_rfl) ?_
              refine GE.meet ab trivial (by simp only [fits]; repeat (first | exact trivial | refine And.intro rfl ?_)) (by repeat first | exact tn_ | apply td_ rfl | apply tc_ | exact .here | apply Take1.there) (by repeat (first | exact Subs.refl | refine Subs.skip ?_))
          · refine G.alloc rfl (fun ab => ?_)
            try refine G.nil ?_
            refine GA.back (by first | exact .inl (by decide) | exact .inr ⟨_, (by repeat first | exact tn_ | apply td_ rfl | apply tc_ | exact .here | apply Take1.there)⟩) ?_
            refine GA.two (i := 0) (j := 7) (by kernel_rfl) rfl rfl ?_ ?_
            · refine G.lit (cells := flat (eI .i64) [7, 6, 4]) rfl (by rfl) (by rfl) (by rfl) (by rfl) (by rfl) (by rfl) rfl (fun y => ?_)
              rw [← hL]
              try refine G.nil ?_
              refine GA.back (by first | exact .inl (by decide) | exact .inr ⟨_, (by repeat first | exact tn_ | apply td_ rfl | apply tc_ | exact .here | apply Take1.there)⟩) ?_
              refine GA.two (i := 3) (j := 7) (by kernel_rfl) rfl rfl ?_ ?_
              · repeat (first | (apply G.ex (hd := rfl); case h => (first | exact Ex.indexN rfl rfl (by first | omega | (simp; done) | (simp; omega)))) | refine G.nil ?_)
                try refine G.nil ?_
                refine GA.back (by first | exact .inl (by decide) | exact .inr ⟨_, (by repeat first | exact tn_ | apply td_ rfl | apply tc_ | exact .here | apply Take1.there)⟩) ?_
                refine GA.two (i := 4) (j := 7) (by kernel_rfl) rfl rfl ?_ ?_
                · repeat (first | (apply G.ex (hd := rfl); case h => (first | exact Ex.loadT0 rfl (by first | omega | (simp; done) | (simp; omega)) rfl)) | refine G.nil ?_)
                  try refine G.nil ?_
                  refine GA.back (by first | exact .inl (by decide) | exact .inr ⟨_, (by repeat first | exact tn_ | apply td_ rfl | apply tc_ | exact .here | apply Take1.there)⟩) ?_
                  refine GA.one (i := 7) (by kernel_rfl) rfl ?_
                  first | refine G.call (caps := []) (pathBy_sp ((i : Int) * 7) (by omega)) rfl rfl rfl rfl (by repeat first | exact tn_ | apply td_ rfl | apply tc_ | exact .here | apply Take1.there) ?_ | refine G.callU (caps := []) (pathBy_sp ((i : Int) * 7) (by omega)) rfl rfl rfl (by repeat first | exact tn_ | apply td_ rfl | apply tc_ | exact .here | apply Take1.there) ?_
                  rintro v_ give_ ⟨rfl, rfl⟩ rs_ hrs_
                  simp only [List.cons_append, List.nil_append] at hrs_
                  subst hrs_
                  try refine G.nil ?_
                  refine GA.back (by first | exact .inl (by decide) | exact .inr ⟨_, (by repeat first | exact tn_ | apply td_ rfl | apply tc_ | exact .here | apply Take1.there)⟩) ?_
                  first | (apply GA.take [] (hD := .inl rfl) (hsub := ⟨_, Takes.nil⟩) (i := 8) (hi := rfl) (hs := by kernel_rfl) (hfr := by kernel_rfl) (hr := by kernel_rfl) (hQ := np_) (hd := rfl); case hx => (first | exact Ex.build rfl rfl))
                  refine GA.one (i := 10) (by kernel_rfl) rfl ?_
                  repeat (first | refine G.storeBA rfl rfl rfl rfl rfl ?_ | refine G.nil ?_)
                  try refine G.nil ?_
                  refine GA.back (by first | exact .inl (by decide) | exact .inr ⟨_, (by repeat first | exact tn_ | apply td_ rfl | apply tc_ | exact .here | apply Take1.there)⟩) ?_
                  refine GA.done (by kernel_rfl) ?_
                  refine GE.meet ab trivial (by simp only [fits]; repeat (first | exact trivial | refine And.intro rfl ?_)) (by repeat first | exact tn_ | apply td_ rfl | apply tc_ | exact .here | apply Take1.there) (by repeat (first | exact Subs.refl | refine Subs.skip ?_))
                · first | refine G.call (caps := []) (pathBy_sp ((i : Int) * 7) (by omega)) rfl rfl rfl rfl (by repeat first | exact tn_ | apply td_ rfl | apply tc_ | exact .here | apply Take1.there) ?_ | refine G.callU (caps := []) (pathBy_sp ((i : Int) * 7) (by omega)) rfl rfl rfl (by repeat first | exact tn_ | apply td_ rfl | apply tc_ | exact .here | apply Take1.there) ?_
                  rintro v_ give_ ⟨rfl, rfl⟩ rs_ hrs_
                  simp only [List.cons_append, List.nil_append] at hrs_
                  subst hrs_
                  try refine G.nil ?_
                  refine GA.back (by first | exact .inl (by decide) | exact .inr ⟨_, (by repeat first | exact tn_ | apply td_ rfl | apply tc_ | exact .here | apply Take1.there)⟩) ?_
                  refine GA.one (i := 4) (by kernel_rfl) rfl ?_
                  repeat (first | (apply G.ex (hd := rfl); case h => (first | exact Ex.loadT0 rfl (by first | omega | (simp; done) | (simp; omega)) rfl)) | refine G.nil ?_)
                  try refine G.nil ?_
                  refine GA.back (by first | exact .inl (by decide) | exact .inr ⟨_, (by repeat first | exact tn_ | apply td_ rfl | apply tc_ | exact .here | apply Take1.there)⟩) ?_
                  first | (apply GA.take [] (hD := .inl rfl) (hsub := ⟨_, Takes.nil⟩) (i := 8) (hi := rfl) (hs := by kernel_rfl) (hfr := by kernel_rfl) (hr := by kernel_rfl) (hQ := np_) (hd := rfl); case hx => (first | exact Ex.build rfl rfl))
                  refine GA.one (i := 10) (by kernel_rfl) rfl ?_
                  repeat (first | refine G.storeBA rfl rfl rfl rfl rfl ?_ | refine G.nil ?_)
                  try refine G.nil ?_
                  refine GA.back (by first | exact .inl (by decide) | exact .inr ⟨_, (by repeat first | exact tn_ | apply td_ rfl | apply tc_ | exact .here | apply Take1.there)⟩) ?_
                  refine GA.done (by kernel_rfl) ?_
                  refine GE.meet ab trivial (by simp only [fits]; repeat (first | exact trivial | refine And.intro rfl ?_)) (by repeat first | exact tn_ | apply td_ rfl | apply tc_ | exact .here | apply Take1.there) (by repeat (first | exact Subs.refl | refine Subs.skip ?_))
              · first | refine G.call (caps := []) (pathBy_sp ((i : Int) * 7) (by omega)) rfl rfl rfl rfl (by repeat first | exact tn_ | apply td_ rfl | apply tc_ | exact .here | apply Take1.there) ?_ | refine G.callU (caps := []) (pathBy_sp ((i : Int) * 7) (by omega)) rfl rfl rfl (by repeat first | exact tn_ | apply td_ rfl | apply tc_ | exact .here | apply Take1.there) ?_
                rintro v_ give_ ⟨rfl, rfl⟩ rs_ hrs_
                simp only [List.cons_append, List.nil_append] at hrs_
                subst hrs_
                try refine G.nil ?_
                refine GA.back (by first | exact .inl (by decide) | exact .inr ⟨_, (by repeat first | exact tn_ | apply td_ rfl | apply tc_ | exact .here | apply Take1.there)⟩) ?_
                refine GA.one (i := 3) (by kernel_rfl) rfl ?_
                repeat (first | (apply G.ex (hd := rfl); case h => (first | exact Ex.indexN rfl rfl (by first | omega | (simp; done) | (simp; omega)))) | refine G.nil ?_)
                try refine G.nil ?_
                refine GA.back (by first | exact .inl (by decide) | exact .inr ⟨_, (by repeat first | exact tn_ | apply td_ rfl | apply tc_ | exact .here | apply Take1.there)⟩) ?_
                refine GA.one (i := 4) (by kernel_rfl) rfl ?_
                repeat (first | (apply G.ex (hd := rfl); case h => (first | exact Ex.loadT0 rfl (by first | omega | (simp; done) | (simp; omega)) rfl)) | refine G.nil ?_)
                try refine G.nil ?_
                refine GA.back (by first | exact .inl (by decide) | exact .inr ⟨_, (by repeat first | exact tn_ | apply td_ rfl | apply tc_ | exact .here | apply Take1.there)⟩) ?_
                first | (apply GA.take [] (hD := .inl rfl) (hsub := ⟨_, Takes.nil⟩) (i := 8) (hi := rfl) (hs := by kernel_rfl) (hfr := by kernel_rfl) (hr := by kernel_rfl) (hQ := np_) (hd := rfl); case hx => (first | exact Ex.build rfl rfl))
                refine GA.one (i := 10) (by kernel_rfl) rfl ?_
                repeat (first | refine G.storeBA rfl rfl rfl rfl rfl ?_ | refine G.nil ?_)
                try refine G.nil ?_
                refine GA.back (by first | exact .inl (by decide) | exact .inr ⟨_, (by repeat first | exact tn_ | apply td_ rfl | apply tc_ | exact .here | apply Take1.there)⟩) ?_
                refine GA.done (by kernel_rfl) ?_
                refine GE.meet ab trivial (by simp only [fits]; repeat (first | exact trivial | refine And.intro rfl ?_)) (by repeat first | exact tn_ | apply td_ rfl | apply tc_ | exact .here | apply Take1.there) (by repeat (first | exact Subs.refl | refine Subs.skip ?_))
            · first | refine G.call (caps := []) (pathBy_sp ((i : Int) * 7) (by omega)) rfl rfl rfl rfl (by repeat first | exact tn_ | apply td_ rfl | apply tc_ | exact .here | apply Take1.there) ?_ | refine G.callU (caps := []) (pathBy_sp ((i : Int) * 7) (by omega)) rfl rfl rfl (by repeat first | exact tn_ | apply td_ rfl | apply tc_ | exact .here | apply Take1.there) ?_
              rintro v_ give_ ⟨rfl, rfl⟩ rs_ hrs_
              simp only [List.cons_append, List.nil_append] at hrs_
              subst hrs_
              try refine G.nil ?_
              refine GA.back (by first | exact .inl (by decide) | exact .inr ⟨_, (by repeat first | exact tn_ | apply td_ rfl | apply tc_ | exact .here | apply Take1.there)⟩) ?_
              refine GA.one (i := 0) (by kernel_rfl) rfl ?_
              refine G.lit (cells := flat (eI .i64) [7, 6, 4]) rfl (by rfl) (by rfl) (by rfl) (by rfl) (by rfl) (by rfl) rfl (fun y => ?_)
              rw [← hL]
              try refine G.nil ?_
              refine GA.back (by first | exact .inl (by decide) | exact .inr ⟨_, (by repeat first | exact tn_ | apply td_ rfl | apply tc_ | exact .here | apply Take1.there)⟩) ?_
              refine GA.one (i := 3) (by kernel_rfl) rfl ?_
              repeat (first | (apply G.ex (hd := rfl); case h => (first | exact Ex.indexN rfl rfl (by first | omega | (simp; done) | (simp; omega)))) | refine G.nil ?_)
              try refine G.nil ?_
              refine GA.back (by first | exact .inl (by decide) | exact .inr ⟨_, (by repeat first | exact tn_ | apply td_ rfl | apply tc_ | exact .here | apply Take1.there)⟩) ?_
              refine GA.one (i := 4) (by kernel_rfl) rfl ?_
              repeat (first | (apply G.ex (hd := rfl); case h => (first | exact Ex.loadT0 rfl (by first | omega | (simp; done) | (simp; omega)) rfl)) | refine G.nil ?_)
              try refine G.nil ?_
              refine GA.back (by first | exact .inl (by decide) | exact .inr ⟨_, (by repeat first | exact tn_ | apply td_ rfl | apply tc_ | exact .here | apply Take1.there)⟩) ?_
              first | (apply GA.take [] (hD := .inl rfl) (hsub := ⟨_, Takes.nil⟩) (i := 8) (hi := rfl) (hs := by kernel_rfl) (hfr := by kernel_rfl) (hr := by kernel_rfl) (hQ := np_) (hd := rfl); case hx => (first | exact Ex.build rfl rfl))
              refine GA.one (i := 10) (by kernel_rfl) rfl ?_
              repeat (first | refine G.storeBA rfl rfl rfl rfl rfl ?_ | refine G.nil ?_)
              try refine G.nil ?_
              refine GA.back (by first | exact .inl (by decide) | exact .inr ⟨_, (by repeat first | exact tn_ | apply td_ rfl | apply tc_ | exact .here | apply Take1.there)⟩) ?_
              refine GA.done (by kernel_rfl) ?_
              refine GE.meet ab trivial (by simp only [fits]; repeat (first | exact trivial | refine And.intro rfl ?_)) (by repeat first | exact tn_ | apply td_ rfl | apply tc_ | exact .here | apply Take1.there) (by repeat (first | exact Subs.refl | refine Subs.skip ?_))
        · rintro lb - fr_ rs_ hfr_ hrs_
          simp only [List.cons_append, List.nil_append] at hfr_ hrs_
          subst hfr_ hrs_
          have hkd2 := hkd i
          generalize L.getD (i % 3) default = kd at *
          have hwa := pathF_walk ((i : Int) * 7)
          have hla := pathF_len ((i : Int) * 7)
          generalize pathF ((i : Int) * 7) = pa at *
          generalize namesK ((i : Int) * 7) = us at *
          have okA : AcOk (lookA kd pa) := ⟨show pa.length ≤ 1000000 by omega, Nat.zero_le _, Nat.zero_le _⟩
          have hsame := l2 (lookA kd pa) us hkd2 hwa
          repeat (first | (apply G.ex (hd := rfl); case h => (first | exact Ex.move rfl | exact Ex.loadBA rfl rfl rfl)) | refine GC.seq ?_ | refine GC.region ?_ | refine GE.then_normal ?_)
          refine G.lit (cells := flat eAcM [acN (lookA kd pa)]) rfl (by rfl) (by rfl) (by rfl) (by rfl) (by rfl) (by rfl) rfl (fun g5 => ?_)
          refine G.rdNone [acN (lookA kd pa)] (acN_none fun x hx => by simp only [List.mem_cons, List.not_mem_nil, or_false] at hx; exact ⟨_, rfl, hx⟩) ?_
          first | refine G.call (caps := []) (lastSeen_sp (.vec 36 6 oa n oc (flat eAcM A)) (.vec 36 6 g5 1 1 (flat eAcM [acN (lookA kd pa)])) oa g5 n oc 1 1 A [acN (lookA kd pa)] hn rfl (by omega) (by omega) hAok (fun x hx => by rw [List.mem_singleton] at hx; rw [hx]; exact okA)) rfl rfl rfl rfl (by repeat first | exact tn_ | apply td_ rfl | apply tc_ | exact .here | apply Take1.there) ?_ | refine G.callU (caps := []) (lastSeen_sp (.vec 36 6 oa n oc (flat eAcM A)) (.vec 36 6 g5 1 1 (flat eAcM [acN (lookA kd pa)])) oa g5 n oc 1 1 A [acN (lookA kd pa)] hn rfl (by omega) (by omega) hAok (fun x hx => by rw [List.mem_singleton] at hx; rw [hx]; exact okA)) rfl rfl rfl (by repeat first | exact tn_ | apply td_ rfl | apply tc_ | exact .here | apply Take1.there) ?_
          rintro v_ give_ ⟨y, hy, rfl, rfl⟩ rs_ hrs_
          simp only [List.cons_append, List.nil_append] at hrs_
          subst hrs_
          replace hy : y.s = (doF (ends newT (A.map (·.a))) (lookA kd pa)).2 := hy.trans (lastF_snoc _ _)
          repeat (first | (apply G.ex (hd := rfl); case h => (first | exact Ex.move rfl | exact Ex.extract rfl rfl)))
          refine G.alloc rfl (fun yb => ?_)
          repeat (first | refine G.storeBA rfl rfl rfl rfl rfl ?_ | (apply G.ex (hd := rfl); case h => (first | exact Ex.move rfl | exact Ex.assign rfl | exact Ex.loadBA rfl rfl rfl | exact Ex.build rfl rfl)) | refine G.nil ?_ | refine GC.seq ?_ | refine GC.region ?_ | refine GE.then_normal ?_)
          refine G.lit (cells := flat eAcM [acN (mvA p q), acN (mvA q p), acN (lookA kd pa)]) rfl (by rfl) (by rfl) (by rfl) (by rfl) (by rfl) (by rfl) rfl (fun g6 => ?_)
          refine G.rdNone [acN (mvA p q), acN (mvA q p), acN (lookA kd pa)] (acN_none fun x hx => by simp only [List.mem_cons, List.not_mem_nil, or_false] at hx; rcases hx with hx | hx | hx <;> exact ⟨_, rfl, hx⟩) ?_
          first | refine G.call (caps := []) (lastSeen_sp (.vec 36 6 oa n oc (flat eAcM A)) (.vec 36 6 g6 3 3 (flat eAcM [acN (mvA p q), acN (mvA q p), acN (lookA kd pa)])) oa g6 n oc 3 3 A [acN (mvA p q), acN (mvA q p), acN (lookA kd pa)] hn rfl (by omega) (by omega) hAok (fun x hx => by simp only [List.mem_cons, List.not_mem_nil, or_false] at hx; rcases hx with hx | hx | hx <;> rw [hx] <;> first | exact okM | exact okB | exact okA)) rfl rfl rfl rfl (by repeat first | exact tn_ | apply td_ rfl | apply tc_ | exact .here | apply Take1.there) ?_ | refine G.callU (caps := []) (lastSeen_sp (.vec 36 6 oa n oc (flat eAcM A)) (.vec 36 6 g6 3 3 (flat eAcM [acN (mvA p q), acN (mvA q p), acN (lookA kd pa)])) oa g6 n oc 3 3 A [acN (mvA p q), acN (mvA q p), acN (lookA kd pa)] hn rfl (by omega) (by omega) hAok (fun x hx => by simp only [List.mem_cons, List.not_mem_nil, or_false] at hx; rcases hx with hx | hx | hx <;> rw [hx] <;> first | exact okM | exact okB | exact okA)) rfl rfl rfl (by repeat first | exact tn_ | apply td_ rfl | apply tc_ | exact .here | apply Take1.there) ?_
          rintro v_ give_ ⟨y2, hy2, rfl, rfl⟩ rs_ hrs_
          simp only [List.cons_append, List.nil_append] at hrs_
          subst hrs_
          replace hy2 : y2.s = (doF (doF (doF (ends newT (A.map (·.a))) (mvA p q)).1 (mvA q p)).1 (lookA kd pa)).2 := hy2.trans (lastF_three _ _ _ _)
          repeat (first | (apply G.ex (hd := rfl); case h => (first | exact Ex.move rfl | exact Ex.extract rfl rfl)))
          refine G.alloc rfl (fun yb2 => ?_)
          have s1 := small kT cT (lookA kd pa)
          have s2 := small st2.1 st2.2 (lookA kd pa)
          rw [← hy, ← hy2] at hsame
          rw [← hy] at s1
          rw [← hy2] at s2
          clear hy hy2
          repeat (first | refine G.storeBA rfl rfl rfl rfl rfl ?_ | (apply G.ex (hd := rfl); case h => (first | exact Ex.move rfl | exact Ex.assign rfl | exact Ex.notB rfl | exact Ex.loadBA rfl rfl rfl | exact Ex.pickLF rfl rfl)) | refine G.yes rfl rfl ?_ | refine G.nil ?_ | refine GC.seq ?_ | refine GC.region ?_ | refine GE.then_normal ?_)
          first | refine G.call (caps := []) (sameSeen_sp y y2 hsame.symm (by omega) (by omega)) rfl rfl rfl rfl (by repeat first | exact tn_ | apply td_ rfl | apply tc_ | exact .here | apply Take1.there) ?_ | refine G.callU (caps := []) (sameSeen_sp y y2 hsame.symm (by omega) (by omega)) rfl rfl rfl (by repeat first | exact tn_ | apply td_ rfl | apply tc_ | exact .here | apply Take1.there) ?_
          rintro v_ give_ ⟨rfl, rfl⟩ rs_ hrs_
          simp only [List.cons_append, List.nil_append] at hrs_
          subst hrs_
          repeat (first | (apply G.ex (hd := rfl); case h => (first | exact Ex.move rfl | exact Ex.add rfl rfl (by omega) | exact Ex.assign rfl | exact Ex.notB rfl | exact Ex.pickLF rfl rfl)) | refine G.yes rfl rfl ?_ | refine G.nil ?_ | refine GC.region ?_ | refine GC.skip ?_ | refine GE.then_normal ?_ | refine GE.block_normal ?_ | refine GC.cond_f rfl ?_)
          rw [show (i : Int) + 1 = ((i + 1 : Nat) : Int) by omega]
          refine GE.loop (i + 1) (by omega) (by omega) (by simp only [fits]; repeat (first | exact trivial | refine And.intro rfl ?_)) (by repeat first | exact tn_ | apply td_ rfl | apply tc_ | exact .here | apply Take1.there) (by repeat (first | exact Subs.refl | refine Subs.skip ?_))
      · repeat (first | (apply G.ex (hd := rfl); case h => (first | exact Ex.assign rfl)) | refine G.nil ?_ | refine GC.seq ?_ | refine GC.region ?_ | refine GC.ret ?_ | refine GC.exit ?_ | refine GE.then_normal ?_ | refine GE.then_exit ?_ | refine GE.block_hit ?_)
        refine GE.ret (by first | exact .inl rfl | exact .inr rfl) (res1 Tryd.results6 rfl) ⟨rfl, rfl⟩ (by repeat first | exact tn_ | apply td_ rfl | apply tc_ | exact .here | apply Take1.there) (by repeat (first | exact Subs.refl | refine Subs.skip ?_))
    · repeat (first | refine G.storeBA rfl rfl rfl rfl rfl ?_ | (apply G.ex (hd := rfl); case h => (first | exact Ex.move rfl | exact Ex.fieldB rfl | exact Ex.loadB rfl rfl | exact Ex.eqI rfl rfl | exact Ex.neI rfl rfl | exact Ex.assign rfl | exact Ex.notB rfl | exact Ex.pickLF rfl rfl)) | refine G.yes rfl rfl ?_ | refine G.nil ?_ | refine GC.seq ?_ | refine GC.region ?_ | refine GC.skip ?_ | refine GC.ret ?_ | refine GE.then_normal ?_ | refine GE.then_ret ?_ | refine GC.cond_yes rfl (by first | assumption | omega) ?_ | refine GC.cond_no rfl (by first | assumption | omega) ?_)
      refine GE.ret (by first | exact .inl rfl | exact .inr rfl) (res1 Tryd.results6 rfl) ⟨rfl, rfl⟩ (by repeat first | exact tn_ | apply td_ rfl | apply tc_ | exact .here | apply Take1.there) (by repeat (first | exact Subs.refl | refine Subs.skip ?_))
  · repeat (first | refine G.storeBA rfl rfl rfl rfl rfl ?_ | (apply G.ex (hd := rfl); case h => (first | exact Ex.move rfl | exact Ex.fieldB rfl | exact Ex.loadB rfl rfl | exact Ex.neI rfl rfl | exact Ex.assign rfl | exact Ex.notB rfl)) | refine G.nil ?_ | refine GC.seq ?_ | refine GC.region ?_ | refine GC.skip ?_ | refine GC.ret ?_ | refine GE.then_normal ?_ | refine GE.then_ret ?_ | refine GC.cond_yes rfl (by first | assumption | omega) ?_ | refine GC.cond_f rfl ?_)
    refine GE.ret (by first | exact .inl rfl | exact .inr rfl) (res1 Tryd.results6 rfl) ⟨rfl, rfl⟩ (by repeat first | exact tn_ | apply td_ rfl | apply tc_ | exact .here | apply Take1.there) (by repeat (first | exact Subs.refl | refine Subs.skip ?_))
end tree
end Go.Proofs.YtcfnbghhgogkcaaDoor
