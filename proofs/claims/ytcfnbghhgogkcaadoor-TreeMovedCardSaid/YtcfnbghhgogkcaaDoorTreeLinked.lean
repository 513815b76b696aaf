/-
  CONTRACT of packthreadkeep.TreeLinked, by the kit.
-/
import Derived.Test.YtcfnbghhgogkcaaDoorTreeV
namespace Go.Proofs.YtcfnbghhgogkcaaDoor
open Go.RowKit
attribute [local irreducible] Ex G GC GE Gq FPost LPost
set_option linter.unusedVariables false
set_option linter.unusedSimpArgs false
namespace tree
open path
theorem lastF_two (l : List Ac) (a b : Ac) : lastF (l ++ [a, b]) = (doF (doF (ends newT l) a).1 b).2 := by
  have e : ends newT (l ++ [a]) = (doF (ends newT l) a).1 := by rw [ends_app]; rfl
  rw [← e, ← lastF_snoc, List.append_assoc]; rfl
theorem lastF_three (l : List Ac) (a b c : Ac) : lastF (l ++ [a, b, c]) = (doF (doF (doF (ends newT l) a).1 b).1 c).2 := by
  have e : ends newT (l ++ [a]) = (doF (ends newT l) a).1 := by rw [ends_app]; rfl
  rw [← e, ← lastF_two, List.append_assoc]; rfl
theorem acN_none {l : List AcM} (h : ∀ x ∈ l, ∃ a : Ac, a.d = [] ∧ x = acN a) : ∀ x ∈ l, dA x = ⟨none, 0, 0, []⟩ := fun x hx => by
  obtain ⟨a, ha, rfl⟩ := h x hx
  show (⟨none, a.d.length, 0, a.d⟩ : SlD UInt8) = _
  rw [ha]; rfl
set_option maxHeartbeats 16000000 in
theorem treeLinked_sp (a0 : Option Addr) (len0 cap0 : Nat) (z0 : List JbM) (hl0 : z0.length = len0) (hb0 : len0 ≤ 9223372036854775807) (hw0 : ∀ m ∈ z0, JOk m) (a1 : Int) (ha1 : -9223372036854775808 ≤ a1 ∧ a1 ≤ 9223372036854775807) (a2 : Int) (ha2 : -9223372036854775808 ≤ a2 ∧ a2 ≤ 9223372036854775807) :
    Spec Tryd.prog 7 [.slice a0 len0 cap0, .int .i64 a1, .int .i64 a2] [.sl a0 len0 cap0 4 (flat eJb z0), .per (Rd eB 1 (z0.map (·.d)))] fun v give => v = .bool true ∧ give = [] := by
  have hwp := pathF_walk a1
  have hpl := pathF_len a1
  have hnl := namesK_len a1
  have hp1 : 1 ≤ (pathF a1).length := by
    unfold pathF; rw [pathK_len]; omega
  have hk0 := Int.emod_nonneg a2 (show (3 : Int) ≠ 0 by decide)
  have hk1 := Int.emod_lt_of_pos a2 (show (0 : Int) < 3 by decide)
  obtain ⟨K, hK⟩ : ∃ K : Nat, a2 % 3 = (K : Int) := ⟨(a2 % 3).toNat, by omega⟩
  have hK3 : K < 3 := by omega
  refine Spec.intro Tryd.func7 rfl Tryd.ntmps7 rfl fun w0 rest rs_ hrs_ => ?_
  simp only [List.cons_append, List.nil_append] at hrs_
  subst hrs_
  repeat (first | (apply G.ex (hd := rfl); case h => (first | exact Ex.move rfl | exact Ex.assign rfl)) | refine G.nil ?_ | refine GC.seq ?_ | refine GC.region ?_ | refine GE.then_normal ?_)
  first | refine G.call (caps := []) (acts_sp a0 len0 cap0 z0 hl0 hb0 hw0 60 (by decide)) rfl rfl rfl rfl (by repeat first | exact tn_ | apply td_ rfl | apply tc_ | exact .here | apply Take1.there) ?_ | refine G.callU (caps := []) (acts_sp a0 len0 cap0 z0 hl0 hb0 hw0 60 (by decide)) rfl rfl rfl (by repeat first | exact tn_ | apply td_ rfl | apply tc_ | exact .here | apply Take1.there) ?_
  rintro v_ give_ ⟨A, oa, oc, hA, rfl, rfl⟩ rs_ hrs_
  simp only [List.cons_append, List.nil_append] at hrs_
  subst hrs_
  have hAok := acts_ok hA
  have hAl : A.length ≤ 60 := by have := congrArg List.length hA; rw [List.length_map, List.length_map, List.length_take] at this; omega
  obtain ⟨kT, cT⟩ := ends_ok (A.map (·.a)) TrOk.new Cnt.new
  have hAb : Abcd (ends newT (A.map (·.a))) := by rw [hA]; exact Abcd.ends _ Abcd.new
  generalize hn : A.length = n at hAl ⊢
  repeat (first | (apply G.ex (hd := rfl); case h => (first | exact Ex.move rfl | exact Ex.assign rfl)) | refine G.nil ?_ | refine GC.seq ?_ | refine GC.region ?_ | refine GE.then_normal ?_)
  first | refine G.call (caps := []) (pathBy_sp a1 ha1) rfl rfl rfl rfl (by repeat first | exact tn_ | apply td_ rfl | apply tc_ | exact .here | apply Take1.there) ?_ | refine G.callU (caps := []) (pathBy_sp a1 ha1) rfl rfl rfl (by repeat first | exact tn_ | apply td_ rfl | apply tc_ | exact .here | apply Take1.there) ?_
  rintro v_ give_ ⟨rfl, rfl⟩ rs_ hrs_
  simp only [List.cons_append, List.nil_append] at hrs_
  subst hrs_
  repeat (first | (apply G.ex (hd := rfl); case h => (first | exact Ex.assign rfl)) | refine G.nil ?_ | refine GC.seq ?_ | refine GC.region ?_ | refine GE.then_normal ?_)
  refine G.lit (cells := flat (eI .i64) [7, 6, 4]) rfl (by rfl) (by rfl) (by rfl) (by rfl) (by rfl) (by rfl) rfl (fun y => ?_)
  repeat (first | (apply G.ex (hd := rfl); case h => (first | exact Ex.move rfl)))
  first | refine G.call (caps := []) (picked_sp a2 3 (by decide) (by decide)) rfl rfl rfl rfl (by repeat first | exact tn_ | apply td_ rfl | apply tc_ | exact .here | apply Take1.there) ?_ | refine G.callU (caps := []) (picked_sp a2 3 (by decide) (by decide)) rfl rfl rfl (by repeat first | exact tn_ | apply td_ rfl | apply tc_ | exact .here | apply Take1.there) ?_
  rintro v_ give_ ⟨rfl, rfl⟩ rs_ hrs_
  simp only [List.cons_append, List.nil_append] at hrs_
  subst hrs_
  rw [hK]
  generalize pathF a1 = p at *
  generalize namesK a1 = ns at *
  have hkd : ∀ kd, kd = ([7, 6, 4] : List Int).getD K default → 3 ≤ kd ∧ kd ≤ 7 := by
    rintro _ rfl
    match K, hK3 with
    | 0, _ => exact ⟨by decide, by decide⟩
    | 1, _ => exact ⟨by decide, by decide⟩
    | 2, _ => exact ⟨by decide, by decide⟩
  obtain ⟨L, hL⟩ : ∃ L : List Int, L = [7, 6, 4] := ⟨_, rfl⟩
  have hLl : L.length = 3 := by rw [hL]; rfl
  rw [← hL] at hkd ⊢
  repeat (first | (apply G.ex (hd := rfl); case h => (first | exact Ex.move rfl | exact Ex.indexN rfl rfl (by first | omega | (simp; done) | (simp; omega)) | exact Ex.loadT0 rfl (by first | omega | (simp; done) | (simp; omega)) rfl | exact Ex.build rfl rfl)))
  obtain ⟨kd, hkd'⟩ : ∃ kd, kd = L.getD K default := ⟨_, rfl⟩
  rw [← hkd']
  replace hkd := hkd kd hkd'
  refine G.alloc rfl (fun lb => ?_)
  repeat (first | refine G.storeBA rfl rfl rfl rfl rfl ?_ | (apply G.ex (hd := rfl); case h => (first | exact Ex.loadBA rfl rfl rfl)) | refine G.nil ?_ | refine GC.seq ?_ | refine GC.region ?_ | refine GE.then_normal ?_)
  refine G.alloc rfl (fun bb => ?_)
  repeat (first | refine G.storeB rfl rfl rfl rfl rfl ?_ | refine G.storeBA rfl rfl rfl rfl rfl ?_ | (apply G.ex (hd := rfl); case h => (first | exact Ex.move rfl | exact Ex.fieldB rfl | exact Ex.build rfl rfl)) | refine G.nil ?_ | refine GC.seq ?_ | refine GC.region ?_ | refine GE.then_normal ?_)
  refine G.alloc rfl (fun kb => ?_)
  have hlaw := link_law kT hAb ⟨hp1, by omega⟩ hwp (by omega) kd hkd
  have okL : AcOk (linkA p) := ⟨show 3 ≤ 1000000 by omega, show p.length ≤ 1000000 by omega, Nat.zero_le _⟩
  have okR : AcOk (rmA (47 :: zz)) := ⟨show 3 ≤ 1000000 by omega, Nat.zero_le _, Nat.zero_le _⟩
  have okP : AcOk (lookA kd p) := ⟨show p.length ≤ 1000000 by omega, Nat.zero_le _, Nat.zero_le _⟩
  have okZ : AcOk (lookA kd (47 :: zz)) := ⟨show 3 ≤ 1000000 by omega, Nat.zero_le _, Nat.zero_le _⟩
  have st1 := kT.do_ cT (linkA p)
  have st2 := st1.1.do_ st1.2 (rmA (47 :: zz))
  repeat (first | refine G.storeBA rfl rfl rfl rfl rfl ?_ | (apply G.ex (hd := rfl); case h => (first | exact Ex.move rfl | exact Ex.loadBA rfl rfl rfl)) | refine G.nil ?_ | refine GC.seq ?_ | refine GC.region ?_ | refine GE.then_normal ?_)
  refine G.lit (cells := flat eAcM [acN (linkA p)]) rfl (by rfl) (by rfl) (by rfl) (by rfl) (by rfl) (by rfl) rfl (fun g => ?_)
  refine G.rdNone [acN (linkA p)] (acN_none fun x hx => by simp only [List.mem_cons, List.not_mem_nil, or_false] at hx; exact ⟨_, rfl, hx⟩) ?_
  first | refine G.call (caps := []) (lastSeen_sp (.vec 36 6 oa n oc (flat eAcM A)) (.vec 36 6 g 1 1 (flat eAcM [acN (linkA p)])) oa g n oc 1 1 A [acN (linkA p)] hn rfl (by omega) (by omega) hAok (fun x hx => by rw [List.mem_singleton] at hx; rw [hx]; exact okL)) rfl rfl rfl rfl (by repeat first | exact tn_ | apply td_ rfl | apply tc_ | exact .here | apply Take1.there) ?_ | refine G.callU (caps := []) (lastSeen_sp (.vec 36 6 oa n oc (flat eAcM A)) (.vec 36 6 g 1 1 (flat eAcM [acN (linkA p)])) oa g n oc 1 1 A [acN (linkA p)] hn rfl (by omega) (by omega) hAok (fun x hx => by rw [List.mem_singleton] at hx; rw [hx]; exact okL)) rfl rfl rfl (by repeat first | exact tn_ | apply td_ rfl | apply tc_ | exact .here | apply Take1.there) ?_
  rintro v_ give_ ⟨x, hx, rfl, rfl⟩ rs_ hrs_
  simp only [List.cons_append, List.nil_append] at hrs_
  subst hrs_
  replace hx : x.s = (doF (ends newT (A.map (·.a))) (linkA p)).2 := hx.trans (lastF_snoc _ _)
  repeat (first | (apply G.ex (hd := rfl); case h => (first | exact Ex.move rfl | exact Ex.extract rfl rfl)))
  refine G.alloc rfl (fun xb => ?_)
  repeat (first | refine G.storeBA rfl rfl rfl rfl rfl ?_ | (apply G.ex (hd := rfl); case h => (first | exact Ex.move rfl | exact Ex.assign rfl | exact Ex.loadBA rfl rfl rfl)) | refine G.nil ?_ | refine GC.seq ?_ | refine GC.region ?_ | refine GE.then_normal ?_)
  refine G.lit (cells := flat eAcM [acN (linkA p), acN (lookA kd p)]) rfl (by rfl) (by rfl) (by rfl) (by rfl) (by rfl) (by rfl) rfl (fun g2 => ?_)
  refine G.rdNone [acN (linkA p), acN (lookA kd p)] (acN_none fun x hx => by simp only [List.mem_cons, List.not_mem_nil, or_false] at hx; rcases hx with hx | hx <;> exact ⟨_, rfl, hx⟩) ?_
  first | refine G.call (caps := []) (lastSeen_sp (.vec 36 6 oa n oc (flat eAcM A)) (.vec 36 6 g2 2 2 (flat eAcM [acN (linkA p), acN (lookA kd p)])) oa g2 n oc 2 2 A [acN (linkA p), acN (lookA kd p)] hn rfl (by omega) (by omega) hAok (fun x hx => by simp only [List.mem_cons, List.not_mem_nil, or_false] at hx; rcases hx with hx | hx <;> rw [hx] <;> first | exact okL | exact okP)) rfl rfl rfl rfl (by repeat first | exact tn_ | apply td_ rfl | apply tc_ | exact .here | apply Take1.there) ?_ | refine G.callU (caps := []) (lastSeen_sp (.vec 36 6 oa n oc (flat eAcM A)) (.vec 36 6 g2 2 2 (flat eAcM [acN (linkA p), acN (lookA kd p)])) oa g2 n oc 2 2 A [acN (linkA p), acN (lookA kd p)] hn rfl (by omega) (by omega) hAok (fun x hx => by simp only [List.mem_cons, List.not_mem_nil, or_false] at hx; rcases hx with hx | hx <;> rw [hx] <;> first | exact okL | exact okP)) rfl rfl rfl (by repeat first | exact tn_ | apply td_ rfl | apply tc_ | exact .here | apply Take1.there) ?_
  rintro v_ give_ ⟨x2, hx2, rfl, rfl⟩ rs_ hrs_
  simp only [List.cons_append, List.nil_append] at hrs_
  subst hrs_
  replace hx2 : x2.s = (doF (doF (ends newT (A.map (·.a))) (linkA p)).1 (lookA kd p)).2 := hx2.trans (lastF_two _ _ _)
  repeat (first | (apply G.ex (hd := rfl); case h => (first | exact Ex.move rfl | exact Ex.extract rfl rfl)))
  refine G.alloc rfl (fun xb2 => ?_)
  repeat (first | refine G.storeBA rfl rfl rfl rfl rfl ?_ | (apply G.ex (hd := rfl); case h => (first | exact Ex.move rfl | exact Ex.assign rfl | exact Ex.loadBA rfl rfl rfl)) | refine G.nil ?_ | refine GC.seq ?_ | refine GC.region ?_ | refine GE.then_normal ?_)
  refine G.lit (cells := flat eAcM [acN (linkA p), acN (lookA kd (47 :: zz))]) rfl (by rfl) (by rfl) (by rfl) (by rfl) (by rfl) (by rfl) rfl (fun g3 => ?_)
  refine G.rdNone [acN (linkA p), acN (lookA kd (47 :: zz))] (acN_none fun x hx => by simp only [List.mem_cons, List.not_mem_nil, or_false] at hx; rcases hx with hx | hx <;> exact ⟨_, rfl, hx⟩) ?_
  first | refine G.call (caps := []) (lastSeen_sp (.vec 36 6 oa n oc (flat eAcM A)) (.vec 36 6 g3 2 2 (flat eAcM [acN (linkA p), acN (lookA kd (47 :: zz))])) oa g3 n oc 2 2 A [acN (linkA p), acN (lookA kd (47 :: zz))] hn rfl (by omega) (by omega) hAok (fun x hx => by simp only [List.mem_cons, List.not_mem_nil, or_false] at hx; rcases hx with hx | hx <;> rw [hx] <;> first | exact okL | exact okZ)) rfl rfl rfl rfl (by repeat first | exact tn_ | apply td_ rfl | apply tc_ | exact .here | apply Take1.there) ?_ | refine G.callU (caps := []) (lastSeen_sp (.vec 36 6 oa n oc (flat eAcM A)) (.vec 36 6 g3 2 2 (flat eAcM [acN (linkA p), acN (lookA kd (47 :: zz))])) oa g3 n oc 2 2 A [acN (linkA p), acN (lookA kd (47 :: zz))] hn rfl (by omega) (by omega) hAok (fun x hx => by simp only [List.mem_cons, List.not_mem_nil, or_false] at hx; rcases hx with hx | hx <;> rw [hx] <;> first | exact okL | exact okZ)) rfl rfl rfl (by repeat first | exact tn_ | apply td_ rfl | apply tc_ | exact .here | apply Take1.there) ?_
  rintro v_ give_ ⟨x3, hx3, rfl, rfl⟩ rs_ hrs_
  simp only [List.cons_append, List.nil_append] at hrs_
  subst hrs_
  replace hx3 : x3.s = (doF (doF (ends newT (A.map (·.a))) (linkA p)).1 (lookA kd (47 :: zz))).2 := hx3.trans (lastF_two _ _ _)
  repeat (first | (apply G.ex (hd := rfl); case h => (first | exact Ex.move rfl | exact Ex.extract rfl rfl)))
  refine G.alloc rfl (fun xb3 => ?_)
  repeat (first | refine G.storeBA rfl rfl rfl rfl rfl ?_ | (apply G.ex (hd := rfl); case h => (first | exact Ex.move rfl | exact Ex.assign rfl | exact Ex.loadBA rfl rfl rfl | exact Ex.build rfl rfl)) | refine G.nil ?_ | refine GC.seq ?_ | refine GC.region ?_ | refine GE.then_normal ?_)
  refine G.lit (cells := flat eAcM [acN (linkA p), acN (rmA (47 :: zz)), acN (lookA kd p)]) rfl (by rfl) (by rfl) (by rfl) (by rfl) (by rfl) (by rfl) rfl (fun g4 => ?_)
  refine G.rdNone [acN (linkA p), acN (rmA (47 :: zz)), acN (lookA kd p)] (acN_none fun x hx => by simp only [List.mem_cons, List.not_mem_nil, or_false] at hx; rcases hx with hx | hx | hx <;> exact ⟨_, rfl, hx⟩) ?_
  first | refine G.call (caps := []) (lastSeen_sp (.vec 36 6 oa n oc (flat eAcM A)) (.vec 36 6 g4 3 3 (flat eAcM [acN (linkA p), acN (rmA (47 :: zz)), acN (lookA kd p)])) oa g4 n oc 3 3 A [acN (linkA p), acN (rmA (47 :: zz)), acN (lookA kd p)] hn rfl (by omega) (by omega) hAok (fun x hx => by simp only [List.mem_cons, List.not_mem_nil, or_false] at hx; rcases hx with hx | hx | hx <;> rw [hx] <;> first | exact okL | exact okR | exact okP)) rfl rfl rfl rfl (by repeat first | exact tn_ | apply td_ rfl | apply tc_ | exact .here | apply Take1.there) ?_ | refine G.callU (caps := []) (lastSeen_sp (.vec 36 6 oa n oc (flat eAcM A)) (.vec 36 6 g4 3 3 (flat eAcM [acN (linkA p), acN (rmA (47 :: zz)), acN (lookA kd p)])) oa g4 n oc 3 3 A [acN (linkA p), acN (rmA (47 :: zz)), acN (lookA kd p)] hn rfl (by omega) (by omega) hAok (fun x hx => by simp only [List.mem_cons, List.not_mem_nil, or_false] at hx; rcases hx with hx | hx | hx <;> rw [hx] <;> first | exact okL | exact okR | exact okP)) rfl rfl rfl (by repeat first | exact tn_ | apply td_ rfl | apply tc_ | exact .here | apply Take1.there) ?_
  rintro v_ give_ ⟨x4, hx4, rfl, rfl⟩ rs_ hrs_
  simp only [List.cons_append, List.nil_append] at hrs_
  subst hrs_
  replace hx4 : x4.s = (doF (doF (doF (ends newT (A.map (·.a))) (linkA p)).1 (rmA (47 :: zz))).1 (lookA kd p)).2 := hx4.trans (lastF_three _ _ _ _)
  repeat (first | (apply G.ex (hd := rfl); case h => (first | exact Ex.move rfl | exact Ex.extract rfl rfl)))
  refine G.alloc rfl (fun xb4 => ?_)
  repeat (first | refine G.storeBA rfl rfl rfl rfl rfl ?_ | (apply G.ex (hd := rfl); case h => (first | exact Ex.move rfl | exact Ex.assign rfl | exact Ex.loadBA rfl rfl rfl)) | refine G.nil ?_ | refine GC.seq ?_ | refine GC.region ?_ | refine GE.then_normal ?_)
  refine G.lit (cells := flat eAcM [acN (lookA kd p)]) rfl (by rfl) (by rfl) (by rfl) (by rfl) (by rfl) (by rfl) rfl (fun g5 => ?_)
  refine G.rdNone [acN (lookA kd p)] (acN_none fun x hx => by simp only [List.mem_cons, List.not_mem_nil, or_false] at hx; exact ⟨_, rfl, hx⟩) ?_
  first | refine G.call (caps := []) (lastSeen_sp (.vec 36 6 oa n oc (flat eAcM A)) (.vec 36 6 g5 1 1 (flat eAcM [acN (lookA kd p)])) oa g5 n oc 1 1 A [acN (lookA kd p)] hn rfl (by omega) (by omega) hAok (fun x hx => by rw [List.mem_singleton] at hx; rw [hx]; exact okP)) rfl rfl rfl rfl (by repeat first | exact tn_ | apply td_ rfl | apply tc_ | exact .here | apply Take1.there) ?_ | refine G.callU (caps := []) (lastSeen_sp (.vec 36 6 oa n oc (flat eAcM A)) (.vec 36 6 g5 1 1 (flat eAcM [acN (lookA kd p)])) oa g5 n oc 1 1 A [acN (lookA kd p)] hn rfl (by omega) (by omega) hAok (fun x hx => by rw [List.mem_singleton] at hx; rw [hx]; exact okP)) rfl rfl rfl (by repeat first | exact tn_ | apply td_ rfl | apply tc_ | exact .here | apply Take1.there) ?_
  rintro v_ give_ ⟨x5, hx5, rfl, rfl⟩ rs_ hrs_
  simp only [List.cons_append, List.nil_append] at hrs_
  subst hrs_
  replace hx5 : x5.s = (doF (ends newT (A.map (·.a))) (lookA kd p)).2 := hx5.trans (lastF_snoc _ _)
  repeat (first | (apply G.ex (hd := rfl); case h => (first | exact Ex.move rfl | exact Ex.extract rfl rfl)))
  refine G.alloc rfl (fun xb5 => ?_)
  have s2 := small st1.1 st1.2 (lookA kd p)
  have s3 := small st1.1 st1.2 (lookA kd (47 :: zz))
  have s4 := small st2.1 st2.2 (lookA kd p)
  have s5 := small kT cT (lookA kd p)
  rw [← hx, ← hx2, ← hx3, ← hx4, ← hx5] at hlaw
  rw [← hx2] at s2
  rw [← hx3] at s3
  rw [← hx4] at s4
  rw [← hx5] at s5
  clear hx hx2 hx3 hx4 hx5
  rcases hlaw with h9 | ⟨h0, l1, l2, l3⟩
  · have hc : ¬ x.s.code = 0 := by omega
    repeat (first | refine G.storeBA rfl rfl rfl rfl rfl ?_ | (apply G.ex (hd := rfl); case h => (first | exact Ex.move rfl | exact Ex.fieldB rfl | exact Ex.loadB rfl rfl | exact Ex.eqI rfl rfl | exact Ex.neI rfl rfl | exact Ex.assign rfl | exact Ex.notB rfl | exact Ex.pickLF rfl rfl)) | refine G.yes rfl rfl ?_ | refine G.nil ?_ | refine GC.seq ?_ | refine GC.region ?_ | refine GC.skip ?_ | refine GC.ret ?_ | refine GE.then_normal ?_ | refine GE.then_ret ?_ | refine GC.cond_yes rfl (by first | assumption | omega) ?_ | refine GC.cond_f rfl ?_)
    rw [h9]
    repeat (first | fail)
    refine GE.ret (by first | exact .inl rfl | exact .inr rfl) (res1 Tryd.results7 rfl) ⟨rfl, rfl⟩ (by repeat first | exact tn_ | apply td_ rfl | apply tc_ | exact .here | apply Take1.there) (by repeat (first | exact Subs.refl | refine Subs.skip ?_))
  · by_cases c2 : x2.s.code = 13
    · have c3 := l1 (.inl c2)
      repeat (first | refine G.storeBA rfl rfl rfl rfl rfl ?_ | (apply G.ex (hd := rfl); case h => (first | exact Ex.move rfl | exact Ex.fieldB rfl | exact Ex.loadB rfl rfl | exact Ex.eqI rfl rfl | exact Ex.neI rfl rfl | exact Ex.assign rfl | exact Ex.notB rfl | exact Ex.pickT rfl (by first | assumption | omega) rfl | exact Ex.pickLF rfl rfl)) | refine G.g_ft rfl rfl (by first | assumption | omega) rfl ?_ | refine G.yes rfl rfl ?_ | refine G.nil ?_ | refine GC.seq ?_ | refine GC.region ?_ | refine GC.skip ?_ | refine GC.ret ?_ | refine GE.then_normal ?_ | refine GE.then_ret ?_ | refine GC.cond_no rfl (by first | assumption | omega) ?_ | refine GC.cond_t rfl ?_ | refine GC.cond_f rfl ?_)
      refine GE.ret (by first | exact .inl rfl | exact .inr rfl) (res1 Tryd.results7 rfl) ⟨congrArg Value.bool (decide_eq_true c3), rfl⟩ (by repeat first | exact tn_ | apply td_ rfl | apply tc_ | exact .here | apply Take1.there) (by repeat (first | exact Subs.refl | refine Subs.skip ?_))
    · by_cases c3 : x3.s.code = 13
      · repeat (first | refine G.storeBA rfl rfl rfl rfl rfl ?_ | (apply G.ex (hd := rfl); case h => (first | exact Ex.move rfl | exact Ex.fieldB rfl | exact Ex.loadB rfl rfl | exact Ex.eqI rfl rfl | exact Ex.neI rfl rfl | exact Ex.assign rfl | exact Ex.notB rfl | exact Ex.pickF rfl (by first | assumption | omega) rfl | exact Ex.pickLF rfl rfl)) | refine G.g_ff rfl rfl (by first | assumption | omega) ?_ | refine G.yes rfl rfl ?_ | refine G.nil ?_ | refine GC.seq ?_ | refine GC.region ?_ | refine GC.skip ?_ | refine GC.ret ?_ | refine GE.then_normal ?_ | refine GE.then_ret ?_ | refine GC.cond_yes rfl (by first | assumption | omega) ?_ | refine GC.cond_no rfl (by first | assumption | omega) ?_ | refine GC.cond_f rfl ?_)
        refine GE.ret (by first | exact .inl rfl | exact .inr rfl) (res1 Tryd.results7 rfl) ⟨congrArg Value.bool (decide_eq_true c3), rfl⟩ (by repeat first | exact tn_ | apply td_ rfl | apply tc_ | exact .here | apply Take1.there) (by repeat (first | exact Subs.refl | refine Subs.skip ?_))
      · replace l2 := l2 c3
        repeat (first | refine G.storeBA rfl rfl rfl rfl rfl ?_ | (apply G.ex (hd := rfl); case h => (first | exact Ex.move rfl | exact Ex.fieldB rfl | exact Ex.loadB rfl rfl | exact Ex.eqI rfl rfl | exact Ex.neI rfl rfl | exact Ex.assign rfl | exact Ex.notB rfl | exact Ex.pickF rfl (by first | assumption | omega) rfl | exact Ex.loadBA rfl rfl rfl | exact Ex.pickLF rfl rfl)) | refine G.g_ff rfl rfl (by first | assumption | omega) ?_ | refine G.yes rfl rfl ?_ | refine G.nil ?_ | refine GC.seq ?_ | refine GC.region ?_ | refine GC.skip ?_ | refine GE.then_normal ?_ | refine GC.cond_no rfl (by first | assumption | omega) ?_ | refine GC.cond_f rfl ?_)
        first | refine G.call (caps := []) (sameSeen_sp x2 x3 l2 (by omega) (by omega)) rfl rfl rfl rfl (by repeat first | exact tn_ | apply td_ rfl | apply tc_ | exact .here | apply Take1.there) ?_ | refine G.callU (caps := []) (sameSeen_sp x2 x3 l2 (by omega) (by omega)) rfl rfl rfl (by repeat first | exact tn_ | apply td_ rfl | apply tc_ | exact .here | apply Take1.there) ?_
        rintro v_ give_ ⟨rfl, rfl⟩ rs_ hrs_
        simp only [List.cons_append, List.nil_append] at hrs_
        subst hrs_
        repeat (first | (apply G.ex (hd := rfl); case h => (first | exact Ex.move rfl | exact Ex.loadBA rfl rfl rfl)) | refine G.yes rfl rfl ?_)
        first | refine G.call (caps := []) (sameSeen_sp x4 x5 l3 (by omega) (by omega)) rfl rfl rfl rfl (by repeat first | exact tn_ | apply td_ rfl | apply tc_ | exact .here | apply Take1.there) ?_ | refine G.callU (caps := []) (sameSeen_sp x4 x5 l3 (by omega) (by omega)) rfl rfl rfl (by repeat first | exact tn_ | apply td_ rfl | apply tc_ | exact .here | apply Take1.there) ?_
        rintro v_ give_ ⟨rfl, rfl⟩ rs_ hrs_
        simp only [List.cons_append, List.nil_append] at hrs_
        subst hrs_
        repeat (first | (apply G.ex (hd := rfl); case h => (first | exact Ex.assign rfl | exact Ex.pickLT rfl rfl)) | refine G.nil ?_ | refine GC.ret ?_ | refine GE.then_normal ?_)
        refine GE.ret (by first | exact .inl rfl | exact .inr rfl) (res1 Tryd.results7 rfl) ⟨rfl, rfl⟩ (by repeat first | exact tn_ | apply td_ rfl | apply tc_ | exact .here | apply Take1.there) (by repeat (first | exact Subs.refl | refine Subs.skip ?_))
end tree
end Go.Proofs.YtcfnbghhgogkcaaDoor
