/-
  CONTRACT of packthreadkeep.TreeHas, by the kit.
-/
import Derived.Test.YtcfnbghhgogkcaaDoorTreeN4
namespace Go.Proofs.YtcfnbghhgogkcaaDoor
open Go.RowKit
attribute [local irreducible] Ex G GC GE Gq FPost LPost
set_option linter.unusedVariables false
set_option linter.unusedSimpArgs false
namespace tree
open path
theorem get3 {α : Type} (X Y Z : List α) (j : Nat) : (X ++ Y ++ Z)[j]? = if j < X.length then X[j]? else if j < X.length + Y.length then Y[j - X.length]? else Z[j - (X.length + Y.length)]? := by
  rw [List.getElem?_append, List.length_append, List.getElem?_append]
  split
  · split
    · rfl
    · rfl
  · rw [if_neg (by omega)]
theorem lay_set (b d : List UInt8) (k i : Nat) (hi : i < d.length) (hk : k + d.length ≤ b.length) : (lay b (d.take i) k).set (k + i) (d.getD i default) = lay b (d.take (i + 1)) k := by
  apply List.ext_getElem?
  intro j
  have hl : (d.take i).length = i := by rw [List.length_take]; omega
  have hl' : (d.take (i + 1)).length = i + 1 := by rw [List.length_take]; omega
  have hb1 : (b.take k).length = k := by rw [List.length_take]; omega
  have hL := lay_len b (d.take i) k (by omega)
  rw [List.getElem?_set, hL]
  unfold lay
  rw [get3, get3, hl, hl', hb1]
  by_cases e : k + i = j
  · subst e
    rw [if_pos rfl, if_pos (by omega), if_neg (by omega), if_pos (by omega), Nat.add_sub_cancel_left, List.getElem?_take_of_lt (by omega), List.getD_eq_getElem?_getD, List.getElem?_eq_getElem hi]; rfl
  · rw [if_neg e]
    by_cases h1 : j < k
    · rw [if_pos h1, if_pos h1]
    · rw [if_neg h1, if_neg h1]
      by_cases h2 : j < k + i
      · rw [if_pos h2, if_pos (by omega), List.getElem?_take_of_lt (by omega), List.getElem?_take_of_lt (by omega)]
      · rw [if_neg h2, if_neg (by omega), List.getElem?_drop, List.getElem?_drop]
        congr 1; omega
set_option maxHeartbeats 16000000 in
theorem treeHas_sp (a0 : Option Addr) (len0 cap0 : Nat) (z0 : List JbM) (hl0 : z0.length = len0) (hb0 : len0 ≤ 9223372036854775807) (hw0 : ∀ m ∈ z0, JOk m) (a1 : Int) (ha1 : -9223372036854775808 ≤ a1 ∧ a1 ≤ 9223372036854775807) (a2 : Int) (ha2 : -9223372036854775808 ≤ a2 ∧ a2 ≤ 9223372036854775807) (a3 : Option Addr) (len3 cap3 : Nat) (z3 : List UInt8) (hl3 : z3.length = len3) (hb3 : len3 ≤ 9223372036854775807) :
    Spec Tryd.prog 3 [.slice a0 len0 cap0, .int .i64 a1, .int .i64 a2, .slice a3 len3 cap3] [.sl a0 len0 cap0 4 (flat eJb z0), .per (Rd eB 1 (z0.map (·.d))), .sl a3 len3 cap3 1 (flat eB z3)] fun v give => v = .bool true ∧ give = [] := by
  have hwp := pathF_walk a1
  have hpl := pathF_len a1
  have hk0 := Int.emod_nonneg a2 (show (60 : Int) ≠ 0 by decide)
  have hk1 := Int.emod_lt_of_pos a2 (show (0 : Int) < 60 by decide)
  obtain ⟨K, hK⟩ : ∃ K : Nat, a2 % 60 = (K : Int) := ⟨(a2 % 60).toNat, by omega⟩
  obtain ⟨D, hD⟩ : ∃ D, D = z3.take 40 ++ [7] := ⟨_, rfl⟩
  have hDl : min len3 40 + 1 = D.length := by rw [hD, List.length_append, List.length_take]; simp only [List.length_singleton]; omega
  have hcat : flat eB (z3.take 40) ++ flat eB [7] = flat eB D := by rw [hD]; exact (flat_append ..).symm
  refine Spec.intro Tryd.func3 rfl Tryd.ntmps3 rfl fun w0 rest rs_ hrs_ => ?_
  simp only [List.cons_append, List.nil_append] at hrs_
  subst hrs_
  repeat (first | (apply G.ex (hd := rfl); case h => (first | exact Ex.move rfl | exact Ex.assign rfl)) | refine G.nil ?_ | refine GC.seq ?_ | refine GC.region ?_ | refine GE.then_normal ?_)
  first | refine G.call (caps := []) (acts_sp a0 len0 cap0 z0 hl0 hb0 hw0 60 (by decide)) rfl rfl rfl rfl (by repeat first | exact tn_ | apply td_ rfl | apply tc_ | exact .here | apply Take1.there) ?_ | refine G.callU (caps := []) (acts_sp a0 len0 cap0 z0 hl0 hb0 hw0 60 (by decide)) rfl rfl rfl (by repeat first | exact tn_ | apply td_ rfl | apply tc_ | exact .here | apply Take1.there) ?_
  rintro v_ give_ ⟨A, oa, oc, hA, rfl, rfl⟩ rs_ hrs_
  simp only [List.cons_append, List.nil_append] at hrs_
  subst hrs_
  have hAok := acts_ok hA
  have hAl : A.length ≤ 60 := by have := congrArg List.length hA; rw [List.length_map, List.length_map, List.length_take] at this; omega
  obtain ⟨kT, cT⟩ := ends_ok (A.map (·.a)) TrOk.new Cnt.new
  generalize hn : A.length = n at hAl ⊢
  repeat (first | (apply G.ex (hd := rfl); case h => (first | exact Ex.move rfl | exact Ex.assign rfl)) | refine G.nil ?_ | refine GC.seq ?_ | refine GC.region ?_ | refine GE.then_normal ?_)
  first | refine G.call (caps := []) (pathBy_sp a1 ha1) rfl rfl rfl rfl (by repeat first | exact tn_ | apply td_ rfl | apply tc_ | exact .here | apply Take1.there) ?_ | refine G.callU (caps := []) (pathBy_sp a1 ha1) rfl rfl rfl (by repeat first | exact tn_ | apply td_ rfl | apply tc_ | exact .here | apply Take1.there) ?_
  rintro v_ give_ ⟨rfl, rfl⟩ rs_ hrs_
  simp only [List.cons_append, List.nil_append] at hrs_
  subst hrs_
  repeat (first | (apply G.ex (hd := rfl); case h => (first | exact Ex.move rfl | exact Ex.assign rfl)) | refine G.nil ?_ | refine GC.seq ?_ | refine GC.region ?_ | refine GE.then_normal ?_)
  first | refine G.call (caps := []) (octets_sp a3 len3 cap3 z3 hl3 hb3 40 (by decide)) rfl rfl rfl rfl (by repeat first | exact tn_ | apply td_ rfl | apply tc_ | exact .here | apply Take1.there) ?_ | refine G.callU (caps := []) (octets_sp a3 len3 cap3 z3 hl3 hb3 40 (by decide)) rfl rfl rfl (by repeat first | exact tn_ | apply td_ rfl | apply tc_ | exact .here | apply Take1.there) ?_
  rintro v_ give_ ⟨ea, ec, rfl, rfl⟩ rs_ hrs_
  simp only [List.cons_append, List.nil_append] at hrs_
  subst hrs_
  refine G.lit (cells := flat eB [7]) rfl (by rfl) (by rfl) (by rfl) (by rfl) (by rfl) (by rfl) rfl (fun y => ?_)
  refine G.app rfl rfl (by rfl) (by omega) rfl (hcat) (fun da dc rs_ hrs_ => ?_)
  try simp only at hrs_
  subst hrs_
  rw [hDl]
  refine G.frz da ?_
  repeat (first | (apply G.ex (hd := rfl); case h => (first | exact Ex.move rfl | exact Ex.assign rfl)) | refine G.nil ?_ | refine GC.seq ?_ | refine GC.region ?_ | refine GE.then_normal ?_)
  first | refine G.call (caps := []) (picked_sp a2 60 (by decide) (by decide)) rfl rfl rfl rfl (by repeat first | exact tn_ | apply td_ rfl | apply tc_ | exact .here | apply Take1.there) ?_ | refine G.callU (caps := []) (picked_sp a2 60 (by decide) (by decide)) rfl rfl rfl (by repeat first | exact tn_ | apply td_ rfl | apply tc_ | exact .here | apply Take1.there) ?_
  rintro v_ give_ ⟨rfl, rfl⟩ rs_ hrs_
  simp only [List.cons_append, List.nil_append] at hrs_
  subst hrs_
  rw [hK]
  generalize pathF a1 = p at *
  have hlaw := has_law kT hwp K (by omega) D (by omega)
  have hgok : AcOk (getA p 2048) := ⟨show p.length ≤ 1000000 by omega, Nat.zero_le _, Nat.zero_le _⟩
  have hpok : AcOk (putA p K D) := ⟨show p.length ≤ 1000000 by omega, Nat.zero_le _, show D.length ≤ 1000000 by omega⟩
  repeat (first | (apply G.ex (hd := rfl); case h => (first | exact Ex.move rfl | exact Ex.assign rfl | exact Ex.build rfl rfl)) | refine G.nil ?_ | refine GC.seq ?_ | refine GC.region ?_ | refine GE.then_normal ?_)
  refine G.lit (cells := flat eAcM [acN (getA p 2048)]) rfl (by rfl) (by rfl) (by rfl) (by rfl) (by rfl) (by rfl) rfl (fun g => ?_)
  refine G.rdNone [acN (getA p 2048)] (fun x hx => by rw [List.mem_singleton] at hx; rw [hx]; rfl) ?_
  first | refine G.call (caps := []) (lastSeen_sp (.vec 36 6 oa n oc (flat eAcM A)) (.vec 36 6 g 1 1 (flat eAcM [acN (getA p 2048)])) oa g n oc 1 1 A [acN (getA p 2048)] hn rfl (by omega) (by omega) hAok (fun x hx => by rw [List.mem_singleton] at hx; rw [hx]; exact hgok)) rfl rfl rfl rfl (by repeat first | exact tn_ | apply td_ rfl | apply tc_ | exact .here | apply Take1.there) ?_ | refine G.callU (caps := []) (lastSeen_sp (.vec 36 6 oa n oc (flat eAcM A)) (.vec 36 6 g 1 1 (flat eAcM [acN (getA p 2048)])) oa g n oc 1 1 A [acN (getA p 2048)] hn rfl (by omega) (by omega) hAok (fun x hx => by rw [List.mem_singleton] at hx; rw [hx]; exact hgok)) rfl rfl rfl (by repeat first | exact tn_ | apply td_ rfl | apply tc_ | exact .here | apply Take1.there) ?_
  rintro v_ give_ ⟨x, hx, rfl, rfl⟩ rs_ hrs_
  simp only [List.cons_append, List.nil_append] at hrs_
  subst hrs_
  replace hx : x.s = (doF (ends newT (A.map (·.a))) (getA p 2048)).2 := hx.trans (lastF_snoc _ _)
  repeat (first | (apply G.ex (hd := rfl); case h => (first | exact Ex.move rfl | exact Ex.extract rfl rfl)))
  refine G.alloc rfl (fun xb => ?_)
  repeat (first | refine G.storeBA rfl rfl rfl rfl rfl ?_ | (apply G.ex (hd := rfl); case h => (first | exact Ex.move rfl | exact Ex.assign rfl | exact Ex.build rfl rfl)) | refine G.nil ?_ | refine GC.seq ?_ | refine GC.region ?_ | refine GE.then_normal ?_)
  refine G.lit (cells := flat eAcM [⟨putA p K D, da, dc⟩]) rfl (by rfl) (by rfl) (by rfl) (by rfl) (by rfl) (by rfl) rfl (fun g2 => ?_)
  refine G.nilsl 1 ?_
  have hr2 : ∀ x ∈ [(⟨putA p K D, da, dc⟩ : AcM)], dA x = ⟨none, 0, 0, []⟩ ∨ dA x = ⟨da, D.length, dc, D⟩ := fun x hx => by rw [List.mem_singleton] at hx; rw [hx]; exact .inr rfl
  refine G.conv (fun w_ H_ => Holds.rdAll [⟨putA p K D, da, dc⟩] da D.length dc D rfl hr2 (H_.take (need := [.sl none 0 0 1 (flat eB []), .sl da D.length dc 1 (flat eB D)]) (by repeat first | exact tn_ | apply td_ rfl | apply tc_ | exact .here | apply Take1.there))) ?_
  try simp only [List.append_eq, List.nil_append, List.cons_append]
  first | refine G.call (caps := []) (lastSeen_sp (.vec 36 6 oa n oc (flat eAcM A)) (.vec 36 6 g2 1 1 (flat eAcM [⟨putA p K D, da, dc⟩])) oa g2 n oc 1 1 A [⟨putA p K D, da, dc⟩] hn rfl (by omega) (by omega) hAok (fun x hx => by rw [List.mem_singleton] at hx; rw [hx]; exact hpok)) rfl rfl rfl rfl (by repeat first | exact tn_ | apply td_ rfl | apply tc_ | exact .here | apply Take1.there) ?_ | refine G.callU (caps := []) (lastSeen_sp (.vec 36 6 oa n oc (flat eAcM A)) (.vec 36 6 g2 1 1 (flat eAcM [⟨putA p K D, da, dc⟩])) oa g2 n oc 1 1 A [⟨putA p K D, da, dc⟩] hn rfl (by omega) (by omega) hAok (fun x hx => by rw [List.mem_singleton] at hx; rw [hx]; exact hpok)) rfl rfl rfl (by repeat first | exact tn_ | apply td_ rfl | apply tc_ | exact .here | apply Take1.there) ?_
  rintro v_ give_ ⟨x2, hx2, rfl, rfl⟩ rs_ hrs_
  simp only [List.cons_append, List.nil_append] at hrs_
  subst hrs_
  replace hx2 : x2.s = (doF (ends newT (A.map (·.a))) (putA p K D)).2 := hx2.trans (lastF_snoc _ _)
  repeat (first | (apply G.ex (hd := rfl); case h => (first | exact Ex.move rfl | exact Ex.extract rfl rfl)))
  refine G.alloc rfl (fun xb2 => ?_)
  repeat (first | refine G.storeBA rfl rfl rfl rfl rfl ?_ | (apply G.ex (hd := rfl); case h => (first | exact Ex.move rfl | exact Ex.assign rfl | exact Ex.build rfl rfl)) | refine G.nil ?_ | refine GC.seq ?_ | refine GC.region ?_ | refine GE.then_normal ?_)
  refine G.lit (cells := flat eAcM [⟨putA p K D, da, dc⟩, acN (getA p 2048)]) rfl (by rfl) (by rfl) (by rfl) (by rfl) (by rfl) (by rfl) rfl (fun g3 => ?_)
  refine G.nilsl 1 ?_
  have hr3 : ∀ x ∈ [(⟨putA p K D, da, dc⟩ : AcM), acN (getA p 2048)], dA x = ⟨none, 0, 0, []⟩ ∨ dA x = ⟨da, D.length, dc, D⟩ := fun x hx => by
    simp only [List.mem_cons, List.not_mem_nil, or_false] at hx
    rcases hx with rfl | rfl
    · exact .inr rfl
    · exact .inl rfl
  refine G.conv (fun w_ H_ => Holds.rdAll [⟨putA p K D, da, dc⟩, acN (getA p 2048)] da D.length dc D rfl hr3 (H_.take (need := [.sl none 0 0 1 (flat eB []), .sl da D.length dc 1 (flat eB D)]) (by repeat first | exact tn_ | apply td_ rfl | apply tc_ | exact .here | apply Take1.there))) ?_
  try simp only [List.append_eq, List.nil_append, List.cons_append]
  have hok3 : ∀ x ∈ [(⟨putA p K D, da, dc⟩ : AcM), acN (getA p 2048)], AcOk x.a := fun x hx => by
    simp only [List.mem_cons, List.not_mem_nil, or_false] at hx
    rcases hx with rfl | rfl
    · exact hpok
    · exact hgok
  first | refine G.call (caps := []) (lastSeen_sp (.vec 36 6 oa n oc (flat eAcM A)) (.vec 36 6 g3 2 2 (flat eAcM [⟨putA p K D, da, dc⟩, acN (getA p 2048)])) oa g3 n oc 2 2 A [⟨putA p K D, da, dc⟩, acN (getA p 2048)] hn rfl (by omega) (by omega) hAok hok3) rfl rfl rfl rfl (by repeat first | exact tn_ | apply td_ rfl | apply tc_ | exact .here | apply Take1.there) ?_ | refine G.callU (caps := []) (lastSeen_sp (.vec 36 6 oa n oc (flat eAcM A)) (.vec 36 6 g3 2 2 (flat eAcM [⟨putA p K D, da, dc⟩, acN (getA p 2048)])) oa g3 n oc 2 2 A [⟨putA p K D, da, dc⟩, acN (getA p 2048)] hn rfl (by omega) (by omega) hAok hok3) rfl rfl rfl (by repeat first | exact tn_ | apply td_ rfl | apply tc_ | exact .here | apply Take1.there) ?_
  rintro v_ give_ ⟨x3, hx3, rfl, rfl⟩ rs_ hrs_
  simp only [List.cons_append, List.nil_append] at hrs_
  subst hrs_
  replace hx3 : x3.s = (doF (doF (ends newT (A.map (·.a))) (putA p K D)).1 (getA p 2048)).2 := by
    have e : ends newT (A.map (·.a) ++ [putA p K D]) = (doF (ends newT (A.map (·.a))) (putA p K D)).1 := by rw [ends_app]; rfl
    rw [← e, ← lastF_snoc, List.append_assoc]
    exact hx3
  repeat (first | (apply G.ex (hd := rfl); case h => (first | exact Ex.move rfl | exact Ex.extract rfl rfl)))
  refine G.alloc rfl (fun xb3 => ?_)
  repeat (first | refine G.storeBA rfl rfl rfl rfl rfl ?_ | (apply G.ex (hd := rfl); case h => (first | exact Ex.move rfl | exact Ex.fieldB rfl | exact Ex.loadB rfl rfl | exact Ex.neI rfl rfl | exact Ex.assign rfl | exact Ex.notB rfl | exact Ex.pickLF rfl rfl)) | refine G.yes rfl rfl ?_ | refine G.nil ?_ | refine GC.seq ?_ | refine GC.region ?_ | refine GC.skip ?_ | refine GE.then_normal ?_ | refine GC.cond_f rfl ?_)
  have hxs := (small kT cT (getA p 2048)).1
  rw [← hx, ← hx2, ← hx3] at hlaw
  rw [← hx] at hxs
  clear hx hx2 hx3
  by_cases hc : x.s.code = 0
  · obtain ⟨l1, l2, l3⟩ := hlaw.2 hc
    clear hlaw
    repeat (first | (apply G.ex (hd := rfl); case h => (first | exact Ex.fieldB rfl | exact Ex.loadB rfl rfl)) | refine GC.seq ?_ | refine GC.region ?_ | refine GC.skip ?_ | refine GE.then_normal ?_ | refine GC.cond_no rfl (by first | assumption | omega) ?_)
    refine G.appNil rfl rfl (by rfl) (by omega) rfl (rfl) (fun wa wc => ?_)
    obtain ⟨b, hb⟩ : ∃ b, x.s.d = b := ⟨_, rfl⟩
    rw [hb] at l2 l3 hxs ⊢
    rw [show flat eB b = flat eB (b ++ List.replicate 0 0) by rw [List.replicate_zero, List.append_nil]]
    obtain ⟨B, hB⟩ : ∃ B, b ++ List.replicate (K + D.length - b.length) 0 = B := ⟨_, rfl⟩
    have hBl : B.length = b.length + (K + D.length - b.length) := by rw [← hB, List.length_append, List.length_replicate]
    repeat (first | (apply G.ex (hd := rfl); case h => (first | exact Ex.assign rfl)) | refine G.nil ?_ | refine GC.seq ?_ | refine GC.block ?_ | refine GE.then_normal ?_)
    refine GC.loop (ι := Nat × Option Addr × Nat) (fun i => i.1 ≤ K + D.length - b.length) (fun i => K + D.length - b.length - i.1) (fun i => [(11, .slice da D.length dc), (12, .int .i64 (K : Int)), (15, ptr xb2), (17, ptr xb3), (19, .slice i.2.1 (b.length + i.1) i.2.2)]) (fun i => [.vec 5 1 i.2.1 (b.length + i.1) i.2.2 (flat eB (b ++ List.replicate i.1 0))]) (0, wa, wc) (Nat.zero_le _) (by simp only [fits]; repeat (first | exact trivial | refine And.intro rfl ?_)) (by repeat first | exact tn_ | apply td_ rfl | apply tc_ | exact .here | apply Take1.there) ?_
    rintro ⟨j, wa, wc⟩ hj fr_ rs_ hfr_ hrs_
    simp only [List.cons_append, List.nil_append] at hfr_ hrs_
    subst hfr_ hrs_
    simp only at hj
    repeat (first | (apply G.ex (hd := rfl); case h => (first | exact Ex.move rfl | exact Ex.add rfl rfl (by omega) | exact Ex.lss rfl rfl | exact Ex.lenSl rfl)) | refine G.nil ?_ | refine GC.seq ?_ | refine GC.region ?_ | refine GE.then_normal ?_)
    by_cases h2 : b.length + j < K + D.length
    · have hcat2 : flat eB (b ++ List.replicate j 0) ++ flat eB [0] = flat eB (b ++ List.replicate (j + 1) 0) := by
        rw [← flat_append, List.append_assoc, List.replicate_succ']
      repeat (first | (apply G.ex (hd := rfl); case h => (first | exact Ex.move rfl)) | refine GC.region ?_ | refine GC.block ?_ | refine GC.skip ?_ | refine GE.then_normal ?_ | refine GC.cond_yes rfl (by first | assumption | omega) ?_)
      refine G.lit (cells := flat eB [0]) rfl (by rfl) (by rfl) (by rfl) (by rfl) (by rfl) (by rfl) rfl (fun y => ?_)
      refine G.app rfl rfl (by rfl) (by omega) rfl (hcat2) (fun wa2 wc2 rs_ hrs_ => ?_)
      try simp only at hrs_
      subst hrs_
      repeat (first | (apply G.ex (hd := rfl); case h => (first | exact Ex.assign rfl)) | refine G.nil ?_ | refine GE.block_normal ?_)
      refine GE.loop (j + 1, wa2, wc2) (by simp only; omega) (by simp only; omega) (by simp only [fits]; repeat (first | exact trivial | refine And.intro rfl ?_)) (by repeat first | exact tn_ | apply td_ rfl | apply tc_ | exact .here | apply Take1.there) (by repeat (first | exact Subs.refl | refine Subs.skip ?_))
    · obtain rfl : j = K + D.length - b.length := by omega
      rw [hB, ← hBl]
      have hfit : K + D.length ≤ B.length := by omega
      have hlw : (wantF b D K).length = B.length := by
        show (lay (b ++ List.replicate (K + D.length - b.length) 0) D K).length = _
        rw [hB]; exact lay_len B D K hfit
      have hw0 : lay B (D.take 0) K = B := by unfold lay; rw [List.take_zero, List.append_nil, List.length_nil, Nat.add_zero, List.take_append_drop]
      rw [← hw0]
      have hl0 : (lay B (D.take 0) K).length = B.length := by rw [hw0]
      rw [hl0]
      repeat (first | (apply G.ex (hd := rfl); case h => (first | exact Ex.assign rfl)) | refine G.nil ?_ | refine GC.seq ?_ | refine GC.region ?_ | refine GC.block ?_ | refine GC.exit ?_ | refine GE.then_normal ?_ | refine GE.then_exit ?_ | refine GE.block_hit ?_ | refine GC.cond_no rfl (by first | assumption | omega) ?_)
      refine GC.loop (ι := Nat) (fun i => i ≤ D.length) (fun i => D.length - i) (fun i => [(11, .slice da D.length dc), (12, .int .i64 (K : Int)), (15, ptr xb2), (17, ptr xb3), (19, .slice wa B.length wc), (20, .int .i64 (i : Int))]) (fun i => [.vec 5 1 wa B.length wc (flat eB (lay B (D.take i) K))]) 0 (Nat.zero_le _) (by simp only [fits]; repeat (first | exact trivial | refine And.intro rfl ?_)) (by repeat first | exact tn_ | apply td_ rfl | apply tc_ | exact .here | apply Take1.there) ?_
      rintro i hi fr_ rs_ hfr_ hrs_
      simp only [List.cons_append, List.nil_append] at hfr_ hrs_
      subst hfr_ hrs_
      repeat (first | (apply G.ex (hd := rfl); case h => (first | exact Ex.move rfl | exact Ex.lss rfl rfl | exact Ex.lenSl rfl)) | refine G.nil ?_ | refine GC.seq ?_ | refine GC.region ?_ | refine GE.then_normal ?_)
      refine GC.cond_dec rfl (fun hlt => ?_) (fun hlt => ?_)
      · have hlt : i < D.length := by omega
        have hset := lay_set B D K i hlt hfit
        have hll := lay_len B (D.take i) K (by rw [List.length_take]; omega)
        repeat (first | (apply G.ex (hd := rfl); case h => (first | exact Ex.move rfl | exact Ex.add rfl rfl (by omega) | exact Ex.indexN rfl rfl (by first | omega | (simp; done) | (simp; omega)) | exact Ex.loadT0 rfl (by first | omega | (simp; done) | (simp; omega)) rfl)) | refine GC.seq ?_ | refine GC.region ?_ | refine GC.block ?_ | refine GC.skip ?_ | refine GE.then_normal ?_)
        rw [show (K : Int) + (i : Int) = ((K + i : Nat) : Int) by omega]
        repeat (first | fail)
        first | refine G.storeT0 rfl rfl rfl rfl (by first | omega | (simp; omega)) rfl ((D.getD i default)) (rfl) (fun rs_ hrs_ => ?_) | refine G.storeT rfl rfl rfl rfl (by first | omega | (simp; omega)) rfl ((D.getD i default)) (rfl) (fun rs_ hrs_ => ?_) | refine G.storeTA rfl rfl (by first | omega | (simp; omega)) rfl ((D.getD i default)) (rfl) (fun rs_ hrs_ => ?_)
        try simp only at hrs_
        subst hrs_
        rw [hset]
        repeat (first | (apply G.ex (hd := rfl); case h => (first | exact Ex.move rfl | exact Ex.add rfl rfl (by omega) | exact Ex.assign rfl)) | refine G.nil ?_ | refine GC.region ?_ | refine GE.then_normal ?_ | refine GE.block_normal ?_)
        rw [show (i : Int) + 1 = ((i + 1 : Nat) : Int) by omega]
        refine GE.loop (i + 1) (by omega) (by omega) (by simp only [fits]; repeat (first | exact trivial | refine And.intro rfl ?_)) (by repeat first | exact tn_ | apply td_ rfl | apply tc_ | exact .here | apply Take1.there) (by repeat (first | exact Subs.refl | refine Subs.skip ?_))
      · obtain rfl : i = D.length := by omega
        rw [List.take_length]
        have hww : lay B D K = wantF b D K := by unfold wantF; rw [hB]
        rw [hww, ← hlw]
        have hx3l : x3.s.d.length = (wantF b D K).length := by rw [l3]
        repeat (first | (apply G.ex (hd := rfl); case h => (first | exact Ex.move rfl | exact Ex.fieldB rfl | exact Ex.loadB rfl rfl | exact Ex.eqI rfl rfl | exact Ex.lenSl rfl | exact Ex.pickT rfl (by first | assumption | omega) rfl)) | refine G.g_tt rfl rfl (by first | assumption | omega) ?_ | refine GC.seq ?_ | refine GC.region ?_ | refine GC.exit ?_ | refine GE.then_normal ?_ | refine GE.then_exit ?_ | refine GE.block_hit ?_)
        first | refine G.call (caps := []) (sameBytes_sp (.sl x3.da x3.s.d.length x3.dc 1 (flat eB x3.s.d)) (.vec 5 1 wa (wantF b D K).length wc (flat eB (wantF b D K))) x3.da wa x3.s.d.length x3.dc (wantF b D K).length wc x3.s.d (wantF b D K) rfl rfl (by omega) (by omega)) rfl rfl rfl rfl (by repeat first | exact tn_ | apply td_ rfl | apply tc_ | exact .here | apply Take1.there) ?_ | refine G.callU (caps := []) (sameBytes_sp (.sl x3.da x3.s.d.length x3.dc 1 (flat eB x3.s.d)) (.vec 5 1 wa (wantF b D K).length wc (flat eB (wantF b D K))) x3.da wa x3.s.d.length x3.dc (wantF b D K).length wc x3.s.d (wantF b D K) rfl rfl (by omega) (by omega)) rfl rfl rfl (by repeat first | exact tn_ | apply td_ rfl | apply tc_ | exact .here | apply Take1.there) ?_
        rintro v_ give_ ⟨rfl, rfl⟩ rs_ hrs_
        simp only [List.cons_append, List.nil_append] at hrs_
        subst hrs_
        rw [decide_eq_true l3]
        repeat (first | (apply G.ex (hd := rfl); case h => (first | exact Ex.assign rfl | exact Ex.pickT rfl (by first | assumption | omega) rfl)) | refine G.nil ?_ | refine GC.ret ?_ | refine GE.then_normal ?_)
        refine GE.ret (by first | exact .inl rfl | exact .inr rfl) (res1 Tryd.results3 rfl) ⟨rfl, rfl⟩ (by repeat first | exact tn_ | apply td_ rfl | apply tc_ | exact .here | apply Take1.there) (by repeat (first | exact Subs.refl | refine Subs.skip ?_))
  · obtain ⟨l1, l2⟩ := hlaw.1 hc
    repeat (first | (apply G.ex (hd := rfl); case h => (first | exact Ex.move rfl | exact Ex.fieldB rfl | exact Ex.loadB rfl rfl | exact Ex.eqI rfl rfl | exact Ex.assign rfl | exact Ex.pickT rfl (by first | assumption | omega) rfl)) | refine G.g_tt rfl rfl (by first | assumption | omega) ?_ | refine G.nil ?_ | refine GC.seq ?_ | refine GC.region ?_ | refine GC.ret ?_ | refine GE.then_normal ?_ | refine GE.then_ret ?_ | refine GC.cond_yes rfl (by first | assumption | omega) ?_)
    refine GE.ret (by first | exact .inl rfl | exact .inr rfl) (res1 Tryd.results3 rfl) ⟨congrArg Value.bool (decide_eq_true l2), rfl⟩ (by repeat first | exact tn_ | apply td_ rfl | apply tc_ | exact .here | apply Take1.there) (by repeat (first | exact Subs.refl | refine Subs.skip ?_))
end tree
end Go.Proofs.YtcfnbghhgogkcaaDoor
