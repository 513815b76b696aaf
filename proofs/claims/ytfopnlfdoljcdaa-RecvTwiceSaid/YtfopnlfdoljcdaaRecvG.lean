/-
  CONTRACTS of the laws' package: sameBytes, Stream, Arrivals, hearer, by the kit.
-/
import Derived.Test.YtfopnlfdoljcdaaRecvF
namespace Go.Proofs.Ytfopnlfdoljcdaa
open Go.RowKit
attribute [local irreducible] Ex G GC GE Gq FPost LPost
set_option linter.unusedVariables false
set_option linter.unusedSimpArgs false
namespace recv
open hole
/-- a number's last byte -/
def byteZ (v : Int) : UInt8 := UInt8.ofNat (v % 256).toNat
theorem byteZ_toNat (v : Int) : ((byteZ v).toNat : Int) = v % 256 := by
  have h : (v % 256).toNat < 256 := by omega
  unfold byteZ
  rw [UInt8.toNat_ofNat_of_lt' (by simpa using h)]
  omega
theorem sameBytes_sp (r s : Res) (ao bo : Option Addr) (n c m d : Nat) (l l' : List UInt8) [hr : RdR r ao n c 1 (flat eB l)] [hs : RdR s bo m d 1 (flat eB l')] (hl : l.length = n) (hl' : l'.length = m) (hn : n ≤ 9223372036854775807) (hm : m ≤ 9223372036854775807) :
    Spec Try.prog 14 [.slice ao n c, .slice bo m d] [r, s] fun v give => v = .bool (decide (l = l')) ∧ give = [r, s] := by
  refine Spec.intro Try.func14 rfl Try.ntmps14 rfl fun w0 rest rs_ hrs_ => ?_
  simp only [List.cons_append, List.nil_append] at hrs_
  subst hrs_
  repeat (first | (apply G.ex (hd := rfl); case h => (first | exact Ex.move rfl | exact Ex.neI rfl rfl | exact Ex.lenSl rfl | exact Ex.assign rfl)) | refine G.nil ?_ | refine GC.seq ?_ | refine GC.region ?_ | refine GE.then_normal ?_)
  refine GC.cond_dec rfl (fun h => ?_) (fun h => ?_)
  · repeat (first | (apply G.ex (hd := rfl); case h => (first | exact Ex.assign rfl)) | refine G.nil ?_ | refine GC.seq ?_ | refine GC.region ?_ | refine GC.ret ?_ | refine GE.then_normal ?_ | refine GE.then_ret ?_)
    refine GE.ret (by first | exact .inl rfl | exact .inr rfl) (by first | exact res0 Try.results14 | exact res1 Try.results14 rfl | exact res2 Try.results14 rfl rfl | exact resR1 Try.results14 (by first | exact RV.tmp rfl | exact RV.cell rfl (eP_len _) | exact RV.cell rfl rfl | exact RV.cell1 rfl) | exact resR2 Try.results14 (by first | exact RV.tmp rfl | exact RV.cell rfl (eP_len _) | exact RV.cell rfl rfl | exact RV.cell1 rfl) (by first | exact RV.tmp rfl | exact RV.cell rfl (eP_len _) | exact RV.cell rfl rfl | exact RV.cell1 rfl) | exact resR3 Try.results14 (by first | exact RV.tmp rfl | exact RV.cell rfl (eP_len _) | exact RV.cell rfl rfl | exact RV.cell1 rfl) (by first | exact RV.tmp rfl | exact RV.cell rfl (eP_len _) | exact RV.cell rfl rfl | exact RV.cell1 rfl) (by first | exact RV.tmp rfl | exact RV.cell rfl (eP_len _) | exact RV.cell rfl rfl | exact RV.cell1 rfl)) ⟨congrArg Value.bool (decide_eq_false (fun e => h (by rw [← hl, ← hl', e]))).symm, rfl⟩ (by repeat (first | exact Takes.nil | apply Takes.dup rfl | apply Takes.cons | exact Take1.here | apply Take1.there)) (by repeat (first | exact Subs.refl | refine Subs.skip ?_))
  · have hnm : n = m := by omega
    subst hnm
    repeat (first | (apply G.ex (hd := rfl); case h => (first | exact Ex.assign rfl)) | refine G.nil ?_ | refine GC.seq ?_ | refine GC.region ?_ | refine GC.block ?_ | refine GC.skip ?_ | refine GE.then_normal ?_)
    refine GC.loop (ι := Nat) (fun k => k ≤ n ∧ l.take k = l'.take k) (fun k => n - k) (fun k => [(0, .slice ao n c), (1, .slice bo n d), (5, .int .i64 (k : Int))]) (fun k => [r, s]) 0 ⟨Nat.zero_le _, rfl⟩ (by simp only [fits]; repeat (first | exact trivial | refine And.intro rfl ?_)) (by repeat (first | exact Takes.nil | apply Takes.dup rfl | apply Takes.cons | exact Take1.here | apply Take1.there)) ?_
    rintro k ⟨hk, he⟩ fr_ rs_ hfr_ hrs_
    simp only [List.cons_append, List.nil_append] at hfr_ hrs_
    subst hfr_ hrs_
    repeat (first | (apply G.ex (hd := rfl); case h => (first | exact Ex.move rfl | exact Ex.lss rfl rfl | exact Ex.lenSl rfl)) | refine G.nil ?_ | refine GC.seq ?_ | refine GC.region ?_ | refine GE.then_normal ?_)
    refine GC.cond_dec rfl (fun hlt => ?_) (fun hlt => ?_)
    · have hlt : k < n := by omega
      repeat (first | (apply Gq.ex (hd := rfl); case h => (first | exact Ex.move rfl | exact Ex.neBy rfl rfl | exact Ex.indexN rfl rfl (by first | omega | (simp; done) | (simp; omega)) | exact Ex.loadT0 rfl (by first | omega | (simp; done) | (simp; omega)) rfl)) | refine Gq.nil ?_ | refine GC.seq ?_ | refine GC.draw (by kernel_rfl) (by kernel_rfl) ?_ | refine GC.block ?_ | refine GC.skip ?_ | refine GE.then_normal ?_)
      refine GC.cond_dec rfl (fun hne => ?_) (fun hne => ?_)
      · repeat (first | (apply G.ex (hd := rfl); case h => (first | exact Ex.assign rfl)) | refine G.nil ?_ | refine GC.seq ?_ | refine GC.region ?_ | refine GC.ret ?_ | refine GE.then_normal ?_ | refine GE.then_ret ?_ | refine GE.block_ret ?_)
        refine GE.ret (by first | exact .inl rfl | exact .inr rfl) (by first | exact res0 Try.results14 | exact res1 Try.results14 rfl | exact res2 Try.results14 rfl rfl | exact resR1 Try.results14 (by first | exact RV.tmp rfl | exact RV.cell rfl (eP_len _) | exact RV.cell rfl rfl | exact RV.cell1 rfl) | exact resR2 Try.results14 (by first | exact RV.tmp rfl | exact RV.cell rfl (eP_len _) | exact RV.cell rfl rfl | exact RV.cell1 rfl) (by first | exact RV.tmp rfl | exact RV.cell rfl (eP_len _) | exact RV.cell rfl rfl | exact RV.cell1 rfl) | exact resR3 Try.results14 (by first | exact RV.tmp rfl | exact RV.cell rfl (eP_len _) | exact RV.cell rfl rfl | exact RV.cell1 rfl) (by first | exact RV.tmp rfl | exact RV.cell rfl (eP_len _) | exact RV.cell rfl rfl | exact RV.cell1 rfl) (by first | exact RV.tmp rfl | exact RV.cell rfl (eP_len _) | exact RV.cell rfl rfl | exact RV.cell1 rfl)) ⟨congrArg Value.bool (decide_eq_false (fun e => hne (by rw [e]))).symm, rfl⟩ (by repeat (first | exact Takes.nil | apply Takes.dup rfl | apply Takes.cons | exact Take1.here | apply Take1.there)) (by repeat (first | exact Subs.refl | refine Subs.skip ?_))
      · have he' : l.take (k + 1) = l'.take (k + 1) := by
          rw [List.take_succ_eq_append_getElem (by omega), List.take_succ_eq_append_getElem (by omega), he]
          congr 2
          have := Decidable.not_not.1 hne
          rw [List.getD_eq_getElem?_getD, List.getD_eq_getElem?_getD, List.getElem?_eq_getElem (by omega), List.getElem?_eq_getElem (by omega)] at this
          simpa using this
        clear he hne
        repeat (first | (apply G.ex (hd := rfl); case h => (first | exact Ex.move rfl | exact Ex.add rfl rfl (by omega) | exact Ex.assign rfl)) | refine G.nil ?_ | refine GC.region ?_ | refine GC.skip ?_ | refine GE.then_normal ?_ | refine GE.block_normal ?_)
        refine GE.loop (k + 1) ⟨by omega, he'⟩ (by omega) (by simp only [fits]; repeat (first | exact trivial | refine And.intro rfl ?_)) (by repeat (first | exact Takes.nil | apply Takes.dup rfl | apply Takes.cons | exact Take1.here | apply Take1.there)) (by repeat (first | exact Subs.refl | refine Subs.skip ?_))
    · have hkn : k = n := by omega
      have e : l = l' := by
        rw [← List.take_of_length_le (Nat.le_of_eq hl), ← hkn, he, hkn, List.take_of_length_le (Nat.le_of_eq hl')]
      repeat (first | (apply G.ex (hd := rfl); case h => (first | exact Ex.assign rfl)) | refine G.nil ?_ | refine GC.seq ?_ | refine GC.region ?_ | refine GC.ret ?_ | refine GC.exit ?_ | refine GE.then_normal ?_ | refine GE.then_exit ?_ | refine GE.block_hit ?_)
      refine GE.ret (by first | exact .inl rfl | exact .inr rfl) (by first | exact res0 Try.results14 | exact res1 Try.results14 rfl | exact res2 Try.results14 rfl rfl | exact resR1 Try.results14 (by first | exact RV.tmp rfl | exact RV.cell rfl (eP_len _) | exact RV.cell rfl rfl | exact RV.cell1 rfl) | exact resR2 Try.results14 (by first | exact RV.tmp rfl | exact RV.cell rfl (eP_len _) | exact RV.cell rfl rfl | exact RV.cell1 rfl) (by first | exact RV.tmp rfl | exact RV.cell rfl (eP_len _) | exact RV.cell rfl rfl | exact RV.cell1 rfl) | exact resR3 Try.results14 (by first | exact RV.tmp rfl | exact RV.cell rfl (eP_len _) | exact RV.cell rfl rfl | exact RV.cell1 rfl) (by first | exact RV.tmp rfl | exact RV.cell rfl (eP_len _) | exact RV.cell rfl rfl | exact RV.cell1 rfl) (by first | exact RV.tmp rfl | exact RV.cell rfl (eP_len _) | exact RV.cell rfl rfl | exact RV.cell1 rfl)) ⟨congrArg Value.bool (decide_eq_true e).symm, rfl⟩ (by repeat (first | exact Takes.nil | apply Takes.dup rfl | apply Takes.cons | exact Take1.here | apply Take1.there)) (by repeat (first | exact Subs.refl | refine Subs.skip ?_))
theorem stream_sp (z : Int) (n : Nat) (hn : n ≤ 100000) : Spec Try.prog 11 [.int .i64 z, .int .i64 (n : Int)] [] fun v give => ∃ oa oc l, l.length = n ∧ v = .slice oa n oc ∧ give = [.vec 5 1 oa n oc (flat eB l)] := by
  have z1 := Int.emod_nonneg z (show (251 : Int) ≠ 0 by decide)
  have z2 := Int.emod_lt_of_pos z (show (0 : Int) < 251 by decide)
  refine Spec.intro Try.func11 rfl Try.ntmps11 rfl fun w0 rest rs_ hrs_ => ?_
  simp only [List.cons_append, List.nil_append] at hrs_
  subst hrs_
  first | refine G.nilvec 5 1 ?_ | refine GC.nilvec 5 1 ?_
  repeat (first | (apply G.ex (hd := rfl); case h => (first | exact Ex.assign rfl)) | refine G.nil ?_ | refine GC.seq ?_ | refine GC.region ?_ | refine GC.block ?_ | refine GE.then_normal ?_)
  refine GC.loop (ι := Nat × Option Addr × Nat × List UInt8) (fun x => x.1 ≤ n ∧ x.2.2.2.length = x.1) (fun x => n - x.1) (fun x => [(0, .int .i64 z), (1, .int .i64 (n : Int)), (5, .slice x.2.1 x.1 x.2.2.1), (6, .int .i64 (x.1 : Int))]) (fun x => [.vec 5 1 x.2.1 x.1 x.2.2.1 (flat eB x.2.2.2)]) (0, none, 0, []) ⟨Nat.zero_le _, rfl⟩ (by simp only [fits]; repeat (first | exact trivial | refine And.intro rfl ?_)) (by repeat (first | exact Takes.nil | apply Takes.dup rfl | apply Takes.cons | exact Take1.here | apply Take1.there)) ?_
  rintro ⟨k, oa, oc, l⟩ ⟨hk_, hl_⟩ fr_ rs_ hfr_ hrs_
  simp only [List.cons_append, List.nil_append] at hfr_ hrs_
  subst hfr_ hrs_
  obtain ⟨hk, hl⟩ : k ≤ n ∧ l.length = k := ⟨hk_, hl_⟩
  clear hk_ hl_
  repeat (first | (apply G.ex (hd := rfl); case h => (first | exact Ex.move rfl | exact Ex.lss rfl rfl)) | refine G.nil ?_ | refine GC.seq ?_ | refine GC.region ?_ | refine GE.then_normal ?_)
  refine GC.cond_dec rfl (fun hlt => ?_) (fun hlt => ?_)
  · have hlt : k < n := by omega
    repeat (first | (apply G.ex (hd := rfl); case h => (first | exact Ex.move rfl)) | refine GC.seq ?_ | refine GC.region ?_ | refine GC.block ?_ | refine GC.skip ?_ | refine GE.then_normal ?_)
    first | refine G.call (caps := []) (picked_sp z 251 (by omega) (by omega)) rfl rfl rfl rfl (by repeat (first | exact Takes.nil | apply Takes.dup rfl | apply Takes.cons | exact Take1.here | apply Take1.there)) ?_ | refine G.callU (caps := []) (picked_sp z 251 (by omega) (by omega)) rfl rfl rfl (by repeat (first | exact Takes.nil | apply Takes.dup rfl | apply Takes.cons | exact Take1.here | apply Take1.there)) ?_
    rintro v_ give_ ⟨rfl, rfl⟩ rs_ hrs_
    simp only [List.cons_append, List.nil_append] at hrs_
    subst hrs_
    repeat (first | (apply G.ex (hd := rfl); case h => (first | exact Ex.move rfl | exact Ex.add rfl rfl (by omega) | exact Ex.quo rfl rfl (by omega) | exact Ex.mul rfl rfl (by omega) | exact Ex.conv8 rfl)))
    rw [← byteZ_toNat]
    generalize byteZ _ = b
    have hcat : flat eB l ++ flat eB [b] = flat eB (l ++ [b]) := (flat_append ..).symm
    refine G.lit rfl (by rfl) (by rfl) (by rfl) (by rfl) (by rfl) (by rfl) rfl (fun y => ?_)
    repeat (first | fail)
    refine G.app rfl rfl (by rfl) (by omega) rfl (hcat) (fun o2 c2 rs_ hrs_ => ?_)
    try simp only at hrs_
    subst hrs_
    repeat (first | (apply G.ex (hd := rfl); case h => (first | exact Ex.move rfl | exact Ex.add rfl rfl (by omega) | exact Ex.assign rfl)) | refine G.nil ?_ | refine GC.region ?_ | refine GE.then_normal ?_ | refine GE.block_normal ?_)
    refine GE.loop (k + 1, o2, c2, l ++ [b]) ⟨by simp only; omega, by simp only [List.length_append, List.length_singleton]; omega⟩ (by simp only; omega) (by simp only [fits]; repeat (first | exact trivial | refine And.intro rfl ?_)) (by repeat (first | exact Takes.nil | apply Takes.dup rfl | apply Takes.cons | exact Take1.here | apply Take1.there)) (by repeat (first | exact Subs.refl | refine Subs.skip ?_))
  · have hkn : k = n := by omega
    subst hkn
    repeat (first | (apply G.ex (hd := rfl); case h => (first | exact Ex.move rfl | exact Ex.assign rfl)) | refine G.nil ?_ | refine GC.seq ?_ | refine GC.region ?_ | refine GC.ret ?_ | refine GC.exit ?_ | refine GE.then_normal ?_ | refine GE.then_exit ?_ | refine GE.block_hit ?_)
    refine GE.ret (by first | exact .inl rfl | exact .inr rfl) (by first | exact res0 Try.results11 | exact res1 Try.results11 rfl | exact res2 Try.results11 rfl rfl | exact resR1 Try.results11 (by first | exact RV.tmp rfl | exact RV.cell rfl (eP_len _) | exact RV.cell rfl rfl | exact RV.cell1 rfl) | exact resR2 Try.results11 (by first | exact RV.tmp rfl | exact RV.cell rfl (eP_len _) | exact RV.cell rfl rfl | exact RV.cell1 rfl) (by first | exact RV.tmp rfl | exact RV.cell rfl (eP_len _) | exact RV.cell rfl rfl | exact RV.cell1 rfl) | exact resR3 Try.results11 (by first | exact RV.tmp rfl | exact RV.cell rfl (eP_len _) | exact RV.cell rfl rfl | exact RV.cell1 rfl) (by first | exact RV.tmp rfl | exact RV.cell rfl (eP_len _) | exact RV.cell rfl rfl | exact RV.cell1 rfl) (by first | exact RV.tmp rfl | exact RV.cell rfl (eP_len _) | exact RV.cell rfl rfl | exact RV.cell1 rfl)) ⟨oa, oc, l, hl, rfl, rfl⟩ (by repeat (first | exact Takes.nil | apply Takes.dup rfl | apply Takes.cons | exact Take1.here | apply Take1.there)) (by repeat (first | exact Subs.refl | refine Subs.skip ?_))
def arOf (s : List UInt8) (cl : Bool) (z : Int) : Ar :=
  if z % 5 = 0 then .take (z.tdiv 5 % 60)
  else .arr (z.tdiv 5 % (s.length + 1)) ((s.drop (z.tdiv 5 % (s.length + 1)).toNat).take ((min (s.length : Int) (z.tdiv 5 % (s.length + 1) + 1 + z.tdiv 1000 % 64)).toNat - (z.tdiv 5 % (s.length + 1)).toNat)) (cl && decide (min (s.length : Int) (z.tdiv 5 % (s.length + 1) + 1 + z.tdiv 1000 % 64) = s.length))
set_option maxHeartbeats 4000000 in
theorem arrivals_sp (ao : Option Addr) (n c : Nat) (L : List Int) (hl : L.length = n) (hn : n ≤ 9223372036854775807) (hL : ∀ z ∈ L, -9223372036854775808 ≤ z ∧ z ≤ 9223372036854775807) (so : Option Addr) (sc : Nat) (s : List UInt8) (hs : s.length ≤ 10000) (N : Nat) (hN : N ≤ 300) (cl : Bool) :
    Spec Try.prog 12 [.slice ao n c, .slice so s.length sc, .int .i64 (N : Int), .bool cl] [.sl ao n c 1 (flat (eI .i64) L), .sl so s.length sc 1 (flat eB s)] fun v give => ∃ (A : List ArM) (oa : Option Addr) (oc : Nat), A.map toAr = (L.take N).map (arOf s cl) ∧ (∀ m ∈ A, MOk m) ∧ v = .slice oa A.length oc ∧ give = [.vec 46 5 oa A.length oc (flat eAr A), .per (Rd eB 1 (A.map (·.d))), .sl so s.length sc 1 (flat eB s)] := by
  refine Spec.intro Try.func12 rfl Try.ntmps12 rfl fun w0 rest rs_ hrs_ => ?_
  simp only [List.cons_append, List.nil_append] at hrs_
  subst hrs_
  repeat (first | (apply G.ex (hd := rfl); case h => (first | exact Ex.assign rfl)) | refine G.nil ?_ | refine GC.seq ?_ | refine GC.region ?_ | refine GC.block ?_ | refine GE.then_normal ?_)
  first | refine G.nilvec 46 5 ?_ | refine GC.nilvec 46 5 ?_
  refine GC.conv (fun w_ H_ => Holds.rdNil eB 1 H_) ?_
  refine GC.loop (ι := Nat × List ArM × Option Addr × Nat) (fun x => x.1 ≤ n ∧ x.1 ≤ N ∧ x.2.1.map toAr = (L.take x.1).map (arOf s cl) ∧ (∀ m ∈ x.2.1, MOk m) ∧ x.2.1.length = x.1) (fun x => n - x.1) (fun x => [(0, .slice ao n c), (1, .slice so s.length sc), (2, .int .i64 (N : Int)), (3, .bool cl), (9, .slice x.2.2.1 x.1 x.2.2.2), (10, .int .i64 (x.1 : Int))]) (fun x => [.vec 46 5 x.2.2.1 x.1 x.2.2.2 (flat eAr x.2.1), .per (Rd eB 1 (x.2.1.map (·.d))), .sl ao n c 1 (flat (eI .i64) L), .sl so s.length sc 1 (flat eB s)]) (0, [], none, 0) ⟨Nat.zero_le _, Nat.zero_le _, rfl, fun m h => (nomatch h), rfl⟩ (by simp only [fits]; repeat (first | exact trivial | refine And.intro rfl ?_)) (by repeat (first | exact Takes.nil | apply Takes.dup rfl | apply Takes.cons | exact Take1.here | apply Take1.there)) ?_
  rintro ⟨k, A, oa, oc⟩ ⟨hk, hkN, hA, hM, hAl⟩ fr_ rs_ hfr_ hrs_
  simp only [List.cons_append, List.nil_append] at hfr_ hrs_
  subst hfr_ hrs_
  simp only at hk hkN hA hM hAl
  by_cases g1 : k < n
  · by_cases g2 : k < N
    · have hz := hL (L.getD k default) (by rw [List.getD_eq_getElem?_getD, List.getElem?_eq_getElem (by omega)]; exact List.getElem_mem _)
      have hsn : (L.take (k + 1)).map (arOf s cl) = (L.take k).map (arOf s cl) ++ [arOf s cl (L.getD k default)] := by
        rw [List.take_succ_eq_append_getElem (by omega), List.map_append, List.getD_eq_getElem?_getD, List.getElem?_eq_getElem (by omega)]; rfl
      repeat (first | (apply G.ex (hd := rfl); case h => (first | exact Ex.move rfl | exact Ex.lss rfl rfl | exact Ex.lenSl rfl | exact Ex.indexN rfl rfl (by first | omega | (simp; done) | (simp; omega)) | exact Ex.loadT0 rfl (by first | omega | (simp; done) | (simp; omega)) rfl | exact Ex.pickT rfl (by first | assumption | omega) rfl)) | refine G.g_tt rfl rfl (by first | assumption | omega) ?_ | refine G.nil ?_ | refine GC.seq ?_ | refine GC.region ?_ | refine GC.block ?_ | refine GC.skip ?_ | refine GE.then_normal ?_ | refine GC.cond_yes rfl (by first | assumption | omega) ?_)
      first | refine G.call (caps := []) (picked_sp (L.getD k default) 5 (by omega) (by omega)) rfl rfl rfl rfl (by repeat (first | exact Takes.nil | apply Takes.dup rfl | apply Takes.cons | exact Take1.here | apply Take1.there)) ?_ | refine G.callU (caps := []) (picked_sp (L.getD k default) 5 (by omega) (by omega)) rfl rfl rfl (by repeat (first | exact Takes.nil | apply Takes.dup rfl | apply Takes.cons | exact Take1.here | apply Take1.there)) ?_
      rintro v_ give_ ⟨rfl, rfl⟩ rs_ hrs_
      simp only [List.cons_append, List.nil_append] at hrs_
      subst hrs_
      by_cases h5 : (L.getD k default) % 5 = 0
      · have hao : arOf s cl (L.getD k default) = .take ((L.getD k default).tdiv 5 % 60) := by unfold arOf; rw [if_pos h5]
        have hcat : flat eAr A ++ flat eAr [(⟨2, 0, ⟨none, 0, 0, []⟩, false, (L.getD k default).tdiv 5 % 60⟩ : ArM)] = flat eAr (A ++ [⟨2, 0, ⟨none, 0, 0, []⟩, false, (L.getD k default).tdiv 5 % 60⟩]) := (flat_append ..).symm
        repeat (first | (apply G.ex (hd := rfl); case h => (first | exact Ex.move rfl | exact Ex.eqI rfl rfl | exact Ex.indexN rfl rfl (by first | omega | (simp; done) | (simp; omega)) | exact Ex.loadT0 rfl (by first | omega | (simp; done) | (simp; omega)) rfl | exact Ex.quotB rfl rfl (by omega))) | refine G.nil ?_ | refine GC.seq ?_ | refine GC.region ?_ | refine GE.then_normal ?_ | refine GC.cond_yes rfl (by first | assumption | omega) ?_)
        first | refine G.call (caps := []) (picked_sp ((L.getD k default).tdiv 5) 60 (by omega) (by omega)) rfl rfl rfl rfl (by repeat (first | exact Takes.nil | apply Takes.dup rfl | apply Takes.cons | exact Take1.here | apply Take1.there)) ?_ | refine G.callU (caps := []) (picked_sp ((L.getD k default).tdiv 5) 60 (by omega) (by omega)) rfl rfl rfl (by repeat (first | exact Takes.nil | apply Takes.dup rfl | apply Takes.cons | exact Take1.here | apply Take1.there)) ?_
        rintro v_ give_ ⟨rfl, rfl⟩ rs_ hrs_
        simp only [List.cons_append, List.nil_append] at hrs_
        subst hrs_
        repeat (first | (apply G.ex (hd := rfl); case h => (first | exact Ex.build rfl rfl)))
        refine G.lit (cells := flat eAr [(⟨2, 0, ⟨none, 0, 0, []⟩, false, (L.getD k default).tdiv 5 % 60⟩ : ArM)]) rfl (by rfl) (by rfl) (by rfl) (by rfl) (by rfl) (by rfl) rfl (fun q => ?_)
        refine G.app rfl rfl (by rfl) (by omega) rfl (hcat) (fun o2 c2 rs_ hrs_ => ?_)
        try simp only at hrs_
        subst hrs_
        first | refine G.nilvec 5 1 ?_ | refine GC.nilvec 5 1 ?_
        first | refine G.frz none ?_ | refine GC.frz none ?_ | refine GE.frz none ?_
        refine G.conv (fun w_ H_ => Holds.rdSnoc (x := ⟨none, 0, 0, []⟩) (H_.take (need := [.sl none 0 0 1 [], .per (Rd eB 1 (A.map (·.d)))]) (by repeat (first | exact Takes.nil | apply Takes.dup rfl | apply Takes.cons | exact Take1.here | apply Take1.there)))) ?_
        try simp only [List.append_eq, List.nil_append, List.cons_append]
        rw [show A.map (·.d) ++ [⟨none, 0, 0, []⟩] = (A ++ [(⟨2, 0, ⟨none, 0, 0, []⟩, false, (L.getD k default).tdiv 5 % 60⟩ : ArM)]).map (·.d) by rw [List.map_append]; rfl]
        repeat (first | (apply G.ex (hd := rfl); case h => (first | exact Ex.move rfl | exact Ex.add rfl rfl (by omega) | exact Ex.assign rfl)) | refine G.nil ?_ | refine GC.region ?_ | refine GC.exit ?_ | refine GE.then_normal ?_ | refine GE.then_exit ?_ | refine GE.block_hit ?_)
        rw [show (k : Int) + 1 = ((k + 1 : Nat) : Int) by omega]
        refine GE.loop (k + 1, A ++ [⟨2, 0, ⟨none, 0, 0, []⟩, false, (L.getD k default).tdiv 5 % 60⟩], o2, c2) ⟨by simp only; omega, by simp only; omega, by simp only; rw [List.map_append, hA, hsn, hao]; rfl, fun m hm => (List.mem_append.1 hm).elim (hM m) (fun h => by obtain rfl := List.mem_singleton.1 h; exact ⟨.inr rfl, rfl⟩), by simp only [List.length_append, hAl]; rfl⟩ (by simp only; omega) (by simp only [fits]; repeat (first | exact trivial | refine And.intro rfl ?_)) (by repeat (first | exact Takes.nil | apply Takes.dup rfl | apply Takes.cons | exact Take1.here | apply Take1.there)) (by repeat (first | exact Subs.refl | refine Subs.skip ?_))
      · have hf1 := Int.emod_nonneg ((L.getD k default).tdiv 5) (show (s.length : Int) + 1 ≠ 0 by omega)
        have hf2 := Int.emod_lt_of_pos ((L.getD k default).tdiv 5) (show (0 : Int) < (s.length : Int) + 1 by omega)
        have hg1 := Int.emod_nonneg ((L.getD k default).tdiv 1000) (show (64 : Int) ≠ 0 by omega)
        have hg2 := Int.emod_lt_of_pos ((L.getD k default).tdiv 1000) (show (0 : Int) < 64 by omega)
        obtain ⟨F, hF⟩ : ∃ F : Nat, (L.getD k default).tdiv 5 % ((s.length : Int) + 1) = (F : Int) := ⟨((L.getD k default).tdiv 5 % ((s.length : Int) + 1)).toNat, by omega⟩
        obtain ⟨E, hE⟩ : ∃ E : Nat, min (s.length : Int) ((F : Int) + 1 + (L.getD k default).tdiv 1000 % 64) = (E : Int) := ⟨(min (s.length : Int) ((F : Int) + 1 + (L.getD k default).tdiv 1000 % 64)).toNat, by omega⟩
        rw [hF] at hf1 hf2
        have hao : arOf s cl (L.getD k default) = .arr (F : Int) ((s.drop F).take (E - F)) (cl && decide ((E : Int) = s.length)) := by
          unfold arOf; rw [if_neg h5, hF, hE]; rfl
        have hel : ((s.drop F).take (E - F)).length = E - F := by rw [List.length_take, List.length_drop]; omega
        repeat (first | (apply G.ex (hd := rfl); case h => (first | exact Ex.move rfl | exact Ex.add rfl rfl (by omega) | exact Ex.eqI rfl rfl | exact Ex.lenSl rfl | exact Ex.indexN rfl rfl (by first | omega | (simp; done) | (simp; omega)) | exact Ex.loadT0 rfl (by first | omega | (simp; done) | (simp; omega)) rfl | exact Ex.quotB rfl rfl (by omega))) | refine G.nil ?_ | refine GC.seq ?_ | refine GC.region ?_ | refine GC.skip ?_ | refine GE.then_normal ?_ | refine GC.cond_no rfl (by first | assumption | omega) ?_)
        first | refine G.call (caps := []) (picked_sp ((L.getD k default).tdiv 5) ((s.length : Int) + 1) (by omega) (by omega)) rfl rfl rfl rfl (by repeat (first | exact Takes.nil | apply Takes.dup rfl | apply Takes.cons | exact Take1.here | apply Take1.there)) ?_ | refine G.callU (caps := []) (picked_sp ((L.getD k default).tdiv 5) ((s.length : Int) + 1) (by omega) (by omega)) rfl rfl rfl (by repeat (first | exact Takes.nil | apply Takes.dup rfl | apply Takes.cons | exact Take1.here | apply Take1.there)) ?_
        rintro v_ give_ ⟨rfl, rfl⟩ rs_ hrs_
        simp only [List.cons_append, List.nil_append] at hrs_
        subst hrs_
        rw [hF]
        repeat (first | (apply G.ex (hd := rfl); case h => (first | exact Ex.move rfl | exact Ex.add rfl rfl (by omega) | exact Ex.lenSl rfl | exact Ex.indexN rfl rfl (by first | omega | (simp; done) | (simp; omega)) | exact Ex.loadT0 rfl (by first | omega | (simp; done) | (simp; omega)) rfl | exact Ex.assign rfl | exact Ex.quotB rfl rfl (by omega))) | refine G.nil ?_ | refine GC.seq ?_ | refine GC.region ?_ | refine GE.then_normal ?_)
        first | refine G.call (caps := []) (picked_sp ((L.getD k default).tdiv 1000) 64 (by omega) (by omega)) rfl rfl rfl rfl (by repeat (first | exact Takes.nil | apply Takes.dup rfl | apply Takes.cons | exact Take1.here | apply Take1.there)) ?_ | refine G.callU (caps := []) (picked_sp ((L.getD k default).tdiv 1000) 64 (by omega) (by omega)) rfl rfl rfl (by repeat (first | exact Takes.nil | apply Takes.dup rfl | apply Takes.cons | exact Take1.here | apply Take1.there)) ?_
        rintro v_ give_ ⟨rfl, rfl⟩ rs_ hrs_
        simp only [List.cons_append, List.nil_append] at hrs_
        subst hrs_
        repeat (first | (apply G.ex (hd := rfl); case h => (first | exact Ex.move rfl | exact Ex.add rfl rfl (by omega) | exact Ex.assign rfl | exact Ex.min rfl rfl)) | refine G.nil ?_ | refine GC.region ?_ | refine GE.then_normal ?_)
        rw [hE]
        repeat (first | fail)
        refine G.sub (l := F) (r := E) rfl rfl (by first | exact .inl ⟨rfl, rfl⟩ | exact .inr ⟨_, _, rfl, ev_int rfl (by omega)⟩) (by first | exact .inl ⟨rfl, rfl⟩ | exact .inr ⟨_, _, rfl, ev_int rfl (by omega)⟩) (by omega) rfl (rfl) (fun s2 => ?_)
        rw [flat_cutB]
        refine G.appNil rfl rfl (by rfl) (by omega) rfl (rfl) (fun a2 c2 => ?_)
        first | refine G.frz a2 ?_ | refine GC.frz a2 ?_ | refine GE.frz a2 ?_
        cases cl with
        | true =>
          have hcat : flat eAr A ++ flat eAr [(⟨1, (F : Int), ⟨a2, E - F, c2, (s.drop F).take (E - F)⟩, true && decide ((E : Int) = s.length), 0⟩ : ArM)] = flat eAr (A ++ [⟨1, (F : Int), ⟨a2, E - F, c2, (s.drop F).take (E - F)⟩, true && decide ((E : Int) = s.length), 0⟩]) := (flat_append ..).symm
          repeat (first | (apply G.ex (hd := rfl); case h => (first | exact Ex.move rfl | exact Ex.eqI rfl rfl | exact Ex.lenSl rfl | exact Ex.build rfl rfl | exact Ex.pickLT rfl rfl)) | refine G.yes rfl rfl ?_)
          refine G.lit (cells := flat eAr [(⟨1, (F : Int), ⟨a2, E - F, c2, (s.drop F).take (E - F)⟩, true && decide ((E : Int) = s.length), 0⟩ : ArM)]) rfl (by rfl) (by rfl) (by rfl) (by rfl) (by rfl) (by rfl) rfl (fun q => ?_)
          refine G.app rfl rfl (by rfl) (by omega) rfl (hcat) (fun o2 oc2 rs_ hrs_ => ?_)
          try simp only at hrs_
          subst hrs_
          refine G.conv (fun w_ H_ => Holds.rdSnoc (x := ⟨a2, E - F, c2, (s.drop F).take (E - F)⟩) (H_.take (need := [.sl a2 (E - F) c2 1 (flat eB ((s.drop F).take (E - F))), .per (Rd eB 1 (A.map (·.d)))]) (by repeat (first | exact Takes.nil | apply Takes.dup rfl | apply Takes.cons | exact Take1.here | apply Take1.there)))) ?_
          try simp only [List.append_eq, List.nil_append, List.cons_append]
          rw [show A.map (·.d) ++ [⟨a2, E - F, c2, (s.drop F).take (E - F)⟩] = (A ++ [(⟨1, (F : Int), ⟨a2, E - F, c2, (s.drop F).take (E - F)⟩, true && decide ((E : Int) = s.length), 0⟩ : ArM)]).map (·.d) by rw [List.map_append]; rfl]
          repeat (first | (apply G.ex (hd := rfl); case h => (first | exact Ex.move rfl | exact Ex.add rfl rfl (by omega) | exact Ex.assign rfl)) | refine G.nil ?_ | refine GC.region ?_ | refine GE.then_normal ?_ | refine GE.block_normal ?_)
          rw [show (k : Int) + 1 = ((k + 1 : Nat) : Int) by omega]
          refine GE.loop (k + 1, A ++ [⟨1, (F : Int), ⟨a2, E - F, c2, (s.drop F).take (E - F)⟩, true && decide ((E : Int) = s.length), 0⟩], o2, oc2) ⟨by simp only; omega, by simp only; omega, by simp only; rw [List.map_append, hA, hsn, hao]; rfl, fun m hm => (List.mem_append.1 hm).elim (hM m) (fun h => by obtain rfl := List.mem_singleton.1 h; exact ⟨.inl rfl, hel⟩), by simp only [List.length_append, hAl]; rfl⟩ (by simp only; omega) (by simp only [fits]; repeat (first | exact trivial | refine And.intro rfl ?_)) (by repeat (first | exact Takes.nil | apply Takes.dup rfl | apply Takes.cons | exact Take1.here | apply Take1.there)) (by repeat (first | exact Subs.refl | refine Subs.skip ?_))
        | false =>
          have hcat : flat eAr A ++ flat eAr [(⟨1, (F : Int), ⟨a2, E - F, c2, (s.drop F).take (E - F)⟩, false && decide ((E : Int) = s.length), 0⟩ : ArM)] = flat eAr (A ++ [⟨1, (F : Int), ⟨a2, E - F, c2, (s.drop F).take (E - F)⟩, false && decide ((E : Int) = s.length), 0⟩]) := (flat_append ..).symm
          repeat (first | (apply G.ex (hd := rfl); case h => (first | exact Ex.move rfl | exact Ex.build rfl rfl | exact Ex.pickLF rfl rfl)) | refine G.l_tf rfl rfl rfl ?_)
          refine G.lit (cells := flat eAr [(⟨1, (F : Int), ⟨a2, E - F, c2, (s.drop F).take (E - F)⟩, false && decide ((E : Int) = s.length), 0⟩ : ArM)]) rfl (by rfl) (by rfl) (by rfl) (by rfl) (by rfl) (by rfl) rfl (fun q => ?_)
          refine G.app rfl rfl (by rfl) (by omega) rfl (hcat) (fun o2 oc2 rs_ hrs_ => ?_)
          try simp only at hrs_
          subst hrs_
          refine G.conv (fun w_ H_ => Holds.rdSnoc (x := ⟨a2, E - F, c2, (s.drop F).take (E - F)⟩) (H_.take (need := [.sl a2 (E - F) c2 1 (flat eB ((s.drop F).take (E - F))), .per (Rd eB 1 (A.map (·.d)))]) (by repeat (first | exact Takes.nil | apply Takes.dup rfl | apply Takes.cons | exact Take1.here | apply Take1.there)))) ?_
          try simp only [List.append_eq, List.nil_append, List.cons_append]
          rw [show A.map (·.d) ++ [⟨a2, E - F, c2, (s.drop F).take (E - F)⟩] = (A ++ [(⟨1, (F : Int), ⟨a2, E - F, c2, (s.drop F).take (E - F)⟩, false && decide ((E : Int) = s.length), 0⟩ : ArM)]).map (·.d) by rw [List.map_append]; rfl]
          repeat (first | (apply G.ex (hd := rfl); case h => (first | exact Ex.move rfl | exact Ex.add rfl rfl (by omega) | exact Ex.assign rfl)) | refine G.nil ?_ | refine GC.region ?_ | refine GE.then_normal ?_ | refine GE.block_normal ?_)
          rw [show (k : Int) + 1 = ((k + 1 : Nat) : Int) by omega]
          refine GE.loop (k + 1, A ++ [⟨1, (F : Int), ⟨a2, E - F, c2, (s.drop F).take (E - F)⟩, false && decide ((E : Int) = s.length), 0⟩], o2, oc2) ⟨by simp only; omega, by simp only; omega, by simp only; rw [List.map_append, hA, hsn, hao]; rfl, fun m hm => (List.mem_append.1 hm).elim (hM m) (fun h => by obtain rfl := List.mem_singleton.1 h; exact ⟨.inl rfl, hel⟩), by simp only [List.length_append, hAl]; rfl⟩ (by simp only; omega) (by simp only [fits]; repeat (first | exact trivial | refine And.intro rfl ?_)) (by repeat (first | exact Takes.nil | apply Takes.dup rfl | apply Takes.cons | exact Take1.here | apply Take1.there)) (by repeat (first | exact Subs.refl | refine Subs.skip ?_))
    · have hke : k = N := by omega
      subst hke
      repeat (first | (apply G.ex (hd := rfl); case h => (first | exact Ex.move rfl | exact Ex.lss rfl rfl | exact Ex.lenSl rfl | exact Ex.assign rfl | exact Ex.pickT rfl (by first | assumption | omega) rfl)) | refine G.g_tt rfl rfl (by first | assumption | omega) ?_ | refine G.nil ?_ | refine GC.seq ?_ | refine GC.region ?_ | refine GC.ret ?_ | refine GC.exit ?_ | refine GE.then_normal ?_ | refine GE.then_exit ?_ | refine GE.block_hit ?_ | refine GC.cond_no rfl (by first | assumption | omega) ?_)
      subst hAl
      refine GE.ret (by first | exact .inl rfl | exact .inr rfl) (by first | exact res0 Try.results12 | exact res1 Try.results12 rfl | exact res2 Try.results12 rfl rfl | exact resR1 Try.results12 (by first | exact RV.tmp rfl | exact RV.cell rfl (eP_len _) | exact RV.cell rfl rfl | exact RV.cell1 rfl) | exact resR2 Try.results12 (by first | exact RV.tmp rfl | exact RV.cell rfl (eP_len _) | exact RV.cell rfl rfl | exact RV.cell1 rfl) (by first | exact RV.tmp rfl | exact RV.cell rfl (eP_len _) | exact RV.cell rfl rfl | exact RV.cell1 rfl) | exact resR3 Try.results12 (by first | exact RV.tmp rfl | exact RV.cell rfl (eP_len _) | exact RV.cell rfl rfl | exact RV.cell1 rfl) (by first | exact RV.tmp rfl | exact RV.cell rfl (eP_len _) | exact RV.cell rfl rfl | exact RV.cell1 rfl) (by first | exact RV.tmp rfl | exact RV.cell rfl (eP_len _) | exact RV.cell rfl rfl | exact RV.cell1 rfl)) ⟨A, oa, oc, hA, hM, rfl, rfl⟩ (by repeat (first | exact Takes.nil | apply Takes.dup rfl | apply Takes.cons | exact Take1.here | apply Take1.there)) (by repeat (first | exact Subs.refl | refine Subs.skip ?_))
  · have hke : L.take N = L.take k := by rw [List.take_of_length_le (by omega), List.take_of_length_le (by omega)]
    rw [← hke] at hA
    repeat (first | (apply G.ex (hd := rfl); case h => (first | exact Ex.move rfl | exact Ex.lss rfl rfl | exact Ex.lenSl rfl | exact Ex.assign rfl | exact Ex.pickF rfl (by first | assumption | omega) rfl)) | refine G.g_tf rfl rfl (by first | assumption | omega) rfl ?_ | refine G.nil ?_ | refine GC.seq ?_ | refine GC.region ?_ | refine GC.ret ?_ | refine GC.exit ?_ | refine GE.then_normal ?_ | refine GE.then_exit ?_ | refine GE.block_hit ?_ | refine GC.cond_f rfl ?_)
    subst hAl
    refine GE.ret (by first | exact .inl rfl | exact .inr rfl) (by first | exact res0 Try.results12 | exact res1 Try.results12 rfl | exact res2 Try.results12 rfl rfl | exact resR1 Try.results12 (by first | exact RV.tmp rfl | exact RV.cell rfl (eP_len _) | exact RV.cell rfl rfl | exact RV.cell1 rfl) | exact resR2 Try.results12 (by first | exact RV.tmp rfl | exact RV.cell rfl (eP_len _) | exact RV.cell rfl rfl | exact RV.cell1 rfl) (by first | exact RV.tmp rfl | exact RV.cell rfl (eP_len _) | exact RV.cell rfl rfl | exact RV.cell1 rfl) | exact resR3 Try.results12 (by first | exact RV.tmp rfl | exact RV.cell rfl (eP_len _) | exact RV.cell rfl rfl | exact RV.cell1 rfl) (by first | exact RV.tmp rfl | exact RV.cell rfl (eP_len _) | exact RV.cell rfl rfl | exact RV.cell1 rfl) (by first | exact RV.tmp rfl | exact RV.cell rfl (eP_len _) | exact RV.cell rfl rfl | exact RV.cell1 rfl)) ⟨A, oa, oc, hA, hM, rfl, rfl⟩ (by repeat (first | exact Takes.nil | apply Takes.dup rfl | apply Takes.cons | exact Take1.here | apply Take1.there)) (by repeat (first | exact Subs.refl | refine Subs.skip ?_))
end recv
end Go.Proofs.Ytfopnlfdoljcdaa
