/-
  THE LAWS LzFresh, LzRuns and LzBegins, by the kit.
-/
import Derived.Test.YtomibkfpeiceoaaLz3
import Derived.Test.YtomibkfpeiceoaaLzQ
namespace Go.Proofs.Ytomibkfpeiceoaa
open Go.RowKit
attribute [local irreducible] Ex G GC GE Gq FPost LPost
set_option linter.unusedVariables false
set_option linter.unusedSimpArgs false

namespace lz
theorem getD_mapT (b : List UInt8) (i : Nat) (h : i < b.length) : (b.map fun x => (⟨x, 0, 0⟩ : Tok)).getD i default = ⟨b.getD i default, 0, 0⟩ := by
  rw [List.getD_eq_getElem?_getD, List.getD_eq_getElem?_getD, List.getElem?_map, List.getElem?_eq_getElem h]; rfl
set_option maxHeartbeats 4000000 in
theorem lzFresh_sp (a0 : Int) (ha0 : -9223372036854775808 ≤ a0 ∧ a0 ≤ 9223372036854775807) (a1 : Int) (ha1 : -9223372036854775808 ≤ a1 ∧ a1 ≤ 9223372036854775807) :
    Spec Try.prog 11 [.int .i64 a0, .int .i64 a1] [] fun v give => v = .bool true ∧ give = [] := by
  obtain ⟨q, hq, hq1⟩ : ∃ q : Nat, a0 % 128 = q ∧ q < 128 := ⟨(a0 % 128).toNat, by omega, by omega⟩
  obtain ⟨s, hs, hs1⟩ : ∃ q : Nat, a0 % 256 = q ∧ q < 256 := ⟨(a0 % 256).toNat, by omega, by omega⟩
  obtain ⟨N, hN, hN1⟩ : ∃ q : Nat, a1 % 257 = q ∧ q ≤ 256 := ⟨(a1 % 257).toNat, by omega, by omega⟩
  refine Spec.intro Try.func11 rfl Try.ntmps11 rfl fun w0 rest rs_ hrs_ => ?_
  simp only [List.cons_append, List.nil_append] at hrs_
  subst hrs_
  repeat (first | (apply G.ex (hd := rfl); case h => (first | exact Ex.move rfl | exact Ex.assign rfl)) | refine G.nil ?_ | refine GC.seq ?_ | refine GC.region ?_ | refine GE.then_normal ?_)
  first | refine G.call (caps := []) (picked_sp a0 128 (by omega) (by omega)) rfl rfl rfl rfl (by repeat (first | exact Takes.nil | apply Takes.dup rfl | apply Takes.cons | exact Take1.here | apply Take1.there)) ?_ | refine G.callU (caps := []) (picked_sp a0 128 (by omega) (by omega)) rfl rfl rfl (by repeat (first | exact Takes.nil | apply Takes.dup rfl | apply Takes.cons | exact Take1.here | apply Take1.there)) ?_
  rintro v_ give_ ⟨rfl, rfl⟩ rs_ hrs_
  simp only [List.cons_append, List.nil_append] at hrs_
  subst hrs_
  rw [hq]
  repeat (first | (apply G.ex (hd := rfl); case h => (first | exact Ex.add rfl rfl (by omega) | exact Ex.assign rfl | exact Ex.mul rfl rfl (by omega))) | refine G.nil ?_ | refine GC.seq ?_ | refine GC.region ?_ | refine GC.block ?_ | refine GE.then_normal ?_)
  first | refine G.nilvec 5 1 ?_ | refine GC.nilvec 5 1 ?_
  obtain ⟨kk, hkk⟩ : ∃ kk : Int, 1 + 2 * (q : Int) = kk := ⟨_, rfl⟩
  rw [hkk]
  refine GC.loop (ι := Nat × Option Addr × Nat × List UInt8) (fun i => i.1 ≤ N ∧ i.2.2.2.length = i.1 ∧ ∀ j, j < i.1 → g i.2.2.2 j = byteZ ((j : Int) * kk + s)) (fun i => N - i.1) (fun i => [(0, .int .i64 a0), (1, .int .i64 a1), (5, .slice i.2.1 i.1 i.2.2.1), (6, .int .i64 kk), (7, .int .i64 (i.1 : Int))]) (fun i => [.vec 5 1 i.2.1 i.1 i.2.2.1 (flat eB i.2.2.2)]) (0, none, 0, []) ⟨Nat.zero_le _, rfl, fun j h => absurd h (by simp)⟩ (by simp only [fits]; repeat (first | exact trivial | refine And.intro rfl ?_)) (by repeat (first | exact Takes.nil | apply Takes.dup rfl | apply Takes.cons | exact Take1.here | apply Take1.there)) ?_
  rintro ⟨i, xa, xc, X⟩ ⟨hi, hX, hg⟩ fr_ rs_ hfr_ hrs_
  simp only [List.cons_append, List.nil_append] at hfr_ hrs_
  subst hfr_ hrs_
  simp only at hi hX hg
  repeat (first | (apply G.ex (hd := rfl); case h => (first | exact Ex.move rfl)) | refine GC.seq ?_ | refine GC.region ?_)
  first | refine G.call (caps := []) (picked_sp a1 257 (by omega) (by omega)) rfl rfl rfl rfl (by repeat (first | exact Takes.nil | apply Takes.dup rfl | apply Takes.cons | exact Take1.here | apply Take1.there)) ?_ | refine G.callU (caps := []) (picked_sp a1 257 (by omega) (by omega)) rfl rfl rfl (by repeat (first | exact Takes.nil | apply Takes.dup rfl | apply Takes.cons | exact Take1.here | apply Take1.there)) ?_
  rintro v_ give_ ⟨rfl, rfl⟩ rs_ hrs_
  simp only [List.cons_append, List.nil_append] at hrs_
  subst hrs_
  rw [hN]
  repeat (first | (apply G.ex (hd := rfl); case h => (first | exact Ex.lss rfl rfl)) | refine G.nil ?_ | refine GE.then_normal ?_)
  refine GC.cond_dec rfl (fun hlt => ?_) (fun hlt => ?_)
  · have hlt : i < N := by omega
    have hm1 : 0 ≤ (i : Int) * kk := Int.mul_nonneg (by omega) (by omega)
    have hm2 : (i : Int) * kk ≤ 256 * 257 := Int.mul_le_mul (by omega) (by omega) (by omega) (by omega)
    repeat (first | (apply G.ex (hd := rfl); case h => (first | exact Ex.move rfl | exact Ex.mul rfl rfl (by omega))) | refine GC.seq ?_ | refine GC.region ?_ | refine GC.block ?_ | refine GC.skip ?_ | refine GE.then_normal ?_)
    first | refine G.call (caps := []) (picked_sp a0 256 (by omega) (by omega)) rfl rfl rfl rfl (by repeat (first | exact Takes.nil | apply Takes.dup rfl | apply Takes.cons | exact Take1.here | apply Take1.there)) ?_ | refine G.callU (caps := []) (picked_sp a0 256 (by omega) (by omega)) rfl rfl rfl (by repeat (first | exact Takes.nil | apply Takes.dup rfl | apply Takes.cons | exact Take1.here | apply Take1.there)) ?_
    rintro v_ give_ ⟨rfl, rfl⟩ rs_ hrs_
    simp only [List.cons_append, List.nil_append] at hrs_
    subst hrs_
    rw [hs]
    repeat (first | (apply G.ex (hd := rfl); case h => (first | exact Ex.add rfl rfl (by omega) | exact Ex.conv8 rfl)))
    rw [← byteZ_toNat ((i : Int) * kk + s)]
    refine G.lit rfl (by rfl) (by rfl) (by rfl) (by rfl) (by rfl) (by rfl) rfl (fun y => ?_)
    have hcat : flat eB X ++ flat eB [byteZ ((i : Int) * kk + s)] = flat eB (X ++ [byteZ ((i : Int) * kk + s)]) := (flat_append ..).symm
    refine G.app rfl rfl (by rfl) (by omega) rfl (hcat) (fun x2 c2 rs_ hrs_ => ?_)
    try simp only at hrs_
    subst hrs_
    have hg' : ∀ j, j < i + 1 → g (X ++ [byteZ ((i : Int) * kk + s)]) j = byteZ ((j : Int) * kk + s) := by
      intro j hj
      unfold g at hg ⊢
      by_cases hji : j < i
      · rw [← hg j hji, List.getD_eq_getElem?_getD, List.getD_eq_getElem?_getD, List.getElem?_append_left (by omega)]
      · obtain rfl : j = i := by omega
        rw [List.getD_eq_getElem?_getD, List.getElem?_append_right (by omega), hX, Nat.sub_self]; rfl
    refine G.drop ?_
    clear hm1 hm2
    repeat (first | (apply G.ex (hd := rfl); case h => (first | exact Ex.move rfl | exact Ex.add rfl rfl (by omega) | exact Ex.assign rfl)) | refine G.nil ?_ | refine GC.region ?_ | refine GE.then_normal ?_ | refine GE.block_normal ?_)
    refine GE.loop (i + 1, x2, c2, X ++ [byteZ ((i : Int) * kk + s)]) ⟨by simp only; omega, by simp [hX], hg'⟩ (by simp only; omega) (by simp only [fits]; repeat (first | exact trivial | refine And.intro rfl ?_)) (by repeat (first | exact Takes.nil | apply Takes.dup rfl | apply Takes.cons | exact Take1.here | apply Take1.there)) (by repeat (first | exact Subs.refl | refine Subs.skip ?_))
  · obtain rfl : i = N := by omega
    have hdist : ∀ u v, u < X.length → v < X.length → g X u = g X v → u = v := by
      intro u v hu hv he
      rw [hg u (by omega), hg v (by omega)] at he
      have h1 := byteZ_toNat ((u : Int) * kk + s)
      have h2 := byteZ_toNat ((v : Int) * kk + s)
      rw [he, h2] at h1
      refine odd_inj q s u v hq1 (by omega) (by omega) ?_
      rw [← hkk] at h1
      have e : ∀ w : Nat, ((w : Int) * (1 + 2 * (q : Int)) + s) % 256 = (((w * (1 + 2 * q) + s) % 256 : Nat) : Int) := fun w => by
        rw [Int.natCast_emod, Int.natCast_add, Int.natCast_mul, Int.natCast_add, Int.natCast_mul]; rfl
      rw [e, e] at h1
      omega
    have hpf := parse_fresh X hdist
    have hTl : (parse X).length = i := by rw [hpf]; simp [hX]
    have hTg : ∀ j, j < i → (parse X).getD j default = ⟨X.getD j default, 0, 0⟩ := fun j hj => by rw [hpf]; exact getD_mapT X j (by omega)
    clear hpf hdist hg
    repeat (first | (apply G.ex (hd := rfl); case h => (first | exact Ex.move rfl)) | refine GC.seq ?_ | refine GC.region ?_ | refine GC.exit ?_ | refine GE.then_normal ?_ | refine GE.then_exit ?_ | refine GE.block_hit ?_)
    refine G.appNil rfl rfl (by rfl) (by omega) rfl (rfl) (fun ya yc => ?_)
    repeat (first | fail)
    first | refine G.frz ya ?_ | refine GC.frz ya ?_ | refine GE.frz ya ?_
    first | refine G.call (caps := []) (parse_sp ya i yc X hX (by omega)) rfl rfl rfl rfl (by repeat (first | exact Takes.nil | apply Takes.dup rfl | apply Takes.cons | exact Take1.here | apply Take1.there)) ?_ | refine G.callU (caps := []) (parse_sp ya i yc X hX (by omega)) rfl rfl rfl (by repeat (first | exact Takes.nil | apply Takes.dup rfl | apply Takes.cons | exact Take1.here | apply Take1.there)) ?_
    rintro v_ give_ ⟨ta, tc, rfl, rfl⟩ rs_ hrs_
    simp only [List.cons_append, List.nil_append] at hrs_
    subst hrs_
    rw [hTl]
    generalize parse X = T at *
    repeat (first | (apply G.ex (hd := rfl); case h => (first | exact Ex.move rfl | exact Ex.neI rfl rfl | exact Ex.extract rfl rfl | exact Ex.assign rfl)) | refine G.g_ff rfl rfl (by first | assumption | omega) ?_ | refine G.nil ?_ | refine GC.seq ?_ | refine GC.region ?_ | refine GE.then_normal ?_)
    first | refine G.call (caps := []) (sure_sp) rfl rfl rfl rfl (by repeat (first | exact Takes.nil | apply Takes.dup rfl | apply Takes.cons | exact Take1.here | apply Take1.there)) ?_ | refine G.callU (caps := []) (sure_sp) rfl rfl rfl (by repeat (first | exact Takes.nil | apply Takes.dup rfl | apply Takes.cons | exact Take1.here | apply Take1.there)) ?_
    rintro v_ give_ ⟨rfl, rfl⟩ rs_ hrs_
    simp only [List.cons_append, List.nil_append] at hrs_
    subst hrs_
    repeat (first | (apply G.ex (hd := rfl); case h => (first | exact Ex.move rfl | exact Ex.neI rfl rfl | exact Ex.lenSl rfl | exact Ex.assign rfl | exact Ex.notB rfl | exact Ex.pickF rfl (by first | assumption | omega) rfl | exact Ex.pickLF rfl rfl)) | refine G.g_ff rfl rfl (by first | assumption | omega) ?_ | refine G.yes rfl rfl ?_ | refine G.nil ?_ | refine GC.seq ?_ | refine GC.region ?_ | refine GC.block ?_ | refine GC.skip ?_ | refine GE.then_normal ?_ | refine GC.cond_no rfl (by first | assumption | omega) ?_)
    refine GC.loop (ι := Nat) (fun j => j ≤ i) (fun j => i - j) (fun j => [(5, .slice xa i xc), (8, .slice ta i tc), (10, .int .i64 (j : Int))]) (fun j => [.sl ta i tc 3 (flat eT T), .vec 5 1 xa i xc (flat eB X)]) 0 (Nat.zero_le _) (by simp only [fits]; repeat (first | exact trivial | refine And.intro rfl ?_)) (by repeat (first | exact Takes.nil | apply Takes.dup rfl | apply Takes.cons | exact Take1.here | apply Take1.there)) ?_
    rintro j hj fr_ rs_ hfr_ hrs_
    simp only [List.cons_append, List.nil_append] at hfr_ hrs_
    subst hfr_ hrs_
    repeat (first | (apply G.ex (hd := rfl); case h => (first | exact Ex.move rfl | exact Ex.lss rfl rfl | exact Ex.lenSl rfl)) | refine G.nil ?_ | refine GC.seq ?_ | refine GC.region ?_ | refine GE.then_normal ?_)
    refine GC.cond_dec rfl (fun hjt => ?_) (fun hjt => ?_)
    · have hjt : j < i := by omega
      have e := hTg j hjt
      have e1 : (T.getD j default).len = 0 := by rw [e]
      have e2 : (T.getD j default).dist = 0 := by rw [e]
      have e3 : ¬ ¬ (T.getD j default).byte = X.getD j default := by rw [e]; simp
      clear e hTg
      repeat (first | (apply G.ex (hd := rfl); case h => (first | exact Ex.move rfl | exact Ex.add rfl rfl (by omega) | exact Ex.assign rfl)) | refine G.nil ?_ | (apply Gq.ex (hd := rfl); case h => (first | exact Ex.move rfl | exact Ex.fieldE rfl | exact Ex.neBy rfl rfl | exact Ex.neI rfl rfl | exact Ex.indexN rfl rfl (by first | omega | (simp; done) | (simp; omega)) | exact Ex.loadT0 rfl (by first | omega | (simp; done) | (simp; omega)) rfl | exact Ex.loadT rfl (by first | omega | (simp; done) | (simp; omega)) rfl | exact Ex.pickF rfl (by first | assumption | omega) rfl)) | refine Gq.g_ff rfl rfl (by first | assumption | omega) ?_ | refine Gq.nil ?_ | refine GC.seq ?_ | refine GC.region ?_ | refine GC.draw (by kernel_rfl) (by kernel_rfl) ?_ | refine GC.block ?_ | refine GC.skip ?_ | refine GE.then_normal ?_ | refine GE.block_normal ?_ | refine GC.cond_no rfl (by first | assumption | omega) ?_)
      refine GE.loop (j + 1) (by omega) (by omega) (by simp only [fits]; repeat (first | exact trivial | refine And.intro rfl ?_)) (by repeat (first | exact Takes.nil | apply Takes.dup rfl | apply Takes.cons | exact Take1.here | apply Take1.there)) (by repeat (first | exact Subs.refl | refine Subs.skip ?_))
    · repeat (first | (apply G.ex (hd := rfl); case h => (first | exact Ex.assign rfl)) | refine G.nil ?_ | refine GC.seq ?_ | refine GC.region ?_ | refine GC.ret ?_ | refine GC.exit ?_ | refine GE.then_normal ?_ | refine GE.then_exit ?_ | refine GE.block_hit ?_)
      refine GE.ret (by first | exact .inl rfl | exact .inr rfl) (by first | exact res0 Try.results11 | exact res1 Try.results11 rfl | exact res2 Try.results11 rfl rfl | exact resR1 Try.results11 (by first | exact RV.tmp rfl | exact RV.cell rfl rfl | exact RV.cell1 rfl) | exact resR2 Try.results11 (by first | exact RV.tmp rfl | exact RV.cell rfl rfl | exact RV.cell1 rfl) (by first | exact RV.tmp rfl | exact RV.cell rfl rfl | exact RV.cell1 rfl) | exact resR3 Try.results11 (by first | exact RV.tmp rfl | exact RV.cell rfl rfl | exact RV.cell1 rfl) (by first | exact RV.tmp rfl | exact RV.cell rfl rfl | exact RV.cell1 rfl) (by first | exact RV.tmp rfl | exact RV.cell rfl rfl | exact RV.cell1 rfl)) ⟨rfl, rfl⟩ (by repeat (first | exact Takes.nil | apply Takes.dup rfl | apply Takes.cons | exact Take1.here | apply Take1.there)) (by repeat (first | exact Subs.refl | refine Subs.skip ?_))
end lz
end Go.Proofs.Ytomibkfpeiceoaa
