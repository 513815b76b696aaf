/-
  CONTRACT of packthreadkeep.PathBy: the path that a number stands for, by the kit.
-/
import Derived.Test.YthplilldkdehnaaCom
import Derived.Test.YthplilldkdehnaaKit23
import Derived.Test.YthplilldkdehnaaKit27
namespace Go.Proofs.Ythplilldkdehnaa
open Go.RowKit
attribute [local irreducible] Ex G GC GE Gq FPost LPost
set_option linter.unusedVariables false
set_option linter.unusedSimpArgs false

/-- the name with a number -/
def nmF (k : Int) : List UInt8 := if k = 0 then [97] else if k = 1 then [98] else if k = 2 then [99] else [100]
def pathK (a : Int) : Nat → List UInt8
  | 0 => []
  | i + 1 => pathK a i ++ (47 :: nmF (a.tdiv (7 * ((i : Int) + 1)) % 4))
def pathF (a : Int) : List UInt8 := pathK a (1 + (a % 3).toNat)
theorem nmF_len (k : Int) : (nmF k).length = 1 := by unfold nmF; repeat' split
                                                     all_goals rfl
theorem pathK_len (a : Int) : ∀ i, (pathK a i).length = 2 * i
  | 0 => rfl
  | i + 1 => by rw [pathK, List.length_append, pathK_len a i, List.length_cons, nmF_len]; omega
theorem pathF_len (a : Int) : (pathF a).length ≤ 6 := by
  unfold pathF; rw [pathK_len]; omega
def eO (s : List UInt8) : List Value := [.string (sOf s)]
instance : Enc eO 1 := ⟨fun _ => rfl, fun x u hu => by simp [eO] at hu; subst hu; rfl⟩
theorem tdiv_in (a m : Int) (hm : 0 < m) (ha : -9223372036854775808 ≤ a ∧ a ≤ 9223372036854775807) : -9223372036854775808 ≤ a.tdiv m ∧ a.tdiv m ≤ 9223372036854775807 := by
  by_cases h : 0 ≤ a
  · rw [Int.tdiv_eq_ediv_of_nonneg h]
    have h1 := Int.ediv_nonneg h (Int.le_of_lt hm)
    have h2 := Int.ediv_le_self m h
    omega
  · have e : a = -(-a) := by omega
    rw [e, Int.neg_tdiv, Int.tdiv_eq_ediv_of_nonneg (show 0 ≤ -a by omega)]
    have h1 := Int.ediv_nonneg (show 0 ≤ -a by omega) (Int.le_of_lt hm)
    have h2 := Int.ediv_le_self m (show 0 ≤ -a by omega)
    omega
set_option maxHeartbeats 1000000 in
theorem pathBy_sp (a : Int) (ha : -9223372036854775808 ≤ a ∧ a ≤ 9223372036854775807) : Spec Try.prog 16 [.int .i64 a] [] fun v give => v = .string (sOf (pathF a)) ∧ give = [] := by
  have h3 := Int.emod_nonneg a (show (3 : Int) ≠ 0 by decide)
  have h3' := Int.emod_lt_of_pos a (show (0 : Int) < 3 by decide)
  obtain ⟨K, hK⟩ : ∃ K : Nat, 1 + a % 3 = (K : Int) := ⟨1 + (a % 3).toNat, by omega⟩
  have hK2 : 1 + (a % 3).toNat = K := by omega
  refine Spec.intro Try.func16 rfl Try.ntmps16 rfl fun w0 rest rs_ hrs_ => ?_
  simp only [List.cons_append, List.nil_append] at hrs_
  subst hrs_
  repeat (first | (apply G.ex (hd := rfl); case h => (first | exact Ex.assign rfl)) | refine G.nil ?_ | refine GC.seq ?_ | refine GC.region ?_ | refine GC.block ?_ | refine GE.then_normal ?_)
  refine GC.loop (ι := Nat) (fun i => i ≤ K) (fun i => K - i) (fun i => [(0, .int .i64 a), (3, .string (sOf (pathK a i))), (4, .int .i64 (i : Int))]) (fun i => []) 0 (Nat.zero_le _) (by simp only [fits]; repeat (first | exact trivial | refine And.intro rfl ?_)) (by repeat (first | exact Takes.nil | apply Takes.dup rfl | apply Takes.cons | exact Take1.here | apply Take1.there)) ?_
  rintro i hi fr_ rs_ hfr_ hrs_
  simp only [List.cons_append, List.nil_append] at hfr_ hrs_
  subst hfr_ hrs_
  have hpl := pathK_len a i
  repeat (first | (apply G.ex (hd := rfl); case h => (first | exact Ex.move rfl)) | refine GC.seq ?_ | refine GC.region ?_)
  first | refine G.call (caps := []) (picked_sp a 3 (by decide) (by decide)) rfl rfl rfl rfl (by repeat (first | exact Takes.nil | apply Takes.dup rfl | apply Takes.cons | exact Take1.here | apply Take1.there)) ?_ | refine G.callU (caps := []) (picked_sp a 3 (by decide) (by decide)) rfl rfl rfl (by repeat (first | exact Takes.nil | apply Takes.dup rfl | apply Takes.cons | exact Take1.here | apply Take1.there)) ?_
  rintro v_ give_ ⟨rfl, rfl⟩ rs_ hrs_
  simp only [List.cons_append, List.nil_append] at hrs_
  subst hrs_
  repeat (first | (apply G.ex (hd := rfl); case h => (first | exact Ex.add rfl rfl (by omega) | exact Ex.lss rfl rfl)) | refine G.nil ?_ | refine GE.then_normal ?_)
  refine GC.cond_dec rfl (fun hlt => ?_) (fun hlt => ?_)
  · have hlt : i < K := by omega
    have e7 : (0 : Int) < 7 * ((i : Int) + 1) := by omega
    have ht := tdiv_in a (7 * ((i : Int) + 1)) e7 ha
    repeat (first | (apply G.ex (hd := rfl); case h => (first | exact Ex.move rfl)) | refine GC.seq ?_ | refine GC.region ?_ | refine GC.block ?_ | refine GC.skip ?_ | refine GE.then_normal ?_)
    refine G.lit rfl (by rfl) (by rfl) (by rfl) (by rfl) (by rfl) (by rfl) rfl (fun y => ?_)
    repeat (first | (apply G.ex (hd := rfl); case h => (first | exact Ex.move rfl | exact Ex.add rfl rfl (by omega) | exact Ex.quotB rfl rfl (by omega) | exact Ex.mul rfl rfl (by omega))))
    first | refine G.call (caps := []) (picked_sp (a.tdiv (7 * ((i : Int) + 1))) 4 (by decide) (by decide)) rfl rfl rfl rfl (by repeat (first | exact Takes.nil | apply Takes.dup rfl | apply Takes.cons | exact Take1.here | apply Take1.there)) ?_ | refine G.callU (caps := []) (picked_sp (a.tdiv (7 * ((i : Int) + 1))) 4 (by decide) (by decide)) rfl rfl rfl (by repeat (first | exact Takes.nil | apply Takes.dup rfl | apply Takes.cons | exact Take1.here | apply Take1.there)) ?_
    rintro v_ give_ ⟨rfl, rfl⟩ rs_ hrs_
    simp only [List.cons_append, List.nil_append] at hrs_
    subst hrs_
    have h4 := Int.emod_nonneg (a.tdiv (7 * ((i : Int) + 1))) (show (4 : Int) ≠ 0 by decide)
    have h4' := Int.emod_lt_of_pos (a.tdiv (7 * ((i : Int) + 1))) (show (0 : Int) < 4 by decide)
    obtain ⟨Z, hZ⟩ : ∃ Z, a.tdiv (7 * ((i : Int) + 1)) % 4 = Z := ⟨_, rfl⟩
    have hn : pathK a (i + 1) = pathK a i ++ (47 :: nmF Z) := by rw [← hZ]; rfl
    rw [hZ] at h4 h4' ⊢
    have hnl := nmF_len Z
    have hc : Z = 0 ∨ Z = 1 ∨ Z = 2 ∨ Z = 3 := by omega
    have hlen2 : (47 :: nmF Z).length = 2 := by rw [List.length_cons, hnl]
    have hfin : pathK a i ++ (47 :: nmF Z) = pathK a (i + 1) := hn.symm
    rcases hc with rfl | rfl | rfl | rfl
    · repeat (first | (apply G.ex (hd := rfl); case h => (first | exact Ex.indexN rfl rfl (by first | omega | (simp; done) | (simp; omega)))))
      refine G.ex (Ex.loadE (ao := y) (k := 0) (v := .string (sOf [97])) rfl rfl) rfl ?_
      refine G.ex (Ex.addO (a := [47]) (b := [97]) rfl rfl (by decide)) rfl ?_
      refine G.ex (Ex.addO (a := pathK a i) (b := [47] ++ [97]) rfl rfl (by rw [hpl]; simp; omega)) rfl ?_
      rw [show pathK a i ++ ([47] ++ [97]) = pathK a (i + 1) from hfin]
      repeat (first | (apply G.ex (hd := rfl); case h => (first | exact Ex.move rfl | exact Ex.add rfl rfl (by omega) | exact Ex.assign rfl)) | refine G.nil ?_ | refine GC.region ?_ | refine GE.then_normal ?_ | refine GE.block_normal ?_)
      refine GE.loop (i + 1) (by omega) (by omega) (by simp only [fits]; repeat (first | exact trivial | refine And.intro rfl ?_)) (by repeat (first | exact Takes.nil | apply Takes.dup rfl | apply Takes.cons | exact Take1.here | apply Take1.there)) (by repeat (first | exact Subs.refl | refine Subs.skip ?_))
    · repeat (first | (apply G.ex (hd := rfl); case h => (first | exact Ex.indexN rfl rfl (by first | omega | (simp; done) | (simp; omega)))))
      refine G.ex (Ex.loadE (ao := y) (k := 1) (v := .string (sOf [98])) rfl rfl) rfl ?_
      refine G.ex (Ex.addO (a := [47]) (b := [98]) rfl rfl (by decide)) rfl ?_
      refine G.ex (Ex.addO (a := pathK a i) (b := [47] ++ [98]) rfl rfl (by rw [hpl]; simp; omega)) rfl ?_
      rw [show pathK a i ++ ([47] ++ [98]) = pathK a (i + 1) from hfin]
      repeat (first | (apply G.ex (hd := rfl); case h => (first | exact Ex.move rfl | exact Ex.add rfl rfl (by omega) | exact Ex.assign rfl)) | refine G.nil ?_ | refine GC.region ?_ | refine GE.then_normal ?_ | refine GE.block_normal ?_)
      refine GE.loop (i + 1) (by omega) (by omega) (by simp only [fits]; repeat (first | exact trivial | refine And.intro rfl ?_)) (by repeat (first | exact Takes.nil | apply Takes.dup rfl | apply Takes.cons | exact Take1.here | apply Take1.there)) (by repeat (first | exact Subs.refl | refine Subs.skip ?_))
    · repeat (first | (apply G.ex (hd := rfl); case h => (first | exact Ex.indexN rfl rfl (by first | omega | (simp; done) | (simp; omega)))))
      refine G.ex (Ex.loadE (ao := y) (k := 2) (v := .string (sOf [99])) rfl rfl) rfl ?_
      refine G.ex (Ex.addO (a := [47]) (b := [99]) rfl rfl (by decide)) rfl ?_
      refine G.ex (Ex.addO (a := pathK a i) (b := [47] ++ [99]) rfl rfl (by rw [hpl]; simp; omega)) rfl ?_
      rw [show pathK a i ++ ([47] ++ [99]) = pathK a (i + 1) from hfin]
      repeat (first | (apply G.ex (hd := rfl); case h => (first | exact Ex.move rfl | exact Ex.add rfl rfl (by omega) | exact Ex.assign rfl)) | refine G.nil ?_ | refine GC.region ?_ | refine GE.then_normal ?_ | refine GE.block_normal ?_)
      refine GE.loop (i + 1) (by omega) (by omega) (by simp only [fits]; repeat (first | exact trivial | refine And.intro rfl ?_)) (by repeat (first | exact Takes.nil | apply Takes.dup rfl | apply Takes.cons | exact Take1.here | apply Take1.there)) (by repeat (first | exact Subs.refl | refine Subs.skip ?_))
    · repeat (first | (apply G.ex (hd := rfl); case h => (first | exact Ex.indexN rfl rfl (by first | omega | (simp; done) | (simp; omega)))))
      refine G.ex (Ex.loadE (ao := y) (k := 3) (v := .string (sOf [100])) rfl rfl) rfl ?_
      refine G.ex (Ex.addO (a := [47]) (b := [100]) rfl rfl (by decide)) rfl ?_
      refine G.ex (Ex.addO (a := pathK a i) (b := [47] ++ [100]) rfl rfl (by rw [hpl]; simp; omega)) rfl ?_
      rw [show pathK a i ++ ([47] ++ [100]) = pathK a (i + 1) from hfin]
      repeat (first | (apply G.ex (hd := rfl); case h => (first | exact Ex.move rfl | exact Ex.add rfl rfl (by omega) | exact Ex.assign rfl)) | refine G.nil ?_ | refine GC.region ?_ | refine GE.then_normal ?_ | refine GE.block_normal ?_)
      refine GE.loop (i + 1) (by omega) (by omega) (by simp only [fits]; repeat (first | exact trivial | refine And.intro rfl ?_)) (by repeat (first | exact Takes.nil | apply Takes.dup rfl | apply Takes.cons | exact Take1.here | apply Take1.there)) (by repeat (first | exact Subs.refl | refine Subs.skip ?_))
  · obtain rfl : i = K := by omega
    have e : pathK a i = pathF a := by unfold pathF; rw [hK2]
    rw [e]
    repeat (first | (apply G.ex (hd := rfl); case h => (first | exact Ex.move rfl | exact Ex.assign rfl)) | refine G.nil ?_ | refine GC.seq ?_ | refine GC.region ?_ | refine GC.ret ?_ | refine GC.exit ?_ | refine GE.then_normal ?_ | refine GE.then_exit ?_ | refine GE.block_hit ?_)
    refine GE.ret (by first | exact .inl rfl | exact .inr rfl) (by first | exact res0 Try.results16 | exact res1 Try.results16 rfl | exact res2 Try.results16 rfl rfl | exact resR1 Try.results16 (by first | exact RV.tmp rfl | exact RV.cell rfl (eP_len _) | exact RV.cell rfl rfl | exact RV.cell1 rfl) | exact resR2 Try.results16 (by first | exact RV.tmp rfl | exact RV.cell rfl (eP_len _) | exact RV.cell rfl rfl | exact RV.cell1 rfl) (by first | exact RV.tmp rfl | exact RV.cell rfl (eP_len _) | exact RV.cell rfl rfl | exact RV.cell1 rfl) | exact resR3 Try.results16 (by first | exact RV.tmp rfl | exact RV.cell rfl (eP_len _) | exact RV.cell rfl rfl | exact RV.cell1 rfl) (by first | exact RV.tmp rfl | exact RV.cell rfl (eP_len _) | exact RV.cell rfl rfl | exact RV.cell1 rfl) (by first | exact RV.tmp rfl | exact RV.cell rfl (eP_len _) | exact RV.cell rfl rfl | exact RV.cell1 rfl)) ⟨rfl, rfl⟩ (by repeat (first | exact Takes.nil | apply Takes.dup rfl | apply Takes.cons | exact Take1.here | apply Take1.there)) (by repeat (first | exact Subs.refl | refine Subs.skip ?_))
end Go.Proofs.Ythplilldkdehnaa
