/-
  CONTRACT of packthreadkeep.HuffBest, by the kit.
-/
import Derived.Test.YtfkgchdbjfbdaaaHuffK
import Derived.Test.YtfkgchdbjfbdaaaHuffQ
namespace Go.Proofs.Ytfkgchdbjfbdaaa
open Go.RowKit
namespace huff
theorem Ex.shl1 {P : Program} {n : Nat} {w0 : World} {rs : List Res} {fr : Slots} {t t' ty : TypeId} {x y : Operand} {k : Nat} {KK : IntKind} (hx : ev fr x = some (.int .i64 1)) (hy : ev fr y = some (.int KK (k : Int))) (h : k ≤ 62) : Ex P n w0 rs fr (.binOp .shl t x y t') ty (.int .i64 ((2 ^ k : Nat) : Int)) :=
  fun _ w _ _ _ _ hf _ => by
    have h2 : (2 : Nat) ^ k ≤ 2 ^ 62 := Nat.pow_le_pow_right (by decide) h
    have h3 : ((2 ^ k : Nat) : Int) ≤ 4611686018427387904 := by
      have : (2 : Nat) ^ 62 = 4611686018427387904 := by decide
      omega
    have e : IntKind.i64.wrap ((2 ^ k : Nat) : Int) = ((2 ^ k : Nat) : Int) := i64_in _ ⟨Int.le_trans (by decide) (Int.natCast_nonneg _), Int.le_trans h3 (by decide)⟩
    simp [execOp, hf.ev hx, hf.ev hy, binOp, eqGuard]
    rw [Int.natCast_pow] at e
    exact e
end huff
attribute [local irreducible] Ex G GC GE Gq FPost LPost
set_option linter.unusedVariables false
set_option linter.unusedSimpArgs false
namespace huff
theorem sumTo_bd {f : Nat → Nat} {n b : Nat} (h : ∀ i, i < n → f i ≤ b) : sumTo f n ≤ n * b := by
  rw [← sumTo_const b n]; exact sumTo_le h
/-- the lengths that are tried -/
def kF (o : List Int) (i : Nat) : Nat := if i < o.length then 1 + (o.getD i default % 20).toNat else 5
theorem kF_in (o : List Int) (i : Nat) : 1 ≤ kF o i ∧ kF o i ≤ 20 := by
  unfold kF
  split
  · have h0 := Int.emod_nonneg (o.getD i default) (show (20 : Int) ≠ 0 by decide)
    have h1 := Int.emod_lt_of_pos (o.getD i default) (show (0 : Int) < 20 by decide)
    omega
  · omega
theorem counts_in {l : List Int} {N : Nat} : ∀ z ∈ (l.take N).map cntF, 0 ≤ z ∧ z ≤ 1048576 := fun z hz => by
  obtain ⟨x, _, rfl⟩ := List.mem_map.1 hz
  have := cntF_in x; omega
theorem counts_small {l : List Int} {N : Nat} (i : Nat) (hi : i < ((l.take N).map cntF).length) : cN ((l.take N).map cntF) i < 5000 := by
  unfold cN
  rw [List.getD_eq_getElem?_getD, List.getElem?_eq_getElem hi, Option.getD_some, List.getElem_map]
  have := cntF_in ((l.take N)[i]'(by rw [List.length_map] at hi; exact hi)); omega
set_option maxHeartbeats 16000000 in
theorem huffBest_sp (a0 : Option Addr) (len0 cap0 : Nat) (z0 : List Int) (hl0 : z0.length = len0) (hb0 : len0 ≤ 9223372036854775807) (hw0 : ∀ m ∈ z0, -9223372036854775808 ≤ m ∧ m ≤ 9223372036854775807) (a1 : Option Addr) (len1 cap1 : Nat) (z1 : List Int) (hl1 : z1.length = len1) (hb1 : len1 ≤ 9223372036854775807) (hw1 : ∀ m ∈ z1, -9223372036854775808 ≤ m ∧ m ≤ 9223372036854775807) :
    Spec Try.prog 3 [.slice a0 len0 cap0, .slice a1 len1 cap1] [.sl a0 len0 cap0 1 (flat (eI .i64) z0), .sl a1 len1 cap1 1 (flat (eI .i64) z1)] fun v give => v = .bool true ∧ give = [] := by
  refine Spec.intro Try.func3 rfl Try.ntmps3 rfl fun w0 rest rs_ hrs_ => ?_
  simp only [List.cons_append, List.nil_append] at hrs_
  subst hrs_
  repeat (first | (apply G.ex (hd := rfl); case h => (first | exact Ex.move rfl | exact Ex.assign rfl)) | refine G.nil ?_ | refine GC.seq ?_ | refine GC.region ?_ | refine GE.then_normal ?_)
  first | refine G.call (caps := []) (counts_sp a0 len0 cap0 z0 hl0 hb0 hw0 20 (by decide)) rfl rfl rfl rfl (by repeat first | exact tn_ | apply td_ rfl | apply tc_ | exact .here | apply Take1.there) ?_ | refine G.callU (caps := []) (counts_sp a0 len0 cap0 z0 hl0 hb0 hw0 20 (by decide)) rfl rfl rfl (by repeat first | exact tn_ | apply td_ rfl | apply tc_ | exact .here | apply Take1.there) ?_
  rintro v_ give_ ⟨C, ca, cc, hC, rfl, rfl⟩ rs_ hrs_
  simp only [List.cons_append, List.nil_append] at hrs_
  subst hrs_
  have hCn : C.length ≤ 20 := by rw [hC, List.length_map, List.length_take]; omega
  have hCi : ∀ z ∈ C, 0 ≤ z ∧ z ≤ 1048576 := by rw [hC]; exact counts_in
  have hCs : ∀ i, i < C.length → cN C i < 5000 := fun i hi => by rw [hC] at hi ⊢; exact counts_small i hi
  clear hC
  repeat (first | (apply G.ex (hd := rfl); case h => (first | exact Ex.move rfl | exact Ex.assign rfl)) | refine G.nil ?_ | refine GC.seq ?_ | refine GC.region ?_ | refine GE.then_normal ?_)
  first | refine G.call (caps := []) (lengthsOf_sp (.vec 3 1 ca C.length cc (flat (eI .i64) C)) ca C.length cc C rfl (by omega) hCi) rfl rfl rfl rfl (by repeat first | exact tn_ | apply td_ rfl | apply tc_ | exact .here | apply Take1.there) ?_ | refine G.callU (caps := []) (lengthsOf_sp (.vec 3 1 ca C.length cc (flat (eI .i64) C)) ca C.length cc C rfl (by omega) hCi) rfl rfl rfl (by repeat first | exact tn_ | apply td_ rfl | apply tc_ | exact .here | apply Take1.there) ?_
  rintro v_ give_ ⟨out, oa, oc, hol, h0, hg, rfl, rfl⟩ rs_ hrs_
  simp only [List.cons_append, List.nil_append] at hrs_
  subst hrs_
  have hm := sup_len (c := cN C) (n := C.length)
  obtain ⟨S1, hS1⟩ : ∃ S, S = sumTo (fun i => cN C i * (out.getD i default).toNat) := ⟨_, rfl⟩
  obtain ⟨S2, hS2⟩ : ∃ S, S = sumTo (fun i => cN C i * kF z1 i) := ⟨_, rfl⟩
  obtain ⟨S3, hS3⟩ : ∃ S, S = sumTo (fun i => if cN C i = 0 then 0 else 2 ^ (20 - kF z1 i)) := ⟨_, rfl⟩
  have ho : ∀ i, i < C.length → (out.getD i default).toNat ≤ 64 := fun i hi => by
    by_cases c0 : cN C i = 0
    · rw [hg.none i hi c0]; omega
    · have := (hg.some i hi (by omega)).2; omega
  have b1 : ∀ i, i ≤ C.length → S1 i ≤ i * 320000 := fun i hi => by
    rw [hS1]; exact sumTo_bd fun j hj => by
      have a := hCs j (by omega); have b := ho j (by omega)
      exact Nat.le_trans (Nat.mul_le_mul (Nat.le_of_lt a) b) (by decide)
  have b2 : ∀ i, i ≤ C.length → S2 i ≤ i * 100000 := fun i hi => by
    rw [hS2]; exact sumTo_bd fun j hj => by
      have a := hCs j (by omega); have b := (kF_in z1 j).2
      exact Nat.le_trans (Nat.mul_le_mul (Nat.le_of_lt a) b) (by decide)
  have b3 : ∀ i, i ≤ C.length → S3 i ≤ i * 1048576 := fun i hi => by
    rw [hS3]; exact sumTo_bd fun j hj => by
      show (if cN C j = 0 then 0 else 2 ^ (20 - kF z1 j)) ≤ _
      split
      · omega
      · exact Nat.le_trans (Nat.pow_le_pow_right (by decide) (Nat.sub_le ..)) (by decide)
  have best : S3 C.length ≤ 1048576 → S1 C.length ≤ S2 C.length := fun h => by
    rw [hS1, hS2]; rw [hS3] at h
    exact hg.best (kF z1) 20 (fun i _ _ => kF_in z1 i) (Nat.le_trans h (by decide))
  have s1 : ∀ i, S1 (i + 1) = S1 i + cN C i * (out.getD i default).toNat := fun i => by rw [hS1]; rfl
  have s2 : ∀ i, S2 (i + 1) = S2 i + cN C i * kF z1 i := fun i => by rw [hS2]; rfl
  have s3 : ∀ i, S3 (i + 1) = S3 i + if cN C i = 0 then 0 else 2 ^ (20 - kF z1 i) := fun i => by rw [hS3]; rfl
  have e1 : S1 0 = 0 := by rw [hS1]; rfl
  have e2 : S2 0 = 0 := by rw [hS2]; rfl
  have e3 : S3 0 = 0 := by rw [hS3]; rfl
  clear hS1 hS2 hS3
  repeat (first | (apply G.ex (hd := rfl); case h => (first | exact Ex.move rfl | exact Ex.extract rfl rfl | exact Ex.assign rfl | exact Ex.notB rfl)) | refine G.nil ?_ | refine GC.seq ?_ | refine GC.region ?_ | refine GC.block ?_ | refine GC.skip ?_ | refine GE.then_normal ?_ | refine GC.cond_f rfl ?_)
  refine GC.loop (ι := Nat × Nat × Nat × Nat) (fun x => x.1 ≤ C.length ∧ x.2.1 = S1 x.1 ∧ x.2.2.1 = S2 x.1 ∧ x.2.2.2 = S3 x.1) (fun x => C.length - x.1) (fun x => [(1, .slice a1 len1 cap1), (5, .slice ca C.length cc), (6, .slice oa C.length oc), (7, .int .i64 ((sup (cN C) C.length).length : Int)), (9, .int .i64 (x.2.1 : Int)), (10, .int .i64 (x.2.2.1 : Int)), (11, .int .i64 (x.2.2.2 : Int)), (12, .int .i64 (x.1 : Int))]) (fun x => [.vec 3 1 oa C.length oc (flat (eI .i64) out), .vec 3 1 ca C.length cc (flat (eI .i64) C), .sl a1 len1 cap1 1 (flat (eI .i64) z1)]) (0, 0, 0, 0) ⟨Nat.zero_le _, e1.symm, e2.symm, e3.symm⟩ (by simp only [fits]; repeat (first | exact trivial | refine And.intro rfl ?_)) (by repeat first | exact tn_ | apply td_ rfl | apply tc_ | exact .here | apply Take1.there) ?_
  rintro ⟨x, v1, v2, v3⟩ ⟨hx, hv1, hv2, hv3⟩ fr_ rs_ hfr_ hrs_
  simp only [List.cons_append, List.nil_append] at hfr_ hrs_
  subst hfr_ hrs_
  simp only at hx hv1 hv2 hv3
  by_cases h1 : x < C.length
  · have hz := hCi (C.getD x default) (by rw [List.getD_eq_getElem?_getD, List.getElem?_eq_getElem h1]; exact List.getElem_mem _)
    have hcx : cN C x = (C.getD x default).toNat := rfl
    have hq := h0 (out.getD x default) (by rw [List.getD_eq_getElem?_getD, List.getElem?_eq_getElem (by omega)]; exact List.getElem_mem _)
    have b1x := b1 x (by omega)
    have b2x := b2 x (by omega)
    have b3x := b3 x (by omega)
    have s1x := s1 x
    have s2x := s2 x
    have s3x := s3 x
    rw [← hv1] at b1x s1x
    rw [← hv2] at b2x s2x
    rw [← hv3] at b3x s3x
    have hox := ho x h1
    have hsm := hCs x h1
    by_cases c0 : C.getD x default = 0
    · rw [show cN C x = 0 by omega] at s1x s2x s3x
      rw [if_pos rfl] at s3x
      rw [Nat.zero_mul] at s1x s2x
      by_cases c1 : x < len1
      · repeat (first | (apply G.ex (hd := rfl); case h => (first | exact Ex.move rfl | exact Ex.lss rfl rfl | exact Ex.lenSl rfl | exact Ex.indexN rfl rfl (by first | omega | (simp; done) | (simp; omega)) | exact Ex.loadT0 rfl (by first | omega | (simp; done) | (simp; omega)) rfl | exact Ex.assign rfl)) | refine G.nil ?_ | refine GC.seq ?_ | refine GC.region ?_ | refine GC.block ?_ | refine GC.skip ?_ | refine GE.then_normal ?_ | refine GC.cond_yes rfl (by first | assumption | omega) ?_)
        first | refine G.call (caps := []) (picked_sp (z1.getD x default) 20 (by decide) (by decide)) rfl rfl rfl rfl (by repeat first | exact tn_ | apply td_ rfl | apply tc_ | exact .here | apply Take1.there) ?_ | refine G.callU (caps := []) (picked_sp (z1.getD x default) 20 (by decide) (by decide)) rfl rfl rfl (by repeat first | exact tn_ | apply td_ rfl | apply tc_ | exact .here | apply Take1.there) ?_
        rintro v_ give_ ⟨rfl, rfl⟩ rs_ hrs_
        simp only [List.cons_append, List.nil_append] at hrs_
        subst hrs_
        have h0 := Int.emod_nonneg (z1.getD x default) (show (20 : Int) ≠ 0 by decide)
        have h1 := Int.emod_lt_of_pos (z1.getD x default) (show (0 : Int) < 20 by decide)
        repeat (first | (apply G.ex (hd := rfl); case h => (first | exact Ex.move rfl | exact Ex.add rfl rfl (by omega) | exact Ex.eqI rfl rfl | exact Ex.indexN rfl rfl (by first | omega | (simp; done) | (simp; omega)) | exact Ex.loadT0 rfl (by first | omega | (simp; done) | (simp; omega)) rfl | exact Ex.assign rfl)) | refine G.nil ?_ | refine GC.seq ?_ | refine GC.region ?_ | refine GC.exit ?_ | refine GE.then_normal ?_ | refine GE.then_exit ?_ | refine GE.block_hit ?_ | refine GC.cond_yes rfl (by first | assumption | omega) ?_)
        rw [show (x : Int) + 1 = ((x + 1 : Nat) : Int) by omega]
        refine GE.loop (x + 1, v1, v2, v3) ⟨by simp only; omega, by simp only; omega, by simp only; omega, by simp only; omega⟩ (by simp only; omega) (by simp only [fits]; repeat (first | exact trivial | refine And.intro rfl ?_)) (by repeat first | exact tn_ | apply td_ rfl | apply tc_ | exact .here | apply Take1.there) (by repeat (first | exact Subs.refl | refine Subs.skip ?_))
      · repeat (first | (apply G.ex (hd := rfl); case h => (first | exact Ex.move rfl | exact Ex.add rfl rfl (by omega) | exact Ex.lss rfl rfl | exact Ex.eqI rfl rfl | exact Ex.lenSl rfl | exact Ex.indexN rfl rfl (by first | omega | (simp; done) | (simp; omega)) | exact Ex.loadT0 rfl (by first | omega | (simp; done) | (simp; omega)) rfl | exact Ex.assign rfl)) | refine G.nil ?_ | refine GC.seq ?_ | refine GC.region ?_ | refine GC.block ?_ | refine GC.skip ?_ | refine GC.exit ?_ | refine GE.then_normal ?_ | refine GE.then_exit ?_ | refine GE.block_hit ?_ | refine GC.cond_yes rfl (by first | assumption | omega) ?_ | refine GC.cond_no rfl (by first | assumption | omega) ?_)
        rw [show (x : Int) + 1 = ((x + 1 : Nat) : Int) by omega]
        refine GE.loop (x + 1, v1, v2, v3) ⟨by simp only; omega, by simp only; omega, by simp only; omega, by simp only; omega⟩ (by simp only; omega) (by simp only [fits]; repeat (first | exact trivial | refine And.intro rfl ?_)) (by repeat first | exact tn_ | apply td_ rfl | apply tc_ | exact .here | apply Take1.there) (by repeat (first | exact Subs.refl | refine Subs.skip ?_))
    · have hgs := hg.some x h1 (by omega)
      rw [if_neg (show ¬ cN C x = 0 by omega)] at s3x
      have l1 : ¬ out.getD x default < 1 := by omega
      have l2 : ¬ out.getD x default > 40 := by omega
      obtain ⟨O, hO⟩ : ∃ O : Nat, out.getD x default = (O : Int) := ⟨(out.getD x default).toNat, by omega⟩
      obtain ⟨c, hc⟩ : ∃ c : Nat, C.getD x default = (c : Int) := ⟨(C.getD x default).toNat, by omega⟩
      rw [show cN C x = c by omega] at s1x s2x
      rw [show (out.getD x default).toNat = O by omega] at s1x
      have p1 : out.getD x default * C.getD x default = ((c * O : Nat) : Int) := by rw [hO, hc, Int.natCast_mul, Int.mul_comm]
      have q1 : c * O ≤ 5000 * 64 := Nat.mul_le_mul (by omega) (by omega)
      by_cases c1 : x < len1
      · have hk0 := Int.emod_nonneg (z1.getD x default) (show (20 : Int) ≠ 0 by decide)
        have hk1 := Int.emod_lt_of_pos (z1.getD x default) (show (0 : Int) < 20 by decide)
        obtain ⟨k, hk⟩ : ∃ k : Nat, z1.getD x default % 20 = (k : Int) := ⟨(z1.getD x default % 20).toNat, by omega⟩
        have hkF : kF z1 x = 1 + k := by unfold kF; rw [if_pos (by omega), hk]; rfl
        rw [hkF] at s2x s3x
        obtain ⟨p, hp⟩ : ∃ p : Nat, 2 ^ (20 - (1 + k)) = p := ⟨_, rfl⟩
        have hp2 : p ≤ 2 ^ 20 := by rw [← hp]; exact Nat.pow_le_pow_right (by decide) (Nat.sub_le ..)
        rw [hp] at s3x
        have p2 : (1 + (k : Int)) * C.getD x default = ((c * (1 + k) : Nat) : Int) := by rw [hc, Int.natCast_mul, Int.natCast_add, Int.mul_comm]; rfl
        have q2 : c * (1 + k) ≤ 5000 * 20 := Nat.mul_le_mul (by omega) (by omega)
        repeat (first | (apply G.ex (hd := rfl); case h => (first | exact Ex.move rfl | exact Ex.lss rfl rfl | exact Ex.lenSl rfl | exact Ex.indexN rfl rfl (by first | omega | (simp; done) | (simp; omega)) | exact Ex.loadT0 rfl (by first | omega | (simp; done) | (simp; omega)) rfl | exact Ex.assign rfl)) | refine G.nil ?_ | refine GC.seq ?_ | refine GC.region ?_ | refine GC.block ?_ | refine GC.skip ?_ | refine GE.then_normal ?_ | refine GC.cond_yes rfl (by first | assumption | omega) ?_)
        first | refine G.call (caps := []) (picked_sp (z1.getD x default) 20 (by decide) (by decide)) rfl rfl rfl rfl (by repeat first | exact tn_ | apply td_ rfl | apply tc_ | exact .here | apply Take1.there) ?_ | refine G.callU (caps := []) (picked_sp (z1.getD x default) 20 (by decide) (by decide)) rfl rfl rfl (by repeat first | exact tn_ | apply td_ rfl | apply tc_ | exact .here | apply Take1.there) ?_
        rintro v_ give_ ⟨rfl, rfl⟩ rs_ hrs_
        simp only [List.cons_append, List.nil_append] at hrs_
        subst hrs_
        rw [hk]
        repeat (first | (apply G.ex (hd := rfl); case h => (first | exact Ex.move rfl | exact Ex.add rfl rfl (by omega) | exact Ex.sub rfl rfl (by omega) | exact Ex.lss rfl rfl | exact Ex.gtr rfl rfl | exact Ex.eqI rfl rfl | exact Ex.indexN rfl rfl (by first | omega | (simp; done) | (simp; omega)) | exact Ex.loadT0 rfl (by first | omega | (simp; done) | (simp; omega)) rfl | exact Ex.assign rfl | exact Ex.pickF rfl (by first | assumption | omega) rfl)) | refine G.g_ff rfl rfl (by first | assumption | omega) ?_ | refine G.nil ?_ | refine GC.seq ?_ | refine GC.region ?_ | refine GC.skip ?_ | refine GE.then_normal ?_ | refine GC.cond_no rfl (by first | assumption | omega) ?_)
        rw [show (20 : Int) - (1 + (k : Int)) = ((20 - (1 + k) : Nat) : Int) by omega]
        refine G.ex (hd := rfl) (Ex.shl1 (k := 20 - (1 + k)) rfl rfl (by omega)) ?_
        rw [hp]
        repeat (first | (apply G.ex (hd := rfl); case h => (first | exact Ex.move rfl | exact Ex.add rfl rfl (by omega) | exact Ex.indexN rfl rfl (by first | omega | (simp; done) | (simp; omega)) | exact Ex.loadT0 rfl (by first | omega | (simp; done) | (simp; omega)) rfl | exact Ex.assign rfl | exact Ex.mul rfl rfl (by omega))) | refine G.nil ?_ | (apply Gq.ex (hd := rfl); case h => (first | exact Ex.move rfl | exact Ex.add rfl rfl (by omega) | exact Ex.indexN rfl rfl (by first | omega | (simp; done) | (simp; omega)) | exact Ex.loadT0 rfl (by first | omega | (simp; done) | (simp; omega)) rfl | exact Ex.assign rfl | exact Ex.mul rfl rfl (by omega))) | refine Gq.nil ?_ | refine GC.seq ?_ | refine GC.region ?_ | refine GC.draw (by kernel_rfl) (by kernel_rfl) ?_ | refine GE.then_normal ?_ | refine GE.block_normal ?_)
        rw [p1, p2, show (v1 : Int) + ((c * O : Nat) : Int) = ((v1 + c * O : Nat) : Int) by omega, show (v2 : Int) + ((c * (1 + k) : Nat) : Int) = ((v2 + c * (1 + k) : Nat) : Int) by omega, show (v3 : Int) + (p : Int) = ((v3 + p : Nat) : Int) by omega, show (x : Int) + 1 = ((x + 1 : Nat) : Int) by omega]
        refine GE.loop (x + 1, v1 + c * O, v2 + c * (1 + k), v3 + p) ⟨by simp only; omega, by simp only; exact s1x.symm, by simp only; exact s2x.symm, by simp only; exact s3x.symm⟩ (by simp only; omega) (by simp only [fits]; repeat (first | exact trivial | refine And.intro rfl ?_)) (by repeat first | exact tn_ | apply td_ rfl | apply tc_ | exact .here | apply Take1.there) (by repeat (first | exact Subs.refl | refine Subs.skip ?_))
      · have hkF : kF z1 x = 5 := by unfold kF; rw [if_neg (by omega)]
        rw [hkF] at s2x s3x
        have p2 : (5 : Int) * C.getD x default = ((c * 5 : Nat) : Int) := by rw [hc]; omega
        repeat (first | (apply G.ex (hd := rfl); case h => (first | exact Ex.move rfl | exact Ex.sub rfl rfl (by omega) | exact Ex.lss rfl rfl | exact Ex.gtr rfl rfl | exact Ex.eqI rfl rfl | exact Ex.lenSl rfl | exact Ex.indexN rfl rfl (by first | omega | (simp; done) | (simp; omega)) | exact Ex.loadT0 rfl (by first | omega | (simp; done) | (simp; omega)) rfl | exact Ex.assign rfl | exact Ex.pickF rfl (by first | assumption | omega) rfl)) | refine G.g_ff rfl rfl (by first | assumption | omega) ?_ | refine G.nil ?_ | refine GC.seq ?_ | refine GC.region ?_ | refine GC.block ?_ | refine GC.skip ?_ | refine GE.then_normal ?_ | refine GC.cond_yes rfl (by first | assumption | omega) ?_ | refine GC.cond_no rfl (by first | assumption | omega) ?_)
        rw [show (20 : Int) - 5 = ((15 : Nat) : Int) from rfl]
        refine G.ex (hd := rfl) (Ex.shl1 (k := 15) rfl rfl (by omega)) ?_
        rw [show (2 : Nat) ^ 15 = 32768 from rfl]
        repeat (first | (apply G.ex (hd := rfl); case h => (first | exact Ex.move rfl | exact Ex.add rfl rfl (by omega) | exact Ex.indexN rfl rfl (by first | omega | (simp; done) | (simp; omega)) | exact Ex.loadT0 rfl (by first | omega | (simp; done) | (simp; omega)) rfl | exact Ex.assign rfl | exact Ex.mul rfl rfl (by omega))) | refine G.nil ?_ | (apply Gq.ex (hd := rfl); case h => (first | exact Ex.move rfl | exact Ex.add rfl rfl (by omega) | exact Ex.indexN rfl rfl (by first | omega | (simp; done) | (simp; omega)) | exact Ex.loadT0 rfl (by first | omega | (simp; done) | (simp; omega)) rfl | exact Ex.assign rfl | exact Ex.mul rfl rfl (by omega))) | refine Gq.nil ?_ | refine GC.seq ?_ | refine GC.region ?_ | refine GC.draw (by kernel_rfl) (by kernel_rfl) ?_ | refine GE.then_normal ?_ | refine GE.block_normal ?_)
        rw [p1, p2, show (v1 : Int) + ((c * O : Nat) : Int) = ((v1 + c * O : Nat) : Int) by omega, show (v2 : Int) + ((c * 5 : Nat) : Int) = ((v2 + c * 5 : Nat) : Int) by omega, show (v3 : Int) + ((32768 : Nat) : Int) = ((v3 + 32768 : Nat) : Int) by omega, show (x : Int) + 1 = ((x + 1 : Nat) : Int) by omega]
        refine GE.loop (x + 1, v1 + c * O, v2 + c * 5, v3 + 32768) ⟨by simp only; omega, by simp only; exact s1x.symm, by simp only; exact s2x.symm, by simp only; exact s3x.symm⟩ (by simp only; omega) (by simp only [fits]; repeat (first | exact trivial | refine And.intro rfl ?_)) (by repeat first | exact tn_ | apply td_ rfl | apply tc_ | exact .here | apply Take1.there) (by repeat (first | exact Subs.refl | refine Subs.skip ?_))
  · obtain rfl : x = C.length := by omega
    rw [← hv3, ← hv1, ← hv2] at best
    by_cases m0 : ((sup (cN C) C.length).length : Int) = 0
    · repeat (first | (apply G.ex (hd := rfl); case h => (first | exact Ex.move rfl | exact Ex.lss rfl rfl | exact Ex.eqI rfl rfl | exact Ex.lenSl rfl | exact Ex.assign rfl | exact Ex.pickT rfl (by first | assumption | omega) rfl | exact Ex.pickLT rfl rfl)) | refine G.g_ft rfl rfl (by first | assumption | omega) rfl ?_ | refine G.l_ft rfl rfl rfl ?_ | refine G.nil ?_ | refine GC.seq ?_ | refine GC.region ?_ | refine GC.ret ?_ | refine GC.exit ?_ | refine GE.then_normal ?_ | refine GE.then_exit ?_ | refine GE.block_hit ?_ | refine GC.cond_no rfl (by first | assumption | omega) ?_)
      refine GE.ret (by first | exact .inl rfl | exact .inr rfl) (res1 Try.results3 rfl) ⟨by simp [m0], rfl⟩ (by repeat first | exact tn_ | apply td_ rfl | apply tc_ | exact .here | apply Take1.there) (by repeat (first | exact Subs.refl | refine Subs.skip ?_))
    · by_cases m1 : (v3 : Int) > 1048576
      · repeat (first | (apply G.ex (hd := rfl); case h => (first | exact Ex.move rfl | exact Ex.lss rfl rfl | exact Ex.gtr rfl rfl | exact Ex.eqI rfl rfl | exact Ex.lenSl rfl | exact Ex.assign rfl | exact Ex.pickT rfl (by first | assumption | omega) rfl | exact Ex.pickF rfl (by first | assumption | omega) rfl)) | refine G.g_ft rfl rfl (by first | assumption | omega) rfl ?_ | refine G.g_ff rfl rfl (by first | assumption | omega) ?_ | refine G.nil ?_ | refine GC.seq ?_ | refine GC.region ?_ | refine GC.ret ?_ | refine GC.exit ?_ | refine GE.then_normal ?_ | refine GE.then_exit ?_ | refine GE.block_hit ?_ | refine GC.cond_no rfl (by first | assumption | omega) ?_)
        refine GE.ret (by first | exact .inl rfl | exact .inr rfl) (res1 Try.results3 rfl) ⟨by simp [m0, m1], rfl⟩ (by repeat first | exact tn_ | apply td_ rfl | apply tc_ | exact .here | apply Take1.there) (by repeat (first | exact Subs.refl | refine Subs.skip ?_))
      · have m2 := best (by omega)
        have m3 : (v1 : Int) ≤ (v2 : Int) := by omega
        repeat (first | (apply G.ex (hd := rfl); case h => (first | exact Ex.move rfl | exact Ex.lss rfl rfl | exact Ex.leq rfl rfl | exact Ex.gtr rfl rfl | exact Ex.eqI rfl rfl | exact Ex.lenSl rfl | exact Ex.assign rfl | exact Ex.pickF rfl (by first | assumption | omega) rfl)) | refine G.g_ff rfl rfl (by first | assumption | omega) ?_ | refine G.nil ?_ | refine GC.seq ?_ | refine GC.region ?_ | refine GC.ret ?_ | refine GC.exit ?_ | refine GE.then_normal ?_ | refine GE.then_exit ?_ | refine GE.block_hit ?_ | refine GC.cond_no rfl (by first | assumption | omega) ?_)
        refine GE.ret (by first | exact .inl rfl | exact .inr rfl) (res1 Try.results3 rfl) ⟨by simp [m0, m1, m3], rfl⟩ (by repeat first | exact tn_ | apply td_ rfl | apply tc_ | exact .here | apply Take1.there) (by repeat (first | exact Subs.refl | refine Subs.skip ?_))
end huff
end Go.Proofs.Ytfkgchdbjfbdaaa
