/-
  CONTRACT of packthreadkeep.HuffEven, by the kit.
-/
import Derived.Test.YtfkgchdbjfbdaaaHuffBest
namespace Go.Proofs.Ytfkgchdbjfbdaaa
open Go.RowKit
attribute [local irreducible] Ex G GC GE Gq FPost LPost
set_option linter.unusedVariables false
set_option linter.unusedSimpArgs false
namespace huff
theorem sup_congr {c d : Nat → Nat} : ∀ {N : Nat}, (∀ i, i < N → c i = d i) → sup c N = sup d N
  | 0, _ => rfl
  | N + 1, h => by
    rw [sup, sup, sup_congr (fun i hi => h i (Nat.lt_succ_of_lt hi)), h N (Nat.lt_succ_self N)]
theorem Good.congr {c d own : Nat → Nat} {N : Nat} (h : ∀ i, i < N → c i = d i) (g : Good c own N) : Good d own N where
  none i hi h0 := g.none i hi (by rw [h i hi]; exact h0)
  some i hi h0 := by rw [← sup_congr h]; exact g.some i hi (by rw [h i hi]; exact h0)
  full h2 D hD := by
    rw [← sup_congr h] at h2
    rw [← g.full h2 D hD]
    exact sumTo_congr fun i hi => by rw [h i hi]
  best f D hf hk := by
    have e1 : sumTo (fun i => d i * own i) N = sumTo (fun i => c i * own i) N := sumTo_congr fun i hi => by rw [h i hi]
    have e2 : sumTo (fun i => d i * f i) N = sumTo (fun i => c i * f i) N := sumTo_congr fun i hi => by rw [h i hi]
    have e3 : sumTo (fun i => if d i = 0 then 0 else 2 ^ (D - f i)) N = sumTo (fun i => if c i = 0 then 0 else 2 ^ (D - f i)) N := sumTo_congr fun i hi => by rw [h i hi]
    rw [e1, e2]
    exact g.best f D (fun i hi h0 => hf i hi (by rw [← h i hi]; exact h0)) (by rw [← e3]; exact hk)
theorem getD_in' {l : List Int} {i : Nat} (h : i < l.length) : l.getD i default ∈ l := by
  rw [List.getD_eq_getElem?_getD, List.getElem?_eq_getElem h]; exact List.getElem_mem _
theorem rep_cN (N c i : Nat) (hi : i < N) : cN (List.replicate N (c : Int)) i = c := by
  unfold cN
  rw [List.getD_eq_getElem?_getD, List.getElem?_eq_getElem (by rw [List.length_replicate]; exact hi), Option.getD_some, List.getElem_replicate]; rfl
theorem set_cN (N c d j i : Nat) (hi : i < N) : cN ((List.replicate N (c : Int)).set j (d : Int)) i = if i = j then d else c := by
  unfold cN
  rw [List.getD_eq_getElem?_getD, List.getElem?_eq_getElem (by rw [List.length_set, List.length_replicate]; exact hi), Option.getD_some, List.getElem_set, List.getElem_replicate]
  by_cases h : i = j
  · rw [if_pos h, if_pos h.symm]; rfl
  · rw [if_neg h, if_neg (fun e => h e.symm)]; rfl
set_option maxHeartbeats 16000000 in
theorem huffEven_sp (a0 : Int) (ha0 : -9223372036854775808 ≤ a0 ∧ a0 ≤ 9223372036854775807) (a1 : Int) (ha1 : -9223372036854775808 ≤ a1 ∧ a1 ≤ 9223372036854775807) (a2 : Int) (ha2 : -9223372036854775808 ≤ a2 ∧ a2 ≤ 9223372036854775807) :
    Spec Try.prog 6 [.int .i64 a0, .int .i64 a1, .int .i64 a2] [] fun v give => v = .bool true ∧ give = [] := by
  have hk0 := Int.emod_nonneg a0 (show (5 : Int) ≠ 0 by decide)
  have hk1 := Int.emod_lt_of_pos a0 (show (0 : Int) < 5 by decide)
  obtain ⟨k, hk⟩ : ∃ k : Nat, a0 % 5 = (k : Int) := ⟨(a0 % 5).toNat, by omega⟩
  have hc0 := Int.emod_nonneg a1 (show (1000 : Int) ≠ 0 by decide)
  have hc1 := Int.emod_lt_of_pos a1 (show (0 : Int) < 1000 by decide)
  obtain ⟨c0, hc⟩ : ∃ k : Nat, a1 % 1000 = (k : Int) := ⟨(a1 % 1000).toNat, by omega⟩
  obtain ⟨N, hN⟩ : ∃ N : Nat, 2 ^ (1 + k) = N := ⟨_, rfl⟩
  have hN2 : 2 ≤ N := by rw [← hN]; exact Nat.le_trans (by decide) (Nat.pow_le_pow_right (by decide) (show 1 ≤ 1 + k by omega))
  have hN32 : N ≤ 32 := by rw [← hN]; exact Nat.le_trans (Nat.pow_le_pow_right (by decide) (show 1 + k ≤ 5 by omega)) (by decide)
  have hj0 := Int.emod_nonneg a2 (show (N : Int) ≠ 0 by omega)
  have hj1 := Int.emod_lt_of_pos a2 (show (0 : Int) < N by omega)
  obtain ⟨j, hj⟩ : ∃ k : Nat, a2 % (N : Int) = (k : Int) := ⟨(a2 % (N : Int)).toNat, by omega⟩
  have hjN : j < N := by omega
  have hk4 : k < 5 := by omega
  have hc4 : c0 < 1000 := by omega
  clear hk0 hk1 hc0 hc1 hj0 hj1
  obtain ⟨c, hcc⟩ : ∃ c, c = 1 + c0 := ⟨_, rfl⟩
  refine Spec.intro Try.func6 rfl Try.ntmps6 rfl fun w0 rest rs_ hrs_ => ?_
  simp only [List.cons_append, List.nil_append] at hrs_
  subst hrs_
  repeat (first | (apply G.ex (hd := rfl); case h => (first | exact Ex.move rfl | exact Ex.assign rfl)) | refine G.nil ?_ | refine GC.seq ?_ | refine GC.region ?_ | refine GE.then_normal ?_)
  first | refine G.call (caps := []) (picked_sp a0 5 (by decide) (by decide)) rfl rfl rfl rfl (by repeat first | exact tn_ | apply td_ rfl | apply tc_ | exact .here | apply Take1.there) ?_ | refine G.callU (caps := []) (picked_sp a0 5 (by decide) (by decide)) rfl rfl rfl (by repeat first | exact tn_ | apply td_ rfl | apply tc_ | exact .here | apply Take1.there) ?_
  rintro v_ give_ ⟨rfl, rfl⟩ rs_ hrs_
  simp only [List.cons_append, List.nil_append] at hrs_
  subst hrs_
  rw [hk]
  repeat (first | (apply G.ex (hd := rfl); case h => (first | exact Ex.add rfl rfl (by omega))))
  rw [show (1 : Int) + (k : Int) = ((1 + k : Nat) : Int) by omega]
  refine G.ex (hd := rfl) (Ex.shl1 (k := 1 + k) rfl rfl (by omega)) ?_
  rw [hN]
  repeat (first | (apply G.ex (hd := rfl); case h => (first | exact Ex.move rfl | exact Ex.assign rfl)) | refine G.nil ?_ | refine GC.seq ?_ | refine GC.region ?_ | refine GE.then_normal ?_)
  first | refine G.call (caps := []) (picked_sp a1 1000 (by decide) (by decide)) rfl rfl rfl rfl (by repeat first | exact tn_ | apply td_ rfl | apply tc_ | exact .here | apply Take1.there) ?_ | refine G.callU (caps := []) (picked_sp a1 1000 (by decide) (by decide)) rfl rfl rfl (by repeat first | exact tn_ | apply td_ rfl | apply tc_ | exact .here | apply Take1.there) ?_
  rintro v_ give_ ⟨rfl, rfl⟩ rs_ hrs_
  simp only [List.cons_append, List.nil_append] at hrs_
  subst hrs_
  rw [hc]
  repeat (first | (apply G.ex (hd := rfl); case h => (first | exact Ex.add rfl rfl (by omega) | exact Ex.assign rfl)) | refine G.nil ?_ | refine GC.seq ?_ | refine GC.region ?_ | refine GC.block ?_ | refine GE.then_normal ?_)
  refine GC.nilvec 3 1 ?_
  rw [show (1 : Int) + (c0 : Int) = (c : Int) by omega]
  repeat (first | fail)
  refine GC.loop (ι := Nat × Option Addr × Nat) (fun x => x.1 ≤ N) (fun x => N - x.1) (fun x => [(0, .int .i64 a0), (2, .int .i64 a2), (7, .int .i64 (N : Int)), (8, .int .i64 (c : Int)), (9, .slice x.2.1 x.1 x.2.2), (10, .int .i64 (x.1 : Int))]) (fun x => [.vec 3 1 x.2.1 x.1 x.2.2 (flat (eI .i64) (List.replicate x.1 (c : Int)))]) (0, none, 0) (Nat.zero_le _) (by simp only [fits]; repeat (first | exact trivial | refine And.intro rfl ?_)) (by repeat first | exact tn_ | apply td_ rfl | apply tc_ | exact .here | apply Take1.there) ?_
  rintro ⟨x, ca, cc⟩ hx fr_ rs_ hfr_ hrs_
  simp only [List.cons_append, List.nil_append] at hfr_ hrs_
  subst hfr_ hrs_
  simp only at hx
  by_cases h1 : x < N
  · have hcat : flat (eI .i64) (List.replicate x (c : Int)) ++ flat (eI .i64) [(c : Int)] = flat (eI .i64) (List.replicate (x + 1) (c : Int)) := by rw [List.replicate_succ']; exact (flat_append ..).symm
    repeat (first | (apply G.ex (hd := rfl); case h => (first | exact Ex.move rfl | exact Ex.lss rfl rfl)) | refine G.nil ?_ | refine GC.seq ?_ | refine GC.region ?_ | refine GC.block ?_ | refine GC.skip ?_ | refine GE.then_normal ?_ | refine GC.cond_yes rfl (by first | assumption | omega) ?_)
    refine G.lit (cells := flat (eI .i64) [(c : Int)]) rfl (by rfl) (by rfl) (by rfl) (by rfl) (by rfl) (by rfl) rfl (fun q => ?_)
    refine G.app rfl rfl (by rfl) (by omega) rfl (hcat) (fun o2 c2 rs_ hrs_ => ?_)
    try simp only at hrs_
    subst hrs_
    repeat (first | (apply G.ex (hd := rfl); case h => (first | exact Ex.move rfl | exact Ex.add rfl rfl (by omega) | exact Ex.assign rfl)) | refine G.nil ?_ | refine GC.region ?_ | refine GE.then_normal ?_ | refine GE.block_normal ?_)
    rw [show (x : Int) + 1 = ((x + 1 : Nat) : Int) by omega]
    refine GE.loop (x + 1, o2, c2) (by simp only; omega) (by simp only; omega) (by simp only [fits]; repeat (first | exact trivial | refine And.intro rfl ?_)) (by repeat first | exact tn_ | apply td_ rfl | apply tc_ | exact .here | apply Take1.there) (by repeat (first | exact Subs.refl | refine Subs.skip ?_))
  · obtain rfl : x = N := by omega
    have hin : ∀ z ∈ List.replicate x (c : Int), 0 ≤ z ∧ z ≤ 1048576 := fun z hz => by rw [(List.mem_replicate.1 hz).2]; omega
    repeat (first | (apply G.ex (hd := rfl); case h => (first | exact Ex.move rfl | exact Ex.lss rfl rfl)) | refine G.nil ?_ | refine GC.seq ?_ | refine GC.region ?_ | refine GC.exit ?_ | refine GE.then_normal ?_ | refine GE.then_exit ?_ | refine GE.block_hit ?_ | refine GC.cond_no rfl (by first | assumption | omega) ?_)
    first | refine G.call (caps := []) (lengthsOf_sp (.vec 3 1 ca x cc (flat (eI .i64) (List.replicate x (c : Int)))) ca x cc (List.replicate x (c : Int)) (List.length_replicate ..) (by omega) hin) rfl rfl rfl rfl (by repeat first | exact tn_ | apply td_ rfl | apply tc_ | exact .here | apply Take1.there) ?_ | refine G.callU (caps := []) (lengthsOf_sp (.vec 3 1 ca x cc (flat (eI .i64) (List.replicate x (c : Int)))) ca x cc (List.replicate x (c : Int)) (List.length_replicate ..) (by omega) hin) rfl rfl rfl (by repeat first | exact tn_ | apply td_ rfl | apply tc_ | exact .here | apply Take1.there) ?_
    rintro v_ give_ ⟨out, oa, oc, hol, h0, hg, rfl, rfl⟩ rs_ hrs_
    simp only [List.cons_append, List.nil_append] at hrs_
    subst hrs_
    have hev : ∀ i, i < x → out.getD i default = 1 + (k : Int) := fun i hi => by
      have g := Good.congr (d := fun _ => c) (fun i hi => rep_cN x c i hi) hg
      rw [← hN] at g hi
      have := even_law (m := 1 + k) (by omega) (by omega) g i hi
      have h2 := h0 (out.getD i default) (getD_in' (by omega))
      omega
    clear hg h0
    repeat (first | (apply G.ex (hd := rfl); case h => (first | exact Ex.move rfl | exact Ex.extract rfl rfl | exact Ex.assign rfl | exact Ex.notB rfl)) | refine G.nil ?_ | refine GC.seq ?_ | refine GC.region ?_ | refine GC.block ?_ | refine GC.skip ?_ | refine GE.then_normal ?_ | refine GC.cond_f rfl ?_)
    refine GC.loop (ι := Nat) (fun y => y ≤ x) (fun y => x - y) (fun y => [(0, .int .i64 a0), (2, .int .i64 a2), (7, .int .i64 (x : Int)), (8, .int .i64 (c : Int)), (9, .slice ca x cc), (11, .slice oa x oc), (14, .int .i64 (y : Int))]) (fun y => [.vec 3 1 oa x oc (flat (eI .i64) out), .vec 3 1 ca x cc (flat (eI .i64) (List.replicate x (c : Int)))]) 0 (Nat.zero_le _) (by simp only [fits]; repeat (first | exact trivial | refine And.intro rfl ?_)) (by repeat first | exact tn_ | apply td_ rfl | apply tc_ | exact .here | apply Take1.there) ?_
    rintro y hy fr_ rs_ hfr_ hrs_
    simp only [List.cons_append, List.nil_append] at hfr_ hrs_
    subst hfr_ hrs_
    by_cases h2 : y < x
    · have hv := hev y h2
      have hgi : (flat (eI .i64) out)[y * 1 + 0]? = some (.int .i64 (1 + (k : Int))) := by rw [flat_at (inferInstance : Enc (eI .i64) 1) out y 0 (by omega) (by decide), hv]; rfl
      repeat (first | (apply G.ex (hd := rfl); case h => (first | exact Ex.move rfl | exact Ex.lss rfl rfl)) | refine G.nil ?_ | refine GC.seq ?_ | refine GC.region ?_ | refine GC.block ?_ | refine GC.skip ?_ | refine GE.then_normal ?_ | refine GC.cond_yes rfl (by first | assumption | omega) ?_)
      refine GC.drawA [] [.vec 3 1 oa x oc (flat (eI .i64) out)] (by repeat first | exact tn_ | apply td_ rfl | apply tc_ | exact .here | apply Take1.there) (by kernel_rfl) ?_
      first | (apply GA.take [] (hD := .inl rfl) (hsub := ⟨_, Takes.nil⟩) (i := 0) (hi := rfl) (hs := by kernel_rfl) (hfr := by kernel_rfl) (hr := by kernel_rfl) (hQ := np_) (hd := rfl); case hx => (first | exact Ex.move rfl))
      first | (apply GA.take [] (hD := .inl rfl) (hsub := ⟨_, Takes.nil⟩) (i := 1) (hi := rfl) (hs := by kernel_rfl) (hfr := by kernel_rfl) (hr := by kernel_rfl) (hQ := np_) (hd := rfl); case hx => (first | exact Ex.move rfl))
      first | (apply GA.take _ (hD := .inr ⟨rfl, by kernel_rfl⟩) (hsub := ⟨_, (by repeat first | exact tn_ | apply td_ rfl | apply tc_ | exact .here | apply Take1.there)⟩) (i := 2) (hi := rfl) (hs := by kernel_rfl) (hfr := by kernel_rfl) (hr := by kernel_rfl) (hQ := np_) (hd := rfl); case hx => (first | exact Ex.indexN rfl rfl (by first | omega | (simp; done) | (simp; omega))))
      apply GA.take _ (hD := .inr ⟨rfl, by kernel_rfl⟩) (hsub := ⟨_, (by repeat first | exact tn_ | apply td_ rfl | apply tc_ | exact .here | apply Take1.there)⟩) (i := 3) (hi := rfl) (hs := by kernel_rfl) (hfr := by kernel_rfl) (hr := by kernel_rfl) (hQ := np_) (hd := rfl) (hx := (Ex.loadE (k := y * 1) rfl hgi))
      first | (apply GA.take [] (hD := .inl rfl) (hsub := ⟨_, Takes.nil⟩) (i := 4) (hi := rfl) (hs := by kernel_rfl) (hfr := by kernel_rfl) (hr := by kernel_rfl) (hQ := np_) (hd := rfl); case hx => (first | exact Ex.move rfl))
      refine GA.one (i := 5) (by kernel_rfl) rfl ?_
      first | refine G.call (caps := []) (picked_sp a0 5 (by decide) (by decide)) rfl rfl rfl rfl (by repeat first | exact tn_ | apply td_ rfl | apply tc_ | exact .here | apply Take1.there) ?_ | refine G.callU (caps := []) (picked_sp a0 5 (by decide) (by decide)) rfl rfl rfl (by repeat first | exact tn_ | apply td_ rfl | apply tc_ | exact .here | apply Take1.there) ?_
      rintro v_ give_ ⟨rfl, rfl⟩ rs_ hrs_
      simp only [List.cons_append, List.nil_append] at hrs_
      subst hrs_
      rw [hk]
      try refine G.nil ?_
      refine GA.back (by first | exact .inl (by decide) | exact .inr ⟨_, (by repeat first | exact tn_ | apply td_ rfl | apply tc_ | exact .here | apply Take1.there)⟩) ?_
      first | (apply GA.take [] (hD := .inl rfl) (hsub := ⟨_, Takes.nil⟩) (i := 6) (hi := rfl) (hs := by kernel_rfl) (hfr := by kernel_rfl) (hr := by kernel_rfl) (hQ := np_) (hd := rfl); case hx => (first | exact Ex.add rfl rfl (by omega)))
      first | (apply GA.take [] (hD := .inl rfl) (hsub := ⟨_, Takes.nil⟩) (i := 7) (hi := rfl) (hs := by kernel_rfl) (hfr := by kernel_rfl) (hr := by kernel_rfl) (hQ := np_) (hd := rfl); case hx => (first | exact Ex.neI rfl rfl))
      refine GA.done (by kernel_rfl) ?_
      have hne : ¬ (1 + (k : Int)) ≠ 1 + (k : Int) := fun h => h rfl
      repeat (first | (apply G.ex (hd := rfl); case h => (first | exact Ex.move rfl | exact Ex.add rfl rfl (by omega) | exact Ex.assign rfl)) | refine G.nil ?_ | refine GC.region ?_ | refine GC.skip ?_ | refine GE.then_normal ?_ | refine GE.block_normal ?_ | refine GC.cond_no rfl (by first | assumption | omega) ?_)
      rw [show (y : Int) + 1 = ((y + 1 : Nat) : Int) by omega]
      refine GE.loop (y + 1) (by omega) (by omega) (by simp only [fits]; repeat (first | exact trivial | refine And.intro rfl ?_)) (by repeat first | exact tn_ | apply td_ rfl | apply tc_ | exact .here | apply Take1.there) (by repeat (first | exact Subs.refl | refine Subs.skip ?_))
    · obtain rfl : y = x := by omega
      have hmul : (y : Int) * (c : Int) = ((y * c : Nat) : Int) := (Int.natCast_mul ..).symm
      have hmb : y * c ≤ 32 * 1000 := Nat.mul_le_mul (by omega) (by omega)
      have hsl : ((List.replicate y (c : Int)).set j ((y * c : Nat) : Int)).length = y := by rw [List.length_set, List.length_replicate]
      have hin2 : ∀ z ∈ (List.replicate y (c : Int)).set j ((y * c : Nat) : Int), 0 ≤ z ∧ z ≤ 1048576 := fun z hz => by
        rcases List.mem_or_eq_of_mem_set hz with h | h
        · exact hin z h
        · rw [h]; omega
      have hrl : (List.replicate y (c : Int)).length = y := List.length_replicate ..
      repeat (first | (apply G.ex (hd := rfl); case h => (first | exact Ex.move rfl | exact Ex.lss rfl rfl)) | refine G.nil ?_ | refine GC.seq ?_ | refine GC.region ?_ | refine GC.exit ?_ | refine GE.then_normal ?_ | refine GE.then_exit ?_ | refine GE.block_hit ?_ | refine GC.cond_no rfl (by first | assumption | omega) ?_)
      first | refine G.call (caps := []) (picked_sp a2 y (by omega) (by omega)) rfl rfl rfl rfl (by repeat first | exact tn_ | apply td_ rfl | apply tc_ | exact .here | apply Take1.there) ?_ | refine G.callU (caps := []) (picked_sp a2 y (by omega) (by omega)) rfl rfl rfl (by repeat first | exact tn_ | apply td_ rfl | apply tc_ | exact .here | apply Take1.there) ?_
      rintro v_ give_ ⟨rfl, rfl⟩ rs_ hrs_
      simp only [List.cons_append, List.nil_append] at hrs_
      subst hrs_
      rw [hj]
      repeat (first | (apply G.ex (hd := rfl); case h => (first | exact Ex.move rfl | exact Ex.indexN rfl rfl (by first | omega | (simp; done) | (simp; omega)) | exact Ex.mul rfl rfl (by omega))))
      rw [hmul]
      first | refine G.storeT0 rfl rfl rfl rfl (by first | omega | (simp; omega)) rfl (((y * c : Nat) : Int)) (rfl) (fun rs_ hrs_ => ?_) | refine G.storeT rfl rfl rfl rfl (by first | omega | (simp; omega)) rfl (((y * c : Nat) : Int)) (rfl) (fun rs_ hrs_ => ?_) | refine G.storeTA rfl rfl (by first | omega | (simp; omega)) rfl (((y * c : Nat) : Int)) (rfl) (fun rs_ hrs_ => ?_)
      try simp only at hrs_
      subst hrs_
      repeat (first | (apply G.ex (hd := rfl); case h => (first | exact Ex.move rfl)) | refine G.nil ?_ | refine GC.seq ?_ | refine GC.region ?_ | refine GE.then_normal ?_)
      first | refine G.call (caps := []) (lengthsOf_sp (.vec 3 1 ca y cc (flat (eI .i64) ((List.replicate y (c : Int)).set j ((y * c : Nat) : Int)))) ca y cc ((List.replicate y (c : Int)).set j ((y * c : Nat) : Int)) hsl (by omega) hin2) rfl rfl rfl rfl (by repeat first | exact tn_ | apply td_ rfl | apply tc_ | exact .here | apply Take1.there) ?_ | refine G.callU (caps := []) (lengthsOf_sp (.vec 3 1 ca y cc (flat (eI .i64) ((List.replicate y (c : Int)).set j ((y * c : Nat) : Int)))) ca y cc ((List.replicate y (c : Int)).set j ((y * c : Nat) : Int)) hsl (by omega) hin2) rfl rfl rfl (by repeat first | exact tn_ | apply td_ rfl | apply tc_ | exact .here | apply Take1.there) ?_
      rintro v_ give_ ⟨odd, da, dc, hdl, hd0, hg2, rfl, rfl⟩ rs_ hrs_
      simp only [List.cons_append, List.nil_append] at hrs_
      subst hrs_
      have hodd : odd.getD j default = 1 := by
        have g := Good.congr (d := fun i => if i = j then y * c else c) (fun i hi => set_cN y c (y * c) j i hi) hg2
        have := odd_law (by omega) hN2 hjN g
        have h2 := hd0 (odd.getD j default) (getD_in' (by omega))
        omega
      repeat (first | (apply G.ex (hd := rfl); case h => (first | exact Ex.move rfl | exact Ex.extract rfl rfl | exact Ex.assign rfl)) | refine G.yes rfl rfl ?_ | refine G.nil ?_ | refine GC.seq ?_ | refine GC.region ?_ | refine GE.then_normal ?_)
      first | refine G.call (caps := []) (picked_sp a2 y (by omega) (by omega)) rfl rfl rfl rfl (by repeat first | exact tn_ | apply td_ rfl | apply tc_ | exact .here | apply Take1.there) ?_ | refine G.callU (caps := []) (picked_sp a2 y (by omega) (by omega)) rfl rfl rfl (by repeat first | exact tn_ | apply td_ rfl | apply tc_ | exact .here | apply Take1.there) ?_
      rintro v_ give_ ⟨rfl, rfl⟩ rs_ hrs_
      simp only [List.cons_append, List.nil_append] at hrs_
      subst hrs_
      rw [hj]
      repeat (first | (apply G.ex (hd := rfl); case h => (first | exact Ex.eqI rfl rfl | exact Ex.indexN rfl rfl (by first | omega | (simp; done) | (simp; omega)) | exact Ex.loadT0 rfl (by first | omega | (simp; done) | (simp; omega)) rfl | exact Ex.assign rfl | exact Ex.pickLT rfl rfl)) | refine G.yes rfl rfl ?_ | refine G.nil ?_ | refine GC.ret ?_ | refine GE.then_normal ?_)
      refine GE.ret (by first | exact .inl rfl | exact .inr rfl) (res1 Try.results6 rfl) ⟨by rw [hodd]; rfl, rfl⟩ (by repeat first | exact tn_ | apply td_ rfl | apply tc_ | exact .here | apply Take1.there) (by repeat (first | exact Subs.refl | refine Subs.skip ?_))
end huff
end Go.Proofs.Ytfkgchdbjfbdaaa
