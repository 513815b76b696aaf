/-
  CONTRACT of packthreadkeep.HuffTwice, by the kit.
-/
import Derived.Test.YtfkgchdbjfbdaaaHuffBest
namespace Go.Proofs.Ytfkgchdbjfbdaaa
open Go.RowKit
attribute [local irreducible] Ex G GC GE Gq FPost LPost
set_option linter.unusedVariables false
set_option linter.unusedSimpArgs false
namespace huff
theorem getD_in {l : List Int} {i : Nat} (h : i < l.length) : l.getD i default ∈ l := by
  rw [List.getD_eq_getElem?_getD, List.getElem?_eq_getElem h]; exact List.getElem_mem _
theorem getD_out {l : List Int} {i : Nat} (h : l.length ≤ i) : l.getD i default = 0 := by
  rw [List.getD_eq_getElem?_getD, List.getElem?_eq_none h]; rfl
theorem Good.bd {C : List Int} {own : Nat → Nat} {n : Nat} (hl : C.length = n) (hn : n ≤ 64) (hC : ∀ z ∈ C, 0 ≤ z ∧ z ≤ 1048576) (g : Good (cN C) own n) (i : Nat) (hi : i < n) : own i ≤ 64 ∧ cN C i ≤ 1048576 := by
  have := hC _ (getD_in (l := C) (i := i) (by omega))
  have h2 : cN C i = (C.getD i default).toNat := rfl
  have h3 : (sup (cN C) n).length ≤ n := sup_len
  refine ⟨?_, by omega⟩
  by_cases c0 : cN C i = 0
  · rw [g.none i hi c0]; omega
  · have := (g.some i hi (by omega)).2; omega
theorem cost_bd {C : List Int} {own : Nat → Nat} {n : Nat} (hl : C.length = n) (hn : n ≤ 64) (hC : ∀ z ∈ C, 0 ≤ z ∧ z ≤ 1048576) (g : Good (cN C) own n) (x : Nat) (hx : x ≤ n) : sumTo (fun i => cN C i * own i) x ≤ x * 67108864 :=
  sumTo_bd fun j hj => by
    have a := Good.bd hl hn hC g j (by omega)
    exact Nat.le_trans (Nat.mul_le_mul a.2 a.1) (by decide)
set_option maxHeartbeats 16000000 in
theorem cost_sp (r : Res) (ao : Option Addr) (n c : Nat) (C : List Int) (hl : C.length = n) (hn : n ≤ 64) [hR : RdR r ao n c 1 (flat (eI .i64) C)] (hC : ∀ z ∈ C, 0 ≤ z ∧ z ≤ 1048576) :
    Spec Try.prog 12 [.slice ao n c] [r] fun v give => ∃ own : Nat → Nat, Good (cN C) own n ∧ v = .tuple #[.int .i64 ((sumTo (fun i => cN C i * own i) n : Nat) : Int), .bool true] ∧ give = [r] := by
  refine Spec.intro Try.func12 rfl Try.ntmps12 rfl fun w0 rest rs_ hrs_ => ?_
  simp only [List.cons_append, List.nil_append] at hrs_
  subst hrs_
  repeat (first | (apply G.ex (hd := rfl); case h => (first | exact Ex.move rfl | exact Ex.assign rfl)) | refine G.nil ?_ | refine GC.seq ?_ | refine GC.region ?_ | refine GE.then_normal ?_)
  first | refine G.call (caps := []) (lengthsOf_sp r ao n c C hl hn hC) rfl rfl rfl rfl (by repeat first | exact tn_ | apply td_ rfl | apply tc_ | exact .here | apply Take1.there) ?_ | refine G.callU (caps := []) (lengthsOf_sp r ao n c C hl hn hC) rfl rfl rfl (by repeat first | exact tn_ | apply td_ rfl | apply tc_ | exact .here | apply Take1.there) ?_
  rintro v_ give_ ⟨out, oa, oc, hol, h0, hg, rfl, rfl⟩ rs_ hrs_
  simp only [List.cons_append, List.nil_append] at hrs_
  subst hrs_
  obtain ⟨S1, hS1⟩ : ∃ S, S = sumTo (fun i => cN C i * (out.getD i default).toNat) := ⟨_, rfl⟩
  have b1 : ∀ i, i ≤ n → S1 i ≤ i * 67108864 := fun i hi => by rw [hS1]; exact cost_bd hl hn hC hg i hi
  have s1 : ∀ i, S1 (i + 1) = S1 i + cN C i * (out.getD i default).toNat := fun i => by rw [hS1]; rfl
  have e1 : S1 0 = 0 := by rw [hS1]; rfl
  repeat (first | (apply G.ex (hd := rfl); case h => (first | exact Ex.move rfl | exact Ex.extract rfl rfl | exact Ex.assign rfl)) | refine G.nil ?_ | refine GC.seq ?_ | refine GC.region ?_ | refine GC.block ?_ | refine GE.then_normal ?_)
  refine GC.loop (ι := Nat × Nat) (fun x => x.1 ≤ n ∧ x.2 = S1 x.1) (fun x => n - x.1) (fun x => [(0, .slice ao n c), (4, .slice oa n oc), (6, .bool true), (7, .int .i64 (x.2 : Int)), (8, .int .i64 (x.1 : Int))]) (fun x => [.vec 3 1 oa n oc (flat (eI .i64) out), r]) (0, 0) ⟨Nat.zero_le _, e1.symm⟩ (by simp only [fits]; repeat (first | exact trivial | refine And.intro rfl ?_)) (by repeat first | exact tn_ | apply td_ rfl | apply tc_ | exact .here | apply Take1.there) ?_
  rintro ⟨x, v1⟩ ⟨hx, hv1⟩ fr_ rs_ hfr_ hrs_
  simp only [List.cons_append, List.nil_append] at hfr_ hrs_
  subst hfr_ hrs_
  simp only at hx hv1
  by_cases h1 : x < n
  · have hq := h0 (out.getD x default) (getD_in (by omega))
    have hz := hC (C.getD x default) (getD_in (by omega))
    have hcx : cN C x = (C.getD x default).toNat := rfl
    have b1x := b1 x (by omega)
    have s1x := s1 x
    rw [← hv1] at b1x s1x
    have hbd := Good.bd hl hn hC hg x h1
    obtain ⟨O, hO⟩ : ∃ O : Nat, out.getD x default = (O : Int) := ⟨(out.getD x default).toNat, by omega⟩
    obtain ⟨k, hk⟩ : ∃ c : Nat, C.getD x default = (c : Int) := ⟨(C.getD x default).toNat, by omega⟩
    rw [show cN C x = k by omega, show (out.getD x default).toNat = O by omega] at s1x hbd
    have p1 : out.getD x default * C.getD x default = ((k * O : Nat) : Int) := by rw [hO, hk, Int.natCast_mul, Int.mul_comm]
    have q1 : k * O ≤ 1048576 * 64 := Nat.mul_le_mul hbd.2 hbd.1
    clear hS1
    repeat (first | (apply G.ex (hd := rfl); case h => (first | exact Ex.move rfl | exact Ex.lss rfl rfl | exact Ex.lenSl rfl | exact Ex.pickT rfl (by first | assumption | omega) rfl)) | refine G.g_tt rfl rfl (by first | assumption | omega) ?_ | refine G.nil ?_ | refine GC.seq ?_ | refine GC.region ?_ | refine GC.block ?_ | refine GC.skip ?_ | refine GE.then_normal ?_ | refine GC.cond_t rfl ?_)
    repeat (first | (apply G.ex (hd := rfl); case h => (first | exact Ex.move rfl | exact Ex.add rfl rfl (by omega) | exact Ex.assign rfl)) | refine G.nil ?_ | (apply Gq.ex (hd := rfl); case h => (first | exact Ex.move rfl | exact Ex.add rfl rfl (by omega) | exact Ex.indexN rfl rfl (by first | omega | (simp; done) | (simp; omega)) | exact Ex.loadT0 rfl (by first | omega | (simp; done) | (simp; omega)) rfl | exact Ex.assign rfl | exact Ex.mul rfl rfl (by omega))) | refine Gq.nil ?_ | refine GC.region ?_ | refine GC.draw (by kernel_rfl) (by kernel_rfl) ?_ | refine GE.then_normal ?_ | refine GE.block_normal ?_)
    rw [p1, show (v1 : Int) + ((k * O : Nat) : Int) = ((v1 + k * O : Nat) : Int) by omega, show (x : Int) + 1 = ((x + 1 : Nat) : Int) by omega]
    refine GE.loop (x + 1, v1 + k * O) ⟨by simp only; omega, by simp only; exact s1x.symm⟩ (by simp only; omega) (by simp only [fits]; repeat (first | exact trivial | refine And.intro rfl ?_)) (by repeat first | exact tn_ | apply td_ rfl | apply tc_ | exact .here | apply Take1.there) (by repeat (first | exact Subs.refl | refine Subs.skip ?_))
  · obtain rfl : x = n := by omega
    rw [hS1] at hv1
    clear hS1
    subst hv1
    repeat (first | (apply G.ex (hd := rfl); case h => (first | exact Ex.move rfl | exact Ex.lss rfl rfl | exact Ex.lenSl rfl | exact Ex.assign rfl | exact Ex.pickF rfl (by first | assumption | omega) rfl)) | refine G.g_tf rfl rfl (by first | assumption | omega) rfl ?_ | refine G.nil ?_ | refine GC.seq ?_ | refine GC.region ?_ | refine GC.ret ?_ | refine GC.exit ?_ | refine GE.then_normal ?_ | refine GE.then_exit ?_ | refine GE.block_hit ?_ | refine GC.cond_f rfl ?_)
    refine GE.ret (by first | exact .inl rfl | exact .inr rfl) (res2 Try.results12 rfl rfl) ⟨_, hg, rfl, rfl⟩ (by repeat first | exact tn_ | apply td_ rfl | apply tc_ | exact .here | apply Take1.there) (by repeat (first | exact Subs.refl | refine Subs.skip ?_))
def twF (A : List Int) (x : Nat) : List Int := (List.range x).map fun i => 2 * A.getD i default
def boF (A B : List Int) (x : Nat) : List Int := (List.range x).map fun i => A.getD i default + B.getD i default
theorem twF_len (A : List Int) (x : Nat) : (twF A x).length = x := by unfold twF; rw [List.length_map, List.length_range]
theorem boF_len (A B : List Int) (x : Nat) : (boF A B x).length = x := by unfold boF; rw [List.length_map, List.length_range]
theorem twF_s (A : List Int) (x : Nat) : twF A (x + 1) = twF A x ++ [2 * A.getD x default] := by unfold twF; rw [List.range_succ, List.map_append]; rfl
theorem boF_s (A B : List Int) (x : Nat) : boF A B (x + 1) = boF A B x ++ [A.getD x default + B.getD x default] := by unfold boF; rw [List.range_succ, List.map_append]; rfl
theorem getD_nn {A : List Int} (hA : ∀ z ∈ A, 0 ≤ z ∧ z < 5000) (i : Nat) : 0 ≤ A.getD i default ∧ A.getD i default < 5000 := by
  by_cases h : i < A.length
  · exact hA _ (getD_in h)
  · rw [getD_out (by omega)]; omega
theorem twF_cN {A : List Int} (hA : ∀ z ∈ A, 0 ≤ z ∧ z < 5000) : cN (twF A A.length) = fun i => 2 * cN A i := funext fun i => by
  unfold cN
  have := getD_nn hA i
  by_cases h : i < A.length
  · have e : (twF A A.length).getD i default = 2 * A.getD i default := by
      rw [List.getD_eq_getElem?_getD, List.getElem?_eq_getElem (by rw [twF_len]; exact h), Option.getD_some]; unfold twF
      rw [List.getElem_map, List.getElem_range]
    rw [e]; omega
  · rw [getD_out (by rw [twF_len]; omega), getD_out (l := A) (by omega)]; rfl
theorem boF_cN {A B : List Int} (hA : ∀ z ∈ A, 0 ≤ z ∧ z < 5000) (hB : ∀ z ∈ B, 0 ≤ z ∧ z < 5000) (hl : B.length = A.length) : cN (boF A B A.length) = fun i => cN A i + cN B i := funext fun i => by
  unfold cN
  have := getD_nn hA i
  have := getD_nn hB i
  by_cases h : i < A.length
  · have e : (boF A B A.length).getD i default = A.getD i default + B.getD i default := by
      rw [List.getD_eq_getElem?_getD, List.getElem?_eq_getElem (by rw [boF_len]; exact h), Option.getD_some]; unfold boF
      rw [List.getElem_map, List.getElem_range]
    rw [e]; omega
  · rw [getD_out (by rw [boF_len]; omega), getD_out (l := A) (by omega), getD_out (l := B) (by omega)]; rfl
theorem twF_in {A : List Int} (hA : ∀ z ∈ A, 0 ≤ z ∧ z < 5000) (x : Nat) : ∀ z ∈ twF A x, 0 ≤ z ∧ z ≤ 1048576 := fun z hz => by
  obtain ⟨i, _, rfl⟩ := List.mem_map.1 hz
  have := getD_nn hA i; omega
theorem boF_in {A B : List Int} (hA : ∀ z ∈ A, 0 ≤ z ∧ z < 5000) (hB : ∀ z ∈ B, 0 ≤ z ∧ z < 5000) (x : Nat) : ∀ z ∈ boF A B x, 0 ≤ z ∧ z ≤ 1048576 := fun z hz => by
  obtain ⟨i, _, rfl⟩ := List.mem_map.1 hz
  have := getD_nn hA i; have := getD_nn hB i; omega
theorem counts_5 {l : List Int} {N : Nat} : ∀ z ∈ (l.take N).map cntF, 0 ≤ z ∧ z < 5000 := fun z hz => by
  obtain ⟨x, _, rfl⟩ := List.mem_map.1 hz
  have := cntF_in x; omega
set_option maxHeartbeats 16000000 in
theorem huffTwice_sp (a0 : Option Addr) (len0 cap0 : Nat) (z0 : List Int) (hl0 : z0.length = len0) (hb0 : len0 ≤ 9223372036854775807) (hw0 : ∀ z ∈ z0, -9223372036854775808 ≤ z ∧ z ≤ 9223372036854775807) (a1 : Option Addr) (len1 cap1 : Nat) (z1 : List Int) (hl1 : z1.length = len1) (hb1 : len1 ≤ 9223372036854775807) (hw1 : ∀ z ∈ z1, -9223372036854775808 ≤ z ∧ z ≤ 9223372036854775807) :
    Spec Try.prog 5 [.slice a0 len0 cap0, .slice a1 len1 cap1] [.sl a0 len0 cap0 1 (flat (eI .i64) z0), .sl a1 len1 cap1 1 (flat (eI .i64) z1)] fun v give => v = .bool true ∧ give = [] := by
  refine Spec.intro Try.func5 rfl Try.ntmps5 rfl fun w0 rest rs_ hrs_ => ?_
  simp only [List.cons_append, List.nil_append] at hrs_
  subst hrs_
  repeat (first | (apply G.ex (hd := rfl); case h => (first | exact Ex.move rfl | exact Ex.assign rfl)) | refine G.nil ?_ | refine GC.seq ?_ | refine GC.region ?_ | refine GE.then_normal ?_)
  first | refine G.call (caps := []) (counts_sp a0 len0 cap0 z0 hl0 hb0 hw0 20 (by decide)) rfl rfl rfl rfl (by repeat first | exact tn_ | apply td_ rfl | apply tc_ | exact .here | apply Take1.there) ?_ | refine G.callU (caps := []) (counts_sp a0 len0 cap0 z0 hl0 hb0 hw0 20 (by decide)) rfl rfl rfl (by repeat first | exact tn_ | apply td_ rfl | apply tc_ | exact .here | apply Take1.there) ?_
  rintro v_ give_ ⟨A, aa, ac, hA, rfl, rfl⟩ rs_ hrs_
  simp only [List.cons_append, List.nil_append] at hrs_
  subst hrs_
  have hAn : A.length ≤ 20 := by rw [hA, List.length_map, List.length_take]; omega
  have hA5 : ∀ z ∈ A, 0 ≤ z ∧ z < 5000 := by rw [hA]; exact counts_5
  clear hA
  repeat (first | (apply G.ex (hd := rfl); case h => (first | exact Ex.move rfl | exact Ex.assign rfl)) | refine G.nil ?_ | refine GC.seq ?_ | refine GC.region ?_ | refine GE.then_normal ?_)
  first | refine G.call (caps := []) (counts_sp a1 len1 cap1 z1 hl1 hb1 hw1 20 (by decide)) rfl rfl rfl rfl (by repeat first | exact tn_ | apply td_ rfl | apply tc_ | exact .here | apply Take1.there) ?_ | refine G.callU (caps := []) (counts_sp a1 len1 cap1 z1 hl1 hb1 hw1 20 (by decide)) rfl rfl rfl (by repeat first | exact tn_ | apply td_ rfl | apply tc_ | exact .here | apply Take1.there) ?_
  rintro v_ give_ ⟨B0, ba0, bc0, hB0, rfl, rfl⟩ rs_ hrs_
  simp only [List.cons_append, List.nil_append] at hrs_
  subst hrs_
  have hBn : B0.length ≤ 20 := by rw [hB0, List.length_map, List.length_take]; omega
  have hB5 : ∀ z ∈ B0, 0 ≤ z ∧ z < 5000 := by rw [hB0]; exact counts_5
  clear hB0
  repeat (first | (apply G.ex (hd := rfl); case h => (first | exact Ex.assign rfl)) | refine G.nil ?_ | refine GC.seq ?_ | refine GC.block ?_ | refine GE.then_normal ?_)
  refine GC.loop (ι := List Int × Option Addr × Nat) (fun x => x.1.length ≤ 20 ∧ ∀ z ∈ x.1, 0 ≤ z ∧ z < 5000) (fun x => A.length - x.1.length) (fun x => [(5, .slice aa A.length ac), (6, .slice x.2.1 x.1.length x.2.2)]) (fun x => [.vec 3 1 aa A.length ac (flat (eI .i64) A), .vec 3 1 x.2.1 x.1.length x.2.2 (flat (eI .i64) x.1)]) (B0, ba0, bc0) ⟨hBn, hB5⟩ (by simp only [fits]; repeat (first | exact trivial | refine And.intro rfl ?_)) (by repeat first | exact tn_ | apply td_ rfl | apply tc_ | exact .here | apply Take1.there) ?_
  rintro ⟨B, ba, bc⟩ ⟨hBn, hB5⟩ fr_ rs_ hfr_ hrs_
  simp only [List.cons_append, List.nil_append] at hfr_ hrs_
  subst hfr_ hrs_
  simp only at hBn hB5
  by_cases h1 : B.length < A.length
  · have hcat : flat (eI .i64) B ++ flat (eI .i64) [0] = flat (eI .i64) (B ++ [0]) := (flat_append ..).symm
    have hlen : B.length + 1 = (B ++ [(0 : Int)]).length := by rw [List.length_append]; rfl
    repeat (first | (apply G.ex (hd := rfl); case h => (first | exact Ex.move rfl | exact Ex.lss rfl rfl | exact Ex.lenSl rfl)) | refine G.nil ?_ | refine GC.seq ?_ | refine GC.region ?_ | refine GC.block ?_ | refine GC.skip ?_ | refine GE.then_normal ?_ | refine GC.cond_yes rfl (by first | assumption | omega) ?_)
    refine G.lit (cells := flat (eI .i64) [0]) rfl (by rfl) (by rfl) (by rfl) (by rfl) (by rfl) (by rfl) rfl (fun q => ?_)
    refine G.app rfl rfl (by rfl) (by omega) rfl (hcat) (fun o2 c2 rs_ hrs_ => ?_)
    try simp only at hrs_
    subst hrs_
    rw [hlen]
    repeat (first | (apply G.ex (hd := rfl); case h => (first | exact Ex.assign rfl)) | refine G.nil ?_ | refine GE.block_normal ?_)
    refine GE.loop (B ++ [0], o2, c2) ⟨by simp only; omega, fun z hz => by rcases List.mem_append.1 hz with h | h; exact hB5 z h; rw [List.mem_singleton.1 h]; decide⟩ (by simp only; omega) (by simp only [fits]; repeat (first | exact trivial | refine And.intro rfl ?_)) (by repeat first | exact tn_ | apply td_ rfl | apply tc_ | exact .here | apply Take1.there) (by repeat (first | exact Subs.refl | refine Subs.skip ?_))
  · obtain ⟨B1, hB1⟩ : ∃ B1, B.take A.length = B1 := ⟨_, rfl⟩
    have hl1 : B1.length = A.length := by rw [← hB1, List.length_take]; omega
    have hB15 : ∀ z ∈ B1, 0 ≤ z ∧ z < 5000 := fun z hz => by rw [← hB1] at hz; exact hB5 z (List.mem_of_mem_take hz)
    have hzs : ((flat (eI .i64) B).drop (0 * 1)).take ((A.length - 0) * 1) = flat (eI .i64) B1 := by
      rw [Nat.zero_mul, List.drop_zero, Nat.sub_zero, flat_take (inferInstance : Enc (eI .i64) 1), hB1]
    repeat (first | (apply G.ex (hd := rfl); case h => (first | exact Ex.move rfl | exact Ex.lss rfl rfl | exact Ex.lenSl rfl)) | refine G.nil ?_ | refine GC.seq ?_ | refine GC.region ?_ | refine GC.exit ?_ | refine GE.then_normal ?_ | refine GE.then_exit ?_ | refine GE.block_hit ?_ | refine GC.cond_no rfl (by first | assumption | omega) ?_)
    refine G.subV (l := 0) (r := A.length) rfl (by first | exact .inl ⟨rfl, rfl⟩ | exact .inr ⟨_, _, rfl, ev_int rfl (by omega)⟩) (by first | exact .inl ⟨rfl, rfl⟩ | exact .inr ⟨_, _, rfl, ev_int rfl (by omega)⟩) (by omega) rfl (hzs) (fun bb rs_ hrs_ => ?_)
    try simp only at hrs_
    subst hrs_
    clear hB1 hzs h1 hBn hB5
    rw [Nat.sub_zero]
    repeat (first | (apply G.ex (hd := rfl); case h => (first | exact Ex.assign rfl)) | refine G.nil ?_ | refine GC.seq ?_ | refine GC.region ?_ | refine GC.block ?_ | refine GE.then_normal ?_)
    refine GC.nilvec 3 1 ?_
    refine GC.nilvec 3 1 ?_
    repeat (first | fail)
    refine GC.loop (ι := Nat × (Option Addr × Nat) × Option Addr × Nat) (fun x => x.1 ≤ A.length) (fun x => A.length - x.1) (fun x => [(5, .slice aa A.length ac), (6, .slice bb A.length bc), (7, .slice x.2.1.1 x.1 x.2.1.2), (8, .slice x.2.2.1 x.1 x.2.2.2), (9, .int .i64 (x.1 : Int))]) (fun x => [.vec 3 1 x.2.1.1 x.1 x.2.1.2 (flat (eI .i64) (twF A x.1)), .vec 3 1 x.2.2.1 x.1 x.2.2.2 (flat (eI .i64) (boF A B1 x.1)), .vec 3 1 aa A.length ac (flat (eI .i64) A), .vec 3 1 bb A.length bc (flat (eI .i64) B1)]) (0, (none, 0), none, 0) (Nat.zero_le _) (by simp only [fits]; repeat (first | exact trivial | refine And.intro rfl ?_)) (by repeat first | exact tn_ | apply td_ rfl | apply tc_ | exact .here | apply Take1.there) ?_
    rintro ⟨x, ⟨ta, tc⟩, ua, uc⟩ hx fr_ rs_ hfr_ hrs_
    simp only [List.cons_append, List.nil_append] at hfr_ hrs_
    subst hfr_ hrs_
    simp only at hx
    by_cases h2 : x < A.length
    · have hz := getD_nn hA5 x
      have hy := getD_nn hB15 x
      have hgA : (flat (eI .i64) A)[x * 1 + 0]? = some (.int .i64 (A.getD x default)) := flat_at (inferInstance : Enc (eI .i64) 1) A x 0 h2 (by decide)
      have hgB : (flat (eI .i64) B1)[x * 1 + 0]? = some (.int .i64 (B1.getD x default)) := flat_at (inferInstance : Enc (eI .i64) 1) B1 x 0 (by omega) (by decide)
      have hcat : flat (eI .i64) (twF A x) ++ flat (eI .i64) [2 * A.getD x default] = flat (eI .i64) (twF A (x + 1)) := by rw [twF_s]; exact (flat_append ..).symm
      have hcat2 : flat (eI .i64) (boF A B1 x) ++ flat (eI .i64) [A.getD x default + B1.getD x default] = flat (eI .i64) (boF A B1 (x + 1)) := by rw [boF_s]; exact (flat_append ..).symm
      repeat (first | (apply G.ex (hd := rfl); case h => (first | exact Ex.move rfl | exact Ex.lss rfl rfl | exact Ex.lenSl rfl | exact Ex.indexN rfl rfl (by first | omega | (simp; done) | (simp; omega)) | exact Ex.loadT0 rfl (by first | omega | (simp; done) | (simp; omega)) rfl | exact Ex.mul rfl rfl (by omega))) | refine G.nil ?_ | refine GC.seq ?_ | refine GC.region ?_ | refine GC.block ?_ | refine GC.skip ?_ | refine GE.then_normal ?_ | refine GC.cond_yes rfl (by first | assumption | omega) ?_)
      refine G.lit (cells := flat (eI .i64) [2 * A.getD x default]) rfl (by rfl) (by rfl) (by rfl) (by rfl) (by rfl) (by rfl) rfl (fun q => ?_)
      refine G.app rfl rfl (by rfl) (by omega) rfl (hcat) (fun o2 c2 rs_ hrs_ => ?_)
      try simp only at hrs_
      subst hrs_
      repeat (first | (apply G.ex (hd := rfl); case h => (first | exact Ex.assign rfl)) | refine G.nil ?_ | refine GE.then_normal ?_)
      refine GC.drawA [] [.vec 3 1 aa A.length ac (flat (eI .i64) A), .vec 3 1 bb A.length bc (flat (eI .i64) B1)] (by repeat first | exact tn_ | apply td_ rfl | apply tc_ | exact .here | apply Take1.there) (by kernel_rfl) ?_
      first | (apply GA.take [] (hD := .inl rfl) (hsub := ⟨_, Takes.nil⟩) (i := 0) (hi := rfl) (hs := by kernel_rfl) (hfr := by kernel_rfl) (hr := by kernel_rfl) (hQ := np_) (hd := rfl); case hx => (first | exact Ex.move rfl))
      first | (apply GA.take [] (hD := .inl rfl) (hsub := ⟨_, Takes.nil⟩) (i := 1) (hi := rfl) (hs := by kernel_rfl) (hfr := by kernel_rfl) (hr := by kernel_rfl) (hQ := np_) (hd := rfl); case hx => (first | exact Ex.move rfl))
      first | (apply GA.take [] (hD := .inl rfl) (hsub := ⟨_, Takes.nil⟩) (i := 2) (hi := rfl) (hs := by kernel_rfl) (hfr := by kernel_rfl) (hr := by kernel_rfl) (hQ := np_) (hd := rfl); case hx => (first | exact Ex.move rfl))
      first | (apply GA.take _ (hD := .inr ⟨rfl, by kernel_rfl⟩) (hsub := ⟨_, (by repeat first | exact tn_ | apply td_ rfl | apply tc_ | exact .here | apply Take1.there)⟩) (i := 3) (hi := rfl) (hs := by kernel_rfl) (hfr := by kernel_rfl) (hr := by kernel_rfl) (hQ := np_) (hd := rfl); case hx => (first | exact Ex.indexN rfl rfl (by first | omega | (simp; done) | (simp; omega))))
      apply GA.take _ (hD := .inr ⟨rfl, by kernel_rfl⟩) (hsub := ⟨_, (by repeat first | exact tn_ | apply td_ rfl | apply tc_ | exact .here | apply Take1.there)⟩) (i := 4) (hi := rfl) (hs := by kernel_rfl) (hfr := by kernel_rfl) (hr := by kernel_rfl) (hQ := np_) (hd := rfl) (hx := (Ex.loadE (k := x * 1) rfl hgA))
      first | (apply GA.take [] (hD := .inl rfl) (hsub := ⟨_, Takes.nil⟩) (i := 5) (hi := rfl) (hs := by kernel_rfl) (hfr := by kernel_rfl) (hr := by kernel_rfl) (hQ := np_) (hd := rfl); case hx => (first | exact Ex.move rfl))
      first | (apply GA.take [] (hD := .inl rfl) (hsub := ⟨_, Takes.nil⟩) (i := 6) (hi := rfl) (hs := by kernel_rfl) (hfr := by kernel_rfl) (hr := by kernel_rfl) (hQ := np_) (hd := rfl); case hx => (first | exact Ex.move rfl))
      first | (apply GA.take _ (hD := .inr ⟨rfl, by kernel_rfl⟩) (hsub := ⟨_, (by repeat first | exact tn_ | apply td_ rfl | apply tc_ | exact .here | apply Take1.there)⟩) (i := 7) (hi := rfl) (hs := by kernel_rfl) (hfr := by kernel_rfl) (hr := by kernel_rfl) (hQ := np_) (hd := rfl); case hx => (first | exact Ex.indexN rfl rfl (by first | omega | (simp; done) | (simp; omega))))
      apply GA.take _ (hD := .inr ⟨rfl, by kernel_rfl⟩) (hsub := ⟨_, (by repeat first | exact tn_ | apply td_ rfl | apply tc_ | exact .here | apply Take1.there)⟩) (i := 8) (hi := rfl) (hs := by kernel_rfl) (hfr := by kernel_rfl) (hr := by kernel_rfl) (hQ := np_) (hd := rfl) (hx := (Ex.loadE (k := x * 1) rfl hgB))
      first | (apply GA.take [] (hD := .inl rfl) (hsub := ⟨_, Takes.nil⟩) (i := 9) (hi := rfl) (hs := by kernel_rfl) (hfr := by kernel_rfl) (hr := by kernel_rfl) (hQ := np_) (hd := rfl); case hx => (first | exact Ex.add rfl rfl (by omega)))
      refine GA.one (i := 10) (by kernel_rfl) rfl ?_
      refine G.lit (cells := flat (eI .i64) [A.getD x default + B1.getD x default]) rfl (by rfl) (by rfl) (by rfl) (by rfl) (by rfl) (by rfl) rfl (fun q2 => ?_)
      try refine G.nil ?_
      refine GA.back (by first | exact .inl (by decide) | exact .inr ⟨_, (by repeat first | exact tn_ | apply td_ rfl | apply tc_ | exact .here | apply Take1.there)⟩) ?_
      refine GA.one (i := 11) (by kernel_rfl) rfl ?_
      refine G.app rfl rfl (by rfl) (by omega) rfl (hcat2) (fun o3 c3 rs_ hrs_ => ?_)
      try simp only at hrs_
      subst hrs_
      try refine G.nil ?_
      refine GA.back (by first | exact .inl (by decide) | exact .inr ⟨_, (by repeat first | exact tn_ | apply td_ rfl | apply tc_ | exact .here | apply Take1.there)⟩) ?_
      first | (apply GA.take [] (hD := .inl rfl) (hsub := ⟨_, Takes.nil⟩) (i := 12) (hi := rfl) (hs := by kernel_rfl) (hfr := by kernel_rfl) (hr := by kernel_rfl) (hQ := np_) (hd := rfl); case hx => (first | exact Ex.assign rfl))
      refine GA.done (by kernel_rfl) ?_
      repeat (first | (apply G.ex (hd := rfl); case h => (first | exact Ex.move rfl | exact Ex.add rfl rfl (by omega) | exact Ex.assign rfl)) | refine G.nil ?_ | refine GC.region ?_ | refine GE.then_normal ?_ | refine GE.block_normal ?_)
      rw [show (x : Int) + 1 = ((x + 1 : Nat) : Int) by omega]
      refine GE.loop (x + 1, (o2, c2), o3, c3) (by simp only; omega) (by simp only; omega) (by simp only [fits]; repeat (first | exact trivial | refine And.intro rfl ?_)) (by repeat first | exact tn_ | apply td_ rfl | apply tc_ | exact .here | apply Take1.there) (by repeat (first | exact Subs.refl | refine Subs.skip ?_))
    · obtain rfl : x = A.length := by omega
      clear h2 hx
      have hA6 : ∀ z ∈ A, 0 ≤ z ∧ z ≤ 1048576 := fun z hz => by have := hA5 z hz; omega
      have hB6 : ∀ z ∈ B1, 0 ≤ z ∧ z ≤ 1048576 := fun z hz => by have := hB15 z hz; omega
      repeat (first | (apply G.ex (hd := rfl); case h => (first | exact Ex.move rfl | exact Ex.lss rfl rfl | exact Ex.lenSl rfl | exact Ex.assign rfl)) | refine G.nil ?_ | refine GC.seq ?_ | refine GC.region ?_ | refine GC.exit ?_ | refine GE.then_normal ?_ | refine GE.then_exit ?_ | refine GE.block_hit ?_ | refine GC.cond_no rfl (by first | assumption | omega) ?_)
      first | refine G.call (caps := []) (cost_sp (.vec 3 1 aa A.length ac (flat (eI .i64) A)) aa A.length ac A rfl (by omega) hA6) rfl rfl rfl rfl (by repeat first | exact tn_ | apply td_ rfl | apply tc_ | exact .here | apply Take1.there) ?_ | refine G.callU (caps := []) (cost_sp (.vec 3 1 aa A.length ac (flat (eI .i64) A)) aa A.length ac A rfl (by omega) hA6) rfl rfl rfl (by repeat first | exact tn_ | apply td_ rfl | apply tc_ | exact .here | apply Take1.there) ?_
      rintro v_ give_ ⟨o1, g1, rfl, rfl⟩ rs_ hrs_
      simp only [List.cons_append, List.nil_append] at hrs_
      subst hrs_
      repeat (first | (apply G.ex (hd := rfl); case h => (first | exact Ex.move rfl | exact Ex.extract rfl rfl | exact Ex.assign rfl)) | refine G.nil ?_ | refine GC.seq ?_ | refine GC.region ?_ | refine GE.then_normal ?_)
      first | refine G.call (caps := []) (cost_sp (.vec 3 1 bb A.length bc (flat (eI .i64) B1)) bb A.length bc B1 hl1 (by omega) hB6) rfl rfl rfl rfl (by repeat first | exact tn_ | apply td_ rfl | apply tc_ | exact .here | apply Take1.there) ?_ | refine G.callU (caps := []) (cost_sp (.vec 3 1 bb A.length bc (flat (eI .i64) B1)) bb A.length bc B1 hl1 (by omega) hB6) rfl rfl rfl (by repeat first | exact tn_ | apply td_ rfl | apply tc_ | exact .here | apply Take1.there) ?_
      rintro v_ give_ ⟨o2, g2, rfl, rfl⟩ rs_ hrs_
      simp only [List.cons_append, List.nil_append] at hrs_
      subst hrs_
      repeat (first | (apply G.ex (hd := rfl); case h => (first | exact Ex.move rfl | exact Ex.extract rfl rfl | exact Ex.assign rfl)) | refine G.nil ?_ | refine GC.seq ?_ | refine GC.region ?_ | refine GE.then_normal ?_)
      first | refine G.call (caps := []) (cost_sp (.vec 3 1 ta A.length tc (flat (eI .i64) (twF A A.length))) ta A.length tc (twF A A.length) (twF_len ..) (by omega) (twF_in hA5 _)) rfl rfl rfl rfl (by repeat first | exact tn_ | apply td_ rfl | apply tc_ | exact .here | apply Take1.there) ?_ | refine G.callU (caps := []) (cost_sp (.vec 3 1 ta A.length tc (flat (eI .i64) (twF A A.length))) ta A.length tc (twF A A.length) (twF_len ..) (by omega) (twF_in hA5 _)) rfl rfl rfl (by repeat first | exact tn_ | apply td_ rfl | apply tc_ | exact .here | apply Take1.there) ?_
      rintro v_ give_ ⟨o3, g3, rfl, rfl⟩ rs_ hrs_
      simp only [List.cons_append, List.nil_append] at hrs_
      subst hrs_
      repeat (first | (apply G.ex (hd := rfl); case h => (first | exact Ex.move rfl | exact Ex.extract rfl rfl | exact Ex.assign rfl)) | refine G.nil ?_ | refine GC.seq ?_ | refine GC.region ?_ | refine GE.then_normal ?_)
      first | refine G.call (caps := []) (cost_sp (.vec 3 1 ua A.length uc (flat (eI .i64) (boF A B1 A.length))) ua A.length uc (boF A B1 A.length) (boF_len ..) (by omega) (boF_in hA5 hB15 _)) rfl rfl rfl rfl (by repeat first | exact tn_ | apply td_ rfl | apply tc_ | exact .here | apply Take1.there) ?_ | refine G.callU (caps := []) (cost_sp (.vec 3 1 ua A.length uc (flat (eI .i64) (boF A B1 A.length))) ua A.length uc (boF A B1 A.length) (boF_len ..) (by omega) (boF_in hA5 hB15 _)) rfl rfl rfl (by repeat first | exact tn_ | apply td_ rfl | apply tc_ | exact .here | apply Take1.there) ?_
      rintro v_ give_ ⟨o4, g4, rfl, rfl⟩ rs_ hrs_
      simp only [List.cons_append, List.nil_append] at hrs_
      subst hrs_
      have d1 := cost_bd rfl (by omega) hA6 g1 _ (Nat.le_refl _)
      have d2 := cost_bd hl1 (by omega) hB6 g2 _ (Nat.le_refl _)
      have e3 : sumTo (fun i => cN (twF A A.length) i * o3 i) A.length = 2 * sumTo (fun i => cN A i * o1 i) A.length := by
        rw [twF_cN hA5] at g3 ⊢; exact twice_law g1 g3
      have e4 : sumTo (fun i => cN A i * o1 i) A.length + sumTo (fun i => cN B1 i * o2 i) A.length ≤ sumTo (fun i => cN (boF A B1 A.length) i * o4 i) A.length := by
        rw [boF_cN hA5 hB15 hl1] at g4 ⊢; exact both_law g1 g2 g4
      rw [e3]
      clear e3 g1 g2 g3 g4
      generalize sumTo (fun i => cN A i * o1 i) A.length = X at *
      generalize sumTo (fun i => cN B1 i * o2 i) A.length = Y at *
      generalize sumTo (fun i => cN (boF A B1 A.length) i * o4 i) A.length = Q at *
      have f1 : ((2 * X : Nat) : Int) = 2 * (X : Int) := by omega
      have f2 : (Q : Int) ≥ (X : Int) + (Y : Int) := by omega
      repeat (first | (apply G.ex (hd := rfl); case h => (first | exact Ex.move rfl | exact Ex.add rfl rfl (by omega) | exact Ex.geq rfl rfl | exact Ex.eqI rfl rfl | exact Ex.extract rfl rfl | exact Ex.assign rfl | exact Ex.mul rfl rfl (by omega) | exact Ex.pickT rfl (by first | assumption | omega) rfl | exact Ex.pickLT rfl rfl)) | refine G.g_tt rfl rfl (by first | assumption | omega) ?_ | refine G.yes rfl rfl ?_ | refine G.nil ?_ | refine GC.seq ?_ | refine GC.region ?_ | refine GC.ret ?_ | refine GE.then_normal ?_)
      refine GE.ret (by first | exact .inl rfl | exact .inr rfl) (res1 Try.results5 rfl) ⟨by simp [f1, f2], rfl⟩ (by repeat first | exact tn_ | apply td_ rfl | apply tc_ | exact .here | apply Take1.there) (by repeat (first | exact Subs.refl | refine Subs.skip ?_))
end huff
end Go.Proofs.Ytfkgchdbjfbdaaa
