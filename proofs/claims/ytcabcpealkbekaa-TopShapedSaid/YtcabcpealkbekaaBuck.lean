/-
  CONTRACTS of bucket.Play and bucket.Bound, by the kit.
-/
import Derived.Test.YtcabcpealkbekaaFairAll
namespace Go.Proofs.Ytcabcpealkbekaa
open Go.RowKit
attribute [local irreducible] Ex G GC GE Gq FPost LPost
set_option linter.unusedVariables false
set_option linter.unusedSimpArgs false

namespace buck
def eBo (b : Bool) : List Value := [.bool b]
instance : Enc eBo 1 := ⟨fun _ => rfl, fun x u hu => by simp [eBo] at hu; subst hu; rfl⟩
def pas (L : List (Nat × Int)) (B : List Bool) : Nat → Int
  | 0 => 0
  | k + 1 => pas L B k + if B.getD k default then (L.getD k default).2 else 0
theorem pas_app (L : List (Nat × Int)) (B C : List Bool) : ∀ k, k ≤ B.length → pas L (B ++ C) k = pas L B k
  | 0, _ => rfl
  | k + 1, h => by
    unfold pas
    rw [pas_app L B C k (by omega)]
    have : (B ++ C).getD k default = B.getD k default := by
      rw [List.getD_eq_getElem?_getD, List.getD_eq_getElem?_getD, List.getElem?_append_left (by omega)]
    rw [this]
def lst (L : List (Nat × Int)) : Nat → Nat
  | 0 => 0
  | k + 1 => (L.getD k default).1
structure Ok (L : List (Nat × Int)) : Prop where
  el : ∀ k, k < L.length → (L.getD k default).1 ≤ 300 ∧ 1 ≤ (L.getD k default).2 ∧ (L.getD k default).2 ≤ 1500
  up : ∀ k, k < L.length → lst L k ≤ (L.getD k default).1
structure Inv (r u : Int) (L : List (Nat × Int)) (B : List Bool) (c : Int) (i : Nat) : Prop where
  len : B.length = i
  c0 : 0 ≤ c ∧ c ≤ u
  bd : 0 ≤ pas L B i ∧ pas L B i + c ≤ u + r * (lst L i : Int) ∧ pas L B i ≤ 1500 * (i : Int)
  one : 0 < i → B.getD 0 default = decide ((L.getD 0 default).2 ≤ u)
  z : i = 0 → c = u
def av (r u c : Int) (L : List (Nat × Int)) (i : Nat) : Int := if 0 < i then min u (c + r * ((L.getD i default).1 - lst L i : Int)) else c
theorem step {r u c : Int} {L : List (Nat × Int)} {B : List Bool} {i : Nat} (h : Inv r u L B c i) (ok : Ok L) (hi : i < L.length) (hr : 0 ≤ r) :
    0 ≤ av r u c L i ∧ av r u c L i ≤ u ∧ pas L B i + av r u c L i ≤ u + r * ((L.getD i default).1 : Int) ∧ (i = 0 → av r u c L i = u) := by
  obtain ⟨h1, h2, h3, h4, h5⟩ := h
  have hu := ok.up i hi
  have e : r * ((L.getD i default).1 - lst L i : Int) = r * ((L.getD i default).1 : Int) - r * (lst L i : Int) := Int.mul_sub ..
  have p : 0 ≤ r * ((L.getD i default).1 - lst L i : Int) := Int.mul_nonneg hr (by omega)
  unfold av
  by_cases h0 : 0 < i
  · rw [if_pos h0]; omega
  · have : i = 0 := by omega
    subst this
    rw [if_neg h0]
    have q : 0 ≤ r * ((L.getD 0 default).1 : Int) := Int.mul_nonneg hr (by omega)
    have e0 : r * (lst L 0 : Int) = 0 := by show r * ((0 : Nat) : Int) = 0; simp
    rw [e0] at h3
    omega
theorem stepT {r u c : Int} {L : List (Nat × Int)} {B : List Bool} {i : Nat} (h : Inv r u L B c i) (ok : Ok L) (hi : i < L.length) (hr : 0 ≤ r) (hs : (L.getD i default).2 ≤ av r u c L i) : Inv r u L (B ++ [true]) (av r u c L i - (L.getD i default).2) (i + 1) := by
  obtain ⟨a1, a2, a3, a4⟩ := step h ok hi hr
  obtain ⟨h1, h2, h3, h4, h5⟩ := h
  obtain ⟨e1, e2, e3⟩ := ok.el i hi
  have hp : pas L (B ++ [true]) (i + 1) = pas L B i + (L.getD i default).2 := by
    have : (B ++ [true]).getD i default = true := by rw [List.getD_eq_getElem?_getD, List.getElem?_append_right (by omega), h1, Nat.sub_self]; rfl
    rw [pas, pas_app L B [true] i (by omega), this]; rfl
  refine ⟨by simp [h1], by omega, ?_, fun _ => ?_, fun h => by omega⟩
  · rw [hp]
    show _ ∧ _ ≤ u + r * ((L.getD i default).1 : Int) ∧ _
    omega
  · by_cases h0 : 0 < i
    · rw [← h4 h0, List.getD_eq_getElem?_getD, List.getD_eq_getElem?_getD, List.getElem?_append_left (by omega)]
    · have : i = 0 := by omega
      subst this
      have : B = [] := List.length_eq_zero_iff.1 h1
      subst this
      rw [a4 rfl] at hs
      simpa using hs
theorem stepF {r u c : Int} {L : List (Nat × Int)} {B : List Bool} {i : Nat} (h : Inv r u L B c i) (ok : Ok L) (hi : i < L.length) (hr : 0 ≤ r) (hs : ¬ (L.getD i default).2 ≤ av r u c L i) : Inv r u L (B ++ [false]) (av r u c L i) (i + 1) := by
  obtain ⟨a1, a2, a3, a4⟩ := step h ok hi hr
  obtain ⟨h1, h2, h3, h4, h5⟩ := h
  obtain ⟨e1, e2, e3⟩ := ok.el i hi
  have hp : pas L (B ++ [false]) (i + 1) = pas L B i := by
    have : (B ++ [false]).getD i default = false := by rw [List.getD_eq_getElem?_getD, List.getElem?_append_right (by omega), h1, Nat.sub_self]; rfl
    rw [pas, pas_app L B [false] i (by omega), this]; simp
  refine ⟨by simp [h1], by omega, ?_, fun _ => ?_, fun h => by omega⟩
  · rw [hp]
    show _ ∧ _ ≤ u + r * ((L.getD i default).1 : Int) ∧ _
    omega
  · by_cases h0 : 0 < i
    · rw [← h4 h0, List.getD_eq_getElem?_getD, List.getD_eq_getElem?_getD, List.getElem?_append_left (by omega)]
    · have : i = 0 := by omega
      subst this
      have : B = [] := List.length_eq_zero_iff.1 h1
      subst this
      rw [a4 rfl] at hs
      simpa using hs

theorem in_sp (n lo hi : Int) (h1 : lo ≤ n) (h2 : n ≤ hi) : Spec Try.prog 48 [.int .i64 n, .int .i64 lo, .int .i64 hi] [] fun v give => v = .bool true ∧ give = [] := by
  refine Spec.intro Try.func48 rfl Try.ntmps48 rfl fun w0 rest rs_ hrs_ => ?_
  simp only [List.cons_append, List.nil_append] at hrs_
  subst hrs_
  repeat (first | (apply G.ex (hd := rfl); case h => (first | exact Ex.move rfl | exact Ex.leq rfl rfl | exact Ex.geq rfl rfl | exact Ex.assign rfl | exact Ex.pickT rfl (by first | assumption | omega) rfl)) | refine G.g_tt rfl rfl (by first | assumption | omega) ?_ | refine G.nil ?_ | refine GC.seq ?_ | refine GC.region ?_ | refine GC.ret ?_ | refine GE.then_normal ?_)
  refine GE.ret (by first | exact .inl rfl | exact .inr rfl) (by first | exact res0 Try.results48 | exact res1 Try.results48 rfl | exact res2 Try.results48 rfl rfl | exact resR1 Try.results48 (by first | exact RV.tmp rfl | exact RV.cell rfl rfl | exact RV.cell1 rfl) | exact resR2 Try.results48 (by first | exact RV.tmp rfl | exact RV.cell rfl rfl | exact RV.cell1 rfl) (by first | exact RV.tmp rfl | exact RV.cell rfl rfl | exact RV.cell1 rfl) | exact resR3 Try.results48 (by first | exact RV.tmp rfl | exact RV.cell rfl rfl | exact RV.cell1 rfl) (by first | exact RV.tmp rfl | exact RV.cell rfl rfl | exact RV.cell1 rfl) (by first | exact RV.tmp rfl | exact RV.cell rfl rfl | exact RV.cell1 rfl)) ⟨by simp [h1, h2], rfl⟩ (by repeat (first | exact Takes.nil | apply Takes.dup rfl | apply Takes.cons | exact Take1.here | apply Take1.there)) (by repeat (first | exact Subs.refl | refine Subs.skip ?_))
theorem may_sp (r u : Int) (hr : 0 ≤ r ∧ r ≤ 1000) (hu : 0 ≤ u ∧ u ≤ 100000) : Spec Try.prog 47 [.int .i64 r, .int .i64 u] [] fun v give => v = .bool true ∧ give = [] := by
  refine Spec.intro Try.func47 rfl Try.ntmps47 rfl fun w0 rest rs_ hrs_ => ?_
  simp only [List.cons_append, List.nil_append] at hrs_
  subst hrs_
  repeat (first | (apply G.ex (hd := rfl); case h => (first | exact Ex.move rfl | exact Ex.assign rfl)) | refine G.nil ?_ | refine GC.seq ?_ | refine GC.region ?_ | refine GE.then_normal ?_)
  first | refine G.call (caps := []) (in_sp r 0 1000 (by omega) (by omega)) rfl rfl rfl rfl (by repeat (first | exact Takes.nil | apply Takes.dup rfl | apply Takes.cons | exact Take1.here | apply Take1.there)) ?_ | refine G.callU (caps := []) (in_sp r 0 1000 (by omega) (by omega)) rfl rfl rfl (by repeat (first | exact Takes.nil | apply Takes.dup rfl | apply Takes.cons | exact Take1.here | apply Take1.there)) ?_
  rintro v_ give_ ⟨rfl, rfl⟩ rs_ hrs_
  simp only [List.cons_append, List.nil_append] at hrs_
  subst hrs_
  repeat (first | (apply G.ex (hd := rfl); case h => (first | exact Ex.move rfl)) | refine G.yes rfl rfl ?_)
  first | refine G.call (caps := []) (in_sp u 0 100000 (by omega) (by omega)) rfl rfl rfl rfl (by repeat (first | exact Takes.nil | apply Takes.dup rfl | apply Takes.cons | exact Take1.here | apply Take1.there)) ?_ | refine G.callU (caps := []) (in_sp u 0 100000 (by omega) (by omega)) rfl rfl rfl (by repeat (first | exact Takes.nil | apply Takes.dup rfl | apply Takes.cons | exact Take1.here | apply Take1.there)) ?_
  rintro v_ give_ ⟨rfl, rfl⟩ rs_ hrs_
  simp only [List.cons_append, List.nil_append] at hrs_
  subst hrs_
  repeat (first | (apply G.ex (hd := rfl); case h => (first | exact Ex.assign rfl | exact Ex.pickLT rfl rfl)) | refine G.nil ?_ | refine GC.ret ?_ | refine GE.then_normal ?_)
  refine GE.ret (by first | exact .inl rfl | exact .inr rfl) (by first | exact res0 Try.results47 | exact res1 Try.results47 rfl | exact res2 Try.results47 rfl rfl | exact resR1 Try.results47 (by first | exact RV.tmp rfl | exact RV.cell rfl rfl | exact RV.cell1 rfl) | exact resR2 Try.results47 (by first | exact RV.tmp rfl | exact RV.cell rfl rfl | exact RV.cell1 rfl) (by first | exact RV.tmp rfl | exact RV.cell rfl rfl | exact RV.cell1 rfl) | exact resR3 Try.results47 (by first | exact RV.tmp rfl | exact RV.cell rfl rfl | exact RV.cell1 rfl) (by first | exact RV.tmp rfl | exact RV.cell rfl rfl | exact RV.cell1 rfl) (by first | exact RV.tmp rfl | exact RV.cell rfl rfl | exact RV.cell1 rfl)) ⟨rfl, rfl⟩ (by repeat (first | exact Takes.nil | apply Takes.dup rfl | apply Takes.cons | exact Take1.here | apply Take1.there)) (by repeat (first | exact Subs.refl | refine Subs.skip ?_))
theorem inv0 (r u : Int) (L : List (Nat × Int)) (hu : 0 ≤ u) : Inv r u L [] u 0 := by
  refine ⟨rfl, by omega, ?_, fun h => by omega, fun _ => rfl⟩
  show 0 ≤ (0 : Int) ∧ 0 + u ≤ u + r * ((0 : Nat) : Int) ∧ (0 : Int) ≤ 1500 * ((0 : Nat) : Int)
  simp
set_option maxHeartbeats 4000000 in
set_option maxRecDepth 100000 in
theorem play_sp (r u : Int) (hr : 0 ≤ r ∧ r ≤ 1000) (hu : 0 ≤ u ∧ u ≤ 100000) (la : Option Addr) (n lc : Nat) (L : List (Nat × Int)) (hl : L.length = n) (hL : n ≤ 300) (ok : Ok L) :
    Spec Try.prog 29 [.int .i64 r, .int .i64 u, .slice la n lc] [.sl la n lc 2 (flat fair.eFd L)]
      fun v give => ∃ oa oc B c, Inv r u L B c n ∧ v = .tuple #[.slice oa n oc, .int .i64 0] ∧ give = [.vec 4 1 oa n oc (flat eBo B)] := by
  refine Spec.intro Try.func29 rfl Try.ntmps29 rfl fun w0 rest rs_ hrs_ => ?_
  simp only [List.cons_append, List.nil_append] at hrs_
  subst hrs_
  repeat (first | (apply G.ex (hd := rfl); case h => (first | exact Ex.move rfl | exact Ex.assign rfl)) | refine G.nil ?_ | refine GC.seq ?_ | refine GC.region ?_ | refine GE.then_normal ?_)
  first | refine G.call (caps := []) (may_sp r u hr hu) rfl rfl rfl rfl (by repeat (first | exact Takes.nil | apply Takes.dup rfl | apply Takes.cons | exact Take1.here | apply Take1.there)) ?_ | refine G.callU (caps := []) (may_sp r u hr hu) rfl rfl rfl (by repeat (first | exact Takes.nil | apply Takes.dup rfl | apply Takes.cons | exact Take1.here | apply Take1.there)) ?_
  rintro v_ give_ ⟨rfl, rfl⟩ rs_ hrs_
  simp only [List.cons_append, List.nil_append] at hrs_
  subst hrs_
  repeat (first | (apply G.ex (hd := rfl); case h => (first | exact Ex.move rfl | exact Ex.gtr rfl rfl | exact Ex.lenSl rfl | exact Ex.assign rfl | exact Ex.notB rfl)) | refine G.nil ?_ | refine GC.seq ?_ | refine GC.region ?_ | refine GC.block ?_ | refine GC.skip ?_ | refine GE.then_normal ?_ | refine GC.cond_no rfl (by first | assumption | omega) ?_ | refine GC.cond_f rfl ?_)
  first | refine G.nilvec 4 1 ?_ | refine GC.nilvec 4 1 ?_
  refine GC.loop (ι := Nat × Option Addr × Nat × List Bool × Int) (fun x => x.1 ≤ n ∧ Inv r u L x.2.2.2.1 x.2.2.2.2 x.1) (fun x => n - x.1) (fun x => [(0, .int .i64 r), (1, .int .i64 u), (8, .slice x.2.1 x.1 x.2.2.1), (9, .int .i64 x.2.2.2.2), (10, .int .i64 (lst L x.1 : Int)), (22, .slice la n lc), (23, .int .i64 (n : Int)), (24, .int .i64 (x.1 : Int))]) (fun x => [.vec 4 1 x.2.1 x.1 x.2.2.1 (flat eBo x.2.2.2.1), .sl la n lc 2 (flat fair.eFd L)]) (0, none, 0, [], u) ⟨Nat.zero_le _, inv0 r u L hu.1⟩ (by simp only [fits]; repeat (first | exact trivial | refine And.intro rfl ?_)) (by repeat (first | exact Takes.nil | apply Takes.dup rfl | apply Takes.cons | exact Take1.here | apply Take1.there)) ?_
  rintro ⟨i, oa, oc, B, c⟩ ⟨hi_, hI_⟩ fr_ rs_ hfr_ hrs_
  simp only [List.cons_append, List.nil_append] at hfr_ hrs_
  subst hfr_ hrs_
  obtain ⟨hi, hI⟩ : i ≤ n ∧ Inv r u L B c i := ⟨hi_, hI_⟩
  clear hi_ hI_
  repeat (first | (apply G.ex (hd := rfl); case h => (first | exact Ex.lss rfl rfl)) | refine G.nil ?_ | refine GC.seq ?_ | refine GC.region ?_ | refine GE.then_normal ?_)
  refine GC.cond_dec rfl (fun hlt => ?_) (fun hlt => ?_)
  · have hlt : i < n := by omega
    obtain ⟨e1, e2, e3⟩ := ok.el i (by omega)
    have hup := ok.up i (by omega)
    obtain ⟨s1, s2, s3, s4⟩ := step hI ok (by omega) hr.1
    have hT := stepT hI ok (by omega) hr.1
    have hF := stepF hI ok (by omega) hr.1
    have hlen := hI.len
    have hc := hI.c0
    have hav : av r u c L i = if 0 < i then min u (c + r * ((L.getD i default).1 - lst L i : Int)) else c := rfl
    have hlz : lst L (i + 1) = (L.getD i default).1 := rfl
    repeat (first | (apply G.ex (hd := rfl); case h => (first | exact Ex.move rfl | exact Ex.indexN rfl rfl (by first | omega | (simp; done) | (simp; omega)) | exact Ex.loadTA rfl (by first | omega | (simp; done) | (simp; omega)))) | refine GC.seq ?_ | refine GC.region ?_ | refine GC.block ?_ | refine GC.skip ?_ | refine GE.then_normal ?_)
    refine G.alloc rfl (fun pb => ?_)
    repeat (first | refine G.storeBA rfl rfl rfl rfl rfl ?_ | (apply G.ex (hd := rfl); case h => (first | exact Ex.fieldB rfl | exact Ex.loadB rfl rfl | exact Ex.assign rfl)) | refine G.nil ?_ | refine GC.seq ?_ | refine GC.region ?_ | refine GC.block ?_ | refine GE.then_normal ?_)
    have hm : 0 ≤ r * (((L.getD i default).1 : Int) - (lst L i : Int)) ∧ r * (((L.getD i default).1 : Int) - (lst L i : Int)) ≤ 1000 * 300 := ⟨Int.mul_nonneg hr.1 (by omega), Int.mul_le_mul hr.2 (by omega) (by omega) (by decide)⟩
    first | refine G.call (caps := []) (in_sp ((L.getD i default).1 : Int) 0 1048576 (by omega) (by omega)) rfl rfl rfl rfl (by repeat (first | exact Takes.nil | apply Takes.dup rfl | apply Takes.cons | exact Take1.here | apply Take1.there)) ?_ | refine G.callU (caps := []) (in_sp ((L.getD i default).1 : Int) 0 1048576 (by omega) (by omega)) rfl rfl rfl (by repeat (first | exact Takes.nil | apply Takes.dup rfl | apply Takes.cons | exact Take1.here | apply Take1.there)) ?_
    rintro v_ give_ ⟨rfl, rfl⟩ rs_ hrs_
    simp only [List.cons_append, List.nil_append] at hrs_
    subst hrs_
    repeat (first | (apply G.ex (hd := rfl); case h => (first | exact Ex.move rfl | exact Ex.fieldB rfl | exact Ex.loadB rfl rfl | exact Ex.notB rfl)) | refine G.yes rfl rfl ?_)
    first | refine G.call (caps := []) (in_sp (L.getD i default).2 1 1500 (by omega) (by omega)) rfl rfl rfl rfl (by repeat (first | exact Takes.nil | apply Takes.dup rfl | apply Takes.cons | exact Take1.here | apply Take1.there)) ?_ | refine G.callU (caps := []) (in_sp (L.getD i default).2 1 1500 (by omega) (by omega)) rfl rfl rfl (by repeat (first | exact Takes.nil | apply Takes.dup rfl | apply Takes.cons | exact Take1.here | apply Take1.there)) ?_
    rintro v_ give_ ⟨rfl, rfl⟩ rs_ hrs_
    simp only [List.cons_append, List.nil_append] at hrs_
    subst hrs_
    repeat (first | (apply G.ex (hd := rfl); case h => (first | exact Ex.move rfl | exact Ex.gtr rfl rfl | exact Ex.assign rfl | exact Ex.notB rfl | exact Ex.pickLF rfl rfl)) | refine G.yes rfl rfl ?_ | refine G.nil ?_ | refine GC.seq ?_ | refine GC.region ?_ | refine GE.then_normal ?_ | refine GC.cond_f rfl ?_)
    by_cases h0 : 0 < i
    · rw [if_pos h0] at hav
      repeat (first | (apply G.ex (hd := rfl); case h => (first | exact Ex.move rfl | exact Ex.fieldB rfl | exact Ex.loadB rfl rfl | exact Ex.add rfl rfl (by omega) | exact Ex.sub rfl rfl (by omega) | exact Ex.lss rfl rfl | exact Ex.leq rfl rfl | exact Ex.gtr rfl rfl | exact Ex.assign rfl | exact Ex.min rfl rfl | exact Ex.mul rfl rfl (by omega) | exact Ex.pickT rfl (by first | assumption | omega) rfl)) | refine G.g_tt rfl rfl (by first | assumption | omega) ?_ | refine G.nil ?_ | refine GC.seq ?_ | refine GC.region ?_ | refine GC.skip ?_ | refine GE.then_normal ?_ | refine GE.block_normal ?_ | refine GC.cond_yes rfl (by first | assumption | omega) ?_ | refine GC.cond_no rfl (by first | assumption | omega) ?_)
      rw [← hav]
      by_cases hp : (L.getD i default).2 ≤ av r u c L i
      · rw [decide_eq_true hp]
        repeat (first | (apply G.ex (hd := rfl); case h => (first | exact Ex.move rfl | exact Ex.fieldB rfl | exact Ex.loadB rfl rfl | exact Ex.sub rfl rfl (by omega) | exact Ex.assign rfl)) | refine G.nil ?_ | refine GC.region ?_ | refine GE.then_normal ?_ | refine GC.cond_t rfl ?_)
        refine G.lit rfl (by rfl) (by rfl) (by rfl) (by rfl) (by rfl) (by rfl) rfl (fun y => ?_)
        repeat (first | fail)
        have hcat : flat eBo B ++ flat eBo [true] = flat eBo (B ++ [true]) := (flat_append ..).symm
        refine G.app rfl rfl (by rfl) (by omega) rfl (hcat) (fun o2 c2 rs_ hrs_ => ?_)
        try simp only at hrs_
        subst hrs_
        repeat (first | (apply G.ex (hd := rfl); case h => (first | exact Ex.move rfl | exact Ex.add rfl rfl (by omega) | exact Ex.assign rfl)) | refine G.nil ?_ | refine GC.region ?_ | refine GE.then_normal ?_ | refine GE.block_normal ?_)
        refine GE.loop (i + 1, o2, c2, B ++ [true], av r u c L i - (L.getD i default).2) ⟨by simp only; omega, hT hp⟩ (by simp only; omega) (by simp only [fits]; repeat (first | exact trivial | refine And.intro rfl ?_)) (by repeat (first | exact Takes.nil | apply Takes.dup rfl | apply Takes.cons | exact Take1.here | apply Take1.there)) (by repeat (first | exact Subs.refl | refine Subs.skip ?_))
      · rw [decide_eq_false hp]
        repeat (first | (apply G.ex (hd := rfl); case h => (first | exact Ex.move rfl)) | refine GC.region ?_ | refine GC.skip ?_ | refine GE.then_normal ?_ | refine GC.cond_f rfl ?_)
        refine G.lit rfl (by rfl) (by rfl) (by rfl) (by rfl) (by rfl) (by rfl) rfl (fun y => ?_)
        repeat (first | fail)
        have hcat : flat eBo B ++ flat eBo [false] = flat eBo (B ++ [false]) := (flat_append ..).symm
        refine G.app rfl rfl (by rfl) (by omega) rfl (hcat) (fun o2 c2 rs_ hrs_ => ?_)
        try simp only at hrs_
        subst hrs_
        repeat (first | (apply G.ex (hd := rfl); case h => (first | exact Ex.move rfl | exact Ex.add rfl rfl (by omega) | exact Ex.assign rfl)) | refine G.nil ?_ | refine GC.region ?_ | refine GE.then_normal ?_ | refine GE.block_normal ?_)
        refine GE.loop (i + 1, o2, c2, B ++ [false], av r u c L i) ⟨by simp only; omega, hF hp⟩ (by simp only; omega) (by simp only [fits]; repeat (first | exact trivial | refine And.intro rfl ?_)) (by repeat (first | exact Takes.nil | apply Takes.dup rfl | apply Takes.cons | exact Take1.here | apply Take1.there)) (by repeat (first | exact Subs.refl | refine Subs.skip ?_))
    · rw [if_neg h0] at hav
      repeat (first | (apply G.ex (hd := rfl); case h => (first | exact Ex.move rfl | exact Ex.fieldB rfl | exact Ex.loadB rfl rfl | exact Ex.leq rfl rfl | exact Ex.gtr rfl rfl | exact Ex.assign rfl | exact Ex.pickF rfl (by first | assumption | omega) rfl)) | refine G.g_tf rfl rfl (by first | assumption | omega) rfl ?_ | refine G.nil ?_ | refine GC.seq ?_ | refine GC.region ?_ | refine GC.skip ?_ | refine GE.then_normal ?_ | refine GE.block_normal ?_ | refine GC.cond_no rfl (by first | assumption | omega) ?_ | refine GC.cond_f rfl ?_)
      rw [← hav]
      by_cases hp : (L.getD i default).2 ≤ av r u c L i
      · rw [decide_eq_true hp]
        repeat (first | (apply G.ex (hd := rfl); case h => (first | exact Ex.move rfl | exact Ex.fieldB rfl | exact Ex.loadB rfl rfl | exact Ex.sub rfl rfl (by omega) | exact Ex.assign rfl)) | refine G.nil ?_ | refine GC.region ?_ | refine GE.then_normal ?_ | refine GC.cond_t rfl ?_)
        refine G.lit rfl (by rfl) (by rfl) (by rfl) (by rfl) (by rfl) (by rfl) rfl (fun y => ?_)
        repeat (first | fail)
        have hcat : flat eBo B ++ flat eBo [true] = flat eBo (B ++ [true]) := (flat_append ..).symm
        refine G.app rfl rfl (by rfl) (by omega) rfl (hcat) (fun o2 c2 rs_ hrs_ => ?_)
        try simp only at hrs_
        subst hrs_
        repeat (first | (apply G.ex (hd := rfl); case h => (first | exact Ex.move rfl | exact Ex.add rfl rfl (by omega) | exact Ex.assign rfl)) | refine G.nil ?_ | refine GC.region ?_ | refine GE.then_normal ?_ | refine GE.block_normal ?_)
        refine GE.loop (i + 1, o2, c2, B ++ [true], av r u c L i - (L.getD i default).2) ⟨by simp only; omega, hT hp⟩ (by simp only; omega) (by simp only [fits]; repeat (first | exact trivial | refine And.intro rfl ?_)) (by repeat (first | exact Takes.nil | apply Takes.dup rfl | apply Takes.cons | exact Take1.here | apply Take1.there)) (by repeat (first | exact Subs.refl | refine Subs.skip ?_))
      · rw [decide_eq_false hp]
        repeat (first | (apply G.ex (hd := rfl); case h => (first | exact Ex.move rfl)) | refine GC.region ?_ | refine GC.skip ?_ | refine GE.then_normal ?_ | refine GC.cond_f rfl ?_)
        refine G.lit rfl (by rfl) (by rfl) (by rfl) (by rfl) (by rfl) (by rfl) rfl (fun y => ?_)
        repeat (first | fail)
        have hcat : flat eBo B ++ flat eBo [false] = flat eBo (B ++ [false]) := (flat_append ..).symm
        refine G.app rfl rfl (by rfl) (by omega) rfl (hcat) (fun o2 c2 rs_ hrs_ => ?_)
        try simp only at hrs_
        subst hrs_
        repeat (first | (apply G.ex (hd := rfl); case h => (first | exact Ex.move rfl | exact Ex.add rfl rfl (by omega) | exact Ex.assign rfl)) | refine G.nil ?_ | refine GC.region ?_ | refine GE.then_normal ?_ | refine GE.block_normal ?_)
        refine GE.loop (i + 1, o2, c2, B ++ [false], av r u c L i) ⟨by simp only; omega, hF hp⟩ (by simp only; omega) (by simp only [fits]; repeat (first | exact trivial | refine And.intro rfl ?_)) (by repeat (first | exact Takes.nil | apply Takes.dup rfl | apply Takes.cons | exact Take1.here | apply Take1.there)) (by repeat (first | exact Subs.refl | refine Subs.skip ?_))
  · have hin : i = n := by omega
    subst hin
    repeat (first | (apply G.ex (hd := rfl); case h => (first | exact Ex.move rfl | exact Ex.assign rfl)) | refine G.nil ?_ | refine GC.seq ?_ | refine GC.region ?_ | refine GC.ret ?_ | refine GC.exit ?_ | refine GE.then_normal ?_ | refine GE.then_exit ?_ | refine GE.block_hit ?_)
    refine GE.ret (by first | exact .inl rfl | exact .inr rfl) (by first | exact res0 Try.results29 | exact res1 Try.results29 rfl | exact res2 Try.results29 rfl rfl | exact resR1 Try.results29 (by first | exact RV.tmp rfl | exact RV.cell rfl rfl | exact RV.cell1 rfl) | exact resR2 Try.results29 (by first | exact RV.tmp rfl | exact RV.cell rfl rfl | exact RV.cell1 rfl) (by first | exact RV.tmp rfl | exact RV.cell rfl rfl | exact RV.cell1 rfl) | exact resR3 Try.results29 (by first | exact RV.tmp rfl | exact RV.cell rfl rfl | exact RV.cell1 rfl) (by first | exact RV.tmp rfl | exact RV.cell rfl rfl | exact RV.cell1 rfl) (by first | exact RV.tmp rfl | exact RV.cell rfl rfl | exact RV.cell1 rfl)) ⟨oa, oc, B, c, hI, rfl, rfl⟩ (by repeat (first | exact Takes.nil | apply Takes.dup rfl | apply Takes.cons | exact Take1.here | apply Take1.there)) (by repeat (first | exact Subs.refl | refine Subs.skip ?_))
theorem bound_sp (r u : Int) (n : Nat) (hr : 0 ≤ r ∧ r ≤ 1000) (hu : 0 ≤ u ∧ u ≤ 100000) (hn : n ≤ 300) : Spec Try.prog 30 [.int .i64 r, .int .i64 u, .int .i64 (n : Int)] [] fun v give => v = .tuple #[.int .i64 (u + r * (n : Int)), .int .i64 0] ∧ give = [] := by
  have hm : 0 ≤ r * (n : Int) ∧ r * (n : Int) ≤ 1000 * 300 := ⟨Int.mul_nonneg hr.1 (by omega), Int.mul_le_mul hr.2 (by omega) (by omega) (by decide)⟩
  refine Spec.intro Try.func30 rfl Try.ntmps30 rfl fun w0 rest rs_ hrs_ => ?_
  simp only [List.cons_append, List.nil_append] at hrs_
  subst hrs_
  repeat (first | refine G.storeB rfl rfl rfl rfl rfl ?_ | refine G.storeBA rfl rfl rfl rfl rfl ?_ | (apply G.ex (hd := rfl); case h => (first | exact Ex.move rfl | exact Ex.nilCheck rfl | exact Ex.fieldE rfl | exact Ex.fieldB rfl | exact Ex.loadB rfl rfl | exact Ex.add rfl rfl (by omega) | exact Ex.sub rfl rfl (by omega) | exact Ex.lss rfl rfl | exact Ex.leq rfl rfl | exact Ex.gtr rfl rfl | exact Ex.geq rfl rfl | exact Ex.eqBy rfl rfl | exact Ex.neBy rfl rfl | exact Ex.eqI rfl rfl | exact Ex.neI rfl rfl | exact Ex.lenSl rfl | exact Ex.indexN rfl rfl (by first | omega | (simp; done) | (simp; omega)) | exact Ex.loadT0 rfl (by first | omega | (simp; done) | (simp; omega)) rfl | exact Ex.loadT rfl (by first | omega | (simp; done) | (simp; omega)) rfl | exact Ex.extract rfl rfl | exact Ex.field rfl rfl | exact Ex.assign rfl | exact Ex.min rfl rfl | exact Ex.max rfl rfl | exact Ex.quo rfl rfl (by omega) | exact Ex.quotB rfl rfl (by omega) | exact Ex.rem rfl rfl (by omega) | exact Ex.mul rfl rfl (by omega) | exact Ex.remt rfl rfl (by omega) | exact Ex.notD rfl | exact Ex.notB rfl | exact Ex.eqS rfl rfl | exact Ex.neS rfl rfl | exact Ex.eqB rfl rfl | exact Ex.neB rfl rfl | exact Ex.lenS rfl | exact Ex.indexS rfl rfl (by first | omega | (simp; done) | (simp; omega)) | exact Ex.neg rfl (by omega) | exact Ex.convS rfl | exact Ex.pickT rfl (by first | assumption | omega) rfl | exact Ex.pickF rfl (by first | assumption | omega) rfl | exact Ex.loadBA rfl rfl rfl | exact Ex.loadTA rfl (by first | omega | (simp; done) | (simp; omega)) | exact Ex.build rfl rfl | exact Ex.pickLT rfl rfl | exact Ex.pickLF rfl rfl | exact Ex.eqA rfl rfl rfl | exact Ex.neA rfl rfl rfl | exact Ex.pick rfl rfl rfl | exact Ex.indexI rfl rfl (by omega) | exact Ex.conv64b rfl | exact Ex.conv64 rfl (by omega) | exact Ex.conv8 rfl | exact Ex.conv16 rfl | exact Ex.shr8 rfl rfl | exact Ex.shr16 rfl rfl | exact Ex.shr24 rfl rfl | exact Ex.shl8b rfl rfl | exact Ex.shl8 rfl rfl (by omega) | exact Ex.orBbb rfl rfl | exact Ex.orBb rfl rfl (by omega) | exact Ex.orB rfl rfl (by omega) | exact Ex.and16 rfl rfl (by omega) | exact Ex.eqNil rfl rfl | exact Ex.neNil rfl rfl | exact Ex.mkFunc rfl | exact Ex.capSl rfl | exact Ex.arrPtr rfl (by omega) | exact Ex.loadArI rfl (by assumption) rfl | exact Ex.eqArrI rfl rfl (by assumption) (by assumption) | exact Ex.loadAr rfl rfl rfl rfl | exact Ex.indexArr rfl rfl (by first | omega | (simp; done) | (simp; omega)))) | refine G.g_tt rfl rfl (by first | assumption | omega) ?_ | refine G.g_tf rfl rfl (by first | assumption | omega) rfl ?_ | refine G.g_ft rfl rfl (by first | assumption | omega) rfl ?_ | refine G.g_ff rfl rfl (by first | assumption | omega) ?_ | refine G.g_un rfl rfl rfl ?_ | refine G.yes rfl rfl ?_ | refine G.l_tf rfl rfl rfl ?_ | refine G.l_ft rfl rfl rfl ?_ | refine G.nil ?_ | (apply Gq.ex (hd := rfl); case h => (first | exact Ex.move rfl | exact Ex.nilCheck rfl | exact Ex.fieldE rfl | exact Ex.fieldB rfl | exact Ex.loadB rfl rfl | exact Ex.add rfl rfl (by omega) | exact Ex.sub rfl rfl (by omega) | exact Ex.lss rfl rfl | exact Ex.leq rfl rfl | exact Ex.gtr rfl rfl | exact Ex.geq rfl rfl | exact Ex.eqBy rfl rfl | exact Ex.neBy rfl rfl | exact Ex.eqI rfl rfl | exact Ex.neI rfl rfl | exact Ex.lenSl rfl | exact Ex.indexN rfl rfl (by first | omega | (simp; done) | (simp; omega)) | exact Ex.loadT0 rfl (by first | omega | (simp; done) | (simp; omega)) rfl | exact Ex.loadT rfl (by first | omega | (simp; done) | (simp; omega)) rfl | exact Ex.extract rfl rfl | exact Ex.field rfl rfl | exact Ex.assign rfl | exact Ex.min rfl rfl | exact Ex.max rfl rfl | exact Ex.quo rfl rfl (by omega) | exact Ex.quotB rfl rfl (by omega) | exact Ex.rem rfl rfl (by omega) | exact Ex.mul rfl rfl (by omega) | exact Ex.remt rfl rfl (by omega) | exact Ex.notD rfl | exact Ex.notB rfl | exact Ex.eqS rfl rfl | exact Ex.neS rfl rfl | exact Ex.eqB rfl rfl | exact Ex.neB rfl rfl | exact Ex.lenS rfl | exact Ex.indexS rfl rfl (by first | omega | (simp; done) | (simp; omega)) | exact Ex.neg rfl (by omega) | exact Ex.convS rfl | exact Ex.pickT rfl (by first | assumption | omega) rfl | exact Ex.pickF rfl (by first | assumption | omega) rfl | exact Ex.loadBA rfl rfl rfl | exact Ex.loadTA rfl (by first | omega | (simp; done) | (simp; omega)) | exact Ex.build rfl rfl | exact Ex.pickLT rfl rfl | exact Ex.pickLF rfl rfl | exact Ex.eqA rfl rfl rfl | exact Ex.neA rfl rfl rfl | exact Ex.pick rfl rfl rfl | exact Ex.indexI rfl rfl (by omega) | exact Ex.conv64b rfl | exact Ex.conv64 rfl (by omega) | exact Ex.conv8 rfl | exact Ex.conv16 rfl | exact Ex.shr8 rfl rfl | exact Ex.shr16 rfl rfl | exact Ex.shr24 rfl rfl | exact Ex.shl8b rfl rfl | exact Ex.shl8 rfl rfl (by omega) | exact Ex.orBbb rfl rfl | exact Ex.orBb rfl rfl (by omega) | exact Ex.orB rfl rfl (by omega) | exact Ex.and16 rfl rfl (by omega) | exact Ex.eqNil rfl rfl | exact Ex.neNil rfl rfl | exact Ex.mkFunc rfl | exact Ex.capSl rfl | exact Ex.arrPtr rfl (by omega) | exact Ex.loadArI rfl (by assumption) rfl | exact Ex.eqArrI rfl rfl (by assumption) (by assumption) | exact Ex.loadAr rfl rfl rfl rfl | exact Ex.indexArr rfl rfl (by first | omega | (simp; done) | (simp; omega)))) | refine Gq.g_tt rfl rfl (by first | assumption | omega) ?_ | refine Gq.g_tf rfl rfl (by first | assumption | omega) rfl ?_ | refine Gq.g_ft rfl rfl (by first | assumption | omega) rfl ?_ | refine Gq.g_ff rfl rfl (by first | assumption | omega) ?_ | refine Gq.g_un rfl rfl rfl ?_ | refine Gq.yes rfl rfl ?_ | refine Gq.l_tf rfl rfl rfl ?_ | refine Gq.l_ft rfl rfl rfl ?_ | refine Gq.nil ?_ | refine GC.seq ?_ | refine GC.region ?_ | refine GC.block ?_ | refine GC.skip ?_ | refine GC.ret ?_ | refine GC.exit ?_ | refine GE.then_normal ?_ | refine GE.then_ret ?_ | refine GE.then_exit ?_ | refine GE.block_normal ?_ | refine GE.block_ret ?_ | refine GE.block_hit ?_ | refine GE.block_miss rfl ?_ | refine GC.cond_yes rfl (by first | assumption | omega) ?_ | refine GC.cond_no rfl (by first | assumption | omega) ?_ | refine GC.cond_t rfl ?_ | refine GC.cond_f rfl ?_)
  first | refine G.call (caps := []) (may_sp r u hr hu) rfl rfl rfl rfl (by repeat (first | exact Takes.nil | apply Takes.dup rfl | apply Takes.cons | exact Take1.here | apply Take1.there)) ?_ | refine G.callU (caps := []) (may_sp r u hr hu) rfl rfl rfl (by repeat (first | exact Takes.nil | apply Takes.dup rfl | apply Takes.cons | exact Take1.here | apply Take1.there)) ?_
  rintro v_ give_ ⟨rfl, rfl⟩ rs_ hrs_
  simp only [List.cons_append, List.nil_append] at hrs_
  subst hrs_
  repeat (first | refine G.storeB rfl rfl rfl rfl rfl ?_ | refine G.storeBA rfl rfl rfl rfl rfl ?_ | (apply G.ex (hd := rfl); case h => (first | exact Ex.move rfl | exact Ex.nilCheck rfl | exact Ex.fieldE rfl | exact Ex.fieldB rfl | exact Ex.loadB rfl rfl | exact Ex.add rfl rfl (by omega) | exact Ex.sub rfl rfl (by omega) | exact Ex.lss rfl rfl | exact Ex.leq rfl rfl | exact Ex.gtr rfl rfl | exact Ex.geq rfl rfl | exact Ex.eqBy rfl rfl | exact Ex.neBy rfl rfl | exact Ex.eqI rfl rfl | exact Ex.neI rfl rfl | exact Ex.lenSl rfl | exact Ex.indexN rfl rfl (by first | omega | (simp; done) | (simp; omega)) | exact Ex.loadT0 rfl (by first | omega | (simp; done) | (simp; omega)) rfl | exact Ex.loadT rfl (by first | omega | (simp; done) | (simp; omega)) rfl | exact Ex.extract rfl rfl | exact Ex.field rfl rfl | exact Ex.assign rfl | exact Ex.min rfl rfl | exact Ex.max rfl rfl | exact Ex.quo rfl rfl (by omega) | exact Ex.quotB rfl rfl (by omega) | exact Ex.rem rfl rfl (by omega) | exact Ex.mul rfl rfl (by omega) | exact Ex.remt rfl rfl (by omega) | exact Ex.notD rfl | exact Ex.notB rfl | exact Ex.eqS rfl rfl | exact Ex.neS rfl rfl | exact Ex.eqB rfl rfl | exact Ex.neB rfl rfl | exact Ex.lenS rfl | exact Ex.indexS rfl rfl (by first | omega | (simp; done) | (simp; omega)) | exact Ex.neg rfl (by omega) | exact Ex.convS rfl | exact Ex.pickT rfl (by first | assumption | omega) rfl | exact Ex.pickF rfl (by first | assumption | omega) rfl | exact Ex.loadBA rfl rfl rfl | exact Ex.loadTA rfl (by first | omega | (simp; done) | (simp; omega)) | exact Ex.build rfl rfl | exact Ex.pickLT rfl rfl | exact Ex.pickLF rfl rfl | exact Ex.eqA rfl rfl rfl | exact Ex.neA rfl rfl rfl | exact Ex.pick rfl rfl rfl | exact Ex.indexI rfl rfl (by omega) | exact Ex.conv64b rfl | exact Ex.conv64 rfl (by omega) | exact Ex.conv8 rfl | exact Ex.conv16 rfl | exact Ex.shr8 rfl rfl | exact Ex.shr16 rfl rfl | exact Ex.shr24 rfl rfl | exact Ex.shl8b rfl rfl | exact Ex.shl8 rfl rfl (by omega) | exact Ex.orBbb rfl rfl | exact Ex.orBb rfl rfl (by omega) | exact Ex.orB rfl rfl (by omega) | exact Ex.and16 rfl rfl (by omega) | exact Ex.eqNil rfl rfl | exact Ex.neNil rfl rfl | exact Ex.mkFunc rfl | exact Ex.capSl rfl | exact Ex.arrPtr rfl (by omega) | exact Ex.loadArI rfl (by assumption) rfl | exact Ex.eqArrI rfl rfl (by assumption) (by assumption) | exact Ex.loadAr rfl rfl rfl rfl | exact Ex.indexArr rfl rfl (by first | omega | (simp; done) | (simp; omega)))) | refine G.g_tt rfl rfl (by first | assumption | omega) ?_ | refine G.g_tf rfl rfl (by first | assumption | omega) rfl ?_ | refine G.g_ft rfl rfl (by first | assumption | omega) rfl ?_ | refine G.g_ff rfl rfl (by first | assumption | omega) ?_ | refine G.g_un rfl rfl rfl ?_ | refine G.yes rfl rfl ?_ | refine G.l_tf rfl rfl rfl ?_ | refine G.l_ft rfl rfl rfl ?_ | refine G.nil ?_ | (apply Gq.ex (hd := rfl); case h => (first | exact Ex.move rfl | exact Ex.nilCheck rfl | exact Ex.fieldE rfl | exact Ex.fieldB rfl | exact Ex.loadB rfl rfl | exact Ex.add rfl rfl (by omega) | exact Ex.sub rfl rfl (by omega) | exact Ex.lss rfl rfl | exact Ex.leq rfl rfl | exact Ex.gtr rfl rfl | exact Ex.geq rfl rfl | exact Ex.eqBy rfl rfl | exact Ex.neBy rfl rfl | exact Ex.eqI rfl rfl | exact Ex.neI rfl rfl | exact Ex.lenSl rfl | exact Ex.indexN rfl rfl (by first | omega | (simp; done) | (simp; omega)) | exact Ex.loadT0 rfl (by first | omega | (simp; done) | (simp; omega)) rfl | exact Ex.loadT rfl (by first | omega | (simp; done) | (simp; omega)) rfl | exact Ex.extract rfl rfl | exact Ex.field rfl rfl | exact Ex.assign rfl | exact Ex.min rfl rfl | exact Ex.max rfl rfl | exact Ex.quo rfl rfl (by omega) | exact Ex.quotB rfl rfl (by omega) | exact Ex.rem rfl rfl (by omega) | exact Ex.mul rfl rfl (by omega) | exact Ex.remt rfl rfl (by omega) | exact Ex.notD rfl | exact Ex.notB rfl | exact Ex.eqS rfl rfl | exact Ex.neS rfl rfl | exact Ex.eqB rfl rfl | exact Ex.neB rfl rfl | exact Ex.lenS rfl | exact Ex.indexS rfl rfl (by first | omega | (simp; done) | (simp; omega)) | exact Ex.neg rfl (by omega) | exact Ex.convS rfl | exact Ex.pickT rfl (by first | assumption | omega) rfl | exact Ex.pickF rfl (by first | assumption | omega) rfl | exact Ex.loadBA rfl rfl rfl | exact Ex.loadTA rfl (by first | omega | (simp; done) | (simp; omega)) | exact Ex.build rfl rfl | exact Ex.pickLT rfl rfl | exact Ex.pickLF rfl rfl | exact Ex.eqA rfl rfl rfl | exact Ex.neA rfl rfl rfl | exact Ex.pick rfl rfl rfl | exact Ex.indexI rfl rfl (by omega) | exact Ex.conv64b rfl | exact Ex.conv64 rfl (by omega) | exact Ex.conv8 rfl | exact Ex.conv16 rfl | exact Ex.shr8 rfl rfl | exact Ex.shr16 rfl rfl | exact Ex.shr24 rfl rfl | exact Ex.shl8b rfl rfl | exact Ex.shl8 rfl rfl (by omega) | exact Ex.orBbb rfl rfl | exact Ex.orBb rfl rfl (by omega) | exact Ex.orB rfl rfl (by omega) | exact Ex.and16 rfl rfl (by omega) | exact Ex.eqNil rfl rfl | exact Ex.neNil rfl rfl | exact Ex.mkFunc rfl | exact Ex.capSl rfl | exact Ex.arrPtr rfl (by omega) | exact Ex.loadArI rfl (by assumption) rfl | exact Ex.eqArrI rfl rfl (by assumption) (by assumption) | exact Ex.loadAr rfl rfl rfl rfl | exact Ex.indexArr rfl rfl (by first | omega | (simp; done) | (simp; omega)))) | refine Gq.g_tt rfl rfl (by first | assumption | omega) ?_ | refine Gq.g_tf rfl rfl (by first | assumption | omega) rfl ?_ | refine Gq.g_ft rfl rfl (by first | assumption | omega) rfl ?_ | refine Gq.g_ff rfl rfl (by first | assumption | omega) ?_ | refine Gq.g_un rfl rfl rfl ?_ | refine Gq.yes rfl rfl ?_ | refine Gq.l_tf rfl rfl rfl ?_ | refine Gq.l_ft rfl rfl rfl ?_ | refine Gq.nil ?_ | refine GC.seq ?_ | refine GC.region ?_ | refine GC.block ?_ | refine GC.skip ?_ | refine GC.ret ?_ | refine GC.exit ?_ | refine GE.then_normal ?_ | refine GE.then_ret ?_ | refine GE.then_exit ?_ | refine GE.block_normal ?_ | refine GE.block_ret ?_ | refine GE.block_hit ?_ | refine GE.block_miss rfl ?_ | refine GC.cond_yes rfl (by first | assumption | omega) ?_ | refine GC.cond_no rfl (by first | assumption | omega) ?_ | refine GC.cond_t rfl ?_ | refine GC.cond_f rfl ?_)
  first | refine G.call (caps := []) (in_sp (n : Int) 0 1048576 (by omega) (by omega)) rfl rfl rfl rfl (by repeat (first | exact Takes.nil | apply Takes.dup rfl | apply Takes.cons | exact Take1.here | apply Take1.there)) ?_ | refine G.callU (caps := []) (in_sp (n : Int) 0 1048576 (by omega) (by omega)) rfl rfl rfl (by repeat (first | exact Takes.nil | apply Takes.dup rfl | apply Takes.cons | exact Take1.here | apply Take1.there)) ?_
  rintro v_ give_ ⟨rfl, rfl⟩ rs_ hrs_
  simp only [List.cons_append, List.nil_append] at hrs_
  subst hrs_
  repeat (first | refine G.storeB rfl rfl rfl rfl rfl ?_ | refine G.storeBA rfl rfl rfl rfl rfl ?_ | (apply G.ex (hd := rfl); case h => (first | exact Ex.move rfl | exact Ex.nilCheck rfl | exact Ex.fieldE rfl | exact Ex.fieldB rfl | exact Ex.loadB rfl rfl | exact Ex.add rfl rfl (by omega) | exact Ex.sub rfl rfl (by omega) | exact Ex.lss rfl rfl | exact Ex.leq rfl rfl | exact Ex.gtr rfl rfl | exact Ex.geq rfl rfl | exact Ex.eqBy rfl rfl | exact Ex.neBy rfl rfl | exact Ex.eqI rfl rfl | exact Ex.neI rfl rfl | exact Ex.lenSl rfl | exact Ex.indexN rfl rfl (by first | omega | (simp; done) | (simp; omega)) | exact Ex.loadT0 rfl (by first | omega | (simp; done) | (simp; omega)) rfl | exact Ex.loadT rfl (by first | omega | (simp; done) | (simp; omega)) rfl | exact Ex.extract rfl rfl | exact Ex.field rfl rfl | exact Ex.assign rfl | exact Ex.min rfl rfl | exact Ex.max rfl rfl | exact Ex.quo rfl rfl (by omega) | exact Ex.quotB rfl rfl (by omega) | exact Ex.rem rfl rfl (by omega) | exact Ex.mul rfl rfl (by omega) | exact Ex.remt rfl rfl (by omega) | exact Ex.notD rfl | exact Ex.notB rfl | exact Ex.eqS rfl rfl | exact Ex.neS rfl rfl | exact Ex.eqB rfl rfl | exact Ex.neB rfl rfl | exact Ex.lenS rfl | exact Ex.indexS rfl rfl (by first | omega | (simp; done) | (simp; omega)) | exact Ex.neg rfl (by omega) | exact Ex.convS rfl | exact Ex.pickT rfl (by first | assumption | omega) rfl | exact Ex.pickF rfl (by first | assumption | omega) rfl | exact Ex.loadBA rfl rfl rfl | exact Ex.loadTA rfl (by first | omega | (simp; done) | (simp; omega)) | exact Ex.build rfl rfl | exact Ex.pickLT rfl rfl | exact Ex.pickLF rfl rfl | exact Ex.eqA rfl rfl rfl | exact Ex.neA rfl rfl rfl | exact Ex.pick rfl rfl rfl | exact Ex.indexI rfl rfl (by omega) | exact Ex.conv64b rfl | exact Ex.conv64 rfl (by omega) | exact Ex.conv8 rfl | exact Ex.conv16 rfl | exact Ex.shr8 rfl rfl | exact Ex.shr16 rfl rfl | exact Ex.shr24 rfl rfl | exact Ex.shl8b rfl rfl | exact Ex.shl8 rfl rfl (by omega) | exact Ex.orBbb rfl rfl | exact Ex.orBb rfl rfl (by omega) | exact Ex.orB rfl rfl (by omega) | exact Ex.and16 rfl rfl (by omega) | exact Ex.eqNil rfl rfl | exact Ex.neNil rfl rfl | exact Ex.mkFunc rfl | exact Ex.capSl rfl | exact Ex.arrPtr rfl (by omega) | exact Ex.loadArI rfl (by assumption) rfl | exact Ex.eqArrI rfl rfl (by assumption) (by assumption) | exact Ex.loadAr rfl rfl rfl rfl | exact Ex.indexArr rfl rfl (by first | omega | (simp; done) | (simp; omega)))) | refine G.g_tt rfl rfl (by first | assumption | omega) ?_ | refine G.g_tf rfl rfl (by first | assumption | omega) rfl ?_ | refine G.g_ft rfl rfl (by first | assumption | omega) rfl ?_ | refine G.g_ff rfl rfl (by first | assumption | omega) ?_ | refine G.g_un rfl rfl rfl ?_ | refine G.yes rfl rfl ?_ | refine G.l_tf rfl rfl rfl ?_ | refine G.l_ft rfl rfl rfl ?_ | refine G.nil ?_ | (apply Gq.ex (hd := rfl); case h => (first | exact Ex.move rfl | exact Ex.nilCheck rfl | exact Ex.fieldE rfl | exact Ex.fieldB rfl | exact Ex.loadB rfl rfl | exact Ex.add rfl rfl (by omega) | exact Ex.sub rfl rfl (by omega) | exact Ex.lss rfl rfl | exact Ex.leq rfl rfl | exact Ex.gtr rfl rfl | exact Ex.geq rfl rfl | exact Ex.eqBy rfl rfl | exact Ex.neBy rfl rfl | exact Ex.eqI rfl rfl | exact Ex.neI rfl rfl | exact Ex.lenSl rfl | exact Ex.indexN rfl rfl (by first | omega | (simp; done) | (simp; omega)) | exact Ex.loadT0 rfl (by first | omega | (simp; done) | (simp; omega)) rfl | exact Ex.loadT rfl (by first | omega | (simp; done) | (simp; omega)) rfl | exact Ex.extract rfl rfl | exact Ex.field rfl rfl | exact Ex.assign rfl | exact Ex.min rfl rfl | exact Ex.max rfl rfl | exact Ex.quo rfl rfl (by omega) | exact Ex.quotB rfl rfl (by omega) | exact Ex.rem rfl rfl (by omega) | exact Ex.mul rfl rfl (by omega) | exact Ex.remt rfl rfl (by omega) | exact Ex.notD rfl | exact Ex.notB rfl | exact Ex.eqS rfl rfl | exact Ex.neS rfl rfl | exact Ex.eqB rfl rfl | exact Ex.neB rfl rfl | exact Ex.lenS rfl | exact Ex.indexS rfl rfl (by first | omega | (simp; done) | (simp; omega)) | exact Ex.neg rfl (by omega) | exact Ex.convS rfl | exact Ex.pickT rfl (by first | assumption | omega) rfl | exact Ex.pickF rfl (by first | assumption | omega) rfl | exact Ex.loadBA rfl rfl rfl | exact Ex.loadTA rfl (by first | omega | (simp; done) | (simp; omega)) | exact Ex.build rfl rfl | exact Ex.pickLT rfl rfl | exact Ex.pickLF rfl rfl | exact Ex.eqA rfl rfl rfl | exact Ex.neA rfl rfl rfl | exact Ex.pick rfl rfl rfl | exact Ex.indexI rfl rfl (by omega) | exact Ex.conv64b rfl | exact Ex.conv64 rfl (by omega) | exact Ex.conv8 rfl | exact Ex.conv16 rfl | exact Ex.shr8 rfl rfl | exact Ex.shr16 rfl rfl | exact Ex.shr24 rfl rfl | exact Ex.shl8b rfl rfl | exact Ex.shl8 rfl rfl (by omega) | exact Ex.orBbb rfl rfl | exact Ex.orBb rfl rfl (by omega) | exact Ex.orB rfl rfl (by omega) | exact Ex.and16 rfl rfl (by omega) | exact Ex.eqNil rfl rfl | exact Ex.neNil rfl rfl | exact Ex.mkFunc rfl | exact Ex.capSl rfl | exact Ex.arrPtr rfl (by omega) | exact Ex.loadArI rfl (by assumption) rfl | exact Ex.eqArrI rfl rfl (by assumption) (by assumption) | exact Ex.loadAr rfl rfl rfl rfl | exact Ex.indexArr rfl rfl (by first | omega | (simp; done) | (simp; omega)))) | refine Gq.g_tt rfl rfl (by first | assumption | omega) ?_ | refine Gq.g_tf rfl rfl (by first | assumption | omega) rfl ?_ | refine Gq.g_ft rfl rfl (by first | assumption | omega) rfl ?_ | refine Gq.g_ff rfl rfl (by first | assumption | omega) ?_ | refine Gq.g_un rfl rfl rfl ?_ | refine Gq.yes rfl rfl ?_ | refine Gq.l_tf rfl rfl rfl ?_ | refine Gq.l_ft rfl rfl rfl ?_ | refine Gq.nil ?_ | refine GC.seq ?_ | refine GC.region ?_ | refine GC.block ?_ | refine GC.skip ?_ | refine GC.ret ?_ | refine GC.exit ?_ | refine GE.then_normal ?_ | refine GE.then_ret ?_ | refine GE.then_exit ?_ | refine GE.block_normal ?_ | refine GE.block_ret ?_ | refine GE.block_hit ?_ | refine GE.block_miss rfl ?_ | refine GC.cond_yes rfl (by first | assumption | omega) ?_ | refine GC.cond_no rfl (by first | assumption | omega) ?_ | refine GC.cond_t rfl ?_ | refine GC.cond_f rfl ?_)
  refine GE.ret (by first | exact .inl rfl | exact .inr rfl) (by first | exact res0 Try.results30 | exact res1 Try.results30 rfl | exact res2 Try.results30 rfl rfl | exact resR1 Try.results30 (by first | exact RV.tmp rfl | exact RV.cell rfl rfl | exact RV.cell1 rfl) | exact resR2 Try.results30 (by first | exact RV.tmp rfl | exact RV.cell rfl rfl | exact RV.cell1 rfl) (by first | exact RV.tmp rfl | exact RV.cell rfl rfl | exact RV.cell1 rfl) | exact resR3 Try.results30 (by first | exact RV.tmp rfl | exact RV.cell rfl rfl | exact RV.cell1 rfl) (by first | exact RV.tmp rfl | exact RV.cell rfl rfl | exact RV.cell1 rfl) (by first | exact RV.tmp rfl | exact RV.cell rfl rfl | exact RV.cell1 rfl)) ⟨rfl, rfl⟩ (by repeat (first | exact Takes.nil | apply Takes.dup rfl | apply Takes.cons | exact Take1.here | apply Take1.there)) (by repeat (first | exact Subs.refl | refine Subs.skip ?_))
theorem Ok.snoc {L : List (Nat × Int)} (h : Ok L) {t : Nat} {z : Int} (ht : lst L L.length ≤ t) (h3 : t ≤ 300) (hz : 1 ≤ z ∧ z ≤ 1500) : Ok (L ++ [(t, z)]) ∧ lst (L ++ [(t, z)]) (L ++ [(t, z)]).length = t := by
  have lt : ∀ k, k < L.length → (L ++ [(t, z)]).getD k default = L.getD k default := fun k hk => by
    rw [List.getD_eq_getElem?_getD, List.getD_eq_getElem?_getD, List.getElem?_append_left hk]
  have eq : (L ++ [(t, z)]).getD L.length default = (t, z) := by
    rw [List.getD_eq_getElem?_getD, List.getElem?_append_right (by omega), Nat.sub_self]; rfl
  have ls : ∀ k, k ≤ L.length → lst (L ++ [(t, z)]) k = lst L k := fun k hk => by
    cases k with
    | zero => rfl
    | succ k => show ((L ++ [(t, z)]).getD k default).1 = (L.getD k default).1; rw [lt k (by omega)]
  refine ⟨⟨fun k hk => ?_, fun k hk => ?_⟩, ?_⟩
  · rw [List.length_append, List.length_singleton] at hk
    by_cases e : k < L.length
    · rw [lt k e]; exact h.el k e
    · rw [show k = L.length by omega, eq]; exact ⟨h3, hz⟩
  · rw [List.length_append, List.length_singleton] at hk
    by_cases e : k < L.length
    · rw [lt k e, ls k (by omega)]; exact h.up k e
    · rw [show k = L.length by omega, eq, ls _ (Nat.le_refl _)]; exact ht
  · rw [List.length_append, List.length_singleton]
    show ((L ++ [(t, z)]).getD L.length default).1 = t
    rw [eq]
theorem ok_nil : Ok [] := ⟨fun k h => by simp at h, fun k h => by simp at h⟩
theorem ok_one : Ok [(0, 5)] := (ok_nil.snoc (t := 0) (z := 5) (by simp [lst]) (by decide) (by decide)).1
end buck
end Go.Proofs.Ytcabcpealkbekaa
