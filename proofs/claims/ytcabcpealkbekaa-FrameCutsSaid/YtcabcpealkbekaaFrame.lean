/-
  CONTRACTS of package frame and of the keeper's frames, by the kit.
-/
import Derived.Test.YtcabcpealkbekaaFrameP
import Derived.Test.YtcabcpealkbekaaKit19
namespace Go.Proofs.Ytcabcpealkbekaa
open Go.RowKit
attribute [local irreducible] Ex G GC GE Gq FPost LPost
set_option linter.unusedVariables false
set_option linter.unusedSimpArgs false

namespace frame
theorem growB_sp (m : Nat) (hm : m ≤ 1000000) : Spec Try.prog 54 [.slice none 0 0, .int .i64 (m : Int)] [] fun v give => ∃ ao c, v = .slice ao 0 c ∧ give = [.vec 5 1 ao 0 c []] := by
  refine Spec.intro Try.func54 rfl Try.ntmps54 rfl fun w0 rest rs_ hrs_ => ?_
  simp only [List.cons_append, List.nil_append] at hrs_
  subst hrs_
  first | refine G.nilvec 5 1 ?_ | refine GC.nilvec 5 1 ?_
  by_cases h0 : m = 0
  · subst h0
    repeat (first | (apply G.ex (hd := rfl); case h => (first | exact Ex.move rfl | exact Ex.sub rfl rfl (by omega) | exact Ex.lss rfl rfl | exact Ex.gtr rfl rfl | exact Ex.lenSl rfl | exact Ex.assign rfl | exact Ex.capSl rfl)) | refine G.nil ?_ | refine GC.seq ?_ | refine GC.region ?_ | refine GC.skip ?_ | refine GC.ret ?_ | refine GE.then_normal ?_ | refine GC.cond_no rfl (by first | assumption | omega) ?_)
    refine GE.ret (by first | exact .inl rfl | exact .inr rfl) (by first | exact res0 Try.results54 | exact res1 Try.results54 rfl | exact res2 Try.results54 rfl rfl | exact resR1 Try.results54 (by first | exact RV.tmp rfl | exact RV.cell rfl rfl | exact RV.cell1 rfl) | exact resR2 Try.results54 (by first | exact RV.tmp rfl | exact RV.cell rfl rfl | exact RV.cell1 rfl) (by first | exact RV.tmp rfl | exact RV.cell rfl rfl | exact RV.cell1 rfl) | exact resR3 Try.results54 (by first | exact RV.tmp rfl | exact RV.cell rfl rfl | exact RV.cell1 rfl) (by first | exact RV.tmp rfl | exact RV.cell rfl rfl | exact RV.cell1 rfl) (by first | exact RV.tmp rfl | exact RV.cell rfl rfl | exact RV.cell1 rfl)) ⟨_, _, rfl, rfl⟩ (by repeat (first | exact Takes.nil | apply Takes.dup rfl | apply Takes.cons | exact Take1.here | apply Take1.there)) (by repeat (first | exact Subs.refl | refine Subs.skip ?_))
  · have e1 : (m : Int) - (((0 : Nat) : Int) - ((0 : Nat) : Int)) = (m : Int) := by omega
    repeat (first | (apply G.ex (hd := rfl); case h => (first | exact Ex.move rfl | exact Ex.sub rfl rfl (by omega) | exact Ex.lss rfl rfl | exact Ex.gtr rfl rfl | exact Ex.lenSl rfl | exact Ex.assign rfl | exact Ex.capSl rfl)) | refine G.nil ?_ | refine GC.seq ?_ | refine GC.region ?_ | refine GC.skip ?_ | refine GE.then_normal ?_ | refine GC.cond_yes rfl (by first | assumption | omega) ?_ | refine GC.cond_no rfl (by first | assumption | omega) ?_)
    rw [e1]
    repeat (first | fail)
    refine G.ex (Ex.subNil rfl (by first | exact .inl ⟨rfl, rfl⟩ | exact .inr ⟨_, _, rfl, ev_int rfl (by omega)⟩) (by first | exact .inl ⟨rfl, rfl⟩ | exact .inr ⟨_, _, rfl, ev_int rfl (by omega)⟩)) rfl ?_
    repeat (first | (apply G.ex (hd := rfl); case h => (first | exact Ex.move rfl)))
    refine G.appMake0 (m := m) rfl rfl (by omega) (by rfl) (by rfl) (by omega) (by rfl) rfl (fun a2 c2 => ?_)
    repeat (first | (apply G.ex (hd := rfl); case h => (first | exact Ex.move rfl | exact Ex.lenSl rfl)))
    refine G.subV (l := 0) (r := 0) rfl (by first | exact .inl ⟨rfl, rfl⟩ | exact .inr ⟨_, _, rfl, ev_int rfl (by omega)⟩) (by first | exact .inl ⟨rfl, rfl⟩ | exact .inr ⟨_, _, rfl, ev_int rfl (by omega)⟩) (by omega) rfl (rfl) (fun a3 rs_ hrs_ => ?_)
    try simp only at hrs_
    subst hrs_
    simp only [Nat.sub_zero, Nat.zero_mul, List.take_zero]
    repeat (first | (apply G.ex (hd := rfl); case h => (first | exact Ex.move rfl | exact Ex.assign rfl)) | refine G.nil ?_ | refine GC.seq ?_ | refine GC.region ?_ | refine GC.ret ?_ | refine GE.then_normal ?_)
    refine GE.ret (by first | exact .inl rfl | exact .inr rfl) (by first | exact res0 Try.results54 | exact res1 Try.results54 rfl | exact res2 Try.results54 rfl rfl | exact resR1 Try.results54 (by first | exact RV.tmp rfl | exact RV.cell rfl rfl | exact RV.cell1 rfl) | exact resR2 Try.results54 (by first | exact RV.tmp rfl | exact RV.cell rfl rfl | exact RV.cell1 rfl) (by first | exact RV.tmp rfl | exact RV.cell rfl rfl | exact RV.cell1 rfl) | exact resR3 Try.results54 (by first | exact RV.tmp rfl | exact RV.cell rfl rfl | exact RV.cell1 rfl) (by first | exact RV.tmp rfl | exact RV.cell rfl rfl | exact RV.cell1 rfl) (by first | exact RV.tmp rfl | exact RV.cell rfl rfl | exact RV.cell1 rfl)) ⟨_, _, rfl, rfl⟩ (by repeat (first | exact Takes.nil | apply Takes.dup rfl | apply Takes.cons | exact Take1.here | apply Take1.there)) (by repeat (first | exact Subs.refl | refine Subs.skip ?_))
def tot (l : List (SlD UInt8)) : List UInt8 := l.flatMap (·.l)
theorem tot_snoc (l : List (SlD UInt8)) (x : SlD UInt8) : tot (l ++ [x]) = tot l ++ x.l := by simp [tot]
theorem tot_le (l : List (SlD UInt8)) (k : Nat) : (tot (l.take k)).length ≤ (tot l).length := by
  conv => rhs; rw [← List.take_append_drop k l]
  simp only [tot, List.flatMap_append, List.length_append]
  omega
theorem getD_take {α : Type} [Inhabited α] (l : List α) (k : Nat) (h : k < l.length) : l.take (k + 1) = l.take k ++ [l.getD k default] := by
  rw [List.take_succ_eq_append_getElem h, List.getD_eq_getElem?_getD, List.getElem?_eq_getElem h]; rfl
theorem getD_mem' {α : Type} [Inhabited α] (l : List α) (k : Nat) (h : k < l.length) : l.getD k default ∈ l := by
  rw [List.getD_eq_getElem?_getD, List.getElem?_eq_getElem h]; exact List.getElem_mem h
set_option maxHeartbeats 1000000 in
theorem concatB_sp (so : Option Addr) (k sc : Nat) (l : List (SlD UInt8)) (hl : l.length = k) (hk : k ≤ 100) (hn : ∀ x ∈ l, x.l.length = x.n) (ht : (tot l).length ≤ 1000000) :
    Spec Try.prog 39 [.slice so k sc] [.sl so k sc 1 (flat eS l), .per (Rd eB 1 l)] fun v give => ∃ ao c, v = .slice ao (tot l).length c ∧ give = [.vec 5 1 ao (tot l).length c (flat eB (tot l))] := by
  refine Spec.intro Try.func39 rfl Try.ntmps39 rfl fun w0 rest rs_ hrs_ => ?_
  simp only [List.cons_append, List.nil_append] at hrs_
  subst hrs_
  repeat (first | (apply G.ex (hd := rfl); case h => (first | exact Ex.move rfl | exact Ex.lenSl rfl | exact Ex.assign rfl)) | refine G.nil ?_ | refine GC.seq ?_ | refine GC.region ?_ | refine GC.block ?_ | refine GE.then_normal ?_)
  refine GC.loop (ι := Nat) (fun i => i ≤ k) (fun i => k - i) (fun i => [(0, .slice so k sc), (3, .int .i64 ((tot (l.take i)).length : Int)), (9, .slice so k sc), (10, .int .i64 (k : Int)), (11, .int .i64 (i : Int))]) (fun i => [.sl so k sc 1 (flat eS l), .per (Rd eB 1 l)]) 0 (Nat.zero_le _) (by simp only [fits]; repeat (first | exact trivial | refine And.intro rfl ?_)) (by repeat (first | exact Takes.nil | apply Takes.dup rfl | apply Takes.cons | exact Take1.here | apply Take1.there)) ?_
  rintro i hi fr_ rs_ hfr_ hrs_
  simp only [List.cons_append, List.nil_append] at hfr_ hrs_
  subst hfr_ hrs_
  have hle := tot_le l i
  repeat (first | (apply G.ex (hd := rfl); case h => (first | exact Ex.lss rfl rfl)) | refine G.nil ?_ | refine GC.seq ?_ | refine GC.region ?_ | refine GE.then_normal ?_)
  refine GC.cond_dec rfl (fun hlt => ?_) (fun hlt => ?_)
  · have hlt : i < k := by omega
    have hle2 := tot_le l (i + 1)
    have hxn := hn _ (getD_mem' l i (by omega))
    have htk : (tot (l.take (i + 1))).length = (tot (l.take i)).length + (l.getD i default).n := by rw [getD_take l i (by omega), tot_snoc, List.length_append, hxn]
    have htk2 : ((tot (l.take i)).length : Int) + ((l.getD i default).n : Int) = ((tot (l.take (i + 1))).length : Int) := by omega
    repeat (first | (apply G.ex (hd := rfl); case h => (first | exact Ex.move rfl | exact Ex.add rfl rfl (by omega) | exact Ex.lss rfl rfl | exact Ex.lenSl rfl | exact Ex.indexN rfl rfl (by first | omega | (simp; done) | (simp; omega)) | exact Ex.loadT0 rfl (by first | omega | (simp; done) | (simp; omega)) rfl | exact Ex.assign rfl)) | refine G.nil ?_ | refine GC.seq ?_ | refine GC.region ?_ | refine GC.block ?_ | refine GC.skip ?_ | refine GE.then_normal ?_ | refine GE.block_normal ?_ | refine GC.cond_no rfl (by first | assumption | omega) ?_)
    rw [htk2]
    repeat (first | fail)
    refine GE.loop (i + 1) (by omega) (by omega) (by simp only [fits]; repeat (first | exact trivial | refine And.intro rfl ?_)) (by repeat (first | exact Takes.nil | apply Takes.dup rfl | apply Takes.cons | exact Take1.here | apply Take1.there)) (by repeat (first | exact Subs.refl | refine Subs.skip ?_))
  · obtain rfl : i = k := by omega
    rw [List.take_of_length_le (by omega)]
    repeat (first | (apply G.ex (hd := rfl); case h => (first | exact Ex.move rfl)) | refine GC.seq ?_ | refine GC.region ?_ | refine GC.exit ?_ | refine GE.then_normal ?_ | refine GE.then_exit ?_ | refine GE.block_hit ?_)
    first | refine G.call (caps := []) (growB_sp (tot l).length ht) rfl rfl rfl rfl (by repeat (first | exact Takes.nil | apply Takes.dup rfl | apply Takes.cons | exact Take1.here | apply Take1.there)) ?_ | refine G.callU (caps := []) (growB_sp (tot l).length ht) rfl rfl rfl (by repeat (first | exact Takes.nil | apply Takes.dup rfl | apply Takes.cons | exact Take1.here | apply Take1.there)) ?_
    rintro v_ give_ ⟨ga, gc, rfl, rfl⟩ rs_ hrs_
    simp only [List.cons_append, List.nil_append] at hrs_
    subst hrs_
    repeat (first | (apply G.ex (hd := rfl); case h => (first | exact Ex.move rfl | exact Ex.lenSl rfl | exact Ex.assign rfl)) | refine G.nil ?_ | refine GC.seq ?_ | refine GC.region ?_ | refine GC.block ?_ | refine GE.then_normal ?_)
    refine GC.loop (ι := Nat × Option Addr × Nat) (fun j => j.1 ≤ i) (fun j => i - j.1) (fun j => [(6, .slice j.2.1 (tot (l.take j.1)).length j.2.2), (25, .slice so i sc), (26, .int .i64 (i : Int)), (27, .int .i64 (j.1 : Int))]) (fun j => [.vec 5 1 j.2.1 (tot (l.take j.1)).length j.2.2 (flat eB (tot (l.take j.1))), .sl so i sc 1 (flat eS l), .per (Rd eB 1 l)]) (0, ga, gc) (Nat.zero_le _) (by simp only [fits]; repeat (first | exact trivial | refine And.intro rfl ?_)) (by repeat (first | exact Takes.nil | apply Takes.dup rfl | apply Takes.cons | exact Take1.here | apply Take1.there)) ?_
    rintro ⟨j, ja, jc⟩ hj fr_ rs_ hfr_ hrs_
    simp only [List.cons_append, List.nil_append] at hfr_ hrs_
    subst hfr_ hrs_
    simp only at hj
    repeat (first | (apply G.ex (hd := rfl); case h => (first | exact Ex.lss rfl rfl)) | refine G.nil ?_ | refine GC.seq ?_ | refine GC.region ?_ | refine GE.then_normal ?_)
    refine GC.cond_dec rfl (fun hlt => ?_) (fun hlt => ?_)
    · have hlt : j < i := by omega
      have hle2 := tot_le l (j + 1)
      have hxn := hn _ (getD_mem' l j (by omega))
      have htk : tot (l.take (j + 1)) = tot (l.take j) ++ (l.getD j default).l := by rw [getD_take l j (by omega), tot_snoc]
      have htk2 : (tot (l.take (j + 1))).length = (tot (l.take j)).length + (l.getD j default).n := by rw [htk, List.length_append, hxn]
      refine GC.conv (fun w_ H_ => H_.rdAt (l := l) (enc := eB) (s := 1) (by simp) j (by omega)) ?_
      repeat (first | (apply G.ex (hd := rfl); case h => (first | exact Ex.move rfl | exact Ex.indexN rfl rfl (by first | omega | (simp; done) | (simp; omega)) | exact Ex.loadT0 rfl (by first | omega | (simp; done) | (simp; omega)) rfl | exact Ex.assign rfl)) | refine G.nil ?_ | refine GC.seq ?_ | refine GC.region ?_ | refine GC.block ?_ | refine GC.skip ?_ | refine GE.then_normal ?_)
      have hcat : flat eB (tot (l.take j)) ++ flat eB (l.getD j default).l = flat eB (tot (l.take (j + 1))) := by rw [htk, flat_append]
      refine G.app rfl rfl (by rfl) (by omega) rfl (hcat) (fun ka kc rs_ hrs_ => ?_)
      try simp only at hrs_
      subst hrs_
      rw [← htk2]
      repeat (first | (apply G.ex (hd := rfl); case h => (first | exact Ex.move rfl | exact Ex.add rfl rfl (by omega) | exact Ex.assign rfl)) | refine G.nil ?_ | refine GC.region ?_ | refine GE.then_normal ?_ | refine GE.block_normal ?_)
      refine GE.loop (j + 1, ka, kc) (by simp only; omega) (by simp only; omega) (by simp only [fits]; repeat (first | exact trivial | refine And.intro rfl ?_)) (by repeat (first | exact Takes.nil | apply Takes.dup rfl | apply Takes.cons | exact Take1.here | apply Take1.there)) (by repeat (first | exact Subs.refl | refine Subs.skip ?_))
    · obtain rfl : j = i := by omega
      rw [List.take_of_length_le (by omega)]
      repeat (first | (apply G.ex (hd := rfl); case h => (first | exact Ex.move rfl | exact Ex.assign rfl)) | refine G.nil ?_ | refine GC.seq ?_ | refine GC.region ?_ | refine GC.ret ?_ | refine GC.exit ?_ | refine GE.then_normal ?_ | refine GE.then_exit ?_ | refine GE.block_hit ?_)
      refine GE.ret (by first | exact .inl rfl | exact .inr rfl) (by first | exact res0 Try.results39 | exact res1 Try.results39 rfl | exact res2 Try.results39 rfl rfl | exact resR1 Try.results39 (by first | exact RV.tmp rfl | exact RV.cell rfl rfl | exact RV.cell1 rfl) | exact resR2 Try.results39 (by first | exact RV.tmp rfl | exact RV.cell rfl rfl | exact RV.cell1 rfl) (by first | exact RV.tmp rfl | exact RV.cell rfl rfl | exact RV.cell1 rfl) | exact resR3 Try.results39 (by first | exact RV.tmp rfl | exact RV.cell rfl rfl | exact RV.cell1 rfl) (by first | exact RV.tmp rfl | exact RV.cell rfl rfl | exact RV.cell1 rfl) (by first | exact RV.tmp rfl | exact RV.cell rfl rfl | exact RV.cell1 rfl)) ⟨_, _, rfl, rfl⟩ (by repeat (first | exact Takes.nil | apply Takes.dup rfl | apply Takes.cons | exact Take1.here | apply Take1.there)) (by repeat (first | exact Subs.refl | refine Subs.skip ?_))
theorem put4_sp (k : Nat) (hk : k < 4294967296) : Spec Try.prog 38 [.slice none 0 0, .int .i64 4, .int .i64 (k : Int)] [] fun v give => ∃ ao c, v = .slice ao 4 c ∧ give = [.vec 5 1 ao 4 c (flat eB (h4 k))] := by
  refine Spec.intro Try.func38 rfl Try.ntmps38 rfl fun w0 rest rs_ hrs_ => ?_
  simp only [List.cons_append, List.nil_append] at hrs_
  subst hrs_
  first | refine G.nilvec 5 1 ?_ | refine GC.nilvec 5 1 ?_
  repeat (first | (apply G.ex (hd := rfl); case h => (first | exact Ex.move rfl | exact Ex.sub rfl rfl (by omega) | exact Ex.assign rfl)) | refine G.nil ?_ | refine GC.seq ?_ | refine GC.region ?_ | refine GC.block ?_ | refine GE.then_normal ?_)
  refine GC.loop (ι := Nat × Option Addr × Nat) (fun i => i.1 ≤ 4) (fun i => 4 - i.1) (fun i => [(0, .slice i.2.1 i.1 i.2.2), (2, .int .i64 (k : Int)), (7, .int .i64 (3 - (i.1 : Int)))]) (fun i => [.vec 5 1 i.2.1 i.1 i.2.2 (flat eB ((h4 k).take i.1))]) (0, none, 0) (by simp only; omega) (by simp only [fits]; repeat (first | exact trivial | refine And.intro rfl ?_)) (by repeat (first | exact Takes.nil | apply Takes.dup rfl | apply Takes.cons | exact Take1.here | apply Take1.there)) ?_
  rintro ⟨j, oa, oc⟩ hj fr_ rs_ hfr_ hrs_
  simp only [List.cons_append, List.nil_append] at hfr_ hrs_
  subst hfr_ hrs_
  simp only at hj
  repeat (first | (apply G.ex (hd := rfl); case h => (first | exact Ex.move rfl | exact Ex.geq rfl rfl)) | refine G.nil ?_ | refine GC.seq ?_ | refine GC.region ?_ | refine GE.then_normal ?_)
  by_cases hlt : j < 4
  · have hstep : (h4 k).take j ++ [byteZ ((k : Int) / 2 ^ (8 * (3 - (j : Int))).toNat)] = (h4 k).take (j + 1) := by
      have : j = 0 ∨ j = 1 ∨ j = 2 ∨ j = 3 := by omega
      rcases this with rfl | rfl | rfl | rfl <;> simp [h4]
    have hcat : flat eB ((h4 k).take j) ++ flat eB [byteZ ((k : Int) / 2 ^ (8 * (3 - (j : Int))).toNat)] = flat eB ((h4 k).take (j + 1)) := by rw [← flat_append, hstep]
    repeat (first | (apply G.ex (hd := rfl); case h => (first | exact Ex.move rfl | exact Ex.mul rfl rfl (by omega))) | refine GC.seq ?_ | refine GC.region ?_ | refine GC.block ?_ | refine GC.skip ?_ | refine GE.then_normal ?_ | refine GC.cond_yes rfl (by first | assumption | omega) ?_)
    refine G.ex (Ex.shrN rfl rfl (by omega)) rfl ?_
    first | (apply G.ex (hd := rfl); case h => (first | exact Ex.conv8 rfl))
    rw [← byteZ_toNat ((k : Int) / 2 ^ (8 * (3 - (j : Int))).toNat)]
    refine G.lit rfl (by rfl) (by rfl) (by rfl) (by rfl) (by rfl) (by rfl) rfl (fun y => ?_)
    refine G.app rfl rfl (by rfl) (by omega) rfl (hcat) (fun o2 c2 rs_ hrs_ => ?_)
    try simp only at hrs_
    subst hrs_
    repeat (first | (apply G.ex (hd := rfl); case h => (first | exact Ex.move rfl | exact Ex.sub rfl rfl (by omega) | exact Ex.assign rfl)) | refine G.nil ?_ | refine GC.region ?_ | refine GE.then_normal ?_ | refine GE.block_normal ?_)
    rw [show 3 - (j : Int) - 1 = 3 - ((j + 1 : Nat) : Int) by omega]
    refine GE.loop (j + 1, o2, c2) (by simp only; omega) (by simp only; omega) (by simp only [fits]; repeat (first | exact trivial | refine And.intro rfl ?_)) (by repeat (first | exact Takes.nil | apply Takes.dup rfl | apply Takes.cons | exact Take1.here | apply Take1.there)) (by repeat (first | exact Subs.refl | refine Subs.skip ?_))
  · have hj4 : j = 4 := by omega
    subst hj4
    repeat (first | (apply G.ex (hd := rfl); case h => (first | exact Ex.move rfl | exact Ex.assign rfl)) | refine G.nil ?_ | refine GC.seq ?_ | refine GC.region ?_ | refine GC.ret ?_ | refine GC.exit ?_ | refine GE.then_normal ?_ | refine GE.then_exit ?_ | refine GE.block_hit ?_ | refine GC.cond_no rfl (by first | assumption | omega) ?_)
    refine GE.ret (by first | exact .inl rfl | exact .inr rfl) (by first | exact res0 Try.results38 | exact res1 Try.results38 rfl | exact res2 Try.results38 rfl rfl | exact resR1 Try.results38 (by first | exact RV.tmp rfl | exact RV.cell rfl rfl | exact RV.cell1 rfl) | exact resR2 Try.results38 (by first | exact RV.tmp rfl | exact RV.cell rfl rfl | exact RV.cell1 rfl) (by first | exact RV.tmp rfl | exact RV.cell rfl rfl | exact RV.cell1 rfl) | exact resR3 Try.results38 (by first | exact RV.tmp rfl | exact RV.cell rfl rfl | exact RV.cell1 rfl) (by first | exact RV.tmp rfl | exact RV.cell rfl rfl | exact RV.cell1 rfl) (by first | exact RV.tmp rfl | exact RV.cell rfl rfl | exact RV.cell1 rfl)) ⟨_, _, rfl, rfl⟩ (by repeat (first | exact Takes.nil | apply Takes.dup rfl | apply Takes.cons | exact Take1.here | apply Take1.there)) (by repeat (first | exact Subs.refl | refine Subs.skip ?_))
theorem get_sp (ao : Option Addr) (n c : Nat) (l : List UInt8) (hl : l.length = n) (hn : n ≤ 4) : Spec Try.prog 40 [.slice ao n c] [.sl ao n c 1 (flat eB l)] fun v give => v = .int .i64 (num l : Int) ∧ give = [] := by
  refine Spec.intro Try.func40 rfl Try.ntmps40 rfl fun w0 rest rs_ hrs_ => ?_
  simp only [List.cons_append, List.nil_append] at hrs_
  subst hrs_
  repeat (first | (apply G.ex (hd := rfl); case h => (first | exact Ex.move rfl | exact Ex.lenSl rfl | exact Ex.assign rfl)) | refine G.nil ?_ | refine GC.seq ?_ | refine GC.region ?_ | refine GC.block ?_ | refine GE.then_normal ?_)
  refine GC.loop (ι := Nat) (fun i => i ≤ n) (fun i => n - i) (fun i => [(3, .int .i64 (num (l.take i) : Int)), (6, .slice ao n c), (7, .int .i64 (n : Int)), (8, .int .i64 (i : Int))]) (fun i => [.sl ao n c 1 (flat eB l)]) 0 (Nat.zero_le _) (by simp only [fits]; repeat (first | exact trivial | refine And.intro rfl ?_)) (by repeat (first | exact Takes.nil | apply Takes.dup rfl | apply Takes.cons | exact Take1.here | apply Take1.there)) ?_
  rintro i hi fr_ rs_ hfr_ hrs_
  simp only [List.cons_append, List.nil_append] at hfr_ hrs_
  subst hfr_ hrs_
  repeat (first | (apply G.ex (hd := rfl); case h => (first | exact Ex.lss rfl rfl)) | refine G.nil ?_ | refine GC.seq ?_ | refine GC.region ?_ | refine GE.then_normal ?_)
  refine GC.cond_dec rfl (fun hlt => ?_) (fun hlt => ?_)
  · have hlt : i < n := by omega
    have hb := num_lt (l.take i)
    have hp : 256 ^ (l.take i).length ≤ 256 ^ 4 := Nat.pow_le_pow_right (by decide) (by rw [List.length_take]; omega)
    have hb2 : num (l.take i) < 4294967296 := by omega
    clear hb hp
    have hs : ((num (l.take i) : Nat) : Int) * 256 + ((l.getD i default).toNat : Int) = ((num (l.take (i + 1)) : Nat) : Int) := by
      rw [take_snoc' l i (by omega), num_snoc]; omega
    obtain ⟨Z, hZ, hZ0, hZ1⟩ : ∃ Z : Int, ((num (l.take i) : Nat) : Int) = Z ∧ 0 ≤ Z ∧ Z < 4294967296 := ⟨_, rfl, by omega, by omega⟩
    rw [hZ] at hs ⊢
    repeat (first | (apply G.ex (hd := rfl); case h => (first | exact Ex.move rfl | exact Ex.add rfl rfl (by omega) | exact Ex.indexN rfl rfl (by first | omega | (simp; done) | (simp; omega)) | exact Ex.loadT0 rfl (by first | omega | (simp; done) | (simp; omega)) rfl | exact Ex.assign rfl | exact Ex.conv64b rfl | exact Ex.shl8 rfl rfl (by omega) | exact Ex.orBb rfl rfl (by omega))) | refine G.nil ?_ | refine GC.seq ?_ | refine GC.region ?_ | refine GC.block ?_ | refine GC.skip ?_ | refine GE.then_normal ?_ | refine GE.block_normal ?_)
    rw [hs]
    repeat (first | fail)
    refine GE.loop (i + 1) (by omega) (by omega) (by simp only [fits]; repeat (first | exact trivial | refine And.intro rfl ?_)) (by repeat (first | exact Takes.nil | apply Takes.dup rfl | apply Takes.cons | exact Take1.here | apply Take1.there)) (by repeat (first | exact Subs.refl | refine Subs.skip ?_))
  · obtain rfl : i = n := by omega
    rw [List.take_of_length_le (by omega)]
    repeat (first | (apply G.ex (hd := rfl); case h => (first | exact Ex.move rfl | exact Ex.assign rfl)) | refine G.nil ?_ | refine GC.seq ?_ | refine GC.region ?_ | refine GC.ret ?_ | refine GC.exit ?_ | refine GE.then_normal ?_ | refine GE.then_exit ?_ | refine GE.block_hit ?_)
    refine GE.ret (by first | exact .inl rfl | exact .inr rfl) (by first | exact res0 Try.results40 | exact res1 Try.results40 rfl | exact res2 Try.results40 rfl rfl | exact resR1 Try.results40 (by first | exact RV.tmp rfl | exact RV.cell rfl rfl | exact RV.cell1 rfl) | exact resR2 Try.results40 (by first | exact RV.tmp rfl | exact RV.cell rfl rfl | exact RV.cell1 rfl) (by first | exact RV.tmp rfl | exact RV.cell rfl rfl | exact RV.cell1 rfl) | exact resR3 Try.results40 (by first | exact RV.tmp rfl | exact RV.cell rfl rfl | exact RV.cell1 rfl) (by first | exact RV.tmp rfl | exact RV.cell rfl rfl | exact RV.cell1 rfl) (by first | exact RV.tmp rfl | exact RV.cell rfl rfl | exact RV.cell1 rfl)) ⟨rfl, rfl⟩ (by repeat (first | exact Takes.nil | apply Takes.dup rfl | apply Takes.cons | exact Take1.here | apply Take1.there)) (by repeat (first | exact Subs.refl | refine Subs.skip ?_))
theorem wrap_sp (ao : Option Addr) (n c : Nat) (b : List UInt8) (hb : b.length = n) (hn : n ≤ 1024) : Spec Try.prog 20 [.slice ao n c] [.sl ao n c 1 (flat eB b)] fun v give => ∃ oa oc, v = .tuple #[.slice oa (fr b).length oc, .int .i64 0] ∧ give = [.vec 5 1 oa (fr b).length oc (flat eB (fr b))] := by
  refine Spec.intro Try.func20 rfl Try.ntmps20 rfl fun w0 rest rs_ hrs_ => ?_
  simp only [List.cons_append, List.nil_append] at hrs_
  subst hrs_
  repeat (first | (apply G.ex (hd := rfl); case h => (first | exact Ex.move rfl | exact Ex.gtr rfl rfl | exact Ex.lenSl rfl | exact Ex.assign rfl)) | refine G.nil ?_ | refine GC.seq ?_ | refine GC.region ?_ | refine GC.skip ?_ | refine GE.then_normal ?_ | refine GC.cond_no rfl (by first | assumption | omega) ?_)
  first | refine G.call (caps := []) (put4_sp n (by omega)) rfl rfl rfl rfl (by repeat (first | exact Takes.nil | apply Takes.dup rfl | apply Takes.cons | exact Take1.here | apply Take1.there)) ?_ | refine G.callU (caps := []) (put4_sp n (by omega)) rfl rfl rfl (by repeat (first | exact Takes.nil | apply Takes.dup rfl | apply Takes.cons | exact Take1.here | apply Take1.there)) ?_
  rintro v_ give_ ⟨pa, pc, rfl, rfl⟩ rs_ hrs_
  simp only [List.cons_append, List.nil_append] at hrs_
  subst hrs_
  repeat (first | (apply G.ex (hd := rfl); case h => (first | exact Ex.move rfl)))
  have hcat : flat eB (h4 n) ++ flat eB b = flat eB (fr b) := by rw [← flat_append]; unfold fr; rw [hb]
  refine G.app rfl rfl (by rfl) (by omega) rfl (hcat) (fun oa oc rs_ hrs_ => ?_)
  try simp only at hrs_
  subst hrs_
  rw [show 4 + n = (fr b).length by rw [fr_len, hb]]
  repeat (first | (apply G.ex (hd := rfl); case h => (first | exact Ex.assign rfl)) | refine G.nil ?_ | refine GC.ret ?_ | refine GE.then_normal ?_)
  refine GE.ret (by first | exact .inl rfl | exact .inr rfl) (by first | exact res0 Try.results20 | exact res1 Try.results20 rfl | exact res2 Try.results20 rfl rfl | exact resR1 Try.results20 (by first | exact RV.tmp rfl | exact RV.cell rfl rfl | exact RV.cell1 rfl) | exact resR2 Try.results20 (by first | exact RV.tmp rfl | exact RV.cell rfl rfl | exact RV.cell1 rfl) (by first | exact RV.tmp rfl | exact RV.cell rfl rfl | exact RV.cell1 rfl) | exact resR3 Try.results20 (by first | exact RV.tmp rfl | exact RV.cell rfl rfl | exact RV.cell1 rfl) (by first | exact RV.tmp rfl | exact RV.cell rfl rfl | exact RV.cell1 rfl) (by first | exact RV.tmp rfl | exact RV.cell rfl rfl | exact RV.cell1 rfl)) ⟨_, _, rfl, rfl⟩ (by repeat (first | exact Takes.nil | apply Takes.dup rfl | apply Takes.cons | exact Take1.here | apply Take1.there)) (by repeat (first | exact Subs.refl | refine Subs.skip ?_))
theorem wrap_big_sp (ao : Option Addr) (n c : Nat) (b : List UInt8) (hb : b.length = n) (hn : 1024 < n) (hn2 : n ≤ 100000) : Spec Try.prog 20 [.slice ao n c] [.sl ao n c 1 (flat eB b)] fun v give => v = .tuple #[.slice none 0 0, .int .i64 1] ∧ give = [] := by
  refine Spec.intro Try.func20 rfl Try.ntmps20 rfl fun w0 rest rs_ hrs_ => ?_
  simp only [List.cons_append, List.nil_append] at hrs_
  subst hrs_
  repeat (first | (apply G.ex (hd := rfl); case h => (first | exact Ex.move rfl | exact Ex.gtr rfl rfl | exact Ex.lenSl rfl | exact Ex.assign rfl)) | refine G.nil ?_ | refine GC.seq ?_ | refine GC.region ?_ | refine GC.ret ?_ | refine GE.then_normal ?_ | refine GE.then_ret ?_ | refine GC.cond_yes rfl (by first | assumption | omega) ?_)
  refine GE.ret (by first | exact .inl rfl | exact .inr rfl) (by first | exact res0 Try.results20 | exact res1 Try.results20 rfl | exact res2 Try.results20 rfl rfl | exact resR1 Try.results20 (by first | exact RV.tmp rfl | exact RV.cell rfl rfl | exact RV.cell1 rfl) | exact resR2 Try.results20 (by first | exact RV.tmp rfl | exact RV.cell rfl rfl | exact RV.cell1 rfl) (by first | exact RV.tmp rfl | exact RV.cell rfl rfl | exact RV.cell1 rfl) | exact resR3 Try.results20 (by first | exact RV.tmp rfl | exact RV.cell rfl rfl | exact RV.cell1 rfl) (by first | exact RV.tmp rfl | exact RV.cell rfl rfl | exact RV.cell1 rfl) (by first | exact RV.tmp rfl | exact RV.cell rfl rfl | exact RV.cell1 rfl)) ⟨rfl, rfl⟩ (by repeat (first | exact Takes.nil | apply Takes.dup rfl | apply Takes.cons | exact Take1.here | apply Take1.there)) (by repeat (first | exact Subs.refl | refine Subs.skip ?_))
end frame
end Go.Proofs.Ytcabcpealkbekaa
