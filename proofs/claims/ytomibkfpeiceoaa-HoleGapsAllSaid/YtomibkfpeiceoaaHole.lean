/-
  CONTRACTS of package hole and of packthreadkeep's helpers for it, by the kit.
-/
import Derived.Test.YtomibkfpeiceoaaHoleP
import Derived.Test.YtomibkfpeiceoaaKit15
namespace Go.Proofs.Ytomibkfpeiceoaa
open Go.RowKit
attribute [local irreducible] Ex G GC GE Gq FPost LPost
set_option linter.unusedVariables false
set_option linter.unusedSimpArgs false

namespace hole
def eR (x : R) : List Value := [.int .i64 x.1, .int .i64 x.2]
instance : Enc eR 2 := ⟨fun _ => rfl, fun x u hu => by simp [eR] at hu; rcases hu with rfl | rfl <;> rfl⟩
theorem chain_at {d : Int} {l : List R} (h : chain d l) (k : Nat) (hk : k < l.length) : last d (l.take k) < (l.getD k default).1 ∧ (l.getD k default).1 < (l.getD k default).2 ∧ last d (l.take (k + 1)) = (l.getD k default).2 := by
  have e : l.getD k default = l[k] := by rw [List.getD_eq_getElem?_getD, List.getElem?_eq_getElem hk]; rfl
  rw [e, List.take_succ_eq_append_getElem hk, last_app]
  have hc := h
  rw [← List.take_append_drop (k + 1) l, List.take_succ_eq_append_getElem hk, chain_app, chain_app] at hc
  exact ⟨hc.1.2.1, hc.1.2.2.1, rfl⟩
theorem cloneR_sp (r : Res) (ao : Option Addr) (n c : Nat) (l : List R) [hr : RdR r ao n c 2 (flat eR l)] (hl : l.length = n) (hn : n ≤ 1000000) :
    Spec Try.prog 43 [.slice ao n c] [r] fun v give => ∃ ao' c', v = .slice ao' n c' ∧ give = [.vec 61 2 ao' n c' (flat eR l), r] := by
  refine Spec.intro Try.func43 rfl Try.ntmps43 rfl fun w0 rest rs_ hrs_ => ?_
  simp only [List.cons_append, List.nil_append] at hrs_
  subst hrs_
  repeat (first | (apply G.ex (hd := rfl); case h => (first | exact Ex.move rfl | exact Ex.assign rfl | exact Ex.eqNil rfl rfl)) | refine G.nil ?_ | refine GC.seq ?_ | refine GC.region ?_ | refine GE.then_normal ?_)
  refine GC.cond_dec rfl (fun h => ?_) (fun h => ?_)
  · subst h
    refine GC.nilLen (m := n) (c := c) fun h1 h2 h3 => ?_
    subst h1 h2
    rw [h3]
    first | refine G.nilvec 61 2 ?_ | refine GC.nilvec 61 2 ?_
    repeat (first | (apply G.ex (hd := rfl); case h => (first | exact Ex.assign rfl)) | refine G.nil ?_ | refine GC.seq ?_ | refine GC.region ?_ | refine GC.ret ?_ | refine GE.then_normal ?_ | refine GE.then_ret ?_)
    refine GE.ret (by first | exact .inl rfl | exact .inr rfl) (by first | exact res0 Try.results43 | exact res1 Try.results43 rfl | exact res2 Try.results43 rfl rfl | exact resR1 Try.results43 (by first | exact RV.tmp rfl | exact RV.cell rfl rfl | exact RV.cell1 rfl) | exact resR2 Try.results43 (by first | exact RV.tmp rfl | exact RV.cell rfl rfl | exact RV.cell1 rfl) (by first | exact RV.tmp rfl | exact RV.cell rfl rfl | exact RV.cell1 rfl) | exact resR3 Try.results43 (by first | exact RV.tmp rfl | exact RV.cell rfl rfl | exact RV.cell1 rfl) (by first | exact RV.tmp rfl | exact RV.cell rfl rfl | exact RV.cell1 rfl) (by first | exact RV.tmp rfl | exact RV.cell rfl rfl | exact RV.cell1 rfl)) ⟨_, _, rfl, rfl⟩ (by repeat (first | exact Takes.nil | apply Takes.dup rfl | apply Takes.cons | exact Take1.here | apply Take1.there)) (by repeat (first | exact Subs.refl | refine Subs.skip ?_))
  · repeat (first | refine GC.seq ?_ | refine GC.region ?_ | refine GC.skip ?_ | refine GE.then_normal ?_)
    refine G.lit rfl (by rfl) (by rfl) (by rfl) (by rfl) (by rfl) (by rfl) rfl (fun q => ?_)
    repeat (first | (apply G.ex (hd := rfl); case h => (first | exact Ex.move rfl)))
    refine G.app rfl rfl (by rfl) (by omega) rfl (rfl) (fun a2 c2 rs_ hrs_ => ?_)
    try simp only at hrs_
    subst hrs_
    simp only [Nat.zero_add, List.nil_append]
    repeat (first | (apply G.ex (hd := rfl); case h => (first | exact Ex.assign rfl)) | refine G.nil ?_ | refine GC.ret ?_ | refine GE.then_normal ?_)
    refine GE.ret (by first | exact .inl rfl | exact .inr rfl) (by first | exact res0 Try.results43 | exact res1 Try.results43 rfl | exact res2 Try.results43 rfl rfl | exact resR1 Try.results43 (by first | exact RV.tmp rfl | exact RV.cell rfl rfl | exact RV.cell1 rfl) | exact resR2 Try.results43 (by first | exact RV.tmp rfl | exact RV.cell rfl rfl | exact RV.cell1 rfl) (by first | exact RV.tmp rfl | exact RV.cell rfl rfl | exact RV.cell1 rfl) | exact resR3 Try.results43 (by first | exact RV.tmp rfl | exact RV.cell rfl rfl | exact RV.cell1 rfl) (by first | exact RV.tmp rfl | exact RV.cell rfl rfl | exact RV.cell1 rfl) (by first | exact RV.tmp rfl | exact RV.cell rfl rfl | exact RV.cell1 rfl)) ⟨_, _, rfl, rfl⟩ (by repeat (first | exact Takes.nil | apply Takes.dup rfl | apply Takes.cons | exact Take1.here | apply Take1.there)) (by repeat (first | exact Subs.refl | refine Subs.skip ?_))
theorem growR_sp (m : Nat) (hm : m ≤ 1000000) : Spec Try.prog 46 [.slice none 0 0, .int .i64 (m : Int)] [] fun v give => ∃ ao c, v = .slice ao 0 c ∧ give = [.vec 61 2 ao 0 c []] := by
  refine Spec.intro Try.func46 rfl Try.ntmps46 rfl fun w0 rest rs_ hrs_ => ?_
  simp only [List.cons_append, List.nil_append] at hrs_
  subst hrs_
  first | refine G.nilvec 61 2 ?_ | refine GC.nilvec 61 2 ?_
  by_cases h0 : m = 0
  · subst h0
    repeat (first | (apply G.ex (hd := rfl); case h => (first | exact Ex.move rfl | exact Ex.sub rfl rfl (by omega) | exact Ex.lss rfl rfl | exact Ex.gtr rfl rfl | exact Ex.lenSl rfl | exact Ex.assign rfl | exact Ex.capSl rfl)) | refine G.nil ?_ | refine GC.seq ?_ | refine GC.region ?_ | refine GC.skip ?_ | refine GC.ret ?_ | refine GE.then_normal ?_ | refine GC.cond_no rfl (by first | assumption | omega) ?_)
    refine GE.ret (by first | exact .inl rfl | exact .inr rfl) (by first | exact res0 Try.results46 | exact res1 Try.results46 rfl | exact res2 Try.results46 rfl rfl | exact resR1 Try.results46 (by first | exact RV.tmp rfl | exact RV.cell rfl rfl | exact RV.cell1 rfl) | exact resR2 Try.results46 (by first | exact RV.tmp rfl | exact RV.cell rfl rfl | exact RV.cell1 rfl) (by first | exact RV.tmp rfl | exact RV.cell rfl rfl | exact RV.cell1 rfl) | exact resR3 Try.results46 (by first | exact RV.tmp rfl | exact RV.cell rfl rfl | exact RV.cell1 rfl) (by first | exact RV.tmp rfl | exact RV.cell rfl rfl | exact RV.cell1 rfl) (by first | exact RV.tmp rfl | exact RV.cell rfl rfl | exact RV.cell1 rfl)) ⟨_, _, rfl, rfl⟩ (by repeat (first | exact Takes.nil | apply Takes.dup rfl | apply Takes.cons | exact Take1.here | apply Take1.there)) (by repeat (first | exact Subs.refl | refine Subs.skip ?_))
  · have e1 : (m : Int) - (((0 : Nat) : Int) - ((0 : Nat) : Int)) = (m : Int) := by omega
    repeat (first | (apply G.ex (hd := rfl); case h => (first | exact Ex.move rfl | exact Ex.sub rfl rfl (by omega) | exact Ex.lss rfl rfl | exact Ex.gtr rfl rfl | exact Ex.lenSl rfl | exact Ex.assign rfl | exact Ex.capSl rfl)) | refine G.nil ?_ | refine GC.seq ?_ | refine GC.region ?_ | refine GC.skip ?_ | refine GE.then_normal ?_ | refine GC.cond_yes rfl (by first | assumption | omega) ?_ | refine GC.cond_no rfl (by first | assumption | omega) ?_)
    rw [e1]
    repeat (first | fail)
    refine G.ex (Ex.subNil rfl (by first | exact .inl ⟨rfl, rfl⟩ | exact .inr ⟨_, _, rfl, ev_int rfl (by omega)⟩) (by first | exact .inl ⟨rfl, rfl⟩ | exact .inr ⟨_, _, rfl, ev_int rfl (by omega)⟩)) rfl ?_
    repeat (first | (apply G.ex (hd := rfl); case h => (first | exact Ex.move rfl)))
    refine G.appMake0 (m := m) rfl rfl (by omega) (by rfl) (by rfl) (by omega) (by rfl) rfl (fun a2 c2 => ?_)
    repeat (first | (apply G.ex (hd := rfl); case h => (first | exact Ex.move rfl | exact Ex.lenSl rfl)))
    refine G.subV (l := 0) (r := 0) rfl (by first | exact .inl ⟨rfl, rfl⟩ | exact .inr ⟨_, _, rfl, ev_int rfl (by omega)⟩) (by first | exact .inl ⟨rfl, rfl⟩ | exact .inr ⟨_, _, rfl, ev_int rfl (by omega)⟩) (by omega) rfl (rfl) (fun a3 rs_ hrs_ => ?_)
    try simp only at hrs_
    subst hrs_
    simp only [Nat.sub_zero, Nat.zero_mul, List.take_zero]
    repeat (first | (apply G.ex (hd := rfl); case h => (first | exact Ex.move rfl | exact Ex.assign rfl)) | refine G.nil ?_ | refine GC.seq ?_ | refine GC.region ?_ | refine GC.ret ?_ | refine GE.then_normal ?_)
    refine GE.ret (by first | exact .inl rfl | exact .inr rfl) (by first | exact res0 Try.results46 | exact res1 Try.results46 rfl | exact res2 Try.results46 rfl rfl | exact resR1 Try.results46 (by first | exact RV.tmp rfl | exact RV.cell rfl rfl | exact RV.cell1 rfl) | exact resR2 Try.results46 (by first | exact RV.tmp rfl | exact RV.cell rfl rfl | exact RV.cell1 rfl) (by first | exact RV.tmp rfl | exact RV.cell rfl rfl | exact RV.cell1 rfl) | exact resR3 Try.results46 (by first | exact RV.tmp rfl | exact RV.cell rfl rfl | exact RV.cell1 rfl) (by first | exact RV.tmp rfl | exact RV.cell rfl rfl | exact RV.cell1 rfl) (by first | exact RV.tmp rfl | exact RV.cell rfl rfl | exact RV.cell1 rfl)) ⟨_, _, rfl, rfl⟩ (by repeat (first | exact Takes.nil | apply Takes.dup rfl | apply Takes.cons | exact Take1.here | apply Take1.there)) (by repeat (first | exact Subs.refl | refine Subs.skip ?_))
def tot (l : List (SlD R)) : List R := l.flatMap (·.l)
theorem tot_snoc (l : List (SlD R)) (x : SlD R) : tot (l ++ [x]) = tot l ++ x.l := by simp [tot]
theorem tot_le (l : List (SlD R)) (k : Nat) : (tot (l.take k)).length ≤ (tot l).length := by
  conv => rhs; rw [← List.take_append_drop k l]
  simp only [tot, List.flatMap_append, List.length_append]
  omega
theorem getD_take {α : Type} [Inhabited α] (l : List α) (k : Nat) (h : k < l.length) : l.take (k + 1) = l.take k ++ [l.getD k default] := by
  rw [List.take_succ_eq_append_getElem h, List.getD_eq_getElem?_getD, List.getElem?_eq_getElem h]; rfl
theorem getD_mem' {α : Type} [Inhabited α] (l : List α) (k : Nat) (h : k < l.length) : l.getD k default ∈ l := by
  rw [List.getD_eq_getElem?_getD, List.getElem?_eq_getElem h]; exact List.getElem_mem h
set_option maxHeartbeats 1000000 in
theorem concatR_sp (so : Option Addr) (k sc : Nat) (l : List (SlD R)) (hl : l.length = k) (hk : k ≤ 100) (hn : ∀ x ∈ l, x.l.length = x.n) (ht : (tot l).length ≤ 1000000) :
    Spec Try.prog 45 [.slice so k sc] [.sl so k sc 1 (flat eS l), .per (Rd eR 2 l)] fun v give => ∃ ao c, v = .slice ao (tot l).length c ∧ give = [.vec 61 2 ao (tot l).length c (flat eR (tot l))] := by
  refine Spec.intro Try.func45 rfl Try.ntmps45 rfl fun w0 rest rs_ hrs_ => ?_
  simp only [List.cons_append, List.nil_append] at hrs_
  subst hrs_
  repeat (first | (apply G.ex (hd := rfl); case h => (first | exact Ex.move rfl | exact Ex.lenSl rfl | exact Ex.assign rfl)) | refine G.nil ?_ | refine GC.seq ?_ | refine GC.region ?_ | refine GC.block ?_ | refine GE.then_normal ?_)
  refine GC.loop (ι := Nat) (fun i => i ≤ k) (fun i => k - i) (fun i => [(0, .slice so k sc), (3, .int .i64 ((tot (l.take i)).length : Int)), (9, .slice so k sc), (10, .int .i64 (k : Int)), (11, .int .i64 (i : Int))]) (fun i => [.sl so k sc 1 (flat eS l), .per (Rd eR 2 l)]) 0 (Nat.zero_le _) (by simp only [fits]; repeat (first | exact trivial | refine And.intro rfl ?_)) (by repeat (first | exact Takes.nil | apply Takes.dup rfl | apply Takes.cons | exact Take1.here | apply Take1.there)) ?_
  rintro i hi fr_ rs_ hfr_ hrs_
  simp only [List.cons_append, List.nil_append] at hfr_ hrs_
  subst hfr_ hrs_
  have hle := tot_le l i
  repeat (first | (apply G.ex (hd := rfl); case h => (first | exact Ex.lss rfl rfl)) | refine G.nil ?_ | refine GC.seq ?_ | refine GC.region ?_ | refine GE.then_normal ?_)
  refine GC.cond_dec rfl (fun hlt => ?_) (fun hlt => ?_)
  · have hlt : i < k := by omega
    have hle2 := tot_le l (i + 1)
    have hxn := hn _ (getD_mem' l i (by omega))
    have htk : (tot (l.take (i + 1))).length = (tot (l.take i)).length + (l.getD i default).n := by rw [getD_take l i (by omega), tot_snoc, List.length_append, hxn]
    have htk2 : ((tot (l.take i)).length : Int) + ((l.getD i default).n : Int) = ((tot (l.take (i + 1))).length : Int) := by omega
    repeat (first | (apply G.ex (hd := rfl); case h => (first | exact Ex.move rfl | exact Ex.add rfl rfl (by omega) | exact Ex.lss rfl rfl | exact Ex.lenSl rfl | exact Ex.indexN rfl rfl (by first | omega | (simp; done) | (simp; omega)) | exact Ex.loadT0 rfl (by first | omega | (simp; done) | (simp; omega)) rfl | exact Ex.assign rfl)) | refine G.nil ?_ | refine GC.seq ?_ | refine GC.region ?_ | refine GC.block ?_ | refine GC.skip ?_ | refine GE.then_normal ?_ | refine GE.block_normal ?_ | refine GC.cond_no rfl (by first | assumption | omega) ?_)
    rw [htk2]
    repeat (first | fail)
    refine GE.loop (i + 1) (by omega) (by omega) (by simp only [fits]; repeat (first | exact trivial | refine And.intro rfl ?_)) (by repeat (first | exact Takes.nil | apply Takes.dup rfl | apply Takes.cons | exact Take1.here | apply Take1.there)) (by repeat (first | exact Subs.refl | refine Subs.skip ?_))
  · obtain rfl : i = k := by omega
    rw [List.take_of_length_le (by omega)]
    repeat (first | (apply G.ex (hd := rfl); case h => (first | exact Ex.move rfl)) | refine GC.seq ?_ | refine GC.region ?_ | refine GC.exit ?_ | refine GE.then_normal ?_ | refine GE.then_exit ?_ | refine GE.block_hit ?_)
    first | refine G.call (caps := []) (growR_sp (tot l).length ht) rfl rfl rfl rfl (by repeat (first | exact Takes.nil | apply Takes.dup rfl | apply Takes.cons | exact Take1.here | apply Take1.there)) ?_ | refine G.callU (caps := []) (growR_sp (tot l).length ht) rfl rfl rfl (by repeat (first | exact Takes.nil | apply Takes.dup rfl | apply Takes.cons | exact Take1.here | apply Take1.there)) ?_
    rintro v_ give_ ⟨ga, gc, rfl, rfl⟩ rs_ hrs_
    simp only [List.cons_append, List.nil_append] at hrs_
    subst hrs_
    repeat (first | (apply G.ex (hd := rfl); case h => (first | exact Ex.move rfl | exact Ex.lenSl rfl | exact Ex.assign rfl)) | refine G.nil ?_ | refine GC.seq ?_ | refine GC.region ?_ | refine GC.block ?_ | refine GE.then_normal ?_)
    refine GC.loop (ι := Nat × Option Addr × Nat) (fun j => j.1 ≤ i) (fun j => i - j.1) (fun j => [(6, .slice j.2.1 (tot (l.take j.1)).length j.2.2), (25, .slice so i sc), (26, .int .i64 (i : Int)), (27, .int .i64 (j.1 : Int))]) (fun j => [.vec 61 2 j.2.1 (tot (l.take j.1)).length j.2.2 (flat eR (tot (l.take j.1))), .sl so i sc 1 (flat eS l), .per (Rd eR 2 l)]) (0, ga, gc) (Nat.zero_le _) (by simp only [fits]; repeat (first | exact trivial | refine And.intro rfl ?_)) (by repeat (first | exact Takes.nil | apply Takes.dup rfl | apply Takes.cons | exact Take1.here | apply Take1.there)) ?_
    rintro ⟨j, ja, jc⟩ hj fr_ rs_ hfr_ hrs_
    simp only [List.cons_append, List.nil_append] at hfr_ hrs_
    subst hfr_ hrs_
    simp only at hj
    repeat (first | (apply G.ex (hd := rfl); case h => (first | exact Ex.lss rfl rfl)) | refine G.nil ?_ | refine GC.seq ?_ | refine GC.region ?_ | refine GE.then_normal ?_)
    refine GC.cond_dec rfl (fun hlt => ?_) (fun hlt => ?_)
    · have hlt : j < i := by omega
      have hle2 := tot_le l (j + 1)
      have hxn := hn _ (getD_mem' l j (by omega))
      have htk : tot (l.take (j + 1)) = tot (l.take j) ++ (l.getD j default).l := by rw [getD_take l j (by omega), tot_snoc]
      have htk2 : (tot (l.take (j + 1))).length = (tot (l.take j)).length + (l.getD j default).n := by rw [htk, List.length_append, hxn]
      refine GC.conv (fun w_ H_ => H_.rdAt (l := l) (enc := eR) (s := 2) (by simp) j (by omega)) ?_
      repeat (first | (apply G.ex (hd := rfl); case h => (first | exact Ex.move rfl | exact Ex.indexN rfl rfl (by first | omega | (simp; done) | (simp; omega)) | exact Ex.loadT0 rfl (by first | omega | (simp; done) | (simp; omega)) rfl | exact Ex.assign rfl)) | refine G.nil ?_ | refine GC.seq ?_ | refine GC.region ?_ | refine GC.block ?_ | refine GC.skip ?_ | refine GE.then_normal ?_)
      have hcat : flat eR (tot (l.take j)) ++ flat eR (l.getD j default).l = flat eR (tot (l.take (j + 1))) := by rw [htk, flat_append]
      refine G.app rfl rfl (by rfl) (by omega) rfl (hcat) (fun ka kc rs_ hrs_ => ?_)
      try simp only at hrs_
      subst hrs_
      rw [← htk2]
      repeat (first | (apply G.ex (hd := rfl); case h => (first | exact Ex.move rfl | exact Ex.add rfl rfl (by omega) | exact Ex.assign rfl)) | refine G.nil ?_ | refine GC.region ?_ | refine GE.then_normal ?_ | refine GE.block_normal ?_)
      refine GE.loop (j + 1, ka, kc) (by simp only; omega) (by simp only; omega) (by simp only [fits]; repeat (first | exact trivial | refine And.intro rfl ?_)) (by repeat (first | exact Takes.nil | apply Takes.dup rfl | apply Takes.cons | exact Take1.here | apply Take1.there)) (by repeat (first | exact Subs.refl | refine Subs.skip ?_))
    · obtain rfl : j = i := by omega
      rw [List.take_of_length_le (by omega)]
      repeat (first | (apply G.ex (hd := rfl); case h => (first | exact Ex.move rfl | exact Ex.assign rfl)) | refine G.nil ?_ | refine GC.seq ?_ | refine GC.region ?_ | refine GC.ret ?_ | refine GC.exit ?_ | refine GE.then_normal ?_ | refine GE.then_exit ?_ | refine GE.block_hit ?_)
      refine GE.ret (by first | exact .inl rfl | exact .inr rfl) (by first | exact res0 Try.results45 | exact res1 Try.results45 rfl | exact res2 Try.results45 rfl rfl | exact resR1 Try.results45 (by first | exact RV.tmp rfl | exact RV.cell rfl rfl | exact RV.cell1 rfl) | exact resR2 Try.results45 (by first | exact RV.tmp rfl | exact RV.cell rfl rfl | exact RV.cell1 rfl) (by first | exact RV.tmp rfl | exact RV.cell rfl rfl | exact RV.cell1 rfl) | exact resR3 Try.results45 (by first | exact RV.tmp rfl | exact RV.cell rfl rfl | exact RV.cell1 rfl) (by first | exact RV.tmp rfl | exact RV.cell rfl rfl | exact RV.cell1 rfl) (by first | exact RV.tmp rfl | exact RV.cell rfl rfl | exact RV.cell1 rfl)) ⟨_, _, rfl, rfl⟩ (by repeat (first | exact Takes.nil | apply Takes.dup rfl | apply Takes.cons | exact Take1.here | apply Take1.there)) (by repeat (first | exact Subs.refl | refine Subs.skip ?_))
theorem may_sp (r : Res) (d : Int) (ao : Option Addr) (n c : Nat) (l : List R) [hr : RdR r ao n c 2 (flat eR l)] (hl : l.length = n) (hm : May d l) :
    Spec Try.prog 34 [.int .i64 d, .slice ao n c] [r] fun v give => v = .bool true ∧ give = [r] := by
  have hdl := chain_le l d hm.ch
  obtain ⟨m1, m2, m3, m4⟩ := hm
  refine Spec.intro Try.func34 rfl Try.ntmps34 rfl fun w0 rest rs_ hrs_ => ?_
  simp only [List.cons_append, List.nil_append] at hrs_
  subst hrs_
  repeat (first | (apply G.ex (hd := rfl); case h => (first | exact Ex.move rfl | exact Ex.lenSl rfl | exact Ex.assign rfl)) | refine G.nil ?_ | refine GC.seq ?_ | refine GC.region ?_ | refine GC.block ?_ | refine GE.then_normal ?_)
  refine GC.loop (ι := Nat) (fun i => i ≤ n) (fun i => n - i) (fun i => [(0, .int .i64 d), (1, .slice ao n c), (5, .int .i64 (last d (l.take i))), (9, .slice ao n c), (10, .int .i64 (n : Int)), (11, .int .i64 (i : Int))]) (fun i => [r]) 0 (Nat.zero_le _) (by simp only [fits]; repeat (first | exact trivial | refine And.intro rfl ?_)) (by repeat (first | exact Takes.nil | apply Takes.dup rfl | apply Takes.cons | exact Take1.here | apply Take1.there)) ?_
  rintro i hi fr_ rs_ hfr_ hrs_
  simp only [List.cons_append, List.nil_append] at hfr_ hrs_
  subst hfr_ hrs_
  repeat (first | (apply G.ex (hd := rfl); case h => (first | exact Ex.lss rfl rfl)) | refine G.nil ?_ | refine GC.seq ?_ | refine GC.region ?_ | refine GE.then_normal ?_)
  refine GC.cond_dec rfl (fun hlt => ?_) (fun hlt => ?_)
  · have hlt : i < n := by omega
    obtain ⟨c1, c2, c3⟩ := chain_at m2 i (by omega)
    repeat (first | (apply G.ex (hd := rfl); case h => (first | exact Ex.indexN rfl rfl (by first | omega | (simp; done) | (simp; omega)) | exact Ex.loadTA rfl (by first | omega | (simp; done) | (simp; omega)))) | refine GC.seq ?_ | refine GC.region ?_ | refine GC.block ?_ | refine GC.skip ?_ | refine GE.then_normal ?_)
    refine G.alloc rfl (fun b => ?_)
    repeat (first | refine G.storeBA rfl rfl rfl rfl rfl ?_ | (apply G.ex (hd := rfl); case h => (first | exact Ex.move rfl | exact Ex.fieldB rfl | exact Ex.loadB rfl rfl | exact Ex.add rfl rfl (by omega) | exact Ex.leq rfl rfl | exact Ex.geq rfl rfl | exact Ex.assign rfl | exact Ex.pickF rfl (by first | assumption | omega) rfl)) | refine G.g_ff rfl rfl (by first | assumption | omega) ?_ | refine G.nil ?_ | refine GC.seq ?_ | refine GC.region ?_ | refine GC.skip ?_ | refine GE.then_normal ?_ | refine GE.block_normal ?_ | refine GC.cond_no rfl (by first | assumption | omega) ?_)
    rw [← c3]
    refine GE.loop (i + 1) (by omega) (by omega) (by simp only [fits]; repeat (first | exact trivial | refine And.intro rfl ?_)) (by repeat (first | exact Takes.nil | apply Takes.dup rfl | apply Takes.cons | exact Take1.here | apply Take1.there)) (by repeat (first | exact Subs.refl | refine Subs.skip ?_))
  · obtain rfl : i = n := by omega
    rw [List.take_of_length_le (by omega)]
    repeat (first | (apply G.ex (hd := rfl); case h => (first | exact Ex.move rfl | exact Ex.leq rfl rfl | exact Ex.geq rfl rfl | exact Ex.lenSl rfl | exact Ex.assign rfl | exact Ex.pickT rfl (by first | assumption | omega) rfl)) | refine G.g_tt rfl rfl (by first | assumption | omega) ?_ | refine G.nil ?_ | refine GC.seq ?_ | refine GC.region ?_ | refine GC.ret ?_ | refine GC.exit ?_ | refine GE.then_normal ?_ | refine GE.then_exit ?_ | refine GE.block_hit ?_)
    refine GE.ret (by first | exact .inl rfl | exact .inr rfl) (by first | exact res0 Try.results34 | exact res1 Try.results34 rfl | exact res2 Try.results34 rfl rfl | exact resR1 Try.results34 (by first | exact RV.tmp rfl | exact RV.cell rfl rfl | exact RV.cell1 rfl) | exact resR2 Try.results34 (by first | exact RV.tmp rfl | exact RV.cell rfl rfl | exact RV.cell1 rfl) (by first | exact RV.tmp rfl | exact RV.cell rfl rfl | exact RV.cell1 rfl) | exact resR3 Try.results34 (by first | exact RV.tmp rfl | exact RV.cell rfl rfl | exact RV.cell1 rfl) (by first | exact RV.tmp rfl | exact RV.cell rfl rfl | exact RV.cell1 rfl) (by first | exact RV.tmp rfl | exact RV.cell rfl rfl | exact RV.cell1 rfl)) ⟨congrArg Value.bool (decide_eq_true (by omega)), rfl⟩ (by repeat (first | exact Takes.nil | apply Takes.dup rfl | apply Takes.cons | exact Take1.here | apply Take1.there)) (by repeat (first | exact Subs.refl | refine Subs.skip ?_))
end hole
end Go.Proofs.Ytomibkfpeiceoaa
