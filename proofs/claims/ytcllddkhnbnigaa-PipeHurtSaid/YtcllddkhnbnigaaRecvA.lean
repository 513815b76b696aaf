/-
  CONTRACTS of who hears: its small functions, by the kit.
-/
import Derived.Test.YtcllddkhnbnigaaPlainM
import Derived.Test.YtcllddkhnbnigaaSacks
namespace Go.Proofs.Ytcllddkhnbnigaa
open Go.RowKit
attribute [local irreducible] Ex G GC GE Gq FPost LPost
set_option linter.unusedVariables false
set_option linter.unusedSimpArgs false
namespace recv
open hole
theorem cloneB_sp (r : Res) (ao : Option Addr) (n c : Nat) (l : List UInt8) [hr : RdR r ao n c 1 (flat eB l)] (hl : l.length = n) (hn : n ≤ 140737488351232) :
    Spec Try.prog 44 [.slice ao n c] [r] fun v give => ∃ ao' c', v = .slice ao' n c' ∧ give = [.vec 5 1 ao' n c' (flat eB l), r] := by
  refine Spec.intro Try.func44 rfl Try.ntmps44 rfl fun w0 rest rs_ hrs_ => ?_
  simp only [List.cons_append, List.nil_append] at hrs_
  subst hrs_
  repeat (first | (apply G.ex (hd := rfl); case h => (first | exact Ex.move rfl | exact Ex.assign rfl | exact Ex.eqNil rfl rfl)) | refine G.nil ?_ | refine GC.seq ?_ | refine GC.region ?_ | refine GE.then_normal ?_)
  refine GC.cond_dec rfl (fun h => ?_) (fun h => ?_)
  · subst h
    refine GC.nilLen (m := n) (c := c) fun h1 h2 h3 => ?_
    subst h1 h2
    rw [h3]
    first | refine G.nilvec 5 1 ?_ | refine GC.nilvec 5 1 ?_
    repeat (first | (apply G.ex (hd := rfl); case h => (first | exact Ex.assign rfl)) | refine G.nil ?_ | refine GC.seq ?_ | refine GC.region ?_ | refine GC.ret ?_ | refine GE.then_normal ?_ | refine GE.then_ret ?_)
    refine GE.ret (by first | exact .inl rfl | exact .inr rfl) (res1 Try.results44 rfl) ⟨_, _, rfl, rfl⟩ (by repeat first | exact tn_ | apply td_ rfl | apply tc_ | exact .here | apply Take1.there) (by repeat (first | exact Subs.refl | refine Subs.skip ?_))
  · repeat (first | refine GC.seq ?_ | refine GC.region ?_ | refine GC.skip ?_ | refine GE.then_normal ?_)
    refine G.lit rfl (by rfl) (by rfl) (by rfl) (by rfl) (by rfl) (by rfl) rfl (fun q => ?_)
    repeat (first | (apply G.ex (hd := rfl); case h => (first | exact Ex.move rfl)))
    refine G.app rfl rfl (by rfl) (by omega) rfl (rfl) (fun a2 c2 rs_ hrs_ => ?_)
    try simp only at hrs_
    subst hrs_
    simp only [Nat.zero_add, List.nil_append]
    repeat (first | (apply G.ex (hd := rfl); case h => (first | exact Ex.assign rfl)) | refine G.nil ?_ | refine GC.ret ?_ | refine GE.then_normal ?_)
    refine GE.ret (by first | exact .inl rfl | exact .inr rfl) (res1 Try.results44 rfl) ⟨_, _, rfl, rfl⟩ (by repeat first | exact tn_ | apply td_ rfl | apply tc_ | exact .here | apply Take1.there) (by repeat (first | exact Subs.refl | refine Subs.skip ?_))
theorem keep1_sp (fb ib : Nat) (f i : Nat) (hf : f + i ≤ 1000000) (y : R) : Spec Try.prog 74 [.agg (eR y).toArray, .pointer (some (badr fb 0)), .pointer (some (badr ib 0))] [.blk fb 3 [.int .i64 (f : Int)], .blk ib 3 [.int .i64 (i : Int)]] fun v give => v = .bool (inx ((f + i : Nat) : Int) y) ∧ give = [.blk fb 3 [.int .i64 (f : Int)], .blk ib 3 [.int .i64 (i : Int)]] := by
  refine Spec.intro Try.func74 rfl Try.ntmps74 rfl fun w0 rest rs_ hrs_ => ?_
  simp only [List.cons_append, List.nil_append] at hrs_
  subst hrs_
  repeat (first | refine GC.seq ?_ | refine GC.region ?_)
  refine G.box rfl rfl rfl (fun rb => ?_)
  by_cases h1 : y.1 ≤ (f : Int) + (i : Int)
  · repeat (first | (apply G.ex (hd := rfl); case h => (first | exact Ex.move rfl | exact Ex.fieldB rfl | exact Ex.loadB rfl rfl | exact Ex.add rfl rfl (by omega) | exact Ex.lss rfl rfl | exact Ex.leq rfl rfl | exact Ex.assign rfl | exact Ex.pickT rfl (by first | assumption | omega) rfl)) | refine G.g_tt rfl rfl (by first | assumption | omega) ?_ | refine G.nil ?_ | refine GC.seq ?_ | refine GC.region ?_ | refine GC.ret ?_ | refine GE.then_normal ?_)
    refine GE.ret (by first | exact .inl rfl | exact .inr rfl) (res1 Try.results74 rfl) ⟨by unfold inx; rw [decide_eq_true (by omega : y.1 ≤ ((f + i : Nat) : Int)), Bool.true_and]; simp, rfl⟩ (by repeat first | exact tn_ | apply td_ rfl | apply tc_ | exact .here | apply Take1.there) (by repeat (first | exact Subs.refl | refine Subs.skip ?_))
  · repeat (first | (apply G.ex (hd := rfl); case h => (first | exact Ex.move rfl | exact Ex.fieldB rfl | exact Ex.loadB rfl rfl | exact Ex.add rfl rfl (by omega) | exact Ex.leq rfl rfl | exact Ex.assign rfl | exact Ex.pickF rfl (by first | assumption | omega) rfl)) | refine G.g_tf rfl rfl (by first | assumption | omega) rfl ?_ | refine G.nil ?_ | refine GC.seq ?_ | refine GC.region ?_ | refine GC.ret ?_ | refine GE.then_normal ?_)
    refine GE.ret (by first | exact .inl rfl | exact .inr rfl) (res1 Try.results74 rfl) ⟨by unfold inx; rw [decide_eq_false (by omega : ¬ y.1 ≤ ((f + i : Nat) : Int)), Bool.false_and], rfl⟩ (by repeat first | exact tn_ | apply td_ rfl | apply tc_ | exact .here | apply Take1.there) (by repeat (first | exact Subs.refl | refine Subs.skip ?_))
set_option maxHeartbeats 1000000 in
theorem indexR_sp (r : Res) (ao : Option Addr) (n c : Nat) (l : List R) [hr : RdR r ao n c 2 (flat eR l)] (hl : l.length = n) (hn : n ≤ 1000000) (caps : List Value) (need : List Res) (p : R → Bool) (fb ib : Nat) (f i : Nat) (hf : f + i ≤ 1000000) :
    Spec Try.prog 62 [.slice ao n c, .func (.func 74) #[] #[.pointer (some (badr fb 0)), .pointer (some (badr ib 0))]] [r, .blk fb 3 [.int .i64 (f : Int)], .blk ib 3 [.int .i64 (i : Int)]] fun v give => ∃ j : Int, (0 ≤ j ↔ innB l ((f + i : Nat) : Int) = true) ∧ v = .int .i64 j ∧ give = [r, .blk fb 3 [.int .i64 (f : Int)], .blk ib 3 [.int .i64 (i : Int)]] := by
  refine Spec.intro Try.func62 rfl Try.ntmps62 rfl fun w0 rest rs_ hrs_ => ?_
  simp only [List.cons_append, List.nil_append] at hrs_
  subst hrs_
  repeat (first | (apply G.ex (hd := rfl); case h => (first | exact Ex.move rfl | exact Ex.lenSl rfl | exact Ex.assign rfl)) | refine G.nil ?_ | refine GC.seq ?_ | refine GC.region ?_ | refine GC.block ?_ | refine GE.then_normal ?_)
  refine GC.loop (ι := Nat) (fun k => k ≤ n ∧ innB (l.take k) ((f + i : Nat) : Int) = false) (fun k => n - k) (fun k => [(0, .slice ao n c), (1, .func (.func 74) #[] #[.pointer (some (badr fb 0)), .pointer (some (badr ib 0))]), (7, .int .i64 (n : Int)), (8, .int .i64 (k : Int))]) (fun _ => [r, .blk fb 3 [.int .i64 (f : Int)], .blk ib 3 [.int .i64 (i : Int)]]) 0 ⟨Nat.zero_le _, rfl⟩ (by simp only [fits]; repeat (first | exact trivial | refine And.intro rfl ?_)) (by repeat first | exact tn_ | apply td_ rfl | apply tc_ | exact .here | apply Take1.there) ?_
  rintro k ⟨hk, hno⟩ fr_ rs_ hfr_ hrs_
  simp only [List.cons_append, List.nil_append] at hfr_ hrs_
  subst hfr_ hrs_
  repeat (first | (apply G.ex (hd := rfl); case h => (first | exact Ex.lss rfl rfl)) | refine G.nil ?_ | refine GC.seq ?_ | refine GC.region ?_ | refine GE.then_normal ?_)
  refine GC.cond_dec rfl (fun hlt => ?_) (fun hlt => ?_)
  · have hlt : k < n := by omega
    have htk : innB (l.take (k + 1)) ((f + i : Nat) : Int) = inx ((f + i : Nat) : Int) (l.getD k default) := by
      unfold innB at hno ⊢
      rw [List.take_succ_eq_append_getElem (by omega), List.any_append, hno, Bool.false_or, getD_eq' l k (by omega)]
      simp
    repeat (first | (apply G.ex (hd := rfl); case h => (first | exact Ex.move rfl | exact Ex.indexN rfl rfl (by first | omega | (simp; done) | (simp; omega)) | exact Ex.assign rfl | exact Ex.loadTA rfl (by first | omega | (simp; done) | (simp; omega)))) | refine G.nil ?_ | refine GC.seq ?_ | refine GC.region ?_ | refine GC.block ?_ | refine GC.skip ?_ | refine GE.then_normal ?_)
    first | refine G.call (keep1_sp fb ib f i hf (l.getD k default)) rfl rfl rfl rfl (by repeat first | exact tn_ | apply td_ rfl | apply tc_ | exact .here | apply Take1.there) ?_ | refine G.callU (keep1_sp fb ib f i hf (l.getD k default)) rfl rfl rfl (by repeat first | exact tn_ | apply td_ rfl | apply tc_ | exact .here | apply Take1.there) ?_
    rintro v_ give_ ⟨rfl, rfl⟩ rs_ hrs_
    simp only [List.cons_append, List.nil_append] at hrs_
    subst hrs_
    cases hx : inx ((f + i : Nat) : Int) (l.getD k default) with
    | true =>
      repeat (first | (apply G.ex (hd := rfl); case h => (first | exact Ex.move rfl | exact Ex.assign rfl)) | refine G.nil ?_ | refine GC.seq ?_ | refine GC.region ?_ | refine GC.ret ?_ | refine GE.then_normal ?_ | refine GE.then_ret ?_ | refine GE.block_ret ?_ | refine GC.cond_t rfl ?_)
      refine GE.ret (by first | exact .inl rfl | exact .inr rfl) (res1 Try.results62 rfl) ⟨(k : Int), ⟨fun _ => by unfold innB; rw [List.any_eq_true]; exact ⟨l.getD k default, by rw [getD_eq' l k (by omega)]; exact List.getElem_mem _, hx⟩, fun _ => by omega⟩, rfl, rfl⟩ (by repeat first | exact tn_ | apply td_ rfl | apply tc_ | exact .here | apply Take1.there) (by repeat (first | exact Subs.refl | refine Subs.skip ?_))
    | false =>
      repeat (first | (apply G.ex (hd := rfl); case h => (first | exact Ex.move rfl | exact Ex.add rfl rfl (by omega))) | refine G.nil ?_ | refine GC.region ?_ | refine GC.skip ?_ | refine GE.then_normal ?_ | refine GE.block_normal ?_ | refine GC.cond_f rfl ?_)
      rw [show (k : Int) + 1 = ((k + 1 : Nat) : Int) by omega]
      refine GE.loop (k + 1) ⟨by omega, by rw [htk, hx]⟩ (by omega) (by simp only [fits]; repeat (first | exact trivial | refine And.intro rfl ?_)) (by repeat first | exact tn_ | apply td_ rfl | apply tc_ | exact .here | apply Take1.there) (by repeat (first | exact Subs.refl | refine Subs.skip ?_))
  · obtain rfl : k = n := by omega
    rw [List.take_of_length_le (by omega)] at hno
    repeat (first | (apply G.ex (hd := rfl); case h => (first | exact Ex.assign rfl)) | refine G.nil ?_ | refine GC.seq ?_ | refine GC.region ?_ | refine GC.ret ?_ | refine GC.exit ?_ | refine GE.then_normal ?_ | refine GE.then_exit ?_ | refine GE.block_hit ?_)
    refine GE.ret (by first | exact .inl rfl | exact .inr rfl) (res1 Try.results62 rfl) ⟨-1, ⟨fun h => by omega, fun h => by rw [hno] at h; exact nomatch h⟩, rfl, rfl⟩ (by repeat first | exact tn_ | apply td_ rfl | apply tc_ | exact .here | apply Take1.there) (by repeat (first | exact Subs.refl | refine Subs.skip ?_))
theorem containsR_sp (r : Res) (ao : Option Addr) (n c : Nat) (l : List R) [hr : RdR r ao n c 2 (flat eR l)] (hl : l.length = n) (hn : n ≤ 1000000) (fb ib : Nat) (f i : Nat) (hf : f + i ≤ 1000000) :
    Spec Try.prog 46 [.slice ao n c, .func (.func 74) #[] #[.pointer (some (badr fb 0)), .pointer (some (badr ib 0))]] [r, .blk fb 3 [.int .i64 (f : Int)], .blk ib 3 [.int .i64 (i : Int)]] fun v give => v = .bool (innB l ((f + i : Nat) : Int)) ∧ give = [r, .blk fb 3 [.int .i64 (f : Int)], .blk ib 3 [.int .i64 (i : Int)]] := by
  refine Spec.intro Try.func46 rfl Try.ntmps46 rfl fun w0 rest rs_ hrs_ => ?_
  simp only [List.cons_append, List.nil_append] at hrs_
  subst hrs_
  repeat (first | (apply G.ex (hd := rfl); case h => (first | exact Ex.move rfl | exact Ex.assign rfl)) | refine G.nil ?_ | refine GC.seq ?_ | refine GC.region ?_ | refine GE.then_normal ?_)
  first | refine G.call (caps := []) (indexR_sp r ao n c l hl hn [] [] (fun _ => true) fb ib f i hf) rfl rfl rfl rfl (by repeat first | exact tn_ | apply td_ rfl | apply tc_ | exact .here | apply Take1.there) ?_ | refine G.callU (caps := []) (indexR_sp r ao n c l hl hn [] [] (fun _ => true) fb ib f i hf) rfl rfl rfl (by repeat first | exact tn_ | apply td_ rfl | apply tc_ | exact .here | apply Take1.there) ?_
  rintro v_ give_ ⟨j, hj, rfl, rfl⟩ rs_ hrs_
  simp only [List.cons_append, List.nil_append] at hrs_
  subst hrs_
  repeat (first | (apply G.ex (hd := rfl); case h => (first | exact Ex.geq rfl rfl | exact Ex.assign rfl)) | refine G.nil ?_ | refine GC.ret ?_ | refine GE.then_normal ?_)
  refine GE.ret (by first | exact .inl rfl | exact .inr rfl) (res1 Try.results46 rfl) ⟨by congr 1; rw [Bool.eq_iff_iff, decide_eq_true_iff]; exact hj, rfl⟩ (by repeat first | exact tn_ | apply td_ rfl | apply tc_ | exact .here | apply Take1.there) (by repeat (first | exact Subs.refl | refine Subs.skip ?_))
end recv
end Go.Proofs.Ytcllddkhnbnigaa
