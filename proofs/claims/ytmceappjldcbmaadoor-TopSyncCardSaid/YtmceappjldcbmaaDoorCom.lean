/-
  CONTRACTS of packthreadkeep.Picked, Octets, sameBytes and slices.Clone, by the kit.
-/
import Derived.Test.YtmceappjldcbmaaDoorKitN1
import Derived.Test.YtmceappjldcbmaaDoorTypes
import Derived.Test.YtmceappjldcbmaaDoorPicked
namespace Go.Proofs.YtmceappjldcbmaaDoor
open Go.RowKit
attribute [local irreducible] Ex G GC GE Gq FPost LPost
set_option linter.unusedVariables false
set_option linter.unusedSimpArgs false
instance : Inhabited UInt8 := ⟨0⟩

theorem picked_sp (a m : Int) (hm : 0 < m) (hb : m ≤ 4611686018427387904) : Spec Tryd.prog 9 [.int .i64 a, .int .i64 m] [] fun v give => v = .int .i64 (a % m) ∧ give = [] := by
  by_cases h0 : 0 ≤ a
  · have h1 := Int.emod_nonneg a (show m ≠ 0 by omega)
    refine Spec.intro Tryd.func9 rfl Tryd.ntmps9 rfl fun w0 rest rs_ hrs_ => ?_
    simp only [List.cons_append, List.nil_append] at hrs_
    subst hrs_
    repeat (first | (apply G.ex (hd := rfl); case h => (first | exact Ex.move rfl | exact Ex.lss rfl rfl | exact Ex.assign rfl | exact Ex.rem rfl rfl (by omega))) | refine G.nil ?_ | refine GC.seq ?_ | refine GC.region ?_ | refine GC.skip ?_ | refine GC.ret ?_ | refine GE.then_normal ?_ | refine GC.cond_no rfl (by first | assumption | omega) ?_)
    refine GE.ret (by first | exact .inl rfl | exact .inr rfl) (res1 Tryd.results9 rfl) ⟨rfl, rfl⟩ (by repeat first | exact tn_ | apply td_ rfl | apply tc_ | exact .here | apply Take1.there) (by repeat (first | exact Subs.refl | refine Subs.skip ?_))
  · obtain ⟨t1, t2, t3, t4⟩ := tmod_bd a m hm (by omega)
    refine Spec.intro Tryd.func9 rfl Tryd.ntmps9 rfl fun w0 rest rs_ hrs_ => ?_
    simp only [List.cons_append, List.nil_append] at hrs_
    subst hrs_
    repeat (first | (apply G.ex (hd := rfl); case h => (first | exact Ex.move rfl | exact Ex.lss rfl rfl | exact Ex.assign rfl | exact Ex.remt rfl rfl (by omega))) | refine G.nil ?_ | refine GC.seq ?_ | refine GC.region ?_ | refine GE.then_normal ?_)
    refine GC.cond_dec rfl (fun h => ?_) (fun h => ?_)
    · rw [t3 h]
      repeat (first | (apply G.ex (hd := rfl); case h => (first | exact Ex.move rfl | exact Ex.add rfl rfl (by omega) | exact Ex.assign rfl)) | refine G.nil ?_ | refine GC.seq ?_ | refine GC.region ?_ | refine GC.ret ?_ | refine GE.then_normal ?_ | refine GE.then_ret ?_)
      refine GE.ret (by first | exact .inl rfl | exact .inr rfl) (res1 Tryd.results9 rfl) ⟨rfl, rfl⟩ (by repeat first | exact tn_ | apply td_ rfl | apply tc_ | exact .here | apply Take1.there) (by repeat (first | exact Subs.refl | refine Subs.skip ?_))
    · rw [t4 h]
      repeat (first | (apply G.ex (hd := rfl); case h => (first | exact Ex.move rfl | exact Ex.assign rfl)) | refine G.nil ?_ | refine GC.seq ?_ | refine GC.region ?_ | refine GC.skip ?_ | refine GC.ret ?_ | refine GE.then_normal ?_)
      refine GE.ret (by first | exact .inl rfl | exact .inr rfl) (res1 Tryd.results9 rfl) ⟨rfl, rfl⟩ (by repeat first | exact tn_ | apply td_ rfl | apply tc_ | exact .here | apply Take1.there) (by repeat (first | exact Subs.refl | refine Subs.skip ?_))
theorem octets_sp (ao : Option Addr) (n c : Nat) (l : List UInt8) (hl : l.length = n) (hn : n ≤ 9223372036854775807) (k : Nat) (hk : k ≤ 1000000) :
    Spec Tryd.prog 11 [.slice ao n c, .int .i64 (k : Int)] [.sl ao n c 1 (flat eB l)] fun v give => ∃ ao' c', v = .slice ao' (min n k) c' ∧ give = [.vec 5 1 ao' (min n k) c' (flat eB (l.take k))] := by
  refine Spec.intro Tryd.func11 rfl Tryd.ntmps11 rfl fun w0 rest rs_ hrs_ => ?_
  simp only [List.cons_append, List.nil_append] at hrs_
  subst hrs_
  repeat (first | (apply G.ex (hd := rfl); case h => (first | exact Ex.move rfl | exact Ex.lenSl rfl | exact Ex.assign rfl | exact Ex.min rfl rfl)) | refine G.nil ?_ | refine GC.seq ?_ | refine GC.region ?_ | refine GE.then_normal ?_)
  refine G.sub (l := 0) (r := (min n k)) rfl rfl (by first | exact .inl ⟨rfl, rfl⟩ | exact .inr ⟨_, _, rfl, ev_int rfl (by omega)⟩) (by first | exact .inl ⟨rfl, rfl⟩ | exact .inr ⟨_, _, rfl, ev_int rfl (by omega)⟩) (by omega) rfl (rfl) (fun a1 => ?_)
  have e : (((flat eB l).drop (0 * 1)).take ((min n k - 0) * 1)) = flat eB (l.take k) := by
    have := flat_take (enc := eB) (s := 1) inferInstance l (min n k)
    simp only [Nat.zero_mul, List.drop_zero, Nat.sub_zero]
    rw [this]
    by_cases h : n ≤ k
    · rw [Nat.min_eq_left h, List.take_of_length_le (by omega), List.take_of_length_le (by omega)]
    · rw [Nat.min_eq_right (by omega)]
  rw [e]
  simp only [Nat.sub_zero]
  refine G.appNil rfl rfl (by rfl) (by omega) rfl (rfl) (fun a2 c2 => ?_)
  repeat (first | (apply G.ex (hd := rfl); case h => (first | exact Ex.assign rfl)) | refine G.nil ?_ | refine GC.ret ?_ | refine GE.then_normal ?_)
  refine GE.ret (by first | exact .inl rfl | exact .inr rfl) (res1 Tryd.results11 rfl) ⟨_, _, rfl, rfl⟩ (by repeat first | exact tn_ | apply td_ rfl | apply tc_ | exact .here | apply Take1.there) (by repeat (first | exact Subs.refl | refine Subs.skip ?_))
theorem cloneB_sp (r : Res) (ao : Option Addr) (n c : Nat) (l : List UInt8) [hr : RdR r ao n c 1 (flat eB l)] (hl : l.length = n) (hn : n ≤ 1000000) :
    Spec Tryd.prog 23 [.slice ao n c] [r] fun v give => ∃ ao' c', v = .slice ao' n c' ∧ give = [.vec 5 1 ao' n c' (flat eB l), r] := by
  refine Spec.intro Tryd.func23 rfl Tryd.ntmps23 rfl fun w0 rest rs_ hrs_ => ?_
  simp only [List.cons_append, List.nil_append] at hrs_
  subst hrs_
  repeat (first | (apply G.ex (hd := rfl); case h => (first | exact Ex.move rfl | exact Ex.assign rfl | exact Ex.eqNil rfl rfl)) | refine G.nil ?_ | refine GC.seq ?_ | refine GC.region ?_ | refine GE.then_normal ?_)
  refine GC.cond_dec rfl (fun h => ?_) (fun h => ?_)
  · subst h
    refine GC.nilLen (m := n) (c := c) fun h1 h2 h3 => ?_
    subst h1 h2
    rw [h3]
    first | refine G.nilvec 5 1 ?_ | refine GC.nilvec 5 1 ?_
    repeat (first | (apply G.ex (hd := rfl); case h => (first | exact Ex.assign rfl)) | refine G.nil ?_ | refine GC.seq ?_ | refine GC.region ?_ | refine GC.ret ?_ | refine GE.then_normal ?_ | refine GE.then_ret ?_)
    refine GE.ret (by first | exact .inl rfl | exact .inr rfl) (res1 Tryd.results23 rfl) ⟨_, _, rfl, rfl⟩ (by repeat first | exact tn_ | apply td_ rfl | apply tc_ | exact .here | apply Take1.there) (by repeat (first | exact Subs.refl | refine Subs.skip ?_))
  · repeat (first | refine GC.seq ?_ | refine GC.region ?_ | refine GC.skip ?_ | refine GE.then_normal ?_)
    refine G.lit rfl (by rfl) (by rfl) (by rfl) (by rfl) (by rfl) (by rfl) rfl (fun q => ?_)
    repeat (first | (apply G.ex (hd := rfl); case h => (first | exact Ex.move rfl)))
    refine G.app rfl rfl (by rfl) (by omega) rfl (rfl) (fun a2 c2 rs_ hrs_ => ?_)
    try simp only at hrs_
    subst hrs_
    simp only [Nat.zero_add, List.nil_append]
    repeat (first | (apply G.ex (hd := rfl); case h => (first | exact Ex.assign rfl)) | refine G.nil ?_ | refine GC.ret ?_ | refine GE.then_normal ?_)
    refine GE.ret (by first | exact .inl rfl | exact .inr rfl) (res1 Tryd.results23 rfl) ⟨_, _, rfl, rfl⟩ (by repeat first | exact tn_ | apply td_ rfl | apply tc_ | exact .here | apply Take1.there) (by repeat (first | exact Subs.refl | refine Subs.skip ?_))
end Go.Proofs.YtmceappjldcbmaaDoor
