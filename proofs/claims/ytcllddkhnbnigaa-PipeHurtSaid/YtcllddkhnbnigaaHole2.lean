/-
  CONTRACTS of hole.merged and Add, by the kit.
-/
import Derived.Test.YtcllddkhnbnigaaHole
namespace Go.Proofs.Ytcllddkhnbnigaa
open Go.RowKit
attribute [local irreducible] Ex G GC GE Gq FPost LPost
set_option linter.unusedVariables false
set_option linter.unusedSimpArgs false

namespace hole
theorem len_step (s : List R × R × List R) (x : R) : (step s x).1.length + (step s x).2.2.length ≤ s.1.length + s.2.2.length + 1 := by
  unfold step
  split
  · simp only [List.length_append, List.length_cons, List.length_nil]; omega
  · split
    · simp only [List.length_append, List.length_cons, List.length_nil]; omega
    · simp only; omega
theorem len_fold (r : R) (l : List R) : ∀ k, k ≤ l.length → ((l.take k).foldl step ([], r, [])).1.length + ((l.take k).foldl step ([], r, [])).2.2.length ≤ k
  | 0, _ => by simp
  | k + 1, h => by
    rw [getD_take l k (by omega), List.foldl_append]
    have := len_fold r l k (by omega)
    have := len_step ((l.take k).foldl step ([], r, [])) (l.getD k default)
    show ((step _ _).1.length + (step _ _).2.2.length) ≤ _
    omega
set_option maxHeartbeats 4000000 in
theorem merged_sp (d : Int) (ao : Option Addr) (n c : Nat) (l : List R) (r1 r2 : Int) (hl : l.length = n) (hn : n ≤ 16) :
    Spec Try.prog 64 [.int .i64 d, .slice ao n c, .agg (eR (r1, r2)).toArray] [.sl ao n c 2 (flat eR l)]
      fun v give => ∃ ao' c', v = .tuple #[.int .i64 (if (merge (r1, r2) l).2.1.1 ≤ d then max d (merge (r1, r2) l).2.1.2 else d), .slice ao' (if (merge (r1, r2) l).2.1.1 ≤ d then (merge (r1, r2) l).2.2 else (merge (r1, r2) l).1 ++ [(merge (r1, r2) l).2.1] ++ (merge (r1, r2) l).2.2).length c'] ∧
        give = [.sl ao' (if (merge (r1, r2) l).2.1.1 ≤ d then (merge (r1, r2) l).2.2 else (merge (r1, r2) l).1 ++ [(merge (r1, r2) l).2.1] ++ (merge (r1, r2) l).2.2).length c' 2 (flat eR (if (merge (r1, r2) l).2.1.1 ≤ d then (merge (r1, r2) l).2.2 else (merge (r1, r2) l).1 ++ [(merge (r1, r2) l).2.1] ++ (merge (r1, r2) l).2.2))] := by
  refine Spec.intro Try.func64 rfl Try.ntmps64 rfl fun w0 rest rs_ hrs_ => ?_
  simp only [List.cons_append, List.nil_append] at hrs_
  subst hrs_
  repeat (first | refine GC.seq ?_ | refine GC.region ?_)
  refine G.box rfl rfl rfl (fun b => ?_)
  repeat (first | (apply G.ex (hd := rfl); case h => (first | exact Ex.move rfl | exact Ex.lenSl rfl | exact Ex.assign rfl)) | refine G.nil ?_ | refine GC.seq ?_ | refine GC.region ?_ | refine GC.block ?_ | refine GE.then_normal ?_)
  first | refine G.nilvec 102 2 ?_ | refine GC.nilvec 102 2 ?_
  first | refine G.frz none ?_ | refine GC.frz none ?_ | refine GE.frz none ?_
  first | refine G.nilvec 102 2 ?_ | refine GC.nilvec 102 2 ?_
  refine GC.conv (fun w_ H_ => H_.nilvec 102 2) ?_
  refine GC.loop (ι := Nat × (Option Addr × Nat) × (Option Addr × Nat) × List R × (Int × Int) × List R) (fun i => i.1 ≤ n ∧ i.2.2.2 = (l.take i.1).foldl step ([], (r1, r2), [])) (fun i => n - i.1) (fun i => [(0, .int .i64 d), (5, .pointer (some (badr b 0))), (8, .slice i.2.1.1 i.2.2.2.1.length i.2.1.2), (9, .slice i.2.2.1.1 i.2.2.2.2.2.length i.2.2.1.2), (12, .slice ao n c), (13, .int .i64 (n : Int)), (14, .int .i64 (i.1 : Int))]) (fun i => [.vec 102 2 i.2.1.1 i.2.2.2.1.length i.2.1.2 (flat eR i.2.2.2.1), .vec 102 2 i.2.2.1.1 i.2.2.2.2.2.length i.2.2.1.2 (flat eR i.2.2.2.2.2), .blk b 102 (eR i.2.2.2.2.1), .sl ao n c 2 (flat eR l)]) (0, (none, 0), (none, 0), [], (r1, r2), []) ⟨Nat.zero_le _, rfl⟩ (by simp only [fits]; repeat (first | exact trivial | refine And.intro rfl ?_)) (by repeat first | exact tn_ | apply td_ rfl | apply tc_ | exact .here | apply Take1.there) ?_
  rintro ⟨i, ⟨aa, ac⟩, ⟨ba, bc⟩, A, ⟨q1, q2⟩, B⟩ ⟨hi, hs⟩ fr_ rs_ hfr_ hrs_
  simp only [List.cons_append, List.nil_append] at hfr_ hrs_
  subst hfr_ hrs_
  simp only at hi hs
  repeat (first | (apply G.ex (hd := rfl); case h => (first | exact Ex.lss rfl rfl)) | refine G.nil ?_ | refine GC.seq ?_ | refine GC.region ?_ | refine GE.then_normal ?_)
  have hlen := len_fold (r1, r2) l i (by omega)
  rw [← hs] at hlen
  simp only at hlen
  refine GC.cond_dec rfl (fun hlt => ?_) (fun hlt => ?_)
  · have hlt : i < n := by omega
    have hst : (l.take (i + 1)).foldl step ([], (r1, r2), []) = step (A, (q1, q2), B) (l.getD i default) := by
      rw [getD_take l i (by omega), List.foldl_append, ← hs]; rfl
    repeat (first | (apply G.ex (hd := rfl); case h => (first | exact Ex.indexN rfl rfl (by first | omega | (simp; done) | (simp; omega)) | exact Ex.loadTA rfl (by first | omega | (simp; done) | (simp; omega)))) | refine GC.seq ?_ | refine GC.region ?_ | refine GC.block ?_ | refine GC.skip ?_ | refine GE.then_normal ?_)
    refine G.alloc rfl (fun x => ?_)
    generalize l.getD i default = y at *
    obtain ⟨y1, y2⟩ := y
    repeat (first | refine G.storeBA rfl rfl rfl rfl rfl ?_ | (apply G.ex (hd := rfl); case h => (first | exact Ex.fieldB rfl | exact Ex.loadB rfl rfl | exact Ex.lss rfl rfl | exact Ex.assign rfl)) | refine G.nil ?_ | refine GC.seq ?_ | refine GC.region ?_ | refine GC.block ?_ | refine GE.then_normal ?_)
    by_cases c1 : y2 < q1
    · have e1 : step (A, (q1, q2), B) (y1, y2) = (A ++ [(y1, y2)], (q1, q2), B) := by unfold step; rw [if_pos c1]
      rw [e1] at hst
      repeat (first | (apply G.ex (hd := rfl); case h => (first | exact Ex.move rfl | exact Ex.loadBA rfl rfl rfl)) | refine GC.region ?_ | refine GC.cond_yes rfl (by first | assumption | omega) ?_)
      refine G.lit rfl (by rfl) (by rfl) (by rfl) (by rfl) (by rfl) (by rfl) rfl (fun q => ?_)
      have hcat : flat eR A ++ eR (y1, y2) = flat eR (A ++ [(y1, y2)]) := flat_snoc ..
      refine G.app rfl rfl (by rfl) (by omega) rfl (hcat) (fun a2 c2 rs_ hrs_ => ?_)
      try simp only at hrs_
      subst hrs_
      rw [show A.length + 1 = (A ++ [(y1, y2)]).length by simp]
      refine G.drop ?_
      repeat (first | (apply G.ex (hd := rfl); case h => (first | exact Ex.move rfl | exact Ex.add rfl rfl (by omega) | exact Ex.assign rfl)) | refine G.nil ?_ | refine GC.region ?_ | refine GE.then_normal ?_ | refine GE.block_normal ?_)
      refine GE.loop (i + 1, (a2, c2), (ba, bc), A ++ [(y1, y2)], (q1, q2), B) ⟨by simp only; omega, hst.symm⟩ (by simp only; omega) (by simp only [fits]; repeat (first | exact trivial | refine And.intro rfl ?_)) (by repeat first | exact tn_ | apply td_ rfl | apply tc_ | exact .here | apply Take1.there) (by repeat (first | exact Subs.refl | refine Subs.skip ?_))
    · by_cases c2 : q2 < y1
      · have e1 : step (A, (q1, q2), B) (y1, y2) = (A, (q1, q2), B ++ [(y1, y2)]) := by unfold step; rw [if_neg c1, if_pos c2]
        rw [e1] at hst
        repeat (first | (apply G.ex (hd := rfl); case h => (first | exact Ex.move rfl | exact Ex.fieldB rfl | exact Ex.loadB rfl rfl | exact Ex.gtr rfl rfl | exact Ex.assign rfl | exact Ex.loadBA rfl rfl rfl)) | refine G.nil ?_ | refine GC.seq ?_ | refine GC.region ?_ | refine GE.then_normal ?_ | refine GC.cond_yes rfl (by first | assumption | omega) ?_ | refine GC.cond_no rfl (by first | assumption | omega) ?_)
        refine G.lit rfl (by rfl) (by rfl) (by rfl) (by rfl) (by rfl) (by rfl) rfl (fun q => ?_)
        have hcat : flat eR B ++ eR (y1, y2) = flat eR (B ++ [(y1, y2)]) := flat_snoc ..
        refine G.app rfl rfl (by rfl) (by omega) rfl (hcat) (fun b2 c2 rs_ hrs_ => ?_)
        try simp only at hrs_
        subst hrs_
        rw [show B.length + 1 = (B ++ [(y1, y2)]).length by simp]
        refine G.drop ?_
        repeat (first | (apply G.ex (hd := rfl); case h => (first | exact Ex.move rfl | exact Ex.add rfl rfl (by omega) | exact Ex.assign rfl)) | refine G.nil ?_ | refine GC.region ?_ | refine GE.then_normal ?_ | refine GE.block_normal ?_)
        refine GE.loop (i + 1, (aa, ac), (b2, c2), A, (q1, q2), B ++ [(y1, y2)]) ⟨by simp only; omega, hst.symm⟩ (by simp only; omega) (by simp only [fits]; repeat (first | exact trivial | refine And.intro rfl ?_)) (by repeat first | exact tn_ | apply td_ rfl | apply tc_ | exact .here | apply Take1.there) (by repeat (first | exact Subs.refl | refine Subs.skip ?_))
      · have e1 : step (A, (q1, q2), B) (y1, y2) = (A, (min q1 y1, max q2 y2), B) := by unfold step; rw [if_neg c1, if_neg c2]
        rw [e1] at hst
        repeat (first | refine G.storeBA rfl rfl rfl rfl rfl ?_ | (apply G.ex (hd := rfl); case h => (first | exact Ex.move rfl | exact Ex.fieldB rfl | exact Ex.loadB rfl rfl | exact Ex.add rfl rfl (by omega) | exact Ex.gtr rfl rfl | exact Ex.assign rfl | exact Ex.min rfl rfl | exact Ex.max rfl rfl | exact Ex.build rfl rfl)) | refine G.nil ?_ | refine GC.seq ?_ | refine GC.region ?_ | refine GE.then_normal ?_ | refine GE.block_normal ?_ | refine GC.cond_no rfl (by first | assumption | omega) ?_)
        refine GE.loop (i + 1, (aa, ac), (ba, bc), A, (min q1 y1, max q2 y2), B) ⟨by simp only; omega, hst.symm⟩ (by simp only; omega) (by simp only [fits]; repeat (first | exact trivial | refine And.intro rfl ?_)) (by repeat first | exact tn_ | apply td_ rfl | apply tc_ | exact .here | apply Take1.there) (by repeat (first | exact Subs.refl | refine Subs.skip ?_))
  · obtain rfl : i = n := by omega
    have e : l.take i = l := List.take_of_length_le (by omega)
    rw [e] at hs
    have hm : merge (r1, r2) l = (A, (q1, q2), B) := hs.symm
    rw [hm]
    simp only
    repeat (first | (apply G.ex (hd := rfl); case h => (first | exact Ex.move rfl | exact Ex.fieldB rfl | exact Ex.loadB rfl rfl | exact Ex.leq rfl rfl)) | refine G.nil ?_ | refine GC.seq ?_ | refine GC.region ?_ | refine GC.exit ?_ | refine GE.then_normal ?_ | refine GE.then_exit ?_ | refine GE.block_hit ?_)
    refine GC.cond_dec rfl (fun hq => ?_) (fun hq => ?_)
    · simp only [if_pos hq]
      repeat (first | (apply G.ex (hd := rfl); case h => (first | exact Ex.move rfl | exact Ex.fieldB rfl | exact Ex.loadB rfl rfl | exact Ex.assign rfl | exact Ex.max rfl rfl)) | refine G.nil ?_ | refine GC.seq ?_ | refine GC.region ?_ | refine GC.ret ?_ | refine GE.then_normal ?_ | refine GE.then_ret ?_)
      first | refine G.frz ba ?_ | refine GC.frz ba ?_ | refine GE.frz ba ?_
      refine GE.ret (by first | exact .inl rfl | exact .inr rfl) (res2 Try.results64 rfl rfl) ⟨_, _, rfl, rfl⟩ (by repeat first | exact tn_ | apply td_ rfl | apply tc_ | exact .here | apply Take1.there) (by repeat (first | exact Subs.refl | refine Subs.skip ?_))
    · simp only [if_neg hq]
      repeat (first | (apply G.ex (hd := rfl); case h => (first | exact Ex.move rfl | exact Ex.loadBA rfl rfl rfl)) | refine GC.seq ?_ | refine GC.region ?_ | refine GC.skip ?_ | refine GE.then_normal ?_)
      refine G.lit rfl (by rfl) (by rfl) (by rfl) (by rfl) (by rfl) (by rfl) rfl (fun q => ?_)
      repeat (first | (apply G.ex (hd := rfl); case h => (first | exact Ex.move rfl)))
      refine G.lit rfl (by rfl) (by rfl) (by rfl) (by rfl) (by rfl) (by rfl) rfl (fun q' => ?_)
      first | refine G.frz aa ?_ | refine GC.frz aa ?_ | refine GE.frz aa ?_
      first | refine G.frz ba ?_ | refine GC.frz ba ?_ | refine GE.frz ba ?_
      first | refine G.frz q ?_ | refine GC.frz q ?_ | refine GE.frz q ?_
      first | refine G.frz q' ?_ | refine GC.frz q' ?_ | refine GE.frz q' ?_
      refine G.conv (fun w_ H_ => H_.rdNil eR 2) ?_
      refine G.conv (fun w_ H_ => Holds.rdSnoc (x := ⟨aa, A.length, ac, A⟩) (H_.take (need := [.sl aa A.length ac 2 (flat eR A), .per (Rd eR 2 [])]) (by repeat first | exact tn_ | apply td_ rfl | apply tc_ | exact .here | apply Take1.there))) ?_
      try simp only [List.append_eq, List.nil_append, List.cons_append]
      refine G.conv (fun w_ H_ => Holds.rdSnoc (x := ⟨q, 1, 1, [(q1, q2)]⟩) (H_.take (need := [.sl q 1 1 2 (flat eR [(q1, q2)]), .per (Rd eR 2 ([] ++ [⟨aa, A.length, ac, A⟩]))]) (by repeat first | exact tn_ | apply td_ rfl | apply tc_ | exact .here | apply Take1.there))) ?_
      try simp only [List.append_eq, List.nil_append, List.cons_append]
      refine G.conv (fun w_ H_ => Holds.rdSnoc (x := ⟨ba, B.length, bc, B⟩) (H_.take (need := [.sl ba B.length bc 2 (flat eR B), .per (Rd eR 2 ([] ++ [⟨aa, A.length, ac, A⟩] ++ [⟨q, 1, 1, [(q1, q2)]⟩]))]) (by repeat first | exact tn_ | apply td_ rfl | apply tc_ | exact .here | apply Take1.there))) ?_
      try simp only [List.append_eq, List.nil_append, List.cons_append]
      have htot : tot [⟨aa, A.length, ac, A⟩, ⟨q, 1, 1, [(q1, q2)]⟩, ⟨ba, B.length, bc, B⟩] = A ++ [(q1, q2)] ++ B := by simp [tot]
      first | refine G.call (caps := []) (concatR_sp q' 3 3 [⟨aa, A.length, ac, A⟩, ⟨q, 1, 1, [(q1, q2)]⟩, ⟨ba, B.length, bc, B⟩] rfl (by omega) (by intro x hx; simp at hx; rcases hx with rfl | rfl | rfl <;> rfl) (by rw [htot]; simp; omega)) rfl rfl rfl rfl (by repeat first | exact tn_ | apply td_ rfl | apply tc_ | exact .here | apply Take1.there) ?_ | refine G.callU (caps := []) (concatR_sp q' 3 3 [⟨aa, A.length, ac, A⟩, ⟨q, 1, 1, [(q1, q2)]⟩, ⟨ba, B.length, bc, B⟩] rfl (by omega) (by intro x hx; simp at hx; rcases hx with rfl | rfl | rfl <;> rfl) (by rw [htot]; simp; omega)) rfl rfl rfl (by repeat first | exact tn_ | apply td_ rfl | apply tc_ | exact .here | apply Take1.there) ?_
      rintro v_ give_ ⟨oa, oc, rfl, rfl⟩ rs_ hrs_
      simp only [List.cons_append, List.nil_append] at hrs_
      subst hrs_
      rw [htot]
      first | refine G.frz oa ?_ | refine GC.frz oa ?_ | refine GE.frz oa ?_
      repeat (first | (apply G.ex (hd := rfl); case h => (first | exact Ex.assign rfl)) | refine G.nil ?_ | refine GC.ret ?_ | refine GE.then_normal ?_)
      refine GE.ret (by first | exact .inl rfl | exact .inr rfl) (res2 Try.results64 rfl rfl) ⟨_, _, rfl, rfl⟩ (by repeat first | exact tn_ | apply td_ rfl | apply tc_ | exact .here | apply Take1.there) (by repeat (first | exact Subs.refl | refine Subs.skip ?_))
theorem add_eq (d : Int) (l : List R) (r : R) (hr : r.1 < r.2) : add d l r = ((if (merge r l).2.1.1 ≤ d then max d (merge r l).2.1.2 else d), (if (merge r l).2.1.1 ≤ d then (merge r l).2.2 else (merge r l).1 ++ [(merge r l).2.1] ++ (merge r l).2.2)) := by
  unfold add
  rw [if_pos hr]
  split <;> rfl
set_option maxHeartbeats 1000000 in
theorem add_full_sp (d : Int) (ao : Option Addr) (n c : Nat) (l : List R) (r1 r2 : Int) (hl : l.length = n) (hm : May d l) (h1 : 0 ≤ r1) (h2 : r1 ≤ r2) (h3 : r2 ≤ 1048576) (hf : 16 < (add d l (r1, r2)).2.length) :
    Spec Try.prog 48 [.int .i64 d, .slice ao n c, .agg (eR (r1, r2)).toArray] [.sl ao n c 2 (flat eR l)] fun v give => v = .tuple #[.int .i64 0, .slice none 0 0, .int .i64 9] ∧ give = [] := by
  have hlen := hm.len
  have hlt : r1 < r2 := by
    apply Decidable.byContradiction
    intro hc
    unfold add at hf
    rw [if_neg hc] at hf
    simp only at hf; omega
  rw [add_eq _ _ _ hlt] at hf
  refine Spec.intro Try.func48 rfl Try.ntmps48 rfl fun w0 rest rs_ hrs_ => ?_
  simp only [List.cons_append, List.nil_append] at hrs_
  subst hrs_
  repeat (first | refine GC.seq ?_ | refine GC.region ?_)
  refine G.box rfl rfl rfl (fun b => ?_)
  repeat (first | (apply G.ex (hd := rfl); case h => (first | exact Ex.move rfl | exact Ex.assign rfl)) | refine G.nil ?_ | refine GC.seq ?_ | refine GC.region ?_ | refine GC.block ?_ | refine GE.then_normal ?_)
  first | refine G.call (caps := []) (may_sp (.sl ao n c 2 (flat eR l)) d ao n c l hl hm) rfl rfl rfl rfl (by repeat first | exact tn_ | apply td_ rfl | apply tc_ | exact .here | apply Take1.there) ?_ | refine G.callU (caps := []) (may_sp (.sl ao n c 2 (flat eR l)) d ao n c l hl hm) rfl rfl rfl (by repeat first | exact tn_ | apply td_ rfl | apply tc_ | exact .here | apply Take1.there) ?_
  rintro v_ give_ ⟨rfl, rfl⟩ rs_ hrs_
  simp only [List.cons_append, List.nil_append] at hrs_
  subst hrs_
  repeat (first | (apply G.ex (hd := rfl); case h => (first | exact Ex.move rfl | exact Ex.fieldB rfl | exact Ex.loadB rfl rfl | exact Ex.lss rfl rfl | exact Ex.gtr rfl rfl | exact Ex.assign rfl | exact Ex.notB rfl | exact Ex.pickF rfl (by first | assumption | omega) rfl | exact Ex.loadBA rfl rfl rfl)) | refine G.g_ff rfl rfl (by first | assumption | omega) ?_ | refine G.nil ?_ | refine GC.seq ?_ | refine GC.region ?_ | refine GC.skip ?_ | refine GE.then_normal ?_ | refine GE.block_normal ?_ | refine GC.cond_yes rfl (by first | assumption | omega) ?_ | refine GC.cond_no rfl (by first | assumption | omega) ?_ | refine GC.cond_f rfl ?_)
  first | refine G.call (caps := []) (merged_sp d ao n c l r1 r2 hl (by omega)) rfl rfl rfl rfl (by repeat first | exact tn_ | apply td_ rfl | apply tc_ | exact .here | apply Take1.there) ?_ | refine G.callU (caps := []) (merged_sp d ao n c l r1 r2 hl (by omega)) rfl rfl rfl (by repeat first | exact tn_ | apply td_ rfl | apply tc_ | exact .here | apply Take1.there) ?_
  rintro v_ give_ ⟨oa, oc, rfl, rfl⟩ rs_ hrs_
  simp only [List.cons_append, List.nil_append] at hrs_
  subst hrs_
  simp only at hf
  generalize (if (merge (r1, r2) l).2.1.1 ≤ d then (merge (r1, r2) l).2.2 else (merge (r1, r2) l).1 ++ [(merge (r1, r2) l).2.1] ++ (merge (r1, r2) l).2.2) = L at *
  repeat (first | (apply G.ex (hd := rfl); case h => (first | exact Ex.move rfl | exact Ex.gtr rfl rfl | exact Ex.lenSl rfl | exact Ex.extract rfl rfl | exact Ex.assign rfl)) | refine G.nil ?_ | refine GC.seq ?_ | refine GC.region ?_ | refine GC.ret ?_ | refine GE.then_normal ?_ | refine GE.then_ret ?_ | refine GC.cond_yes rfl (by first | assumption | omega) ?_)
  refine GE.ret (by first | exact .inl rfl | exact .inr rfl) (resR3 Try.results48 (RV.tmp rfl) (RV.tmp rfl) (RV.tmp rfl)) ⟨rfl, rfl⟩ (by repeat first | exact tn_ | apply td_ rfl | apply tc_ | exact .here | apply Take1.there) (by repeat (first | exact Subs.refl | refine Subs.skip ?_))
set_option maxHeartbeats 1000000 in
theorem add_sp (d : Int) (ao : Option Addr) (n c : Nat) (l : List R) (r1 r2 : Int) (hl : l.length = n) (hm : May d l) (h1 : 0 ≤ r1) (h2 : r1 ≤ r2) (h3 : r2 ≤ 1048576) (hf : (add d l (r1, r2)).2.length ≤ 16) :
    Spec Try.prog 48 [.int .i64 d, .slice ao n c, .agg (eR (r1, r2)).toArray] [.sl ao n c 2 (flat eR l)]
      fun v give => ∃ ao' c', v = .tuple #[.int .i64 (add d l (r1, r2)).1, .slice ao' (add d l (r1, r2)).2.length c', .int .i64 0] ∧ give = [.sl ao' (add d l (r1, r2)).2.length c' 2 (flat eR (add d l (r1, r2)).2)] := by
  have hlen := hm.len
  by_cases hlt : r1 < r2
  · rw [add_eq _ _ _ hlt] at hf ⊢
    refine Spec.intro Try.func48 rfl Try.ntmps48 rfl fun w0 rest rs_ hrs_ => ?_
    simp only [List.cons_append, List.nil_append] at hrs_
    subst hrs_
    repeat (first | refine GC.seq ?_ | refine GC.region ?_)
    refine G.box rfl rfl rfl (fun b => ?_)
    repeat (first | (apply G.ex (hd := rfl); case h => (first | exact Ex.move rfl | exact Ex.assign rfl)) | refine G.nil ?_ | refine GC.seq ?_ | refine GC.region ?_ | refine GC.block ?_ | refine GE.then_normal ?_)
    first | refine G.call (caps := []) (may_sp (.sl ao n c 2 (flat eR l)) d ao n c l hl hm) rfl rfl rfl rfl (by repeat first | exact tn_ | apply td_ rfl | apply tc_ | exact .here | apply Take1.there) ?_ | refine G.callU (caps := []) (may_sp (.sl ao n c 2 (flat eR l)) d ao n c l hl hm) rfl rfl rfl (by repeat first | exact tn_ | apply td_ rfl | apply tc_ | exact .here | apply Take1.there) ?_
    rintro v_ give_ ⟨rfl, rfl⟩ rs_ hrs_
    simp only [List.cons_append, List.nil_append] at hrs_
    subst hrs_
    repeat (first | (apply G.ex (hd := rfl); case h => (first | exact Ex.move rfl | exact Ex.fieldB rfl | exact Ex.loadB rfl rfl | exact Ex.lss rfl rfl | exact Ex.gtr rfl rfl | exact Ex.assign rfl | exact Ex.notB rfl | exact Ex.pickF rfl (by first | assumption | omega) rfl | exact Ex.loadBA rfl rfl rfl)) | refine G.g_ff rfl rfl (by first | assumption | omega) ?_ | refine G.nil ?_ | refine GC.seq ?_ | refine GC.region ?_ | refine GC.skip ?_ | refine GE.then_normal ?_ | refine GE.block_normal ?_ | refine GC.cond_yes rfl (by first | assumption | omega) ?_ | refine GC.cond_no rfl (by first | assumption | omega) ?_ | refine GC.cond_f rfl ?_)
    first | refine G.call (caps := []) (merged_sp d ao n c l r1 r2 hl (by omega)) rfl rfl rfl rfl (by repeat first | exact tn_ | apply td_ rfl | apply tc_ | exact .here | apply Take1.there) ?_ | refine G.callU (caps := []) (merged_sp d ao n c l r1 r2 hl (by omega)) rfl rfl rfl (by repeat first | exact tn_ | apply td_ rfl | apply tc_ | exact .here | apply Take1.there) ?_
    rintro v_ give_ ⟨oa, oc, rfl, rfl⟩ rs_ hrs_
    simp only [List.cons_append, List.nil_append] at hrs_
    subst hrs_
    simp only at hf ⊢
    generalize (if (merge (r1, r2) l).2.1.1 ≤ d then (merge (r1, r2) l).2.2 else (merge (r1, r2) l).1 ++ [(merge (r1, r2) l).2.1] ++ (merge (r1, r2) l).2.2) = L at *
    repeat (first | (apply G.ex (hd := rfl); case h => (first | exact Ex.move rfl | exact Ex.gtr rfl rfl | exact Ex.lenSl rfl | exact Ex.extract rfl rfl | exact Ex.assign rfl)) | refine G.nil ?_ | refine GC.seq ?_ | refine GC.region ?_ | refine GC.skip ?_ | refine GE.then_normal ?_ | refine GC.cond_no rfl (by first | assumption | omega) ?_)
    first | refine G.call (caps := []) (cloneR_sp (.sl oa L.length oc 2 (flat eR L)) oa L.length oc L rfl (by omega)) rfl rfl rfl rfl (by repeat first | exact tn_ | apply td_ rfl | apply tc_ | exact .here | apply Take1.there) ?_ | refine G.callU (caps := []) (cloneR_sp (.sl oa L.length oc 2 (flat eR L)) oa L.length oc L rfl (by omega)) rfl rfl rfl (by repeat first | exact tn_ | apply td_ rfl | apply tc_ | exact .here | apply Take1.there) ?_
    rintro v_ give_ ⟨pa, pc, rfl, rfl⟩ rs_ hrs_
    simp only [List.cons_append, List.nil_append] at hrs_
    subst hrs_
    first | refine G.frz pa ?_ | refine GC.frz pa ?_ | refine GE.frz pa ?_
    repeat (first | (apply G.ex (hd := rfl); case h => (first | exact Ex.assign rfl)) | refine G.nil ?_ | refine GC.ret ?_ | refine GE.then_normal ?_)
    refine GE.ret (by first | exact .inl rfl | exact .inr rfl) (resR3 Try.results48 (RV.tmp rfl) (RV.tmp rfl) (RV.tmp rfl)) ⟨_, _, rfl, rfl⟩ (by repeat first | exact tn_ | apply td_ rfl | apply tc_ | exact .here | apply Take1.there) (by repeat (first | exact Subs.refl | refine Subs.skip ?_))
  · have e : add d l (r1, r2) = (d, l) := by unfold add; rw [if_neg hlt]
    rw [e] at hf ⊢
    simp only at hf ⊢
    subst hl
    refine Spec.intro Try.func48 rfl Try.ntmps48 rfl fun w0 rest rs_ hrs_ => ?_
    simp only [List.cons_append, List.nil_append] at hrs_
    subst hrs_
    repeat (first | refine GC.seq ?_ | refine GC.region ?_)
    refine G.box rfl rfl rfl (fun b => ?_)
    repeat (first | (apply G.ex (hd := rfl); case h => (first | exact Ex.move rfl | exact Ex.assign rfl)) | refine G.nil ?_ | refine GC.seq ?_ | refine GC.region ?_ | refine GC.block ?_ | refine GE.then_normal ?_)
    first | refine G.call (caps := []) (may_sp (.sl ao l.length c 2 (flat eR l)) d ao l.length c l rfl hm) rfl rfl rfl rfl (by repeat first | exact tn_ | apply td_ rfl | apply tc_ | exact .here | apply Take1.there) ?_ | refine G.callU (caps := []) (may_sp (.sl ao l.length c 2 (flat eR l)) d ao l.length c l rfl hm) rfl rfl rfl (by repeat first | exact tn_ | apply td_ rfl | apply tc_ | exact .here | apply Take1.there) ?_
    rintro v_ give_ ⟨rfl, rfl⟩ rs_ hrs_
    simp only [List.cons_append, List.nil_append] at hrs_
    subst hrs_
    repeat (first | (apply G.ex (hd := rfl); case h => (first | exact Ex.move rfl | exact Ex.fieldB rfl | exact Ex.loadB rfl rfl | exact Ex.lss rfl rfl | exact Ex.gtr rfl rfl | exact Ex.lenSl rfl | exact Ex.assign rfl | exact Ex.notB rfl | exact Ex.pickF rfl (by first | assumption | omega) rfl)) | refine G.g_ff rfl rfl (by first | assumption | omega) ?_ | refine G.nil ?_ | refine GC.seq ?_ | refine GC.region ?_ | refine GC.skip ?_ | refine GE.then_normal ?_ | refine GE.block_normal ?_ | refine GC.cond_no rfl (by first | assumption | omega) ?_ | refine GC.cond_f rfl ?_)
    first | refine G.call (caps := []) (cloneR_sp (.sl ao l.length c 2 (flat eR l)) ao l.length c l rfl (by omega)) rfl rfl rfl rfl (by repeat first | exact tn_ | apply td_ rfl | apply tc_ | exact .here | apply Take1.there) ?_ | refine G.callU (caps := []) (cloneR_sp (.sl ao l.length c 2 (flat eR l)) ao l.length c l rfl (by omega)) rfl rfl rfl (by repeat first | exact tn_ | apply td_ rfl | apply tc_ | exact .here | apply Take1.there) ?_
    rintro v_ give_ ⟨pa, pc, rfl, rfl⟩ rs_ hrs_
    simp only [List.cons_append, List.nil_append] at hrs_
    subst hrs_
    first | refine G.frz pa ?_ | refine GC.frz pa ?_ | refine GE.frz pa ?_
    repeat (first | (apply G.ex (hd := rfl); case h => (first | exact Ex.assign rfl)) | refine G.nil ?_ | refine GC.ret ?_ | refine GE.then_normal ?_)
    refine GE.ret (by first | exact .inl rfl | exact .inr rfl) (resR3 Try.results48 (RV.tmp rfl) (RV.tmp rfl) (RV.tmp rfl)) ⟨_, _, rfl, rfl⟩ (by repeat first | exact tn_ | apply td_ rfl | apply tc_ | exact .here | apply Take1.there) (by repeat (first | exact Subs.refl | refine Subs.skip ?_))
end hole
end Go.Proofs.Ytcllddkhnbnigaa
