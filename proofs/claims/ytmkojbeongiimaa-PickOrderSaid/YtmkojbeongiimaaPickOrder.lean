/-
  CONTRACT of packthreadkeep.PickOrder: it is true.
-/
import Derived.Test.YtmkojbeongiimaaPick
import Derived.Test.YtmkojbeongiimaaKit19
namespace Go.Proofs.Ytmkojbeongiimaa
open Go.RowKit
open glob
attribute [local irreducible] Ex G GC GE Gq FPost LPost
set_option linter.unusedVariables false
set_option linter.unusedSimpArgs false
namespace glob
theorem take_snocG {α : Type} [Inhabited α] {l : List α} {k : Nat} (h : k < l.length) : l.take (k + 1) = l.take k ++ [l.getD k default] := by
  rw [List.take_succ_eq_append_getElem h, List.getD_eq_getElem?_getD, List.getElem?_eq_getElem h]; rfl
def nsF (x : SlD Int) : List UInt8 := short (x.l.take 8)
theorem nsF_len (x : SlD Int) : (nsF x).length ≤ 8 := by
  have := short_len (x.l.take 8)
  rw [List.length_take] at this
  unfold nsF; omega
theorem getD_le {l : List (List UInt8)} {m : Nat} (h : ∀ x ∈ l, x.length ≤ m) (k : Nat) : (l.getD k default).length ≤ m := by
  by_cases hk : k < l.length
  · rw [List.getD_eq_getElem?_getD, List.getElem?_eq_getElem hk]
    exact h _ (List.getElem_mem hk)
  · rw [List.getD_eq_getElem?_getD, List.getElem?_eq_none (by omega)]
    exact Nat.zero_le _
theorem filter_at {f : List UInt8 → Bool} {N : List (List UInt8)} {i : Nat} (hi : i < N.length) (h : f (N.getD i default) = true) :
    ((N.take i).filter f).length < (N.filter f).length ∧ (N.filter f).getD ((N.take i).filter f).length default = N.getD i default ∧ ((N.take (i + 1)).filter f).length = ((N.take i).filter f).length + 1 := by
  have e : N = N.take i ++ (N.getD i default :: N.drop (i + 1)) := by rw [← drop_at hi, List.take_append_drop]
  have e2 : N.filter f = (N.take i).filter f ++ (N.getD i default :: (N.drop (i + 1)).filter f) := by
    conv => lhs; rw [e, List.filter_append, List.filter_cons, if_pos h]
  have e3 : N.take (i + 1) = N.take i ++ [N.getD i default] := by
    rw [List.take_succ_eq_append_getElem hi, List.getD_eq_getElem?_getD, List.getElem?_eq_getElem hi]; rfl
  refine ⟨?_, ?_, ?_⟩
  · rw [e2]; simp
  · rw [e2, List.getD_eq_getElem?_getD, List.getElem?_append_right (Nat.le_refl _)]; simp
  · rw [e3, List.filter_append, List.filter_cons, if_pos h]; simp
theorem filter_off {f : List UInt8 → Bool} {N : List (List UInt8)} {i : Nat} (hi : i < N.length) (h : f (N.getD i default) = false) : ((N.take (i + 1)).filter f).length = ((N.take i).filter f).length := by
  have e3 : N.take (i + 1) = N.take i ++ [N.getD i default] := by
    rw [List.take_succ_eq_append_getElem hi, List.getD_eq_getElem?_getD, List.getElem?_eq_getElem hi]; rfl
  rw [e3, List.filter_append, List.filter_cons, if_neg (by rw [h]; exact fun k => nomatch k)]; simp
theorem filter_twice (f : List UInt8 → Bool) (N : List (List UInt8)) : (N.filter f).filter f = N.filter f := by
  rw [List.filter_filter]; congr 1; funext x; simp
set_option maxHeartbeats 4000000 in
theorem pickOrder_sp (a0 : Option Addr) (len0 cap0 : Nat) (z0 : List Int) (hl0 : z0.length = len0) (hb0 : len0 ≤ 9223372036854775807) (hw0 : ∀ z ∈ z0, -9223372036854775808 ≤ z ∧ z ≤ 9223372036854775807) (a1 : Option Addr) (len1 cap1 : Nat) (z1 : List (SlD Int)) (hl1 : z1.length = len1) (hb1 : len1 ≤ 9223372036854775807) (hz1 : ∀ x ∈ z1, x.l.length = x.n ∧ x.n ≤ 9223372036854775807 ∧ ∀ y ∈ x.l, -9223372036854775808 ≤ y ∧ y ≤ 9223372036854775807) :
    Spec Try.prog 7 [.slice a0 len0 cap0, .slice a1 len1 cap1] [.sl a0 len0 cap0 1 (flat (eI .i64) z0), .sl a1 len1 cap1 1 (flat eS z1), .per (Rd (eI .i64) 1 z1)] fun v give => v = .bool true ∧ give = [] := by
  refine Spec.intro Try.func7 rfl Try.ntmps7 rfl fun w0 rest rs_ hrs_ => ?_
  simp only [List.cons_append, List.nil_append] at hrs_
  subst hrs_
  repeat (first | (apply G.ex (hd := rfl); case h => (first | exact Ex.move rfl | exact Ex.assign rfl)) | refine G.nil ?_ | refine GC.seq ?_ | refine GC.region ?_ | refine GE.then_normal ?_)
  first | refine G.call (caps := []) (PatternOf_sp (.sl a0 len0 cap0 1 (flat (eI .i64) z0)) a0 len0 cap0 z0 hl0 6 (by omega)) rfl rfl rfl rfl (by repeat (first | exact Takes.nil | apply Takes.dup rfl | apply Takes.cons | exact Take1.here | apply Take1.there)) ?_ | refine G.callU (caps := []) (PatternOf_sp (.sl a0 len0 cap0 1 (flat (eI .i64) z0)) a0 len0 cap0 z0 hl0 6 (by omega)) rfl rfl rfl (by repeat (first | exact Takes.nil | apply Takes.dup rfl | apply Takes.cons | exact Take1.here | apply Take1.there)) ?_
  rintro v_ give_ ⟨rfl, rfl⟩ rs_ hrs_
  simp only [List.cons_append, List.nil_append] at hrs_
  subst hrs_
  have hp := pat_len (z0.take 6)
  rw [List.length_take] at hp
  have hP := pat_toks (z0.take 6)
  generalize pat (z0.take 6) = p at *
  generalize patP (z0.take 6) = P at *
  repeat (first | (apply G.ex (hd := rfl); case h => (first | exact Ex.assign rfl)) | refine G.nil ?_ | refine GC.seq ?_ | refine GC.region ?_ | refine GC.block ?_ | refine GE.then_normal ?_)
  first | refine G.nilvec 9 1 ?_ | refine GC.nilvec 9 1 ?_
  refine GC.loop (ι := Nat × Option Addr × Nat) (fun x => x.1 ≤ len1 ∧ x.1 ≤ 30) (fun x => 30 - x.1) (fun x => [(1, .slice a1 len1 cap1), (5, .string (sOf p)), (6, .slice x.2.1 x.1 x.2.2), (7, .int .i64 (x.1 : Int))]) (fun x => [.vec 9 1 x.2.1 x.1 x.2.2 (flat eO ((z1.take x.1).map nsF)), .sl a1 len1 cap1 1 (flat eS z1), .per (Rd (eI .i64) 1 z1)]) (0, none, 0) ⟨Nat.zero_le _, Nat.zero_le _⟩ (by simp only [fits]; repeat (first | exact trivial | refine And.intro rfl ?_)) (by repeat (first | exact Takes.nil | apply Takes.dup rfl | apply Takes.cons | exact Take1.here | apply Take1.there)) ?_
  rintro ⟨i, o, d⟩ ⟨hi, hi30⟩ fr_ rs_ hfr_ hrs_
  simp only [List.cons_append, List.nil_append] at hfr_ hrs_
  subst hfr_ hrs_
  simp only at hi hi30
  by_cases g1 : i < len1
  · by_cases g2 : i < 30
    · have hcat : flat eO ((z1.take i).map nsF) ++ flat eO [short ((z1.getD i default).l.take 8)] = flat eO ((z1.take (i + 1)).map nsF) := by
        rw [← flat_append, take_snocG (l := z1) (k := i) (by omega), List.map_append]; rfl
      obtain ⟨y1, y2, y3⟩ := hz1 (z1.getD i default) (by rw [List.getD_eq_getElem?_getD, List.getElem?_eq_getElem (by omega)]; exact List.getElem_mem _)
      refine GC.conv (fun w_ H_ => H_.rdAt (l := z1) (enc := eI .i64) (s := 1) (by simp) i (by omega)) ?_
      repeat (first | (apply G.ex (hd := rfl); case h => (first | exact Ex.move rfl | exact Ex.lss rfl rfl | exact Ex.lenSl rfl | exact Ex.indexN rfl rfl (by first | omega | (simp; done) | (simp; omega)) | exact Ex.loadT0 rfl (by first | omega | (simp; done) | (simp; omega)) rfl | exact Ex.pickT rfl (by first | assumption | omega) rfl)) | refine G.g_tt rfl rfl (by first | assumption | omega) ?_ | refine G.nil ?_ | refine GC.seq ?_ | refine GC.region ?_ | refine GC.block ?_ | refine GC.skip ?_ | refine GE.then_normal ?_ | refine GC.cond_yes rfl (by first | assumption | omega) ?_)
      first | refine G.call (caps := []) (Short_sp (.sl (z1.getD i default).ao (z1.getD i default).n (z1.getD i default).c 1 (flat (eI .i64) (z1.getD i default).l)) _ _ _ (z1.getD i default).l y1 8 (by omega)) rfl rfl rfl rfl (by repeat (first | exact Takes.nil | apply Takes.dup rfl | apply Takes.cons | exact Take1.here | apply Take1.there)) ?_ | refine G.callU (caps := []) (Short_sp (.sl (z1.getD i default).ao (z1.getD i default).n (z1.getD i default).c 1 (flat (eI .i64) (z1.getD i default).l)) _ _ _ (z1.getD i default).l y1 8 (by omega)) rfl rfl rfl (by repeat (first | exact Takes.nil | apply Takes.dup rfl | apply Takes.cons | exact Take1.here | apply Take1.there)) ?_
      rintro v_ give_ ⟨rfl, rfl⟩ rs_ hrs_
      simp only [List.cons_append, List.nil_append] at hrs_
      subst hrs_
      refine G.lit (cells := flat eO [short ((z1.getD i default).l.take 8)]) rfl (by rfl) (by rfl) (by rfl) (by rfl) (by rfl) (by rfl) rfl (fun q => ?_)
      refine G.app rfl rfl (by rfl) (by omega) rfl (hcat) (fun o2 d2 rs_ hrs_ => ?_)
      try simp only at hrs_
      subst hrs_
      repeat (first | (apply G.ex (hd := rfl); case h => (first | exact Ex.move rfl | exact Ex.add rfl rfl (by omega) | exact Ex.assign rfl)) | refine G.nil ?_ | refine GC.region ?_ | refine GE.then_normal ?_ | refine GE.block_normal ?_)
      rw [show (i : Int) + 1 = ((i + 1 : Nat) : Int) by omega]
      refine GE.loop (i + 1, o2, d2) ⟨by simp only; omega, by simp only; omega⟩ (by simp only; omega) (by simp only [fits]; repeat (first | exact trivial | refine And.intro rfl ?_)) (by repeat (first | exact Takes.nil | apply Takes.dup rfl | apply Takes.cons | exact Take1.here | apply Take1.there)) (by repeat (first | exact Subs.refl | refine Subs.skip ?_))
    · have hN : ((z1.take i).map nsF).length = i := by rw [List.length_map, List.length_take]; omega
      have hN8 : ∀ x ∈ (z1.take i).map nsF, x.length ≤ 8 := fun x hx => by
        obtain ⟨y, _, rfl⟩ := List.mem_map.1 hx
        exact nsF_len y
      generalize (z1.take i).map nsF = N at *
      have hG8 : ∀ x ∈ N.filter (mtB P), x.length ≤ 8 := fun x hx => hN8 x (List.mem_filter.1 hx).1
      have hGl : (N.filter (mtB P)).length ≤ i := by have := List.length_filter_le (mtB P) N; omega
      repeat (first | (apply G.ex (hd := rfl); case h => (first | exact Ex.move rfl | exact Ex.lss rfl rfl | exact Ex.lenSl rfl | exact Ex.pickT rfl (by first | assumption | omega) rfl)) | refine G.g_tt rfl rfl (by first | assumption | omega) ?_ | refine G.nil ?_ | refine GC.seq ?_ | refine GC.region ?_ | refine GC.exit ?_ | refine GE.then_normal ?_ | refine GE.then_exit ?_ | refine GE.block_hit ?_ | refine GC.cond_no rfl (by first | assumption | omega) ?_)
      first | refine G.call (caps := []) (Pick_sp p P hP (by omega) (.vec 9 1 o i d (flat eO N)) o i d N hN (by omega) (fun k => Nat.le_trans (getD_le hN8 k) (by omega))) rfl rfl rfl rfl (by repeat (first | exact Takes.nil | apply Takes.dup rfl | apply Takes.cons | exact Take1.here | apply Take1.there)) ?_ | refine G.callU (caps := []) (Pick_sp p P hP (by omega) (.vec 9 1 o i d (flat eO N)) o i d N hN (by omega) (fun k => Nat.le_trans (getD_le hN8 k) (by omega))) rfl rfl rfl (by repeat (first | exact Takes.nil | apply Takes.dup rfl | apply Takes.cons | exact Take1.here | apply Take1.there)) ?_
      rintro v_ give_ ⟨go, gm, gc, hgm, rfl, rfl⟩ rs_ hrs_
      simp only [List.cons_append, List.nil_append] at hrs_
      subst hrs_
      subst hgm
      repeat (first | (apply G.ex (hd := rfl); case h => (first | exact Ex.move rfl | exact Ex.extract rfl rfl | exact Ex.assign rfl)) | refine G.nil ?_ | refine GC.seq ?_ | refine GC.region ?_ | refine GE.then_normal ?_)
      first | refine G.call (caps := []) (Pick_sp p P hP (by omega) (.vec 9 1 go (N.filter (mtB P)).length gc (flat eO (N.filter (mtB P)))) go (N.filter (mtB P)).length gc (N.filter (mtB P)) rfl (by omega) (fun k => Nat.le_trans (getD_le hG8 k) (by omega))) rfl rfl rfl rfl (by repeat (first | exact Takes.nil | apply Takes.dup rfl | apply Takes.cons | exact Take1.here | apply Take1.there)) ?_ | refine G.callU (caps := []) (Pick_sp p P hP (by omega) (.vec 9 1 go (N.filter (mtB P)).length gc (flat eO (N.filter (mtB P)))) go (N.filter (mtB P)).length gc (N.filter (mtB P)) rfl (by omega) (fun k => Nat.le_trans (getD_le hG8 k) (by omega))) rfl rfl rfl (by repeat (first | exact Takes.nil | apply Takes.dup rfl | apply Takes.cons | exact Take1.here | apply Take1.there)) ?_
      rintro v_ give_ ⟨ho, hm, hc, hhm, rfl, rfl⟩ rs_ hrs_
      simp only [List.cons_append, List.nil_append] at hrs_
      subst hrs_
      rw [filter_twice] at hhm
      rw [filter_twice]
      subst hhm
      repeat (first | (apply G.ex (hd := rfl); case h => (first | exact Ex.move rfl | exact Ex.neI rfl rfl | exact Ex.extract rfl rfl | exact Ex.assign rfl | exact Ex.pickF rfl (by first | assumption | omega) rfl)) | refine G.g_ff rfl rfl (by first | assumption | omega) ?_ | refine G.nil ?_ | refine GC.seq ?_ | refine GC.region ?_ | refine GE.then_normal ?_)
      first | refine G.call (caps := []) (sameTexts_sp (.vec 9 1 go (N.filter (mtB P)).length gc (flat eO (N.filter (mtB P)))) (.vec 9 1 ho (N.filter (mtB P)).length hc (flat eO (N.filter (mtB P)))) go ho (N.filter (mtB P)).length gc hc (N.filter (mtB P)) rfl (by omega)) rfl rfl rfl rfl (by repeat (first | exact Takes.nil | apply Takes.dup rfl | apply Takes.cons | exact Take1.here | apply Take1.there)) ?_ | refine G.callU (caps := []) (sameTexts_sp (.vec 9 1 go (N.filter (mtB P)).length gc (flat eO (N.filter (mtB P)))) (.vec 9 1 ho (N.filter (mtB P)).length hc (flat eO (N.filter (mtB P)))) go ho (N.filter (mtB P)).length gc hc (N.filter (mtB P)) rfl (by omega)) rfl rfl rfl (by repeat (first | exact Takes.nil | apply Takes.dup rfl | apply Takes.cons | exact Take1.here | apply Take1.there)) ?_
      rintro v_ give_ ⟨rfl, rfl⟩ rs_ hrs_
      simp only [List.cons_append, List.nil_append] at hrs_
      subst hrs_
      have htt : ¬ ¬ true = true := fun h => h rfl
      repeat (first | (apply G.ex (hd := rfl); case h => (first | exact Ex.move rfl | exact Ex.notB rfl | exact Ex.pickF rfl (by first | assumption | omega) rfl)) | refine G.g_ff rfl rfl (by first | assumption | omega) ?_)
      first | refine G.call (caps := []) (matches_sp [97] [97] [oneP 97] toks_a (by decide) (by decide)) rfl rfl rfl rfl (by repeat (first | exact Takes.nil | apply Takes.dup rfl | apply Takes.cons | exact Take1.here | apply Take1.there)) ?_ | refine G.callU (caps := []) (matches_sp [97] [97] [oneP 97] toks_a (by decide) (by decide)) rfl rfl rfl (by repeat (first | exact Takes.nil | apply Takes.dup rfl | apply Takes.cons | exact Take1.here | apply Take1.there)) ?_
      rintro v_ give_ ⟨rfl, rfl⟩ rs_ hrs_
      simp only [List.cons_append, List.nil_append] at hrs_
      subst hrs_
      rw [mtB_true.2 mt_a]
      repeat (first | (apply G.ex (hd := rfl); case h => (first | exact Ex.assign rfl | exact Ex.notB rfl | exact Ex.pickF rfl (by first | assumption | omega) rfl)) | refine G.g_ff rfl rfl (by first | assumption | omega) ?_ | refine G.nil ?_ | refine GC.seq ?_ | refine GC.region ?_ | refine GC.block ?_ | refine GC.skip ?_ | refine GE.then_normal ?_ | refine GC.cond_no rfl (by first | assumption | omega) ?_)
      refine GC.loop (ι := Nat × Nat) (fun x => x.1 ≤ i ∧ x.2 = ((N.take x.1).filter (mtB P)).length) (fun x => i - x.1) (fun x => [(5, .string (sOf p)), (6, .slice o i d), (8, .slice go (N.filter (mtB P)).length gc), (12, .int .i64 (x.2 : Int)), (13, .int .i64 (x.1 : Int))]) (fun x => [.vec 9 1 o i d (flat eO N), .vec 9 1 go (N.filter (mtB P)).length gc (flat eO (N.filter (mtB P)))]) (0, 0) ⟨Nat.zero_le _, rfl⟩ (by simp only [fits]; repeat (first | exact trivial | refine And.intro rfl ?_)) (by repeat (first | exact Takes.nil | apply Takes.dup rfl | apply Takes.cons | exact Take1.here | apply Take1.there)) ?_
      rintro ⟨j, k⟩ ⟨hj, hk⟩ fr_ rs_ hfr_ hrs_
      simp only [List.cons_append, List.nil_append] at hfr_ hrs_
      subst hfr_ hrs_
      simp only at hj hk
      by_cases hlt : j < i
      · have hs8 := getD_le hN8 j
        repeat (first | (apply G.ex (hd := rfl); case h => (first | exact Ex.move rfl | exact Ex.lss rfl rfl | exact Ex.lenSl rfl | exact Ex.indexN rfl rfl (by first | omega | (simp; done) | (simp; omega)) | exact Ex.loadT0 rfl (by first | omega | (simp; done) | (simp; omega)) rfl)) | refine G.nil ?_ | refine GC.seq ?_ | refine GC.region ?_ | refine GC.block ?_ | refine GC.skip ?_ | refine GE.then_normal ?_ | refine GC.cond_yes rfl (by first | assumption | omega) ?_)
        first | refine G.call (caps := []) (matches_sp p (N.getD j default) P hP (by omega) (by omega)) rfl rfl rfl rfl (by repeat (first | exact Takes.nil | apply Takes.dup rfl | apply Takes.cons | exact Take1.here | apply Take1.there)) ?_ | refine G.callU (caps := []) (matches_sp p (N.getD j default) P hP (by omega) (by omega)) rfl rfl rfl (by repeat (first | exact Takes.nil | apply Takes.dup rfl | apply Takes.cons | exact Take1.here | apply Take1.there)) ?_
        rintro v_ give_ ⟨rfl, rfl⟩ rs_ hrs_
        simp only [List.cons_append, List.nil_append] at hrs_
        subst hrs_
        cases hm : mtB P (N.getD j default) with
        | false =>
          repeat (first | (apply G.ex (hd := rfl); case h => (first | exact Ex.move rfl | exact Ex.add rfl rfl (by omega) | exact Ex.assign rfl)) | refine G.nil ?_ | refine GC.region ?_ | refine GC.skip ?_ | refine GE.then_normal ?_ | refine GE.block_normal ?_ | refine GC.cond_no rfl (by first | assumption | omega) ?_)
          rw [show (j : Int) + 1 = ((j + 1 : Nat) : Int) by omega]
          refine GE.loop (j + 1, k) ⟨by simp only; omega, by simp only; rw [hk, filter_off (by omega) hm]⟩ (by simp only; omega) (by simp only [fits]; repeat (first | exact trivial | refine And.intro rfl ?_)) (by repeat (first | exact Takes.nil | apply Takes.dup rfl | apply Takes.cons | exact Take1.here | apply Take1.there)) (by repeat (first | exact Subs.refl | refine Subs.skip ?_))
        | true =>
          obtain ⟨q1, q2, q3⟩ := filter_at (by omega) hm
          rw [← hk] at q1 q2 q3
          have q2' : ¬ ¬ (N.filter (mtB P)).getD k default = N.getD j default := fun h => h q2
          have q1' : ¬ (((N.filter (mtB P)).length : Nat) : Int) ≤ (k : Int) := by omega
          repeat (first | (apply G.ex (hd := rfl); case h => (first | exact Ex.move rfl | exact Ex.add rfl rfl (by omega) | exact Ex.assign rfl)) | refine G.nil ?_ | (apply Gq.ex (hd := rfl); case h => (first | exact Ex.move rfl | exact Ex.neO rfl rfl | exact Ex.geq rfl rfl | exact Ex.lenSl rfl | exact Ex.indexN rfl rfl (by first | omega | (simp; done) | (simp; omega)) | exact Ex.loadT0 rfl (by first | omega | (simp; done) | (simp; omega)) rfl | exact Ex.pickF rfl (by first | assumption | omega) rfl)) | refine Gq.g_ff rfl rfl (by first | assumption | omega) ?_ | refine Gq.nil ?_ | refine GC.seq ?_ | refine GC.region ?_ | refine GC.draw (by kernel_rfl) (by kernel_rfl) ?_ | refine GC.skip ?_ | refine GE.then_normal ?_ | refine GE.block_normal ?_ | refine GC.cond_no rfl (by first | assumption | omega) ?_ | refine GC.cond_t rfl ?_)
          rw [show (j : Int) + 1 = ((j + 1 : Nat) : Int) by omega, show (k : Int) + 1 = ((k + 1 : Nat) : Int) by omega]
          refine GE.loop (j + 1, k + 1) ⟨by simp only; omega, by simp only; rw [q3]⟩ (by simp only; omega) (by simp only [fits]; repeat (first | exact trivial | refine And.intro rfl ?_)) (by repeat (first | exact Takes.nil | apply Takes.dup rfl | apply Takes.cons | exact Take1.here | apply Take1.there)) (by repeat (first | exact Subs.refl | refine Subs.skip ?_))
      · obtain rfl : j = i := by omega
        rw [List.take_of_length_le (by omega)] at hk
        repeat (first | (apply G.ex (hd := rfl); case h => (first | exact Ex.move rfl | exact Ex.lss rfl rfl | exact Ex.eqI rfl rfl | exact Ex.lenSl rfl | exact Ex.assign rfl)) | refine G.nil ?_ | refine GC.seq ?_ | refine GC.region ?_ | refine GC.ret ?_ | refine GC.exit ?_ | refine GE.then_normal ?_ | refine GE.then_exit ?_ | refine GE.block_hit ?_ | refine GC.cond_no rfl (by first | assumption | omega) ?_)
        refine GE.ret (by first | exact .inl rfl | exact .inr rfl) (by first | exact res0 Try.results7 | exact res1 Try.results7 rfl | exact res2 Try.results7 rfl rfl | exact resR1 Try.results7 (by first | exact RV.tmp rfl | exact RV.cell rfl (eP_len _) | exact RV.cell rfl rfl | exact RV.cell1 rfl) | exact resR2 Try.results7 (by first | exact RV.tmp rfl | exact RV.cell rfl (eP_len _) | exact RV.cell rfl rfl | exact RV.cell1 rfl) (by first | exact RV.tmp rfl | exact RV.cell rfl (eP_len _) | exact RV.cell rfl rfl | exact RV.cell1 rfl) | exact resR3 Try.results7 (by first | exact RV.tmp rfl | exact RV.cell rfl (eP_len _) | exact RV.cell rfl rfl | exact RV.cell1 rfl) (by first | exact RV.tmp rfl | exact RV.cell rfl (eP_len _) | exact RV.cell rfl rfl | exact RV.cell1 rfl) (by first | exact RV.tmp rfl | exact RV.cell rfl (eP_len _) | exact RV.cell rfl rfl | exact RV.cell1 rfl)) ⟨by rw [hk]; simp, rfl⟩ (by repeat (first | exact Takes.nil | apply Takes.dup rfl | apply Takes.cons | exact Take1.here | apply Take1.there)) (by repeat (first | exact Subs.refl | refine Subs.skip ?_))
  · have hN : ((z1.take i).map nsF).length = i := by rw [List.length_map, List.length_take]; omega
    have hN8 : ∀ x ∈ (z1.take i).map nsF, x.length ≤ 8 := fun x hx => by
      obtain ⟨y, _, rfl⟩ := List.mem_map.1 hx
      exact nsF_len y
    generalize (z1.take i).map nsF = N at *
    have hG8 : ∀ x ∈ N.filter (mtB P), x.length ≤ 8 := fun x hx => hN8 x (List.mem_filter.1 hx).1
    have hGl : (N.filter (mtB P)).length ≤ i := by have := List.length_filter_le (mtB P) N; omega
    repeat (first | (apply G.ex (hd := rfl); case h => (first | exact Ex.move rfl | exact Ex.lss rfl rfl | exact Ex.lenSl rfl | exact Ex.pickF rfl (by first | assumption | omega) rfl)) | refine G.g_tf rfl rfl (by first | assumption | omega) rfl ?_ | refine G.nil ?_ | refine GC.seq ?_ | refine GC.region ?_ | refine GC.exit ?_ | refine GE.then_normal ?_ | refine GE.then_exit ?_ | refine GE.block_hit ?_ | refine GC.cond_f rfl ?_)
    first | refine G.call (caps := []) (Pick_sp p P hP (by omega) (.vec 9 1 o i d (flat eO N)) o i d N hN (by omega) (fun k => Nat.le_trans (getD_le hN8 k) (by omega))) rfl rfl rfl rfl (by repeat (first | exact Takes.nil | apply Takes.dup rfl | apply Takes.cons | exact Take1.here | apply Take1.there)) ?_ | refine G.callU (caps := []) (Pick_sp p P hP (by omega) (.vec 9 1 o i d (flat eO N)) o i d N hN (by omega) (fun k => Nat.le_trans (getD_le hN8 k) (by omega))) rfl rfl rfl (by repeat (first | exact Takes.nil | apply Takes.dup rfl | apply Takes.cons | exact Take1.here | apply Take1.there)) ?_
    rintro v_ give_ ⟨go, gm, gc, hgm, rfl, rfl⟩ rs_ hrs_
    simp only [List.cons_append, List.nil_append] at hrs_
    subst hrs_
    subst hgm
    repeat (first | (apply G.ex (hd := rfl); case h => (first | exact Ex.move rfl | exact Ex.extract rfl rfl | exact Ex.assign rfl)) | refine G.nil ?_ | refine GC.seq ?_ | refine GC.region ?_ | refine GE.then_normal ?_)
    first | refine G.call (caps := []) (Pick_sp p P hP (by omega) (.vec 9 1 go (N.filter (mtB P)).length gc (flat eO (N.filter (mtB P)))) go (N.filter (mtB P)).length gc (N.filter (mtB P)) rfl (by omega) (fun k => Nat.le_trans (getD_le hG8 k) (by omega))) rfl rfl rfl rfl (by repeat (first | exact Takes.nil | apply Takes.dup rfl | apply Takes.cons | exact Take1.here | apply Take1.there)) ?_ | refine G.callU (caps := []) (Pick_sp p P hP (by omega) (.vec 9 1 go (N.filter (mtB P)).length gc (flat eO (N.filter (mtB P)))) go (N.filter (mtB P)).length gc (N.filter (mtB P)) rfl (by omega) (fun k => Nat.le_trans (getD_le hG8 k) (by omega))) rfl rfl rfl (by repeat (first | exact Takes.nil | apply Takes.dup rfl | apply Takes.cons | exact Take1.here | apply Take1.there)) ?_
    rintro v_ give_ ⟨ho, hm, hc, hhm, rfl, rfl⟩ rs_ hrs_
    simp only [List.cons_append, List.nil_append] at hrs_
    subst hrs_
    rw [filter_twice] at hhm
    rw [filter_twice]
    subst hhm
    repeat (first | (apply G.ex (hd := rfl); case h => (first | exact Ex.move rfl | exact Ex.neI rfl rfl | exact Ex.extract rfl rfl | exact Ex.assign rfl | exact Ex.pickF rfl (by first | assumption | omega) rfl)) | refine G.g_ff rfl rfl (by first | assumption | omega) ?_ | refine G.nil ?_ | refine GC.seq ?_ | refine GC.region ?_ | refine GE.then_normal ?_)
    first | refine G.call (caps := []) (sameTexts_sp (.vec 9 1 go (N.filter (mtB P)).length gc (flat eO (N.filter (mtB P)))) (.vec 9 1 ho (N.filter (mtB P)).length hc (flat eO (N.filter (mtB P)))) go ho (N.filter (mtB P)).length gc hc (N.filter (mtB P)) rfl (by omega)) rfl rfl rfl rfl (by repeat (first | exact Takes.nil | apply Takes.dup rfl | apply Takes.cons | exact Take1.here | apply Take1.there)) ?_ | refine G.callU (caps := []) (sameTexts_sp (.vec 9 1 go (N.filter (mtB P)).length gc (flat eO (N.filter (mtB P)))) (.vec 9 1 ho (N.filter (mtB P)).length hc (flat eO (N.filter (mtB P)))) go ho (N.filter (mtB P)).length gc hc (N.filter (mtB P)) rfl (by omega)) rfl rfl rfl (by repeat (first | exact Takes.nil | apply Takes.dup rfl | apply Takes.cons | exact Take1.here | apply Take1.there)) ?_
    rintro v_ give_ ⟨rfl, rfl⟩ rs_ hrs_
    simp only [List.cons_append, List.nil_append] at hrs_
    subst hrs_
    have htt : ¬ ¬ true = true := fun h => h rfl
    repeat (first | (apply G.ex (hd := rfl); case h => (first | exact Ex.move rfl | exact Ex.notB rfl | exact Ex.pickF rfl (by first | assumption | omega) rfl)) | refine G.g_ff rfl rfl (by first | assumption | omega) ?_)
    first | refine G.call (caps := []) (matches_sp [97] [97] [oneP 97] toks_a (by decide) (by decide)) rfl rfl rfl rfl (by repeat (first | exact Takes.nil | apply Takes.dup rfl | apply Takes.cons | exact Take1.here | apply Take1.there)) ?_ | refine G.callU (caps := []) (matches_sp [97] [97] [oneP 97] toks_a (by decide) (by decide)) rfl rfl rfl (by repeat (first | exact Takes.nil | apply Takes.dup rfl | apply Takes.cons | exact Take1.here | apply Take1.there)) ?_
    rintro v_ give_ ⟨rfl, rfl⟩ rs_ hrs_
    simp only [List.cons_append, List.nil_append] at hrs_
    subst hrs_
    rw [mtB_true.2 mt_a]
    repeat (first | (apply G.ex (hd := rfl); case h => (first | exact Ex.assign rfl | exact Ex.notB rfl | exact Ex.pickF rfl (by first | assumption | omega) rfl)) | refine G.g_ff rfl rfl (by first | assumption | omega) ?_ | refine G.nil ?_ | refine GC.seq ?_ | refine GC.region ?_ | refine GC.block ?_ | refine GC.skip ?_ | refine GE.then_normal ?_ | refine GC.cond_no rfl (by first | assumption | omega) ?_)
    refine GC.loop (ι := Nat × Nat) (fun x => x.1 ≤ i ∧ x.2 = ((N.take x.1).filter (mtB P)).length) (fun x => i - x.1) (fun x => [(5, .string (sOf p)), (6, .slice o i d), (8, .slice go (N.filter (mtB P)).length gc), (12, .int .i64 (x.2 : Int)), (13, .int .i64 (x.1 : Int))]) (fun x => [.vec 9 1 o i d (flat eO N), .vec 9 1 go (N.filter (mtB P)).length gc (flat eO (N.filter (mtB P)))]) (0, 0) ⟨Nat.zero_le _, rfl⟩ (by simp only [fits]; repeat (first | exact trivial | refine And.intro rfl ?_)) (by repeat (first | exact Takes.nil | apply Takes.dup rfl | apply Takes.cons | exact Take1.here | apply Take1.there)) ?_
    rintro ⟨j, k⟩ ⟨hj, hk⟩ fr_ rs_ hfr_ hrs_
    simp only [List.cons_append, List.nil_append] at hfr_ hrs_
    subst hfr_ hrs_
    simp only at hj hk
    by_cases hlt : j < i
    · have hs8 := getD_le hN8 j
      repeat (first | (apply G.ex (hd := rfl); case h => (first | exact Ex.move rfl | exact Ex.lss rfl rfl | exact Ex.lenSl rfl | exact Ex.indexN rfl rfl (by first | omega | (simp; done) | (simp; omega)) | exact Ex.loadT0 rfl (by first | omega | (simp; done) | (simp; omega)) rfl)) | refine G.nil ?_ | refine GC.seq ?_ | refine GC.region ?_ | refine GC.block ?_ | refine GC.skip ?_ | refine GE.then_normal ?_ | refine GC.cond_yes rfl (by first | assumption | omega) ?_)
      first | refine G.call (caps := []) (matches_sp p (N.getD j default) P hP (by omega) (by omega)) rfl rfl rfl rfl (by repeat (first | exact Takes.nil | apply Takes.dup rfl | apply Takes.cons | exact Take1.here | apply Take1.there)) ?_ | refine G.callU (caps := []) (matches_sp p (N.getD j default) P hP (by omega) (by omega)) rfl rfl rfl (by repeat (first | exact Takes.nil | apply Takes.dup rfl | apply Takes.cons | exact Take1.here | apply Take1.there)) ?_
      rintro v_ give_ ⟨rfl, rfl⟩ rs_ hrs_
      simp only [List.cons_append, List.nil_append] at hrs_
      subst hrs_
      cases hm : mtB P (N.getD j default) with
      | false =>
        repeat (first | (apply G.ex (hd := rfl); case h => (first | exact Ex.move rfl | exact Ex.add rfl rfl (by omega) | exact Ex.assign rfl)) | refine G.nil ?_ | refine GC.region ?_ | refine GC.skip ?_ | refine GE.then_normal ?_ | refine GE.block_normal ?_ | refine GC.cond_no rfl (by first | assumption | omega) ?_)
        rw [show (j : Int) + 1 = ((j + 1 : Nat) : Int) by omega]
        refine GE.loop (j + 1, k) ⟨by simp only; omega, by simp only; rw [hk, filter_off (by omega) hm]⟩ (by simp only; omega) (by simp only [fits]; repeat (first | exact trivial | refine And.intro rfl ?_)) (by repeat (first | exact Takes.nil | apply Takes.dup rfl | apply Takes.cons | exact Take1.here | apply Take1.there)) (by repeat (first | exact Subs.refl | refine Subs.skip ?_))
      | true =>
        obtain ⟨q1, q2, q3⟩ := filter_at (by omega) hm
        rw [← hk] at q1 q2 q3
        have q2' : ¬ ¬ (N.filter (mtB P)).getD k default = N.getD j default := fun h => h q2
        have q1' : ¬ (((N.filter (mtB P)).length : Nat) : Int) ≤ (k : Int) := by omega
        repeat (first | (apply G.ex (hd := rfl); case h => (first | exact Ex.move rfl | exact Ex.add rfl rfl (by omega) | exact Ex.assign rfl)) | refine G.nil ?_ | (apply Gq.ex (hd := rfl); case h => (first | exact Ex.move rfl | exact Ex.neO rfl rfl | exact Ex.geq rfl rfl | exact Ex.lenSl rfl | exact Ex.indexN rfl rfl (by first | omega | (simp; done) | (simp; omega)) | exact Ex.loadT0 rfl (by first | omega | (simp; done) | (simp; omega)) rfl | exact Ex.pickF rfl (by first | assumption | omega) rfl)) | refine Gq.g_ff rfl rfl (by first | assumption | omega) ?_ | refine Gq.nil ?_ | refine GC.seq ?_ | refine GC.region ?_ | refine GC.draw (by kernel_rfl) (by kernel_rfl) ?_ | refine GC.skip ?_ | refine GE.then_normal ?_ | refine GE.block_normal ?_ | refine GC.cond_no rfl (by first | assumption | omega) ?_ | refine GC.cond_t rfl ?_)
        rw [show (j : Int) + 1 = ((j + 1 : Nat) : Int) by omega, show (k : Int) + 1 = ((k + 1 : Nat) : Int) by omega]
        refine GE.loop (j + 1, k + 1) ⟨by simp only; omega, by simp only; rw [q3]⟩ (by simp only; omega) (by simp only [fits]; repeat (first | exact trivial | refine And.intro rfl ?_)) (by repeat (first | exact Takes.nil | apply Takes.dup rfl | apply Takes.cons | exact Take1.here | apply Take1.there)) (by repeat (first | exact Subs.refl | refine Subs.skip ?_))
    · obtain rfl : j = i := by omega
      rw [List.take_of_length_le (by omega)] at hk
      repeat (first | (apply G.ex (hd := rfl); case h => (first | exact Ex.move rfl | exact Ex.lss rfl rfl | exact Ex.eqI rfl rfl | exact Ex.lenSl rfl | exact Ex.assign rfl)) | refine G.nil ?_ | refine GC.seq ?_ | refine GC.region ?_ | refine GC.ret ?_ | refine GC.exit ?_ | refine GE.then_normal ?_ | refine GE.then_exit ?_ | refine GE.block_hit ?_ | refine GC.cond_no rfl (by first | assumption | omega) ?_)
      refine GE.ret (by first | exact .inl rfl | exact .inr rfl) (by first | exact res0 Try.results7 | exact res1 Try.results7 rfl | exact res2 Try.results7 rfl rfl | exact resR1 Try.results7 (by first | exact RV.tmp rfl | exact RV.cell rfl (eP_len _) | exact RV.cell rfl rfl | exact RV.cell1 rfl) | exact resR2 Try.results7 (by first | exact RV.tmp rfl | exact RV.cell rfl (eP_len _) | exact RV.cell rfl rfl | exact RV.cell1 rfl) (by first | exact RV.tmp rfl | exact RV.cell rfl (eP_len _) | exact RV.cell rfl rfl | exact RV.cell1 rfl) | exact resR3 Try.results7 (by first | exact RV.tmp rfl | exact RV.cell rfl (eP_len _) | exact RV.cell rfl rfl | exact RV.cell1 rfl) (by first | exact RV.tmp rfl | exact RV.cell rfl (eP_len _) | exact RV.cell rfl rfl | exact RV.cell1 rfl) (by first | exact RV.tmp rfl | exact RV.cell rfl (eP_len _) | exact RV.cell rfl rfl | exact RV.cell1 rfl)) ⟨by rw [hk]; simp, rfl⟩ (by repeat (first | exact Takes.nil | apply Takes.dup rfl | apply Takes.cons | exact Take1.here | apply Take1.there)) (by repeat (first | exact Subs.refl | refine Subs.skip ?_))
end glob
end Go.Proofs.Ytmkojbeongiimaa
