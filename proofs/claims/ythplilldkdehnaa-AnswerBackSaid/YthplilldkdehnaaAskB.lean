/-
  CONTRACTS of package msg's parts, one by one: get, by the kit.
-/
import Derived.Test.YthplilldkdehnaaAskA
namespace Go.Proofs.Ythplilldkdehnaa
open Go.RowKit
attribute [local irreducible] Ex G GC GE Gq FPost LPost
set_option linter.unusedVariables false
set_option linter.unusedSimpArgs false

namespace msg
open frame
theorem takeB (l : List UInt8) (w : Nat) : (((flat eB l).drop (0 * 1)).take ((w - 0) * 1)) = flat eB (l.take w) := by
  have := flat_take (enc := eB) (s := 1) inferInstance l w
  simp only [Nat.zero_mul, List.drop_zero, Nat.sub_zero]
  exact this
theorem dropB (l : List UInt8) (n w : Nat) (h : l.length = n) : (((flat eB l).drop (w * 1)).take ((n - w) * 1)) = flat eB (l.drop w) := by
  rw [flat_drop (enc := eB) (s := 1) inferInstance l w, flat_take (enc := eB) (s := 1) inferInstance, List.take_of_length_le (by rw [List.length_drop]; omega)]
set_option maxHeartbeats 1000000 in
theorem getN_sp (w b j : Nat) (hw : w = 1 ∨ w = 2 ∨ w = 4) (v0 : Value) (T : TypeId) (cs : List Value) (hj : cs[j]? = some v0) (ao : Option Addr) (n c : Nat) (l : List UInt8) (hl : l.length = n) (hn : n ≤ 9223372036854775807) :
    Spec Try.prog 26 [.agg (pN w b j).toArray, .slice ao n c] [.blk b T cs, .sl ao n c 1 (flat eB l)] fun v give => (n < w ∧ v = .tuple #[.slice none 0 0, .bool false] ∧ give = [.blk b T cs]) ∨
      (w ≤ n ∧ ∃ ao' c', v = .tuple #[.slice ao' (n - w) c', .bool true] ∧ give = [.blk b T (cs.set j (.int .i64 (num (l.take w) : Int))), .sl ao' (n - w) c' 1 (flat eB (l.drop w))]) := by
  have hjl : Nat.blt j cs.length = true := by rw [Nat.blt_eq]; exact (List.getElem?_eq_some_iff.1 hj).1
  refine Spec.intro Try.func26 rfl Try.ntmps26 rfl fun w0 rest rs_ hrs_ => ?_
  simp only [List.cons_append, List.nil_append] at hrs_
  subst hrs_
  repeat (first | refine GC.seq ?_ | refine GC.region ?_)
  refine G.box rfl rfl rfl (fun q => ?_)
  repeat (first | (apply G.ex (hd := rfl); case h => (first | exact Ex.move rfl | exact Ex.fieldB rfl | exact Ex.loadB rfl rfl | exact Ex.lss rfl rfl | exact Ex.lenSl rfl | exact Ex.assign rfl | exact Ex.eqP0 rfl rfl)) | refine G.nil ?_ | refine GC.seq ?_ | refine GC.region ?_ | refine GC.skip ?_ | refine GE.then_normal ?_ | refine GC.cond_f rfl ?_)
  by_cases h1 : n < w
  · repeat (first | (apply G.ex (hd := rfl); case h => (first | exact Ex.assign rfl)) | refine G.nil ?_ | refine GC.seq ?_ | refine GC.region ?_ | refine GC.ret ?_ | refine GE.then_normal ?_ | refine GE.then_ret ?_ | refine GC.cond_yes rfl (by first | assumption | omega) ?_)
    refine GE.ret (by first | exact .inl rfl | exact .inr rfl) (by first | exact res0 Try.results26 | exact res1 Try.results26 rfl | exact res2 Try.results26 rfl rfl | exact resR1 Try.results26 (by first | exact RV.tmp rfl | exact RV.cell rfl (eP_len _) | exact RV.cell rfl rfl | exact RV.cell1 rfl) | exact resR2 Try.results26 (by first | exact RV.tmp rfl | exact RV.cell rfl (eP_len _) | exact RV.cell rfl rfl | exact RV.cell1 rfl) (by first | exact RV.tmp rfl | exact RV.cell rfl (eP_len _) | exact RV.cell rfl rfl | exact RV.cell1 rfl) | exact resR3 Try.results26 (by first | exact RV.tmp rfl | exact RV.cell rfl (eP_len _) | exact RV.cell rfl rfl | exact RV.cell1 rfl) (by first | exact RV.tmp rfl | exact RV.cell rfl (eP_len _) | exact RV.cell rfl rfl | exact RV.cell1 rfl) (by first | exact RV.tmp rfl | exact RV.cell rfl (eP_len _) | exact RV.cell rfl rfl | exact RV.cell1 rfl)) (.inl ⟨h1, rfl, rfl⟩) (by repeat (first | exact Takes.nil | apply Takes.dup rfl | apply Takes.cons | exact Take1.here | apply Take1.there)) (by repeat (first | exact Subs.refl | refine Subs.skip ?_))
  · repeat (first | (apply G.ex (hd := rfl); case h => (first | exact Ex.move rfl)) | refine GC.seq ?_ | refine GC.region ?_ | refine GC.skip ?_ | refine GE.then_normal ?_ | refine GC.cond_no rfl (by first | assumption | omega) ?_)
    refine G.sub (l := 0) (r := w) rfl rfl (by first | exact .inl ⟨rfl, rfl⟩ | exact .inr ⟨_, _, rfl, ev_int rfl (by omega)⟩) (by first | exact .inl ⟨rfl, rfl⟩ | exact .inr ⟨_, _, rfl, ev_int rfl (by omega)⟩) (by omega) rfl (takeB l w) (fun a1 => ?_)
    simp only [Nat.sub_zero]
    repeat (first | fail)
    first | refine G.call (caps := []) (getw_sp a1 w c (l.take w) (by rw [List.length_take]; omega) (by omega)) rfl rfl rfl rfl (by repeat (first | exact Takes.nil | apply Takes.dup rfl | apply Takes.cons | exact Take1.here | apply Take1.there)) ?_ | refine G.callU (caps := []) (getw_sp a1 w c (l.take w) (by rw [List.length_take]; omega) (by omega)) rfl rfl rfl (by repeat (first | exact Takes.nil | apply Takes.dup rfl | apply Takes.cons | exact Take1.here | apply Take1.there)) ?_
    rintro v_ give_ ⟨rfl, rfl⟩ rs_ hrs_
    simp only [List.cons_append, List.nil_append] at hrs_
    subst hrs_
    repeat (first | (apply G.ex (hd := rfl); case h => (first | exact Ex.move rfl | exact Ex.assign rfl)) | refine G.nil ?_ | refine GC.seq ?_ | refine GC.region ?_ | refine GE.then_normal ?_)
    refine G.sub (l := w) (r := n) rfl rfl (by first | exact .inl ⟨rfl, rfl⟩ | exact .inr ⟨_, _, rfl, ev_int rfl (by omega)⟩) (by first | exact .inl ⟨rfl, rfl⟩ | exact .inr ⟨_, _, rfl, ev_int rfl (by omega)⟩) (by omega) rfl (dropB l n w hl) (fun a2 => ?_)
    repeat (first | (apply G.ex (hd := rfl); case h => (first | exact Ex.move rfl | exact Ex.nilCheck rfl | exact Ex.fieldB rfl | exact Ex.loadB rfl rfl | exact Ex.assign rfl | exact Ex.neP0 rfl rfl)) | refine G.nil ?_ | refine GC.seq ?_ | refine GC.region ?_ | refine GE.then_normal ?_ | refine GC.cond_t rfl ?_)
    refine G.storeB rfl rfl rfl rfl hjl ?_
    repeat (first | (apply G.ex (hd := rfl); case h => (first | exact Ex.move rfl | exact Ex.assign rfl)) | refine G.nil ?_ | refine GC.seq ?_ | refine GC.region ?_ | refine GC.ret ?_ | refine GE.then_normal ?_ | refine GE.then_ret ?_)
    refine GE.ret (by first | exact .inl rfl | exact .inr rfl) (by first | exact res0 Try.results26 | exact res1 Try.results26 rfl | exact res2 Try.results26 rfl rfl | exact resR1 Try.results26 (by first | exact RV.tmp rfl | exact RV.cell rfl (eP_len _) | exact RV.cell rfl rfl | exact RV.cell1 rfl) | exact resR2 Try.results26 (by first | exact RV.tmp rfl | exact RV.cell rfl (eP_len _) | exact RV.cell rfl rfl | exact RV.cell1 rfl) (by first | exact RV.tmp rfl | exact RV.cell rfl (eP_len _) | exact RV.cell rfl rfl | exact RV.cell1 rfl) | exact resR3 Try.results26 (by first | exact RV.tmp rfl | exact RV.cell rfl (eP_len _) | exact RV.cell rfl rfl | exact RV.cell1 rfl) (by first | exact RV.tmp rfl | exact RV.cell rfl (eP_len _) | exact RV.cell rfl rfl | exact RV.cell1 rfl) (by first | exact RV.tmp rfl | exact RV.cell rfl (eP_len _) | exact RV.cell rfl rfl | exact RV.cell1 rfl)) (.inr ⟨by omega, _, _, rfl, rfl⟩) (by repeat (first | exact Takes.nil | apply Takes.dup rfl | apply Takes.cons | exact Take1.here | apply Take1.there)) (by repeat (first | exact Subs.refl | refine Subs.skip ?_))
set_option maxHeartbeats 1000000 in
theorem getT_sp (b j : Nat) (v0 : Value) (T : TypeId) (cs : List Value) (hj : cs[j]? = some v0) (ao : Option Addr) (n c : Nat) (l : List UInt8) (hl : l.length = n) (hn : n ≤ 9223372036854775807) :
    Spec Try.prog 26 [.agg (pT b j).toArray, .slice ao n c] [.blk b T cs, .sl ao n c 1 (flat eB l)] fun v give => ((n < 2 ∨ n - 2 < num (l.take 2)) ∧ v = .tuple #[.slice none 0 0, .bool false] ∧ give = [.blk b T cs]) ∨
      (¬ n < 2 ∧ ¬ n - 2 < num (l.take 2) ∧ ∃ ao' c', v = .tuple #[.slice ao' (n - 2 - num (l.take 2)) c', .bool true] ∧ give = [.blk b T (cs.set j (.string (sOf ((l.drop 2).take (num (l.take 2)))))), .sl ao' (n - 2 - num (l.take 2)) c' 1 (flat eB ((l.drop 2).drop (num (l.take 2))))]) := by
  have hjl : Nat.blt j cs.length = true := by rw [Nat.blt_eq]; exact (List.getElem?_eq_some_iff.1 hj).1
  refine Spec.intro Try.func26 rfl Try.ntmps26 rfl fun w0 rest rs_ hrs_ => ?_
  simp only [List.cons_append, List.nil_append] at hrs_
  subst hrs_
  repeat (first | refine GC.seq ?_ | refine GC.region ?_)
  refine G.box rfl rfl rfl (fun q => ?_)
  repeat (first | (apply G.ex (hd := rfl); case h => (first | exact Ex.move rfl | exact Ex.fieldB rfl | exact Ex.loadB rfl rfl | exact Ex.lss rfl rfl | exact Ex.lenSl rfl | exact Ex.assign rfl | exact Ex.eqP0 rfl rfl)) | refine G.nil ?_ | refine GC.seq ?_ | refine GC.region ?_ | refine GE.then_normal ?_ | refine GC.cond_t rfl ?_)
  by_cases h1 : n < 2
  · repeat (first | (apply G.ex (hd := rfl); case h => (first | exact Ex.assign rfl)) | refine G.nil ?_ | refine GC.seq ?_ | refine GC.region ?_ | refine GC.ret ?_ | refine GE.then_normal ?_ | refine GE.then_ret ?_ | refine GC.cond_yes rfl (by first | assumption | omega) ?_)
    refine GE.ret (by first | exact .inl rfl | exact .inr rfl) (by first | exact res0 Try.results26 | exact res1 Try.results26 rfl | exact res2 Try.results26 rfl rfl | exact resR1 Try.results26 (by first | exact RV.tmp rfl | exact RV.cell rfl (eP_len _) | exact RV.cell rfl rfl | exact RV.cell1 rfl) | exact resR2 Try.results26 (by first | exact RV.tmp rfl | exact RV.cell rfl (eP_len _) | exact RV.cell rfl rfl | exact RV.cell1 rfl) (by first | exact RV.tmp rfl | exact RV.cell rfl (eP_len _) | exact RV.cell rfl rfl | exact RV.cell1 rfl) | exact resR3 Try.results26 (by first | exact RV.tmp rfl | exact RV.cell rfl (eP_len _) | exact RV.cell rfl rfl | exact RV.cell1 rfl) (by first | exact RV.tmp rfl | exact RV.cell rfl (eP_len _) | exact RV.cell rfl rfl | exact RV.cell1 rfl) (by first | exact RV.tmp rfl | exact RV.cell rfl (eP_len _) | exact RV.cell rfl rfl | exact RV.cell1 rfl)) (.inl ⟨.inl h1, rfl, rfl⟩) (by repeat (first | exact Takes.nil | apply Takes.dup rfl | apply Takes.cons | exact Take1.here | apply Take1.there)) (by repeat (first | exact Subs.refl | refine Subs.skip ?_))
  · repeat (first | (apply G.ex (hd := rfl); case h => (first | exact Ex.move rfl)) | refine GC.seq ?_ | refine GC.region ?_ | refine GC.skip ?_ | refine GE.then_normal ?_ | refine GC.cond_no rfl (by first | assumption | omega) ?_)
    refine G.sub (l := 0) (r := 2) rfl rfl (by first | exact .inl ⟨rfl, rfl⟩ | exact .inr ⟨_, _, rfl, ev_int rfl (by omega)⟩) (by first | exact .inl ⟨rfl, rfl⟩ | exact .inr ⟨_, _, rfl, ev_int rfl (by omega)⟩) (by omega) rfl (takeB l 2) (fun a1 => ?_)
    simp only [Nat.sub_zero]
    repeat (first | fail)
    first | refine G.call (caps := []) (getw_sp a1 2 c (l.take 2) (by rw [List.length_take]; omega) (by omega)) rfl rfl rfl rfl (by repeat (first | exact Takes.nil | apply Takes.dup rfl | apply Takes.cons | exact Take1.here | apply Take1.there)) ?_ | refine G.callU (caps := []) (getw_sp a1 2 c (l.take 2) (by rw [List.length_take]; omega) (by omega)) rfl rfl rfl (by repeat (first | exact Takes.nil | apply Takes.dup rfl | apply Takes.cons | exact Take1.here | apply Take1.there)) ?_
    rintro v_ give_ ⟨rfl, rfl⟩ rs_ hrs_
    simp only [List.cons_append, List.nil_append] at hrs_
    subst hrs_
    obtain ⟨N, hN⟩ : ∃ N, num (l.take 2) = N := ⟨_, rfl⟩
    rw [hN]
    repeat (first | (apply G.ex (hd := rfl); case h => (first | exact Ex.move rfl | exact Ex.assign rfl)) | refine G.nil ?_ | refine GC.seq ?_ | refine GC.region ?_ | refine GE.then_normal ?_)
    refine G.sub (l := 2) (r := n) rfl rfl (by first | exact .inl ⟨rfl, rfl⟩ | exact .inr ⟨_, _, rfl, ev_int rfl (by omega)⟩) (by first | exact .inl ⟨rfl, rfl⟩ | exact .inr ⟨_, _, rfl, ev_int rfl (by omega)⟩) (by omega) rfl (dropB l n 2 hl) (fun a2 => ?_)
    by_cases h2 : n - 2 < N
    · repeat (first | (apply G.ex (hd := rfl); case h => (first | exact Ex.move rfl | exact Ex.fieldB rfl | exact Ex.loadB rfl rfl | exact Ex.lss rfl rfl | exact Ex.lenSl rfl | exact Ex.assign rfl | exact Ex.neP0 rfl rfl)) | refine G.nil ?_ | refine GC.seq ?_ | refine GC.region ?_ | refine GC.skip ?_ | refine GC.ret ?_ | refine GE.then_normal ?_ | refine GE.then_ret ?_ | refine GC.cond_yes rfl (by first | assumption | omega) ?_ | refine GC.cond_f rfl ?_)
      refine GE.ret (by first | exact .inl rfl | exact .inr rfl) (by first | exact res0 Try.results26 | exact res1 Try.results26 rfl | exact res2 Try.results26 rfl rfl | exact resR1 Try.results26 (by first | exact RV.tmp rfl | exact RV.cell rfl (eP_len _) | exact RV.cell rfl rfl | exact RV.cell1 rfl) | exact resR2 Try.results26 (by first | exact RV.tmp rfl | exact RV.cell rfl (eP_len _) | exact RV.cell rfl rfl | exact RV.cell1 rfl) (by first | exact RV.tmp rfl | exact RV.cell rfl (eP_len _) | exact RV.cell rfl rfl | exact RV.cell1 rfl) | exact resR3 Try.results26 (by first | exact RV.tmp rfl | exact RV.cell rfl (eP_len _) | exact RV.cell rfl rfl | exact RV.cell1 rfl) (by first | exact RV.tmp rfl | exact RV.cell rfl (eP_len _) | exact RV.cell rfl rfl | exact RV.cell1 rfl) (by first | exact RV.tmp rfl | exact RV.cell rfl (eP_len _) | exact RV.cell rfl rfl | exact RV.cell1 rfl)) (.inl ⟨.inr h2, rfl, rfl⟩) (by repeat (first | exact Takes.nil | apply Takes.dup rfl | apply Takes.cons | exact Take1.here | apply Take1.there)) (by repeat (first | exact Subs.refl | refine Subs.skip ?_))
    · repeat (first | (apply G.ex (hd := rfl); case h => (first | exact Ex.move rfl | exact Ex.fieldB rfl | exact Ex.loadB rfl rfl | exact Ex.lss rfl rfl | exact Ex.lenSl rfl | exact Ex.assign rfl | exact Ex.neP0 rfl rfl)) | refine G.nil ?_ | refine GC.seq ?_ | refine GC.region ?_ | refine GC.skip ?_ | refine GE.then_normal ?_ | refine GC.cond_no rfl (by first | assumption | omega) ?_ | refine GC.cond_t rfl ?_ | refine GC.cond_f rfl ?_)
      refine GC.len a2 (m := n - 2) (c := c - 2) fun hlen => ?_
      refine GC.conv (fun w_ H_ => Holds.slSub 0 N (by omega) (by omega) (H_.take (need := [.sl a2 (n - 2) (c - 2) 1 (flat eB (l.drop 2))]) (by repeat (first | exact Takes.nil | apply Takes.dup rfl | apply Takes.cons | exact Take1.here | apply Take1.there)))) ?_
      try simp only [List.append_eq, List.nil_append, List.cons_append]
      rw [takeB]
      have hpl : ((l.drop 2).take N).length = N - 0 := by rw [List.length_take, List.length_drop]; omega
      refine GC.drawA [] [.blk q 56 (pT b j), .sl (subA a2 (c - 2) 0 1) (N - 0) (c - 2 - 0) 1 (flat eB ((l.drop 2).take N))] (by repeat (first | exact Takes.nil | apply Takes.dup rfl | apply Takes.cons | exact Take1.here | apply Take1.there)) (by kernel_rfl) ?_
      first | (apply GA.take [] (hD := .inl rfl) (hsub := ⟨_, Takes.nil⟩) (i := 0) (hi := rfl) (hs := by kernel_rfl) (hfr := by kernel_rfl) (hr := by kernel_rfl) (hQ := (by repeat (first | exact NoPanic.np | exact NoPanic.fpost | apply NoPanic.then_ | apply NoPanic.block))) (hd := rfl); case hx => (first | exact Ex.fieldB rfl))
      first | (apply GA.take _ (hD := .inr ⟨rfl, by kernel_rfl⟩) (hsub := ⟨_, (by repeat (first | exact Takes.nil | apply Takes.dup rfl | apply Takes.cons | exact Take1.here | apply Take1.there))⟩) (i := 1) (hi := rfl) (hs := by kernel_rfl) (hfr := by kernel_rfl) (hr := by kernel_rfl) (hQ := (by repeat (first | exact NoPanic.np | exact NoPanic.fpost | apply NoPanic.then_ | apply NoPanic.block))) (hd := rfl); case hx => (first | exact Ex.loadB rfl rfl))
      first | (apply GA.take [] (hD := .inl rfl) (hsub := ⟨_, Takes.nil⟩) (i := 2) (hi := rfl) (hs := by kernel_rfl) (hfr := by kernel_rfl) (hr := by kernel_rfl) (hQ := (by repeat (first | exact NoPanic.np | exact NoPanic.fpost | apply NoPanic.then_ | apply NoPanic.block))) (hd := rfl); case hx => (first | exact Ex.move rfl))
      first | (apply GA.take [] (hD := .inl rfl) (hsub := ⟨_, Takes.nil⟩) (i := 3) (hi := rfl) (hs := by kernel_rfl) (hfr := by kernel_rfl) (hr := by kernel_rfl) (hQ := (by repeat (first | exact NoPanic.np | exact NoPanic.fpost | apply NoPanic.then_ | apply NoPanic.block))) (hd := rfl); case hx => (first | exact Ex.move rfl))
      first | (apply GA.take [] (hD := .inl rfl) (hsub := ⟨_, Takes.nil⟩) (i := 4) (hi := rfl) (hs := by kernel_rfl) (hfr := by kernel_rfl) (hr := by kernel_rfl) (hQ := (by repeat (first | exact NoPanic.np | exact NoPanic.fpost | apply NoPanic.then_ | apply NoPanic.block))) (hd := rfl); case hx => (first | exact Ex.slHi rfl rfl (by omega)))
      first | (apply GA.take _ (hD := .inr ⟨rfl, by kernel_rfl⟩) (hsub := ⟨_, (by repeat (first | exact Takes.nil | apply Takes.dup rfl | apply Takes.cons | exact Take1.here | apply Take1.there))⟩) (i := 5) (hi := rfl) (hs := by kernel_rfl) (hfr := by kernel_rfl) (hr := by kernel_rfl) (hQ := (by repeat (first | exact NoPanic.np | exact NoPanic.fpost | apply NoPanic.then_ | apply NoPanic.block))) (hd := rfl); case hx => (first | exact Ex.convBO rfl (by omega)))
      first | (apply GA.take [] (hD := .inl rfl) (hsub := ⟨_, Takes.nil⟩) (i := 6) (hi := rfl) (hs := by kernel_rfl) (hfr := by kernel_rfl) (hr := by kernel_rfl) (hQ := (by repeat (first | exact NoPanic.np | exact NoPanic.fpost | apply NoPanic.then_ | apply NoPanic.block))) (hd := rfl); case hx => (first | exact Ex.nilCheck rfl))
      refine GA.one (i := 7) (by kernel_rfl) rfl ?_
      refine G.storeB rfl rfl rfl rfl hjl ?_
      try refine G.nil ?_
      refine GA.back (by first | exact .inl (by decide) | exact .inr ⟨_, (by repeat (first | exact Takes.nil | apply Takes.dup rfl | apply Takes.cons | exact Take1.here | apply Take1.there))⟩) ?_
      refine GA.done (by kernel_rfl) ?_
      repeat (first | (apply G.ex (hd := rfl); case h => (first | exact Ex.move rfl | exact Ex.assign rfl | exact Ex.slLo rfl rfl (by omega))) | refine G.nil ?_ | refine GC.seq ?_ | refine GC.region ?_ | refine GC.ret ?_ | refine GE.then_normal ?_)
      refine GE.conv (fun w_ H_ => Holds.slSub N (n - 2) (by omega) (by omega) (H_.take (need := [.sl a2 (n - 2) (c - 2) 1 (flat eB (l.drop 2))]) (by repeat (first | exact Takes.nil | apply Takes.dup rfl | apply Takes.cons | exact Take1.here | apply Take1.there)))) ?_
      try simp only [List.append_eq, List.nil_append, List.cons_append]
      rw [dropB (l.drop 2) (n - 2) N (by rw [List.length_drop]; omega)]
      refine GE.ret (by first | exact .inl rfl | exact .inr rfl) (by first | exact res0 Try.results26 | exact res1 Try.results26 rfl | exact res2 Try.results26 rfl rfl | exact resR1 Try.results26 (by first | exact RV.tmp rfl | exact RV.cell rfl (eP_len _) | exact RV.cell rfl rfl | exact RV.cell1 rfl) | exact resR2 Try.results26 (by first | exact RV.tmp rfl | exact RV.cell rfl (eP_len _) | exact RV.cell rfl rfl | exact RV.cell1 rfl) (by first | exact RV.tmp rfl | exact RV.cell rfl (eP_len _) | exact RV.cell rfl rfl | exact RV.cell1 rfl) | exact resR3 Try.results26 (by first | exact RV.tmp rfl | exact RV.cell rfl (eP_len _) | exact RV.cell rfl rfl | exact RV.cell1 rfl) (by first | exact RV.tmp rfl | exact RV.cell rfl (eP_len _) | exact RV.cell rfl rfl | exact RV.cell1 rfl) (by first | exact RV.tmp rfl | exact RV.cell rfl (eP_len _) | exact RV.cell rfl rfl | exact RV.cell1 rfl)) (.inr ⟨h1, h2, _, _, rfl, rfl⟩) (by repeat (first | exact Takes.nil | apply Takes.dup rfl | apply Takes.cons | exact Take1.here | apply Take1.there)) (by repeat (first | exact Subs.refl | refine Subs.skip ?_))
set_option maxHeartbeats 1000000 in
theorem getD_sp (b j : Nat) (v0 : Value) (T : TypeId) (cs : List Value) (hj : cs[j]? = some v0) (ao : Option Addr) (n c : Nat) (l : List UInt8) (hl : l.length = n) (hn : n ≤ 9223372036854775807) :
    Spec Try.prog 26 [.agg (pD b j).toArray, .slice ao n c] [.blk b T cs, .sl ao n c 1 (flat eB l)] fun v give => ((n < 2 ∨ n - 2 < num (l.take 2)) ∧ v = .tuple #[.slice none 0 0, .bool false] ∧ give = [.blk b T cs]) ∨
      (¬ n < 2 ∧ ¬ n - 2 < num (l.take 2) ∧ ∃ ao' c' da dc, v = .tuple #[.slice ao' (n - 2 - num (l.take 2)) c', .bool true] ∧ give = [.blk b T (cs.set j (.slice da (num (l.take 2)) dc)), .sl ao' (n - 2 - num (l.take 2)) c' 1 (flat eB ((l.drop 2).drop (num (l.take 2)))), .sl da (num (l.take 2)) dc 1 (flat eB ((l.drop 2).take (num (l.take 2))))]) := by
  have hjl : Nat.blt j cs.length = true := by rw [Nat.blt_eq]; exact (List.getElem?_eq_some_iff.1 hj).1
  refine Spec.intro Try.func26 rfl Try.ntmps26 rfl fun w0 rest rs_ hrs_ => ?_
  simp only [List.cons_append, List.nil_append] at hrs_
  subst hrs_
  repeat (first | refine GC.seq ?_ | refine GC.region ?_)
  refine G.box rfl rfl rfl (fun q => ?_)
  repeat (first | (apply G.ex (hd := rfl); case h => (first | exact Ex.move rfl | exact Ex.fieldB rfl | exact Ex.loadB rfl rfl | exact Ex.lss rfl rfl | exact Ex.lenSl rfl | exact Ex.assign rfl | exact Ex.eqP0 rfl rfl)) | refine G.nil ?_ | refine GC.seq ?_ | refine GC.region ?_ | refine GE.then_normal ?_ | refine GC.cond_t rfl ?_)
  by_cases h1 : n < 2
  · repeat (first | (apply G.ex (hd := rfl); case h => (first | exact Ex.assign rfl)) | refine G.nil ?_ | refine GC.seq ?_ | refine GC.region ?_ | refine GC.ret ?_ | refine GE.then_normal ?_ | refine GE.then_ret ?_ | refine GC.cond_yes rfl (by first | assumption | omega) ?_)
    refine GE.ret (by first | exact .inl rfl | exact .inr rfl) (by first | exact res0 Try.results26 | exact res1 Try.results26 rfl | exact res2 Try.results26 rfl rfl | exact resR1 Try.results26 (by first | exact RV.tmp rfl | exact RV.cell rfl (eP_len _) | exact RV.cell rfl rfl | exact RV.cell1 rfl) | exact resR2 Try.results26 (by first | exact RV.tmp rfl | exact RV.cell rfl (eP_len _) | exact RV.cell rfl rfl | exact RV.cell1 rfl) (by first | exact RV.tmp rfl | exact RV.cell rfl (eP_len _) | exact RV.cell rfl rfl | exact RV.cell1 rfl) | exact resR3 Try.results26 (by first | exact RV.tmp rfl | exact RV.cell rfl (eP_len _) | exact RV.cell rfl rfl | exact RV.cell1 rfl) (by first | exact RV.tmp rfl | exact RV.cell rfl (eP_len _) | exact RV.cell rfl rfl | exact RV.cell1 rfl) (by first | exact RV.tmp rfl | exact RV.cell rfl (eP_len _) | exact RV.cell rfl rfl | exact RV.cell1 rfl)) (.inl ⟨.inl h1, rfl, rfl⟩) (by repeat (first | exact Takes.nil | apply Takes.dup rfl | apply Takes.cons | exact Take1.here | apply Take1.there)) (by repeat (first | exact Subs.refl | refine Subs.skip ?_))
  · repeat (first | (apply G.ex (hd := rfl); case h => (first | exact Ex.move rfl)) | refine GC.seq ?_ | refine GC.region ?_ | refine GC.skip ?_ | refine GE.then_normal ?_ | refine GC.cond_no rfl (by first | assumption | omega) ?_)
    refine G.sub (l := 0) (r := 2) rfl rfl (by first | exact .inl ⟨rfl, rfl⟩ | exact .inr ⟨_, _, rfl, ev_int rfl (by omega)⟩) (by first | exact .inl ⟨rfl, rfl⟩ | exact .inr ⟨_, _, rfl, ev_int rfl (by omega)⟩) (by omega) rfl (takeB l 2) (fun a1 => ?_)
    simp only [Nat.sub_zero]
    repeat (first | fail)
    first | refine G.call (caps := []) (getw_sp a1 2 c (l.take 2) (by rw [List.length_take]; omega) (by omega)) rfl rfl rfl rfl (by repeat (first | exact Takes.nil | apply Takes.dup rfl | apply Takes.cons | exact Take1.here | apply Take1.there)) ?_ | refine G.callU (caps := []) (getw_sp a1 2 c (l.take 2) (by rw [List.length_take]; omega) (by omega)) rfl rfl rfl (by repeat (first | exact Takes.nil | apply Takes.dup rfl | apply Takes.cons | exact Take1.here | apply Take1.there)) ?_
    rintro v_ give_ ⟨rfl, rfl⟩ rs_ hrs_
    simp only [List.cons_append, List.nil_append] at hrs_
    subst hrs_
    have hNb : num (l.take 2) < 65536 := by
      have h3 := num_lt (l.take 2)
      have h4 : 256 ^ (l.take 2).length ≤ 256 ^ 2 := Nat.pow_le_pow_right (by decide) (by rw [List.length_take]; omega)
      omega
    obtain ⟨N, hN⟩ : ∃ N, num (l.take 2) = N := ⟨_, rfl⟩
    rw [hN] at hNb ⊢
    repeat (first | (apply G.ex (hd := rfl); case h => (first | exact Ex.move rfl | exact Ex.assign rfl)) | refine G.nil ?_ | refine GC.seq ?_ | refine GC.region ?_ | refine GE.then_normal ?_)
    refine G.sub (l := 2) (r := n) rfl rfl (by first | exact .inl ⟨rfl, rfl⟩ | exact .inr ⟨_, _, rfl, ev_int rfl (by omega)⟩) (by first | exact .inl ⟨rfl, rfl⟩ | exact .inr ⟨_, _, rfl, ev_int rfl (by omega)⟩) (by omega) rfl (dropB l n 2 hl) (fun a2 => ?_)
    by_cases h2 : n - 2 < N
    · repeat (first | (apply G.ex (hd := rfl); case h => (first | exact Ex.move rfl | exact Ex.fieldB rfl | exact Ex.loadB rfl rfl | exact Ex.lss rfl rfl | exact Ex.lenSl rfl | exact Ex.assign rfl | exact Ex.neP0 rfl rfl)) | refine G.nil ?_ | refine GC.seq ?_ | refine GC.region ?_ | refine GC.skip ?_ | refine GC.ret ?_ | refine GE.then_normal ?_ | refine GE.then_ret ?_ | refine GC.cond_yes rfl (by first | assumption | omega) ?_ | refine GC.cond_f rfl ?_)
      refine GE.ret (by first | exact .inl rfl | exact .inr rfl) (by first | exact res0 Try.results26 | exact res1 Try.results26 rfl | exact res2 Try.results26 rfl rfl | exact resR1 Try.results26 (by first | exact RV.tmp rfl | exact RV.cell rfl (eP_len _) | exact RV.cell rfl rfl | exact RV.cell1 rfl) | exact resR2 Try.results26 (by first | exact RV.tmp rfl | exact RV.cell rfl (eP_len _) | exact RV.cell rfl rfl | exact RV.cell1 rfl) (by first | exact RV.tmp rfl | exact RV.cell rfl (eP_len _) | exact RV.cell rfl rfl | exact RV.cell1 rfl) | exact resR3 Try.results26 (by first | exact RV.tmp rfl | exact RV.cell rfl (eP_len _) | exact RV.cell rfl rfl | exact RV.cell1 rfl) (by first | exact RV.tmp rfl | exact RV.cell rfl (eP_len _) | exact RV.cell rfl rfl | exact RV.cell1 rfl) (by first | exact RV.tmp rfl | exact RV.cell rfl (eP_len _) | exact RV.cell rfl rfl | exact RV.cell1 rfl)) (.inl ⟨.inr h2, rfl, rfl⟩) (by repeat (first | exact Takes.nil | apply Takes.dup rfl | apply Takes.cons | exact Take1.here | apply Take1.there)) (by repeat (first | exact Subs.refl | refine Subs.skip ?_))
    · repeat (first | (apply G.ex (hd := rfl); case h => (first | exact Ex.move rfl | exact Ex.fieldB rfl | exact Ex.loadB rfl rfl | exact Ex.lss rfl rfl | exact Ex.lenSl rfl | exact Ex.assign rfl | exact Ex.neP0 rfl rfl)) | refine G.nil ?_ | refine GC.seq ?_ | refine GC.region ?_ | refine GC.skip ?_ | refine GE.then_normal ?_ | refine GC.cond_no rfl (by first | assumption | omega) ?_ | refine GC.cond_f rfl ?_)
      refine GC.len a2 (m := n - 2) (c := c - 2) fun hlen => ?_
      refine GC.conv (fun w_ H_ => Holds.slSub 0 N (by omega) (by omega) (H_.take (need := [.sl a2 (n - 2) (c - 2) 1 (flat eB (l.drop 2))]) (by repeat (first | exact Takes.nil | apply Takes.dup rfl | apply Takes.cons | exact Take1.here | apply Take1.there)))) ?_
      try simp only [List.append_eq, List.nil_append, List.cons_append]
      rw [takeB]
      have hpl : ((l.drop 2).take N).length = N - 0 := by rw [List.length_take, List.length_drop]; omega
      refine GC.drawA [] [.blk q 56 (pD b j), .sl (subA a2 (c - 2) 0 1) (N - 0) (c - 2 - 0) 1 (flat eB ((l.drop 2).take N))] (by repeat (first | exact Takes.nil | apply Takes.dup rfl | apply Takes.cons | exact Take1.here | apply Take1.there)) (by kernel_rfl) ?_
      first | (apply GA.take [] (hD := .inl rfl) (hsub := ⟨_, Takes.nil⟩) (i := 0) (hi := rfl) (hs := by kernel_rfl) (hfr := by kernel_rfl) (hr := by kernel_rfl) (hQ := (by repeat (first | exact NoPanic.np | exact NoPanic.fpost | apply NoPanic.then_ | apply NoPanic.block))) (hd := rfl); case hx => (first | exact Ex.fieldB rfl))
      first | (apply GA.take _ (hD := .inr ⟨rfl, by kernel_rfl⟩) (hsub := ⟨_, (by repeat (first | exact Takes.nil | apply Takes.dup rfl | apply Takes.cons | exact Take1.here | apply Take1.there))⟩) (i := 1) (hi := rfl) (hs := by kernel_rfl) (hfr := by kernel_rfl) (hr := by kernel_rfl) (hQ := (by repeat (first | exact NoPanic.np | exact NoPanic.fpost | apply NoPanic.then_ | apply NoPanic.block))) (hd := rfl); case hx => (first | exact Ex.loadB rfl rfl))
      first | (apply GA.take [] (hD := .inl rfl) (hsub := ⟨_, Takes.nil⟩) (i := 2) (hi := rfl) (hs := by kernel_rfl) (hfr := by kernel_rfl) (hr := by kernel_rfl) (hQ := (by repeat (first | exact NoPanic.np | exact NoPanic.fpost | apply NoPanic.then_ | apply NoPanic.block))) (hd := rfl); case hx => (first | exact Ex.move rfl))
      first | (apply GA.take [] (hD := .inl rfl) (hsub := ⟨_, Takes.nil⟩) (i := 3) (hi := rfl) (hs := by kernel_rfl) (hfr := by kernel_rfl) (hr := by kernel_rfl) (hQ := (by repeat (first | exact NoPanic.np | exact NoPanic.fpost | apply NoPanic.then_ | apply NoPanic.block))) (hd := rfl); case hx => (first | exact Ex.move rfl))
      first | (apply GA.take [] (hD := .inl rfl) (hsub := ⟨_, Takes.nil⟩) (i := 4) (hi := rfl) (hs := by kernel_rfl) (hfr := by kernel_rfl) (hr := by kernel_rfl) (hQ := (by repeat (first | exact NoPanic.np | exact NoPanic.fpost | apply NoPanic.then_ | apply NoPanic.block))) (hd := rfl); case hx => (first | exact Ex.slHi rfl rfl (by omega)))
      refine GA.one (i := 5) (by kernel_rfl) rfl ?_
      first | refine G.call (caps := []) (cloneBy_sp (.sl (subA a2 (c - 2) 0 1) (N - 0) (c - 2 - 0) 1 (flat eB ((l.drop 2).take N))) (subA a2 (c - 2) 0 1) (N - 0) (c - 2 - 0) ((l.drop 2).take N) hpl (by omega)) rfl rfl rfl rfl (by repeat (first | exact Takes.nil | apply Takes.dup rfl | apply Takes.cons | exact Take1.here | apply Take1.there)) ?_ | refine G.callU (caps := []) (cloneBy_sp (.sl (subA a2 (c - 2) 0 1) (N - 0) (c - 2 - 0) 1 (flat eB ((l.drop 2).take N))) (subA a2 (c - 2) 0 1) (N - 0) (c - 2 - 0) ((l.drop 2).take N) hpl (by omega)) rfl rfl rfl (by repeat (first | exact Takes.nil | apply Takes.dup rfl | apply Takes.cons | exact Take1.here | apply Take1.there)) ?_
      rintro v_ give_ ⟨da, dc, rfl, rfl⟩ rs_ hrs_
      simp only [List.cons_append, List.nil_append] at hrs_
      subst hrs_
      rw [Nat.sub_zero]
      try refine G.nil ?_
      refine GA.back (by first | exact .inl (by decide) | exact .inr ⟨_, (by repeat (first | exact Takes.nil | apply Takes.dup rfl | apply Takes.cons | exact Take1.here | apply Take1.there))⟩) ?_
      refine GA.one (i := 6) (by kernel_rfl) rfl ?_
      repeat (first | (apply G.ex (hd := rfl); case h => (first | exact Ex.nilCheck rfl)) | refine G.nil ?_)
      try refine G.nil ?_
      refine GA.back (by first | exact .inl (by decide) | exact .inr ⟨_, (by repeat (first | exact Takes.nil | apply Takes.dup rfl | apply Takes.cons | exact Take1.here | apply Take1.there))⟩) ?_
      refine GA.one (i := 7) (by kernel_rfl) rfl ?_
      refine G.storeB rfl rfl rfl rfl hjl ?_
      try refine G.nil ?_
      refine GA.back (by first | exact .inl (by decide) | exact .inr ⟨_, (by repeat (first | exact Takes.nil | apply Takes.dup rfl | apply Takes.cons | exact Take1.here | apply Take1.there))⟩) ?_
      refine GA.done (by kernel_rfl) ?_
      repeat (first | (apply G.ex (hd := rfl); case h => (first | exact Ex.move rfl | exact Ex.assign rfl | exact Ex.slLo rfl rfl (by omega))) | refine G.nil ?_ | refine GC.seq ?_ | refine GC.region ?_ | refine GC.ret ?_ | refine GE.then_normal ?_)
      refine GE.conv (fun w_ H_ => Holds.slSub N (n - 2) (by omega) (by omega) (H_.take (need := [.sl a2 (n - 2) (c - 2) 1 (flat eB (l.drop 2))]) (by repeat (first | exact Takes.nil | apply Takes.dup rfl | apply Takes.cons | exact Take1.here | apply Take1.there)))) ?_
      try simp only [List.append_eq, List.nil_append, List.cons_append]
      rw [dropB (l.drop 2) (n - 2) N (by rw [List.length_drop]; omega)]
      first | refine G.frz da ?_ | refine GC.frz da ?_ | refine GE.frz da ?_
      refine GE.ret (by first | exact .inl rfl | exact .inr rfl) (by first | exact res0 Try.results26 | exact res1 Try.results26 rfl | exact res2 Try.results26 rfl rfl | exact resR1 Try.results26 (by first | exact RV.tmp rfl | exact RV.cell rfl (eP_len _) | exact RV.cell rfl rfl | exact RV.cell1 rfl) | exact resR2 Try.results26 (by first | exact RV.tmp rfl | exact RV.cell rfl (eP_len _) | exact RV.cell rfl rfl | exact RV.cell1 rfl) (by first | exact RV.tmp rfl | exact RV.cell rfl (eP_len _) | exact RV.cell rfl rfl | exact RV.cell1 rfl) | exact resR3 Try.results26 (by first | exact RV.tmp rfl | exact RV.cell rfl (eP_len _) | exact RV.cell rfl rfl | exact RV.cell1 rfl) (by first | exact RV.tmp rfl | exact RV.cell rfl (eP_len _) | exact RV.cell rfl rfl | exact RV.cell1 rfl) (by first | exact RV.tmp rfl | exact RV.cell rfl (eP_len _) | exact RV.cell rfl rfl | exact RV.cell1 rfl)) (.inr ⟨h1, h2, _, _, _, _, rfl, rfl⟩) (by repeat (first | exact Takes.nil | apply Takes.dup rfl | apply Takes.cons | exact Take1.here | apply Take1.there)) (by repeat (first | exact Subs.refl | refine Subs.skip ?_))
end msg
end Go.Proofs.Ythplilldkdehnaa
