/-
  CONTRACTS of who fetches: on, got and Play, by the kit.
-/
import Derived.Test.YtpeidlaejjfmeaaFetchA
namespace Go.Proofs.Ytpeidlaejjfmeaa
open Go.RowKit
attribute [local irreducible] Ex G GC GE Gq FPost LPost
set_option linter.unusedVariables false
set_option linter.unusedSimpArgs false
namespace fetch
theorem flat_cutB (l : List UInt8) (a b : Nat) : ((flat eB l).drop (a * 1)).take ((b - a) * 1) = flat eB ((l.drop a).take (b - a)) := by
  rw [flat_drop (inferInstance : Enc eB 1), flat_take (inferInstance : Enc eB 1)]
set_option maxHeartbeats 8000000 in
theorem on_sp (fb nb : Nat) (f : Fe) (hk : FOk f) (l : List Wa) (hl : l.length ≤ 1) (oo : Option Addr) (oc : Nat) (da : Option Addr) (dc : Nat) (wo : Option Addr) (wc : Nat) :
    Spec Try.prog 10 [.pointer (some (badr fb 0)), .pointer (some (badr nb 0))] [.blk fb 45 [.slice oo (f).out.length oc, .int .i64 (f).front, .int .i64 (f).end_, .slice da (f).data.length dc], .vec 42 2 oo (f).out.length oc (flat eW (f).out), .vec 5 1 da (f).data.length dc (flat eB (f).data), .blk nb 39 [.int .i64 0, .slice wo (l).length wc, .bool false, .slice none 0 0], .vec 42 2 wo (l).length wc (flat eW (l))] fun v give => ∃ oo' oc' wo' wc' xo xc, v = .tuple #[] ∧ give = [.blk fb 45 [.slice oo' ((onF f l).1).out.length oc', .int .i64 ((onF f l).1).front, .int .i64 ((onF f l).1).end_, .slice da ((onF f l).1).data.length dc], .vec 42 2 oo' ((onF f l).1).out.length oc' (flat eW ((onF f l).1).out), .vec 5 1 da ((onF f l).1).data.length dc (flat eB ((onF f l).1).data), .blk nb 39 [.int .i64 0, .slice wo' (onF f l).2.wants.length wc', .bool (onF f l).2.done, .slice xo (onF f l).2.data.length xc], .vec 42 2 wo' ((onF f l).2.wants).length wc' (flat eW ((onF f l).2.wants)), .sl xo (onF f l).2.data.length xc 1 (flat eB (onF f l).2.data)] := by
  refine Spec.intro Try.func10 rfl Try.ntmps10 rfl fun w0 rest rs_ hrs_ => ?_
  simp only [List.cons_append, List.nil_append] at hrs_
  subst hrs_
  repeat (first | refine GC.seq ?_ | refine GC.region ?_)
  refine G.box rfl rfl rfl (fun pb => ?_)
  rw [show (Value.pointer (some (badr fb 0))).cells.toList = [.pointer (some (badr fb 0))] from rfl]
  refine G.nil ?_
  refine GE.then_normal ?_
  first | refine G.nilvec 5 1 ?_ | refine GC.nilvec 5 1 ?_
  first | refine G.frz none ?_ | refine GC.frz none ?_ | refine GE.frz none ?_
  repeat (first | refine GC.seq ?_ | refine GC.block ?_)
  refine GC.loop (ι := Fe × List Wa × (Option Addr × Nat) × (Option Addr × Nat)) (fun x => FOk x.1 ∧ x.2.1.length + 6 ≤ 7 + x.1.out.length ∧ more 6 x.1 x.2.1 = more 6 f l ∧ x.1.data = f.data ∧ x.2.1.length ≤ 100) (fun x => 6 - x.1.out.length) (fun x => [(1, .pointer (some (badr nb 0))), (2, .pointer (some (badr pb 0)))]) (fun x => [.blk pb 43 [.pointer (some (badr fb 0))], .blk fb 45 [.slice x.2.2.1.1 (x.1).out.length x.2.2.1.2, .int .i64 (x.1).front, .int .i64 (x.1).end_, .slice da (x.1).data.length dc], .vec 42 2 x.2.2.1.1 (x.1).out.length x.2.2.1.2 (flat eW (x.1).out), .vec 5 1 da (x.1).data.length dc (flat eB (x.1).data), .blk nb 39 [.int .i64 0, .slice x.2.2.2.1 (x.2.1).length x.2.2.2.2, .bool false, .slice none 0 0], .vec 42 2 x.2.2.2.1 (x.2.1).length x.2.2.2.2 (flat eW (x.2.1)), .sl none 0 0 1 (flat eB [])]) (f, l, (oo, oc), (wo, wc)) ⟨hk, by simp only; omega, rfl, rfl, by simp only; omega⟩ (by simp only [fits]; repeat (first | exact trivial | refine And.intro rfl ?_)) (by repeat (first | exact Takes.nil | apply Takes.dup rfl | apply Takes.cons | exact Take1.here | apply Take1.there)) ?_
  rintro ⟨f1, l1, ⟨o1, c1⟩, ⟨p1, q1⟩⟩ ⟨hk1, hl1, hm, hd, hl2⟩ fr_ rs_ hfr_ hrs_
  simp only [List.cons_append, List.nil_append] at hfr_ hrs_
  subst hfr_ hrs_
  simp only at hk1 hl1 hm hd hl2
  have hlen := hk1.len
  have hf0 := hk1.f0
  by_cases ha : asks f1 = true
  · obtain ⟨a1, a2, a3⟩ := (asks_iff f1).1 ha
    have hstep := more_step (l := l1) ha
    have hk2 := hk1.ask ha
    have e1 : ask1 f1 = { f1 with out := f1.out ++ [(f1.front, 100)], front := f1.front + 100 } := rfl
    have b3 : (f1.out.length : Int) < 6 := by omega
    rcases Decidable.em (f1.end_ < 0) with b1 | b1
    all_goals
      repeat ((fail_if_success (refine GC.draw (id := 2) (by kernel_rfl) (by kernel_rfl) ?_)); first | (apply Gq.ex (hd := rfl); case h => (first | exact Ex.move rfl | exact Ex.nilCheck rfl | exact Ex.fieldB rfl | exact Ex.loadB rfl rfl | exact Ex.lss rfl rfl | exact Ex.leq rfl rfl | exact Ex.lenSl rfl | exact Ex.pickT rfl (by first | assumption | omega) rfl | exact Ex.pickF rfl (by first | assumption | omega) rfl)) | refine Gq.g_tt rfl rfl (by first | assumption | omega) ?_ | refine Gq.g_ft rfl rfl (by first | assumption | omega) rfl ?_ | refine Gq.g_ff rfl rfl (by first | assumption | omega) ?_ | refine Gq.nil ?_ | refine GC.seq ?_ | refine GC.draw (by kernel_rfl) (by kernel_rfl) ?_ | refine GC.block ?_ | refine GC.skip ?_ | refine GE.then_normal ?_ | refine GC.cond_yes rfl (by first | assumption | omega) ?_ | refine GC.cond_t rfl ?_)
      refine GC.drawA [] [.blk pb 43 [.pointer (some (badr fb 0))]] (by repeat (first | exact Takes.nil | apply Takes.dup rfl | apply Takes.cons | exact Take1.here | apply Take1.there)) (by kernel_rfl) ?_
      first | (apply GA.take _ (hD := .inr ⟨rfl, by kernel_rfl⟩) (hsub := ⟨_, (by repeat (first | exact Takes.nil | apply Takes.dup rfl | apply Takes.cons | exact Take1.here | apply Take1.there))⟩) (i := 0) (hi := rfl) (hs := by kernel_rfl) (hfr := by kernel_rfl) (hr := by kernel_rfl) (hQ := (by repeat (first | exact NoPanic.np | exact NoPanic.fpost | apply NoPanic.then_ | apply NoPanic.block))) (hd := rfl); case hx => (first | exact Ex.loadB rfl rfl))
      first | (apply GA.take [] (hD := .inl rfl) (hsub := ⟨_, Takes.nil⟩) (i := 1) (hi := rfl) (hs := by kernel_rfl) (hfr := by kernel_rfl) (hr := by kernel_rfl) (hQ := (by repeat (first | exact NoPanic.np | exact NoPanic.fpost | apply NoPanic.then_ | apply NoPanic.block))) (hd := rfl); case hx => (first | exact Ex.move rfl))
      first | (apply GA.take _ (hD := .inr ⟨rfl, by kernel_rfl⟩) (hsub := ⟨_, (by repeat (first | exact Takes.nil | apply Takes.dup rfl | apply Takes.cons | exact Take1.here | apply Take1.there))⟩) (i := 2) (hi := rfl) (hs := by kernel_rfl) (hfr := by kernel_rfl) (hr := by kernel_rfl) (hQ := (by repeat (first | exact NoPanic.np | exact NoPanic.fpost | apply NoPanic.then_ | apply NoPanic.block))) (hd := rfl); case hx => (first | exact Ex.loadB rfl rfl))
      first | (apply GA.take [] (hD := .inl rfl) (hsub := ⟨_, Takes.nil⟩) (i := 3) (hi := rfl) (hs := by kernel_rfl) (hfr := by kernel_rfl) (hr := by kernel_rfl) (hQ := (by repeat (first | exact NoPanic.np | exact NoPanic.fpost | apply NoPanic.then_ | apply NoPanic.block))) (hd := rfl); case hx => (first | exact Ex.nilCheck rfl))
      first | (apply GA.take [] (hD := .inl rfl) (hsub := ⟨_, Takes.nil⟩) (i := 4) (hi := rfl) (hs := by kernel_rfl) (hfr := by kernel_rfl) (hr := by kernel_rfl) (hQ := (by repeat (first | exact NoPanic.np | exact NoPanic.fpost | apply NoPanic.then_ | apply NoPanic.block))) (hd := rfl); case hx => (first | exact Ex.fieldB rfl))
      refine GA.one (i := 5) (by kernel_rfl) rfl ?_
      first | (apply G.ex (hd := rfl); case h => (first | exact Ex.loadB rfl rfl))
      try refine G.nil ?_
      refine GA.back (by first | exact .inl (by decide) | exact .inr ⟨_, (by repeat (first | exact Takes.nil | apply Takes.dup rfl | apply Takes.cons | exact Take1.here | apply Take1.there))⟩) ?_
      first | (apply GA.take [] (hD := .inl rfl) (hsub := ⟨_, Takes.nil⟩) (i := 6) (hi := rfl) (hs := by kernel_rfl) (hfr := by kernel_rfl) (hr := by kernel_rfl) (hQ := (by repeat (first | exact NoPanic.np | exact NoPanic.fpost | apply NoPanic.then_ | apply NoPanic.block))) (hd := rfl); case hx => (first | exact Ex.build rfl rfl))
      refine GA.one (i := 7) (by kernel_rfl) rfl ?_
      first | refine G.call (caps := []) (ask_sp fb nb f1 l1 (f1.front, 100) (by omega) (by omega) o1 c1 da dc p1 q1) rfl rfl rfl rfl (by repeat (first | exact Takes.nil | apply Takes.dup rfl | apply Takes.cons | exact Take1.here | apply Take1.there)) ?_ | refine G.callU (caps := []) (ask_sp fb nb f1 l1 (f1.front, 100) (by omega) (by omega) o1 c1 da dc p1 q1) rfl rfl rfl (by repeat (first | exact Takes.nil | apply Takes.dup rfl | apply Takes.cons | exact Take1.here | apply Take1.there)) ?_
      rintro v_ give_ ⟨o2, c2, p2, q2, rfl, rfl⟩ rs_ hrs_
      simp only [List.cons_append, List.nil_append] at hrs_
      subst hrs_
      try refine G.nil ?_
      refine GA.back (by first | exact .inl (by decide) | exact .inr ⟨_, (by repeat (first | exact Takes.nil | apply Takes.dup rfl | apply Takes.cons | exact Take1.here | apply Take1.there))⟩) ?_
      refine GA.done (by kernel_rfl) ?_
      repeat (first | refine G.storeB rfl rfl rfl rfl rfl ?_ | (apply G.ex (hd := rfl); case h => (first | exact Ex.nilCheck rfl | exact Ex.fieldB rfl | exact Ex.loadB rfl rfl | exact Ex.add rfl rfl (by omega))) | refine G.nil ?_ | refine GC.region ?_ | refine GE.then_normal ?_ | refine GE.block_normal ?_)
      refine GE.loop (ask1 f1, l1 ++ [(f1.front, 100)], (o2, c2), (p2, q2)) ⟨hk2, by simp only [ask1, List.length_append, List.length_singleton]; omega, by rw [← hm]; exact hstep.symm, hd, by simp only [List.length_append, List.length_singleton]; omega⟩ (by simp only [ask1, List.length_append, List.length_singleton]; omega) (by simp only [fits]; repeat (first | exact trivial | refine And.intro rfl ?_)) (by repeat (first | exact Takes.nil | apply Takes.dup rfl | apply Takes.cons | exact Take1.here | apply Take1.there)) (by repeat (first | exact Subs.refl | refine Subs.skip ?_))
  · have ha' : asks f1 = false := by simpa using ha
    have hon : onF f l = (f1, ⟨0, l1, fin f1, if fin f1 = true then f1.data.take (min f1.end_ (f1.data.length : Int)).toNat else []⟩) := by
      unfold onF
      rw [← hm, more_fix ha']
    have hno : ¬ (f1.out.length < 6 ∧ f1.front ≤ 2048 ∧ (f1.end_ < 0 ∨ f1.front < f1.end_)) := fun h => ha ((asks_iff f1).2 h)
    rw [hon]
    have hkd := hk1.d0
    have hke := hk1.e0
    have hcase : ¬ ((f1.out.length : Int) < 6) ∨ ((f1.out.length : Int) < 6 ∧ ¬ f1.front ≤ 2048) ∨ ((f1.out.length : Int) < 6 ∧ f1.front ≤ 2048 ∧ ¬ f1.end_ < 0 ∧ ¬ f1.front < f1.end_) := by omega
    rcases hcase with b1 | ⟨b1, b2⟩ | ⟨b1, b2, b3, b4⟩
    all_goals
      by_cases he : 0 ≤ f1.end_
      · repeat ((fail_if_success (refine GC.draw (id := 6) (by kernel_rfl) (by kernel_rfl) ?_)); first | (apply G.ex (hd := rfl); case h => (first | exact Ex.move rfl | exact Ex.nilCheck rfl | exact Ex.fieldB rfl | exact Ex.loadB rfl rfl | exact Ex.geq rfl rfl | exact Ex.assign rfl | exact Ex.mkFunc rfl)) | refine G.g_tt rfl rfl (by first | assumption | omega) ?_ | refine G.nil ?_ | (apply Gq.ex (hd := rfl); case h => (first | exact Ex.move rfl | exact Ex.nilCheck rfl | exact Ex.fieldB rfl | exact Ex.loadB rfl rfl | exact Ex.lss rfl rfl | exact Ex.leq rfl rfl | exact Ex.lenSl rfl | exact Ex.pickT rfl (by first | assumption | omega) rfl | exact Ex.pickF rfl (by first | assumption | omega) rfl | exact Ex.pickLF rfl rfl)) | refine Gq.g_tt rfl rfl (by first | assumption | omega) ?_ | refine Gq.g_tf rfl rfl (by first | assumption | omega) rfl ?_ | refine Gq.g_ff rfl rfl (by first | assumption | omega) ?_ | refine Gq.g_un rfl rfl rfl ?_ | refine Gq.l_tf rfl rfl rfl ?_ | refine Gq.nil ?_ | refine GC.seq ?_ | refine GC.region ?_ | refine GC.draw (by kernel_rfl) (by kernel_rfl) ?_ | refine GC.exit ?_ | refine GE.then_normal ?_ | refine GE.then_exit ?_ | refine GE.block_hit ?_ | refine GC.cond_no rfl (by first | assumption | omega) ?_ | refine GC.cond_f rfl ?_)
        first | refine G.call (caps := []) (contains_sp fb pb f1 o1 c1 da dc o1 f1.out.length c1 f1.out rfl (by omega)) rfl rfl rfl rfl (by repeat (first | exact Takes.nil | apply Takes.dup rfl | apply Takes.cons | exact Take1.here | apply Take1.there)) ?_ | refine G.callU (caps := []) (contains_sp fb pb f1 o1 c1 da dc o1 f1.out.length c1 f1.out rfl (by omega)) rfl rfl rfl (by repeat (first | exact Takes.nil | apply Takes.dup rfl | apply Takes.cons | exact Take1.here | apply Take1.there)) ?_
        rintro v_ give_ ⟨rfl, rfl⟩ rs_ hrs_
        simp only [List.cons_append, List.nil_append] at hrs_
        subst hrs_
        cases hany : f1.out.any (opn f1) with
        | true =>
          have htt : ¬ ¬ true = true := fun h => h rfl
          have hfin : fin f1 = false := by unfold fin; rw [hany]; simp
          rw [hfin]
          repeat (first | (apply G.ex (hd := rfl); case h => (first | exact Ex.notB rfl | exact Ex.pickT rfl (by first | assumption | omega) rfl)) | refine G.g_tt rfl rfl (by first | assumption | omega) ?_ | refine G.nil ?_ | refine GC.skip ?_ | refine GE.then_normal ?_ | refine GC.cond_no rfl (by first | assumption | omega) ?_)
          refine GE.ret (by first | exact .inl rfl | exact .inr rfl) (by first | exact res0 Try.results10 | exact res1 Try.results10 rfl | exact res2 Try.results10 rfl rfl | exact resR1 Try.results10 (by first | exact RV.tmp rfl | exact RV.cell rfl (eP_len _) | exact RV.cell rfl rfl | exact RV.cell1 rfl) | exact resR2 Try.results10 (by first | exact RV.tmp rfl | exact RV.cell rfl (eP_len _) | exact RV.cell rfl rfl | exact RV.cell1 rfl) (by first | exact RV.tmp rfl | exact RV.cell rfl (eP_len _) | exact RV.cell rfl rfl | exact RV.cell1 rfl) | exact resR3 Try.results10 (by first | exact RV.tmp rfl | exact RV.cell rfl (eP_len _) | exact RV.cell rfl rfl | exact RV.cell1 rfl) (by first | exact RV.tmp rfl | exact RV.cell rfl (eP_len _) | exact RV.cell rfl rfl | exact RV.cell1 rfl) (by first | exact RV.tmp rfl | exact RV.cell rfl (eP_len _) | exact RV.cell rfl rfl | exact RV.cell1 rfl)) ⟨o1, c1, p1, q1, none, 0, rfl, rfl⟩ (by repeat (first | exact Takes.nil | apply Takes.dup rfl | apply Takes.cons | exact Take1.here | apply Take1.there)) (by repeat (first | exact Subs.refl | refine Subs.skip ?_))
        | false =>
          have hff : ¬ false = true := by decide
          have hfin : fin f1 = true := by unfold fin; rw [hany, decide_eq_true he]; rfl
          rw [hfin, if_pos rfl]
          obtain ⟨z, hz⟩ : ∃ z : Nat, min f1.end_ (f1.data.length : Int) = (z : Int) := ⟨(min f1.end_ (f1.data.length : Int)).toNat, by omega⟩
          have hzl : z ≤ f1.data.length := by omega
          rw [hz, Int.toNat_natCast]
          have hdl : f.data.length = f1.data.length := by rw [hd]
          have hcut : (f1.data.drop 0).take (z - 0) = f1.data.take z := by rw [List.drop_zero, Nat.sub_zero]
          have hRd : RdR (.vec 5 1 da (f1).data.length dc (flat eB (f1).data)) (subA da dc 0 1) (z - 0) (dc - 0) 1 (flat eB (f1.data.take z)) := by
            rw [← hcut, ← flat_cutB]; exact RdR.piece 0 z (Nat.zero_le _) hzl
          have hxl : (f1.data.take z).length = z - 0 := by rw [List.length_take]; omega
          refine G.len (m := f1.data.length) (c := dc) da fun ⟨hq1, hq2, hq3⟩ => ?_
          repeat ((fail_if_success (refine GC.draw (id := 6) (by kernel_rfl) (by kernel_rfl) ?_)); first | (apply G.ex (hd := rfl); case h => (first | exact Ex.notB rfl | exact Ex.pickT rfl (by first | assumption | omega) rfl)) | refine G.g_tt rfl rfl (by first | assumption | omega) ?_ | refine G.nil ?_ | refine GE.then_normal ?_ | refine GC.cond_yes rfl (by first | assumption | omega) ?_)
          refine GC.drawA [] [.blk pb 43 [.pointer (some (badr fb 0))], .blk fb 45 [.slice o1 (f1).out.length c1, .int .i64 (f1).front, .int .i64 (f1).end_, .slice da (f1).data.length dc]] (by repeat (first | exact Takes.nil | apply Takes.dup rfl | apply Takes.cons | exact Take1.here | apply Take1.there)) (by kernel_rfl) ?_
          first | (apply GA.take [] (hD := .inl rfl) (hsub := ⟨_, Takes.nil⟩) (i := 0) (hi := rfl) (hs := by kernel_rfl) (hfr := by kernel_rfl) (hr := by kernel_rfl) (hQ := (by repeat (first | exact NoPanic.np | exact NoPanic.fpost | apply NoPanic.then_ | apply NoPanic.block))) (hd := rfl); case hx => (first | exact Ex.move rfl))
          first | (apply GA.take [] (hD := .inl rfl) (hsub := ⟨_, Takes.nil⟩) (i := 1) (hi := rfl) (hs := by kernel_rfl) (hfr := by kernel_rfl) (hr := by kernel_rfl) (hQ := (by repeat (first | exact NoPanic.np | exact NoPanic.fpost | apply NoPanic.then_ | apply NoPanic.block))) (hd := rfl); case hx => (first | exact Ex.move rfl))
          first | (apply GA.take _ (hD := .inr ⟨rfl, by kernel_rfl⟩) (hsub := ⟨_, (by repeat (first | exact Takes.nil | apply Takes.dup rfl | apply Takes.cons | exact Take1.here | apply Take1.there))⟩) (i := 2) (hi := rfl) (hs := by kernel_rfl) (hfr := by kernel_rfl) (hr := by kernel_rfl) (hQ := (by repeat (first | exact NoPanic.np | exact NoPanic.fpost | apply NoPanic.then_ | apply NoPanic.block))) (hd := rfl); case hx => (first | exact Ex.loadB rfl rfl))
          first | (apply GA.take [] (hD := .inl rfl) (hsub := ⟨_, Takes.nil⟩) (i := 3) (hi := rfl) (hs := by kernel_rfl) (hfr := by kernel_rfl) (hr := by kernel_rfl) (hQ := (by repeat (first | exact NoPanic.np | exact NoPanic.fpost | apply NoPanic.then_ | apply NoPanic.block))) (hd := rfl); case hx => (first | exact Ex.nilCheck rfl))
          first | (apply GA.take [] (hD := .inl rfl) (hsub := ⟨_, Takes.nil⟩) (i := 4) (hi := rfl) (hs := by kernel_rfl) (hfr := by kernel_rfl) (hr := by kernel_rfl) (hQ := (by repeat (first | exact NoPanic.np | exact NoPanic.fpost | apply NoPanic.then_ | apply NoPanic.block))) (hd := rfl); case hx => (first | exact Ex.fieldB rfl))
          first | (apply GA.take _ (hD := .inr ⟨rfl, by kernel_rfl⟩) (hsub := ⟨_, (by repeat (first | exact Takes.nil | apply Takes.dup rfl | apply Takes.cons | exact Take1.here | apply Take1.there))⟩) (i := 5) (hi := rfl) (hs := by kernel_rfl) (hfr := by kernel_rfl) (hr := by kernel_rfl) (hQ := (by repeat (first | exact NoPanic.np | exact NoPanic.fpost | apply NoPanic.then_ | apply NoPanic.block))) (hd := rfl); case hx => (first | exact Ex.loadB rfl rfl))
          first | (apply GA.take _ (hD := .inr ⟨rfl, by kernel_rfl⟩) (hsub := ⟨_, (by repeat (first | exact Takes.nil | apply Takes.dup rfl | apply Takes.cons | exact Take1.here | apply Take1.there))⟩) (i := 6) (hi := rfl) (hs := by kernel_rfl) (hfr := by kernel_rfl) (hr := by kernel_rfl) (hQ := (by repeat (first | exact NoPanic.np | exact NoPanic.fpost | apply NoPanic.then_ | apply NoPanic.block))) (hd := rfl); case hx => (first | exact Ex.loadB rfl rfl))
          first | (apply GA.take [] (hD := .inl rfl) (hsub := ⟨_, Takes.nil⟩) (i := 7) (hi := rfl) (hs := by kernel_rfl) (hfr := by kernel_rfl) (hr := by kernel_rfl) (hQ := (by repeat (first | exact NoPanic.np | exact NoPanic.fpost | apply NoPanic.then_ | apply NoPanic.block))) (hd := rfl); case hx => (first | exact Ex.nilCheck rfl))
          first | (apply GA.take [] (hD := .inl rfl) (hsub := ⟨_, Takes.nil⟩) (i := 8) (hi := rfl) (hs := by kernel_rfl) (hfr := by kernel_rfl) (hr := by kernel_rfl) (hQ := (by repeat (first | exact NoPanic.np | exact NoPanic.fpost | apply NoPanic.then_ | apply NoPanic.block))) (hd := rfl); case hx => (first | exact Ex.fieldB rfl))
          first | (apply GA.take _ (hD := .inr ⟨rfl, by kernel_rfl⟩) (hsub := ⟨_, (by repeat (first | exact Takes.nil | apply Takes.dup rfl | apply Takes.cons | exact Take1.here | apply Take1.there))⟩) (i := 9) (hi := rfl) (hs := by kernel_rfl) (hfr := by kernel_rfl) (hr := by kernel_rfl) (hQ := (by repeat (first | exact NoPanic.np | exact NoPanic.fpost | apply NoPanic.then_ | apply NoPanic.block))) (hd := rfl); case hx => (first | exact Ex.loadB rfl rfl))
          first | (apply GA.take _ (hD := .inr ⟨rfl, by kernel_rfl⟩) (hsub := ⟨_, (by repeat (first | exact Takes.nil | apply Takes.dup rfl | apply Takes.cons | exact Take1.here | apply Take1.there))⟩) (i := 10) (hi := rfl) (hs := by kernel_rfl) (hfr := by kernel_rfl) (hr := by kernel_rfl) (hQ := (by repeat (first | exact NoPanic.np | exact NoPanic.fpost | apply NoPanic.then_ | apply NoPanic.block))) (hd := rfl); case hx => (first | exact Ex.loadB rfl rfl))
          first | (apply GA.take [] (hD := .inl rfl) (hsub := ⟨_, Takes.nil⟩) (i := 11) (hi := rfl) (hs := by kernel_rfl) (hfr := by kernel_rfl) (hr := by kernel_rfl) (hQ := (by repeat (first | exact NoPanic.np | exact NoPanic.fpost | apply NoPanic.then_ | apply NoPanic.block))) (hd := rfl); case hx => (first | exact Ex.nilCheck rfl))
          first | (apply GA.take [] (hD := .inl rfl) (hsub := ⟨_, Takes.nil⟩) (i := 12) (hi := rfl) (hs := by kernel_rfl) (hfr := by kernel_rfl) (hr := by kernel_rfl) (hQ := (by repeat (first | exact NoPanic.np | exact NoPanic.fpost | apply NoPanic.then_ | apply NoPanic.block))) (hd := rfl); case hx => (first | exact Ex.fieldB rfl))
          first | (apply GA.take _ (hD := .inr ⟨rfl, by kernel_rfl⟩) (hsub := ⟨_, (by repeat (first | exact Takes.nil | apply Takes.dup rfl | apply Takes.cons | exact Take1.here | apply Take1.there))⟩) (i := 13) (hi := rfl) (hs := by kernel_rfl) (hfr := by kernel_rfl) (hr := by kernel_rfl) (hQ := (by repeat (first | exact NoPanic.np | exact NoPanic.fpost | apply NoPanic.then_ | apply NoPanic.block))) (hd := rfl); case hx => (first | exact Ex.loadB rfl rfl))
          first | (apply GA.take [] (hD := .inl rfl) (hsub := ⟨_, Takes.nil⟩) (i := 14) (hi := rfl) (hs := by kernel_rfl) (hfr := by kernel_rfl) (hr := by kernel_rfl) (hQ := (by repeat (first | exact NoPanic.np | exact NoPanic.fpost | apply NoPanic.then_ | apply NoPanic.block))) (hd := rfl); case hx => (first | exact Ex.lenSl rfl))
          apply GA.take [] (hD := .inl rfl) (hsub := ⟨_, Takes.nil⟩) (i := 15) (hi := rfl) (hs := by kernel_rfl) (hfr := by kernel_rfl) (hr := by kernel_rfl) (hQ := (by repeat (first | exact NoPanic.np | exact NoPanic.fpost | apply NoPanic.then_ | apply NoPanic.block))) (hd := rfl) (hx := (Ex.min rfl rfl))
          rw [hz]
          first | (apply GA.take [] (hD := .inl rfl) (hsub := ⟨_, Takes.nil⟩) (i := 16) (hi := rfl) (hs := by kernel_rfl) (hfr := by kernel_rfl) (hr := by kernel_rfl) (hQ := (by repeat (first | exact NoPanic.np | exact NoPanic.fpost | apply NoPanic.then_ | apply NoPanic.block))) (hd := rfl); case hx => (first | exact Ex.slHi rfl rfl (by omega)))
          refine GA.one (i := 17) (by kernel_rfl) rfl ?_
          first | refine G.call (caps := []) (cloneB_sp (.vec 5 1 da (f1).data.length dc (flat eB (f1).data)) (hr := hRd) (subA da dc 0 1) (z - 0) (dc - 0) (f1.data.take z) hxl (by omega)) rfl rfl rfl rfl (by repeat (first | exact Takes.nil | apply Takes.dup rfl | apply Takes.cons | exact Take1.here | apply Take1.there)) ?_ | refine G.callU (caps := []) (cloneB_sp (.vec 5 1 da (f1).data.length dc (flat eB (f1).data)) (hr := hRd) (subA da dc 0 1) (z - 0) (dc - 0) (f1.data.take z) hxl (by omega)) rfl rfl rfl (by repeat (first | exact Takes.nil | apply Takes.dup rfl | apply Takes.cons | exact Take1.here | apply Take1.there)) ?_
          rintro v_ give_ ⟨xo, xc, rfl, rfl⟩ rs_ hrs_
          simp only [List.cons_append, List.nil_append] at hrs_
          subst hrs_
          try refine G.nil ?_
          refine GA.back (by first | exact .inl (by decide) | exact .inr ⟨_, (by repeat (first | exact Takes.nil | apply Takes.dup rfl | apply Takes.cons | exact Take1.here | apply Take1.there))⟩) ?_
          first | (apply GA.take [] (hD := .inl rfl) (hsub := ⟨_, Takes.nil⟩) (i := 18) (hi := rfl) (hs := by kernel_rfl) (hfr := by kernel_rfl) (hr := by kernel_rfl) (hQ := (by repeat (first | exact NoPanic.np | exact NoPanic.fpost | apply NoPanic.then_ | apply NoPanic.block))) (hd := rfl); case hx => (first | exact Ex.nilCheck rfl))
          first | (apply GA.take [] (hD := .inl rfl) (hsub := ⟨_, Takes.nil⟩) (i := 19) (hi := rfl) (hs := by kernel_rfl) (hfr := by kernel_rfl) (hr := by kernel_rfl) (hQ := (by repeat (first | exact NoPanic.np | exact NoPanic.fpost | apply NoPanic.then_ | apply NoPanic.block))) (hd := rfl); case hx => (first | exact Ex.fieldB rfl))
          refine GA.one (i := 20) (by kernel_rfl) rfl ?_
          first | refine G.storeB rfl rfl rfl rfl rfl ?_
          try refine G.nil ?_
          refine GA.back (by first | exact .inl (by decide) | exact .inr ⟨_, (by repeat (first | exact Takes.nil | apply Takes.dup rfl | apply Takes.cons | exact Take1.here | apply Take1.there))⟩) ?_
          first | (apply GA.take [] (hD := .inl rfl) (hsub := ⟨_, Takes.nil⟩) (i := 21) (hi := rfl) (hs := by kernel_rfl) (hfr := by kernel_rfl) (hr := by kernel_rfl) (hQ := (by repeat (first | exact NoPanic.np | exact NoPanic.fpost | apply NoPanic.then_ | apply NoPanic.block))) (hd := rfl); case hx => (first | exact Ex.nilCheck rfl))
          first | (apply GA.take [] (hD := .inl rfl) (hsub := ⟨_, Takes.nil⟩) (i := 22) (hi := rfl) (hs := by kernel_rfl) (hfr := by kernel_rfl) (hr := by kernel_rfl) (hQ := (by repeat (first | exact NoPanic.np | exact NoPanic.fpost | apply NoPanic.then_ | apply NoPanic.block))) (hd := rfl); case hx => (first | exact Ex.fieldB rfl))
          refine GA.one (i := 23) (by kernel_rfl) rfl ?_
          first | refine G.storeB rfl rfl rfl rfl rfl ?_
          try refine G.nil ?_
          refine GA.back (by first | exact .inl (by decide) | exact .inr ⟨_, (by repeat (first | exact Takes.nil | apply Takes.dup rfl | apply Takes.cons | exact Take1.here | apply Take1.there))⟩) ?_
          refine GA.done (by kernel_rfl) ?_
          first | refine G.frz xo ?_ | refine GC.frz xo ?_ | refine GE.frz xo ?_
          repeat (first | fail)
          rw [← hxl]
          refine GE.ret (by first | exact .inl rfl | exact .inr rfl) (by first | exact res0 Try.results10 | exact res1 Try.results10 rfl | exact res2 Try.results10 rfl rfl | exact resR1 Try.results10 (by first | exact RV.tmp rfl | exact RV.cell rfl (eP_len _) | exact RV.cell rfl rfl | exact RV.cell1 rfl) | exact resR2 Try.results10 (by first | exact RV.tmp rfl | exact RV.cell rfl (eP_len _) | exact RV.cell rfl rfl | exact RV.cell1 rfl) (by first | exact RV.tmp rfl | exact RV.cell rfl (eP_len _) | exact RV.cell rfl rfl | exact RV.cell1 rfl) | exact resR3 Try.results10 (by first | exact RV.tmp rfl | exact RV.cell rfl (eP_len _) | exact RV.cell rfl rfl | exact RV.cell1 rfl) (by first | exact RV.tmp rfl | exact RV.cell rfl (eP_len _) | exact RV.cell rfl rfl | exact RV.cell1 rfl) (by first | exact RV.tmp rfl | exact RV.cell rfl (eP_len _) | exact RV.cell rfl rfl | exact RV.cell1 rfl)) ⟨o1, c1, p1, q1, xo, xc, rfl, rfl⟩ (by repeat (first | exact Takes.nil | apply Takes.dup rfl | apply Takes.cons | exact Take1.here | apply Take1.there)) (by repeat (first | exact Subs.refl | refine Subs.skip ?_))
      · have hfin : fin f1 = false := by unfold fin; rw [decide_eq_false he]; rfl
        try (exfalso; omega)
        all_goals
          rw [hfin]
          repeat (first | (apply G.ex (hd := rfl); case h => (first | exact Ex.move rfl | exact Ex.nilCheck rfl | exact Ex.fieldB rfl | exact Ex.loadB rfl rfl | exact Ex.geq rfl rfl | exact Ex.assign rfl | exact Ex.pickF rfl (by first | assumption | omega) rfl | exact Ex.mkFunc rfl)) | refine G.g_tf rfl rfl (by first | assumption | omega) rfl ?_ | refine G.nil ?_ | (apply Gq.ex (hd := rfl); case h => (first | exact Ex.move rfl | exact Ex.nilCheck rfl | exact Ex.fieldB rfl | exact Ex.loadB rfl rfl | exact Ex.lss rfl rfl | exact Ex.leq rfl rfl | exact Ex.lenSl rfl | exact Ex.pickT rfl (by first | assumption | omega) rfl | exact Ex.pickF rfl (by first | assumption | omega) rfl | exact Ex.pickLF rfl rfl)) | refine Gq.g_tt rfl rfl (by first | assumption | omega) ?_ | refine Gq.g_tf rfl rfl (by first | assumption | omega) rfl ?_ | refine Gq.g_un rfl rfl rfl ?_ | refine Gq.l_tf rfl rfl rfl ?_ | refine Gq.nil ?_ | refine GC.seq ?_ | refine GC.region ?_ | refine GC.draw (by kernel_rfl) (by kernel_rfl) ?_ | refine GC.skip ?_ | refine GC.exit ?_ | refine GE.then_normal ?_ | refine GE.then_exit ?_ | refine GE.block_hit ?_ | refine GC.cond_f rfl ?_)
          refine GE.ret (by first | exact .inl rfl | exact .inr rfl) (by first | exact res0 Try.results10 | exact res1 Try.results10 rfl | exact res2 Try.results10 rfl rfl | exact resR1 Try.results10 (by first | exact RV.tmp rfl | exact RV.cell rfl (eP_len _) | exact RV.cell rfl rfl | exact RV.cell1 rfl) | exact resR2 Try.results10 (by first | exact RV.tmp rfl | exact RV.cell rfl (eP_len _) | exact RV.cell rfl rfl | exact RV.cell1 rfl) (by first | exact RV.tmp rfl | exact RV.cell rfl (eP_len _) | exact RV.cell rfl rfl | exact RV.cell1 rfl) | exact resR3 Try.results10 (by first | exact RV.tmp rfl | exact RV.cell rfl (eP_len _) | exact RV.cell rfl rfl | exact RV.cell1 rfl) (by first | exact RV.tmp rfl | exact RV.cell rfl (eP_len _) | exact RV.cell rfl rfl | exact RV.cell1 rfl) (by first | exact RV.tmp rfl | exact RV.cell rfl (eP_len _) | exact RV.cell rfl rfl | exact RV.cell1 rfl)) ⟨o1, c1, p1, q1, none, 0, rfl, rfl⟩ (by repeat (first | exact Takes.nil | apply Takes.dup rfl | apply Takes.cons | exact Take1.here | apply Take1.there)) (by repeat (first | exact Subs.refl | refine Subs.skip ?_))
/-- bytes that came as they lie in memory -/
structure GoM where
  at_ : Int
  count : Int
  d : SlD UInt8
instance : Inhabited GoM := ⟨⟨0, 0, default⟩⟩
def eG (m : GoM) : List Value := [.int .i64 m.at_, .int .i64 m.count, .slice m.d.ao m.d.n m.d.c]
instance : Enc eG 3 := ⟨fun _ => rfl, fun x u hu => by simp [eG] at hu; rcases hu with rfl | rfl | rfl <;> rfl⟩
def toG (m : GoM) : Got := ⟨m.at_, m.count, m.d.l⟩
structure MOk (m : GoM) : Prop where
  len : m.d.l.length = m.d.n
  a : -1000000 ≤ m.at_ ∧ m.at_ ≤ 1000000
  c : -1000000 ≤ m.count ∧ m.count ≤ 1000000
  n : m.d.n ≤ 1000000
/-- what is asked for then, as it lies in memory -/
structure NeM where
  t : Ne
  wo : Option Addr
  wc : Nat
  xo : Option Addr
  xc : Nat
instance : Inhabited NeM := ⟨⟨default, none, 0, none, 0⟩⟩
def eN (m : NeM) : List Value := [.int .i64 m.t.code, .slice m.wo m.t.wants.length m.wc, .bool m.t.done, .slice m.xo m.t.data.length m.xc]
instance : Enc eN 4 := ⟨fun _ => rfl, fun x u hu => by simp [eN] at hu; rcases hu with rfl | rfl | rfl | rfl <;> rfl⟩
theorem getD_mem1 {α : Type} [Inhabited α] (l : List α) (k : Nat) (h : k < l.length) : l.getD k default ∈ l := by
  rw [List.getD_eq_getElem?_getD, List.getElem?_eq_getElem h]; exact List.getElem_mem _
theorem on_code (f : Fe) (l : List Wa) : (onF f l).2.code = 0 := rfl
theorem ext_cells (data : List UInt8) (m : Nat) : flat eB data ++ zrep [.int .u8 0] m = flat eB (ext data (data.length + m)) := by
  unfold ext
  rw [flat_append, Nat.add_sub_cancel_left]
  congr 1
  exact (flat_rep eB (0 : UInt8) m).symm
theorem put_cells (d : List UInt8) (a : Nat) (b : List UInt8) : laid (flat eB (ext d (a + b.length))) a (flat eB b) = flat eB (put d a b) := by
  have hE : Enc eB 1 := inferInstance
  have h1 := flat_take hE (ext d (a + b.length)) a
  have h2 := flat_drop hE (ext d (a + b.length)) (a + b.length)
  have h3 := flat_len hE b
  rw [Nat.mul_one] at h1 h2 h3
  unfold laid put
  rw [flat_append, flat_append, ← h1, ← h2, h3]
theorem ext_le (d : List UInt8) (m : Nat) (h : m ≤ d.length) : ext d m = d := by
  unfold ext; rw [show m - d.length = 0 by omega]; simp
set_option maxHeartbeats 16000000 in
theorem got_sp (fb : Nat) (f : Fe) (hk : FOk f) (m : GoM) (hm : MOk m) (oo : Option Addr) (oc : Nat) (da : Option Addr) (dc : Nat) :
    Spec Try.prog 11 [.pointer (some (badr fb 0)), .agg (eG m).toArray] [.blk fb 45 [.slice oo (f).out.length oc, .int .i64 (f).front, .int .i64 (f).end_, .slice da (f).data.length dc], .vec 42 2 oo (f).out.length oc (flat eW (f).out), .vec 5 1 da (f).data.length dc (flat eB (f).data), .sl m.d.ao m.d.n m.d.c 1 (flat eB m.d.l)] fun v give => ∃ oo' oc' da' dc' wo wc xo xc, v = .agg (eN ⟨(gotF f (toG m)).2, wo, wc, xo, xc⟩).toArray ∧ give = [.blk fb 45 [.slice oo' ((gotF f (toG m)).1).out.length oc', .int .i64 ((gotF f (toG m)).1).front, .int .i64 ((gotF f (toG m)).1).end_, .slice da' ((gotF f (toG m)).1).data.length dc'], .vec 42 2 oo' ((gotF f (toG m)).1).out.length oc' (flat eW ((gotF f (toG m)).1).out), .vec 5 1 da' ((gotF f (toG m)).1).data.length dc' (flat eB ((gotF f (toG m)).1).data), .sl wo (gotF f (toG m)).2.wants.length wc 2 (flat eW (gotF f (toG m)).2.wants), .sl xo (gotF f (toG m)).2.data.length xc 1 (flat eB (gotF f (toG m)).2.data)] := by
  obtain ⟨m1, ⟨m2, m2'⟩, ⟨m3, m3'⟩, m4⟩ := hm
  obtain ⟨at_, count, ⟨bo, bn, bc, b⟩⟩ := m
  simp only at m1 m2 m2' m3 m3' m4
  subst m1
  have kl := hk.len
  have kd := hk.d0
  have hix0 := idx_lt (l := f.out) (w := (at_, count))
  refine Spec.intro Try.func11 rfl Try.ntmps11 rfl fun w0 rest rs_ hrs_ => ?_
  simp only [List.cons_append, List.nil_append] at hrs_
  subst hrs_
  repeat (first | refine GC.seq ?_ | refine GC.region ?_)
  refine G.box rfl rfl rfl (fun gb => ?_)
  rw [show (Value.agg (eG ⟨at_, count, ⟨bo, b.length, bc, b⟩⟩).toArray).cells.toList = [.int .i64 at_, .int .i64 count, .slice bo b.length bc] from rfl]
  repeat (first | fail)
  refine G.alloc rfl (fun nb => ?_)
  repeat (first | (apply G.ex (hd := rfl); case h => (first | exact Ex.fieldB rfl | exact Ex.loadB rfl rfl | exact Ex.build rfl rfl)) | refine G.nil ?_ | refine GC.seq ?_ | refine GC.region ?_ | refine GE.then_normal ?_)
  refine G.alloc rfl (fun wb => ?_)
  refine G.conv (fun w_ H_ => H_) ?_
  repeat ((fail_if_success (refine GC.draw (id := 2) (by kernel_rfl) (by kernel_rfl) ?_)); first | refine G.storeBA rfl rfl rfl rfl rfl ?_ | refine G.nil ?_ | refine GC.seq ?_ | refine GE.then_normal ?_)
  refine GC.drawA [] [.blk fb 45 [.slice oo (f).out.length oc, .int .i64 (f).front, .int .i64 (f).end_, .slice da (f).data.length dc], .blk wb 42 [.int .i64 at_, .int .i64 count]] (by repeat (first | exact Takes.nil | apply Takes.dup rfl | apply Takes.cons | exact Take1.here | apply Take1.there)) (by kernel_rfl) ?_
  first | (apply GA.take [] (hD := .inl rfl) (hsub := ⟨_, Takes.nil⟩) (i := 0) (hi := rfl) (hs := by kernel_rfl) (hfr := by kernel_rfl) (hr := by kernel_rfl) (hQ := (by repeat (first | exact NoPanic.np | exact NoPanic.fpost | apply NoPanic.then_ | apply NoPanic.block))) (hd := rfl); case hx => (first | exact Ex.move rfl))
  first | (apply GA.take [] (hD := .inl rfl) (hsub := ⟨_, Takes.nil⟩) (i := 1) (hi := rfl) (hs := by kernel_rfl) (hfr := by kernel_rfl) (hr := by kernel_rfl) (hQ := (by repeat (first | exact NoPanic.np | exact NoPanic.fpost | apply NoPanic.then_ | apply NoPanic.block))) (hd := rfl); case hx => (first | exact Ex.nilCheck rfl))
  first | (apply GA.take [] (hD := .inl rfl) (hsub := ⟨_, Takes.nil⟩) (i := 2) (hi := rfl) (hs := by kernel_rfl) (hfr := by kernel_rfl) (hr := by kernel_rfl) (hQ := (by repeat (first | exact NoPanic.np | exact NoPanic.fpost | apply NoPanic.then_ | apply NoPanic.block))) (hd := rfl); case hx => (first | exact Ex.fieldB rfl))
  first | (apply GA.take _ (hD := .inr ⟨rfl, by kernel_rfl⟩) (hsub := ⟨_, (by repeat (first | exact Takes.nil | apply Takes.dup rfl | apply Takes.cons | exact Take1.here | apply Take1.there))⟩) (i := 3) (hi := rfl) (hs := by kernel_rfl) (hfr := by kernel_rfl) (hr := by kernel_rfl) (hQ := (by repeat (first | exact NoPanic.np | exact NoPanic.fpost | apply NoPanic.then_ | apply NoPanic.block))) (hd := rfl); case hx => (first | exact Ex.loadB rfl rfl))
  first | (apply GA.take _ (hD := .inr ⟨rfl, by kernel_rfl⟩) (hsub := ⟨_, (by repeat (first | exact Takes.nil | apply Takes.dup rfl | apply Takes.cons | exact Take1.here | apply Take1.there))⟩) (i := 4) (hi := rfl) (hs := by kernel_rfl) (hfr := by kernel_rfl) (hr := by kernel_rfl) (hQ := (by repeat (first | exact NoPanic.np | exact NoPanic.fpost | apply NoPanic.then_ | apply NoPanic.block))) (hd := rfl); case hx => (first | exact Ex.loadBA rfl rfl rfl))
  refine GA.one (i := 5) (by kernel_rfl) rfl ?_
  first | refine G.call (caps := []) (index_sp (.vec 42 2 oo (f).out.length oc (flat eW (f).out)) oo f.out.length oc f.out rfl (by omega) (at_, count)) rfl rfl rfl rfl (by repeat (first | exact Takes.nil | apply Takes.dup rfl | apply Takes.cons | exact Take1.here | apply Take1.there)) ?_ | refine G.callU (caps := []) (index_sp (.vec 42 2 oo (f).out.length oc (flat eW (f).out)) oo f.out.length oc f.out rfl (by omega) (at_, count)) rfl rfl rfl (by repeat (first | exact Takes.nil | apply Takes.dup rfl | apply Takes.cons | exact Take1.here | apply Take1.there)) ?_
  rintro v_ give_ ⟨rfl, rfl⟩ rs_ hrs_
  simp only [List.cons_append, List.nil_append] at hrs_
  subst hrs_
  try refine G.nil ?_
  refine GA.back (by first | exact .inl (by decide) | exact .inr ⟨_, (by repeat (first | exact Takes.nil | apply Takes.dup rfl | apply Takes.cons | exact Take1.here | apply Take1.there))⟩) ?_
  first | (apply GA.take [] (hD := .inl rfl) (hsub := ⟨_, Takes.nil⟩) (i := 6) (hi := rfl) (hs := by kernel_rfl) (hfr := by kernel_rfl) (hr := by kernel_rfl) (hQ := (by repeat (first | exact NoPanic.np | exact NoPanic.fpost | apply NoPanic.then_ | apply NoPanic.block))) (hd := rfl); case hx => (first | exact Ex.assign rfl))
  refine GA.done (by kernel_rfl) ?_
  by_cases hi : idx f.out (at_, count) < f.out.length
  · rw [if_pos hi]
    have hw := hix0 hi
    have hin : (at_, count) ∈ f.out := by
      rw [← hw]; exact getD_mem1 f.out _ hi
    obtain ⟨wb1, wb2, wb3⟩ := hk.w _ hin
    simp only at wb1 wb2 wb3
    by_cases hsz : count < (b.length : Int)
    · have hr : gotF f (toG ⟨at_, count, ⟨bo, b.length, bc, b⟩⟩) = (f, ⟨1, [], false, []⟩) := by
        unfold gotF
        rw [if_neg (by simp only [toG]; omega), if_pos (by simp only [toG]; exact hsz)]
      rw [hr]
      refine GE.then_normal ?_
      first | refine G.nilvec 5 1 ?_ | refine GC.nilvec 5 1 ?_
      first | refine G.frz none ?_ | refine GC.frz none ?_ | refine GE.frz none ?_
      first | refine G.nilvec 42 2 ?_ | refine GC.nilvec 42 2 ?_
      first | refine G.frz none ?_ | refine GC.frz none ?_ | refine GE.frz none ?_
      repeat (first | refine G.storeBA rfl rfl rfl rfl rfl ?_ | (apply G.ex (hd := rfl); case h => (first | exact Ex.move rfl | exact Ex.fieldB rfl | exact Ex.loadB rfl rfl | exact Ex.lss rfl rfl | exact Ex.gtr rfl rfl | exact Ex.lenSl rfl | exact Ex.assign rfl | exact Ex.build rfl rfl)) | refine G.nil ?_ | refine GC.seq ?_ | refine GC.region ?_ | refine GC.block ?_ | refine GC.ret ?_ | refine GE.then_normal ?_ | refine GE.then_ret ?_ | refine GE.block_ret ?_ | refine GC.cond_yes rfl (by first | assumption | omega) ?_ | refine GC.cond_no rfl (by first | assumption | omega) ?_)
      refine GE.ret (by first | exact .inl rfl | exact .inr rfl) (by first | exact res0 Try.results11 | exact res1 Try.results11 rfl | exact res2 Try.results11 rfl rfl | exact resR1 Try.results11 (by first | exact RV.tmp rfl | exact RV.cell rfl (eP_len _) | exact RV.cell rfl rfl | exact RV.cell1 rfl) | exact resR2 Try.results11 (by first | exact RV.tmp rfl | exact RV.cell rfl (eP_len _) | exact RV.cell rfl rfl | exact RV.cell1 rfl) (by first | exact RV.tmp rfl | exact RV.cell rfl (eP_len _) | exact RV.cell rfl rfl | exact RV.cell1 rfl) | exact resR3 Try.results11 (by first | exact RV.tmp rfl | exact RV.cell rfl (eP_len _) | exact RV.cell rfl rfl | exact RV.cell1 rfl) (by first | exact RV.tmp rfl | exact RV.cell rfl (eP_len _) | exact RV.cell rfl rfl | exact RV.cell1 rfl) (by first | exact RV.tmp rfl | exact RV.cell rfl (eP_len _) | exact RV.cell rfl rfl | exact RV.cell1 rfl)) ⟨oo, oc, da, dc, none, 0, none, 0, rfl, rfl⟩ (by repeat (first | exact Takes.nil | apply Takes.dup rfl | apply Takes.cons | exact Take1.here | apply Take1.there)) (by repeat (first | exact Subs.refl | refine Subs.skip ?_))
    · obtain ⟨A, rfl⟩ : ∃ A : Nat, at_ = (A : Int) := ⟨at_.toNat, by omega⟩
      have hr : gotF f (toG ⟨(A : Int), count, ⟨bo, b.length, bc, b⟩⟩) = onF (midF f (toG ⟨(A : Int), count, ⟨bo, b.length, bc, b⟩⟩)).1 (midF f (toG ⟨(A : Int), count, ⟨bo, b.length, bc, b⟩⟩)).2 := by
        unfold gotF
        rw [if_neg (by simp only [toG]; omega), if_neg (by simp only [toG]; exact hsz)]
      have hmid : FOk (midF f (toG ⟨(A : Int), count, ⟨bo, b.length, bc, b⟩⟩)).1 := hk.mid (g := toG ⟨(A : Int), count, ⟨bo, b.length, bc, b⟩⟩) hi hsz
      have hmidF : midF f (toG ⟨(A : Int), count, ⟨bo, b.length, bc, b⟩⟩) = if b.length = 0 ∧ (f.end_ < 0 ∨ (A : Int) < f.end_) then (⟨f.out.eraseIdx (idx f.out ((A : Int), count)), f.front, (A : Int), put f.data A b⟩, []) else if 0 < b.length ∧ (b.length : Int) < count then (⟨f.out.eraseIdx (idx f.out ((A : Int), count)) ++ [((A : Int) + b.length, count - b.length)], f.front, f.end_, put f.data A b⟩, [((A : Int) + b.length, count - b.length)]) else (⟨f.out.eraseIdx (idx f.out ((A : Int), count)), f.front, f.end_, put f.data A b⟩, []) := rfl
      rw [hr]
      have hel : (f.out.eraseIdx (idx f.out ((A : Int), count))).length = f.out.length - 1 := List.length_eraseIdx_of_lt hi
      have hpl := put_len f.data A b
      have hxl := ext_len f.data (A + b.length)
      refine GE.then_normal ?_
      repeat ((fail_if_success (refine GC.region (id := 7) ?_)); first | (apply G.ex (hd := rfl); case h => (first | exact Ex.move rfl | exact Ex.fieldB rfl | exact Ex.loadB rfl rfl | exact Ex.lss rfl rfl | exact Ex.gtr rfl rfl | exact Ex.lenSl rfl | exact Ex.assign rfl)) | refine G.nil ?_ | refine GC.seq ?_ | refine GC.region ?_ | refine GC.block ?_ | refine GC.skip ?_ | refine GE.then_normal ?_ | refine GE.block_normal ?_ | refine GC.cond_no rfl (by first | assumption | omega) ?_)
      rw [show ((idx f.out ((A : Int), count) : Nat) : Int) = ((idx f.out ((A : Int), count) : Nat) : Int) from rfl]
      repeat (first | (apply G.ex (hd := rfl); case h => (first | exact Ex.move rfl | exact Ex.nilCheck rfl | exact Ex.fieldB rfl | exact Ex.loadB rfl rfl | exact Ex.add rfl rfl (by omega))) | refine GC.region ?_)
      rw [show ((idx f.out ((A : Int), count) : Nat) : Int) + 1 = ((idx f.out ((A : Int), count) + 1 : Nat) : Int) by omega]
      first | refine G.call (caps := []) (delete_sp oo oc f.out (idx f.out ((A : Int), count)) hi (by omega)) rfl rfl rfl rfl (by repeat (first | exact Takes.nil | apply Takes.dup rfl | apply Takes.cons | exact Take1.here | apply Take1.there)) ?_ | refine G.callU (caps := []) (delete_sp oo oc f.out (idx f.out ((A : Int), count)) hi (by omega)) rfl rfl rfl (by repeat (first | exact Takes.nil | apply Takes.dup rfl | apply Takes.cons | exact Take1.here | apply Take1.there)) ?_
      rintro v_ give_ ⟨rfl, rfl⟩ rs_ hrs_
      simp only [List.cons_append, List.nil_append] at hrs_
      subst hrs_
      rw [← hel]
      generalize hO : f.out.eraseIdx (idx f.out ((A : Int), count)) = O at *
      repeat ((fail_if_success (refine GC.region (id := 8) ?_)); first | refine G.storeB rfl rfl rfl rfl rfl ?_ | (apply G.ex (hd := rfl); case h => (first | exact Ex.nilCheck rfl | exact Ex.fieldB rfl)) | refine G.nil ?_ | refine GC.seq ?_ | refine GE.then_normal ?_)
      refine GC.region ?_
      iterate 4 (first | (apply G.ex (hd := rfl); case h => (first | exact Ex.fieldB rfl | exact Ex.loadB rfl rfl | exact Ex.lenSl rfl | exact Ex.assign rfl)))
      refine G.nil ?_
      refine GE.then_normal ?_
      refine GC.seq ?_
      refine GC.meet (ι := Option Addr × Nat) (fun _ => True) (fun x => [(0, .pointer (some (badr fb 0))), (3, .pointer (some (badr gb 0))), (4, .pointer (some (badr nb 0))), (7, .int .i64 (b.length : Int))]) (fun x => [.blk gb 32 [.int .i64 (A : Int), .int .i64 count, .slice bo b.length bc], .blk nb 39 [.int .i64 0, .slice none 0 0, .bool false, .slice none 0 0], .blk fb 45 [.slice oo O.length oc, .int .i64 f.front, .int .i64 f.end_, .slice x.1 (ext f.data (A + b.length)).length x.2], .vec 42 2 oo O.length oc (flat eW O), .vec 5 1 x.1 (ext f.data (A + b.length)).length x.2 (flat eB (ext f.data (A + b.length))), .sl bo b.length bc 1 (flat eB b)]) rest ?_ ?_
      · by_cases hgt : f.data.length < A + b.length
        · obtain ⟨m, hm0, hm1⟩ : ∃ m : Nat, 0 < m ∧ f.data.length + m = A + b.length := ⟨A + b.length - f.data.length, by omega, by omega⟩
          have hcat := ext_cells f.data m
          rw [hm1] at hcat
          have hel2 : (ext f.data (A + b.length)).length = f.data.length + m := by omega
          have hm0' : 0 < (m : Int) := by omega
          repeat ((fail_if_success (refine GC.draw (id := 11) (by kernel_rfl) (by kernel_rfl) ?_)); first | (apply G.ex (hd := rfl); case h => (first | exact Ex.move rfl | exact Ex.nilCheck rfl | exact Ex.fieldB rfl | exact Ex.loadB rfl rfl | exact Ex.gtr rfl rfl)) | refine G.nil ?_ | (apply Gq.ex (hd := rfl); case h => (first | exact Ex.move rfl | exact Ex.nilCheck rfl | exact Ex.fieldB rfl | exact Ex.loadB rfl rfl | exact Ex.add rfl rfl (by omega) | exact Ex.sub rfl rfl (by omega) | exact Ex.lenSl rfl | exact Ex.assign rfl)) | refine Gq.nil ?_ | refine GC.seq ?_ | refine GC.region ?_ | refine GC.draw (by kernel_rfl) (by kernel_rfl) ?_ | refine GE.then_normal ?_ | refine GC.cond_yes rfl (by first | assumption | omega) ?_)
          repeat ((fail_if_success (refine GC.region (id := 10) ?_)); first | fail)
          rw [show (A : Int) + (b.length : Int) - (f.data.length : Int) = (m : Int) by omega]
          repeat (first | fail)
          refine G.appMake rfl rfl (by omega) rfl (by rfl) (by rfl) (by omega) rfl (hcat) (fun a2 c2 rs_ hrs_ => ?_)
          try simp only at hrs_
          subst hrs_
          repeat (first | refine G.storeB rfl rfl rfl rfl rfl ?_ | (apply G.ex (hd := rfl); case h => (first | exact Ex.nilCheck rfl | exact Ex.fieldB rfl)) | refine G.nil ?_)
          rw [← hel2]
          refine GE.meet (a2, c2) trivial (by simp only [fits]; repeat (first | exact trivial | refine And.intro rfl ?_)) (by repeat (first | exact Takes.nil | apply Takes.dup rfl | apply Takes.cons | exact Take1.here | apply Take1.there)) (by repeat (first | exact Subs.refl | refine Subs.skip ?_))
        · have hgt' : ¬ 0 < (A : Int) + (b.length : Int) - (f.data.length : Int) := by omega
          have he := ext_le f.data (A + b.length) (by omega)
          repeat (first | (apply G.ex (hd := rfl); case h => (first | exact Ex.move rfl | exact Ex.gtr rfl rfl)) | refine G.nil ?_ | (apply Gq.ex (hd := rfl); case h => (first | exact Ex.move rfl | exact Ex.nilCheck rfl | exact Ex.fieldB rfl | exact Ex.loadB rfl rfl | exact Ex.add rfl rfl (by omega) | exact Ex.sub rfl rfl (by omega) | exact Ex.lenSl rfl | exact Ex.assign rfl)) | refine Gq.nil ?_ | refine GC.seq ?_ | refine GC.region ?_ | refine GC.draw (by kernel_rfl) (by kernel_rfl) ?_ | refine GC.skip ?_ | refine GE.then_normal ?_ | refine GC.cond_no rfl (by first | assumption | omega) ?_)
          rw [show flat eB f.data = flat eB (ext f.data (A + b.length)) by rw [he], show f.data.length = (ext f.data (A + b.length)).length by rw [he]]
          refine GE.meet (da, dc) trivial (by simp only [fits]; repeat (first | exact trivial | refine And.intro rfl ?_)) (by repeat (first | exact Takes.nil | apply Takes.dup rfl | apply Takes.cons | exact Take1.here | apply Take1.there)) (by repeat (first | exact Subs.refl | refine Subs.skip ?_))
      rintro ⟨da1, dc1⟩ - fr_ rs_ hfr_ hrs_
      simp only [List.cons_append, List.nil_append] at hfr_ hrs_
      subst hfr_ hrs_
      refine GE.then_normal ?_
      refine GC.len (m := (ext f.data (A + b.length)).length) (c := dc1) da1 fun ⟨hq1, hq2, hq3⟩ => ?_
      refine GC.seq ?_
      refine GC.drawA [] [.blk fb 45 [.slice oo O.length oc, .int .i64 f.front, .int .i64 f.end_, .slice da1 (ext f.data (A + b.length)).length dc1], .blk gb 32 [.int .i64 (A : Int), .int .i64 count, .slice bo b.length bc]] (by repeat (first | exact Takes.nil | apply Takes.dup rfl | apply Takes.cons | exact Take1.here | apply Take1.there)) (by kernel_rfl) ?_
      first | (apply GA.take [] (hD := .inl rfl) (hsub := ⟨_, Takes.nil⟩) (i := 0) (hi := rfl) (hs := by kernel_rfl) (hfr := by kernel_rfl) (hr := by kernel_rfl) (hQ := (by repeat (first | exact NoPanic.np | exact NoPanic.fpost | apply NoPanic.then_ | apply NoPanic.block))) (hd := rfl); case hx => (first | exact Ex.move rfl))
      first | (apply GA.take [] (hD := .inl rfl) (hsub := ⟨_, Takes.nil⟩) (i := 1) (hi := rfl) (hs := by kernel_rfl) (hfr := by kernel_rfl) (hr := by kernel_rfl) (hQ := (by repeat (first | exact NoPanic.np | exact NoPanic.fpost | apply NoPanic.then_ | apply NoPanic.block))) (hd := rfl); case hx => (first | exact Ex.nilCheck rfl))
      first | (apply GA.take [] (hD := .inl rfl) (hsub := ⟨_, Takes.nil⟩) (i := 2) (hi := rfl) (hs := by kernel_rfl) (hfr := by kernel_rfl) (hr := by kernel_rfl) (hQ := (by repeat (first | exact NoPanic.np | exact NoPanic.fpost | apply NoPanic.then_ | apply NoPanic.block))) (hd := rfl); case hx => (first | exact Ex.fieldB rfl))
      first | (apply GA.take _ (hD := .inr ⟨rfl, by kernel_rfl⟩) (hsub := ⟨_, (by repeat (first | exact Takes.nil | apply Takes.dup rfl | apply Takes.cons | exact Take1.here | apply Take1.there))⟩) (i := 3) (hi := rfl) (hs := by kernel_rfl) (hfr := by kernel_rfl) (hr := by kernel_rfl) (hQ := (by repeat (first | exact NoPanic.np | exact NoPanic.fpost | apply NoPanic.then_ | apply NoPanic.block))) (hd := rfl); case hx => (first | exact Ex.loadB rfl rfl))
      first | (apply GA.take [] (hD := .inl rfl) (hsub := ⟨_, Takes.nil⟩) (i := 4) (hi := rfl) (hs := by kernel_rfl) (hfr := by kernel_rfl) (hr := by kernel_rfl) (hQ := (by repeat (first | exact NoPanic.np | exact NoPanic.fpost | apply NoPanic.then_ | apply NoPanic.block))) (hd := rfl); case hx => (first | exact Ex.fieldB rfl))
      first | (apply GA.take _ (hD := .inr ⟨rfl, by kernel_rfl⟩) (hsub := ⟨_, (by repeat (first | exact Takes.nil | apply Takes.dup rfl | apply Takes.cons | exact Take1.here | apply Take1.there))⟩) (i := 5) (hi := rfl) (hs := by kernel_rfl) (hfr := by kernel_rfl) (hr := by kernel_rfl) (hQ := (by repeat (first | exact NoPanic.np | exact NoPanic.fpost | apply NoPanic.then_ | apply NoPanic.block))) (hd := rfl); case hx => (first | exact Ex.loadB rfl rfl))
      first | (apply GA.take [] (hD := .inl rfl) (hsub := ⟨_, Takes.nil⟩) (i := 6) (hi := rfl) (hs := by kernel_rfl) (hfr := by kernel_rfl) (hr := by kernel_rfl) (hQ := (by repeat (first | exact NoPanic.np | exact NoPanic.fpost | apply NoPanic.then_ | apply NoPanic.block))) (hd := rfl); case hx => (first | exact Ex.move rfl))
      first | (apply GA.take [] (hD := .inl rfl) (hsub := ⟨_, Takes.nil⟩) (i := 7) (hi := rfl) (hs := by kernel_rfl) (hfr := by kernel_rfl) (hr := by kernel_rfl) (hQ := (by repeat (first | exact NoPanic.np | exact NoPanic.fpost | apply NoPanic.then_ | apply NoPanic.block))) (hd := rfl); case hx => (first | exact Ex.nilCheck rfl))
      first | (apply GA.take [] (hD := .inl rfl) (hsub := ⟨_, Takes.nil⟩) (i := 8) (hi := rfl) (hs := by kernel_rfl) (hfr := by kernel_rfl) (hr := by kernel_rfl) (hQ := (by repeat (first | exact NoPanic.np | exact NoPanic.fpost | apply NoPanic.then_ | apply NoPanic.block))) (hd := rfl); case hx => (first | exact Ex.fieldB rfl))
      first | (apply GA.take _ (hD := .inr ⟨rfl, by kernel_rfl⟩) (hsub := ⟨_, (by repeat (first | exact Takes.nil | apply Takes.dup rfl | apply Takes.cons | exact Take1.here | apply Take1.there))⟩) (i := 9) (hi := rfl) (hs := by kernel_rfl) (hfr := by kernel_rfl) (hr := by kernel_rfl) (hQ := (by repeat (first | exact NoPanic.np | exact NoPanic.fpost | apply NoPanic.then_ | apply NoPanic.block))) (hd := rfl); case hx => (first | exact Ex.loadB rfl rfl))
      first | (apply GA.take [] (hD := .inl rfl) (hsub := ⟨_, Takes.nil⟩) (i := 10) (hi := rfl) (hs := by kernel_rfl) (hfr := by kernel_rfl) (hr := by kernel_rfl) (hQ := (by repeat (first | exact NoPanic.np | exact NoPanic.fpost | apply NoPanic.then_ | apply NoPanic.block))) (hd := rfl); case hx => (first | exact Ex.lenSl rfl))
      apply GA.take [] (hD := .inl rfl) (hsub := ⟨_, Takes.nil⟩) (i := 11) (hi := rfl) (hs := by kernel_rfl) (hfr := by kernel_rfl) (hr := by kernel_rfl) (hQ := (by repeat (first | exact NoPanic.np | exact NoPanic.fpost | apply NoPanic.then_ | apply NoPanic.block))) (hd := rfl) (hx := (Ex.min rfl rfl))
      rw [show min (A : Int) ((ext f.data (A + b.length)).length : Int) = (A : Int) by omega]
      apply GA.take [] (hD := .inl rfl) (hsub := ⟨_, Takes.nil⟩) (i := 12) (hi := rfl) (hs := by kernel_rfl) (hfr := by kernel_rfl) (hr := by kernel_rfl) (hQ := (by repeat (first | exact NoPanic.np | exact NoPanic.fpost | apply NoPanic.then_ | apply NoPanic.block))) (hd := rfl) (hx := (Ex.slLo (m := (ext f.data (A + b.length)).length) (l := A) rfl rfl ⟨by omega, hq2⟩))
      first | (apply GA.take [] (hD := .inl rfl) (hsub := ⟨_, Takes.nil⟩) (i := 13) (hi := rfl) (hs := by kernel_rfl) (hfr := by kernel_rfl) (hr := by kernel_rfl) (hQ := (by repeat (first | exact NoPanic.np | exact NoPanic.fpost | apply NoPanic.then_ | apply NoPanic.block))) (hd := rfl); case hx => (first | exact Ex.fieldB rfl))
      first | (apply GA.take _ (hD := .inr ⟨rfl, by kernel_rfl⟩) (hsub := ⟨_, (by repeat (first | exact Takes.nil | apply Takes.dup rfl | apply Takes.cons | exact Take1.here | apply Take1.there))⟩) (i := 14) (hi := rfl) (hs := by kernel_rfl) (hfr := by kernel_rfl) (hr := by kernel_rfl) (hQ := (by repeat (first | exact NoPanic.np | exact NoPanic.fpost | apply NoPanic.then_ | apply NoPanic.block))) (hd := rfl); case hx => (first | exact Ex.loadB rfl rfl))
      refine GA.one (i := 15) (by kernel_rfl) rfl ?_
      refine G.copyIn (i := A) (m := (ext f.data (A + b.length)).length) (c := dc1) (m' := b.length) (news := flat eB b) (by omega) rfl rfl rfl (fun rs_ hrs_ => ?_)
      try simp only at hrs_
      subst hrs_
      try refine G.nil ?_
      refine GA.back (by first | exact .inl (by decide) | exact .inr ⟨_, (by repeat (first | exact Takes.nil | apply Takes.dup rfl | apply Takes.cons | exact Take1.here | apply Take1.there))⟩) ?_
      refine GA.done (by kernel_rfl) ?_
      rw [put_cells]
      rw [show (ext f.data (A + b.length)).length = (put f.data A b).length by omega]
      refine GE.then_normal ?_
      first | refine G.nilvec 42 2 ?_ | refine GC.nilvec 42 2 ?_
      by_cases c1 : b.length = 0 ∧ (f.end_ < 0 ∨ (A : Int) < f.end_)
      · rw [if_pos c1] at hmidF
        rw [hmidF] at hmid ⊢
        obtain ⟨c0, c2⟩ := c1
        have c0' : (b.length : Int) = 0 := by omega
        rcases Decidable.em (f.end_ < 0) with c3 | c3
        all_goals
          try have c4 : (A : Int) < f.end_ := by omega
          repeat ((fail_if_success (refine GC.seq ?_; refine GC.region (id := 17) ?_)); first | refine G.storeB rfl rfl rfl rfl rfl ?_ | (apply G.ex (hd := rfl); case h => (first | exact Ex.move rfl | exact Ex.nilCheck rfl | exact Ex.fieldB rfl | exact Ex.loadB rfl rfl)) | refine G.nil ?_ | (apply Gq.ex (hd := rfl); case h => (first | exact Ex.move rfl | exact Ex.nilCheck rfl | exact Ex.fieldB rfl | exact Ex.loadB rfl rfl | exact Ex.lss rfl rfl | exact Ex.eqI rfl rfl | exact Ex.assign rfl | exact Ex.pickT rfl (by first | assumption | omega) rfl | exact Ex.pickF rfl (by first | assumption | omega) rfl)) | refine Gq.g_tt rfl rfl (by first | assumption | omega) ?_ | refine Gq.g_ft rfl rfl (by first | assumption | omega) rfl ?_ | refine Gq.g_ff rfl rfl (by first | assumption | omega) ?_ | refine Gq.nil ?_ | refine GC.seq ?_ | refine GC.region ?_ | refine GC.draw (by kernel_rfl) (by kernel_rfl) ?_ | refine GC.block ?_ | refine GE.then_normal ?_ | refine GE.block_normal ?_ | refine GC.cond_yes rfl (by first | assumption | omega) ?_ | refine GC.cond_t rfl ?_)
          repeat (first | (apply G.ex (hd := rfl); case h => (first | exact Ex.move rfl)) | refine GC.seq ?_ | refine GC.region ?_)
          first | refine G.call (caps := []) (on_sp fb nb ⟨O, f.front, (A : Int), put f.data A b⟩ hmid [] (by simp) oo oc da1 dc1 none 0) rfl rfl rfl rfl (by repeat (first | exact Takes.nil | apply Takes.dup rfl | apply Takes.cons | exact Take1.here | apply Take1.there)) ?_ | refine G.callU (caps := []) (on_sp fb nb ⟨O, f.front, (A : Int), put f.data A b⟩ hmid [] (by simp) oo oc da1 dc1 none 0) rfl rfl rfl (by repeat (first | exact Takes.nil | apply Takes.dup rfl | apply Takes.cons | exact Take1.here | apply Take1.there)) ?_
          rintro v_ give_ ⟨o2, c2', w2, wc2, xo, xc, rfl, rfl⟩ rs_ hrs_
          simp only [List.cons_append, List.nil_append] at hrs_
          subst hrs_
          first | refine G.frz w2 ?_ | refine GC.frz w2 ?_ | refine GE.frz w2 ?_
          repeat (first | refine G.storeBA rfl rfl rfl rfl rfl ?_ | (apply G.ex (hd := rfl); case h => (first | exact Ex.loadBA rfl rfl rfl)) | refine G.nil ?_ | refine GC.seq ?_ | refine GC.region ?_ | refine GC.ret ?_ | refine GE.then_normal ?_)
          refine GE.ret (by first | exact .inl rfl | exact .inr rfl) (by first | exact res0 Try.results11 | exact res1 Try.results11 rfl | exact res2 Try.results11 rfl rfl | exact resR1 Try.results11 (by first | exact RV.tmp rfl | exact RV.cell rfl (eP_len _) | exact RV.cell rfl rfl | exact RV.cell1 rfl) | exact resR2 Try.results11 (by first | exact RV.tmp rfl | exact RV.cell rfl (eP_len _) | exact RV.cell rfl rfl | exact RV.cell1 rfl) (by first | exact RV.tmp rfl | exact RV.cell rfl (eP_len _) | exact RV.cell rfl rfl | exact RV.cell1 rfl) | exact resR3 Try.results11 (by first | exact RV.tmp rfl | exact RV.cell rfl (eP_len _) | exact RV.cell rfl rfl | exact RV.cell1 rfl) (by first | exact RV.tmp rfl | exact RV.cell rfl (eP_len _) | exact RV.cell rfl rfl | exact RV.cell1 rfl) (by first | exact RV.tmp rfl | exact RV.cell rfl (eP_len _) | exact RV.cell rfl rfl | exact RV.cell1 rfl)) ⟨o2, c2', da1, dc1, w2, wc2, xo, xc, rfl, rfl⟩ (by repeat (first | exact Takes.nil | apply Takes.dup rfl | apply Takes.cons | exact Take1.here | apply Take1.there)) (by repeat (first | exact Subs.refl | refine Subs.skip ?_))
      · rw [if_neg c1] at hmidF
        by_cases d1 : 0 < b.length ∧ (b.length : Int) < count
        · rw [if_pos d1] at hmidF
          rw [hmidF] at hmid ⊢
          obtain ⟨d2, d3⟩ := d1
          have d4 : ¬ (b.length : Int) = 0 := by omega
          have d5 : 0 < (b.length : Int) := by omega
          repeat ((fail_if_success (refine GC.seq ?_; refine GC.region (id := 16) ?_)); first | (apply G.ex (hd := rfl); case h => (first | exact Ex.move rfl | exact Ex.fieldB rfl | exact Ex.loadB rfl rfl | exact Ex.add rfl rfl (by omega) | exact Ex.sub rfl rfl (by omega) | exact Ex.lss rfl rfl | exact Ex.gtr rfl rfl | exact Ex.assign rfl | exact Ex.pickT rfl (by first | assumption | omega) rfl | exact Ex.build rfl rfl)) | refine G.g_tt rfl rfl (by first | assumption | omega) ?_ | refine G.nil ?_ | (apply Gq.ex (hd := rfl); case h => (first | exact Ex.move rfl | exact Ex.eqI rfl rfl | exact Ex.assign rfl | exact Ex.pickF rfl (by first | assumption | omega) rfl)) | refine Gq.g_tf rfl rfl (by first | assumption | omega) rfl ?_ | refine Gq.g_un rfl rfl rfl ?_ | refine Gq.nil ?_ | refine GC.seq ?_ | refine GC.region ?_ | refine GC.draw (by kernel_rfl) (by kernel_rfl) ?_ | refine GC.block ?_ | refine GE.then_normal ?_ | refine GC.cond_yes rfl (by first | assumption | omega) ?_ | refine GC.cond_f rfl ?_)
          repeat (first | fail)
          first | refine G.call (caps := []) (ask_sp fb nb ⟨O, f.front, f.end_, put f.data A b⟩ [] ((A : Int) + b.length, count - b.length) (by simp only; omega) (by simp) oo oc da1 dc1 none 0) rfl rfl rfl rfl (by repeat (first | exact Takes.nil | apply Takes.dup rfl | apply Takes.cons | exact Take1.here | apply Take1.there)) ?_ | refine G.callU (caps := []) (ask_sp fb nb ⟨O, f.front, f.end_, put f.data A b⟩ [] ((A : Int) + b.length, count - b.length) (by simp only; omega) (by simp) oo oc da1 dc1 none 0) rfl rfl rfl (by repeat (first | exact Takes.nil | apply Takes.dup rfl | apply Takes.cons | exact Take1.here | apply Take1.there)) ?_
          rintro v_ give_ ⟨o1, c1', w1, wc1, rfl, rfl⟩ rs_ hrs_
          simp only [List.cons_append, List.nil_append] at hrs_
          subst hrs_
          repeat (first | (apply G.ex (hd := rfl); case h => (first | exact Ex.move rfl)) | refine G.nil ?_ | refine GC.seq ?_ | refine GC.region ?_ | refine GE.then_normal ?_ | refine GE.block_normal ?_)
          first | refine G.call (caps := []) (on_sp fb nb ⟨O ++ [((A : Int) + b.length, count - b.length)], f.front, f.end_, put f.data A b⟩ hmid ([] ++ [((A : Int) + b.length, count - b.length)]) (by simp) o1 c1' da1 dc1 w1 wc1) rfl rfl rfl rfl (by repeat (first | exact Takes.nil | apply Takes.dup rfl | apply Takes.cons | exact Take1.here | apply Take1.there)) ?_ | refine G.callU (caps := []) (on_sp fb nb ⟨O ++ [((A : Int) + b.length, count - b.length)], f.front, f.end_, put f.data A b⟩ hmid ([] ++ [((A : Int) + b.length, count - b.length)]) (by simp) o1 c1' da1 dc1 w1 wc1) rfl rfl rfl (by repeat (first | exact Takes.nil | apply Takes.dup rfl | apply Takes.cons | exact Take1.here | apply Take1.there)) ?_
          rintro v_ give_ ⟨o2, c2', w2, wc2, xo, xc, rfl, rfl⟩ rs_ hrs_
          simp only [List.cons_append, List.nil_append] at hrs_
          subst hrs_
          first | refine G.frz w2 ?_ | refine GC.frz w2 ?_ | refine GE.frz w2 ?_
          repeat (first | refine G.storeBA rfl rfl rfl rfl rfl ?_ | (apply G.ex (hd := rfl); case h => (first | exact Ex.loadBA rfl rfl rfl)) | refine G.nil ?_ | refine GC.seq ?_ | refine GC.region ?_ | refine GC.ret ?_ | refine GE.then_normal ?_)
          refine GE.ret (by first | exact .inl rfl | exact .inr rfl) (by first | exact res0 Try.results11 | exact res1 Try.results11 rfl | exact res2 Try.results11 rfl rfl | exact resR1 Try.results11 (by first | exact RV.tmp rfl | exact RV.cell rfl (eP_len _) | exact RV.cell rfl rfl | exact RV.cell1 rfl) | exact resR2 Try.results11 (by first | exact RV.tmp rfl | exact RV.cell rfl (eP_len _) | exact RV.cell rfl rfl | exact RV.cell1 rfl) (by first | exact RV.tmp rfl | exact RV.cell rfl (eP_len _) | exact RV.cell rfl rfl | exact RV.cell1 rfl) | exact resR3 Try.results11 (by first | exact RV.tmp rfl | exact RV.cell rfl (eP_len _) | exact RV.cell rfl rfl | exact RV.cell1 rfl) (by first | exact RV.tmp rfl | exact RV.cell rfl (eP_len _) | exact RV.cell rfl rfl | exact RV.cell1 rfl) (by first | exact RV.tmp rfl | exact RV.cell rfl (eP_len _) | exact RV.cell rfl rfl | exact RV.cell1 rfl)) ⟨o2, c2', da1, dc1, w2, wc2, xo, xc, rfl, rfl⟩ (by repeat (first | exact Takes.nil | apply Takes.dup rfl | apply Takes.cons | exact Take1.here | apply Take1.there)) (by repeat (first | exact Subs.refl | refine Subs.skip ?_))
        · rw [if_neg d1] at hmidF
          rw [hmidF] at hmid ⊢
          have hcs : (¬ 0 < (b.length : Int) ∧ (b.length : Int) = 0 ∧ ¬ f.end_ < 0 ∧ ¬ (A : Int) < f.end_) ∨ (0 < (b.length : Int) ∧ ¬ (b.length : Int) = 0 ∧ ¬ (b.length : Int) < count) := by omega
          rcases hcs with ⟨e1, e2, e3, e4⟩ | ⟨e1, e2, e3⟩
          all_goals
            repeat ((fail_if_success (refine GC.seq ?_; refine GC.region (id := 17) ?_)); first | (apply G.ex (hd := rfl); case h => (first | exact Ex.move rfl | exact Ex.fieldB rfl | exact Ex.loadB rfl rfl | exact Ex.lss rfl rfl | exact Ex.gtr rfl rfl | exact Ex.assign rfl | exact Ex.pickT rfl (by first | assumption | omega) rfl | exact Ex.pickF rfl (by first | assumption | omega) rfl)) | refine G.g_tt rfl rfl (by first | assumption | omega) ?_ | refine G.g_tf rfl rfl (by first | assumption | omega) rfl ?_ | refine G.nil ?_ | (apply Gq.ex (hd := rfl); case h => (first | exact Ex.move rfl | exact Ex.nilCheck rfl | exact Ex.fieldB rfl | exact Ex.loadB rfl rfl | exact Ex.lss rfl rfl | exact Ex.eqI rfl rfl | exact Ex.assign rfl | exact Ex.pickT rfl (by first | assumption | omega) rfl | exact Ex.pickF rfl (by first | assumption | omega) rfl)) | refine Gq.g_tt rfl rfl (by first | assumption | omega) ?_ | refine Gq.g_tf rfl rfl (by first | assumption | omega) rfl ?_ | refine Gq.g_ff rfl rfl (by first | assumption | omega) ?_ | refine Gq.g_un rfl rfl rfl ?_ | refine Gq.nil ?_ | refine GC.seq ?_ | refine GC.region ?_ | refine GC.draw (by kernel_rfl) (by kernel_rfl) ?_ | refine GC.block ?_ | refine GC.skip ?_ | refine GE.then_normal ?_ | refine GE.block_normal ?_ | refine GC.cond_no rfl (by first | assumption | omega) ?_ | refine GC.cond_f rfl ?_)
            repeat (first | (apply G.ex (hd := rfl); case h => (first | exact Ex.move rfl)) | refine GC.seq ?_ | refine GC.region ?_)
            first | refine G.call (caps := []) (on_sp fb nb ⟨O, f.front, f.end_, put f.data A b⟩ hmid [] (by simp) oo oc da1 dc1 none 0) rfl rfl rfl rfl (by repeat (first | exact Takes.nil | apply Takes.dup rfl | apply Takes.cons | exact Take1.here | apply Take1.there)) ?_ | refine G.callU (caps := []) (on_sp fb nb ⟨O, f.front, f.end_, put f.data A b⟩ hmid [] (by simp) oo oc da1 dc1 none 0) rfl rfl rfl (by repeat (first | exact Takes.nil | apply Takes.dup rfl | apply Takes.cons | exact Take1.here | apply Take1.there)) ?_
            rintro v_ give_ ⟨o2, c2', w2, wc2, xo, xc, rfl, rfl⟩ rs_ hrs_
            simp only [List.cons_append, List.nil_append] at hrs_
            subst hrs_
            first | refine G.frz w2 ?_ | refine GC.frz w2 ?_ | refine GE.frz w2 ?_
            repeat (first | refine G.storeBA rfl rfl rfl rfl rfl ?_ | (apply G.ex (hd := rfl); case h => (first | exact Ex.loadBA rfl rfl rfl)) | refine G.nil ?_ | refine GC.seq ?_ | refine GC.region ?_ | refine GC.ret ?_ | refine GE.then_normal ?_)
            refine GE.ret (by first | exact .inl rfl | exact .inr rfl) (by first | exact res0 Try.results11 | exact res1 Try.results11 rfl | exact res2 Try.results11 rfl rfl | exact resR1 Try.results11 (by first | exact RV.tmp rfl | exact RV.cell rfl (eP_len _) | exact RV.cell rfl rfl | exact RV.cell1 rfl) | exact resR2 Try.results11 (by first | exact RV.tmp rfl | exact RV.cell rfl (eP_len _) | exact RV.cell rfl rfl | exact RV.cell1 rfl) (by first | exact RV.tmp rfl | exact RV.cell rfl (eP_len _) | exact RV.cell rfl rfl | exact RV.cell1 rfl) | exact resR3 Try.results11 (by first | exact RV.tmp rfl | exact RV.cell rfl (eP_len _) | exact RV.cell rfl rfl | exact RV.cell1 rfl) (by first | exact RV.tmp rfl | exact RV.cell rfl (eP_len _) | exact RV.cell rfl rfl | exact RV.cell1 rfl) (by first | exact RV.tmp rfl | exact RV.cell rfl (eP_len _) | exact RV.cell rfl rfl | exact RV.cell1 rfl)) ⟨o2, c2', da1, dc1, w2, wc2, xo, xc, rfl, rfl⟩ (by repeat (first | exact Takes.nil | apply Takes.dup rfl | apply Takes.cons | exact Take1.here | apply Take1.there)) (by repeat (first | exact Subs.refl | refine Subs.skip ?_))
  · rw [if_neg hi]
    have hr : gotF f (toG ⟨at_, count, ⟨bo, b.length, bc, b⟩⟩) = (f, ⟨7, [], false, []⟩) := by
      unfold gotF
      rw [if_pos (by simp only [toG]; omega)]
    rw [hr]
    refine GE.then_normal ?_
    first | refine G.nilvec 5 1 ?_ | refine GC.nilvec 5 1 ?_
    first | refine G.frz none ?_ | refine GC.frz none ?_ | refine GE.frz none ?_
    first | refine G.nilvec 42 2 ?_ | refine GC.nilvec 42 2 ?_
    first | refine G.frz none ?_ | refine GC.frz none ?_ | refine GE.frz none ?_
    repeat (first | refine G.storeBA rfl rfl rfl rfl rfl ?_ | (apply G.ex (hd := rfl); case h => (first | exact Ex.move rfl | exact Ex.lss rfl rfl | exact Ex.assign rfl | exact Ex.build rfl rfl)) | refine G.nil ?_ | refine GC.seq ?_ | refine GC.region ?_ | refine GC.block ?_ | refine GC.ret ?_ | refine GE.then_normal ?_ | refine GE.then_ret ?_ | refine GE.block_ret ?_ | refine GC.cond_yes rfl (by first | assumption | omega) ?_)
    refine GE.ret (by first | exact .inl rfl | exact .inr rfl) (by first | exact res0 Try.results11 | exact res1 Try.results11 rfl | exact res2 Try.results11 rfl rfl | exact resR1 Try.results11 (by first | exact RV.tmp rfl | exact RV.cell rfl (eP_len _) | exact RV.cell rfl rfl | exact RV.cell1 rfl) | exact resR2 Try.results11 (by first | exact RV.tmp rfl | exact RV.cell rfl (eP_len _) | exact RV.cell rfl rfl | exact RV.cell1 rfl) (by first | exact RV.tmp rfl | exact RV.cell rfl (eP_len _) | exact RV.cell rfl rfl | exact RV.cell1 rfl) | exact resR3 Try.results11 (by first | exact RV.tmp rfl | exact RV.cell rfl (eP_len _) | exact RV.cell rfl rfl | exact RV.cell1 rfl) (by first | exact RV.tmp rfl | exact RV.cell rfl (eP_len _) | exact RV.cell rfl rfl | exact RV.cell1 rfl) (by first | exact RV.tmp rfl | exact RV.cell rfl (eP_len _) | exact RV.cell rfl rfl | exact RV.cell1 rfl)) ⟨oo, oc, da, dc, none, 0, none, 0, rfl, rfl⟩ (by repeat (first | exact Takes.nil | apply Takes.dup rfl | apply Takes.cons | exact Take1.here | apply Take1.there)) (by repeat (first | exact Subs.refl | refine Subs.skip ?_))
end fetch
end Go.Proofs.Ytpeidlaejjfmeaa
