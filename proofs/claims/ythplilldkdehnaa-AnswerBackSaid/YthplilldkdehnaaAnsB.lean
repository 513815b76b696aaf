/-
  CONTRACTS of package msg: fault, Answer, Answered, by the kit.
-/
import Derived.Test.YthplilldkdehnaaAnsA
namespace Go.Proofs.Ythplilldkdehnaa
open Go.RowKit
attribute [local irreducible] Ex G GC GE Gq FPost LPost
set_option linter.unusedVariables false
set_option linter.unusedSimpArgs false

namespace msg
open frame path
theorem setN7 (m : Ms) (v : Int) : (m.setN 7 v).r = { m.r with count := v } := rfl
theorem repF_len : repF.length = 7 := rfl
set_option maxHeartbeats 4000000 in
theorem fault_sp (r : Res) (m : Ms) (hm : m.r.data.length = m.n) (no : Option Addr) (nn nc : Nat) (names : List (List UInt8)) [hr : RdR r no nn nc 1 (flat eO names)] (hnn : names.length = nn) (hn : nn ≤ 1000000) (hs : ∀ s ∈ names, s.length ≤ 1000000) :
    Spec Try.prog 23 [.agg (eRp m (.int .i64 m.r.kind) (.slice no nn nc)).toArray] [r] fun v give => v = .int .i64 (faultF m.r names) ∧ give = [r] := by
  subst hnn
  obtain ⟨E, hE⟩ : ∃ E, allF { m.r with count := (min names.length 40 : Nat) } repF 0 = E := ⟨_, rfl⟩
  have hF : faultF m.r names = if E ≠ 0 then E else if 40 < names.length then 1 else if ∃ s ∈ names, ¬ NameOk s then 4 else 0 := by unfold faultF; rw [hE]
  rw [hF]
  refine Spec.intro Try.func23 rfl Try.ntmps23 rfl fun w0 rest rs_ hrs_ => ?_
  simp only [List.cons_append, List.nil_append] at hrs_
  subst hrs_
  repeat (first | refine GC.seq ?_ | refine GC.region ?_)
  refine G.box rfl rfl rfl (fun b => ?_)
  repeat (first | (apply G.ex (hd := rfl); case h => (first | exact Ex.fieldB rfl | exact Ex.loadB rfl rfl | exact Ex.lenSl rfl | exact Ex.assign rfl | exact Ex.min rfl rfl)) | refine G.nil ?_ | refine GC.seq ?_ | refine GC.region ?_ | refine GE.then_normal ?_)
  rw [show Min.min ((names.length : Nat) : Int) 40 = ((min names.length 40 : Nat) : Int) by omega]
  refine G.alloc rfl (fun cb => ?_)
  refine G.alloc rfl (fun nb => ?_)
  repeat (first | refine G.storeB rfl rfl rfl rfl rfl ?_ | refine G.nil ?_ | refine GC.seq ?_ | refine GC.region ?_ | refine GE.then_normal ?_)
  refine G.conv (rs' := _) (fun w_ H_ => Holds.starIns (l := (lRp b cb nb (.int .i64 m.r.kind) (.slice no names.length nc)).bl (m.setN 7 (min names.length 40 : Nat))) (H_.take (need := (lRp b cb nb (.int .i64 m.r.kind) (.slice no names.length nc)).bl (m.setN 7 (min names.length 40 : Nat))) (.cons (.there (.there .here)) (.cons (.there .here) (.cons .here .nil))))) ?_
  first | refine G.call (caps := []) (replied_sp b cb nb (.int .i64 m.r.kind) (.slice no names.length nc)) rfl rfl rfl rfl (by repeat (first | exact Takes.nil | apply Takes.dup rfl | apply Takes.cons | exact Take1.here | apply Take1.there)) ?_ | refine G.callU (caps := []) (replied_sp b cb nb (.int .i64 m.r.kind) (.slice no names.length nc)) rfl rfl rfl (by repeat (first | exact Takes.nil | apply Takes.dup rfl | apply Takes.cons | exact Take1.here | apply Take1.there)) ?_
  rintro v_ give_ ⟨pa, rfl, rfl⟩ rs_ hrs_
  simp only [List.cons_append, List.nil_append] at hrs_
  subst hrs_
  first | refine G.frz pa ?_ | refine GC.frz pa ?_ | refine GE.frz pa ?_
  first | refine G.call (caps := []) (all_sp (lRp b cb nb (.int .i64 m.r.kind) (.slice no names.length nc)) repF (rep_ok b cb nb _ _) (by decide) (m.setN 7 (min names.length 40 : Nat)) hm pa 7 7 rfl) rfl rfl rfl rfl (by repeat (first | exact Takes.nil | apply Takes.dup rfl | apply Takes.cons | exact Take1.here | apply Take1.there)) ?_ | refine G.callU (caps := []) (all_sp (lRp b cb nb (.int .i64 m.r.kind) (.slice no names.length nc)) repF (rep_ok b cb nb _ _) (by decide) (m.setN 7 (min names.length 40 : Nat)) hm pa 7 7 rfl) rfl rfl rfl (by repeat (first | exact Takes.nil | apply Takes.dup rfl | apply Takes.cons | exact Take1.here | apply Take1.there)) ?_
  rintro v_ give_ ⟨rfl, rfl⟩ rs_ hrs_
  simp only [List.cons_append, List.nil_append] at hrs_
  subst hrs_
  rw [setN7, hE]
  by_cases h0 : E = 0
  · rw [if_neg (by omega)]
    refine G.conv (rs' := _) (fun w_ H_ => Holds.starOuts (l := [.blk b 40 (eRp m (.int .i64 m.r.kind) (.slice no names.length nc)), .blk cb 3 [.int .i64 m.r.kind], .blk nb 3 [.int .i64 (min names.length 40 : Nat)]]) (H_.take (need := [.own (Star ((lRp b cb nb (.int .i64 m.r.kind) (.slice no names.length nc)).bl (m.setN 7 (min names.length 40 : Nat))))]) (.cons .here .nil))) ?_
    simp only [List.append_eq, List.nil_append, List.cons_append]
    by_cases h1 : 40 < names.length
    · rw [if_pos h1]
      repeat (first | (apply G.ex (hd := rfl); case h => (first | exact Ex.move rfl | exact Ex.fieldB rfl | exact Ex.loadB rfl rfl | exact Ex.gtr rfl rfl | exact Ex.neI rfl rfl | exact Ex.lenSl rfl | exact Ex.assign rfl)) | refine G.nil ?_ | refine GC.seq ?_ | refine GC.region ?_ | refine GC.block ?_ | refine GC.skip ?_ | refine GC.ret ?_ | refine GE.then_normal ?_ | refine GE.then_ret ?_ | refine GE.block_ret ?_ | refine GC.cond_yes rfl (by first | assumption | omega) ?_ | refine GC.cond_no rfl (by first | assumption | omega) ?_)
      refine GE.ret (by first | exact .inl rfl | exact .inr rfl) (by first | exact res0 Try.results23 | exact res1 Try.results23 rfl | exact res2 Try.results23 rfl rfl | exact resR1 Try.results23 (by first | exact RV.tmp rfl | exact RV.cell rfl (eP_len _) | exact RV.cell rfl rfl | exact RV.cell1 rfl) | exact resR2 Try.results23 (by first | exact RV.tmp rfl | exact RV.cell rfl (eP_len _) | exact RV.cell rfl rfl | exact RV.cell1 rfl) (by first | exact RV.tmp rfl | exact RV.cell rfl (eP_len _) | exact RV.cell rfl rfl | exact RV.cell1 rfl) | exact resR3 Try.results23 (by first | exact RV.tmp rfl | exact RV.cell rfl (eP_len _) | exact RV.cell rfl rfl | exact RV.cell1 rfl) (by first | exact RV.tmp rfl | exact RV.cell rfl (eP_len _) | exact RV.cell rfl rfl | exact RV.cell1 rfl) (by first | exact RV.tmp rfl | exact RV.cell rfl (eP_len _) | exact RV.cell rfl rfl | exact RV.cell1 rfl)) ⟨rfl, rfl⟩ (by repeat (first | exact Takes.nil | apply Takes.dup rfl | apply Takes.cons | exact Take1.here | apply Take1.there)) (by repeat (first | exact Subs.refl | refine Subs.skip ?_))
    · rw [if_neg h1]
      repeat (first | (apply G.ex (hd := rfl); case h => (first | exact Ex.move rfl | exact Ex.fieldB rfl | exact Ex.loadB rfl rfl | exact Ex.gtr rfl rfl | exact Ex.neI rfl rfl | exact Ex.lenSl rfl | exact Ex.assign rfl)) | refine G.nil ?_ | refine GC.seq ?_ | refine GC.region ?_ | refine GC.block ?_ | refine GC.skip ?_ | refine GE.then_normal ?_ | refine GC.cond_no rfl (by first | assumption | omega) ?_)
      first | refine G.call (caps := []) (cont_sp r no names.length nc names rfl hn hs) rfl rfl rfl rfl (by repeat (first | exact Takes.nil | apply Takes.dup rfl | apply Takes.cons | exact Take1.here | apply Take1.there)) ?_ | refine G.callU (caps := []) (cont_sp r no names.length nc names rfl hn hs) rfl rfl rfl (by repeat (first | exact Takes.nil | apply Takes.dup rfl | apply Takes.cons | exact Take1.here | apply Take1.there)) ?_
      rintro v_ give_ ⟨rfl, rfl⟩ rs_ hrs_
      simp only [List.cons_append, List.nil_append] at hrs_
      subst hrs_
      by_cases h2 : ∃ s ∈ names, ¬ NameOk s
      · rw [if_pos h2]
        repeat (first | (apply G.ex (hd := rfl); case h => (first | exact Ex.assign rfl)) | refine G.nil ?_ | refine GC.seq ?_ | refine GC.region ?_ | refine GC.ret ?_ | refine GE.then_normal ?_ | refine GE.then_ret ?_ | refine GE.block_ret ?_ | refine GC.cond_yes rfl (by first | assumption | omega) ?_)
        refine GE.ret (by first | exact .inl rfl | exact .inr rfl) (by first | exact res0 Try.results23 | exact res1 Try.results23 rfl | exact res2 Try.results23 rfl rfl | exact resR1 Try.results23 (by first | exact RV.tmp rfl | exact RV.cell rfl (eP_len _) | exact RV.cell rfl rfl | exact RV.cell1 rfl) | exact resR2 Try.results23 (by first | exact RV.tmp rfl | exact RV.cell rfl (eP_len _) | exact RV.cell rfl rfl | exact RV.cell1 rfl) (by first | exact RV.tmp rfl | exact RV.cell rfl (eP_len _) | exact RV.cell rfl rfl | exact RV.cell1 rfl) | exact resR3 Try.results23 (by first | exact RV.tmp rfl | exact RV.cell rfl (eP_len _) | exact RV.cell rfl rfl | exact RV.cell1 rfl) (by first | exact RV.tmp rfl | exact RV.cell rfl (eP_len _) | exact RV.cell rfl rfl | exact RV.cell1 rfl) (by first | exact RV.tmp rfl | exact RV.cell rfl (eP_len _) | exact RV.cell rfl rfl | exact RV.cell1 rfl)) ⟨rfl, rfl⟩ (by repeat (first | exact Takes.nil | apply Takes.dup rfl | apply Takes.cons | exact Take1.here | apply Take1.there)) (by repeat (first | exact Subs.refl | refine Subs.skip ?_))
      · rw [if_neg h2]
        repeat (first | (apply G.ex (hd := rfl); case h => (first | exact Ex.assign rfl)) | refine G.nil ?_ | refine GC.seq ?_ | refine GC.region ?_ | refine GC.skip ?_ | refine GC.ret ?_ | refine GE.then_normal ?_ | refine GE.block_normal ?_ | refine GC.cond_no rfl (by first | assumption | omega) ?_)
        refine GE.ret (by first | exact .inl rfl | exact .inr rfl) (by first | exact res0 Try.results23 | exact res1 Try.results23 rfl | exact res2 Try.results23 rfl rfl | exact resR1 Try.results23 (by first | exact RV.tmp rfl | exact RV.cell rfl (eP_len _) | exact RV.cell rfl rfl | exact RV.cell1 rfl) | exact resR2 Try.results23 (by first | exact RV.tmp rfl | exact RV.cell rfl (eP_len _) | exact RV.cell rfl rfl | exact RV.cell1 rfl) (by first | exact RV.tmp rfl | exact RV.cell rfl (eP_len _) | exact RV.cell rfl rfl | exact RV.cell1 rfl) | exact resR3 Try.results23 (by first | exact RV.tmp rfl | exact RV.cell rfl (eP_len _) | exact RV.cell rfl rfl | exact RV.cell1 rfl) (by first | exact RV.tmp rfl | exact RV.cell rfl (eP_len _) | exact RV.cell rfl rfl | exact RV.cell1 rfl) (by first | exact RV.tmp rfl | exact RV.cell rfl (eP_len _) | exact RV.cell rfl rfl | exact RV.cell1 rfl)) ⟨rfl, rfl⟩ (by repeat (first | exact Takes.nil | apply Takes.dup rfl | apply Takes.cons | exact Take1.here | apply Take1.there)) (by repeat (first | exact Subs.refl | refine Subs.skip ?_))
  · rw [if_pos h0]
    repeat (first | (apply G.ex (hd := rfl); case h => (first | exact Ex.move rfl | exact Ex.neI rfl rfl | exact Ex.assign rfl)) | refine G.nil ?_ | refine GC.seq ?_ | refine GC.region ?_ | refine GC.ret ?_ | refine GE.then_normal ?_ | refine GE.then_ret ?_ | refine GC.cond_yes rfl (by first | assumption | omega) ?_)
    refine GE.ret (by first | exact .inl rfl | exact .inr rfl) (by first | exact res0 Try.results23 | exact res1 Try.results23 rfl | exact res2 Try.results23 rfl rfl | exact resR1 Try.results23 (by first | exact RV.tmp rfl | exact RV.cell rfl (eP_len _) | exact RV.cell rfl rfl | exact RV.cell1 rfl) | exact resR2 Try.results23 (by first | exact RV.tmp rfl | exact RV.cell rfl (eP_len _) | exact RV.cell rfl rfl | exact RV.cell1 rfl) (by first | exact RV.tmp rfl | exact RV.cell rfl (eP_len _) | exact RV.cell rfl rfl | exact RV.cell1 rfl) | exact resR3 Try.results23 (by first | exact RV.tmp rfl | exact RV.cell rfl (eP_len _) | exact RV.cell rfl rfl | exact RV.cell1 rfl) (by first | exact RV.tmp rfl | exact RV.cell rfl (eP_len _) | exact RV.cell rfl rfl | exact RV.cell1 rfl) (by first | exact RV.tmp rfl | exact RV.cell rfl (eP_len _) | exact RV.cell rfl rfl | exact RV.cell1 rfl)) ⟨rfl, rfl⟩ (by repeat (first | exact Takes.nil | apply Takes.dup rfl | apply Takes.cons | exact Take1.here | apply Take1.there)) (by repeat (first | exact Subs.refl | refine Subs.skip ?_))
theorem names_step (l : List (List UInt8)) (k : Nat) (h : k < l.length) : namesB (l.take (k + 1)) = namesB (l.take k) ++ textB (l.getD k default) := by
  unfold namesB
  rw [List.take_succ_eq_append_getElem h, List.flatMap_append, List.getD_eq_getElem?_getD, List.getElem?_eq_getElem h]
  simp
theorem names_le (l : List (List UInt8)) (h : ∀ s ∈ l, NameOk s) : ∀ k, (namesB (l.take k)).length ≤ 18 * k
  | 0 => by simp [namesB]
  | k + 1 => by
    have ih := names_le l h k
    by_cases hk : k < l.length
    · rw [names_step l k hk, List.length_append, textB_len]
      have := (h _ (getD_mem2 l k hk)).2.1
      omega
    · rw [List.take_of_length_le (by omega)]
      rw [List.take_of_length_le (by omega)] at ih
      omega
theorem rep_w : ∀ p ∈ repF, PtW p := by
  intro p hp
  simp only [repF, List.mem_cons, List.not_mem_nil, or_false] at hp
  rcases hp with rfl | rfl | rfl | rfl | rfl | rfl | rfl <;> simp [PtW]
set_option maxHeartbeats 8000000 in
theorem answer_sp (r : Res) (m : Ms) (hm : m.r.data.length = m.n) (no : Option Addr) (nn nc : Nat) (names : List (List UInt8)) [hr : RdR r no nn nc 1 (flat eO names)] (hnn : names.length = nn) (hn : nn ≤ 1000000) (hs : ∀ s ∈ names, s.length ≤ 1000000) :
    Spec Try.prog 13 [.agg (eRp m (.int .i64 m.r.kind) (.slice no nn nc)).toArray] [.sl m.ao m.n m.c 1 (flat eB m.r.data), r] fun v give => ∃ oa oc, v = .tuple #[.slice oa (answerF m.r names).1.length oc, .int .i64 (answerF m.r names).2] ∧ (answerF m.r names).1.length ≤ 10000 ∧ give = [.vec 5 1 oa (answerF m.r names).1.length oc (flat eB (answerF m.r names).1), r] := by
  subst hnn
  refine Spec.intro Try.func13 rfl Try.ntmps13 rfl fun w0 rest rs_ hrs_ => ?_
  simp only [List.cons_append, List.nil_append] at hrs_
  subst hrs_
  repeat (first | refine GC.seq ?_ | refine GC.region ?_)
  refine G.box rfl rfl rfl (fun b => ?_)
  repeat (first | (apply G.ex (hd := rfl); case h => (first | exact Ex.assign rfl | exact Ex.loadBA rfl rfl rfl)) | refine G.nil ?_ | refine GC.seq ?_ | refine GC.region ?_ | refine GE.then_normal ?_)
  first | refine G.call (caps := []) (fault_sp r m hm no names.length nc names rfl hn hs) rfl rfl rfl rfl (by repeat (first | exact Takes.nil | apply Takes.dup rfl | apply Takes.cons | exact Take1.here | apply Take1.there)) ?_ | refine G.callU (caps := []) (fault_sp r m hm no names.length nc names rfl hn hs) rfl rfl rfl (by repeat (first | exact Takes.nil | apply Takes.dup rfl | apply Takes.cons | exact Take1.here | apply Take1.there)) ?_
  rintro v_ give_ ⟨rfl, rfl⟩ rs_ hrs_
  simp only [List.cons_append, List.nil_append] at hrs_
  subst hrs_
  by_cases h0 : faultF m.r names = 0
  · obtain ⟨f1, f2, f3⟩ := fault_ok.1 h0
    have e : answerF m.r names = (repF.flatMap (bytesF { m.r with count := (names.length : Nat) }) ++ namesB names, 0) := by unfold answerF; rw [if_pos h0]
    rw [e, h0]
    have f3' : ∀ p ∈ repF, fit (m.setN 7 (names.length : Nat)).r p = 0 := f3
    rw [show ({ m.r with count := (names.length : Nat) } : Rq) = (m.setN 7 (names.length : Nat)).r from rfl]
    repeat (first | (apply G.ex (hd := rfl); case h => (first | exact Ex.move rfl | exact Ex.fieldB rfl | exact Ex.loadB rfl rfl | exact Ex.neI rfl rfl | exact Ex.lenSl rfl | exact Ex.assign rfl)) | refine G.nil ?_ | refine GC.seq ?_ | refine GC.region ?_ | refine GC.skip ?_ | refine GE.then_normal ?_ | refine GC.cond_no rfl (by first | assumption | omega) ?_)
    refine G.alloc rfl (fun cb => ?_)
    refine G.alloc rfl (fun nb => ?_)
    repeat (first | refine G.storeB rfl rfl rfl rfl rfl ?_ | (apply G.ex (hd := rfl); case h => (first | exact Ex.assign rfl)) | refine G.nil ?_ | refine GC.seq ?_ | refine GC.region ?_ | refine GE.then_normal ?_)
    first | refine G.nilvec 5 1 ?_ | refine GC.nilvec 5 1 ?_
    refine G.conv (rs' := _) (fun w_ H_ => Holds.starIns (l := (lRp b cb nb (.int .i64 m.r.kind) (.slice no names.length nc)).bl (m.setN 7 (names.length : Nat))) (H_.take (need := (lRp b cb nb (.int .i64 m.r.kind) (.slice no names.length nc)).bl (m.setN 7 (names.length : Nat))) (.cons (.there (.there (.there (.there .here)))) (.cons (.there (.there .here)) (.cons (.there .here) .nil))))) ?_
    first | refine G.call (caps := []) (replied_sp b cb nb (.int .i64 m.r.kind) (.slice no names.length nc)) rfl rfl rfl rfl (by repeat (first | exact Takes.nil | apply Takes.dup rfl | apply Takes.cons | exact Take1.here | apply Take1.there)) ?_ | refine G.callU (caps := []) (replied_sp b cb nb (.int .i64 m.r.kind) (.slice no names.length nc)) rfl rfl rfl (by repeat (first | exact Takes.nil | apply Takes.dup rfl | apply Takes.cons | exact Take1.here | apply Take1.there)) ?_
    rintro v_ give_ ⟨pa, rfl, rfl⟩ rs_ hrs_
    simp only [List.cons_append, List.nil_append] at hrs_
    subst hrs_
    first | refine G.frz pa ?_ | refine GC.frz pa ?_ | refine GE.frz pa ?_
    repeat (first | (apply G.ex (hd := rfl); case h => (first | exact Ex.move rfl | exact Ex.lenSl rfl)) | refine G.nil ?_ | refine GC.block ?_ | refine GE.then_normal ?_)
    refine GC.loop (ι := Nat × Option Addr × Nat) (fun i => i.1 ≤ 7) (fun i => 7 - i.1) (fun i => [(1, .pointer (some (badr b 0))), (7, .slice i.2.1 ((repF.take i.1).flatMap (bytesF (m.setN 7 (names.length : Nat)).r)).length i.2.2), (22, .slice pa 7 7), (23, .int .i64 7), (24, .int .i64 (i.1 : Int))]) (fun i => [.own (Star ((lRp b cb nb (.int .i64 m.r.kind) (.slice no names.length nc)).bl (m.setN 7 (names.length : Nat)))), .sl m.ao m.n m.c 1 (flat eB m.r.data), .sl pa 7 7 4 (flat (ePl (lRp b cb nb (.int .i64 m.r.kind) (.slice no names.length nc))) repF), .vec 5 1 i.2.1 ((repF.take i.1).flatMap (bytesF (m.setN 7 (names.length : Nat)).r)).length i.2.2 (flat eB ((repF.take i.1).flatMap (bytesF (m.setN 7 (names.length : Nat)).r))), r]) (0, none, 0) (Nat.zero_le _) (by simp only [fits]; repeat (first | exact trivial | refine And.intro rfl ?_)) (by repeat (first | exact Takes.nil | apply Takes.dup rfl | apply Takes.cons | exact Take1.here | apply Take1.there)) ?_
    rintro ⟨k, oa, oc⟩ hk fr_ rs_ hfr_ hrs_
    simp only [List.cons_append, List.nil_append] at hfr_ hrs_
    subst hfr_ hrs_
    simp only at hk
    have hbd := put_bound (m.setN 7 (names.length : Nat)).r repF k rep_w f3' (by decide)
    repeat (first | (apply G.ex (hd := rfl); case h => (first | exact Ex.lss rfl rfl)) | refine G.nil ?_ | refine GC.seq ?_ | refine GC.region ?_ | refine GE.then_normal ?_)
    refine GC.cond_dec rfl (fun hlt => ?_) (fun hlt => ?_)
    · have hlt : k < repF.length := by rw [repF_len]; omega
      have hmem := getD_mem2 repF k hlt
      have hst := flat_step (m.setN 7 (names.length : Nat)).r repF k hlt
      obtain ⟨p, hpp2⟩ : ∃ p, repF.getD k default = p := ⟨_, rfl⟩
      repeat (first | (apply G.ex (hd := rfl); case h => (first | exact Ex.indexN rfl rfl (by first | omega | (simp; done) | (simp; omega)) | exact Ex.loadTA rfl (by first | omega | (simp; done) | (simp; omega)))) | refine GC.seq ?_ | refine GC.region ?_ | refine GC.block ?_ | refine GC.skip ?_ | refine GE.then_normal ?_)
      rw [hpp2] at hmem hst ⊢
      refine G.alloc rfl (fun q => ?_)
      refine G.storeWh (enc := (ePl (lRp b cb nb (.int .i64 m.r.kind) (.slice no names.length nc)))) (q := p) rfl rfl (by repeat (first | exact Upd.here | apply Upd.there)) (by rfl) ?_
      repeat (first | refine G.nil ?_ | refine GC.region ?_ | refine GE.then_normal ?_)
      refine G.ex (Ex.loadWh (enc := (ePl (lRp b cb nb (.int .i64 m.r.kind) (.slice no names.length nc)))) (q := p) rfl) rfl ?_
      repeat (first | (apply G.ex (hd := rfl); case h => (first | exact Ex.move rfl)))
      first | refine G.call (caps := []) (putP_sp (lRp b cb nb (.int .i64 m.r.kind) (.slice no names.length nc)) p (rep_ok b cb nb _ _ p hmem) (m.setN 7 (names.length : Nat)) hm (f3' p hmem) oa ((repF.take k).flatMap (bytesF (m.setN 7 (names.length : Nat)).r)).length oc ((repF.take k).flatMap (bytesF (m.setN 7 (names.length : Nat)).r)) (by omega)) rfl rfl rfl rfl (by repeat (first | exact Takes.nil | apply Takes.dup rfl | apply Takes.cons | exact Take1.here | apply Take1.there)) ?_ | refine G.callU (caps := []) (putP_sp (lRp b cb nb (.int .i64 m.r.kind) (.slice no names.length nc)) p (rep_ok b cb nb _ _ p hmem) (m.setN 7 (names.length : Nat)) hm (f3' p hmem) oa ((repF.take k).flatMap (bytesF (m.setN 7 (names.length : Nat)).r)).length oc ((repF.take k).flatMap (bytesF (m.setN 7 (names.length : Nat)).r)) (by omega)) rfl rfl rfl (by repeat (first | exact Takes.nil | apply Takes.dup rfl | apply Takes.cons | exact Take1.here | apply Take1.there)) ?_
      rintro v_ give_ ⟨va, vc, rfl, rfl⟩ rs_ hrs_
      simp only [List.cons_append, List.nil_append] at hrs_
      subst hrs_
      rw [← List.length_append, ← hst]
      repeat (first | (apply G.ex (hd := rfl); case h => (first | exact Ex.move rfl | exact Ex.add rfl rfl (by omega) | exact Ex.assign rfl)) | refine G.nil ?_ | refine GC.region ?_ | refine GE.then_normal ?_ | refine GE.block_normal ?_)
      refine GE.loop (k + 1, va, vc) (by simp only; omega) (by simp only; omega) (by simp only [fits]; repeat (first | exact trivial | refine And.intro rfl ?_)) (by repeat (first | exact Takes.nil | apply Takes.dup rfl | apply Takes.cons | exact Take1.here | apply Take1.there)) (by repeat (first | exact Subs.refl | refine Subs.skip ?_))
    · have hk2 : k = 7 := by omega
      subst hk2
      rw [show repF.take 7 = repF from rfl] at hbd ⊢
      repeat (first | (apply G.ex (hd := rfl); case h => (first | exact Ex.fieldB rfl)) | refine GC.seq ?_ | refine GC.region ?_ | refine GC.exit ?_ | refine GE.then_normal ?_ | refine GE.then_exit ?_ | refine GE.block_hit ?_)
      refine G.conv (rs' := _) (fun w_ H_ => Holds.starOuts (l := (lRp b cb nb (.int .i64 m.r.kind) (.slice no names.length nc)).bl (m.setN 7 (names.length : Nat))) (H_.take (need := [.own (Star ((lRp b cb nb (.int .i64 m.r.kind) (.slice no names.length nc)).bl (m.setN 7 (names.length : Nat))))]) (.cons .here .nil))) ?_
      refine G.conv (rs' := .blk b 40 (eRp m (.int .i64 m.r.kind) (.slice no names.length nc)) :: .blk cb 3 [.int .i64 m.r.kind] :: .blk nb 3 [.int .i64 (names.length : Nat)] :: _) (fun w_ H_ => H_) ?_
      simp only [List.append_eq, List.nil_append, List.cons_append]
      obtain ⟨F, hF⟩ : ∃ F, repF.flatMap (bytesF (m.setN 7 (names.length : Nat)).r) = F := ⟨_, rfl⟩
      rw [hF] at hbd ⊢
      repeat (first | (apply G.ex (hd := rfl); case h => (first | exact Ex.move rfl | exact Ex.loadB rfl rfl | exact Ex.lenSl rfl)) | refine G.nil ?_ | refine GC.block ?_ | refine GE.then_normal ?_)
      have hz : F ++ namesB (names.take 0) = F := by rw [List.take_zero]; exact List.append_nil F
      refine GC.cut (fr' := [(7, .slice oa (F ++ namesB (names.take 0)).length oc), (33, .slice no names.length nc), (34, .int .i64 (names.length : Int)), (35, .int .i64 ((0 : Nat) : Int))]) (rs' := [.vec 5 1 oa (F ++ namesB (names.take 0)).length oc (flat eB (F ++ namesB (names.take 0))), r]) ?_ (by rw [hz]; simp only [fits]; repeat (first | exact trivial | refine And.intro rfl ?_)) (by rw [hz]; repeat (first | exact Takes.nil | apply Takes.dup rfl | apply Takes.cons | exact Take1.here | apply Take1.there))
      simp only [List.append_eq, List.nil_append, List.cons_append]
      refine GC.loop (ι := Nat × Option Addr × Nat) (fun i => i.1 ≤ names.length) (fun i => names.length - i.1) (fun i => [(7, .slice i.2.1 (F ++ namesB (names.take i.1)).length i.2.2), (33, .slice no names.length nc), (34, .int .i64 (names.length : Int)), (35, .int .i64 (i.1 : Int))]) (fun i => [.vec 5 1 i.2.1 (F ++ namesB (names.take i.1)).length i.2.2 (flat eB (F ++ namesB (names.take i.1))), r]) (0, oa, oc) (Nat.zero_le _) (by simp only [fits]; repeat (first | exact trivial | refine And.intro rfl ?_)) (by repeat (first | exact Takes.nil | apply Takes.dup rfl | apply Takes.cons | exact Take1.here | apply Take1.there)) ?_
      rintro ⟨k, ua, uc⟩ hk3 fr_ rs_ hfr_ hrs_
      simp only [List.cons_append, List.nil_append] at hfr_ hrs_
      subst hfr_ hrs_
      simp only at hk3
      have hnl := names_le names f2 k
      have hbl : (F ++ namesB (names.take k)).length ≤ 4000 := by rw [List.length_append]; omega
      repeat (first | (apply G.ex (hd := rfl); case h => (first | exact Ex.lss rfl rfl)) | refine G.nil ?_ | refine GC.seq ?_ | refine GC.region ?_ | refine GE.then_normal ?_)
      refine GC.cond_dec rfl (fun hlt3 => ?_) (fun hlt3 => ?_)
      · have hlt3 : k < names.length := by omega
        have hst := names_step names k hlt3
        have hnm := f2 _ (getD_mem2 names k hlt3)
        obtain ⟨s, hss⟩ : ∃ s, names.getD k default = s := ⟨_, rfl⟩
        repeat (first | (apply G.ex (hd := rfl); case h => (first | exact Ex.indexN rfl rfl (by first | omega | (simp; done) | (simp; omega)) | exact Ex.loadT0 rfl (by first | omega | (simp; done) | (simp; omega)) rfl)) | refine GC.seq ?_ | refine GC.region ?_ | refine GC.block ?_ | refine GC.skip ?_ | refine GE.then_normal ?_)
        rw [hss] at hst hnm ⊢
        have hsl : s.length ≤ 200 := by have := hnm.2.1; omega
        refine G.alloc rfl (fun q => ?_)
        repeat (first | refine G.storeB rfl rfl rfl rfl rfl ?_ | refine G.nil ?_ | refine GC.region ?_ | refine GE.then_normal ?_)
        first | refine G.call (caps := []) (text_sp q 0) rfl rfl rfl rfl (by repeat (first | exact Takes.nil | apply Takes.dup rfl | apply Takes.cons | exact Take1.here | apply Take1.there)) ?_ | refine G.callU (caps := []) (text_sp q 0) rfl rfl rfl (by repeat (first | exact Takes.nil | apply Takes.dup rfl | apply Takes.cons | exact Take1.here | apply Take1.there)) ?_
        rintro v_ give_ ⟨rfl, rfl⟩ rs_ hrs_
        simp only [List.cons_append, List.nil_append] at hrs_
        subst hrs_
        repeat (first | (apply G.ex (hd := rfl); case h => (first | exact Ex.move rfl)))
        first | refine G.call (caps := []) (putT_sp q 0 s hsl 9 [.string (sOf s)] rfl ua (F ++ namesB (names.take k)).length uc (F ++ namesB (names.take k)) (by omega)) rfl rfl rfl rfl (by repeat (first | exact Takes.nil | apply Takes.dup rfl | apply Takes.cons | exact Take1.here | apply Take1.there)) ?_ | refine G.callU (caps := []) (putT_sp q 0 s hsl 9 [.string (sOf s)] rfl ua (F ++ namesB (names.take k)).length uc (F ++ namesB (names.take k)) (by omega)) rfl rfl rfl (by repeat (first | exact Takes.nil | apply Takes.dup rfl | apply Takes.cons | exact Take1.here | apply Take1.there)) ?_
        rintro v_ give_ ⟨va, vc, rfl, rfl⟩ rs_ hrs_
        simp only [List.cons_append, List.nil_append] at hrs_
        subst hrs_
        have e2 : F ++ namesB (names.take k) ++ (msg.nb 2 s.length ++ s) = F ++ namesB (names.take (k + 1)) := by rw [hst, List.append_assoc]; rfl
        have e3 : (F ++ namesB (names.take k)).length + (2 + s.length) = (F ++ namesB (names.take (k + 1))).length := by rw [← e2]; simp only [List.length_append, nb_len]
        rw [e2, e3]
        repeat (first | (apply G.ex (hd := rfl); case h => (first | exact Ex.move rfl | exact Ex.add rfl rfl (by omega) | exact Ex.assign rfl)) | refine G.nil ?_ | refine GC.region ?_ | refine GE.then_normal ?_ | refine GE.block_normal ?_)
        refine GE.loop (k + 1, va, vc) (by simp only; omega) (by simp only; omega) (by simp only [fits]; repeat (first | exact trivial | refine And.intro rfl ?_)) (by repeat (first | exact Takes.nil | apply Takes.dup rfl | apply Takes.cons | exact Take1.here | apply Take1.there)) (by repeat (first | exact Subs.refl | refine Subs.skip ?_))
      · have hk4 : k = names.length := by omega
        subst hk4
        rw [List.take_length] at hbl ⊢
        repeat (first | (apply G.ex (hd := rfl); case h => (first | exact Ex.move rfl | exact Ex.assign rfl)) | refine G.nil ?_ | refine GC.seq ?_ | refine GC.region ?_ | refine GC.ret ?_ | refine GC.exit ?_ | refine GE.then_normal ?_ | refine GE.then_exit ?_ | refine GE.block_hit ?_)
        refine GE.ret (by first | exact .inl rfl | exact .inr rfl) (by first | exact res0 Try.results13 | exact res1 Try.results13 rfl | exact res2 Try.results13 rfl rfl | exact resR1 Try.results13 (by first | exact RV.tmp rfl | exact RV.cell rfl (eP_len _) | exact RV.cell rfl rfl | exact RV.cell1 rfl) | exact resR2 Try.results13 (by first | exact RV.tmp rfl | exact RV.cell rfl (eP_len _) | exact RV.cell rfl rfl | exact RV.cell1 rfl) (by first | exact RV.tmp rfl | exact RV.cell rfl (eP_len _) | exact RV.cell rfl rfl | exact RV.cell1 rfl) | exact resR3 Try.results13 (by first | exact RV.tmp rfl | exact RV.cell rfl (eP_len _) | exact RV.cell rfl rfl | exact RV.cell1 rfl) (by first | exact RV.tmp rfl | exact RV.cell rfl (eP_len _) | exact RV.cell rfl rfl | exact RV.cell1 rfl) (by first | exact RV.tmp rfl | exact RV.cell rfl (eP_len _) | exact RV.cell rfl rfl | exact RV.cell1 rfl)) ⟨_, _, rfl, by omega, rfl⟩ (by repeat (first | exact Takes.nil | apply Takes.dup rfl | apply Takes.cons | exact Take1.here | apply Take1.there)) (by repeat (first | exact Subs.refl | refine Subs.skip ?_))
  · have e : answerF m.r names = ([], faultF m.r names) := by unfold answerF; rw [if_neg h0]
    rw [e]
    obtain ⟨E, hE⟩ : ∃ E, faultF m.r names = E := ⟨_, rfl⟩
    rw [hE] at h0 ⊢
    repeat (first | (apply G.ex (hd := rfl); case h => (first | exact Ex.move rfl | exact Ex.neI rfl rfl | exact Ex.assign rfl)) | refine G.nil ?_ | refine GC.seq ?_ | refine GC.region ?_ | refine GC.ret ?_ | refine GE.then_normal ?_ | refine GE.then_ret ?_ | refine GC.cond_yes rfl (by first | assumption | omega) ?_)
    refine GE.nilvec 5 1 ?_
    refine GE.ret (by first | exact .inl rfl | exact .inr rfl) (by first | exact res0 Try.results13 | exact res1 Try.results13 rfl | exact res2 Try.results13 rfl rfl | exact resR1 Try.results13 (by first | exact RV.tmp rfl | exact RV.cell rfl (eP_len _) | exact RV.cell rfl rfl | exact RV.cell1 rfl) | exact resR2 Try.results13 (by first | exact RV.tmp rfl | exact RV.cell rfl (eP_len _) | exact RV.cell rfl rfl | exact RV.cell1 rfl) (by first | exact RV.tmp rfl | exact RV.cell rfl (eP_len _) | exact RV.cell rfl rfl | exact RV.cell1 rfl) | exact resR3 Try.results13 (by first | exact RV.tmp rfl | exact RV.cell rfl (eP_len _) | exact RV.cell rfl rfl | exact RV.cell1 rfl) (by first | exact RV.tmp rfl | exact RV.cell rfl (eP_len _) | exact RV.cell rfl rfl | exact RV.cell1 rfl) (by first | exact RV.tmp rfl | exact RV.cell rfl (eP_len _) | exact RV.cell rfl rfl | exact RV.cell1 rfl)) ⟨_, _, rfl, by simp, rfl⟩ (by repeat (first | exact Takes.nil | apply Takes.dup rfl | apply Takes.cons | exact Take1.here | apply Take1.there)) (by repeat (first | exact Subs.refl | refine Subs.skip ?_))
end msg
end Go.Proofs.Ythplilldkdehnaa
