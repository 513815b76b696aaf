/-
  CONTRACTS of packthreadkeep.sameReply and of the statement AnswerBack, by the kit.
-/
import Derived.Test.YthplilldkdehnaaAnsC
import Derived.Test.YthplilldkdehnaaSameT
namespace Go.Proofs.Ythplilldkdehnaa
open Go.RowKit
attribute [local irreducible] Ex G GC GE Gq FPost LPost
set_option linter.unusedVariables false
set_option linter.unusedSimpArgs false

namespace msg
open frame path
set_option maxHeartbeats 4000000 in
theorem sameR_sp (r1 : Res) (m u : Ms) (h : m.r.mark = u.r.mark ∧ m.r.kind = u.r.kind ∧ m.r.handle = u.r.handle ∧ m.r.how = u.r.how ∧ m.r.at_ = u.r.at_ ∧ m.r.data = u.r.data) (hm : m.r.data.length = m.n) (hu : u.r.data.length = u.n) (hn : m.n ≤ 1000000)
    (ao bo : Option Addr) (n c d : Nat) (xs : List (List UInt8)) (hx : xs.length = n) (h1 : n ≤ 1000) [hr1 : RdR r1 ao n c 1 (flat eO xs)] :
    Spec Try.prog 15 [.agg (eRp m (.int .i64 m.r.kind) (.slice ao n c)).toArray, .agg (eRp u (.int .i64 u.r.kind) (.slice bo n d)).toArray] [.sl m.ao m.n m.c 1 (flat eB m.r.data), .sl u.ao u.n u.c 1 (flat eB u.r.data), r1, .sl bo n d 1 (flat eO xs)] fun v give => v = .bool true ∧ give = [r1] := by
  obtain ⟨h2, h3, h4, h5, h6, h9⟩ := h
  have hn2 : u.n ≤ 1000000 := by rw [← hu, ← h9, hm]; exact hn
  refine Spec.intro Try.func15 rfl Try.ntmps15 rfl fun w0 rest rs_ hrs_ => ?_
  simp only [List.cons_append, List.nil_append] at hrs_
  subst hrs_
  repeat (first | refine GC.seq ?_ | refine GC.region ?_)
  refine G.box rfl rfl rfl (fun q => ?_)
  repeat (first | fail)
  refine G.box rfl rfl rfl (fun g => ?_)
  repeat (first | (apply G.ex (hd := rfl); case h => (first | exact Ex.move rfl | exact Ex.fieldB rfl | exact Ex.loadB rfl rfl | exact Ex.eqI rfl rfl | exact Ex.assign rfl | exact Ex.pickT rfl (by first | assumption | omega) rfl)) | refine G.g_tt rfl rfl (by first | assumption | omega) ?_ | refine G.nil ?_ | refine GC.seq ?_ | refine GC.region ?_ | refine GE.then_normal ?_)
  first | refine G.call (caps := []) (sameBytes_sp (.sl m.ao m.n m.c 1 (flat eB m.r.data)) (.sl u.ao u.n u.c 1 (flat eB u.r.data)) m.ao u.ao m.n m.c u.n u.c m.r.data u.r.data hm hu (by omega) (by omega)) rfl rfl rfl rfl (by repeat (first | exact Takes.nil | apply Takes.dup rfl | apply Takes.cons | exact Take1.here | apply Take1.there)) ?_ | refine G.callU (caps := []) (sameBytes_sp (.sl m.ao m.n m.c 1 (flat eB m.r.data)) (.sl u.ao u.n u.c 1 (flat eB u.r.data)) m.ao u.ao m.n m.c u.n u.c m.r.data u.r.data hm hu (by omega) (by omega)) rfl rfl rfl (by repeat (first | exact Takes.nil | apply Takes.dup rfl | apply Takes.cons | exact Take1.here | apply Take1.there)) ?_
  rintro v_ give_ ⟨rfl, rfl⟩ rs_ hrs_
  simp only [List.cons_append, List.nil_append] at hrs_
  subst hrs_
  repeat (first | (apply G.ex (hd := rfl); case h => (first | exact Ex.move rfl | exact Ex.fieldB rfl | exact Ex.loadB rfl rfl | exact Ex.pickT rfl (by first | assumption | omega) rfl)) | refine G.g_tt rfl rfl (by first | assumption | omega) ?_)
  first | refine G.call (caps := []) (sameTexts_sp r1 (.sl bo n d 1 (flat eO xs)) ao bo n c d xs hx h1) rfl rfl rfl rfl (by repeat (first | exact Takes.nil | apply Takes.dup rfl | apply Takes.cons | exact Take1.here | apply Take1.there)) ?_ | refine G.callU (caps := []) (sameTexts_sp r1 (.sl bo n d 1 (flat eO xs)) ao bo n c d xs hx h1) rfl rfl rfl (by repeat (first | exact Takes.nil | apply Takes.dup rfl | apply Takes.cons | exact Take1.here | apply Take1.there)) ?_
  rintro v_ give_ ⟨rfl, rfl⟩ rs_ hrs_
  simp only [List.cons_append, List.nil_append] at hrs_
  subst hrs_
  repeat (first | (apply G.ex (hd := rfl); case h => (first | exact Ex.assign rfl | exact Ex.pickT rfl (by first | assumption | omega) rfl)) | refine G.nil ?_ | refine GC.ret ?_ | refine GE.then_normal ?_)
  refine GE.ret (by first | exact .inl rfl | exact .inr rfl) (by first | exact res0 Try.results15 | exact res1 Try.results15 rfl | exact res2 Try.results15 rfl rfl | exact resR1 Try.results15 (by first | exact RV.tmp rfl | exact RV.cell rfl (eP_len _) | exact RV.cell rfl rfl | exact RV.cell1 rfl) | exact resR2 Try.results15 (by first | exact RV.tmp rfl | exact RV.cell rfl (eP_len _) | exact RV.cell rfl rfl | exact RV.cell1 rfl) (by first | exact RV.tmp rfl | exact RV.cell rfl (eP_len _) | exact RV.cell rfl rfl | exact RV.cell1 rfl) | exact resR3 Try.results15 (by first | exact RV.tmp rfl | exact RV.cell rfl (eP_len _) | exact RV.cell rfl rfl | exact RV.cell1 rfl) (by first | exact RV.tmp rfl | exact RV.cell rfl (eP_len _) | exact RV.cell rfl rfl | exact RV.cell1 rfl) (by first | exact RV.tmp rfl | exact RV.cell rfl (eP_len _) | exact RV.cell rfl rfl | exact RV.cell1 rfl)) ⟨rfl, rfl⟩ (by repeat (first | exact Takes.nil | apply Takes.dup rfl | apply Takes.cons | exact Take1.here | apply Take1.there)) (by repeat (first | exact Subs.refl | refine Subs.skip ?_))
/-- the four names -/
def rowN : List (List UInt8) := [[97], [98, 98], [99, 46, 99], [115, 105, 120, 116, 101, 101, 110, 45, 108, 101, 116, 116, 101, 114, 115, 33]]
def nmR (z : Int) : List UInt8 := rowN.getD (z % 4).toNat default
theorem nmR_ok (z : Int) : NameOk (nmR z) := by
  have h : ∀ k : Fin 4, NameOk (rowN.getD k.1 default) := by decide
  exact h ⟨(z % 4).toNat, by omega⟩
def rplF (mark code a : Int) (data : List UInt8) (k : Nat) : Rq := { Rq.zero with mark := mark % 4294967296, kind := code % 18, handle := a % 1048576, how := a % 4, at_ := a % 2048, data := data.take 100, count := (k : Int) }
theorem rplF_ok (mark code a : Int) (data : List UInt8) (zs : List Int) (hz : zs.length ≤ 40) : faultF (rplF mark code a data zs.length) (zs.map nmR) = 0 := by
  refine fault_ok.2 ⟨by rw [List.length_map]; exact hz, fun s hs => ?_, fun p hp => ?_⟩
  · obtain ⟨z, _, rfl⟩ := List.mem_map.1 hs; exact nmR_ok z
  · have fN : ∀ (r : Rq) (w k : Nat), (¬ r.n k < 0 ∧ ¬ (256 : Int) ^ w ≤ r.n k) → fit r (.num w k) = 0 := fun r w k h => if_neg (fun h' => h'.elim h.1 h.2)
    have p4 : (256 : Int) ^ 4 = 4294967296 := by decide
    have p1 : (256 : Int) ^ 1 = 256 := by decide
    simp only [repF, List.mem_cons, List.not_mem_nil, or_false] at hp
    rcases hp with rfl | rfl | rfl | rfl | rfl | rfl | rfl
    · refine fN _ _ _ ?_
      show ¬ mark % 4294967296 < 0 ∧ ¬ (256 : Int) ^ 4 ≤ mark % 4294967296
      rw [p4]; omega
    · refine fN _ _ _ ?_
      show ¬ code % 18 < 0 ∧ ¬ (256 : Int) ^ 1 ≤ code % 18
      rw [p1]; omega
    · refine fN _ _ _ ?_
      show ¬ a % 1048576 < 0 ∧ ¬ (256 : Int) ^ 4 ≤ a % 1048576
      rw [p4]; omega
    · refine fN _ _ _ ?_
      show ¬ a % 4 < 0 ∧ ¬ (256 : Int) ^ 1 ≤ a % 4
      rw [p1]; omega
    · refine fN _ _ _ ?_
      show ¬ a % 2048 < 0 ∧ ¬ (256 : Int) ^ 4 ≤ a % 2048
      rw [p4]; omega
    · refine if_neg ?_
      show ¬ 100 < (data.take 100).length
      rw [List.length_take]; omega
    · refine fN _ _ _ ?_
      show ¬ (((zs.map nmR).length : Nat) : Int) < 0 ∧ ¬ (256 : Int) ^ 1 ≤ (((zs.map nmR).length : Nat) : Int)
      rw [p1, List.length_map]; omega
theorem answer_len {r : Rq} {names : List (List UInt8)} (h : faultF r names = 0) : 17 ≤ (answerF r names).1.length ∧ (answerF r names).1.length ≤ 1024 := by
  obtain ⟨h1, h2, h3⟩ := fault_ok.1 h
  have hd := fit_data (h3 .data (by simp [repF]))
  have hd : r.data.length ≤ 100 := hd
  have hn := names_le names h2 names.length
  rw [List.take_length] at hn
  unfold answerF
  rw [if_pos h]
  simp only [List.length_append, repF, List.flatMap_cons, List.flatMap_nil, List.length_nil]
  show 17 ≤ (nb 4 _).length + ((nb 1 _).length + ((nb 4 _).length + ((nb 1 _).length + ((nb 4 _).length + ((nb 2 _ ++ r.data).length + ((nb 1 _).length + 0)))))) + _ ∧ (nb 4 _).length + ((nb 1 _).length + ((nb 4 _).length + ((nb 1 _).length + ((nb 4 _).length + ((nb 2 _ ++ r.data).length + ((nb 1 _).length + 0)))))) + _ ≤ 1024
  simp only [List.length_append, nb_len]
  omega
set_option maxHeartbeats 8000000 in
theorem answerBack_sp (a0 : Int) (ha0 : -9223372036854775808 ≤ a0 ∧ a0 ≤ 9223372036854775807) (a1 : Int) (ha1 : -9223372036854775808 ≤ a1 ∧ a1 ≤ 9223372036854775807) (a2 : Int) (ha2 : -9223372036854775808 ≤ a2 ∧ a2 ≤ 9223372036854775807) (a3 : Option Addr) (len3 cap3 : Nat) (z3 : List UInt8) (hl3 : z3.length = len3) (hb3 : len3 ≤ 9223372036854775807) (a4 : Option Addr) (len4 cap4 : Nat) (z4 : List Int) (hl4 : z4.length = len4) (hb4 : len4 ≤ 9223372036854775807) (hw4 : ∀ z ∈ z4, -9223372036854775808 ≤ z ∧ z ≤ 9223372036854775807) (a5 : Int) (ha5 : -9223372036854775808 ≤ a5 ∧ a5 ≤ 9223372036854775807) :
    Spec Try.prog 5 [.int .i64 a0, .int .i64 a1, .int .i64 a2, .slice a3 len3 cap3, .slice a4 len4 cap4, .int .i64 a5] [.sl a3 len3 cap3 1 (flat eB z3), .sl a4 len4 cap4 1 (flat (eI .i64) z4)] fun v give => v = .bool true ∧ give = [] := by
  refine Spec.intro Try.func5 rfl Try.ntmps5 rfl fun w0 rest rs_ hrs_ => ?_
  simp only [List.cons_append, List.nil_append] at hrs_
  subst hrs_
  repeat (first | (apply G.ex (hd := rfl); case h => (first | exact Ex.move rfl | exact Ex.assign rfl)) | refine G.nil ?_ | refine GC.seq ?_ | refine GC.region ?_ | refine GE.then_normal ?_)
  first | refine G.call (caps := []) (picked_sp a0 4294967296 (by decide) (by decide)) rfl rfl rfl rfl (by repeat (first | exact Takes.nil | apply Takes.dup rfl | apply Takes.cons | exact Take1.here | apply Take1.there)) ?_ | refine G.callU (caps := []) (picked_sp a0 4294967296 (by decide) (by decide)) rfl rfl rfl (by repeat (first | exact Takes.nil | apply Takes.dup rfl | apply Takes.cons | exact Take1.here | apply Take1.there)) ?_
  rintro v_ give_ ⟨rfl, rfl⟩ rs_ hrs_
  simp only [List.cons_append, List.nil_append] at hrs_
  subst hrs_
  repeat (first | (apply G.ex (hd := rfl); case h => (first | exact Ex.move rfl)))
  first | refine G.call (caps := []) (picked_sp a1 18 (by decide) (by decide)) rfl rfl rfl rfl (by repeat (first | exact Takes.nil | apply Takes.dup rfl | apply Takes.cons | exact Take1.here | apply Take1.there)) ?_ | refine G.callU (caps := []) (picked_sp a1 18 (by decide) (by decide)) rfl rfl rfl (by repeat (first | exact Takes.nil | apply Takes.dup rfl | apply Takes.cons | exact Take1.here | apply Take1.there)) ?_
  rintro v_ give_ ⟨rfl, rfl⟩ rs_ hrs_
  simp only [List.cons_append, List.nil_append] at hrs_
  subst hrs_
  repeat (first | (apply G.ex (hd := rfl); case h => (first | exact Ex.move rfl)))
  first | refine G.call (caps := []) (picked_sp a2 1048576 (by decide) (by decide)) rfl rfl rfl rfl (by repeat (first | exact Takes.nil | apply Takes.dup rfl | apply Takes.cons | exact Take1.here | apply Take1.there)) ?_ | refine G.callU (caps := []) (picked_sp a2 1048576 (by decide) (by decide)) rfl rfl rfl (by repeat (first | exact Takes.nil | apply Takes.dup rfl | apply Takes.cons | exact Take1.here | apply Take1.there)) ?_
  rintro v_ give_ ⟨rfl, rfl⟩ rs_ hrs_
  simp only [List.cons_append, List.nil_append] at hrs_
  subst hrs_
  repeat (first | (apply G.ex (hd := rfl); case h => (first | exact Ex.move rfl)))
  first | refine G.call (caps := []) (picked_sp a2 4 (by decide) (by decide)) rfl rfl rfl rfl (by repeat (first | exact Takes.nil | apply Takes.dup rfl | apply Takes.cons | exact Take1.here | apply Take1.there)) ?_ | refine G.callU (caps := []) (picked_sp a2 4 (by decide) (by decide)) rfl rfl rfl (by repeat (first | exact Takes.nil | apply Takes.dup rfl | apply Takes.cons | exact Take1.here | apply Take1.there)) ?_
  rintro v_ give_ ⟨rfl, rfl⟩ rs_ hrs_
  simp only [List.cons_append, List.nil_append] at hrs_
  subst hrs_
  repeat (first | (apply G.ex (hd := rfl); case h => (first | exact Ex.move rfl)))
  first | refine G.call (caps := []) (picked_sp a2 2048 (by decide) (by decide)) rfl rfl rfl rfl (by repeat (first | exact Takes.nil | apply Takes.dup rfl | apply Takes.cons | exact Take1.here | apply Take1.there)) ?_ | refine G.callU (caps := []) (picked_sp a2 2048 (by decide) (by decide)) rfl rfl rfl (by repeat (first | exact Takes.nil | apply Takes.dup rfl | apply Takes.cons | exact Take1.here | apply Take1.there)) ?_
  rintro v_ give_ ⟨rfl, rfl⟩ rs_ hrs_
  simp only [List.cons_append, List.nil_append] at hrs_
  subst hrs_
  repeat (first | (apply G.ex (hd := rfl); case h => (first | exact Ex.move rfl)))
  first | refine G.call (caps := []) (octets_sp a3 len3 cap3 z3 hl3 (by omega) 100 (by decide)) rfl rfl rfl rfl (by repeat (first | exact Takes.nil | apply Takes.dup rfl | apply Takes.cons | exact Take1.here | apply Take1.there)) ?_ | refine G.callU (caps := []) (octets_sp a3 len3 cap3 z3 hl3 (by omega) 100 (by decide)) rfl rfl rfl (by repeat (first | exact Takes.nil | apply Takes.dup rfl | apply Takes.cons | exact Take1.here | apply Take1.there)) ?_
  rintro v_ give_ ⟨da, dc, rfl, rfl⟩ rs_ hrs_
  simp only [List.cons_append, List.nil_append] at hrs_
  subst hrs_
  first | refine G.frz da ?_ | refine GC.frz da ?_ | refine GE.frz da ?_
  repeat (first | (apply G.ex (hd := rfl); case h => (first | exact Ex.build rfl rfl)))
  refine G.alloc rfl (fun b => ?_)
  repeat (first | refine G.storeBA rfl rfl rfl rfl rfl ?_ | (apply G.ex (hd := rfl); case h => (first | exact Ex.assign rfl)) | refine G.nil ?_ | refine GC.seq ?_ | refine GC.region ?_ | refine GC.block ?_ | refine GE.then_normal ?_)
  first | refine G.nilvec 9 1 ?_ | refine GC.nilvec 9 1 ?_
  have hm : (z3.take 100).length = min len3 100 := by rw [List.length_take, hl3]; omega
  obtain ⟨m, hmd⟩ : ∃ m : Ms, m = ⟨rplF a0 a1 a2 z3 0, da, min len3 100, dc⟩ := ⟨_, rfl⟩
  refine GC.conv (rs' := .blk b 40 (eRp ⟨rplF a0 a1 a2 z3 0, da, min len3 100, dc⟩ (.int .i64 (a1 % 18)) (.slice none 0 0)) :: _) (fun w_ H_ => H_.take (need := [.blk b 40 (eRp ⟨rplF a0 a1 a2 z3 0, da, min len3 100, dc⟩ (.int .i64 (a1 % 18)) (.slice none 0 0))]) (.cons (.there .here) .nil)) ?_
  simp only [List.append_eq, List.nil_append, List.cons_append]
  rw [← hmd]
  refine GC.loop (ι := Nat × Option Addr × Nat) (fun i => i.1 ≤ len4 ∧ i.1 ≤ 40) (fun i => 40 - i.1) (fun i => [(4, .slice a4 len4 cap4), (5, .int .i64 a5), (13, .pointer (some (badr b 0))), (14, .int .i64 (i.1 : Int))]) (fun i => [.blk b 40 (eRp m (.int .i64 (a1 % 18)) (.slice i.2.1 i.1 i.2.2)), .vec 9 1 i.2.1 i.1 i.2.2 (flat eO ((z4.take i.1).map nmR)), .sl da (min len3 100) dc 1 (flat eB (z3.take 100)), .sl a4 len4 cap4 1 (flat (eI .i64) z4)]) (0, none, 0) ⟨Nat.zero_le _, Nat.zero_le _⟩ (by simp only [fits]; repeat (first | exact trivial | refine And.intro rfl ?_)) (by repeat (first | exact Takes.nil | apply Takes.dup rfl | apply Takes.cons | exact Take1.here | apply Take1.there)) ?_
  rintro ⟨i, na, nc⟩ ⟨hi, hi2⟩ fr_ rs_ hfr_ hrs_
  simp only [List.cons_append, List.nil_append] at hfr_ hrs_
  subst hfr_ hrs_
  simp only at hi hi2
  by_cases h1 : i < len4
  · by_cases h2 : i < 40
    · have hz0 := Int.emod_nonneg (z4.getD i default) (show (4 : Int) ≠ 0 by decide)
      have hz1 := Int.emod_lt_of_pos (z4.getD i default) (show (0 : Int) < 4 by decide)
      obtain ⟨K, hK⟩ : ∃ K : Nat, z4.getD i default % 4 = (K : Int) := ⟨(z4.getD i default % 4).toNat, by omega⟩
      have hK4 : K < rowN.length := by show K < 4; omega
      have hnm : nmR (z4.getD i default) = rowN.getD K default := by unfold nmR; rw [hK]; rfl
      have hcat : flat eO ((z4.take i).map nmR) ++ flat eO [rowN.getD K default] = flat eO ((z4.take (i + 1)).map nmR) := by
        rw [← flat_append, ← hnm, List.take_succ_eq_append_getElem (by omega), List.map_append, List.getD_eq_getElem?_getD, List.getElem?_eq_getElem (by omega)]; rfl
      repeat (first | (apply G.ex (hd := rfl); case h => (first | exact Ex.move rfl | exact Ex.lss rfl rfl | exact Ex.lenSl rfl | exact Ex.pickT rfl (by first | assumption | omega) rfl)) | refine G.g_tt rfl rfl (by first | assumption | omega) ?_ | refine G.nil ?_ | refine GC.seq ?_ | refine GC.region ?_ | refine GC.block ?_ | refine GC.skip ?_ | refine GE.then_normal ?_ | refine GC.cond_yes rfl (by first | assumption | omega) ?_)
      refine GC.drawA [13] [.blk b 40 (eRp m (.int .i64 (a1 % 18)) (.slice na i nc)), .sl a4 len4 cap4 1 (flat (eI .i64) z4)] (by repeat (first | exact Takes.nil | apply Takes.dup rfl | apply Takes.cons | exact Take1.here | apply Take1.there)) (by kernel_rfl) ?_
      first | (apply GA.take [] (hD := .inl rfl) (hsub := ⟨_, Takes.nil⟩) (i := 0) (hi := rfl) (hs := by kernel_rfl) (hfr := by kernel_rfl) (hr := by kernel_rfl) (hQ := (by repeat (first | exact NoPanic.np | exact NoPanic.fpost | apply NoPanic.then_ | apply NoPanic.block))) (hd := rfl); case hx => (first | exact Ex.fieldB rfl))
      first | (apply GA.take _ (hD := .inr ⟨rfl, by kernel_rfl⟩) (hsub := ⟨_, (by repeat (first | exact Takes.nil | apply Takes.dup rfl | apply Takes.cons | exact Take1.here | apply Take1.there))⟩) (i := 1) (hi := rfl) (hs := by kernel_rfl) (hfr := by kernel_rfl) (hr := by kernel_rfl) (hQ := (by repeat (first | exact NoPanic.np | exact NoPanic.fpost | apply NoPanic.then_ | apply NoPanic.block))) (hd := rfl); case hx => (first | exact Ex.loadB rfl rfl))
      first | (apply GA.take [] (hD := .inl rfl) (hsub := ⟨_, Takes.nil⟩) (i := 3) (hi := rfl) (hs := by kernel_rfl) (hfr := by kernel_rfl) (hr := by kernel_rfl) (hQ := (by repeat (first | exact NoPanic.np | exact NoPanic.fpost | apply NoPanic.then_ | apply NoPanic.block))) (hd := rfl); case hx => (first | exact Ex.move rfl))
      first | (apply GA.take [] (hD := .inl rfl) (hsub := ⟨_, Takes.nil⟩) (i := 4) (hi := rfl) (hs := by kernel_rfl) (hfr := by kernel_rfl) (hr := by kernel_rfl) (hQ := (by repeat (first | exact NoPanic.np | exact NoPanic.fpost | apply NoPanic.then_ | apply NoPanic.block))) (hd := rfl); case hx => (first | exact Ex.move rfl))
      first | (apply GA.take _ (hD := .inr ⟨rfl, by kernel_rfl⟩) (hsub := ⟨_, (by repeat (first | exact Takes.nil | apply Takes.dup rfl | apply Takes.cons | exact Take1.here | apply Take1.there))⟩) (i := 5) (hi := rfl) (hs := by kernel_rfl) (hfr := by kernel_rfl) (hr := by kernel_rfl) (hQ := (by repeat (first | exact NoPanic.np | exact NoPanic.fpost | apply NoPanic.then_ | apply NoPanic.block))) (hd := rfl); case hx => (first | exact Ex.indexN rfl rfl (by first | omega | (simp; done) | (simp; omega))))
      first | (apply GA.take _ (hD := .inr ⟨rfl, by kernel_rfl⟩) (hsub := ⟨_, (by repeat (first | exact Takes.nil | apply Takes.dup rfl | apply Takes.cons | exact Take1.here | apply Take1.there))⟩) (i := 6) (hi := rfl) (hs := by kernel_rfl) (hfr := by kernel_rfl) (hr := by kernel_rfl) (hQ := (by repeat (first | exact NoPanic.np | exact NoPanic.fpost | apply NoPanic.then_ | apply NoPanic.block))) (hd := rfl); case hx => (first | exact Ex.loadT0 rfl (by first | omega | (simp; done) | (simp; omega)) rfl))
      refine GA.two (i := 2) (j := 7) (by kernel_rfl) rfl rfl ?_ ?_
      · refine G.lit (size := 1) (len := 4) (zs := [.string ByteArray.empty]) (cells := flat eO rowN) rfl (by rfl) rfl rfl (by rfl) rfl (by rfl) rfl (fun y => ?_)
        try refine G.nil ?_
        refine GA.back (by first | exact .inl (by decide) | exact .inr ⟨_, (by repeat (first | exact Takes.nil | apply Takes.dup rfl | apply Takes.cons | exact Take1.here | apply Take1.there))⟩) ?_
        refine GA.one (i := 7) (by kernel_rfl) rfl ?_
        first | refine G.call (caps := []) (picked_sp (z4.getD i default) 4 (by decide) (by decide)) rfl rfl rfl rfl (by repeat (first | exact Takes.nil | apply Takes.dup rfl | apply Takes.cons | exact Take1.here | apply Take1.there)) ?_ | refine G.callU (caps := []) (picked_sp (z4.getD i default) 4 (by decide) (by decide)) rfl rfl rfl (by repeat (first | exact Takes.nil | apply Takes.dup rfl | apply Takes.cons | exact Take1.here | apply Take1.there)) ?_
        rintro v_ give_ ⟨rfl, rfl⟩ rs_ hrs_
        simp only [List.cons_append, List.nil_append] at hrs_
        subst hrs_
        rw [hK]
        try refine G.nil ?_
        refine GA.back (by first | exact .inl (by decide) | exact .inr ⟨_, (by repeat (first | exact Takes.nil | apply Takes.dup rfl | apply Takes.cons | exact Take1.here | apply Take1.there))⟩) ?_
        refine GA.one (i := 8) (by kernel_rfl) rfl ?_
        repeat (first | (apply G.ex (hd := rfl); case h => (first | exact Ex.indexN rfl rfl (by first | omega | (simp; done) | (simp; omega)))) | refine G.nil ?_)
        try refine G.nil ?_
        refine GA.back (by first | exact .inl (by decide) | exact .inr ⟨_, (by repeat (first | exact Takes.nil | apply Takes.dup rfl | apply Takes.cons | exact Take1.here | apply Take1.there))⟩) ?_
        refine GA.one (i := 9) (by kernel_rfl) rfl ?_
        repeat (first | (apply G.ex (hd := rfl); case h => (first | exact Ex.loadT0 rfl (by first | omega | (simp; done) | (simp; omega)) rfl)) | refine G.nil ?_)
        try refine G.nil ?_
        refine GA.back (by first | exact .inl (by decide) | exact .inr ⟨_, (by repeat (first | exact Takes.nil | apply Takes.dup rfl | apply Takes.cons | exact Take1.here | apply Take1.there))⟩) ?_
        refine GA.one (i := 10) (by kernel_rfl) rfl ?_
        refine G.lit rfl (by rfl) (by rfl) (by rfl) (by rfl) (by rfl) (by rfl) rfl (fun y2 => ?_)
        try refine G.nil ?_
        refine GA.back (by first | exact .inl (by decide) | exact .inr ⟨_, (by repeat (first | exact Takes.nil | apply Takes.dup rfl | apply Takes.cons | exact Take1.here | apply Take1.there))⟩) ?_
        refine GA.one (i := 11) (by kernel_rfl) rfl ?_
        refine G.app rfl rfl (by rfl) (by omega) rfl (hcat) (fun na2 nc2 rs_ hrs_ => ?_)
        try simp only at hrs_
        subst hrs_
        try refine G.nil ?_
        refine GA.back (by first | exact .inl (by decide) | exact .inr ⟨_, (by repeat (first | exact Takes.nil | apply Takes.dup rfl | apply Takes.cons | exact Take1.here | apply Take1.there))⟩) ?_
        refine GA.one (i := 12) (by kernel_rfl) rfl ?_
        repeat (first | (apply G.ex (hd := rfl); case h => (first | exact Ex.fieldB rfl)) | refine G.nil ?_)
        try refine G.nil ?_
        refine GA.back (by first | exact .inl (by decide) | exact .inr ⟨_, (by repeat (first | exact Takes.nil | apply Takes.dup rfl | apply Takes.cons | exact Take1.here | apply Take1.there))⟩) ?_
        refine GA.one (i := 13) (by kernel_rfl) rfl ?_
        repeat (first | refine G.storeB rfl rfl rfl rfl rfl ?_ | refine G.nil ?_)
        try refine G.nil ?_
        refine GA.back (by first | exact .inl (by decide) | exact .inr ⟨_, (by repeat (first | exact Takes.nil | apply Takes.dup rfl | apply Takes.cons | exact Take1.here | apply Take1.there))⟩) ?_
        refine GA.done (by kernel_rfl) ?_
        repeat (first | (apply G.ex (hd := rfl); case h => (first | exact Ex.move rfl | exact Ex.add rfl rfl (by omega) | exact Ex.assign rfl)) | refine G.nil ?_ | refine GC.region ?_ | refine GE.then_normal ?_ | refine GE.block_normal ?_)
        refine GE.loop (i + 1, na2, nc2) ⟨by simp only; omega, by simp only; omega⟩ (by simp only; omega) (by simp only [fits]; repeat (first | exact trivial | refine And.intro rfl ?_)) (by repeat (first | exact Takes.nil | apply Takes.dup rfl | apply Takes.cons | exact Take1.here | apply Take1.there)) (by repeat (first | exact Subs.refl | refine Subs.skip ?_))
      · first | refine G.call (caps := []) (picked_sp (z4.getD i default) 4 (by decide) (by decide)) rfl rfl rfl rfl (by repeat (first | exact Takes.nil | apply Takes.dup rfl | apply Takes.cons | exact Take1.here | apply Take1.there)) ?_ | refine G.callU (caps := []) (picked_sp (z4.getD i default) 4 (by decide) (by decide)) rfl rfl rfl (by repeat (first | exact Takes.nil | apply Takes.dup rfl | apply Takes.cons | exact Take1.here | apply Take1.there)) ?_
        rintro v_ give_ ⟨rfl, rfl⟩ rs_ hrs_
        simp only [List.cons_append, List.nil_append] at hrs_
        subst hrs_
        rw [hK]
        try refine G.nil ?_
        refine GA.back (by first | exact .inl (by decide) | exact .inr ⟨_, (by repeat (first | exact Takes.nil | apply Takes.dup rfl | apply Takes.cons | exact Take1.here | apply Take1.there))⟩) ?_
        refine GA.one (i := 2) (by kernel_rfl) rfl ?_
        refine G.lit (size := 1) (len := 4) (zs := [.string ByteArray.empty]) (cells := flat eO rowN) rfl (by rfl) rfl rfl (by rfl) rfl (by rfl) rfl (fun y => ?_)
        try refine G.nil ?_
        refine GA.back (by first | exact .inl (by decide) | exact .inr ⟨_, (by repeat (first | exact Takes.nil | apply Takes.dup rfl | apply Takes.cons | exact Take1.here | apply Take1.there))⟩) ?_
        refine GA.one (i := 8) (by kernel_rfl) rfl ?_
        repeat (first | (apply G.ex (hd := rfl); case h => (first | exact Ex.indexN rfl rfl (by first | omega | (simp; done) | (simp; omega)))) | refine G.nil ?_)
        try refine G.nil ?_
        refine GA.back (by first | exact .inl (by decide) | exact .inr ⟨_, (by repeat (first | exact Takes.nil | apply Takes.dup rfl | apply Takes.cons | exact Take1.here | apply Take1.there))⟩) ?_
        refine GA.one (i := 9) (by kernel_rfl) rfl ?_
        repeat (first | (apply G.ex (hd := rfl); case h => (first | exact Ex.loadT0 rfl (by first | omega | (simp; done) | (simp; omega)) rfl)) | refine G.nil ?_)
        try refine G.nil ?_
        refine GA.back (by first | exact .inl (by decide) | exact .inr ⟨_, (by repeat (first | exact Takes.nil | apply Takes.dup rfl | apply Takes.cons | exact Take1.here | apply Take1.there))⟩) ?_
        refine GA.one (i := 10) (by kernel_rfl) rfl ?_
        refine G.lit rfl (by rfl) (by rfl) (by rfl) (by rfl) (by rfl) (by rfl) rfl (fun y2 => ?_)
        try refine G.nil ?_
        refine GA.back (by first | exact .inl (by decide) | exact .inr ⟨_, (by repeat (first | exact Takes.nil | apply Takes.dup rfl | apply Takes.cons | exact Take1.here | apply Take1.there))⟩) ?_
        refine GA.one (i := 11) (by kernel_rfl) rfl ?_
        refine G.app rfl rfl (by rfl) (by omega) rfl (hcat) (fun na2 nc2 rs_ hrs_ => ?_)
        try simp only at hrs_
        subst hrs_
        try refine G.nil ?_
        refine GA.back (by first | exact .inl (by decide) | exact .inr ⟨_, (by repeat (first | exact Takes.nil | apply Takes.dup rfl | apply Takes.cons | exact Take1.here | apply Take1.there))⟩) ?_
        refine GA.one (i := 12) (by kernel_rfl) rfl ?_
        repeat (first | (apply G.ex (hd := rfl); case h => (first | exact Ex.fieldB rfl)) | refine G.nil ?_)
        try refine G.nil ?_
        refine GA.back (by first | exact .inl (by decide) | exact .inr ⟨_, (by repeat (first | exact Takes.nil | apply Takes.dup rfl | apply Takes.cons | exact Take1.here | apply Take1.there))⟩) ?_
        refine GA.one (i := 13) (by kernel_rfl) rfl ?_
        repeat (first | refine G.storeB rfl rfl rfl rfl rfl ?_ | refine G.nil ?_)
        try refine G.nil ?_
        refine GA.back (by first | exact .inl (by decide) | exact .inr ⟨_, (by repeat (first | exact Takes.nil | apply Takes.dup rfl | apply Takes.cons | exact Take1.here | apply Take1.there))⟩) ?_
        refine GA.done (by kernel_rfl) ?_
        repeat (first | (apply G.ex (hd := rfl); case h => (first | exact Ex.move rfl | exact Ex.add rfl rfl (by omega) | exact Ex.assign rfl)) | refine G.nil ?_ | refine GC.region ?_ | refine GE.then_normal ?_ | refine GE.block_normal ?_)
        refine GE.loop (i + 1, na2, nc2) ⟨by simp only; omega, by simp only; omega⟩ (by simp only; omega) (by simp only [fits]; repeat (first | exact trivial | refine And.intro rfl ?_)) (by repeat (first | exact Takes.nil | apply Takes.dup rfl | apply Takes.cons | exact Take1.here | apply Take1.there)) (by repeat (first | exact Subs.refl | refine Subs.skip ?_))
    · have hi40 : i = 40 := by omega
      have hmin : i ≤ 40 := by omega
      repeat (first | (apply G.ex (hd := rfl); case h => (first | exact Ex.move rfl | exact Ex.lss rfl rfl | exact Ex.lenSl rfl | exact Ex.pickT rfl (by first | assumption | omega) rfl | exact Ex.loadBA rfl rfl rfl)) | refine G.g_tt rfl rfl (by first | assumption | omega) ?_ | refine G.nil ?_ | refine GC.seq ?_ | refine GC.region ?_ | refine GC.exit ?_ | refine GE.then_normal ?_ | refine GE.then_exit ?_ | refine GE.block_hit ?_ | refine GC.cond_no rfl (by first | assumption | omega) ?_)
      obtain ⟨nmL, hnmL⟩ : ∃ nmL, (z4.take i).map nmR = nmL := ⟨_, rfl⟩
      have hnl : nmL.length = i := by rw [← hnmL, List.length_map, List.length_take]; omega
      have hf0 : faultF (rplF a0 a1 a2 z3 i) nmL = 0 := by
        have := rplF_ok a0 a1 a2 z3 (z4.take i) (by rw [List.length_take]; omega)
        rwa [List.length_take, Nat.min_eq_left (by omega), hnmL] at this
      have hmr : m.r = rplF a0 a1 a2 z3 0 := by rw [hmd]
      have hml : m.r.data.length = m.n := by rw [hmd]; exact hm
      have hmn : m.n ≤ 1000000 := by rw [hmd]; show min len3 100 ≤ 1000000; omega
      have hA : answerF m.r nmL = answerF (rplF a0 a1 a2 z3 i) nmL := by rw [hmr]; rfl
      obtain ⟨k1, k2⟩ := answer_back hf0 ⟨rfl, rfl⟩ (by rw [hnl]; rfl)
      obtain ⟨x1, x2⟩ := answer_len hf0
      have hA2 : (answerF (rplF a0 a1 a2 z3 i) nmL).2 = 0 := by unfold answerF; rw [if_pos hf0]
      rw [hnmL]
      have hns : ∀ s ∈ nmL, s.length ≤ 1000000 := fun s hs => by have := ((fault_ok.1 hf0).ok s hs).2.1; omega
      refine G.conv (rs' := _) (fun w_ H_ => H_.take (need := [.blk b 40 (eRp m (.int .i64 m.r.kind) (.slice na i nc)), .sl m.ao m.n m.c 1 (flat eB m.r.data), .vec 9 1 na i nc (flat eO nmL)]) (by rw [hmd]; repeat (first | exact Takes.nil | apply Takes.dup rfl | apply Takes.cons | exact Take1.here | apply Take1.there))) ?_
      simp only [List.append_eq, List.nil_append, List.cons_append]
      have hkk : a1 % 18 = m.r.kind := by rw [hmd]; rfl
      rw [hkk]
      first | refine G.call (caps := []) (answer_sp (.vec 9 1 na i nc (flat eO nmL)) m hml na i nc nmL hnl (by omega) hns) rfl rfl rfl rfl (by repeat (first | exact Takes.nil | apply Takes.dup rfl | apply Takes.cons | exact Take1.here | apply Take1.there)) ?_ | refine G.callU (caps := []) (answer_sp (.vec 9 1 na i nc (flat eO nmL)) m hml na i nc nmL hnl (by omega) hns) rfl rfl rfl (by repeat (first | exact Takes.nil | apply Takes.dup rfl | apply Takes.cons | exact Take1.here | apply Take1.there)) ?_
      rintro v_ give_ ⟨xa, xc, rfl, hx, rfl⟩ rs_ hrs_
      simp only [List.cons_append, List.nil_append] at hrs_
      subst hrs_
      rw [hA] at hx ⊢
      obtain ⟨X, hX⟩ : ∃ X, (answerF (rplF a0 a1 a2 z3 i) nmL).1 = X := ⟨_, rfl⟩
      rw [hA2]
      rw [hX] at k1 k2 x1 x2 hx ⊢
      first | refine G.frz xa ?_ | refine GC.frz xa ?_ | refine GE.frz xa ?_
      repeat (first | (apply G.ex (hd := rfl); case h => (first | exact Ex.move rfl | exact Ex.extract rfl rfl | exact Ex.assign rfl)) | refine G.nil ?_ | refine GC.seq ?_ | refine GC.region ?_ | refine GE.then_normal ?_)
      refine G.appNil rfl rfl (by rfl) (by omega) rfl (rfl) (fun pa pc => ?_)
      first | refine G.frz pa ?_ | refine GC.frz pa ?_ | refine GE.frz pa ?_
      first | refine G.call (caps := []) (answered_sp pa X.length pc X rfl (by omega)) rfl rfl rfl rfl (by repeat (first | exact Takes.nil | apply Takes.dup rfl | apply Takes.cons | exact Take1.here | apply Take1.there)) ?_ | refine G.callU (caps := []) (answered_sp pa X.length pc X rfl (by omega)) rfl rfl rfl (by repeat (first | exact Takes.nil | apply Takes.dup rfl | apply Takes.cons | exact Take1.here | apply Take1.there)) ?_
      rintro v_ give_ ⟨u, no, nuc, nms, hu1, hu2, rfl, rfl⟩ rs_ hrs_
      simp only [List.cons_append, List.nil_append] at hrs_
      subst hrs_
      rw [k1] at hu1 ⊢
      obtain ⟨hur, hun⟩ := Prod.mk.inj hu1
      subst hun
      have hsame : m.r.mark = u.r.mark ∧ m.r.kind = u.r.kind ∧ m.r.handle = u.r.handle ∧ m.r.how = u.r.how ∧ m.r.at_ = u.r.at_ ∧ m.r.data = u.r.data := by rw [hur, hmr]; exact ⟨rfl, rfl, rfl, rfl, rfl, rfl⟩
      rw [hnl]
      repeat (first | (apply G.ex (hd := rfl); case h => (first | exact Ex.move rfl | exact Ex.extract rfl rfl)))
      refine G.alloc rfl (fun g2 => ?_)
      repeat (first | refine G.storeBA rfl rfl rfl rfl rfl ?_ | (apply G.ex (hd := rfl); case h => (first | exact Ex.move rfl | exact Ex.lss rfl rfl | exact Ex.gtr rfl rfl | exact Ex.neI rfl rfl | exact Ex.lenSl rfl | exact Ex.assign rfl | exact Ex.pickF rfl (by first | assumption | omega) rfl | exact Ex.loadBA rfl rfl rfl)) | refine G.g_ff rfl rfl (by first | assumption | omega) ?_ | refine G.nil ?_ | refine GC.seq ?_ | refine GC.region ?_ | refine GE.then_normal ?_)
      first | refine G.call (caps := []) (sameR_sp (.vec 9 1 na i nc (flat eO nms)) m u hsame hml hu2 hmn na no i nc nuc nms hnl (by omega)) rfl rfl rfl rfl (by repeat (first | exact Takes.nil | apply Takes.dup rfl | apply Takes.cons | exact Take1.here | apply Take1.there)) ?_ | refine G.callU (caps := []) (sameR_sp (.vec 9 1 na i nc (flat eO nms)) m u hsame hml hu2 hmn na no i nc nuc nms hnl (by omega)) rfl rfl rfl (by repeat (first | exact Takes.nil | apply Takes.dup rfl | apply Takes.cons | exact Take1.here | apply Take1.there)) ?_
      rintro v_ give_ ⟨rfl, rfl⟩ rs_ hrs_
      simp only [List.cons_append, List.nil_append] at hrs_
      subst hrs_
      repeat (first | (apply G.ex (hd := rfl); case h => (first | exact Ex.move rfl | exact Ex.lenSl rfl | exact Ex.notB rfl | exact Ex.pickF rfl (by first | assumption | omega) rfl)) | refine G.g_ff rfl rfl (by first | assumption | omega) ?_ | refine G.nil ?_ | refine GC.seq ?_ | refine GC.region ?_ | refine GC.skip ?_ | refine GE.then_normal ?_ | refine GC.cond_f rfl ?_)
      have hc0 := Int.emod_nonneg a5 (show (X.length : Int) ≠ 0 by omega)
      have hc1 := Int.emod_lt_of_pos a5 (show (0 : Int) < (X.length : Int) by omega)
      first | refine G.call (caps := []) (picked_sp a5 (X.length : Int) (by omega) (by omega)) rfl rfl rfl rfl (by repeat (first | exact Takes.nil | apply Takes.dup rfl | apply Takes.cons | exact Take1.here | apply Take1.there)) ?_ | refine G.callU (caps := []) (picked_sp a5 (X.length : Int) (by omega) (by omega)) rfl rfl rfl (by repeat (first | exact Takes.nil | apply Takes.dup rfl | apply Takes.cons | exact Take1.here | apply Take1.there)) ?_
      rintro v_ give_ ⟨rfl, rfl⟩ rs_ hrs_
      simp only [List.cons_append, List.nil_append] at hrs_
      subst hrs_
      obtain ⟨K, hK⟩ : ∃ K : Nat, a5 % (X.length : Int) = (K : Int) := ⟨(a5 % (X.length : Int)).toNat, by omega⟩
      rw [hK]
      have hKX : K < X.length := by omega
      refine G.sub (l := 0) (r := K) rfl rfl (by first | exact .inl ⟨rfl, rfl⟩ | exact .inr ⟨_, _, rfl, ev_int rfl (by omega)⟩) (by first | exact .inl ⟨rfl, rfl⟩ | exact .inr ⟨_, _, rfl, ev_int rfl (by omega)⟩) (by omega) rfl (takeB X K) (fun b1 => ?_)
      have s1 := k2 K hKX
      have hKl : (X.take K).length = K - 0 := by rw [List.length_take]; omega
      first | refine G.call (caps := []) (answered_sp b1 (K - 0) (xc - 0) (X.take K) hKl (by omega)) rfl rfl rfl rfl (by repeat (first | exact Takes.nil | apply Takes.dup rfl | apply Takes.cons | exact Take1.here | apply Take1.there)) ?_ | refine G.callU (caps := []) (answered_sp b1 (K - 0) (xc - 0) (X.take K) hKl (by omega)) rfl rfl rfl (by repeat (first | exact Takes.nil | apply Takes.dup rfl | apply Takes.cons | exact Take1.here | apply Take1.there)) ?_
      rintro v_ give_ ⟨u2, no2, nuc2, nms2, hv1, hv2, rfl, rfl⟩ rs_ hrs_
      simp only [List.cons_append, List.nil_append] at hrs_
      subst hrs_
      rw [s1]
      repeat (first | (apply G.ex (hd := rfl); case h => (first | exact Ex.move rfl | exact Ex.extract rfl rfl)))
      refine G.alloc rfl (fun g3 => ?_)
      repeat (first | refine G.storeBA rfl rfl rfl rfl rfl ?_ | (apply G.ex (hd := rfl); case h => (first | exact Ex.move rfl | exact Ex.eqI rfl rfl | exact Ex.assign rfl)) | refine G.nil ?_ | refine GC.seq ?_ | refine GC.region ?_ | refine GC.ret ?_ | refine GE.then_normal ?_)
      refine GE.ret (by first | exact .inl rfl | exact .inr rfl) (by first | exact res0 Try.results5 | exact res1 Try.results5 rfl | exact res2 Try.results5 rfl rfl | exact resR1 Try.results5 (by first | exact RV.tmp rfl | exact RV.cell rfl (eP_len _) | exact RV.cell rfl rfl | exact RV.cell1 rfl) | exact resR2 Try.results5 (by first | exact RV.tmp rfl | exact RV.cell rfl (eP_len _) | exact RV.cell rfl rfl | exact RV.cell1 rfl) (by first | exact RV.tmp rfl | exact RV.cell rfl (eP_len _) | exact RV.cell rfl rfl | exact RV.cell1 rfl) | exact resR3 Try.results5 (by first | exact RV.tmp rfl | exact RV.cell rfl (eP_len _) | exact RV.cell rfl rfl | exact RV.cell1 rfl) (by first | exact RV.tmp rfl | exact RV.cell rfl (eP_len _) | exact RV.cell rfl rfl | exact RV.cell1 rfl) (by first | exact RV.tmp rfl | exact RV.cell rfl (eP_len _) | exact RV.cell rfl rfl | exact RV.cell1 rfl)) ⟨rfl, rfl⟩ (by repeat (first | exact Takes.nil | apply Takes.dup rfl | apply Takes.cons | exact Take1.here | apply Take1.there)) (by repeat (first | exact Subs.refl | refine Subs.skip ?_))
  · have hmin : i ≤ 40 := by omega
    repeat (first | (apply G.ex (hd := rfl); case h => (first | exact Ex.move rfl | exact Ex.lss rfl rfl | exact Ex.lenSl rfl | exact Ex.pickF rfl (by first | assumption | omega) rfl | exact Ex.loadBA rfl rfl rfl)) | refine G.g_tf rfl rfl (by first | assumption | omega) rfl ?_ | refine G.nil ?_ | refine GC.seq ?_ | refine GC.region ?_ | refine GC.exit ?_ | refine GE.then_normal ?_ | refine GE.then_exit ?_ | refine GE.block_hit ?_ | refine GC.cond_f rfl ?_)
    obtain ⟨nmL, hnmL⟩ : ∃ nmL, (z4.take i).map nmR = nmL := ⟨_, rfl⟩
    have hnl : nmL.length = i := by rw [← hnmL, List.length_map, List.length_take]; omega
    have hf0 : faultF (rplF a0 a1 a2 z3 i) nmL = 0 := by
      have := rplF_ok a0 a1 a2 z3 (z4.take i) (by rw [List.length_take]; omega)
      rwa [List.length_take, Nat.min_eq_left (by omega), hnmL] at this
    have hmr : m.r = rplF a0 a1 a2 z3 0 := by rw [hmd]
    have hml : m.r.data.length = m.n := by rw [hmd]; exact hm
    have hmn : m.n ≤ 1000000 := by rw [hmd]; show min len3 100 ≤ 1000000; omega
    have hA : answerF m.r nmL = answerF (rplF a0 a1 a2 z3 i) nmL := by rw [hmr]; rfl
    obtain ⟨k1, k2⟩ := answer_back hf0 ⟨rfl, rfl⟩ (by rw [hnl]; rfl)
    obtain ⟨x1, x2⟩ := answer_len hf0
    have hA2 : (answerF (rplF a0 a1 a2 z3 i) nmL).2 = 0 := by unfold answerF; rw [if_pos hf0]
    rw [hnmL]
    have hns : ∀ s ∈ nmL, s.length ≤ 1000000 := fun s hs => by have := ((fault_ok.1 hf0).ok s hs).2.1; omega
    refine G.conv (rs' := _) (fun w_ H_ => H_.take (need := [.blk b 40 (eRp m (.int .i64 m.r.kind) (.slice na i nc)), .sl m.ao m.n m.c 1 (flat eB m.r.data), .vec 9 1 na i nc (flat eO nmL)]) (by rw [hmd]; repeat (first | exact Takes.nil | apply Takes.dup rfl | apply Takes.cons | exact Take1.here | apply Take1.there))) ?_
    simp only [List.append_eq, List.nil_append, List.cons_append]
    have hkk : a1 % 18 = m.r.kind := by rw [hmd]; rfl
    rw [hkk]
    first | refine G.call (caps := []) (answer_sp (.vec 9 1 na i nc (flat eO nmL)) m hml na i nc nmL hnl (by omega) hns) rfl rfl rfl rfl (by repeat (first | exact Takes.nil | apply Takes.dup rfl | apply Takes.cons | exact Take1.here | apply Take1.there)) ?_ | refine G.callU (caps := []) (answer_sp (.vec 9 1 na i nc (flat eO nmL)) m hml na i nc nmL hnl (by omega) hns) rfl rfl rfl (by repeat (first | exact Takes.nil | apply Takes.dup rfl | apply Takes.cons | exact Take1.here | apply Take1.there)) ?_
    rintro v_ give_ ⟨xa, xc, rfl, hx, rfl⟩ rs_ hrs_
    simp only [List.cons_append, List.nil_append] at hrs_
    subst hrs_
    rw [hA] at hx ⊢
    obtain ⟨X, hX⟩ : ∃ X, (answerF (rplF a0 a1 a2 z3 i) nmL).1 = X := ⟨_, rfl⟩
    rw [hA2]
    rw [hX] at k1 k2 x1 x2 hx ⊢
    first | refine G.frz xa ?_ | refine GC.frz xa ?_ | refine GE.frz xa ?_
    repeat (first | (apply G.ex (hd := rfl); case h => (first | exact Ex.move rfl | exact Ex.extract rfl rfl | exact Ex.assign rfl)) | refine G.nil ?_ | refine GC.seq ?_ | refine GC.region ?_ | refine GE.then_normal ?_)
    refine G.appNil rfl rfl (by rfl) (by omega) rfl (rfl) (fun pa pc => ?_)
    first | refine G.frz pa ?_ | refine GC.frz pa ?_ | refine GE.frz pa ?_
    first | refine G.call (caps := []) (answered_sp pa X.length pc X rfl (by omega)) rfl rfl rfl rfl (by repeat (first | exact Takes.nil | apply Takes.dup rfl | apply Takes.cons | exact Take1.here | apply Take1.there)) ?_ | refine G.callU (caps := []) (answered_sp pa X.length pc X rfl (by omega)) rfl rfl rfl (by repeat (first | exact Takes.nil | apply Takes.dup rfl | apply Takes.cons | exact Take1.here | apply Take1.there)) ?_
    rintro v_ give_ ⟨u, no, nuc, nms, hu1, hu2, rfl, rfl⟩ rs_ hrs_
    simp only [List.cons_append, List.nil_append] at hrs_
    subst hrs_
    rw [k1] at hu1 ⊢
    obtain ⟨hur, hun⟩ := Prod.mk.inj hu1
    subst hun
    have hsame : m.r.mark = u.r.mark ∧ m.r.kind = u.r.kind ∧ m.r.handle = u.r.handle ∧ m.r.how = u.r.how ∧ m.r.at_ = u.r.at_ ∧ m.r.data = u.r.data := by rw [hur, hmr]; exact ⟨rfl, rfl, rfl, rfl, rfl, rfl⟩
    rw [hnl]
    repeat (first | (apply G.ex (hd := rfl); case h => (first | exact Ex.move rfl | exact Ex.extract rfl rfl)))
    refine G.alloc rfl (fun g2 => ?_)
    repeat (first | refine G.storeBA rfl rfl rfl rfl rfl ?_ | (apply G.ex (hd := rfl); case h => (first | exact Ex.move rfl | exact Ex.lss rfl rfl | exact Ex.gtr rfl rfl | exact Ex.neI rfl rfl | exact Ex.lenSl rfl | exact Ex.assign rfl | exact Ex.pickF rfl (by first | assumption | omega) rfl | exact Ex.loadBA rfl rfl rfl)) | refine G.g_ff rfl rfl (by first | assumption | omega) ?_ | refine G.nil ?_ | refine GC.seq ?_ | refine GC.region ?_ | refine GE.then_normal ?_)
    first | refine G.call (caps := []) (sameR_sp (.vec 9 1 na i nc (flat eO nms)) m u hsame hml hu2 hmn na no i nc nuc nms hnl (by omega)) rfl rfl rfl rfl (by repeat (first | exact Takes.nil | apply Takes.dup rfl | apply Takes.cons | exact Take1.here | apply Take1.there)) ?_ | refine G.callU (caps := []) (sameR_sp (.vec 9 1 na i nc (flat eO nms)) m u hsame hml hu2 hmn na no i nc nuc nms hnl (by omega)) rfl rfl rfl (by repeat (first | exact Takes.nil | apply Takes.dup rfl | apply Takes.cons | exact Take1.here | apply Take1.there)) ?_
    rintro v_ give_ ⟨rfl, rfl⟩ rs_ hrs_
    simp only [List.cons_append, List.nil_append] at hrs_
    subst hrs_
    repeat (first | (apply G.ex (hd := rfl); case h => (first | exact Ex.move rfl | exact Ex.lenSl rfl | exact Ex.notB rfl | exact Ex.pickF rfl (by first | assumption | omega) rfl)) | refine G.g_ff rfl rfl (by first | assumption | omega) ?_ | refine G.nil ?_ | refine GC.seq ?_ | refine GC.region ?_ | refine GC.skip ?_ | refine GE.then_normal ?_ | refine GC.cond_f rfl ?_)
    have hc0 := Int.emod_nonneg a5 (show (X.length : Int) ≠ 0 by omega)
    have hc1 := Int.emod_lt_of_pos a5 (show (0 : Int) < (X.length : Int) by omega)
    first | refine G.call (caps := []) (picked_sp a5 (X.length : Int) (by omega) (by omega)) rfl rfl rfl rfl (by repeat (first | exact Takes.nil | apply Takes.dup rfl | apply Takes.cons | exact Take1.here | apply Take1.there)) ?_ | refine G.callU (caps := []) (picked_sp a5 (X.length : Int) (by omega) (by omega)) rfl rfl rfl (by repeat (first | exact Takes.nil | apply Takes.dup rfl | apply Takes.cons | exact Take1.here | apply Take1.there)) ?_
    rintro v_ give_ ⟨rfl, rfl⟩ rs_ hrs_
    simp only [List.cons_append, List.nil_append] at hrs_
    subst hrs_
    obtain ⟨K, hK⟩ : ∃ K : Nat, a5 % (X.length : Int) = (K : Int) := ⟨(a5 % (X.length : Int)).toNat, by omega⟩
    rw [hK]
    have hKX : K < X.length := by omega
    refine G.sub (l := 0) (r := K) rfl rfl (by first | exact .inl ⟨rfl, rfl⟩ | exact .inr ⟨_, _, rfl, ev_int rfl (by omega)⟩) (by first | exact .inl ⟨rfl, rfl⟩ | exact .inr ⟨_, _, rfl, ev_int rfl (by omega)⟩) (by omega) rfl (takeB X K) (fun b1 => ?_)
    have s1 := k2 K hKX
    have hKl : (X.take K).length = K - 0 := by rw [List.length_take]; omega
    first | refine G.call (caps := []) (answered_sp b1 (K - 0) (xc - 0) (X.take K) hKl (by omega)) rfl rfl rfl rfl (by repeat (first | exact Takes.nil | apply Takes.dup rfl | apply Takes.cons | exact Take1.here | apply Take1.there)) ?_ | refine G.callU (caps := []) (answered_sp b1 (K - 0) (xc - 0) (X.take K) hKl (by omega)) rfl rfl rfl (by repeat (first | exact Takes.nil | apply Takes.dup rfl | apply Takes.cons | exact Take1.here | apply Take1.there)) ?_
    rintro v_ give_ ⟨u2, no2, nuc2, nms2, hv1, hv2, rfl, rfl⟩ rs_ hrs_
    simp only [List.cons_append, List.nil_append] at hrs_
    subst hrs_
    rw [s1]
    repeat (first | (apply G.ex (hd := rfl); case h => (first | exact Ex.move rfl | exact Ex.extract rfl rfl)))
    refine G.alloc rfl (fun g3 => ?_)
    repeat (first | refine G.storeBA rfl rfl rfl rfl rfl ?_ | (apply G.ex (hd := rfl); case h => (first | exact Ex.move rfl | exact Ex.eqI rfl rfl | exact Ex.assign rfl)) | refine G.nil ?_ | refine GC.seq ?_ | refine GC.region ?_ | refine GC.ret ?_ | refine GE.then_normal ?_)
    refine GE.ret (by first | exact .inl rfl | exact .inr rfl) (by first | exact res0 Try.results5 | exact res1 Try.results5 rfl | exact res2 Try.results5 rfl rfl | exact resR1 Try.results5 (by first | exact RV.tmp rfl | exact RV.cell rfl (eP_len _) | exact RV.cell rfl rfl | exact RV.cell1 rfl) | exact resR2 Try.results5 (by first | exact RV.tmp rfl | exact RV.cell rfl (eP_len _) | exact RV.cell rfl rfl | exact RV.cell1 rfl) (by first | exact RV.tmp rfl | exact RV.cell rfl (eP_len _) | exact RV.cell rfl rfl | exact RV.cell1 rfl) | exact resR3 Try.results5 (by first | exact RV.tmp rfl | exact RV.cell rfl (eP_len _) | exact RV.cell rfl rfl | exact RV.cell1 rfl) (by first | exact RV.tmp rfl | exact RV.cell rfl (eP_len _) | exact RV.cell rfl rfl | exact RV.cell1 rfl) (by first | exact RV.tmp rfl | exact RV.cell rfl (eP_len _) | exact RV.cell rfl rfl | exact RV.cell1 rfl)) ⟨rfl, rfl⟩ (by repeat (first | exact Takes.nil | apply Takes.dup rfl | apply Takes.cons | exact Take1.here | apply Take1.there)) (by repeat (first | exact Subs.refl | refine Subs.skip ?_))
end msg
end Go.Proofs.Ythplilldkdehnaa
