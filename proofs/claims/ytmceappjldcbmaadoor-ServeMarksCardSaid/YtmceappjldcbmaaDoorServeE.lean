/-
  CONTRACTS of packthreadkeep.Requests, served, sameReply, by the kit.
-/
import Derived.Test.YtmceappjldcbmaaDoorServeD
import Derived.Test.YtmceappjldcbmaaDoorServeL
import Derived.Test.YtmceappjldcbmaaDoorReqOf
import Derived.Test.YtmceappjldcbmaaDoorSameT
import Derived.Test.YtmceappjldcbmaaDoorJob
import Derived.Test.YtmceappjldcbmaaDoorKitN2
namespace Go.Proofs.YtmceappjldcbmaaDoor
open Go.RowKit
attribute [local irreducible] Ex G GC GE Gq FPost LPost
set_option linter.unusedVariables false
set_option linter.unusedSimpArgs false
namespace serve
open tree path msg
/-- the request that a call is made of -/
def rqF (j : JbM) (i : Nat) : Rq :=
  if 1 + j.kind % 10 = 1 then (if j.b.tmod 2 = 0 then { reqF j.kind ((i : Int) + 1) j.a j.b j.d.l with how := 7 } else reqF j.kind ((i : Int) + 1) j.a j.b j.d.l)
  else if 2 ≤ 1 + j.kind % 10 ∧ 1 + j.kind % 10 ≤ 4 then { reqF j.kind ((i : Int) + 1) j.a j.b j.d.l with handle := j.a % 12 } else reqF j.kind ((i : Int) + 1) j.a j.b j.d.l
def rqsF (J : List JbM) : List Rq := (List.range J.length).map fun i => rqF (J.getD i default) i
theorem reqF_kind (kind mark a b : Int) (d : List UInt8) : (reqF kind mark a b d).kind = 1 + kind % 10 := by
  unfold reqF
  simp only
  split
  · rfl
  split
  · rfl
  split
  · rfl
  split
  · rfl
  split
  · rfl
  · rfl
theorem reqF_paths (kind mark a b : Int) (d : List UInt8) : ((reqF kind mark a b d).path = [] ∨ (reqF kind mark a b d).path = pathF a) ∧ ((reqF kind mark a b d).to_ = [] ∨ (reqF kind mark a b d).to_ = pathF b) ∧ (reqF kind mark a b d).data.length ≤ 100 ∧ 0 ≤ (reqF kind mark a b d).how ∧ (reqF kind mark a b d).how ≤ 31 ∧ (reqF kind mark a b d).mark = mark % 4294967296 := by
  have h1 := Int.emod_nonneg b (show (32 : Int) ≠ 0 by decide)
  have h2 := Int.emod_lt_of_pos b (show (0 : Int) < 32 by decide)
  unfold reqF
  simp only
  split
  · exact ⟨.inr rfl, .inl rfl, Nat.zero_le _, h1, by show b % 32 ≤ 31; omega, rfl⟩
  split
  · exact ⟨.inl rfl, .inl rfl, Nat.zero_le _, Int.le_refl _, (by decide : (0 : Int) ≤ 31), rfl⟩
  split
  · exact ⟨.inl rfl, .inl rfl, Nat.zero_le _, Int.le_refl _, (by decide : (0 : Int) ≤ 31), rfl⟩
  split
  · exact ⟨.inl rfl, .inl rfl, by show (d.take 100).length ≤ 100; rw [List.length_take]; omega, Int.le_refl _, (by decide : (0 : Int) ≤ 31), rfl⟩
  split
  · exact ⟨.inr rfl, .inr rfl, Nat.zero_le _, Int.le_refl _, (by decide : (0 : Int) ≤ 31), rfl⟩
  · exact ⟨.inr rfl, .inl rfl, Nat.zero_le _, Int.le_refl _, (by decide : (0 : Int) ≤ 31), rfl⟩
theorem rqF_facts (j : JbM) (i : Nat) : ((rqF j i).path = [] ∨ (rqF j i).path = pathF j.a) ∧ ((rqF j i).to_ = [] ∨ (rqF j i).to_ = pathF j.b) ∧ (rqF j i).data.length ≤ 100 ∧ 0 ≤ (rqF j i).how ∧ (rqF j i).how ≤ 31 ∧ (rqF j i).mark = ((i : Int) + 1) % 4294967296 := by
  obtain ⟨a, b, c, d, e, f⟩ := reqF_paths j.kind ((i : Int) + 1) j.a j.b j.d.l
  unfold rqF
  split
  · split
    · exact ⟨a, b, c, (by decide : (0 : Int) ≤ 7), (by decide : (7 : Int) ≤ 31), f⟩
    · exact ⟨a, b, c, d, e, f⟩
  split
  · exact ⟨a, b, c, d, e, f⟩
  · exact ⟨a, b, c, d, e, f⟩
theorem rqF_ok (j : JbM) (i : Nat) : RqOk (rqF j i) := by
  obtain ⟨a, b, c, d, e, f⟩ := rqF_facts j i
  have pa := pathF_len j.a
  have pb := pathF_len j.b
  refine ⟨?_, ?_, by omega, d, e⟩
  · rcases a with a | a <;> rw [a]
    · exact Nat.zero_le _
    · omega
  · rcases b with b | b <;> rw [b]
    · exact Nat.zero_le _
    · omega
theorem rqF_handle (j : JbM) (i : Nat) : (rqF j i).handle ≤ 9223372036854775807 := by
  have h1 := Int.emod_lt_of_pos j.a (show (0 : Int) < 30 by decide)
  have h2 := Int.emod_lt_of_pos j.a (show (0 : Int) < 12 by decide)
  have hq : (reqF j.kind ((i : Int) + 1) j.a j.b j.d.l).handle ≤ 9223372036854775807 := by
    unfold reqF
    simp only
    split
    · exact (by decide : (0 : Int) ≤ 9223372036854775807)
    split
    · show j.a % 30 ≤ _; omega
    split
    · show j.a % 30 ≤ _; omega
    split
    · show j.a % 30 ≤ _; omega
    split
    · exact (by decide : (0 : Int) ≤ 9223372036854775807)
    · exact (by decide : (0 : Int) ≤ 9223372036854775807)
  unfold rqF
  split
  · split
    · exact hq
    · exact hq
  split
  · show j.a % 12 ≤ _; omega
  · exact hq
theorem rqF_abcd (j : JbM) (i : Nat) : RqA (rqF j i) := by
  obtain ⟨a, b, c, d, e, f⟩ := rqF_facts j i
  have nil : ∀ x ∈ (walkF [] []).1, x ∈ abcd := fun x hx => by rw [show (walkF [] []).1 = [] by decide] at hx; exact absurd hx List.not_mem_nil
  refine ⟨?_, ?_⟩
  · rcases a with a | a <;> rw [a]
    · exact nil
    · rw [pathF_walk]; exact namesK_mem _
  · rcases b with b | b <;> rw [b]
    · exact nil
    · rw [pathF_walk]; exact namesK_mem _
theorem rqsF_mem {J : List JbM} {r : Rq} (h : r ∈ rqsF J) : ∃ j i, r = rqF j i := by
  obtain ⟨i, _, e⟩ := List.mem_map.1 h
  exact ⟨_, i, e.symm⟩
theorem rqsF_len (J : List JbM) : (rqsF J).length = J.length := by unfold rqsF; rw [List.length_map, List.length_range]
theorem rqsF_step (J : List JbM) (i : Nat) (h : i < J.length) : rqsF (J.take (i + 1)) = rqsF (J.take i) ++ [rqF (J.getD i default) i] := by
  unfold rqsF
  rw [List.length_take, List.length_take, Nat.min_eq_left (by omega), Nat.min_eq_left (by omega), List.range_succ, List.map_append]
  congr 1
  · refine List.map_congr_left fun k hk => ?_
    have hk := List.mem_range.1 hk
    congr 1
    rw [List.getD_eq_getElem?_getD, List.getD_eq_getElem?_getD, List.getElem?_take_of_lt (by omega), List.getElem?_take_of_lt (by omega)]
  · rw [List.map_singleton]
    congr 2
    rw [List.getD_eq_getElem?_getD, List.getD_eq_getElem?_getD, List.getElem?_take_of_lt (by omega)]
set_option maxHeartbeats 16000000 in
theorem requests_sp (ao : Option Addr) (n c : Nat) (J : List JbM) (hl : J.length = n) (hn : n ≤ 9223372036854775807) (hJ : ∀ m ∈ J, JOk m) (N : Nat) (hN : N ≤ 200) :
    Spec Tryd.prog 7 [.slice ao n c, .int .i64 (N : Int)] [.sl ao n c 4 (flat eJb J), .per (Rd eB 1 (J.map (·.d)))] fun v give => ∃ (A : List Ms) (oa : Option Addr) (oc : Nat), A.map (·.r) = rqsF (J.take N) ∧ (∀ x ∈ A, MsOk x) ∧ v = .slice oa A.length oc ∧ give = [.vec 30 9 oa A.length oc (flat eRq A), .per (Rd eB 1 (A.map dM)), .sl ao n c 4 (flat eJb J), .per (Rd eB 1 (J.map (·.d)))] := by
  refine Spec.intro Tryd.func7 rfl Tryd.ntmps7 rfl fun w0 rest rs_ hrs_ => ?_
  simp only [List.cons_append, List.nil_append] at hrs_
  subst hrs_
  repeat (first | (apply G.ex (hd := rfl); case h => (first | exact Ex.assign rfl)) | refine G.nil ?_ | refine GC.seq ?_ | refine GC.region ?_ | refine GC.block ?_ | refine GE.then_normal ?_)
  refine GC.conv (fun w_ H_ => Holds.rdNil eB 1 H_) ?_
  refine GC.nilvec 30 9 ?_
  repeat (first | fail)
  refine GC.loop (ι := Nat × List Ms × Option Addr × Nat) (fun x => x.1 ≤ n ∧ x.1 ≤ N ∧ x.2.1.map (·.r) = rqsF (J.take x.1) ∧ x.2.1.length = x.1 ∧ ∀ y ∈ x.2.1, MsOk y) (fun x => N - x.1) (fun x => [(0, .slice ao n c), (1, .int .i64 (N : Int)), (5, .slice x.2.2.1 x.1 x.2.2.2), (6, .int .i64 (x.1 : Int))]) (fun x => [.vec 30 9 x.2.2.1 x.1 x.2.2.2 (flat eRq x.2.1), .per (Rd eB 1 (x.2.1.map dM)), .sl ao n c 4 (flat eJb J), .per (Rd eB 1 (J.map (·.d)))]) (0, [], none, 0) ⟨Nat.zero_le _, Nat.zero_le _, rfl, rfl, fun y hy => nomatch hy⟩ (by simp only [fits]; repeat (first | exact trivial | refine And.intro rfl ?_)) (by repeat first | exact tn_ | apply td_ rfl | apply tc_ | exact .here | apply Take1.there) ?_
  rintro ⟨i, A, oa, oc⟩ ⟨hi, hiN, hA, hAl, hO⟩ fr_ rs_ hfr_ hrs_
  simp only [List.cons_append, List.nil_append] at hfr_ hrs_
  subst hfr_ hrs_
  simp only at hi hiN hA hAl hO
  by_cases h1 : i < n
  · by_cases h2 : i < N
    · have hdk : (J.map (·.d)).getD i default = (J.getD i default).d := getD_map _ _ _ (by omega)
      have hmk := hJ (J.getD i default) (getD_mem (by omega))
      have hts := rqsF_step J i (by omega)
      refine GC.conv (fun w_ H_ => H_.rdAt (l := J.map (·.d)) (enc := eB) (s := 1) (by simp) i (by rw [List.length_map]; omega)) ?_
      rw [hdk]
      repeat (first | (apply G.ex (hd := rfl); case h => (first | exact Ex.move rfl | exact Ex.lss rfl rfl | exact Ex.lenSl rfl | exact Ex.indexN rfl rfl (by first | omega | (simp; done) | (simp; omega)) | exact Ex.pickT rfl (by first | assumption | omega) rfl | exact Ex.loadTA rfl (by first | omega | (simp; done) | (simp; omega)))) | refine G.g_tt rfl rfl (by first | assumption | omega) ?_ | refine G.nil ?_ | refine GC.seq ?_ | refine GC.region ?_ | refine GC.block ?_ | refine GC.skip ?_ | refine GE.then_normal ?_ | refine GC.cond_yes rfl (by first | assumption | omega) ?_)
      refine G.alloc rfl (fun jb => ?_)
      repeat (first | refine G.storeBA rfl rfl rfl rfl rfl ?_ | (apply G.ex (hd := rfl); case h => (first | exact Ex.move rfl | exact Ex.fieldB rfl | exact Ex.loadB rfl rfl | exact Ex.add rfl rfl (by omega))) | refine G.nil ?_ | refine GC.seq ?_ | refine GC.region ?_ | refine GE.then_normal ?_)
      generalize J.getD i default = j at *
      first | refine G.call (caps := []) (requestOf_sp j.kind ((i : Int) + 1) j.a j.b hmk.k (by omega) hmk.a hmk.b j.d.ao j.d.n j.d.c j.d.l hmk.len hmk.le) rfl rfl rfl rfl (by repeat first | exact tn_ | apply td_ rfl | apply tc_ | exact .here | apply Take1.there) ?_ | refine G.callU (caps := []) (requestOf_sp j.kind ((i : Int) + 1) j.a j.b hmk.k (by omega) hmk.a hmk.b j.d.ao j.d.n j.d.c j.d.l hmk.len hmk.le) rfl rfl rfl (by repeat first | exact tn_ | apply td_ rfl | apply tc_ | exact .here | apply Take1.there) ?_
      rintro v_ give_ ⟨m, hmr, hmd, rfl, rfl⟩ rs_ hrs_
      simp only [List.cons_append, List.nil_append] at hrs_
      subst hrs_
      obtain ⟨mr, mo, mn, mc⟩ := m
      simp only at hmr hmd
      have hkd : mr.kind = 1 + j.kind % 10 := by rw [hmr]; exact reqF_kind ..
      have hkr := Int.emod_nonneg j.kind (show (10 : Int) ≠ 0 by decide)
      have hkr' := Int.emod_lt_of_pos j.kind (show (0 : Int) < 10 by decide)
      refine G.alloc rfl (fun rb => ?_)
      by_cases k1 : mr.kind = 1
      · have q1 : 1 + j.kind % 10 = 1 := by rw [← hkd]; exact k1
        have k2 : ¬ 2 ≤ mr.kind := by omega
        by_cases c7 : j.b.tmod 2 = 0
        · have e : ({ mr with how := 7 } : Rq) = rqF j i := by unfold rqF; rw [if_pos q1, if_pos c7, hmr]
          repeat (first | refine G.storeB rfl rfl rfl rfl rfl ?_ | refine G.storeBA rfl rfl rfl rfl rfl ?_ | (apply G.ex (hd := rfl); case h => (first | exact Ex.move rfl | exact Ex.fieldB rfl | exact Ex.loadB rfl rfl | exact Ex.geq rfl rfl | exact Ex.eqI rfl rfl | exact Ex.remt rfl rfl (by omega) | exact Ex.pickT rfl (by first | assumption | omega) rfl | exact Ex.pickF rfl (by first | assumption | omega) rfl | exact Ex.loadBA rfl rfl rfl)) | refine G.g_tt rfl rfl (by first | assumption | omega) ?_ | refine G.g_tf rfl rfl (by first | assumption | omega) rfl ?_ | refine G.nil ?_ | refine GC.seq ?_ | refine GC.region ?_ | refine GC.skip ?_ | refine GE.then_normal ?_ | refine GC.cond_yes rfl (by first | assumption | omega) ?_ | refine GC.cond_f rfl ?_)
          have hcat : flat eRq A ++ flat eRq [(⟨{ mr with how := 7 }, mo, mn, mc⟩ : Ms)] = flat eRq (A ++ [⟨{ mr with how := 7 }, mo, mn, mc⟩]) := (flat_append ..).symm
          refine G.lit (cells := flat eRq [(⟨{ mr with how := 7 }, mo, mn, mc⟩ : Ms)]) rfl (by rfl) (by rfl) (by rfl) (by rfl) (by rfl) (by rfl) rfl (fun y => ?_)
          refine G.app rfl rfl (by rfl) (by omega) rfl (hcat) (fun o2 oc2 rs_ hrs_ => ?_)
          try simp only at hrs_
          subst hrs_
          refine G.conv (fun w_ H_ => Holds.rdSnoc (x := ⟨mo, mn, mc, mr.data⟩) (H_.take (need := [.sl mo mn mc 1 (flat eB mr.data), .per (Rd eB 1 (A.map dM))]) (by repeat first | exact tn_ | apply td_ rfl | apply tc_ | exact .here | apply Take1.there))) ?_
          try simp only [List.append_eq, List.nil_append, List.cons_append]
          rw [show A.map dM ++ [⟨mo, mn, mc, mr.data⟩] = (A ++ [(⟨{ mr with how := 7 }, mo, mn, mc⟩ : Ms)]).map dM by rw [List.map_append]; rfl]
          repeat (first | (apply G.ex (hd := rfl); case h => (first | exact Ex.move rfl | exact Ex.add rfl rfl (by omega) | exact Ex.assign rfl)) | refine G.nil ?_ | refine GC.region ?_ | refine GE.then_normal ?_ | refine GE.block_normal ?_)
          rw [show (i : Int) + 1 = ((i + 1 : Nat) : Int) by omega]
          refine GE.loop (i + 1, A ++ [⟨{ mr with how := 7 }, mo, mn, mc⟩], o2, oc2) ⟨by simp only; omega, by simp only; omega, by simp only; rw [List.map_append, hA, hts]; exact congrArg _ (congrArg (fun x => [x]) (e)), by simp only [List.length_append, hAl]; rfl, fun x hx => by simp only at hx; rcases List.mem_append.1 hx with hx | hx; exact hO x hx; rw [List.mem_singleton.1 hx]; exact ⟨by show RqOk _; rw [show ({ mr with how := 7 } : Rq) = rqF j i from e]; exact rqF_ok j i, hmd, by show ({ mr with how := 7 }).handle ≤ _; rw [show ({ mr with how := 7 } : Rq) = rqF j i from e]; exact rqF_handle j i⟩⟩ (by simp only; omega) (by simp only [fits]; repeat (first | exact trivial | refine And.intro rfl ?_)) (by repeat first | exact tn_ | apply td_ rfl | apply tc_ | exact .here | apply Take1.there) (by repeat (first | exact Subs.refl | refine Subs.skip ?_))
        · have e : mr = rqF j i := by unfold rqF; rw [if_pos q1, if_neg c7]; exact hmr
          repeat (first | refine G.storeBA rfl rfl rfl rfl rfl ?_ | (apply G.ex (hd := rfl); case h => (first | exact Ex.move rfl | exact Ex.fieldB rfl | exact Ex.loadB rfl rfl | exact Ex.geq rfl rfl | exact Ex.eqI rfl rfl | exact Ex.remt rfl rfl (by omega) | exact Ex.pickT rfl (by first | assumption | omega) rfl | exact Ex.pickF rfl (by first | assumption | omega) rfl | exact Ex.loadBA rfl rfl rfl)) | refine G.g_tt rfl rfl (by first | assumption | omega) ?_ | refine G.g_tf rfl rfl (by first | assumption | omega) rfl ?_ | refine G.nil ?_ | refine GC.seq ?_ | refine GC.region ?_ | refine GC.skip ?_ | refine GE.then_normal ?_ | refine GC.cond_no rfl (by first | assumption | omega) ?_ | refine GC.cond_f rfl ?_)
          have hcat : flat eRq A ++ flat eRq [(⟨mr, mo, mn, mc⟩ : Ms)] = flat eRq (A ++ [⟨mr, mo, mn, mc⟩]) := (flat_append ..).symm
          refine G.lit (cells := flat eRq [(⟨mr, mo, mn, mc⟩ : Ms)]) rfl (by rfl) (by rfl) (by rfl) (by rfl) (by rfl) (by rfl) rfl (fun y => ?_)
          refine G.app rfl rfl (by rfl) (by omega) rfl (hcat) (fun o2 oc2 rs_ hrs_ => ?_)
          try simp only at hrs_
          subst hrs_
          refine G.conv (fun w_ H_ => Holds.rdSnoc (x := ⟨mo, mn, mc, mr.data⟩) (H_.take (need := [.sl mo mn mc 1 (flat eB mr.data), .per (Rd eB 1 (A.map dM))]) (by repeat first | exact tn_ | apply td_ rfl | apply tc_ | exact .here | apply Take1.there))) ?_
          try simp only [List.append_eq, List.nil_append, List.cons_append]
          rw [show A.map dM ++ [⟨mo, mn, mc, mr.data⟩] = (A ++ [(⟨mr, mo, mn, mc⟩ : Ms)]).map dM by rw [List.map_append]; rfl]
          repeat (first | (apply G.ex (hd := rfl); case h => (first | exact Ex.move rfl | exact Ex.add rfl rfl (by omega) | exact Ex.assign rfl)) | refine G.nil ?_ | refine GC.region ?_ | refine GE.then_normal ?_ | refine GE.block_normal ?_)
          rw [show (i : Int) + 1 = ((i + 1 : Nat) : Int) by omega]
          refine GE.loop (i + 1, A ++ [⟨mr, mo, mn, mc⟩], o2, oc2) ⟨by simp only; omega, by simp only; omega, by simp only; rw [List.map_append, hA, hts]; exact congrArg _ (congrArg (fun x => [x]) (e)), by simp only [List.length_append, hAl]; rfl, fun x hx => by simp only at hx; rcases List.mem_append.1 hx with hx | hx; exact hO x hx; rw [List.mem_singleton.1 hx]; exact ⟨by show RqOk _; rw [show (mr : Rq) = rqF j i from e]; exact rqF_ok j i, hmd, by show (mr).handle ≤ _; rw [show (mr : Rq) = rqF j i from e]; exact rqF_handle j i⟩⟩ (by simp only; omega) (by simp only [fits]; repeat (first | exact trivial | refine And.intro rfl ?_)) (by repeat first | exact tn_ | apply td_ rfl | apply tc_ | exact .here | apply Take1.there) (by repeat (first | exact Subs.refl | refine Subs.skip ?_))
      · have q1 : ¬ 1 + j.kind % 10 = 1 := by rw [← hkd]; exact k1
        have k2 : 2 ≤ mr.kind := by omega
        by_cases k4 : mr.kind ≤ 4
        · have e : ({ mr with handle := j.a % 12 } : Rq) = rqF j i := by unfold rqF; rw [if_neg q1, if_pos ⟨by rw [← hkd]; exact k2, by rw [← hkd]; exact k4⟩, hmr]
          repeat (first | refine G.storeBA rfl rfl rfl rfl rfl ?_ | (apply G.ex (hd := rfl); case h => (first | exact Ex.move rfl | exact Ex.fieldB rfl | exact Ex.loadB rfl rfl | exact Ex.leq rfl rfl | exact Ex.geq rfl rfl | exact Ex.eqI rfl rfl | exact Ex.pickT rfl (by first | assumption | omega) rfl | exact Ex.pickF rfl (by first | assumption | omega) rfl)) | refine G.g_tt rfl rfl (by first | assumption | omega) ?_ | refine G.g_tf rfl rfl (by first | assumption | omega) rfl ?_ | refine G.nil ?_ | refine GC.seq ?_ | refine GC.region ?_ | refine GC.skip ?_ | refine GE.then_normal ?_ | refine GC.cond_yes rfl (by first | assumption | omega) ?_ | refine GC.cond_f rfl ?_)
          first | refine G.call (caps := []) (picked_sp j.a 12 (by decide) (by decide)) rfl rfl rfl rfl (by repeat first | exact tn_ | apply td_ rfl | apply tc_ | exact .here | apply Take1.there) ?_ | refine G.callU (caps := []) (picked_sp j.a 12 (by decide) (by decide)) rfl rfl rfl (by repeat first | exact tn_ | apply td_ rfl | apply tc_ | exact .here | apply Take1.there) ?_
          rintro v_ give_ ⟨rfl, rfl⟩ rs_ hrs_
          simp only [List.cons_append, List.nil_append] at hrs_
          subst hrs_
          repeat (first | refine G.storeB rfl rfl rfl rfl rfl ?_ | (apply G.ex (hd := rfl); case h => (first | exact Ex.move rfl | exact Ex.fieldB rfl | exact Ex.loadBA rfl rfl rfl)) | refine G.nil ?_ | refine GC.region ?_ | refine GE.then_normal ?_)
          have hcat : flat eRq A ++ flat eRq [(⟨{ mr with handle := j.a % 12 }, mo, mn, mc⟩ : Ms)] = flat eRq (A ++ [⟨{ mr with handle := j.a % 12 }, mo, mn, mc⟩]) := (flat_append ..).symm
          refine G.lit (cells := flat eRq [(⟨{ mr with handle := j.a % 12 }, mo, mn, mc⟩ : Ms)]) rfl (by rfl) (by rfl) (by rfl) (by rfl) (by rfl) (by rfl) rfl (fun y => ?_)
          refine G.app rfl rfl (by rfl) (by omega) rfl (hcat) (fun o2 oc2 rs_ hrs_ => ?_)
          try simp only at hrs_
          subst hrs_
          refine G.conv (fun w_ H_ => Holds.rdSnoc (x := ⟨mo, mn, mc, mr.data⟩) (H_.take (need := [.sl mo mn mc 1 (flat eB mr.data), .per (Rd eB 1 (A.map dM))]) (by repeat first | exact tn_ | apply td_ rfl | apply tc_ | exact .here | apply Take1.there))) ?_
          try simp only [List.append_eq, List.nil_append, List.cons_append]
          rw [show A.map dM ++ [⟨mo, mn, mc, mr.data⟩] = (A ++ [(⟨{ mr with handle := j.a % 12 }, mo, mn, mc⟩ : Ms)]).map dM by rw [List.map_append]; rfl]
          repeat (first | (apply G.ex (hd := rfl); case h => (first | exact Ex.move rfl | exact Ex.add rfl rfl (by omega) | exact Ex.assign rfl)) | refine G.nil ?_ | refine GC.region ?_ | refine GE.then_normal ?_ | refine GE.block_normal ?_)
          rw [show (i : Int) + 1 = ((i + 1 : Nat) : Int) by omega]
          refine GE.loop (i + 1, A ++ [⟨{ mr with handle := j.a % 12 }, mo, mn, mc⟩], o2, oc2) ⟨by simp only; omega, by simp only; omega, by simp only; rw [List.map_append, hA, hts]; exact congrArg _ (congrArg (fun x => [x]) (e)), by simp only [List.length_append, hAl]; rfl, fun x hx => by simp only at hx; rcases List.mem_append.1 hx with hx | hx; exact hO x hx; rw [List.mem_singleton.1 hx]; exact ⟨by show RqOk _; rw [show ({ mr with handle := j.a % 12 } : Rq) = rqF j i from e]; exact rqF_ok j i, hmd, by show ({ mr with handle := j.a % 12 }).handle ≤ _; rw [show ({ mr with handle := j.a % 12 } : Rq) = rqF j i from e]; exact rqF_handle j i⟩⟩ (by simp only; omega) (by simp only [fits]; repeat (first | exact trivial | refine And.intro rfl ?_)) (by repeat first | exact tn_ | apply td_ rfl | apply tc_ | exact .here | apply Take1.there) (by repeat (first | exact Subs.refl | refine Subs.skip ?_))
        · have e : mr = rqF j i := by unfold rqF; rw [if_neg q1, if_neg (fun h => k4 (by rw [hkd]; exact h.2))]; exact hmr
          repeat (first | refine G.storeBA rfl rfl rfl rfl rfl ?_ | (apply G.ex (hd := rfl); case h => (first | exact Ex.move rfl | exact Ex.fieldB rfl | exact Ex.loadB rfl rfl | exact Ex.leq rfl rfl | exact Ex.geq rfl rfl | exact Ex.eqI rfl rfl | exact Ex.pickT rfl (by first | assumption | omega) rfl | exact Ex.pickF rfl (by first | assumption | omega) rfl | exact Ex.loadBA rfl rfl rfl)) | refine G.g_tt rfl rfl (by first | assumption | omega) ?_ | refine G.g_tf rfl rfl (by first | assumption | omega) rfl ?_ | refine G.nil ?_ | refine GC.seq ?_ | refine GC.region ?_ | refine GC.skip ?_ | refine GE.then_normal ?_ | refine GC.cond_no rfl (by first | assumption | omega) ?_ | refine GC.cond_f rfl ?_)
          have hcat : flat eRq A ++ flat eRq [(⟨mr, mo, mn, mc⟩ : Ms)] = flat eRq (A ++ [⟨mr, mo, mn, mc⟩]) := (flat_append ..).symm
          refine G.lit (cells := flat eRq [(⟨mr, mo, mn, mc⟩ : Ms)]) rfl (by rfl) (by rfl) (by rfl) (by rfl) (by rfl) (by rfl) rfl (fun y => ?_)
          refine G.app rfl rfl (by rfl) (by omega) rfl (hcat) (fun o2 oc2 rs_ hrs_ => ?_)
          try simp only at hrs_
          subst hrs_
          refine G.conv (fun w_ H_ => Holds.rdSnoc (x := ⟨mo, mn, mc, mr.data⟩) (H_.take (need := [.sl mo mn mc 1 (flat eB mr.data), .per (Rd eB 1 (A.map dM))]) (by repeat first | exact tn_ | apply td_ rfl | apply tc_ | exact .here | apply Take1.there))) ?_
          try simp only [List.append_eq, List.nil_append, List.cons_append]
          rw [show A.map dM ++ [⟨mo, mn, mc, mr.data⟩] = (A ++ [(⟨mr, mo, mn, mc⟩ : Ms)]).map dM by rw [List.map_append]; rfl]
          repeat (first | (apply G.ex (hd := rfl); case h => (first | exact Ex.move rfl | exact Ex.add rfl rfl (by omega) | exact Ex.assign rfl)) | refine G.nil ?_ | refine GC.region ?_ | refine GE.then_normal ?_ | refine GE.block_normal ?_)
          rw [show (i : Int) + 1 = ((i + 1 : Nat) : Int) by omega]
          refine GE.loop (i + 1, A ++ [⟨mr, mo, mn, mc⟩], o2, oc2) ⟨by simp only; omega, by simp only; omega, by simp only; rw [List.map_append, hA, hts]; exact congrArg _ (congrArg (fun x => [x]) (e)), by simp only [List.length_append, hAl]; rfl, fun x hx => by simp only at hx; rcases List.mem_append.1 hx with hx | hx; exact hO x hx; rw [List.mem_singleton.1 hx]; exact ⟨by show RqOk _; rw [show (mr : Rq) = rqF j i from e]; exact rqF_ok j i, hmd, by show (mr).handle ≤ _; rw [show (mr : Rq) = rqF j i from e]; exact rqF_handle j i⟩⟩ (by simp only; omega) (by simp only [fits]; repeat (first | exact trivial | refine And.intro rfl ?_)) (by repeat first | exact tn_ | apply td_ rfl | apply tc_ | exact .here | apply Take1.there) (by repeat (first | exact Subs.refl | refine Subs.skip ?_))
    · obtain rfl : i = N := by omega
      repeat (first | (apply G.ex (hd := rfl); case h => (first | exact Ex.move rfl | exact Ex.lss rfl rfl | exact Ex.lenSl rfl | exact Ex.assign rfl | exact Ex.pickT rfl (by first | assumption | omega) rfl)) | refine G.g_tt rfl rfl (by first | assumption | omega) ?_ | refine G.nil ?_ | refine GC.seq ?_ | refine GC.region ?_ | refine GC.ret ?_ | refine GC.exit ?_ | refine GE.then_normal ?_ | refine GE.then_exit ?_ | refine GE.block_hit ?_ | refine GC.cond_no rfl (by first | assumption | omega) ?_)
      subst hAl
      refine GE.ret (by first | exact .inl rfl | exact .inr rfl) (res1 Tryd.results7 rfl) ⟨A, oa, oc, hA, hO, rfl, rfl⟩ (by repeat first | exact tn_ | apply td_ rfl | apply tc_ | exact .here | apply Take1.there) (by repeat (first | exact Subs.refl | refine Subs.skip ?_))
  · obtain rfl : i = n := by omega
    rw [List.take_of_length_le (by omega)] at hA
    rw [← List.take_of_length_le (l := J) (i := N) (by omega)] at hA
    repeat (first | (apply G.ex (hd := rfl); case h => (first | exact Ex.move rfl | exact Ex.lss rfl rfl | exact Ex.lenSl rfl | exact Ex.assign rfl | exact Ex.pickF rfl (by first | assumption | omega) rfl)) | refine G.g_tf rfl rfl (by first | assumption | omega) rfl ?_ | refine G.nil ?_ | refine GC.seq ?_ | refine GC.region ?_ | refine GC.ret ?_ | refine GC.exit ?_ | refine GE.then_normal ?_ | refine GE.then_exit ?_ | refine GE.block_hit ?_ | refine GC.cond_f rfl ?_)
    subst hAl
    refine GE.ret (by first | exact .inl rfl | exact .inr rfl) (res1 Tryd.results7 rfl) ⟨A, oa, oc, hA, hO, rfl, rfl⟩ (by repeat first | exact tn_ | apply td_ rfl | apply tc_ | exact .here | apply Take1.there) (by repeat (first | exact Subs.refl | refine Subs.skip ?_))
/-- a small talk with who serves, as a row -/
def rq3 (y : Option Addr) : List Ms := [⟨openR xP 7, none, 0, 0⟩, ⟨writeR 0 0 [5], y, 1, 1⟩, ⟨setM (readR 0 0 9) 4, none, 0, 0⟩]
theorem rq3_ok (y : Option Addr) : ∀ x ∈ rq3 y, MsOk x := fun x hx => by
  simp only [rq3, List.mem_cons, List.not_mem_nil, or_false] at hx
  rcases hx with rfl | rfl | rfl <;> refine ⟨⟨?_, ?_, ?_, ?_, ?_⟩, rfl, ?_⟩ <;> first | exact Nat.zero_le _ | exact Int.le_refl _ | decide | exact (by decide : 1 ≤ 1000000) | exact (by decide : (0 : Int) ≤ 31) | exact (by decide : (7 : Int) ≤ 31) | exact (by decide : (0 : Int) ≤ 7) | exact (by decide : (0 : Int) ≤ 9223372036854775807)
set_option maxHeartbeats 8000000 in
theorem served_sp (r : Res) (ao : Option Addr) (n c : Nat) (A : List Ms) (hl : A.length = n) (hn : n ≤ 300) [hR : RdR r ao n c 9 (flat eRq A)] (hA : ∀ x ∈ A, MsOk x) :
    Spec Tryd.prog 8 [.slice ao n c] [r, .per (Rd eB 1 (A.map dM)), PlainR] fun v give => ∃ (S : List RpM) (o : Option Addr) (oc : Nat), S.map (·.x) = sruns svNew (A.map (·.r)) ∧ v = .tuple #[.slice o n oc, .bool true] ∧ give = [.vec 35 7 o n oc (flat eRpM S), .per (Rd eB 1 (S.map dR)), .per (Rd eO 1 (S.map nR)), r, .per (Rd eB 1 (A.map dM))] := by
  refine Spec.intro Tryd.func8 rfl Tryd.ntmps8 rfl fun w0 rest rs_ hrs_ => ?_
  simp only [List.cons_append, List.nil_append] at hrs_
  subst hrs_
  repeat (first | (apply G.ex (hd := rfl); case h => (first | exact Ex.move rfl | exact Ex.assign rfl)) | refine G.nil ?_ | refine GC.seq ?_ | refine GC.region ?_ | refine GE.then_normal ?_)
  refine G.appNil rfl rfl (by rfl) (by omega) rfl (rfl) (fun a1 c1 => ?_)
  first | refine G.call (caps := []) (splay_sp (.vec 30 9 a1 n c1 (flat eRq A)) a1 n c1 A hl hn hA) rfl rfl rfl rfl (by repeat first | exact tn_ | apply td_ rfl | apply tc_ | exact .here | apply Take1.there) ?_ | refine G.callU (caps := []) (splay_sp (.vec 30 9 a1 n c1 (flat eRq A)) a1 n c1 A hl hn hA) rfl rfl rfl (by repeat first | exact tn_ | apply td_ rfl | apply tc_ | exact .here | apply Take1.there) ?_
  rintro v_ give_ ⟨S, o, oc, hS, rfl, rfl⟩ rs_ hrs_
  simp only [List.cons_append, List.nil_append] at hrs_
  subst hrs_
  repeat (first | (apply G.ex (hd := rfl); case h => (first | exact Ex.move rfl | exact Ex.extract rfl rfl | exact Ex.assign rfl | exact Ex.build rfl rfl)) | refine G.nil ?_ | refine GC.seq ?_ | refine GC.region ?_ | refine GE.then_normal ?_)
  refine G.lit (cells := flat eB [5]) rfl (by rfl) (by rfl) (by rfl) (by rfl) (by rfl) (by rfl) rfl (fun y => ?_)
  repeat (first | (apply G.ex (hd := rfl); case h => (first | exact Ex.build rfl rfl)))
  refine G.lit (cells := flat eRq (rq3 y)) rfl (by rfl) (by rfl) (by rfl) (by rfl) (by rfl) (by rfl) rfl (fun z => ?_)
  have htwo : ∀ q ∈ (rq3 y).map dM, q = (⟨y, 1, 1, [5]⟩ : SlD UInt8) ∨ q = ⟨none, 0, 0, []⟩ := fun q hq => by
    simp only [rq3, List.map_cons, List.map_nil, List.mem_cons, List.not_mem_nil, or_false] at hq
    rcases hq with rfl | rfl | rfl
    · exact .inr rfl
    · exact .inl rfl
    · exact .inr rfl
  refine G.frz y ?_
  refine G.nilsl 1 ?_
  refine G.conv (fun w_ H_ => Holds.rdTwo ((rq3 y).map dM) ⟨y, 1, 1, [5]⟩ ⟨none, 0, 0, []⟩ htwo (H_.take (need := [.sl y 1 1 1 (flat eB [5]), .sl none 0 0 1 (flat eB [])]) (by repeat first | exact tn_ | apply td_ rfl | apply tc_ | exact .here | apply Take1.there))) ?_
  try simp only [List.append_eq, List.nil_append, List.cons_append]
  first | refine G.call (caps := []) (splay_sp (.vec 30 9 z 3 3 (flat eRq (rq3 y))) z 3 3 (rq3 y) rfl (by decide) (rq3_ok y)) rfl rfl rfl rfl (by repeat first | exact tn_ | apply td_ rfl | apply tc_ | exact .here | apply Take1.there) ?_ | refine G.callU (caps := []) (splay_sp (.vec 30 9 z 3 3 (flat eRq (rq3 y))) z 3 3 (rq3 y) rfl (by decide) (rq3_ok y)) rfl rfl rfl (by repeat first | exact tn_ | apply td_ rfl | apply tc_ | exact .here | apply Take1.there) ?_
  rintro v_ give_ ⟨S3, o3, oc3, hS3, rfl, rfl⟩ rs_ hrs_
  simp only [List.cons_append, List.nil_append] at hrs_
  subst hrs_
  have hl3 : S3.length = 3 := by have := congrArg List.length hS3; rwa [List.length_map, sruns_len, List.length_map] at this
  have hg : (S3.getD 2 default).x = ⟨4, 0, 0, 0, 0, [5], []⟩ := by
    have e : (S3.map (·.x)).getD 2 default = (S3.getD 2 default).x := getD_map _ _ _ (by omega)
    rw [← e, hS3]; exact one_law
  refine G.conv (fun w_ H_ => H_.rdAt (l := S3.map dR) (enc := eB) (s := 1) (by simp) 2 (by rw [List.length_map]; omega)) ?_
  have hdk : (S3.map dR).getD 2 default = dR (S3.getD 2 default) := getD_map _ _ _ (by omega)
  rw [hdk]
  have hmark : (S3.getD 2 default).x.mark = 4 := by rw [hg]
  have hd : (S3.getD 2 default).x.d = [5] := by rw [hg]
  have hdl : (S3.getD 2 default).x.d.length = 1 := by rw [hd]; rfl
  have hSl : S.length = n := by have := congrArg List.length hS; rw [List.length_map, sruns_len, List.length_map] at this; omega
  repeat (first | (apply G.ex (hd := rfl); case h => (first | exact Ex.move rfl | exact Ex.fieldE rfl | exact Ex.eqI rfl rfl | exact Ex.lenSl rfl | exact Ex.indexN rfl rfl (by first | omega | (simp; done) | (simp; omega)) | exact Ex.loadT0 rfl (by first | omega | (simp; done) | (simp; omega)) rfl | exact Ex.loadT rfl (by first | omega | (simp; done) | (simp; omega)) rfl | exact Ex.extract rfl rfl | exact Ex.assign rfl | exact Ex.pickT rfl (by first | assumption | omega) rfl)) | refine G.g_tt rfl rfl (by first | assumption | omega) ?_ | refine G.nil ?_ | refine GC.seq ?_ | refine GC.region ?_ | refine GE.then_normal ?_)
  refine G.lit (cells := flat eB [5]) rfl (by rfl) (by rfl) (by rfl) (by rfl) (by rfl) (by rfl) rfl (fun w => ?_)
  repeat (first | refine G.g_tt rfl rfl (by first | assumption | omega) ?_)
  first | refine G.call (caps := []) (sameBytes_sp (.sl (S3.getD 2 default).da (S3.getD 2 default).x.d.length (S3.getD 2 default).dc 1 (flat eB (S3.getD 2 default).x.d)) (.vec 5 1 w 1 1 (flat eB [5])) (S3.getD 2 default).da w (S3.getD 2 default).x.d.length (S3.getD 2 default).dc 1 1 (S3.getD 2 default).x.d [5] rfl rfl (by omega) (by decide)) rfl rfl rfl rfl (by repeat first | exact tn_ | apply td_ rfl | apply tc_ | exact .here | apply Take1.there) ?_ | refine G.callU (caps := []) (sameBytes_sp (.sl (S3.getD 2 default).da (S3.getD 2 default).x.d.length (S3.getD 2 default).dc 1 (flat eB (S3.getD 2 default).x.d)) (.vec 5 1 w 1 1 (flat eB [5])) (S3.getD 2 default).da w (S3.getD 2 default).x.d.length (S3.getD 2 default).dc 1 1 (S3.getD 2 default).x.d [5] rfl rfl (by omega) (by decide)) rfl rfl rfl (by repeat first | exact tn_ | apply td_ rfl | apply tc_ | exact .here | apply Take1.there) ?_
  rintro v_ give_ ⟨rfl, rfl⟩ rs_ hrs_
  simp only [List.cons_append, List.nil_append] at hrs_
  subst hrs_
  rw [decide_eq_true hd]
  repeat (first | (apply G.ex (hd := rfl); case h => (first | exact Ex.assign rfl | exact Ex.pickT rfl (by first | assumption | omega) rfl)) | refine G.nil ?_ | refine GC.ret ?_ | refine GE.then_normal ?_)
  refine GE.ret (by first | exact .inl rfl | exact .inr rfl) (res2 Tryd.results8 rfl rfl) ⟨S, o, oc, hS, rfl, rfl⟩ (by repeat first | exact tn_ | apply td_ rfl | apply tc_ | exact .here | apply Take1.there) (by repeat (first | exact Subs.refl | refine Subs.skip ?_))
set_option maxHeartbeats 8000000 in
theorem sameReply_sp (x : Rp) (da db na nb : Option Addr) (dc dd nc nd : Nat) (hd : x.d.length ≤ 1000000) (hn : x.names.length ≤ 1000) :
    Spec Tryd.prog 10 [.agg (eRp x da dc na nc).toArray, .agg (eRp x db dd nb nd).toArray] [.sl da x.d.length dc 1 (flat eB x.d), .sl na x.names.length nc 1 (flat eO x.names), .sl db x.d.length dd 1 (flat eB x.d), .sl nb x.names.length nd 1 (flat eO x.names)] fun v give => v = .bool true ∧ give = [] := by
  refine Spec.intro Tryd.func10 rfl Tryd.ntmps10 rfl fun w0 rest rs_ hrs_ => ?_
  simp only [List.cons_append, List.nil_append] at hrs_
  subst hrs_
  repeat (first | refine GC.seq ?_ | refine GC.region ?_)
  refine G.box (cs := eRp x da dc na nc) rfl rfl rfl fun b1 => ?_
  repeat (first | fail)
  refine G.box (cs := eRp x db dd nb nd) rfl rfl rfl fun b2 => ?_
  repeat (first | (apply G.ex (hd := rfl); case h => (first | exact Ex.move rfl | exact Ex.fieldB rfl | exact Ex.loadB rfl rfl | exact Ex.eqI rfl rfl | exact Ex.assign rfl | exact Ex.pickT rfl (by first | assumption | omega) rfl)) | refine G.g_tt rfl rfl (by first | assumption | omega) ?_ | refine G.nil ?_ | refine GC.seq ?_ | refine GC.region ?_ | refine GE.then_normal ?_)
  first | refine G.call (caps := []) (sameBytes_sp (.sl da x.d.length dc 1 (flat eB x.d)) (.sl db x.d.length dd 1 (flat eB x.d)) da db x.d.length dc x.d.length dd x.d x.d rfl rfl (by omega) (by omega)) rfl rfl rfl rfl (by repeat first | exact tn_ | apply td_ rfl | apply tc_ | exact .here | apply Take1.there) ?_ | refine G.callU (caps := []) (sameBytes_sp (.sl da x.d.length dc 1 (flat eB x.d)) (.sl db x.d.length dd 1 (flat eB x.d)) da db x.d.length dc x.d.length dd x.d x.d rfl rfl (by omega) (by omega)) rfl rfl rfl (by repeat first | exact tn_ | apply td_ rfl | apply tc_ | exact .here | apply Take1.there) ?_
  rintro v_ give_ ⟨rfl, rfl⟩ rs_ hrs_
  simp only [List.cons_append, List.nil_append] at hrs_
  subst hrs_
  rw [decide_eq_true (rfl : x.d = x.d)]
  repeat (first | (apply G.ex (hd := rfl); case h => (first | exact Ex.move rfl | exact Ex.fieldB rfl | exact Ex.loadB rfl rfl | exact Ex.pickT rfl (by first | assumption | omega) rfl)) | refine G.yes rfl rfl ?_)
  first | refine G.call (caps := []) (sameTexts_sp (.sl na x.names.length nc 1 (flat eO x.names)) (.sl nb x.names.length nd 1 (flat eO x.names)) na nb x.names.length nc nd x.names rfl hn) rfl rfl rfl rfl (by repeat first | exact tn_ | apply td_ rfl | apply tc_ | exact .here | apply Take1.there) ?_ | refine G.callU (caps := []) (sameTexts_sp (.sl na x.names.length nc 1 (flat eO x.names)) (.sl nb x.names.length nd 1 (flat eO x.names)) na nb x.names.length nc nd x.names rfl hn) rfl rfl rfl (by repeat first | exact tn_ | apply td_ rfl | apply tc_ | exact .here | apply Take1.there) ?_
  rintro v_ give_ ⟨rfl, rfl⟩ rs_ hrs_
  simp only [List.cons_append, List.nil_append] at hrs_
  subst hrs_
  repeat (first | (apply G.ex (hd := rfl); case h => (first | exact Ex.assign rfl | exact Ex.pickLT rfl rfl)) | refine G.nil ?_ | refine GC.ret ?_ | refine GE.then_normal ?_)
  refine GE.ret (by first | exact .inl rfl | exact .inr rfl) (res1 Tryd.results10 rfl) ⟨rfl, rfl⟩ (by repeat first | exact tn_ | apply td_ rfl | apply tc_ | exact .here | apply Take1.there) (by repeat (first | exact Subs.refl | refine Subs.skip ?_))
end serve
end Go.Proofs.YtmceappjldcbmaaDoor
