/-
  CONTRACT of packthreadkeep.ServeBytes, by the kit.
-/
import Derived.Test.YtmceappjldcbmaaDoorServeE
import Derived.Test.YtmceappjldcbmaaDoorServeV
import Derived.Test.YtmceappjldcbmaaDoorServeM
namespace Go.Proofs.YtmceappjldcbmaaDoor
open Go.RowKit
attribute [local irreducible] Ex G GC GE Gq FPost LPost
set_option linter.unusedVariables false
set_option linter.unusedSimpArgs false
namespace serve
open tree path msg
set_option maxHeartbeats 16000000 in
theorem serveBytes_sp (a0 : Option Addr) (len0 cap0 : Nat) (z0 : List JbM) (hl0 : z0.length = len0) (hb0 : len0 ≤ 9223372036854775807) (hw0 : ∀ m ∈ z0, JOk m) (a1 : Option Addr) (len1 cap1 : Nat) (z1 : List UInt8) (hl1 : z1.length = len1) (hb1 : len1 ≤ 9223372036854775807) (a2 : Int) (ha2 : -9223372036854775808 ≤ a2 ∧ a2 ≤ 9223372036854775807) :
    Spec Tryd.prog 5 [.slice a0 len0 cap0, .slice a1 len1 cap1, .int .i64 a2] [.sl a0 len0 cap0 4 (flat eJb z0), .per (Rd eB 1 (z0.map (·.d))), .sl a1 len1 cap1 1 (flat eB z1), PlainR] fun v give => v = .bool true ∧ give = [] := by
  have hk0 := Int.emod_nonneg a2 (show (200 : Int) ≠ 0 by decide)
  have hk1 := Int.emod_lt_of_pos a2 (show (0 : Int) < 200 by decide)
  obtain ⟨K, hK⟩ : ∃ K : Nat, a2 % 200 = (K : Int) := ⟨(a2 % 200).toNat, by omega⟩
  obtain ⟨D, hD⟩ : ∃ D, D = z1.take 99 ++ [3] := ⟨_, rfl⟩
  have hDl : min len1 99 + 1 = D.length := by rw [hD, List.length_append, List.length_take]; simp only [List.length_singleton]; omega
  have hD100 : D.length ≤ 100 := by omega
  have hcat : flat eB (z1.take 99) ++ flat eB [3] = flat eB D := by rw [hD]; exact (flat_append ..).symm
  refine Spec.intro Tryd.func5 rfl Tryd.ntmps5 rfl fun w0 rest rs_ hrs_ => ?_
  simp only [List.cons_append, List.nil_append] at hrs_
  subst hrs_
  repeat (first | (apply G.ex (hd := rfl); case h => (first | exact Ex.move rfl | exact Ex.assign rfl)) | refine G.nil ?_ | refine GC.seq ?_ | refine GC.region ?_ | refine GE.then_normal ?_)
  first | refine G.call (caps := []) (requests_sp a0 len0 cap0 z0 hl0 hb0 hw0 60 (by decide)) rfl rfl rfl rfl (by repeat first | exact tn_ | apply td_ rfl | apply tc_ | exact .here | apply Take1.there) ?_ | refine G.callU (caps := []) (requests_sp a0 len0 cap0 z0 hl0 hb0 hw0 60 (by decide)) rfl rfl rfl (by repeat first | exact tn_ | apply td_ rfl | apply tc_ | exact .here | apply Take1.there) ?_
  rintro v_ give_ ⟨A, oa, oc, hA, hO, rfl, rfl⟩ rs_ hrs_
  simp only [List.cons_append, List.nil_append] at hrs_
  subst hrs_
  have hAl : A.length ≤ 60 := by have := congrArg List.length hA; rw [List.length_map, rqsF_len, List.length_take] at this; omega
  have hRok : ∀ r ∈ A.map (·.r), RqOk r := fun r hr => by obtain ⟨x, hx, rfl⟩ := List.mem_map.1 hr; exact (hO x hx).1
  have hRab : ∀ r ∈ A.map (·.r), RqA r := fun r hr => by rw [hA] at hr; obtain ⟨j, i, rfl⟩ := rqsF_mem hr; exact rqF_abcd j i
  repeat (first | (apply G.ex (hd := rfl); case h => (first | exact Ex.move rfl | exact Ex.assign rfl)) | refine G.nil ?_ | refine GC.seq ?_ | refine GC.region ?_ | refine GE.then_normal ?_)
  first | refine G.call (caps := []) (octets_sp a1 len1 cap1 z1 hl1 hb1 99 (by decide)) rfl rfl rfl rfl (by repeat first | exact tn_ | apply td_ rfl | apply tc_ | exact .here | apply Take1.there) ?_ | refine G.callU (caps := []) (octets_sp a1 len1 cap1 z1 hl1 hb1 99 (by decide)) rfl rfl rfl (by repeat first | exact tn_ | apply td_ rfl | apply tc_ | exact .here | apply Take1.there) ?_
  rintro v_ give_ ⟨ea, ec, rfl, rfl⟩ rs_ hrs_
  simp only [List.cons_append, List.nil_append] at hrs_
  subst hrs_
  refine G.lit (cells := flat eB [3]) rfl (by rfl) (by rfl) (by rfl) (by rfl) (by rfl) (by rfl) rfl (fun y => ?_)
  refine G.app rfl rfl (by rfl) (by omega) rfl (hcat) (fun da dc rs_ hrs_ => ?_)
  try simp only at hrs_
  subst hrs_
  rw [hDl]
  refine G.frz da ?_
  repeat (first | (apply G.ex (hd := rfl); case h => (first | exact Ex.move rfl | exact Ex.assign rfl)) | refine G.nil ?_ | refine GC.seq ?_ | refine GC.region ?_ | refine GE.then_normal ?_)
  first | refine G.call (caps := []) (picked_sp a2 200 (by decide) (by decide)) rfl rfl rfl rfl (by repeat first | exact tn_ | apply td_ rfl | apply tc_ | exact .here | apply Take1.there) ?_ | refine G.callU (caps := []) (picked_sp a2 200 (by decide) (by decide)) rfl rfl rfl (by repeat first | exact tn_ | apply td_ rfl | apply tc_ | exact .here | apply Take1.there) ?_
  rintro v_ give_ ⟨rfl, rfl⟩ rs_ hrs_
  simp only [List.cons_append, List.nil_append] at hrs_
  subst hrs_
  rw [hK]
  repeat (first | (apply G.ex (hd := rfl); case h => (first | exact Ex.move rfl | exact Ex.lenSl rfl | exact Ex.assign rfl)) | refine G.nil ?_ | refine GC.seq ?_ | refine GC.region ?_ | refine GC.block ?_ | refine GE.then_normal ?_)
  refine GC.loop (ι := Nat × List Ms × Option Addr × Nat) (fun x => x.1 ≤ 12 ∧ x.2.1 = A ++ (shuts x.1).map msN) (fun x => 12 - x.1) (fun x => [(7, .slice x.2.2.1 x.2.1.length x.2.2.2), (8, .slice da D.length dc), (9, .int .i64 (K : Int)), (11, .int .i64 (x.1 : Int)), (10, .int .i64 (A.length : Int))]) (fun x => [.vec 30 9 x.2.2.1 x.2.1.length x.2.2.2 (flat eRq x.2.1), .per (Rd eB 1 (A.map dM)), .sl da D.length dc 1 (flat eB D), PlainR]) (0, A, oa, oc) ⟨Nat.zero_le _, (List.append_nil A).symm⟩ (by simp only [fits]; repeat (first | exact trivial | refine And.intro rfl ?_)) (by repeat first | exact tn_ | apply td_ rfl | apply tc_ | exact .here | apply Take1.there) ?_
  rintro ⟨i, B, pa, pc⟩ ⟨hi, hB⟩ fr_ rs_ hfr_ hrs_
  simp only [List.cons_append, List.nil_append] at hfr_ hrs_
  subst hfr_ hrs_
  simp only at hi hB
  by_cases c12 : i < 12
  · have hB2 : B ++ [msN (shutR (i : Int))] = A ++ (shuts (i + 1)).map msN := by
      rw [hB]; unfold shuts; rw [List.range_succ, List.map_append, List.map_append, List.append_assoc]; rfl
    have hcat2 : flat eRq B ++ flat eRq [msN (shutR (i : Int))] = flat eRq (B ++ [msN (shutR (i : Int))]) := (flat_append ..).symm
    have hlen2 : B.length + 1 = (B ++ [msN (shutR (i : Int))]).length := by rw [List.length_append]; rfl
    have hlenb : B.length ≤ 1000 := by
      rw [hB]; unfold shuts; simp only [List.length_append, List.length_map, List.length_range]; omega
    have c12' : (i : Int) < 12 := by omega
    repeat (first | (apply G.ex (hd := rfl); case h => (first | exact Ex.move rfl | exact Ex.lss rfl rfl | exact Ex.build rfl rfl)) | refine G.nil ?_ | refine GC.seq ?_ | refine GC.region ?_ | refine GC.block ?_ | refine GC.skip ?_ | refine GE.then_normal ?_ | refine GC.cond_yes rfl (by first | assumption | omega) ?_)
    refine G.lit (cells := flat eRq [msN (shutR (i : Int))]) rfl (by rfl) (by rfl) (by rfl) (by rfl) (by rfl) (by rfl) rfl (fun q => ?_)
    refine G.app rfl rfl (by rfl) (by omega) rfl (hcat2) (fun pa2 pc2 rs_ hrs_ => ?_)
    try simp only at hrs_
    subst hrs_
    rw [hlen2]
    repeat (first | (apply G.ex (hd := rfl); case h => (first | exact Ex.move rfl | exact Ex.add rfl rfl (by omega) | exact Ex.assign rfl)) | refine G.nil ?_ | refine GC.region ?_ | refine GE.then_normal ?_ | refine GE.block_normal ?_)
    rw [show (i : Int) + 1 = ((i + 1 : Nat) : Int) by omega]
    refine GE.loop (i + 1, B ++ [msN (shutR (i : Int))], pa2, pc2) ⟨by simp only; omega, hB2⟩ (by simp only; omega) (by simp only [fits]; repeat (first | exact trivial | refine And.intro rfl ?_)) (by repeat first | exact tn_ | apply td_ rfl | apply tc_ | exact .here | apply Take1.there) (by repeat (first | exact Subs.refl | refine Subs.skip ?_))
  · obtain rfl : i = 12 := by omega
    subst hB
    have hBok : ∀ x ∈ A ++ (shuts 12).map msN, MsOk x := fun x hx => by
      rcases List.mem_append.1 hx with h | h
      · exact hO x h
      · obtain ⟨r, hr, rfl⟩ := List.mem_map.1 h
        obtain ⟨j, hj, rfl⟩ := List.mem_map.1 hr
        exact ⟨shutR_ok _, rfl, by have := List.mem_range.1 hj; show (j : Int) ≤ _; omega⟩
    have hBab : ∀ r ∈ (A ++ (shuts 12).map msN).map (·.r), RqA r := fun r hr => by
      rw [List.map_append] at hr
      rcases List.mem_append.1 hr with h | h
      · exact hRab r h
      · obtain ⟨x, hx, e⟩ := List.mem_map.1 h
        obtain ⟨q, hq, e2⟩ := List.mem_map.1 hx
        rw [← e, ← e2]
        exact (shuts_ok 12).2 q hq
    have hAB : A.length ≤ (A ++ (shuts 12).map msN).length := by rw [List.length_append]; exact Nat.le_add_right _ _
    have hBl : (A ++ (shuts 12).map msN).length ≤ 72 := by rw [List.length_append, List.length_map]; unfold shuts; rw [List.length_map, List.length_range]; omega
    refine GC.nilsl 1 ?_
    refine GC.conv (fun w_ H_ => Holds.rdMore (A := A) ((shuts 12).map msN) (d := none) (n := 0) (c := 0) (b := []) (fun x hx => by obtain ⟨r, hr, rfl⟩ := List.mem_map.1 hx; obtain ⟨j, _, rfl⟩ := List.mem_map.1 hr; exact .inl rfl) (H_.take (need := [.sl none 0 0 1 (flat eB []), .per (Rd eB 1 (A.map dM))]) (by repeat first | exact tn_ | apply td_ rfl | apply tc_ | exact .here | apply Take1.there))) ?_
    simp only [List.append_eq, List.nil_append, List.cons_append]
    generalize hB : A ++ (shuts 12).map msN = B at *
    clear hB
    have hall := bytes_all (B.map (·.r)) (fun r hr => by obtain ⟨x, hx, rfl⟩ := List.mem_map.1 hr; exact (hBok x hx).1) hBab K (by omega) D hD100
    simp only at hall
    rw [List.length_map] at hall
    obtain ⟨hall0, -⟩ : ∃ f : Unit → _, f = fun _ : Unit => hall := ⟨_, rfl⟩
    clear hall
    have hcat3 : flat eRq B ++ flat eRq [msN (openR zzP 6), msN (openR zzP 1)] = flat eRq (B ++ [msN (openR zzP 6), msN (openR zzP 1)]) := (flat_append ..).symm
    repeat (first | (apply G.ex (hd := rfl); case h => (first | exact Ex.move rfl | exact Ex.lss rfl rfl | exact Ex.build rfl rfl)) | refine G.nil ?_ | refine GC.seq ?_ | refine GC.region ?_ | refine GC.exit ?_ | refine GE.then_normal ?_ | refine GE.then_exit ?_ | refine GE.block_hit ?_ | refine GC.cond_no rfl (by first | assumption | omega) ?_)
    refine G.lit (cells := flat eRq [msN (openR zzP 6), msN (openR zzP 1)]) rfl (by rfl) (by rfl) (by rfl) (by rfl) (by rfl) (by rfl) rfl (fun q => ?_)
    refine G.app rfl rfl (by rfl) (by omega) rfl (hcat3) (fun ba bc rs_ hrs_ => ?_)
    try simp only at hrs_
    subst hrs_
    refine G.nilsl 1 ?_
    have hM2 : ∀ x ∈ [msN (openR zzP 6), msN (openR zzP 1)], dM x = ⟨none, 0, 0, []⟩ ∨ dM x = ⟨none, 0, 0, []⟩ := fun x hx => by simp only [List.mem_cons, List.not_mem_nil, or_false] at hx; rcases hx with rfl | rfl <;> exact .inl rfl
    refine G.conv (fun w_ H_ => Holds.rdMore (A := B) [msN (openR zzP 6), msN (openR zzP 1)] hM2 (H_.take (need := [.sl none 0 0 1 (flat eB []), .per (Rd eB 1 (B.map dM))]) (by repeat first | exact tn_ | apply td_ rfl | apply tc_ | exact .here | apply Take1.there))) ?_
    try simp only [List.append_eq, List.nil_append, List.cons_append]
    have hCok : ∀ x ∈ B ++ [msN (openR zzP 6), msN (openR zzP 1)], MsOk x := fun x hx => by
      rcases List.mem_append.1 hx with h | h
      · exact hBok x h
      · simp only [List.mem_cons, List.not_mem_nil, or_false] at h
        rcases h with rfl | rfl
        · exact ⟨openR_ok (by decide) (by decide) (by decide), rfl, (by decide : (0 : Int) ≤ 9223372036854775807)⟩
        · exact ⟨openR_ok (by decide) (by decide) (by decide), rfl, (by decide : (0 : Int) ≤ 9223372036854775807)⟩
    have hCl : (B ++ [msN (openR zzP 6), msN (openR zzP 1)]).length = B.length + 2 := by rw [List.length_append]; rfl
    repeat (first | (apply G.ex (hd := rfl); case h => (first | exact Ex.move rfl | exact Ex.assign rfl)) | refine G.nil ?_ | refine GC.seq ?_ | refine GC.region ?_ | refine GE.then_normal ?_)
    first | refine G.call (caps := []) (served_sp (.vec 30 9 ba (B.length + 2) bc (flat eRq (B ++ [msN (openR zzP 6), msN (openR zzP 1)]))) ba (B.length + 2) bc (B ++ [msN (openR zzP 6), msN (openR zzP 1)]) hCl (by omega) hCok) rfl rfl rfl rfl (by repeat first | exact tn_ | apply td_ rfl | apply tc_ | exact .here | apply Take1.there) ?_ | refine G.callU (caps := []) (served_sp (.vec 30 9 ba (B.length + 2) bc (flat eRq (B ++ [msN (openR zzP 6), msN (openR zzP 1)]))) ba (B.length + 2) bc (B ++ [msN (openR zzP 6), msN (openR zzP 1)]) hCl (by omega) hCok) rfl rfl rfl (by repeat first | exact tn_ | apply td_ rfl | apply tc_ | exact .here | apply Take1.there) ?_
    rintro v_ give_ ⟨S, so, sc, hS, rfl, rfl⟩ rs_ hrs_
    simp only [List.cons_append, List.nil_append] at hrs_
    subst hrs_
    have hSl : S.length = B.length + 2 := by have := congrArg List.length hS; rw [List.length_map, sruns_len, List.length_map, hCl] at this; exact this
    have hSr : (B ++ [msN (openR zzP 6), msN (openR zzP 1)]).map (·.r) = B.map (·.r) ++ [openR zzP 6, openR zzP 1] := by rw [List.map_append]; rfl
    rw [hSr] at hS
    have x0 := rd_at hS (i := B.length) (by omega)
    have x1 := rd_at hS (i := B.length + 1) (by omega)
    have i0 : (((B.length + 2 : Nat) : Int) - 2).toNat = B.length := by omega
    have i1 : (((B.length + 2 : Nat) : Int) - 1).toNat = B.length + 1 := by omega
    repeat (first | (apply G.ex (hd := rfl); case h => (first | exact Ex.move rfl | exact Ex.sub rfl rfl (by omega) | exact Ex.lenSl rfl | exact Ex.extract rfl rfl | exact Ex.assign rfl | exact Ex.notB rfl | exact Ex.loadTA rfl (by first | omega | (simp; done) | (simp; omega)) | exact Ex.indexI rfl rfl (by omega))) | refine G.nil ?_ | refine GC.seq ?_ | refine GC.region ?_ | refine GC.skip ?_ | refine GE.then_normal ?_ | refine GC.cond_f rfl ?_)
    rw [i0]
    refine G.alloc rfl (fun wb => ?_)
    repeat (first | refine G.storeBA rfl rfl rfl rfl rfl ?_ | (apply G.ex (hd := rfl); case h => (first | exact Ex.move rfl | exact Ex.sub rfl rfl (by omega) | exact Ex.lenSl rfl | exact Ex.loadTA rfl (by first | omega | (simp; done) | (simp; omega)) | exact Ex.indexI rfl rfl (by omega))) | refine G.nil ?_ | refine GC.seq ?_ | refine GC.region ?_ | refine GE.then_normal ?_)
    rw [i1]
    refine G.alloc rfl (fun gb => ?_)
    obtain ⟨W, hW⟩ : ∃ W, S.getD B.length default = W := ⟨_, rfl⟩
    obtain ⟨R, hRR⟩ : ∃ R, S.getD (B.length + 1) default = R := ⟨_, rfl⟩
    rw [hW, hRR]
    rw [hW] at x0
    rw [hRR] at x1
    have hall := hall0 ()
    rw [← x0, ← x1] at hall
    clear hall0
    rcases hall with hall | hall | ⟨w0_, g0_, hb⟩
    · have nw : ¬ W.x.code = 0 := by omega
      repeat (first | refine G.storeBA rfl rfl rfl rfl rfl ?_ | (apply G.ex (hd := rfl); case h => (first | exact Ex.move rfl | exact Ex.fieldB rfl | exact Ex.loadB rfl rfl | exact Ex.eqI rfl rfl | exact Ex.neI rfl rfl | exact Ex.assign rfl | exact Ex.pickT rfl (by first | assumption | omega) rfl)) | refine G.g_ft rfl rfl (by first | assumption | omega) rfl ?_ | refine G.nil ?_ | refine GC.seq ?_ | refine GC.region ?_ | refine GC.ret ?_ | refine GE.then_normal ?_ | refine GE.then_ret ?_ | refine GC.cond_t rfl ?_)
      refine GE.ret (by first | exact .inl rfl | exact .inr rfl) (res1 Tryd.results5 rfl) ⟨rfl, rfl⟩ (by repeat first | exact tn_ | apply td_ rfl | apply tc_ | exact .here | apply Take1.there) (by repeat (first | exact Subs.refl | refine Subs.skip ?_))
    · by_cases w0_ : W.x.code = 0
      · have ng : ¬ R.x.code = 0 := by omega
        have nw9 : ¬ W.x.code = 9 := by omega
        repeat (first | refine G.storeBA rfl rfl rfl rfl rfl ?_ | (apply G.ex (hd := rfl); case h => (first | exact Ex.move rfl | exact Ex.fieldB rfl | exact Ex.loadB rfl rfl | exact Ex.eqI rfl rfl | exact Ex.neI rfl rfl | exact Ex.assign rfl | exact Ex.pickF rfl (by first | assumption | omega) rfl)) | refine G.g_ff rfl rfl (by first | assumption | omega) ?_ | refine G.nil ?_ | refine GC.seq ?_ | refine GC.region ?_ | refine GC.ret ?_ | refine GE.then_normal ?_ | refine GE.then_ret ?_ | refine GC.cond_yes rfl (by first | assumption | omega) ?_)
        refine GE.ret (by first | exact .inl rfl | exact .inr rfl) (res1 Tryd.results5 rfl) ⟨by rw [hall]; rfl, rfl⟩ (by repeat first | exact tn_ | apply td_ rfl | apply tc_ | exact .here | apply Take1.there) (by repeat (first | exact Subs.refl | refine Subs.skip ?_))
      · by_cases nw9 : W.x.code = 9
        · repeat (first | refine G.storeBA rfl rfl rfl rfl rfl ?_ | (apply G.ex (hd := rfl); case h => (first | exact Ex.move rfl | exact Ex.fieldB rfl | exact Ex.loadB rfl rfl | exact Ex.eqI rfl rfl | exact Ex.neI rfl rfl | exact Ex.assign rfl | exact Ex.pickT rfl (by first | assumption | omega) rfl)) | refine G.g_ft rfl rfl (by first | assumption | omega) rfl ?_ | refine G.nil ?_ | refine GC.seq ?_ | refine GC.region ?_ | refine GC.ret ?_ | refine GE.then_normal ?_ | refine GE.then_ret ?_ | refine GC.cond_t rfl ?_)
          refine GE.ret (by first | exact .inl rfl | exact .inr rfl) (res1 Tryd.results5 rfl) ⟨rfl, rfl⟩ (by repeat first | exact tn_ | apply td_ rfl | apply tc_ | exact .here | apply Take1.there) (by repeat (first | exact Subs.refl | refine Subs.skip ?_))
        · repeat (first | refine G.storeBA rfl rfl rfl rfl rfl ?_ | (apply G.ex (hd := rfl); case h => (first | exact Ex.move rfl | exact Ex.fieldB rfl | exact Ex.loadB rfl rfl | exact Ex.eqI rfl rfl | exact Ex.neI rfl rfl | exact Ex.assign rfl | exact Ex.pickT rfl (by first | assumption | omega) rfl | exact Ex.pickF rfl (by first | assumption | omega) rfl)) | refine G.g_ft rfl rfl (by first | assumption | omega) rfl ?_ | refine G.g_ff rfl rfl (by first | assumption | omega) ?_ | refine G.nil ?_ | refine GC.seq ?_ | refine GC.region ?_ | refine GC.ret ?_ | refine GE.then_normal ?_ | refine GE.then_ret ?_ | refine GC.cond_t rfl ?_)
          refine GE.ret (by first | exact .inl rfl | exact .inr rfl) (res1 Tryd.results5 rfl) ⟨by rw [hall]; rfl, rfl⟩ (by repeat first | exact tn_ | apply td_ rfl | apply tc_ | exact .here | apply Take1.there) (by repeat (first | exact Subs.refl | refine Subs.skip ?_))
    · have hb0 : ∀ S2 : List RpM, S2.map (·.x) = sruns svNew (B.map (·.r) ++ [openR zzP 6, openR zzP 1] ++ [writeR W.x.handle K D, readR R.x.handle K 100, readR W.x.handle K 1, writeR R.x.handle 0 D]) → S2.length = B.length + 2 + 4 → (S2.getD (B.length + 2) default).x.code = 0 ∧ (S2.getD (B.length + 2) default).x.size = (K : Int) + D.length ∧ (S2.getD (B.length + 3) default).x.d = D ∧ (S2.getD (B.length + 4) default).x.code = 12 ∧ (S2.getD (B.length + 5) default).x.code = 12 := fun S2 h l => by
        obtain ⟨y0, y1, y2, y3, y4⟩ := hb
        have w2 := rd_at h (i := B.length + 2) (by omega)
        have w3 := rd_at h (i := B.length + 3) (by omega)
        have w4 := rd_at h (i := B.length + 4) (by omega)
        have w5 := rd_at h (i := B.length + 5) (by omega)
        rw [← w2] at y0 y1
        rw [← w3] at y2
        rw [← w4] at y3
        rw [← w5] at y4
        exact ⟨y0, y1, y2, y3, y4⟩
      clear hb
      have nw : ¬ ¬ W.x.code = 0 := fun h => h w0_
      have hhb : ∀ i, i < B.length + 2 → (S.getD i default).x.handle ≤ 9223372036854775807 := fun i hi => by
        have := sruns_hb (B.map (·.r) ++ [openR zzP 6, openR zzP 1]) SvOk.new (fun r hr => by
          rw [← hSr] at hr
          obtain ⟨x, hx, rfl⟩ := List.mem_map.1 hr
          exact (hCok x hx).1) ((S.getD i default).x) (by rw [← hS]; exact List.mem_map.2 ⟨_, getD_mem (by omega), rfl⟩)
        rw [← hSr, List.length_map, hCl] at this
        omega
      have hh1 : W.x.handle ≤ 9223372036854775807 := by rw [← hW]; exact hhb _ (by omega)
      have hh2 : R.x.handle ≤ 9223372036854775807 := by rw [← hRR]; exact hhb _ (by omega)
      have ng : ¬ ¬ R.x.code = 0 := fun h => h g0_
      have hlen4 : (B ++ [msN (openR zzP 6), msN (openR zzP 1)] ++ [(⟨writeR W.x.handle K D, da, D.length, dc⟩ : Ms), msN (readR R.x.handle K 100), msN (readR W.x.handle K 1), ⟨writeR R.x.handle 0 D, da, D.length, dc⟩]).length = B.length + 2 + 4 := by rw [List.length_append, hCl]; rfl
      have hcat4 : flat eRq (B ++ [msN (openR zzP 6), msN (openR zzP 1)]) ++ flat eRq [(⟨writeR W.x.handle K D, da, D.length, dc⟩ : Ms), msN (readR R.x.handle K 100), msN (readR W.x.handle K 1), ⟨writeR R.x.handle 0 D, da, D.length, dc⟩] = flat eRq (B ++ [msN (openR zzP 6), msN (openR zzP 1)] ++ [(⟨writeR W.x.handle K D, da, D.length, dc⟩ : Ms), msN (readR R.x.handle K 100), msN (readR W.x.handle K 1), ⟨writeR R.x.handle 0 D, da, D.length, dc⟩]) := (flat_append ..).symm
      have hDok : ∀ x ∈ B ++ [msN (openR zzP 6), msN (openR zzP 1)] ++ [(⟨writeR W.x.handle K D, da, D.length, dc⟩ : Ms), msN (readR R.x.handle K 100), msN (readR W.x.handle K 1), ⟨writeR R.x.handle 0 D, da, D.length, dc⟩], MsOk x := fun x hx => by
        rcases List.mem_append.1 hx with h | h
        · exact hCok x h
        · simp only [List.mem_cons, List.not_mem_nil, or_false] at h
          rcases h with rfl | rfl | rfl | rfl
          · exact ⟨writeR_ok _ _ _ (by omega), rfl, hh1⟩
          · exact ⟨readR_ok _ _ _, rfl, hh2⟩
          · exact ⟨readR_ok _ _ _, rfl, hh1⟩
          · exact ⟨writeR_ok _ _ _ (by omega), rfl, hh2⟩
      have hM4 : ∀ x ∈ [(⟨writeR W.x.handle K D, da, D.length, dc⟩ : Ms), msN (readR R.x.handle K 100), msN (readR W.x.handle K 1), ⟨writeR R.x.handle 0 D, da, D.length, dc⟩], dM x = ⟨none, 0, 0, []⟩ ∨ dM x = ⟨da, D.length, dc, D⟩ := fun x hx => by
        simp only [List.mem_cons, List.not_mem_nil, or_false] at hx
        rcases hx with rfl | rfl | rfl | rfl
        · exact .inr rfl
        · exact .inl rfl
        · exact .inl rfl
        · exact .inr rfl
      repeat (first | refine G.storeBA rfl rfl rfl rfl rfl ?_ | (apply G.ex (hd := rfl); case h => (first | exact Ex.move rfl | exact Ex.fieldB rfl | exact Ex.loadB rfl rfl | exact Ex.neI rfl rfl | exact Ex.pickF rfl (by first | assumption | omega) rfl)) | refine G.g_ff rfl rfl (by first | assumption | omega) ?_ | refine G.nil ?_ | refine GC.seq ?_ | refine GC.region ?_ | refine GC.skip ?_ | refine GE.then_normal ?_ | refine GC.cond_no rfl (by first | assumption | omega) ?_)
      refine G.ex (hd := rfl) (Ex.build (cells := eRq (⟨writeR W.x.handle K D, da, D.length, dc⟩ : Ms)) rfl (by first | rfl | kernel_rfl)) ?_
      repeat (first | (apply G.ex (hd := rfl); case h => (first | exact Ex.move rfl | exact Ex.fieldB rfl | exact Ex.loadB rfl rfl)))
      refine G.ex (hd := rfl) (Ex.build (cells := eRq (msN (readR R.x.handle K 100))) rfl (by first | rfl | kernel_rfl)) ?_
      repeat (first | (apply G.ex (hd := rfl); case h => (first | exact Ex.move rfl | exact Ex.fieldB rfl | exact Ex.loadB rfl rfl)))
      refine G.ex (hd := rfl) (Ex.build (cells := eRq (msN (readR W.x.handle K 1))) rfl (by first | rfl | kernel_rfl)) ?_
      repeat (first | (apply G.ex (hd := rfl); case h => (first | exact Ex.move rfl | exact Ex.fieldB rfl | exact Ex.loadB rfl rfl)))
      refine G.ex (hd := rfl) (Ex.build (cells := eRq (⟨writeR R.x.handle 0 D, da, D.length, dc⟩ : Ms)) rfl (by first | rfl | kernel_rfl)) ?_
      repeat (first | fail)
      refine G.lit (size := 9) (len := 4) (zs := [.int .i64 0, .int .i64 0, .string ByteArray.empty, .string ByteArray.empty, .int .i64 0, .int .i64 0, .int .i64 0, .int .i64 0, .slice none 0 0]) (vals := [(0, .agg (eRq (⟨writeR W.x.handle K D, da, D.length, dc⟩ : Ms)).toArray), (1, .agg (eRq (msN (readR R.x.handle K 100))).toArray), (2, .agg (eRq (msN (readR W.x.handle K 1))).toArray), (3, .agg (eRq (⟨writeR R.x.handle 0 D, da, D.length, dc⟩ : Ms)).toArray)]) (cells := flat eRq [(⟨writeR W.x.handle K D, da, D.length, dc⟩ : Ms), (msN (readR R.x.handle K 100)), (msN (readR W.x.handle K 1)), (⟨writeR R.x.handle 0 D, da, D.length, dc⟩ : Ms)]) rfl (by kernel_rfl) rfl rfl (by kernel_rfl) rfl (by kernel_rfl) rfl (fun q => ?_)
      refine G.app rfl rfl (by rfl) (by omega) rfl (hcat4) (fun ca cc rs_ hrs_ => ?_)
      try simp only at hrs_
      subst hrs_
      refine G.conv (fun w_ H_ => Holds.rdMore (A := B ++ [msN (openR zzP 6), msN (openR zzP 1)]) [(⟨writeR W.x.handle K D, da, D.length, dc⟩ : Ms), msN (readR R.x.handle K 100), msN (readR W.x.handle K 1), ⟨writeR R.x.handle 0 D, da, D.length, dc⟩] hM4 (H_.take (need := [.sl da D.length dc 1 (flat eB D), .per (Rd eB 1 ((B ++ [msN (openR zzP 6), msN (openR zzP 1)]).map dM))]) (by repeat first | exact tn_ | apply td_ rfl | apply tc_ | exact .here | apply Take1.there))) ?_
      try simp only [List.append_eq, List.nil_append, List.cons_append]
      repeat (first | (apply G.ex (hd := rfl); case h => (first | exact Ex.move rfl | exact Ex.assign rfl)) | refine G.nil ?_ | refine GC.seq ?_ | refine GC.region ?_ | refine GE.then_normal ?_)
      first | refine G.call (caps := []) (served_sp (.vec 30 9 ca (B.length + 2 + 4) cc (flat eRq (B ++ [msN (openR zzP 6), msN (openR zzP 1)] ++ [(⟨writeR W.x.handle K D, da, D.length, dc⟩ : Ms), msN (readR R.x.handle K 100), msN (readR W.x.handle K 1), ⟨writeR R.x.handle 0 D, da, D.length, dc⟩]))) ca (B.length + 2 + 4) cc (B ++ [msN (openR zzP 6), msN (openR zzP 1)] ++ [(⟨writeR W.x.handle K D, da, D.length, dc⟩ : Ms), msN (readR R.x.handle K 100), msN (readR W.x.handle K 1), ⟨writeR R.x.handle 0 D, da, D.length, dc⟩]) hlen4 (by omega) hDok) rfl rfl rfl rfl (by repeat first | exact tn_ | apply td_ rfl | apply tc_ | exact .here | apply Take1.there) ?_ | refine G.callU (caps := []) (served_sp (.vec 30 9 ca (B.length + 2 + 4) cc (flat eRq (B ++ [msN (openR zzP 6), msN (openR zzP 1)] ++ [(⟨writeR W.x.handle K D, da, D.length, dc⟩ : Ms), msN (readR R.x.handle K 100), msN (readR W.x.handle K 1), ⟨writeR R.x.handle 0 D, da, D.length, dc⟩]))) ca (B.length + 2 + 4) cc (B ++ [msN (openR zzP 6), msN (openR zzP 1)] ++ [(⟨writeR W.x.handle K D, da, D.length, dc⟩ : Ms), msN (readR R.x.handle K 100), msN (readR W.x.handle K 1), ⟨writeR R.x.handle 0 D, da, D.length, dc⟩]) hlen4 (by omega) hDok) rfl rfl rfl (by repeat first | exact tn_ | apply td_ rfl | apply tc_ | exact .here | apply Take1.there) ?_
      rintro v_ give_ ⟨S2, to_, tc, hS2, rfl, rfl⟩ rs_ hrs_
      simp only [List.cons_append, List.nil_append] at hrs_
      subst hrs_
      have hTr : (B ++ [msN (openR zzP 6), msN (openR zzP 1)] ++ [(⟨writeR W.x.handle K D, da, D.length, dc⟩ : Ms), msN (readR R.x.handle K 100), msN (readR W.x.handle K 1), ⟨writeR R.x.handle 0 D, da, D.length, dc⟩]).map (·.r) = B.map (·.r) ++ [openR zzP 6, openR zzP 1] ++ [writeR W.x.handle K D, readR R.x.handle K 100, readR W.x.handle K 1, writeR R.x.handle 0 D] := by rw [List.map_append, List.map_append]; rfl
      have hS2l : S2.length = B.length + 2 + 4 := by have := congrArg List.length hS2; rw [List.length_map, sruns_len, List.length_map, hlen4] at this; exact this
      rw [hTr] at hS2
      obtain ⟨y0, y1, y2, y3, y4⟩ := hb0 S2 hS2 hS2l
      clear hb0 hS2 hTr
      obtain ⟨Z, hZ⟩ : ∃ Z, S2.drop (B.length + 2) = Z := ⟨_, rfl⟩
      have hZl : Z.length = 4 := by rw [← hZ, List.length_drop]; omega
      have hZg : ∀ j, Z.getD j default = S2.getD (B.length + 2 + j) default := fun j => by rw [← hZ, List.getD_eq_getElem?_getD, List.getElem?_drop, List.getD_eq_getElem?_getD]
      have z0 := hZg 0
      have z1 := hZg 1
      have z2 := hZg 2
      have z3 := hZg 3
      rw [show B.length + 2 + 0 = B.length + 2 by omega] at z0
      rw [show B.length + 2 + 1 = B.length + 3 by omega] at z1
      rw [show B.length + 2 + 2 = B.length + 4 by omega] at z2
      rw [show B.length + 2 + 3 = B.length + 5 by omega] at z3
      rw [← z0] at y0 y1
      rw [← z1] at y2
      rw [← z2] at y3
      rw [← z3] at y4
      have hzs : ((flat eRpM S2).drop ((B.length + 2) * 7)).take ((B.length + 2 + 4 - (B.length + 2)) * 7) = flat eRpM Z := by
        rw [show B.length + 2 + 4 - (B.length + 2) = 4 by omega, flat_drop (inferInstance : Enc eRpM 7), hZ, List.take_of_length_le (by rw [flat_len (inferInstance : Enc eRpM 7), hZl]; exact Nat.le_refl _)]
      have hd1 : (S2.map dR).getD (B.length + 3) default = dR (Z.getD 1 default) := by rw [z1]; exact getD_map _ _ _ (by omega)
      clear z0 z1 z2 z3 hZg hhb
      refine G.conv (fun w_ H_ => H_.rdAt (l := S2.map dR) (enc := eB) (s := 1) (by simp) (B.length + 3) (by rw [List.length_map]; omega)) ?_
      rw [hd1]
      have hnl : ¬ (A.length : Int) > ((B.length + 2 + 4 : Nat) : Int) := by omega
      have hi4 : ((B.length + 2 + 4 : Nat) : Int) - 4 = ((B.length + 2 : Nat) : Int) := by omega
      repeat (first | (apply G.ex (hd := rfl); case h => (first | exact Ex.move rfl | exact Ex.sub rfl rfl (by omega) | exact Ex.gtr rfl rfl | exact Ex.lenSl rfl | exact Ex.extract rfl rfl | exact Ex.assign rfl | exact Ex.notB rfl | exact Ex.pickLF rfl rfl)) | refine G.yes rfl rfl ?_ | refine G.nil ?_ | refine GC.seq ?_ | refine GC.region ?_ | refine GC.skip ?_ | refine GE.then_normal ?_ | refine GC.cond_no rfl (by first | assumption | omega) ?_)
      rw [hi4]
      refine G.subV (l := (B.length + 2)) (r := (B.length + 2 + 4)) rfl (by first | exact .inl ⟨rfl, rfl⟩ | exact .inr ⟨_, _, rfl, ev_int rfl (by omega)⟩) (by first | exact .inl ⟨rfl, rfl⟩ | exact .inr ⟨_, _, rfl, ev_int rfl (by omega)⟩) (by omega) rfl (hzs) (fun fb rs_ hrs_ => ?_)
      try simp only at hrs_
      subst hrs_
      rw [show B.length + 2 + 4 - (B.length + 2) = 4 by omega]
      have y2l : (Z.getD 1 default).x.d.length = D.length := by rw [y2]
      repeat (first | (apply G.ex (hd := rfl); case h => (first | exact Ex.move rfl | exact Ex.fieldE rfl | exact Ex.add rfl rfl (by omega) | exact Ex.eqI rfl rfl | exact Ex.lenSl rfl | exact Ex.indexN rfl rfl (by first | omega | (simp; done) | (simp; omega)) | exact Ex.loadT rfl (by first | omega | (simp; done) | (simp; omega)) rfl | exact Ex.assign rfl | exact Ex.pickT rfl (by first | assumption | omega) rfl)) | refine G.g_tt rfl rfl (by first | assumption | omega) ?_ | refine G.nil ?_ | refine GC.seq ?_ | refine GC.region ?_ | refine GE.then_normal ?_)
      first | refine G.call (caps := []) (sameBytes_sp (.sl (Z.getD 1 default).da (Z.getD 1 default).x.d.length (Z.getD 1 default).dc 1 (flat eB (Z.getD 1 default).x.d)) (.sl da D.length dc 1 (flat eB D)) (Z.getD 1 default).da da (Z.getD 1 default).x.d.length (Z.getD 1 default).dc D.length dc (Z.getD 1 default).x.d D rfl rfl (by omega) (by omega)) rfl rfl rfl rfl (by repeat first | exact tn_ | apply td_ rfl | apply tc_ | exact .here | apply Take1.there) ?_ | refine G.callU (caps := []) (sameBytes_sp (.sl (Z.getD 1 default).da (Z.getD 1 default).x.d.length (Z.getD 1 default).dc 1 (flat eB (Z.getD 1 default).x.d)) (.sl da D.length dc 1 (flat eB D)) (Z.getD 1 default).da da (Z.getD 1 default).x.d.length (Z.getD 1 default).dc D.length dc (Z.getD 1 default).x.d D rfl rfl (by omega) (by omega)) rfl rfl rfl (by repeat first | exact tn_ | apply td_ rfl | apply tc_ | exact .here | apply Take1.there) ?_
      rintro v_ give_ ⟨rfl, rfl⟩ rs_ hrs_
      simp only [List.cons_append, List.nil_append] at hrs_
      subst hrs_
      rw [decide_eq_true y2]
      repeat (first | (apply G.ex (hd := rfl); case h => (first | exact Ex.move rfl | exact Ex.fieldE rfl | exact Ex.eqI rfl rfl | exact Ex.indexN rfl rfl (by first | omega | (simp; done) | (simp; omega)) | exact Ex.loadT rfl (by first | omega | (simp; done) | (simp; omega)) rfl | exact Ex.assign rfl | exact Ex.pickT rfl (by first | assumption | omega) rfl | exact Ex.pickLT rfl rfl)) | refine G.g_tt rfl rfl (by first | assumption | omega) ?_ | refine G.yes rfl rfl ?_ | refine G.nil ?_ | refine GC.ret ?_ | refine GE.then_normal ?_)
      refine GE.ret (by first | exact .inl rfl | exact .inr rfl) (res1 Tryd.results5 rfl) ⟨by rw [decide_eq_true y4], rfl⟩ (by repeat first | exact tn_ | apply td_ rfl | apply tc_ | exact .here | apply Take1.there) (by repeat (first | exact Subs.refl | refine Subs.skip ?_))
end serve
end Go.Proofs.YtmceappjldcbmaaDoor
