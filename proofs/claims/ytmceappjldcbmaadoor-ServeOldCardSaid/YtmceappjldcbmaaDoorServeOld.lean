/-
  CONTRACT of packthreadkeep.ServeOld, by the kit.
-/
import Derived.Test.YtmceappjldcbmaaDoorServeE
import Derived.Test.YtmceappjldcbmaaDoorServeV
import Derived.Test.YtmceappjldcbmaaDoorServeM
namespace Go.Proofs.YtmceappjldcbmaaDoor
open Go.RowKit
attribute [local irreducible] Ex G GC GE Gq FPost LPost
set_option linter.unusedVariables false
set_option linter.unusedSimpArgs false
namespace serve
open tree path msg
set_option maxHeartbeats 16000000 in
theorem serveOld_sp (a0 : Option Addr) (len0 cap0 : Nat) (z0 : List JbM) (hl0 : z0.length = len0) (hb0 : len0 ≤ 9223372036854775807) (hw0 : ∀ m ∈ z0, JOk m) (a1 : Int) (ha1 : -9223372036854775808 ≤ a1 ∧ a1 ≤ 9223372036854775807) :
    Spec Tryd.prog 4 [.slice a0 len0 cap0, .int .i64 a1] [.sl a0 len0 cap0 4 (flat eJb z0), .per (Rd eB 1 (z0.map (·.d))), PlainR] fun v give => v = .bool true ∧ give = [] := by
  have hk0 := Int.emod_nonneg a1 (show (9 : Int) ≠ 0 by decide)
  have hk1 := Int.emod_lt_of_pos a1 (show (0 : Int) < 9 by decide)
  obtain ⟨K, hK⟩ : ∃ K : Nat, a1 % 9 = (K : Int) := ⟨(a1 % 9).toNat, by omega⟩
  refine Spec.intro Tryd.func4 rfl Tryd.ntmps4 rfl fun w0 rest rs_ hrs_ => ?_
  simp only [List.cons_append, List.nil_append] at hrs_
  subst hrs_
  repeat (first | (apply G.ex (hd := rfl); case h => (first | exact Ex.move rfl | exact Ex.assign rfl)) | refine G.nil ?_ | refine GC.seq ?_ | refine GC.region ?_ | refine GE.then_normal ?_)
  first | refine G.call (caps := []) (requests_sp a0 len0 cap0 z0 hl0 hb0 hw0 60 (by decide)) rfl rfl rfl rfl (by repeat first | exact tn_ | apply td_ rfl | apply tc_ | exact .here | apply Take1.there) ?_ | refine G.callU (caps := []) (requests_sp a0 len0 cap0 z0 hl0 hb0 hw0 60 (by decide)) rfl rfl rfl (by repeat first | exact tn_ | apply td_ rfl | apply tc_ | exact .here | apply Take1.there) ?_
  rintro v_ give_ ⟨A, oa, oc, hA, hO, rfl, rfl⟩ rs_ hrs_
  simp only [List.cons_append, List.nil_append] at hrs_
  subst hrs_
  have hAl : A.length ≤ 60 := by have := congrArg List.length hA; rw [List.length_map, rqsF_len, List.length_take] at this; omega
  have hRok : ∀ r ∈ A.map (·.r), RqOk r := fun r hr => by obtain ⟨x, hx, rfl⟩ := List.mem_map.1 hr; exact (hO x hx).1
  have hRab : ∀ r ∈ A.map (·.r), RqA r := fun r hr => by rw [hA] at hr; obtain ⟨j, i, rfl⟩ := rqsF_mem hr; exact rqF_abcd j i
  have hall := old_all (A.map (·.r)) hRok hRab K
  simp only at hall
  rw [List.length_map] at hall
  obtain ⟨hall0, -⟩ : ∃ f : Unit → _, f = fun _ : Unit => hall := ⟨_, rfl⟩
  clear hall hA hRab
  repeat (first | (apply G.ex (hd := rfl); case h => (first | exact Ex.assign rfl)) | refine G.nil ?_ | refine GC.seq ?_ | refine GC.region ?_ | refine GE.then_normal ?_)
  refine G.ex (hd := rfl) (Ex.build (cells := eRq (msN (openR zzP 7))) rfl (by first | rfl | kernel_rfl)) ?_
  repeat (first | fail)
  refine G.alloc rfl (fun ob => ?_)
  repeat (first | refine G.storeBA rfl rfl rfl rfl rfl ?_ | (apply G.ex (hd := rfl); case h => (first | exact Ex.move rfl)) | refine G.nil ?_ | refine GC.seq ?_ | refine GC.region ?_ | refine GE.then_normal ?_)
  refine G.ex (hd := rfl) (Ex.build (cells := eRq (msN (delR zzP))) rfl (by first | rfl | kernel_rfl)) ?_
  repeat (first | (apply G.ex (hd := rfl); case h => (first | exact Ex.loadBA rfl rfl rfl)))
  refine G.lit (size := 9) (len := 2) (zs := [.int .i64 0, .int .i64 0, .string ByteArray.empty, .string ByteArray.empty, .int .i64 0, .int .i64 0, .int .i64 0, .int .i64 0, .slice none 0 0]) (vals := [(0, .agg (eRq (msN (delR zzP))).toArray), (1, .agg (eRq (msN (openR zzP 7))).toArray)]) (cells := flat eRq [msN (delR zzP), msN (openR zzP 7)]) rfl (by kernel_rfl) rfl rfl (by kernel_rfl) rfl (by kernel_rfl) rfl (fun q => ?_)
  have hcat1 : flat eRq A ++ flat eRq [msN (delR zzP), msN (openR zzP 7)] = flat eRq (A ++ [msN (delR zzP), msN (openR zzP 7)]) := (flat_append ..).symm
  have hM1 : ∀ x ∈ [msN (delR zzP), msN (openR zzP 7)], dM x = ⟨none, 0, 0, []⟩ ∨ dM x = ⟨none, 0, 0, []⟩ := fun x hx => by simp only [List.mem_cons, List.not_mem_nil, or_false] at hx; rcases hx with rfl | rfl <;> exact .inl rfl
  have hl1 : A.length + 2 = (A ++ [msN (delR zzP), msN (openR zzP 7)]).length := by rw [List.length_append]; rfl
  have hok1 : ∀ x ∈ A ++ [msN (delR zzP), msN (openR zzP 7)], MsOk x := fun x hx => by
    rcases List.mem_append.1 hx with h | h
    · exact hO x h
    · simp only [List.mem_cons, List.not_mem_nil, or_false] at h
      rcases h with rfl | rfl
      · exact ⟨delR_ok, rfl, (by decide : (0 : Int) ≤ 9223372036854775807)⟩
      · exact ⟨openR_ok (by decide) (by decide) (by decide), rfl, (by decide : (0 : Int) ≤ 9223372036854775807)⟩
  have hr1 : (A ++ [msN (delR zzP), msN (openR zzP 7)]).map (·.r) = A.map (·.r) ++ [delR zzP, openR zzP 7] := by rw [List.map_append]; rfl
  refine G.app rfl rfl (by rfl) (by omega) rfl (hcat1) (fun ba bc rs_ hrs_ => ?_)
  try simp only at hrs_
  subst hrs_
  rw [hl1]
  refine G.nilsl 1 ?_
  refine G.conv (fun w_ H_ => Holds.rdMore (A := A) [msN (delR zzP), msN (openR zzP 7)] hM1 (H_.take (need := [.sl none 0 0 1 (flat eB []), .per (Rd eB 1 (A.map dM))]) (by repeat first | exact tn_ | apply td_ rfl | apply tc_ | exact .here | apply Take1.there))) ?_
  try simp only [List.append_eq, List.nil_append, List.cons_append]
  generalize hC : A ++ [msN (delR zzP), msN (openR zzP 7)] = C at *
  clear hC hcat1 hM1 hO
  repeat (first | (apply G.ex (hd := rfl); case h => (first | exact Ex.move rfl | exact Ex.assign rfl)) | refine G.nil ?_ | refine GC.seq ?_ | refine GC.region ?_ | refine GE.then_normal ?_)
  first | refine G.call (caps := []) (served_sp (.vec 30 9 ba C.length bc (flat eRq C)) ba C.length bc C rfl (by omega) hok1) rfl rfl rfl rfl (by repeat first | exact tn_ | apply td_ rfl | apply tc_ | exact .here | apply Take1.there) ?_ | refine G.callU (caps := []) (served_sp (.vec 30 9 ba C.length bc (flat eRq C)) ba C.length bc C rfl (by omega) hok1) rfl rfl rfl (by repeat first | exact tn_ | apply td_ rfl | apply tc_ | exact .here | apply Take1.there) ?_
  rintro v_ give_ ⟨S, so, sc, hS, rfl, rfl⟩ rs_ hrs_
  simp only [List.cons_append, List.nil_append] at hrs_
  subst hrs_
  have hSl : S.length = C.length := by have := congrArg List.length hS; rw [List.length_map, sruns_len, List.length_map] at this; exact this
  rw [hr1] at hS
  have x1 := rd_at hS (i := A.length + 1) (by omega)
  have i1 : ((C.length : Int) - 1).toNat = A.length + 1 := by omega
  have hall := hall0 ()
  rw [← x1] at hall
  have hhb : (S.getD (A.length + 1) default).x.handle ≤ 9223372036854775807 := by
    have := sruns_hb (A.map (·.r) ++ [delR zzP, openR zzP 7]) SvOk.new (fun r hr => by
      rw [← hr1] at hr
      obtain ⟨x, hx, rfl⟩ := List.mem_map.1 hr
      exact (hok1 x hx).1) ((S.getD (A.length + 1) default).x) (by rw [← hS]; exact List.mem_map.2 ⟨_, getD_mem (by omega), rfl⟩)
    rw [← hr1, List.length_map] at this
    omega
  clear hall0 hS x1 hRok
  repeat (first | (apply G.ex (hd := rfl); case h => (first | exact Ex.move rfl | exact Ex.sub rfl rfl (by omega) | exact Ex.lenSl rfl | exact Ex.extract rfl rfl | exact Ex.assign rfl | exact Ex.notB rfl | exact Ex.loadTA rfl (by first | omega | (simp; done) | (simp; omega)) | exact Ex.indexI rfl rfl (by omega))) | refine G.nil ?_ | refine GC.seq ?_ | refine GC.region ?_ | refine GC.skip ?_ | refine GE.then_normal ?_ | refine GC.cond_f rfl ?_)
  rw [i1]
  refine G.alloc rfl (fun fb => ?_)
  repeat (first | refine G.storeBA rfl rfl rfl rfl rfl ?_ | (apply G.ex (hd := rfl); case h => (first | exact Ex.fieldB rfl | exact Ex.loadB rfl rfl | exact Ex.neI rfl rfl)) | refine G.nil ?_ | refine GC.seq ?_ | refine GC.region ?_ | refine GE.then_normal ?_)
  obtain ⟨F, hF⟩ : ∃ F, S.getD (A.length + 1) default = F := ⟨_, rfl⟩
  rw [hF] at hall hhb ⊢
  clear hF
  rcases hall with h9 | ⟨h0, hb⟩
  · have nw : ¬ F.x.code = 0 := by omega
    repeat (first | (apply G.ex (hd := rfl); case h => (first | exact Ex.fieldB rfl | exact Ex.loadB rfl rfl | exact Ex.eqI rfl rfl | exact Ex.assign rfl)) | refine G.nil ?_ | refine GC.seq ?_ | refine GC.region ?_ | refine GC.ret ?_ | refine GE.then_normal ?_ | refine GE.then_ret ?_ | refine GC.cond_yes rfl (by first | assumption | omega) ?_)
    refine GE.ret (by first | exact .inl rfl | exact .inr rfl) (res1 Tryd.results4 rfl) ⟨by rw [h9]; rfl, rfl⟩ (by repeat first | exact tn_ | apply td_ rfl | apply tc_ | exact .here | apply Take1.there) (by repeat (first | exact Subs.refl | refine Subs.skip ?_))
  · have nw : ¬ ¬ F.x.code = 0 := fun h => h h0
    repeat (first | (apply G.ex (hd := rfl); case h => (first | exact Ex.move rfl | exact Ex.fieldB rfl | exact Ex.loadB rfl rfl)) | refine GC.seq ?_ | refine GC.region ?_ | refine GC.skip ?_ | refine GE.then_normal ?_ | refine GC.cond_no rfl (by first | assumption | omega) ?_)
    refine G.ex (hd := rfl) (Ex.build (cells := eRq (msN (shutR F.x.handle))) rfl (by first | rfl | kernel_rfl)) ?_
    repeat (first | fail)
    refine G.lit (size := 9) (len := 1) (zs := [.int .i64 0, .int .i64 0, .string ByteArray.empty, .string ByteArray.empty, .int .i64 0, .int .i64 0, .int .i64 0, .int .i64 0, .slice none 0 0]) (vals := [(0, .agg (eRq (msN (shutR F.x.handle))).toArray)]) (cells := flat eRq [msN (shutR F.x.handle)]) rfl (by kernel_rfl) rfl rfl (by kernel_rfl) rfl (by kernel_rfl) rfl (fun q => ?_)
    have hcat2 : flat eRq C ++ flat eRq [msN (shutR F.x.handle)] = flat eRq (C ++ [msN (shutR F.x.handle)]) := (flat_append ..).symm
    have hl2 : C.length + 1 = (C ++ [msN (shutR F.x.handle)]).length := by rw [List.length_append]; rfl
    refine G.app rfl rfl (by rfl) (by omega) rfl (hcat2) (fun da dc rs_ hrs_ => ?_)
    try simp only at hrs_
    subst hrs_
    rw [hl2]
    repeat (first | (apply G.ex (hd := rfl); case h => (first | exact Ex.assign rfl)) | refine G.nil ?_ | refine GC.seq ?_ | refine GC.region ?_ | refine GC.block ?_ | refine GE.then_normal ?_)
    refine GC.loop (ι := Nat × List Ms × Option Addr × Nat) (fun x => x.1 ≤ K ∧ x.2.1 = C ++ [msN (shutR F.x.handle)] ++ List.replicate x.1 (msN (openR zzP 7))) (fun x => K - x.1) (fun x => [(1, .int .i64 a1), (5, .slice x.2.2.1 x.2.1.length x.2.2.2), (6, .pointer (some (badr ob 0))), (7, .slice so C.length sc), (9, .pointer (some (badr fb 0))), (10, .int .i64 (x.1 : Int))]) (fun x => [.vec 30 9 x.2.2.1 x.2.1.length x.2.2.2 (flat eRq x.2.1), .blk ob 30 (eRq (msN (openR zzP 7))), .blk fb 35 (eRpM F), .per (Rd eB 1 (C.map dM)), PlainR]) (0, C ++ [msN (shutR F.x.handle)], da, dc) ⟨Nat.zero_le _, (List.append_nil _).symm⟩ (by simp only [fits]; repeat (first | exact trivial | refine And.intro rfl ?_)) (by repeat first | exact tn_ | apply td_ rfl | apply tc_ | exact .here | apply Take1.there) ?_
    rintro ⟨i, B, pa, pc⟩ ⟨hi, hB⟩ fr_ rs_ hfr_ hrs_
    simp only [List.cons_append, List.nil_append] at hfr_ hrs_
    subst hfr_ hrs_
    simp only at hi hB
    have hBl : B.length = C.length + 1 + i := by rw [hB, List.length_append, List.length_append, List.length_replicate]; rfl
    repeat (first | (apply G.ex (hd := rfl); case h => (first | exact Ex.move rfl)) | refine GC.seq ?_ | refine GC.region ?_)
    first | refine G.call (caps := []) (picked_sp a1 9 (by decide) (by decide)) rfl rfl rfl rfl (by repeat first | exact tn_ | apply td_ rfl | apply tc_ | exact .here | apply Take1.there) ?_ | refine G.callU (caps := []) (picked_sp a1 9 (by decide) (by decide)) rfl rfl rfl (by repeat first | exact tn_ | apply td_ rfl | apply tc_ | exact .here | apply Take1.there) ?_
    rintro v_ give_ ⟨rfl, rfl⟩ rs_ hrs_
    simp only [List.cons_append, List.nil_append] at hrs_
    subst hrs_
    rw [hK]
    by_cases cK : i < K
    · have cK' : (i : Int) < (K : Int) := by omega
      have hB2 : B ++ [msN (openR zzP 7)] = C ++ [msN (shutR F.x.handle)] ++ List.replicate (i + 1) (msN (openR zzP 7)) := by
        rw [hB, List.append_assoc _ _ [msN (openR zzP 7)], List.replicate_succ']
      have hcat3 : flat eRq B ++ flat eRq [msN (openR zzP 7)] = flat eRq (B ++ [msN (openR zzP 7)]) := (flat_append ..).symm
      have hl3 : B.length + 1 = (B ++ [msN (openR zzP 7)]).length := by rw [List.length_append]; rfl
      clear hB hb
      repeat (first | (apply G.ex (hd := rfl); case h => (first | exact Ex.move rfl | exact Ex.lss rfl rfl | exact Ex.loadBA rfl rfl rfl)) | refine G.nil ?_ | refine GC.seq ?_ | refine GC.region ?_ | refine GC.block ?_ | refine GC.skip ?_ | refine GE.then_normal ?_ | refine GC.cond_yes rfl (by first | assumption | omega) ?_)
      refine G.lit (size := 9) (len := 1) (zs := [.int .i64 0, .int .i64 0, .string ByteArray.empty, .string ByteArray.empty, .int .i64 0, .int .i64 0, .int .i64 0, .int .i64 0, .slice none 0 0]) (vals := [(0, .agg (eRq (msN (openR zzP 7))).toArray)]) (cells := flat eRq [msN (openR zzP 7)]) rfl (by kernel_rfl) rfl rfl (by kernel_rfl) rfl (by kernel_rfl) rfl (fun q => ?_)
      refine G.app rfl rfl (by rfl) (by omega) rfl (hcat3) (fun pa2 pc2 rs_ hrs_ => ?_)
      try simp only at hrs_
      subst hrs_
      rw [hl3]
      repeat (first | (apply G.ex (hd := rfl); case h => (first | exact Ex.move rfl | exact Ex.add rfl rfl (by omega) | exact Ex.assign rfl)) | refine G.nil ?_ | refine GC.region ?_ | refine GE.then_normal ?_ | refine GE.block_normal ?_)
      rw [show (i : Int) + 1 = ((i + 1 : Nat) : Int) by omega]
      refine GE.loop (i + 1, B ++ [msN (openR zzP 7)], pa2, pc2) ⟨by simp only; omega, hB2⟩ (by simp only; omega) (by simp only [fits]; repeat (first | exact trivial | refine And.intro rfl ?_)) (by repeat first | exact tn_ | apply td_ rfl | apply tc_ | exact .here | apply Take1.there) (by repeat (first | exact Subs.refl | refine Subs.skip ?_))
    · obtain rfl : i = K := by omega
      have cK' : ¬ (i : Int) < (i : Int) := by omega
      have hcat4 : flat eRq B ++ flat eRq [msN (readR F.x.handle 0 1), msN (shutR F.x.handle)] = flat eRq (B ++ [msN (readR F.x.handle 0 1), msN (shutR F.x.handle)]) := (flat_append ..).symm
      have hEl : B.length + 2 = (B ++ [msN (readR F.x.handle 0 1), msN (shutR F.x.handle)]).length := by rw [List.length_append]; rfl
      have hE : B ++ [msN (readR F.x.handle 0 1), msN (shutR F.x.handle)] = C ++ (oldT F.x.handle i).map msN := by
        rw [hB]; unfold oldT; rw [List.map_append, List.map_append, List.map_replicate, List.append_assoc, List.append_assoc, List.append_assoc]; rfl
      have hEr : (B ++ [msN (readR F.x.handle 0 1), msN (shutR F.x.handle)]).map (·.r) = A.map (·.r) ++ [delR zzP, openR zzP 7] ++ oldT F.x.handle i := by
        rw [hE, List.map_append, hr1, List.map_map, show ((fun x : Ms => x.r) ∘ msN) = id from rfl, List.map_id]
      have hEok : ∀ x ∈ B ++ [msN (readR F.x.handle 0 1), msN (shutR F.x.handle)], MsOk x := fun x hx => by
        rw [hE] at hx
        rcases List.mem_append.1 hx with h | h
        · exact hok1 x h
        · obtain ⟨r, hr, rfl⟩ := List.mem_map.1 h
          refine ⟨oldT_ok _ _ r hr, ?_, ?_⟩
          · exact oldT_data _ _ r hr
          · exact oldT_handle _ _ hhb r hr
      have hM4 : ∀ x ∈ (oldT F.x.handle i).map msN, dM x = ⟨none, 0, 0, []⟩ ∨ dM x = ⟨none, 0, 0, []⟩ := fun x hx => by
        obtain ⟨r, hr, rfl⟩ := List.mem_map.1 hx
        exact .inl (by show (⟨none, 0, 0, r.data⟩ : SlD UInt8) = _; rw [List.length_eq_zero_iff.1 (oldT_data _ _ r hr)])
      clear hB hr1 hok1
      repeat (first | (apply G.ex (hd := rfl); case h => (first | exact Ex.move rfl | exact Ex.fieldB rfl | exact Ex.loadB rfl rfl | exact Ex.lss rfl rfl)) | refine G.nil ?_ | refine GC.seq ?_ | refine GC.region ?_ | refine GC.exit ?_ | refine GE.then_normal ?_ | refine GE.then_exit ?_ | refine GE.block_hit ?_ | refine GC.cond_no rfl (by first | assumption | omega) ?_)
      refine G.ex (hd := rfl) (Ex.build (cells := eRq (msN (readR F.x.handle 0 1))) rfl (by first | rfl | kernel_rfl)) ?_
      repeat (first | (apply G.ex (hd := rfl); case h => (first | exact Ex.fieldB rfl | exact Ex.loadB rfl rfl)))
      refine G.ex (hd := rfl) (Ex.build (cells := eRq (msN (shutR F.x.handle))) rfl (by first | rfl | kernel_rfl)) ?_
      repeat (first | fail)
      refine G.lit (size := 9) (len := 2) (zs := [.int .i64 0, .int .i64 0, .string ByteArray.empty, .string ByteArray.empty, .int .i64 0, .int .i64 0, .int .i64 0, .int .i64 0, .slice none 0 0]) (vals := [(0, .agg (eRq (msN (readR F.x.handle 0 1))).toArray), (1, .agg (eRq (msN (shutR F.x.handle))).toArray)]) (cells := flat eRq [msN (readR F.x.handle 0 1), msN (shutR F.x.handle)]) rfl (by kernel_rfl) rfl rfl (by kernel_rfl) rfl (by kernel_rfl) rfl (fun q => ?_)
      refine G.app rfl rfl (by rfl) (by omega) rfl (hcat4) (fun ea ec rs_ hrs_ => ?_)
      try simp only at hrs_
      subst hrs_
      rw [hEl]
      refine G.nilsl 1 ?_
      refine G.conv (fun w_ H_ => Holds.rdMore (A := C) ((oldT F.x.handle i).map msN) hM4 (H_.take (need := [.sl none 0 0 1 (flat eB []), .per (Rd eB 1 (C.map dM))]) (by repeat first | exact tn_ | apply td_ rfl | apply tc_ | exact .here | apply Take1.there))) ?_
      try simp only [List.append_eq, List.nil_append, List.cons_append]
      rw [← hE]
      obtain ⟨E, hE2⟩ : ∃ E, B ++ [msN (readR F.x.handle 0 1), msN (shutR F.x.handle)] = E := ⟨_, rfl⟩
      rw [hE2] at hEl hEr hEok ⊢
      clear hE2 hE hcat4 hM4
      have hEn : E.length = A.length + i + 5 := by omega
      repeat (first | (apply G.ex (hd := rfl); case h => (first | exact Ex.move rfl | exact Ex.assign rfl)) | refine G.nil ?_ | refine GC.seq ?_ | refine GC.region ?_ | refine GE.then_normal ?_)
      first | refine G.call (caps := []) (served_sp (.vec 30 9 ea E.length ec (flat eRq E)) ea E.length ec E rfl (by omega) hEok) rfl rfl rfl rfl (by repeat first | exact tn_ | apply td_ rfl | apply tc_ | exact .here | apply Take1.there) ?_ | refine G.callU (caps := []) (served_sp (.vec 30 9 ea E.length ec (flat eRq E)) ea E.length ec E rfl (by omega) hEok) rfl rfl rfl (by repeat first | exact tn_ | apply td_ rfl | apply tc_ | exact .here | apply Take1.there) ?_
      rintro v_ give_ ⟨S2, to_, tc, hS2, rfl, rfl⟩ rs_ hrs_
      simp only [List.cons_append, List.nil_append] at hrs_
      subst hrs_
      have hS2l : S2.length = E.length := by have := congrArg List.length hS2; rw [List.length_map, sruns_len, List.length_map] at this; exact this
      rw [hEr] at hS2
      have key : (∀ j, C.length ≤ j → j < E.length → (E.getD j default).r.kind = 1 → (S2.getD j default).x.code = 0 → ¬ (S2.getD j default).x.handle = F.x.handle) ∧ (S2.getD (A.length + i + 4) default).x.code = 17 ∧ (S2.getD (A.length + i + 3) default).x.code = 17 := by
        refine ⟨fun j h1 h2 h3 h4 => ?_, ?_, ?_⟩
        · have w := rd_at hS2 (i := j) (by omega)
          have u : (E.getD j default).r = ((A.map (·.r) ++ [delR zzP, openR zzP 7] ++ oldT F.x.handle i)).getD j default := by rw [← hEr]; exact (getD_map _ _ _ h2).symm
          rw [w] at h4 ⊢
          rw [u] at h3
          exact hb.1 j (by omega) (by omega) h3 h4
        · rw [rd_at hS2 (i := A.length + i + 4) (by omega)]; exact hb.2.1
        · rw [rd_at hS2 (i := A.length + i + 3) (by omega)]; exact hb.2.2
      clear hb hS2 hEr hEok
      obtain ⟨kq, k4_, k3_⟩ := key
      have k4 : (S2.getD ((E.length : Int) - 1).toNat default).x.code = 17 := by rw [show ((E.length : Int) - 1).toNat = A.length + i + 4 by omega]; exact k4_
      have k3 : (S2.getD ((E.length : Int) - 2).toNat default).x.code = 17 := by rw [show ((E.length : Int) - 2).toNat = A.length + i + 3 by omega]; exact k3_
      clear k4_ k3_
      repeat (first | (apply G.ex (hd := rfl); case h => (first | exact Ex.move rfl | exact Ex.lenSl rfl | exact Ex.extract rfl rfl | exact Ex.assign rfl | exact Ex.notB rfl)) | refine G.nil ?_ | refine GC.seq ?_ | refine GC.region ?_ | refine GC.block ?_ | refine GC.skip ?_ | refine GE.then_normal ?_ | refine GC.cond_f rfl ?_)
      refine GC.loop (ι := Nat) (fun j => j ≤ E.length) (fun j => E.length - j) (fun j => [(5, .slice ea E.length ec), (7, .slice so C.length sc), (9, .pointer (some (badr fb 0))), (11, .slice to_ E.length tc), (13, .int .i64 (E.length : Int)), (14, .int .i64 (j : Int))]) (fun j => [.vec 30 9 ea E.length ec (flat eRq E), .vec 35 7 to_ E.length tc (flat eRpM S2), .blk fb 35 (eRpM F)]) 0 (Nat.zero_le _) (by simp only [fits]; repeat (first | exact trivial | refine And.intro rfl ?_)) (by repeat first | exact tn_ | apply td_ rfl | apply tc_ | exact .here | apply Take1.there) ?_
      rintro j hj fr_ rs_ hfr_ hrs_
      simp only [List.cons_append, List.nil_append] at hfr_ hrs_
      subst hfr_ hrs_
      by_cases cj : j < E.length
      · have kj := kq j
        clear kq k3 k4
        by_cases c1 : (E.getD j default).r.kind = 1
        · have c1' : ¬ ¬ (E.getD j default).r.kind = 1 := fun h => h c1
          by_cases c2 : (S2.getD j default).x.code = 0
          · have c2' : ¬ ¬ (S2.getD j default).x.code = 0 := fun h => h c2
            by_cases c3 : (j : Int) = (C.length : Int) - 1
            · clear kj
              repeat (first | (apply G.ex (hd := rfl); case h => (first | exact Ex.move rfl | exact Ex.fieldE rfl | exact Ex.add rfl rfl (by omega) | exact Ex.sub rfl rfl (by omega) | exact Ex.lss rfl rfl | exact Ex.eqI rfl rfl | exact Ex.neI rfl rfl | exact Ex.lenSl rfl | exact Ex.indexN rfl rfl (by first | omega | (simp; done) | (simp; omega)) | exact Ex.loadT0 rfl (by first | omega | (simp; done) | (simp; omega)) rfl | exact Ex.loadT rfl (by first | omega | (simp; done) | (simp; omega)) rfl | exact Ex.assign rfl | exact Ex.pickF rfl (by first | assumption | omega) rfl)) | refine G.g_ff rfl rfl (by first | assumption | omega) ?_ | refine G.nil ?_ | refine GC.seq ?_ | refine GC.region ?_ | refine GC.block ?_ | refine GC.skip ?_ | refine GC.exit ?_ | refine GE.then_normal ?_ | refine GE.then_exit ?_ | refine GE.block_hit ?_ | refine GC.cond_yes rfl (by first | assumption | omega) ?_)
              rw [show (j : Int) + 1 = ((j + 1 : Nat) : Int) by omega]
              refine GE.loop (j + 1) (by omega) (by omega) (by simp only [fits]; repeat (first | exact trivial | refine And.intro rfl ?_)) (by repeat first | exact tn_ | apply td_ rfl | apply tc_ | exact .here | apply Take1.there) (by repeat (first | exact Subs.refl | refine Subs.skip ?_))
            · by_cases c4 : (j : Int) ≥ (C.length : Int)
              · have c5 : ¬ (S2.getD j default).x.handle = F.x.handle := kj (by omega) cj c1 c2
                clear kj
                repeat (first | (apply G.ex (hd := rfl); case h => (first | exact Ex.move rfl | exact Ex.fieldE rfl | exact Ex.add rfl rfl (by omega) | exact Ex.sub rfl rfl (by omega) | exact Ex.lss rfl rfl | exact Ex.eqI rfl rfl | exact Ex.neI rfl rfl | exact Ex.lenSl rfl | exact Ex.indexN rfl rfl (by first | omega | (simp; done) | (simp; omega)) | exact Ex.loadT0 rfl (by first | omega | (simp; done) | (simp; omega)) rfl | exact Ex.loadT rfl (by first | omega | (simp; done) | (simp; omega)) rfl | exact Ex.assign rfl | exact Ex.pickF rfl (by first | assumption | omega) rfl)) | refine G.g_ff rfl rfl (by first | assumption | omega) ?_ | refine G.nil ?_ | (apply Gq.ex (hd := rfl); case h => (first | exact Ex.move rfl | exact Ex.fieldE rfl | exact Ex.fieldB rfl | exact Ex.loadB rfl rfl | exact Ex.geq rfl rfl | exact Ex.eqI rfl rfl | exact Ex.lenSl rfl | exact Ex.indexN rfl rfl (by first | omega | (simp; done) | (simp; omega)) | exact Ex.loadT rfl (by first | omega | (simp; done) | (simp; omega)) rfl | exact Ex.pickT rfl (by first | assumption | omega) rfl)) | refine Gq.g_tt rfl rfl (by first | assumption | omega) ?_ | refine Gq.nil ?_ | refine GC.seq ?_ | refine GC.region ?_ | refine GC.draw (by kernel_rfl) (by kernel_rfl) ?_ | refine GC.block ?_ | refine GC.skip ?_ | refine GE.then_normal ?_ | refine GE.block_normal ?_ | refine GC.cond_yes rfl (by first | assumption | omega) ?_ | refine GC.cond_no rfl (by first | assumption | omega) ?_)
                rw [show (j : Int) + 1 = ((j + 1 : Nat) : Int) by omega]
                refine GE.loop (j + 1) (by omega) (by omega) (by simp only [fits]; repeat (first | exact trivial | refine And.intro rfl ?_)) (by repeat first | exact tn_ | apply td_ rfl | apply tc_ | exact .here | apply Take1.there) (by repeat (first | exact Subs.refl | refine Subs.skip ?_))
              · clear kj
                repeat (first | (apply G.ex (hd := rfl); case h => (first | exact Ex.move rfl | exact Ex.fieldE rfl | exact Ex.add rfl rfl (by omega) | exact Ex.sub rfl rfl (by omega) | exact Ex.lss rfl rfl | exact Ex.eqI rfl rfl | exact Ex.neI rfl rfl | exact Ex.lenSl rfl | exact Ex.indexN rfl rfl (by first | omega | (simp; done) | (simp; omega)) | exact Ex.loadT0 rfl (by first | omega | (simp; done) | (simp; omega)) rfl | exact Ex.loadT rfl (by first | omega | (simp; done) | (simp; omega)) rfl | exact Ex.assign rfl | exact Ex.pickF rfl (by first | assumption | omega) rfl)) | refine G.g_ff rfl rfl (by first | assumption | omega) ?_ | refine G.nil ?_ | (apply Gq.ex (hd := rfl); case h => (first | exact Ex.move rfl | exact Ex.geq rfl rfl | exact Ex.lenSl rfl | exact Ex.pickF rfl (by first | assumption | omega) rfl)) | refine Gq.g_tf rfl rfl (by first | assumption | omega) rfl ?_ | refine Gq.nil ?_ | refine GC.seq ?_ | refine GC.region ?_ | refine GC.draw (by kernel_rfl) (by kernel_rfl) ?_ | refine GC.block ?_ | refine GC.skip ?_ | refine GE.then_normal ?_ | refine GE.block_normal ?_ | refine GC.cond_yes rfl (by first | assumption | omega) ?_ | refine GC.cond_no rfl (by first | assumption | omega) ?_ | refine GC.cond_f rfl ?_)
                rw [show (j : Int) + 1 = ((j + 1 : Nat) : Int) by omega]
                refine GE.loop (j + 1) (by omega) (by omega) (by simp only [fits]; repeat (first | exact trivial | refine And.intro rfl ?_)) (by repeat first | exact tn_ | apply td_ rfl | apply tc_ | exact .here | apply Take1.there) (by repeat (first | exact Subs.refl | refine Subs.skip ?_))
          · clear kj
            repeat (first | (apply G.ex (hd := rfl); case h => (first | exact Ex.move rfl | exact Ex.fieldE rfl | exact Ex.add rfl rfl (by omega) | exact Ex.lss rfl rfl | exact Ex.neI rfl rfl | exact Ex.indexN rfl rfl (by first | omega | (simp; done) | (simp; omega)) | exact Ex.loadT0 rfl (by first | omega | (simp; done) | (simp; omega)) rfl | exact Ex.loadT rfl (by first | omega | (simp; done) | (simp; omega)) rfl | exact Ex.assign rfl | exact Ex.pickT rfl (by first | assumption | omega) rfl | exact Ex.pickF rfl (by first | assumption | omega) rfl)) | refine G.g_ft rfl rfl (by first | assumption | omega) rfl ?_ | refine G.g_ff rfl rfl (by first | assumption | omega) ?_ | refine G.nil ?_ | refine GC.seq ?_ | refine GC.region ?_ | refine GC.block ?_ | refine GC.skip ?_ | refine GC.exit ?_ | refine GE.then_normal ?_ | refine GE.then_exit ?_ | refine GE.block_hit ?_ | refine GC.cond_yes rfl (by first | assumption | omega) ?_ | refine GC.cond_t rfl ?_)
            rw [show (j : Int) + 1 = ((j + 1 : Nat) : Int) by omega]
            refine GE.loop (j + 1) (by omega) (by omega) (by simp only [fits]; repeat (first | exact trivial | refine And.intro rfl ?_)) (by repeat first | exact tn_ | apply td_ rfl | apply tc_ | exact .here | apply Take1.there) (by repeat (first | exact Subs.refl | refine Subs.skip ?_))
        · clear kj
          repeat (first | (apply G.ex (hd := rfl); case h => (first | exact Ex.move rfl | exact Ex.fieldE rfl | exact Ex.add rfl rfl (by omega) | exact Ex.lss rfl rfl | exact Ex.neI rfl rfl | exact Ex.indexN rfl rfl (by first | omega | (simp; done) | (simp; omega)) | exact Ex.loadT0 rfl (by first | omega | (simp; done) | (simp; omega)) rfl | exact Ex.assign rfl | exact Ex.pickT rfl (by first | assumption | omega) rfl | exact Ex.pickLT rfl rfl)) | refine G.g_ft rfl rfl (by first | assumption | omega) rfl ?_ | refine G.l_ft rfl rfl rfl ?_ | refine G.nil ?_ | refine GC.seq ?_ | refine GC.region ?_ | refine GC.block ?_ | refine GC.skip ?_ | refine GC.exit ?_ | refine GE.then_normal ?_ | refine GE.then_exit ?_ | refine GE.block_hit ?_ | refine GC.cond_yes rfl (by first | assumption | omega) ?_ | refine GC.cond_t rfl ?_)
          rw [show (j : Int) + 1 = ((j + 1 : Nat) : Int) by omega]
          refine GE.loop (j + 1) (by omega) (by omega) (by simp only [fits]; repeat (first | exact trivial | refine And.intro rfl ?_)) (by repeat first | exact tn_ | apply td_ rfl | apply tc_ | exact .here | apply Take1.there) (by repeat (first | exact Subs.refl | refine Subs.skip ?_))
      · obtain rfl : j = E.length := by omega
        clear kq
        repeat (first | (apply G.ex (hd := rfl); case h => (first | exact Ex.move rfl | exact Ex.fieldE rfl | exact Ex.sub rfl rfl (by omega) | exact Ex.lss rfl rfl | exact Ex.eqI rfl rfl | exact Ex.loadT rfl (by first | omega | (simp; done) | (simp; omega)) rfl | exact Ex.assign rfl | exact Ex.pickT rfl (by first | assumption | omega) rfl | exact Ex.indexI rfl rfl (by omega))) | refine G.g_tt rfl rfl (by first | assumption | omega) ?_ | refine G.nil ?_ | refine GC.seq ?_ | refine GC.region ?_ | refine GC.ret ?_ | refine GC.exit ?_ | refine GE.then_normal ?_ | refine GE.then_exit ?_ | refine GE.block_hit ?_ | refine GC.cond_no rfl (by first | assumption | omega) ?_)
        refine GE.ret (by first | exact .inl rfl | exact .inr rfl) (res1 Tryd.results4 rfl) ⟨by rw [decide_eq_true k3], rfl⟩ (by repeat first | exact tn_ | apply td_ rfl | apply tc_ | exact .here | apply Take1.there) (by repeat (first | exact Subs.refl | refine Subs.skip ?_))
end serve
end Go.Proofs.YtmceappjldcbmaaDoor
