/-
  CONTRACTS of packthreadtop.upload and sameBytes, by the kit.
-/
import Derived.Test.YtmceappjldcbmaaGreatDoorServeN
import Derived.Test.YtmceappjldcbmaaGreatDoorServeU
import Derived.Test.YtmceappjldcbmaaGreatDoorInetP
namespace Go.Proofs.YtmceappjldcbmaaGreatDoor
open Go.RowKit
attribute [local irreducible] Ex G GC GE Gq FPost LPost
set_option linter.unusedVariables false
set_option linter.unusedSimpArgs false
namespace top
theorem sameBytes_sp (r s : Res) (ao bo : Option Addr) (n c m d : Nat) (l l' : List UInt8) [hr : RdR r ao n c 1 (flat eB l)] [hs : RdR s bo m d 1 (flat eB l')] (hl : l.length = n) (hl' : l'.length = m) (hn : n ≤ 9223372036854775807) (hm : m ≤ 9223372036854775807) :
    Spec Tryz.prog 9 [.slice ao n c, .slice bo m d] [r, s] fun v give => v = .bool (decide (l = l')) ∧ give = [r, s] := by
  refine Spec.intro Tryz.func9 rfl Tryz.ntmps9 rfl fun w0 rest rs_ hrs_ => ?_
  simp only [List.cons_append, List.nil_append] at hrs_
  subst hrs_
  repeat (first | (apply G.ex (hd := rfl); case h => (first | exact Ex.move rfl | exact Ex.neI rfl rfl | exact Ex.lenSl rfl | exact Ex.assign rfl)) | refine G.nil ?_ | refine GC.seq ?_ | refine GC.region ?_ | refine GE.then_normal ?_)
  refine GC.cond_dec rfl (fun h => ?_) (fun h => ?_)
  · repeat (first | (apply G.ex (hd := rfl); case h => (first | exact Ex.assign rfl)) | refine G.nil ?_ | refine GC.seq ?_ | refine GC.region ?_ | refine GC.ret ?_ | refine GE.then_normal ?_ | refine GE.then_ret ?_)
    refine GE.ret (by first | exact .inl rfl | exact .inr rfl) (res1 Tryz.results9 rfl) ⟨congrArg Value.bool (decide_eq_false (fun e => h (by rw [← hl, ← hl', e]))).symm, rfl⟩ (by repeat first | exact tn_ | apply td_ rfl | apply tc_ | exact .here | apply Take1.there) (by repeat (first | exact Subs.refl | refine Subs.skip ?_))
  · have hnm : n = m := by omega
    subst hnm
    repeat (first | (apply G.ex (hd := rfl); case h => (first | exact Ex.assign rfl)) | refine G.nil ?_ | refine GC.seq ?_ | refine GC.region ?_ | refine GC.block ?_ | refine GC.skip ?_ | refine GE.then_normal ?_)
    refine GC.loop (ι := Nat) (fun k => k ≤ n ∧ l.take k = l'.take k) (fun k => n - k) (fun k => [(0, .slice ao n c), (1, .slice bo n d), (5, .int .i64 (k : Int))]) (fun k => [r, s]) 0 ⟨Nat.zero_le _, rfl⟩ (by simp only [fits]; repeat (first | exact trivial | refine And.intro rfl ?_)) (by repeat first | exact tn_ | apply td_ rfl | apply tc_ | exact .here | apply Take1.there) ?_
    rintro k ⟨hk, he⟩ fr_ rs_ hfr_ hrs_
    simp only [List.cons_append, List.nil_append] at hfr_ hrs_
    subst hfr_ hrs_
    repeat (first | (apply G.ex (hd := rfl); case h => (first | exact Ex.move rfl | exact Ex.lss rfl rfl | exact Ex.lenSl rfl)) | refine G.nil ?_ | refine GC.seq ?_ | refine GC.region ?_ | refine GE.then_normal ?_)
    refine GC.cond_dec rfl (fun hlt => ?_) (fun hlt => ?_)
    · have hlt : k < n := by omega
      repeat (first | (apply Gq.ex (hd := rfl); case h => (first | exact Ex.move rfl | exact Ex.neBy rfl rfl | exact Ex.indexN rfl rfl (by first | omega | (simp; done) | (simp; omega)) | exact Ex.loadT0 rfl (by first | omega | (simp; done) | (simp; omega)) rfl)) | refine Gq.nil ?_ | refine GC.seq ?_ | refine GC.draw (by kernel_rfl) (by kernel_rfl) ?_ | refine GC.block ?_ | refine GC.skip ?_ | refine GE.then_normal ?_)
      refine GC.cond_dec rfl (fun hne => ?_) (fun hne => ?_)
      · repeat (first | (apply G.ex (hd := rfl); case h => (first | exact Ex.assign rfl)) | refine G.nil ?_ | refine GC.seq ?_ | refine GC.region ?_ | refine GC.ret ?_ | refine GE.then_normal ?_ | refine GE.then_ret ?_ | refine GE.block_ret ?_)
        refine GE.ret (by first | exact .inl rfl | exact .inr rfl) (res1 Tryz.results9 rfl) ⟨congrArg Value.bool (decide_eq_false (fun e => hne (by rw [e]))).symm, rfl⟩ (by repeat first | exact tn_ | apply td_ rfl | apply tc_ | exact .here | apply Take1.there) (by repeat (first | exact Subs.refl | refine Subs.skip ?_))
      · have he' : l.take (k + 1) = l'.take (k + 1) := by
          rw [List.take_succ_eq_append_getElem (by omega), List.take_succ_eq_append_getElem (by omega), he]
          congr 2
          have := Decidable.not_not.1 hne
          rw [List.getD_eq_getElem?_getD, List.getD_eq_getElem?_getD, List.getElem?_eq_getElem (by omega), List.getElem?_eq_getElem (by omega)] at this
          simpa using this
        clear he hne
        repeat (first | (apply G.ex (hd := rfl); case h => (first | exact Ex.move rfl | exact Ex.add rfl rfl (by omega) | exact Ex.assign rfl)) | refine G.nil ?_ | refine GC.region ?_ | refine GC.skip ?_ | refine GE.then_normal ?_ | refine GE.block_normal ?_)
        refine GE.loop (k + 1) ⟨by omega, he'⟩ (by omega) (by simp only [fits]; repeat (first | exact trivial | refine And.intro rfl ?_)) (by repeat first | exact tn_ | apply td_ rfl | apply tc_ | exact .here | apply Take1.there) (by repeat (first | exact Subs.refl | refine Subs.skip ?_))
    · have hkn : k = n := by omega
      have e : l = l' := by
        rw [← List.take_of_length_le (Nat.le_of_eq hl), ← hkn, he, hkn, List.take_of_length_le (Nat.le_of_eq hl')]
      repeat (first | (apply G.ex (hd := rfl); case h => (first | exact Ex.assign rfl)) | refine G.nil ?_ | refine GC.seq ?_ | refine GC.region ?_ | refine GC.ret ?_ | refine GC.exit ?_ | refine GE.then_normal ?_ | refine GE.then_exit ?_ | refine GE.block_hit ?_)
      refine GE.ret (by first | exact .inl rfl | exact .inr rfl) (res1 Tryz.results9 rfl) ⟨congrArg Value.bool (decide_eq_true e).symm, rfl⟩ (by repeat first | exact tn_ | apply td_ rfl | apply tc_ | exact .here | apply Take1.there) (by repeat (first | exact Subs.refl | refine Subs.skip ?_))
end top
namespace serve
open tree path msg
set_option maxHeartbeats 8000000 in
theorem upload_sp (ao : Option Addr) (n c : Nat) (d : List UInt8) (hl : d.length = n) (hn : n ≤ 100000) :
    Spec Tryz.prog 6 [.string (sOf fxP), .slice ao n c] [.sl ao n c 1 (flat eB d)] fun v give => ∃ (A : List Ms) (oa : Option Addr) (oc : Nat), A.map (·.r) = openR fxP 23 :: chunks d (nch n) ∧ (∀ x ∈ A, MsOk x) ∧ v = .slice oa A.length oc ∧ give = [.vec 39 9 oa A.length oc (flat eRq A), .per (Rd eB 1 (A.map dM))] := by
  refine Spec.intro Tryz.func6 rfl Tryz.ntmps6 rfl fun w0 rest rs_ hrs_ => ?_
  simp only [List.cons_append, List.nil_append] at hrs_
  subst hrs_
  have hmo : MsOk (msN (openR fxP 23)) := ⟨openR_ok (by decide) (by decide) (by decide), rfl, (by decide : (0 : Int) ≤ 9223372036854775807)⟩
  repeat (first | (apply G.ex (hd := rfl); case h => (first | exact Ex.move rfl | exact Ex.assign rfl)) | refine G.nil ?_ | refine GC.seq ?_ | refine GC.region ?_ | refine GE.then_normal ?_)
  refine G.ex (hd := rfl) (Ex.build (cells := eRq (msN (openR fxP 23))) rfl (by first | rfl | kernel_rfl)) ?_
  repeat (first | fail)
  refine G.lit (size := 9) (len := 1) (zs := [.int .i64 0, .int .i64 0, .string ByteArray.empty, .string ByteArray.empty, .int .i64 0, .int .i64 0, .int .i64 0, .int .i64 0, .slice none 0 0]) (vals := [(0, .agg (eRq (msN (openR fxP 23))).toArray)]) (cells := flat eRq [msN (openR fxP 23)]) rfl (by kernel_rfl) rfl rfl (by kernel_rfl) rfl (by kernel_rfl) rfl (fun q => ?_)
  refine G.conv (fun w_ H_ => Holds.rdNil eB 1 H_) ?_
  refine G.nilsl 1 ?_
  have hM0 : ∀ x ∈ [msN (openR fxP 23)], dM x = ⟨none, 0, 0, []⟩ ∨ dM x = ⟨none, 0, 0, []⟩ := fun x hx => by rw [List.mem_singleton.1 hx]; exact .inl rfl
  refine G.conv (fun w_ H_ => Holds.rdMore (A := []) [msN (openR fxP 23)] hM0 (H_.take (need := [.sl none 0 0 1 (flat eB []), .per (Rd eB 1 ([] : List (SlD UInt8)))]) (by repeat first | exact tn_ | apply td_ rfl | apply tc_ | exact .here | apply Take1.there))) ?_
  try simp only [List.append_eq, List.nil_append, List.cons_append]
  repeat (first | (apply G.ex (hd := rfl); case h => (first | exact Ex.assign rfl)) | refine G.nil ?_ | refine GC.seq ?_ | refine GC.region ?_ | refine GC.block ?_ | refine GE.then_normal ?_)
  refine GC.loop (ι := Nat × List Ms × Option Addr × Nat) (fun x => 100 * x.1 < n + 100 ∧ x.2.1.map (·.r) = openR fxP 23 :: chunks d x.1 ∧ x.2.1.length = x.1 + 1 ∧ ∀ y ∈ x.2.1, MsOk y) (fun x => n + 100 - 100 * x.1) (fun x => [(1, .slice ao n c), (5, .slice x.2.2.1 (x.1 + 1) x.2.2.2), (6, .int .i64 ((100 * x.1 : Nat) : Int))]) (fun x => [.vec 39 9 x.2.2.1 (x.1 + 1) x.2.2.2 (flat eRq x.2.1), .per (Rd eB 1 (x.2.1.map dM)), .sl ao n c 1 (flat eB d)]) (0, [msN (openR fxP 23)], q, 1) ⟨by simp only; omega, rfl, rfl, fun y hy => by rw [List.mem_singleton.1 hy]; exact hmo⟩ (by simp only [fits]; repeat (first | exact trivial | refine And.intro rfl ?_)) (by repeat first | exact tn_ | apply td_ rfl | apply tc_ | exact .here | apply Take1.there) ?_
  rintro ⟨j, A, oa, oc⟩ ⟨hj, hA, hAl, hO⟩ fr_ rs_ hfr_ hrs_
  simp only [List.cons_append, List.nil_append] at hfr_ hrs_
  subst hfr_ hrs_
  simp only at hj hA hAl hO
  by_cases lt : 100 * j < n
  · have lt' : ((100 * j : Nat) : Int) < (n : Int) := by omega
    repeat (first | (apply G.ex (hd := rfl); case h => (first | exact Ex.move rfl | exact Ex.add rfl rfl (by omega) | exact Ex.lss rfl rfl | exact Ex.lenSl rfl | exact Ex.min rfl rfl)) | refine G.nil ?_ | refine GC.seq ?_ | refine GC.region ?_ | refine GC.block ?_ | refine GC.skip ?_ | refine GE.then_normal ?_ | refine GC.cond_yes rfl (by first | assumption | omega) ?_)
    rw [show min (((100 * j : Nat) : Int) + 100) (n : Int) = ((min (100 * j + 100) n : Nat) : Int) by omega]
    have hcutq : ((flat eB d).drop (100 * j * 1)).take ((min (100 * j + 100) n - 100 * j) * 1) = flat eB ((d.drop (100 * j)).take 100) := by
      rw [Nat.mul_one, Nat.mul_one]
      have e := flat_cut (enc := eB) (s := 1) inferInstance d (100 * j) (min (100 * j + 100) n)
      rw [Nat.mul_one, Nat.mul_one] at e
      rw [e]
      congr 1
      rw [List.take_eq_take_iff, List.length_drop]; omega
    have hdl : ((d.drop (100 * j)).take 100).length = min (100 * j + 100) n - 100 * j := by rw [List.length_take, List.length_drop]; omega
    refine G.sub (l := (100 * j)) (r := (min (100 * j + 100) n)) rfl rfl (by first | exact .inl ⟨rfl, rfl⟩ | exact .inr ⟨_, _, rfl, ev_int rfl (by omega)⟩) (by first | exact .inl ⟨rfl, rfl⟩ | exact .inr ⟨_, _, rfl, ev_int rfl (by omega)⟩) (by omega) rfl (hcutq) (fun ca => ?_)
    obtain ⟨m, hm⟩ : ∃ m, min (100 * j + 100) n - 100 * j = m := ⟨_, rfl⟩
    rw [hm] at hdl ⊢
    clear hcutq
    have hB : (A ++ [(⟨chunk d j, ca, m, c - 100 * j⟩ : Ms)]).map (·.r) = openR fxP 23 :: chunks d (j + 1) := by
      rw [List.map_append, hA]; unfold chunks; rw [List.range_succ, List.map_append]; rfl
    have hcat : flat eRq A ++ flat eRq [(⟨chunk d j, ca, m, c - 100 * j⟩ : Ms)] = flat eRq (A ++ [(⟨chunk d j, ca, m, c - 100 * j⟩ : Ms)]) := (flat_append ..).symm
    have hO2 : ∀ y ∈ A ++ [(⟨chunk d j, ca, m, c - 100 * j⟩ : Ms)], MsOk y := fun y hy => by
      rcases List.mem_append.1 hy with hy | hy
      · exact hO y hy
      · rw [List.mem_singleton.1 hy]
        exact ⟨writeR_ok _ _ _ (by rw [List.length_take]; omega), hdl, (by decide : (0 : Int) ≤ 9223372036854775807)⟩
    repeat (first | fail)
    refine G.ex (hd := rfl) (Ex.build (cells := eRq (⟨chunk d j, ca, m, c - 100 * j⟩ : Ms)) rfl (by first | rfl | kernel_rfl)) ?_
    repeat (first | fail)
    refine G.lit (size := 9) (len := 1) (zs := [.int .i64 0, .int .i64 0, .string ByteArray.empty, .string ByteArray.empty, .int .i64 0, .int .i64 0, .int .i64 0, .int .i64 0, .slice none 0 0]) (vals := [(0, .agg (eRq (⟨chunk d j, ca, m, c - 100 * j⟩ : Ms)).toArray)]) (cells := flat eRq [(⟨chunk d j, ca, m, c - 100 * j⟩ : Ms)]) rfl (by kernel_rfl) rfl rfl (by kernel_rfl) rfl (by kernel_rfl) rfl (fun z => ?_)
    refine G.app rfl rfl (by rfl) (by omega) rfl (hcat) (fun o2 oc2 rs_ hrs_ => ?_)
    try simp only at hrs_
    subst hrs_
    refine G.conv (fun w_ H_ => Holds.rdSnoc (x := ⟨ca, m, c - 100 * j, (d.drop (100 * j)).take 100⟩) (H_.take (need := [.sl ca m (c - 100 * j) 1 (flat eB ((d.drop (100 * j)).take 100)), .per (Rd eB 1 (A.map dM))]) (by repeat first | exact tn_ | apply td_ rfl | apply tc_ | exact .here | apply Take1.there))) ?_
    try simp only [List.append_eq, List.nil_append, List.cons_append]
    rw [show A.map dM ++ [⟨ca, m, c - 100 * j, (d.drop (100 * j)).take 100⟩] = (A ++ [(⟨chunk d j, ca, m, c - 100 * j⟩ : Ms)]).map dM by rw [List.map_append]; rfl]
    repeat (first | (apply G.ex (hd := rfl); case h => (first | exact Ex.move rfl | exact Ex.add rfl rfl (by omega) | exact Ex.assign rfl)) | refine G.nil ?_ | refine GC.region ?_ | refine GE.then_normal ?_ | refine GE.block_normal ?_)
    rw [show ((100 * j : Nat) : Int) + 100 = ((100 * (j + 1) : Nat) : Int) by omega]
    refine GE.loop (j + 1, A ++ [(⟨chunk d j, ca, m, c - 100 * j⟩ : Ms)], o2, oc2) ⟨by simp only; omega, hB, by simp only [List.length_append, hAl]; rfl, hO2⟩ (by simp only; omega) (by simp only [fits]; repeat (first | exact trivial | refine And.intro rfl ?_)) (by repeat first | exact tn_ | apply td_ rfl | apply tc_ | exact .here | apply Take1.there) (by repeat (first | exact Subs.refl | refine Subs.skip ?_))
  · have e : j = nch n := by unfold nch; omega
    have lt' : ¬ ((100 * j : Nat) : Int) < (n : Int) := by omega
    rw [← e]
    repeat (first | (apply G.ex (hd := rfl); case h => (first | exact Ex.move rfl | exact Ex.lss rfl rfl | exact Ex.lenSl rfl | exact Ex.assign rfl)) | refine G.nil ?_ | refine GC.seq ?_ | refine GC.region ?_ | refine GC.ret ?_ | refine GC.exit ?_ | refine GE.then_normal ?_ | refine GE.then_exit ?_ | refine GE.block_hit ?_ | refine GC.cond_no rfl (by first | assumption | omega) ?_)
    rw [← hAl]
    refine GE.ret (by first | exact .inl rfl | exact .inr rfl) (res1 Tryz.results6 rfl) ⟨A, oa, oc, hA, hO, rfl, rfl⟩ (by repeat first | exact tn_ | apply td_ rfl | apply tc_ | exact .here | apply Take1.there) (by repeat (first | exact Subs.refl | refine Subs.skip ?_))
end serve
end Go.Proofs.YtmceappjldcbmaaGreatDoor
