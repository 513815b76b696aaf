/-
  CONTRACT of packthreadtop.TopSync, by the kit.
-/
import Derived.Test.YtmceappjldcbmaaDoorSyncP
import Derived.Test.YtmceappjldcbmaaDoorUpload
import Derived.Test.YtmceappjldcbmaaDoorMixed
namespace Go.Proofs.YtmceappjldcbmaaDoor
open Go.RowKit
attribute [local irreducible] Ex G GC GE Gq FPost LPost
set_option linter.unusedVariables false
set_option linter.unusedSimpArgs false
namespace serve
open tree path msg
theorem chunks_len (d : List UInt8) (m : Nat) : (chunks d m).length = m := by unfold chunks; rw [List.length_map, List.length_range]
theorem rds_len (L m : Nat) : (rds L m).length = m := by unfold rds; rw [List.length_map, List.length_range]
theorem rdR_ms (L j : Nat) : MsOk (msN (rdR L j)) := ⟨readR_ok _ _ _, rfl, (by decide : (0 : Int) ≤ 9223372036854775807)⟩
theorem rds_zero {l : List Rq} (h : ∀ r ∈ l, r.data = []) : ∀ x ∈ l.map msN, dM x = ⟨none, 0, 0, []⟩ ∨ dM x = ⟨none, 0, 0, []⟩ := fun x hx => by
  obtain ⟨r, hr, rfl⟩ := List.mem_map.1 hx
  exact .inl (by show (⟨none, 0, 0, r.data⟩ : SlD UInt8) = _; rw [h r hr])
set_option maxHeartbeats 16000000 in
theorem topSync_sp (a0 : Option Addr) (len0 cap0 : Nat) (z0 : List UInt8) (hl0 : z0.length = len0) (hb0 : len0 ≤ 9223372036854775807) (a1 : Option Addr) (len1 cap1 : Nat) (z1 : List Int) (hl1 : z1.length = len1) (hb1 : len1 ≤ 9223372036854775807) (hw1 : ∀ z ∈ z1, -9223372036854775808 ≤ z ∧ z ≤ 9223372036854775807) (a2 : Option Addr) (len2 cap2 : Nat) (z2 : List UInt8) (hl2 : z2.length = len2) (hb2 : len2 ≤ 9223372036854775807) :
    Spec Tryd.prog 6 [.slice a0 len0 cap0, .slice a1 len1 cap1, .slice a2 len2 cap2] [.sl a0 len0 cap0 1 (flat eB z0), .sl a1 len1 cap1 1 (flat (eI .i64) z1), .sl a2 len2 cap2 1 (flat eB z2), PlainR] fun v give => v = .bool true ∧ give = [] := by
  refine Spec.intro Tryd.func6 rfl Tryd.ntmps6 rfl fun w0 rest rs_ hrs_ => ?_
  simp only [List.cons_append, List.nil_append] at hrs_
  subst hrs_
  repeat (first | (apply G.ex (hd := rfl); case h => (first | exact Ex.move rfl | exact Ex.assign rfl)) | refine G.nil ?_ | refine GC.seq ?_ | refine GC.region ?_ | refine GE.then_normal ?_)
  first | refine G.call (caps := []) (octets_sp a0 len0 cap0 z0 hl0 hb0 250 (by omega)) rfl rfl rfl rfl (by repeat first | exact tn_ | apply td_ rfl | apply tc_ | exact .here | apply Take1.there) ?_ | refine G.callU (caps := []) (octets_sp a0 len0 cap0 z0 hl0 hb0 250 (by omega)) rfl rfl rfl (by repeat first | exact tn_ | apply td_ rfl | apply tc_ | exact .here | apply Take1.there) ?_
  rintro v_ give_ ⟨b1, c1, rfl, rfl⟩ rs_ hrs_
  simp only [List.cons_append, List.nil_append] at hrs_
  subst hrs_
  have hm : min len0 250 ≤ 250 := Nat.min_le_right ..
  have hxl : (z0.take 250).length = min len0 250 := by simp; omega
  generalize min len0 250 = m at *
  generalize z0.take 250 = old at *
  first | refine G.frz b1 ?_ | refine GC.frz b1 ?_ | refine GE.frz b1 ?_
  repeat (first | (apply G.ex (hd := rfl); case h => (first | exact Ex.move rfl | exact Ex.assign rfl)) | refine G.nil ?_ | refine GC.seq ?_ | refine GC.region ?_ | refine GE.then_normal ?_)
  first | refine G.call (caps := []) (delta.mixed_sp b1 m c1 old hxl (by omega) a1 len1 cap1 z1 hl1 hb1 hw1) rfl rfl rfl rfl (by repeat first | exact tn_ | apply td_ rfl | apply tc_ | exact .here | apply Take1.there) ?_ | refine G.callU (caps := []) (delta.mixed_sp b1 m c1 old hxl (by omega) a1 len1 cap1 z1 hl1 hb1 hw1) rfl rfl rfl (by repeat first | exact tn_ | apply td_ rfl | apply tc_ | exact .here | apply Take1.there) ?_
  rintro v_ give_ ⟨xa, xc, X, rfl, hX, rfl⟩ rs_ hrs_
  simp only [List.cons_append, List.nil_append] at hrs_
  subst hrs_
  repeat (first | (apply G.ex (hd := rfl); case h => (first | exact Ex.move rfl)))
  first | refine G.call (caps := []) (octets_sp a2 len2 cap2 z2 hl2 hb2 60 (by omega)) rfl rfl rfl rfl (by repeat first | exact tn_ | apply td_ rfl | apply tc_ | exact .here | apply Take1.there) ?_ | refine G.callU (caps := []) (octets_sp a2 len2 cap2 z2 hl2 hb2 60 (by omega)) rfl rfl rfl (by repeat first | exact tn_ | apply td_ rfl | apply tc_ | exact .here | apply Take1.there) ?_
  rintro v_ give_ ⟨b2, c2, rfl, rfl⟩ rs_ hrs_
  simp only [List.cons_append, List.nil_append] at hrs_
  subst hrs_
  have hq : min len2 60 ≤ 60 := Nat.min_le_right ..
  have hol : (z2.take 60).length = min len2 60 := by simp; omega
  generalize min len2 60 = q at *
  generalize z2.take 60 = O at *
  have hcat : flat eB X ++ flat eB O = flat eB (X ++ O) := (flat_append ..).symm
  have hnl : (X ++ O).length = X.length + q := by rw [List.length_append, hol]
  first | refine G.frz b2 ?_ | refine GC.frz b2 ?_ | refine GE.frz b2 ?_
  repeat (first | fail)
  refine G.app rfl rfl (by rfl) (by omega) rfl (hcat) (fun na nc rs_ hrs_ => ?_)
  try simp only at hrs_
  subst hrs_
  rw [← hnl]
  have hnb : (X ++ O).length ≤ 780 := by omega
  generalize X ++ O = Y at *
  clear hcat hnl
  first | refine G.frz na ?_ | refine GC.frz na ?_ | refine GE.frz na ?_
  repeat ((fail_if_success (refine GC.seq ?_; refine GC.region (id := 3) ?_)); first | (apply G.ex (hd := rfl); case h => (first | exact Ex.assign rfl)) | refine G.nil ?_ | refine GC.seq ?_ | refine GE.then_normal ?_)
  refine GC.meet (ι := Option Addr × Nat × List UInt8) (fun x => x.2.2.length ≤ 600) (fun x => [(7, .slice b1 m c1), (8, .slice x.1 x.2.2.length x.2.1)]) (fun x => [.sl x.1 x.2.2.length x.2.1 1 (flat eB x.2.2), .sl b1 m c1 1 (flat eB old), PlainR]) rest ?_ ?_
  · by_cases c : Y.length > 600
    · have c' : (Y.length : Int) > 600 := by omega
      have hcut : ((flat eB Y).drop (0 * 1)).take ((600 - 0) * 1) = flat eB (Y.take 600) := flat_cut (enc := eB) (s := 1) inferInstance Y 0 600
      have hyl : 600 - 0 = (Y.take 600).length := by rw [List.length_take]; omega
      repeat (first | (apply G.ex (hd := rfl); case h => (first | exact Ex.move rfl | exact Ex.gtr rfl rfl | exact Ex.lenSl rfl)) | refine G.nil ?_ | refine GC.seq ?_ | refine GC.region ?_ | refine GE.then_normal ?_ | refine GC.cond_yes rfl (by first | assumption | omega) ?_)
      refine G.sub (l := 0) (r := 600) rfl rfl (by first | exact .inl ⟨rfl, rfl⟩ | exact .inr ⟨_, _, rfl, ev_int rfl (by omega)⟩) (by first | exact .inl ⟨rfl, rfl⟩ | exact .inr ⟨_, _, rfl, ev_int rfl (by omega)⟩) (by omega) rfl (hcut) (fun ya => ?_)
      rw [hyl]
      repeat (first | (apply G.ex (hd := rfl); case h => (first | exact Ex.assign rfl)) | refine G.nil ?_)
      refine GE.meet (ya, nc - 0, Y.take 600) (by show (Y.take 600).length ≤ 600; rw [List.length_take]; omega) (by simp only [fits]; repeat (first | exact trivial | refine And.intro rfl ?_)) (by repeat first | exact tn_ | apply td_ rfl | apply tc_ | exact .here | apply Take1.there) (by repeat (first | exact Subs.refl | refine Subs.skip ?_))
    · have c' : ¬ (Y.length : Int) > 600 := by omega
      repeat (first | (apply G.ex (hd := rfl); case h => (first | exact Ex.move rfl | exact Ex.gtr rfl rfl | exact Ex.lenSl rfl)) | refine G.nil ?_ | refine GC.seq ?_ | refine GC.region ?_ | refine GC.skip ?_ | refine GE.then_normal ?_ | refine GC.cond_no rfl (by first | assumption | omega) ?_)
      refine GE.meet (na, nc, Y) (by show Y.length ≤ 600; omega) (by simp only [fits]; repeat (first | exact trivial | refine And.intro rfl ?_)) (by repeat first | exact tn_ | apply td_ rfl | apply tc_ | exact .here | apply Take1.there) (by repeat (first | exact Subs.refl | refine Subs.skip ?_))
  rintro ⟨wa, wc, now⟩ hn6 fr_ rs_ hfr_ hrs_
  simp only [List.cons_append, List.nil_append] at hfr_ hrs_
  subst hfr_ hrs_
  simp only at hn6
  clear hnb
  repeat (first | (apply G.ex (hd := rfl); case h => (first | exact Ex.move rfl)) | refine GC.seq ?_ | refine GC.region ?_ | refine GE.then_normal ?_)
  first | refine G.call (caps := []) (delta.delta_sp b1 m c1 old hxl (by omega) wa now.length wc now rfl (by omega)) rfl rfl rfl rfl (by repeat first | exact tn_ | apply td_ rfl | apply tc_ | exact .here | apply Take1.there) ?_ | refine G.callU (caps := []) (delta.delta_sp b1 m c1 old hxl (by omega) wa now.length wc now rfl (by omega)) rfl rfl rfl (by repeat first | exact tn_ | apply td_ rfl | apply tc_ | exact .here | apply Take1.there) ?_
  rintro v_ give_ ⟨ta, tc, P, rfl, hP, hpb, hPl, hP0, rfl⟩ rs_ hrs_
  simp only [List.cons_append, List.nil_append] at hrs_
  subst hrs_
  repeat (first | (apply G.ex (hd := rfl); case h => (first | exact Ex.move rfl | exact Ex.extract rfl rfl | exact Ex.assign rfl)) | refine G.nil ?_ | refine GC.seq ?_ | refine GC.region ?_ | refine GE.then_normal ?_)
  first | refine G.call (caps := []) (delta.patch_sp b1 m c1 old hxl (by omega) ta P.length tc P rfl (by omega) hP (by rw [hpb]; omega)) rfl rfl rfl rfl (by repeat first | exact tn_ | apply td_ rfl | apply tc_ | exact .here | apply Take1.there) ?_ | refine G.callU (caps := []) (delta.patch_sp b1 m c1 old hxl (by omega) ta P.length tc P rfl (by omega) hP (by rw [hpb]; omega)) rfl rfl rfl (by repeat first | exact tn_ | apply td_ rfl | apply tc_ | exact .here | apply Take1.there) ?_
  rintro v_ give_ ⟨pa, pc, rfl, rfl⟩ rs_ hrs_
  simp only [List.cons_append, List.nil_append] at hrs_
  subst hrs_
  rw [hpb]
  clear hP hpb hPl hP0
  first | refine G.frz pa ?_ | refine GC.frz pa ?_ | refine GE.frz pa ?_
  repeat (first | (apply G.ex (hd := rfl); case h => (first | exact Ex.move rfl | exact Ex.neI rfl rfl | exact Ex.extract rfl rfl | exact Ex.assign rfl | exact Ex.pickF rfl (by first | assumption | omega) rfl)) | refine G.g_ff rfl rfl (by first | assumption | omega) ?_ | refine G.nil ?_ | refine GC.seq ?_ | refine GC.region ?_ | refine GC.skip ?_ | refine GE.then_normal ?_ | refine GC.cond_no rfl (by first | assumption | omega) ?_)
  first | refine G.call (caps := []) (upload_sp b1 m c1 old hxl (by omega)) rfl rfl rfl rfl (by repeat first | exact tn_ | apply td_ rfl | apply tc_ | exact .here | apply Take1.there) ?_ | refine G.callU (caps := []) (upload_sp b1 m c1 old hxl (by omega)) rfl rfl rfl (by repeat first | exact tn_ | apply td_ rfl | apply tc_ | exact .here | apply Take1.there) ?_
  rintro v_ give_ ⟨A1, ua, uc, h1, o1, rfl, rfl⟩ rs_ hrs_
  simp only [List.cons_append, List.nil_append] at hrs_
  subst hrs_
  repeat (first | (apply G.ex (hd := rfl); case h => (first | exact Ex.move rfl)))
  first | refine G.call (caps := []) (upload_sp pa now.length pc now rfl (by omega)) rfl rfl rfl rfl (by repeat first | exact tn_ | apply td_ rfl | apply tc_ | exact .here | apply Take1.there) ?_ | refine G.callU (caps := []) (upload_sp pa now.length pc now rfl (by omega)) rfl rfl rfl (by repeat first | exact tn_ | apply td_ rfl | apply tc_ | exact .here | apply Take1.there) ?_
  rintro v_ give_ ⟨A2, va, vc, h2, o2, rfl, rfl⟩ rs_ hrs_
  simp only [List.cons_append, List.nil_append] at hrs_
  subst hrs_
  have l1 : A1.length = nch m + 1 := by have := congrArg List.length h1; rw [List.length_map, List.length_cons, chunks_len] at this; exact this
  have l2 : A2.length = nch now.length + 1 := by have := congrArg List.length h2; rw [List.length_map, List.length_cons, chunks_len] at this; exact this
  have n1 : nch m ≤ 4 := by unfold nch; omega
  have n2 : nch now.length ≤ 7 := by unfold nch; omega
  have hc2 : ((flat eRq A2).drop (1 * 9)).take ((A2.length - 1) * 9) = flat eRq (A2.drop 1) := by
    rw [flat_drop (inferInstance : Enc eRq 9), List.take_of_length_le (by rw [flat_len (inferInstance : Enc eRq 9), List.length_drop]; exact Nat.le_refl _)]
  repeat (first | fail)
  refine G.subV (l := 1) (r := A2.length) rfl (by first | exact .inl ⟨rfl, rfl⟩ | exact .inr ⟨_, _, rfl, ev_int rfl (by omega)⟩) (by first | exact .inl ⟨rfl, rfl⟩ | exact .inr ⟨_, _, rfl, ev_int rfl (by omega)⟩) (by omega) rfl (hc2) (fun sa rs_ hrs_ => ?_)
  try simp only at hrs_
  subst hrs_
  have hcat2 : flat eRq A1 ++ flat eRq (A2.drop 1) = flat eRq (A1 ++ A2.drop 1) := (flat_append ..).symm
  repeat (first | fail)
  refine G.app rfl rfl (by rfl) (by omega) rfl (hcat2) (fun ea ec rs_ hrs_ => ?_)
  try simp only at hrs_
  subst hrs_
  have hpk : ∀ x ∈ (A1 ++ A2.drop 1).map dM, x ∈ A1.map dM ∨ x ∈ A2.map dM := fun x hx => by
    rw [List.map_append] at hx
    rcases List.mem_append.1 hx with e | e
    · exact .inl e
    · obtain ⟨y, hy, rfl⟩ := List.mem_map.1 e
      exact .inr (List.mem_map.2 ⟨y, List.mem_of_mem_drop hy, rfl⟩)
  refine G.conv (fun w_ H_ => Holds.rdPick (l3 := (A1 ++ A2.drop 1).map dM) hpk (H_.take (need := [.per (Rd eB 1 (A1.map dM)), .per (Rd eB 1 (A2.map dM))]) (by repeat first | exact tn_ | apply td_ rfl | apply tc_ | exact .here | apply Take1.there))) ?_
  try simp only [List.append_eq, List.nil_append, List.cons_append]
  rw [show A1.length + (A2.length - 1) = (A1 ++ A2.drop 1).length by rw [List.length_append, List.length_drop]]
  have hBr : (A1 ++ A2.drop 1).map (·.r) = upl old ++ chunks now (nch now.length) := by
    rw [List.map_append, List.map_drop, h1, h2]; unfold upl; rw [hxl]; rfl
  have hBo : ∀ x ∈ A1 ++ A2.drop 1, MsOk x := fun x hx => by
    rcases List.mem_append.1 hx with e | e
    · exact o1 x e
    · exact o2 x (List.mem_of_mem_drop e)
  have hBl : (A1 ++ A2.drop 1).length = nch m + 1 + nch now.length := by rw [List.length_append, List.length_drop]; omega
  generalize A1 ++ A2.drop 1 = B at *
  clear hcat2 hpk h1 h2 o1 o2 hc2 l1 l2
  have law := sync_law old now (by omega) (by omega)
  simp only at law
  obtain ⟨law0, -⟩ : ∃ f : Unit → _, f = fun _ : Unit => law := ⟨_, rfl⟩
  clear law
  repeat (first | (apply G.ex (hd := rfl); case h => (first | exact Ex.move rfl | exact Ex.lenSl rfl | exact Ex.assign rfl)) | refine G.nil ?_ | refine GC.seq ?_ | refine GC.region ?_ | refine GC.block ?_ | refine GE.then_normal ?_)
  refine GC.loop (ι := Nat × List Ms × Option Addr × Nat) (fun x => 100 * x.1 < now.length + 100 ∧ x.2.1 = B ++ (rds now.length x.1).map msN) (fun x => now.length + 100 - 100 * x.1) (fun x => [(7, .slice b1 m c1), (8, .slice wa now.length wc), (13, .slice x.2.2.1 x.2.1.length x.2.2.2), (14, .int .i64 (B.length : Int)), (15, .int .i64 ((100 * x.1 : Nat) : Int))]) (fun x => [.vec 30 9 x.2.2.1 x.2.1.length x.2.2.2 (flat eRq x.2.1), .per (Rd eB 1 (B.map dM)), .sl wa now.length wc 1 (flat eB now), PlainR]) (0, B, ea, ec) ⟨by simp only; omega, (List.append_nil _).symm⟩ (by simp only [fits]; repeat (first | exact trivial | refine And.intro rfl ?_)) (by repeat first | exact tn_ | apply td_ rfl | apply tc_ | exact .here | apply Take1.there) ?_
  rintro ⟨j, C, ca, cc⟩ ⟨hj, hC⟩ fr_ rs_ hfr_ hrs_
  simp only [List.cons_append, List.nil_append] at hfr_ hrs_
  subst hfr_ hrs_
  simp only at hj hC
  by_cases lt : 100 * j < now.length
  · have lt' : ((100 * j : Nat) : Int) < (now.length : Int) := by omega
    have hC2 : C ++ [msN (rdR now.length j)] = B ++ (rds now.length (j + 1)).map msN := by
      rw [hC]; unfold rds; rw [List.range_succ, List.map_append, List.map_append, List.append_assoc]; rfl
    have hcat : flat eRq C ++ flat eRq [msN (rdR now.length j)] = flat eRq (C ++ [msN (rdR now.length j)]) := (flat_append ..).symm
    have hlen : C.length + 1 = (C ++ [msN (rdR now.length j)]).length := by rw [List.length_append]; rfl
    have hCl : C.length ≤ 100 := by rw [hC, List.length_append, List.length_map, rds_len]; omega
    clear hC law0 hBo
    repeat (first | (apply G.ex (hd := rfl); case h => (first | exact Ex.move rfl | exact Ex.sub rfl rfl (by omega) | exact Ex.lss rfl rfl | exact Ex.lenSl rfl | exact Ex.min rfl rfl)) | refine G.nil ?_ | refine GC.seq ?_ | refine GC.region ?_ | refine GC.block ?_ | refine GC.skip ?_ | refine GE.then_normal ?_ | refine GC.cond_yes rfl (by first | assumption | omega) ?_)
    rw [show min (100 : Int) ((now.length : Int) - ((100 * j : Nat) : Int)) = ((min 100 (now.length - 100 * j) : Nat) : Int) by omega]
    refine G.ex (hd := rfl) (Ex.build (cells := eRq (msN (rdR now.length j))) rfl (by first | rfl | kernel_rfl)) ?_
    repeat (first | fail)
    refine G.lit (size := 9) (len := 1) (zs := [.int .i64 0, .int .i64 0, .string ByteArray.empty, .string ByteArray.empty, .int .i64 0, .int .i64 0, .int .i64 0, .int .i64 0, .slice none 0 0]) (vals := [(0, .agg (eRq (msN (rdR now.length j))).toArray)]) (cells := flat eRq [msN (rdR now.length j)]) rfl (by kernel_rfl) rfl rfl (by kernel_rfl) rfl (by kernel_rfl) rfl (fun z => ?_)
    refine G.app rfl rfl (by rfl) (by omega) rfl (hcat) (fun ca2 cc2 rs_ hrs_ => ?_)
    try simp only at hrs_
    subst hrs_
    rw [hlen]
    repeat (first | (apply G.ex (hd := rfl); case h => (first | exact Ex.move rfl | exact Ex.add rfl rfl (by omega) | exact Ex.assign rfl)) | refine G.nil ?_ | refine GC.region ?_ | refine GE.then_normal ?_ | refine GE.block_normal ?_)
    rw [show ((100 * j : Nat) : Int) + 100 = ((100 * (j + 1) : Nat) : Int) by omega]
    refine GE.loop (j + 1, C ++ [msN (rdR now.length j)], ca2, cc2) ⟨by simp only; omega, hC2⟩ (by simp only; omega) (by simp only [fits]; repeat (first | exact trivial | refine And.intro rfl ?_)) (by repeat first | exact tn_ | apply td_ rfl | apply tc_ | exact .here | apply Take1.there) (by repeat (first | exact Subs.refl | refine Subs.skip ?_))
  · have lt' : ¬ ((100 * j : Nat) : Int) < (now.length : Int) := by omega
    have ej : j = nch now.length := by unfold nch; omega
    rw [ej] at hC
    have hCl : C.length = B.length + nch now.length := by rw [hC, List.length_append, List.length_map, rds_len]
    have hcat : flat eRq C ++ flat eRq [msN (statR fxP)] = flat eRq (C ++ [msN (statR fxP)]) := (flat_append ..).symm
    have hlen : C.length + 1 = (C ++ [msN (statR fxP)]).length := by rw [List.length_append]; rfl
    have hE : C ++ [msN (statR fxP)] = B ++ (rds now.length (nch now.length) ++ [statR fxP]).map msN := by rw [hC, List.map_append, List.append_assoc]; rfl
    have hEr : (C ++ [msN (statR fxP)]).map (·.r) = upl old ++ chunks now (nch now.length) ++ rds now.length (nch now.length) ++ [statR fxP] := by
      rw [hE, List.map_append, hBr, List.map_map, show ((fun x : Ms => x.r) ∘ msN) = id from rfl, List.map_id]
      simp only [List.append_assoc]
    have hEok : ∀ x ∈ C ++ [msN (statR fxP)], MsOk x := fun x hx => by
      rw [hE] at hx
      rcases List.mem_append.1 hx with e | e
      · exact hBo x e
      · obtain ⟨r, hr, rfl⟩ := List.mem_map.1 e
        rcases List.mem_append.1 hr with hr | hr
        · obtain ⟨k, _, rfl⟩ := List.mem_map.1 hr; exact rdR_ms _ k
        · rw [List.mem_singleton.1 hr]; exact ⟨⟨by decide, Nat.zero_le _, Nat.zero_le _, Int.le_refl _, (by decide : (0 : Int) ≤ 31)⟩, rfl, (by decide : (0 : Int) ≤ 9223372036854775807)⟩
    have hM4 := rds_zero (l := rds now.length (nch now.length) ++ [statR fxP]) (fun r hr => by
      rcases List.mem_append.1 hr with hr | hr
      · obtain ⟨k, _, rfl⟩ := List.mem_map.1 hr; rfl
      · rw [List.mem_singleton.1 hr]; rfl)
    clear hC hBo
    repeat (first | (apply G.ex (hd := rfl); case h => (first | exact Ex.move rfl | exact Ex.lss rfl rfl | exact Ex.lenSl rfl)) | refine G.nil ?_ | refine GC.seq ?_ | refine GC.region ?_ | refine GC.exit ?_ | refine GE.then_normal ?_ | refine GE.then_exit ?_ | refine GE.block_hit ?_ | refine GC.cond_no rfl (by first | assumption | omega) ?_)
    refine G.ex (hd := rfl) (Ex.build (cells := eRq (msN (statR fxP))) rfl (by first | rfl | kernel_rfl)) ?_
    repeat (first | fail)
    refine G.lit (size := 9) (len := 1) (zs := [.int .i64 0, .int .i64 0, .string ByteArray.empty, .string ByteArray.empty, .int .i64 0, .int .i64 0, .int .i64 0, .int .i64 0, .slice none 0 0]) (vals := [(0, .agg (eRq (msN (statR fxP))).toArray)]) (cells := flat eRq [msN (statR fxP)]) rfl (by kernel_rfl) rfl rfl (by kernel_rfl) rfl (by kernel_rfl) rfl (fun z => ?_)
    refine G.app rfl rfl (by rfl) (by omega) rfl (hcat) (fun da dc rs_ hrs_ => ?_)
    try simp only at hrs_
    subst hrs_
    rw [hlen]
    refine G.nilsl 1 ?_
    refine G.conv (fun w_ H_ => Holds.rdMore (A := B) ((rds now.length (nch now.length) ++ [statR fxP]).map msN) hM4 (H_.take (need := [.sl none 0 0 1 (flat eB []), .per (Rd eB 1 (B.map dM))]) (by repeat first | exact tn_ | apply td_ rfl | apply tc_ | exact .here | apply Take1.there))) ?_
    try simp only [List.append_eq, List.nil_append, List.cons_append]
    rw [← hE]
    obtain ⟨E, hE2⟩ : ∃ E, C ++ [msN (statR fxP)] = E := ⟨_, rfl⟩
    rw [hE2] at hlen hEr hEok ⊢
    clear hE2 hE hcat hM4
    have hEl : E.length = B.length + nch now.length + 1 := by omega
    have hUl : (upl old ++ chunks now (nch now.length)).length = B.length := by rw [← hBr, List.length_map]
    repeat (first | (apply G.ex (hd := rfl); case h => (first | exact Ex.move rfl | exact Ex.assign rfl)) | refine G.nil ?_ | refine GC.seq ?_ | refine GC.region ?_ | refine GE.then_normal ?_)
    first | refine G.call (caps := []) (splay_sp (.vec 30 9 da E.length dc (flat eRq E)) da E.length dc E rfl (by omega) hEok) rfl rfl rfl rfl (by repeat first | exact tn_ | apply td_ rfl | apply tc_ | exact .here | apply Take1.there) ?_ | refine G.callU (caps := []) (splay_sp (.vec 30 9 da E.length dc (flat eRq E)) da E.length dc E rfl (by omega) hEok) rfl rfl rfl (by repeat first | exact tn_ | apply td_ rfl | apply tc_ | exact .here | apply Take1.there) ?_
    rintro v_ give_ ⟨S, so, sc, hS, rfl, rfl⟩ rs_ hrs_
    simp only [List.cons_append, List.nil_append] at hrs_
    subst hrs_
    have hSl : S.length = E.length := by have := congrArg List.length hS; rw [List.length_map, sruns_len, List.length_map] at this; exact this
    rw [hEr] at hS
    have key : (∀ k, k ≤ nch now.length → (S.getD (B.length + k) default).x.code = 0 ∧ now.take (100 * k) ++ (S.getD (B.length + k) default).x.d = now.take (100 * (k + 1))) ∧ (S.getD (B.length + nch now.length) default).x.size = ((max old.length now.length : Nat) : Int) := by
      have law := law0 ()
      rw [hUl] at law
      refine ⟨fun k hk => ?_, ?_⟩
      · rw [rd_at hS (i := B.length + k) (by omega)]; exact law.1 k hk
      · rw [rd_at hS (i := B.length + nch now.length) (by omega)]; exact law.2
    clear law0 hS hEr hEok hBr hUl
    obtain ⟨ky, ysz_⟩ := key
    have ysz : (S.getD ((E.length : Int) - 1).toNat default).x.size = max (m : Int) (now.length : Int) := by
      rw [show ((E.length : Int) - 1).toNat = B.length + nch now.length by omega, ysz_, hxl]; omega
    clear ysz_ lt lt' hj
    repeat (first | (apply G.ex (hd := rfl); case h => (first | exact Ex.move rfl | exact Ex.neI rfl rfl | exact Ex.lenSl rfl | exact Ex.extract rfl rfl | exact Ex.assign rfl | exact Ex.pickF rfl (by first | assumption | omega) rfl)) | refine G.g_ff rfl rfl (by first | assumption | omega) ?_ | refine G.nil ?_ | refine GC.seq ?_ | refine GC.region ?_ | refine GC.block ?_ | refine GC.skip ?_ | refine GE.then_normal ?_ | refine GC.cond_no rfl (by first | assumption | omega) ?_)
    first | refine G.nilvec 5 1 ?_ | refine GC.nilvec 5 1 ?_
    repeat (first | fail)
    refine GC.loop (ι := Nat × List UInt8 × Option Addr × Nat) (fun x => x.1 ≤ nch now.length + 1 ∧ x.2.1 = now.take (100 * x.1)) (fun x => nch now.length + 1 - x.1) (fun x => [(7, .slice b1 m c1), (8, .slice wa now.length wc), (16, .slice so E.length sc), (18, .slice x.2.2.1 x.2.1.length x.2.2.2), (19, .int .i64 ((B.length + x.1 : Nat) : Int))]) (fun x => [.vec 5 1 x.2.2.1 x.2.1.length x.2.2.2 (flat eB x.2.1), .vec 35 7 so E.length sc (flat eRpM S), .per (Rd eB 1 (S.map dR)), .sl wa now.length wc 1 (flat eB now)]) (0, [], none, 0) ⟨Nat.zero_le _, by simp⟩ (by simp only [fits]; repeat (first | exact trivial | refine And.intro rfl ?_)) (by repeat first | exact tn_ | apply td_ rfl | apply tc_ | exact .here | apply Take1.there) ?_
    rintro ⟨k, G_, ga, gc⟩ ⟨hk, hG⟩ fr_ rs_ hfr_ hrs_
    simp only [List.cons_append, List.nil_append] at hfr_ hrs_
    subst hfr_ hrs_
    simp only at hk hG
    by_cases ck : k ≤ nch now.length
    · obtain ⟨k0, k1⟩ := ky k ck
      rw [← hG] at k1
      clear ky ysz
      have ck' : ((B.length + k : Nat) : Int) < (E.length : Int) := by omega
      have k0' : ¬ ¬ (S.getD (B.length + k) default).x.code = 0 := fun h => h k0
      have g1 : (S.map dR).getD (B.length + k) default = ⟨(S.getD (B.length + k) default).da, (S.getD (B.length + k) default).x.d.length, (S.getD (B.length + k) default).dc, (S.getD (B.length + k) default).x.d⟩ := getD_map _ _ _ (by omega)
      have hcat : flat eB G_ ++ flat eB (S.getD (B.length + k) default).x.d = flat eB (G_ ++ (S.getD (B.length + k) default).x.d) := (flat_append ..).symm
      have hgl : G_.length + (S.getD (B.length + k) default).x.d.length = (G_ ++ (S.getD (B.length + k) default).x.d).length := by rw [List.length_append]
      have hgb : (G_ ++ (S.getD (B.length + k) default).x.d).length ≤ 600 := by rw [k1, List.length_take]; omega
      refine GC.conv (fun w_ H_ => H_.rdAt (l := S.map dR) (enc := eB) (s := 1) (by simp) (B.length + k) (by rw [List.length_map]; omega)) ?_
      rw [g1]
      clear hG
      repeat (first | (apply G.ex (hd := rfl); case h => (first | exact Ex.move rfl | exact Ex.fieldE rfl | exact Ex.lss rfl rfl | exact Ex.neI rfl rfl | exact Ex.lenSl rfl | exact Ex.indexN rfl rfl (by first | omega | (simp; done) | (simp; omega)) | exact Ex.loadT rfl (by first | omega | (simp; done) | (simp; omega)) rfl)) | refine G.nil ?_ | refine GC.seq ?_ | refine GC.region ?_ | refine GC.block ?_ | refine GC.skip ?_ | refine GE.then_normal ?_ | refine GC.cond_yes rfl (by first | assumption | omega) ?_ | refine GC.cond_no rfl (by first | assumption | omega) ?_)
      refine G.app rfl rfl (by rfl) (by omega) rfl (hcat) (fun g2 gc2 rs_ hrs_ => ?_)
      try simp only at hrs_
      subst hrs_
      rw [hgl]
      repeat (first | (apply G.ex (hd := rfl); case h => (first | exact Ex.move rfl | exact Ex.add rfl rfl (by omega) | exact Ex.assign rfl)) | refine G.nil ?_ | refine GC.region ?_ | refine GE.then_normal ?_ | refine GE.block_normal ?_)
      rw [show ((B.length + k : Nat) : Int) + 1 = ((B.length + (k + 1) : Nat) : Int) by omega]
      refine GE.loop (k + 1, G_ ++ (S.getD (B.length + k) default).x.d, g2, gc2) ⟨by simp only; omega, k1⟩ (by simp only; omega) (by simp only [fits]; repeat (first | exact trivial | refine And.intro rfl ?_)) (by repeat first | exact tn_ | apply td_ rfl | apply tc_ | exact .here | apply Take1.there) (by repeat (first | exact Subs.refl | refine Subs.skip ?_))
    · have ck' : ¬ ((B.length + k : Nat) : Int) < (E.length : Int) := by omega
      have hGn : G_ = now := by rw [hG]; exact List.take_of_length_le (by unfold nch at ck; omega)
      subst hGn
      clear ky hG
      repeat (first | (apply G.ex (hd := rfl); case h => (first | exact Ex.move rfl | exact Ex.lss rfl rfl | exact Ex.lenSl rfl)) | refine G.nil ?_ | refine GC.seq ?_ | refine GC.region ?_ | refine GC.exit ?_ | refine GE.then_normal ?_ | refine GE.then_exit ?_ | refine GE.block_hit ?_ | refine GC.cond_no rfl (by first | assumption | omega) ?_)
      first | refine G.call (caps := []) (top.sameBytes_sp (.vec 5 1 ga G_.length gc (flat eB G_)) (.sl wa G_.length wc 1 (flat eB G_)) ga wa G_.length gc G_.length wc G_ G_ rfl rfl (by omega) (by omega)) rfl rfl rfl rfl (by repeat first | exact tn_ | apply td_ rfl | apply tc_ | exact .here | apply Take1.there) ?_ | refine G.callU (caps := []) (top.sameBytes_sp (.vec 5 1 ga G_.length gc (flat eB G_)) (.sl wa G_.length wc 1 (flat eB G_)) ga wa G_.length gc G_.length wc G_ G_ rfl rfl (by omega) (by omega)) rfl rfl rfl (by repeat first | exact tn_ | apply td_ rfl | apply tc_ | exact .here | apply Take1.there) ?_
      rintro v_ give_ ⟨rfl, rfl⟩ rs_ hrs_
      simp only [List.cons_append, List.nil_append] at hrs_
      subst hrs_
      rw [decide_eq_true (rfl : G_ = G_)]
      repeat (first | (apply G.ex (hd := rfl); case h => (first | exact Ex.move rfl | exact Ex.fieldE rfl | exact Ex.sub rfl rfl (by omega) | exact Ex.eqI rfl rfl | exact Ex.lenSl rfl | exact Ex.loadT rfl (by first | omega | (simp; done) | (simp; omega)) rfl | exact Ex.assign rfl | exact Ex.max rfl rfl | exact Ex.pickLT rfl rfl | exact Ex.indexI rfl rfl (by omega))) | refine G.yes rfl rfl ?_ | refine G.nil ?_ | refine GC.ret ?_ | refine GE.then_normal ?_)
      refine GE.ret (by first | exact .inl rfl | exact .inr rfl) (res1 Tryd.results6 rfl) ⟨by rw [decide_eq_true ysz], rfl⟩ (by repeat first | exact tn_ | apply td_ rfl | apply tc_ | exact .here | apply Take1.there) (by repeat (first | exact Subs.refl | refine Subs.skip ?_))
end serve
end Go.Proofs.YtmceappjldcbmaaDoor
