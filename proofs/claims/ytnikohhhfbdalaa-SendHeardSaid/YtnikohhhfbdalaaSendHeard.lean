/-
  CONTRACT of packthreadkeep.SendHeard, by the kit.
-/
import Derived.Test.YtnikohhhfbdalaaSendF
import Derived.Test.YtnikohhhfbdalaaSendHP
import Derived.Test.YtnikohhhfbdalaaKit30
namespace Go.Proofs.Ytnikohhhfbdalaa
open Go.RowKit
attribute [local irreducible] Ex G GC GE Gq FPost LPost
set_option linter.unusedVariables false
set_option linter.unusedSimpArgs false
namespace send
open hole
theorem cov_take (l : List St) (c : Nat) (p : Int) (h : c < l.length) : cov (l.take (c + 1)) p = cov (l.take c) p + (if (l.getD c default).from_ ≤ p ∧ p < (l.getD c default).from_ + (l.getD c default).data.length then 1 else 0) := by
  rw [getD_take l c h]
  unfold cov
  rw [List.filter_append, List.length_append, List.filter_cons]
  congr 1
  by_cases e : (l.getD c default).from_ ≤ p ∧ p < (l.getD c default).from_ + (l.getD c default).data.length
  · rw [if_pos e, if_pos (by rw [decide_eq_true e.1, decide_eq_true e.2]; rfl)]; rfl
  · rw [if_neg e, if_neg (fun h => e (by rw [Bool.and_eq_true, decide_eq_true_eq, decide_eq_true_eq] at h; exact h))]; rfl
theorem drop_at (l : List St) (m c i : Nat) (h : m + c ≤ l.length) (hi : i < c) : ((l.drop m).take c).getD i default = l.getD (m + i) default ∧ ((l.drop m).take c).length = c := by
  refine ⟨?_, by rw [List.length_take, List.length_drop]; omega⟩
  rw [List.getD_eq_getElem?_getD, List.getElem?_take, if_pos hi, List.getElem?_drop, ← List.getD_eq_getElem?_getD]
abbrev pM : DeM := ⟨3, ⟨none, 0, 0, []⟩, 0, 0, ⟨none, 0, 0, []⟩⟩
theorem rep_cells (A : List DeM) (i : Nat) : flat eD (A ++ List.replicate i pM) ++ flat eD [pM] = flat eD (A ++ List.replicate (i + 1) pM) := by
  rw [← flat_append, List.append_assoc, ← List.replicate_succ']
set_option maxHeartbeats 16000000 in
theorem sendHeard_sp (a0 : Option Addr) (len0 cap0 : Nat) (z0 : List UInt8) (hl0 : z0.length = len0) (hb0 : len0 ≤ 9223372036854775807) (a1 : Int) (ha1 : -9223372036854775808 ≤ a1 ∧ a1 ≤ 9223372036854775807) (a2 : Int) (ha2 : -9223372036854775808 ≤ a2 ∧ a2 ≤ 9223372036854775807) (a3 : Int) (ha3 : -9223372036854775808 ≤ a3 ∧ a3 ≤ 9223372036854775807) :
    Spec Try.prog 5 [.slice a0 len0 cap0, .int .i64 a1, .int .i64 a2, .int .i64 a3] [.sl a0 len0 cap0 1 (flat eB z0)] fun v give => v = .bool true ∧ give = [] := by
  obtain ⟨D, hD⟩ : ∃ D, D = z0.take 200 ++ [1, 2, 3] := ⟨_, rfl⟩
  have hDl : D.length = min len0 200 + 3 := by rw [hD]; simp [hl0]; omega
  have f1 := Int.emod_nonneg a1 (show (D.length : Int) ≠ 0 by omega)
  have f2 := Int.emod_lt_of_pos a1 (show (0 : Int) < D.length by omega)
  have g1 := Int.emod_nonneg a2 (show (D.length : Int) - a1 % D.length ≠ 0 by omega)
  have g2 := Int.emod_lt_of_pos a2 (show (0 : Int) < D.length - a1 % D.length by omega)
  have k1 := Int.emod_nonneg a3 (show (D.length : Int) + 1 ≠ 0 by omega)
  have k2 := Int.emod_lt_of_pos a3 (show (0 : Int) < (D.length : Int) + 1 by omega)
  have hlaw := heard_law D (by omega) (a3 % ((D.length : Int) + 1)) (a1 % D.length) (a1 % D.length + 1 + a2 % (D.length - a1 % D.length)) (by omega) (by omega)
  have htt : ¬ ¬ true = true := fun h => h rfl
  refine Spec.intro Try.func5 rfl Try.ntmps5 rfl fun w0 rest rs_ hrs_ => ?_
  simp only [List.cons_append, List.nil_append] at hrs_
  subst hrs_
  repeat (first | (apply G.ex (hd := rfl); case h => (first | exact Ex.move rfl | exact Ex.assign rfl)) | refine G.nil ?_ | refine GC.seq ?_ | refine GC.region ?_ | refine GE.then_normal ?_)
  first | refine G.call (caps := []) (octets_sp a0 len0 cap0 z0 hl0 hb0 200 (by omega)) rfl rfl rfl rfl (by repeat (first | exact Takes.nil | apply Takes.dup rfl | apply Takes.cons | exact Take1.here | apply Take1.there)) ?_ | refine G.callU (caps := []) (octets_sp a0 len0 cap0 z0 hl0 hb0 200 (by omega)) rfl rfl rfl (by repeat (first | exact Takes.nil | apply Takes.dup rfl | apply Takes.cons | exact Take1.here | apply Take1.there)) ?_
  rintro v_ give_ ⟨xo, xc, rfl, rfl⟩ rs_ hrs_
  simp only [List.cons_append, List.nil_append] at hrs_
  subst hrs_
  repeat (first | fail)
  refine G.lit (cells := flat eB [1, 2, 3]) rfl (by rfl) (by rfl) (by rfl) (by rfl) (by rfl) (by rfl) rfl (fun q0 => ?_)
  have hcat0 : flat eB (z0.take 200) ++ flat eB [1, 2, 3] = flat eB D := by rw [hD, flat_append]
  refine G.app rfl rfl (by rfl) (by omega) rfl (hcat0) (fun d2 dc rs_ hrs_ => ?_)
  try simp only at hrs_
  subst hrs_
  rw [← hDl]
  first | refine G.frz d2 ?_ | refine GC.frz d2 ?_ | refine GE.frz d2 ?_
  repeat (first | (apply G.ex (hd := rfl); case h => (first | exact Ex.move rfl | exact Ex.lenSl rfl | exact Ex.assign rfl)) | refine G.nil ?_ | refine GC.seq ?_ | refine GC.region ?_ | refine GE.then_normal ?_)
  first | refine G.call (caps := []) (picked_sp a1 (D.length : Int) (by omega) (by omega)) rfl rfl rfl rfl (by repeat (first | exact Takes.nil | apply Takes.dup rfl | apply Takes.cons | exact Take1.here | apply Take1.there)) ?_ | refine G.callU (caps := []) (picked_sp a1 (D.length : Int) (by omega) (by omega)) rfl rfl rfl (by repeat (first | exact Takes.nil | apply Takes.dup rfl | apply Takes.cons | exact Take1.here | apply Take1.there)) ?_
  rintro v_ give_ ⟨rfl, rfl⟩ rs_ hrs_
  simp only [List.cons_append, List.nil_append] at hrs_
  subst hrs_
  repeat (first | (apply G.ex (hd := rfl); case h => (first | exact Ex.move rfl | exact Ex.add rfl rfl (by omega) | exact Ex.sub rfl rfl (by omega) | exact Ex.assign rfl)) | refine G.nil ?_ | refine GC.seq ?_ | refine GC.region ?_ | refine GE.then_normal ?_)
  first | refine G.call (caps := []) (picked_sp a2 ((D.length : Int) - a1 % (D.length : Int)) (by omega) (by omega)) rfl rfl rfl rfl (by repeat (first | exact Takes.nil | apply Takes.dup rfl | apply Takes.cons | exact Take1.here | apply Take1.there)) ?_ | refine G.callU (caps := []) (picked_sp a2 ((D.length : Int) - a1 % (D.length : Int)) (by omega) (by omega)) rfl rfl rfl (by repeat (first | exact Takes.nil | apply Takes.dup rfl | apply Takes.cons | exact Take1.here | apply Take1.there)) ?_
  rintro v_ give_ ⟨rfl, rfl⟩ rs_ hrs_
  simp only [List.cons_append, List.nil_append] at hrs_
  subst hrs_
  repeat (first | (apply G.ex (hd := rfl); case h => (first | exact Ex.move rfl | exact Ex.add rfl rfl (by omega) | exact Ex.assign rfl)) | refine G.nil ?_ | refine GC.seq ?_ | refine GC.region ?_ | refine GE.then_normal ?_)
  first | refine G.call (caps := []) (picked_sp a3 ((D.length : Int) + 1) (by omega) (by omega)) rfl rfl rfl rfl (by repeat (first | exact Takes.nil | apply Takes.dup rfl | apply Takes.cons | exact Take1.here | apply Take1.there)) ?_ | refine G.callU (caps := []) (picked_sp a3 ((D.length : Int) + 1) (by omega) (by omega)) rfl rfl rfl (by repeat (first | exact Takes.nil | apply Takes.dup rfl | apply Takes.cons | exact Take1.here | apply Take1.there)) ?_
  rintro v_ give_ ⟨rfl, rfl⟩ rs_ hrs_
  simp only [List.cons_append, List.nil_append] at hrs_
  subst hrs_
  generalize hF : a1 % (D.length : Int) = F at *
  generalize hG : a2 % ((D.length : Int) - F) = G0 at *
  generalize hK : a3 % ((D.length : Int) + 1) = K at *
  obtain ⟨to, hto⟩ : ∃ to, to = F + 1 + G0 := ⟨_, rfl⟩
  rw [← hto] at hlaw ⊢
  obtain ⟨sM, hsM⟩ : ∃ sM : DeM, sM = ⟨1, ⟨d2, D.length, dc, D⟩, 0, 0, ⟨none, 0, 0, []⟩⟩ := ⟨_, rfl⟩
  repeat (first | (apply G.ex (hd := rfl); case h => (first | exact Ex.move rfl | exact Ex.assign rfl | exact Ex.build rfl rfl)) | refine G.nil ?_ | refine GC.seq ?_ | refine GC.region ?_ | refine GE.then_normal ?_)
  refine G.lit (cells := flat eD [(⟨1, ⟨d2, D.length, dc, D⟩, 0, 0, ⟨none, 0, 0, []⟩⟩ : DeM)]) rfl (by rfl) (by rfl) (by rfl) (by rfl) (by rfl) (by rfl) rfl (fun q1 => ?_)
  rw [← hsM]
  repeat (first | (apply G.ex (hd := rfl); case h => (first | exact Ex.assign rfl)) | refine G.nil ?_ | refine GC.seq ?_ | refine GC.region ?_ | refine GC.block ?_ | refine GE.then_normal ?_)
  rw [show flat eD [sM] = flat eD ([sM] ++ List.replicate 0 pM) by simp]
  refine GC.conv (rs' := [.vec 35 5 q1 1 1 (flat eD ([sM] ++ List.replicate 0 pM)), .sl d2 D.length dc 1 (flat eB D)] ++ rest) (fun w_ H_ => ?_) ?_
  · have h_ := H_.take (need := [.vec 35 5 q1 1 1 (flat eD ([sM] ++ List.replicate 0 pM)), .sl d2 D.length dc 1 (flat eB D)]) (by repeat (first | exact Takes.nil | apply Takes.dup rfl | apply Takes.cons | exact Take1.here | apply Take1.there))
    exact subs_app (by repeat (first | exact Subs.refl | refine Subs.skip ?_)) h_
  try simp only [List.append_eq, List.nil_append, List.cons_append]
  refine GC.loop (ι := Nat × Option Addr × Nat) (fun x => x.1 ≤ 10) (fun x => 10 - x.1) (fun x => [(10, .int .i64 (D.length : Int)), (11, .int .i64 F), (12, .int .i64 to), (13, .int .i64 K), (14, .slice x.2.1 (1 + x.1) x.2.2), (15, .int .i64 (x.1 : Int))]) (fun x => [.vec 35 5 x.2.1 (1 + x.1) x.2.2 (flat eD ([sM] ++ List.replicate x.1 pM)), .sl d2 D.length dc 1 (flat eB D)]) (0, q1, 1) (Nat.zero_le _) (by simp only [fits]; repeat (first | exact trivial | refine And.intro rfl ?_)) (by repeat (first | exact Takes.nil | apply Takes.dup rfl | apply Takes.cons | exact Take1.here | apply Take1.there)) ?_
  rintro ⟨i, o1, c1⟩ hi fr_ rs_ hfr_ hrs_
  simp only [List.cons_append, List.nil_append] at hfr_ hrs_
  subst hfr_ hrs_
  have hi' : i ≤ 10 := hi
  repeat (first | (apply G.ex (hd := rfl); case h => (first | exact Ex.move rfl | exact Ex.lss rfl rfl)) | refine G.nil ?_ | refine GC.seq ?_ | refine GC.region ?_ | refine GE.then_normal ?_)
  refine GC.cond_dec rfl (fun hlt => ?_) (fun hlt => ?_)
  · have hcat := rep_cells [sM] i
    repeat (first | (apply G.ex (hd := rfl); case h => (first | exact Ex.move rfl | exact Ex.build rfl rfl)) | refine GC.seq ?_ | refine GC.region ?_ | refine GC.block ?_ | refine GC.skip ?_ | refine GE.then_normal ?_)
    refine G.lit (cells := flat eD [pM]) rfl (by rfl) (by rfl) (by rfl) (by rfl) (by rfl) (by rfl) rfl (fun q => ?_)
    refine G.app rfl rfl (by rfl) (by omega) rfl (hcat) (fun o2 c2 rs_ hrs_ => ?_)
    try simp only at hrs_
    subst hrs_
    repeat (first | (apply G.ex (hd := rfl); case h => (first | exact Ex.move rfl | exact Ex.add rfl rfl (by omega) | exact Ex.assign rfl)) | refine G.nil ?_ | refine GC.region ?_ | refine GE.then_normal ?_ | refine GE.block_normal ?_)
    rw [show (i : Int) + 1 = ((i + 1 : Nat) : Int) by omega]
    refine GE.loop (i + 1, o2, c2) (by simp only; omega) (by simp only; omega) (by simp only [fits]; repeat (first | exact trivial | refine And.intro rfl ?_)) (by repeat (first | exact Takes.nil | apply Takes.dup rfl | apply Takes.cons | exact Take1.here | apply Take1.there)) (by repeat (first | exact Subs.refl | refine Subs.skip ?_))
  obtain rfl : i = 10 := by omega
  repeat (first | (apply G.ex (hd := rfl); case h => (first | exact Ex.move rfl | exact Ex.build rfl rfl)) | refine GC.seq ?_ | refine GC.region ?_ | refine GC.exit ?_ | refine GE.then_normal ?_ | refine GE.then_exit ?_ | refine GE.block_hit ?_)
  refine G.lit (cells := flat eR [(F, to)]) rfl (by rfl) (by rfl) (by rfl) (by rfl) (by rfl) (by rfl) rfl (fun q2 => ?_)
  obtain ⟨hM, hhM⟩ : ∃ hM : DeM, hM = ⟨2, ⟨none, 0, 0, []⟩, K, 0, ⟨q2, 1, 1, [(F, to)]⟩⟩ := ⟨_, rfl⟩
  obtain ⟨tM, htM⟩ : ∃ tM : DeM, tM = ⟨4, ⟨none, 0, 0, []⟩, 0, 0, ⟨none, 0, 0, []⟩⟩ := ⟨_, rfl⟩
  repeat (first | (apply G.ex (hd := rfl); case h => (first | exact Ex.build rfl rfl)))
  refine G.lit (cells := flat eD [(⟨2, ⟨none, 0, 0, []⟩, K, 0, ⟨q2, 1, 1, [(F, to)]⟩⟩ : DeM), ⟨4, ⟨none, 0, 0, []⟩, 0, 0, ⟨none, 0, 0, []⟩⟩]) rfl (by rfl) (by rfl) (by rfl) (by rfl) (by rfl) (by rfl) rfl (fun q3 => ?_)
  rw [← hhM, ← htM]
  first | refine G.frz q2 ?_ | refine GC.frz q2 ?_ | refine GE.frz q2 ?_
  have hcat1 : flat eD ([sM] ++ List.replicate 10 pM) ++ flat eD [hM, tM] = flat eD ([sM] ++ List.replicate 10 pM ++ [hM, tM]) := (flat_append ..).symm
  refine G.app rfl rfl (by rfl) (by omega) rfl (hcat1) (fun o3 c3 rs_ hrs_ => ?_)
  try simp only at hrs_
  subst hrs_
  obtain ⟨D2, hD2⟩ : ∃ D2, D2 = [sM] ++ List.replicate 10 pM ++ [hM, tM] := ⟨_, rfl⟩
  rw [← hD2, show 1 + 10 + 2 = 13 from rfl]
  repeat (first | (apply G.ex (hd := rfl); case h => (first | exact Ex.move rfl | exact Ex.lenSl rfl | exact Ex.assign rfl)) | refine G.nil ?_ | refine GC.seq ?_ | refine GC.region ?_ | refine GC.block ?_ | refine GE.then_normal ?_)
  rw [show flat eD D2 = flat eD (D2 ++ List.replicate 0 pM) by simp]
  refine GC.conv (rs' := [.vec 35 5 o3 13 c3 (flat eD (D2 ++ List.replicate 0 pM)), .sl q2 1 1 2 (flat eR [(F, to)]), .sl d2 D.length dc 1 (flat eB D)] ++ rest) (fun w_ H_ => ?_) ?_
  · have h_ := H_.take (need := [.vec 35 5 o3 13 c3 (flat eD (D2 ++ List.replicate 0 pM)), .sl q2 1 1 2 (flat eR [(F, to)]), .sl d2 D.length dc 1 (flat eB D)]) (by repeat (first | exact Takes.nil | apply Takes.dup rfl | apply Takes.cons | exact Take1.here | apply Take1.there))
    exact subs_app (by repeat (first | exact Subs.refl | refine Subs.skip ?_)) h_
  try simp only [List.append_eq, List.nil_append, List.cons_append]
  refine GC.loop (ι := Nat × Option Addr × Nat) (fun x => x.1 ≤ 12) (fun x => 12 - x.1) (fun x => [(10, .int .i64 (D.length : Int)), (11, .int .i64 F), (12, .int .i64 to), (13, .int .i64 K), (14, .slice x.2.1 (13 + x.1) x.2.2), (16, .int .i64 13), (17, .int .i64 (x.1 : Int))]) (fun x => [.vec 35 5 x.2.1 (13 + x.1) x.2.2 (flat eD (D2 ++ List.replicate x.1 pM)), .sl q2 1 1 2 (flat eR [(F, to)]), .sl d2 D.length dc 1 (flat eB D)]) (0, o3, c3) (Nat.zero_le _) (by simp only [fits]; repeat (first | exact trivial | refine And.intro rfl ?_)) (by repeat (first | exact Takes.nil | apply Takes.dup rfl | apply Takes.cons | exact Take1.here | apply Take1.there)) ?_
  rintro ⟨i, o1, c1⟩ hi fr_ rs_ hfr_ hrs_
  simp only [List.cons_append, List.nil_append] at hfr_ hrs_
  subst hfr_ hrs_
  have hi' : i ≤ 12 := hi
  repeat (first | (apply G.ex (hd := rfl); case h => (first | exact Ex.move rfl | exact Ex.lss rfl rfl)) | refine G.nil ?_ | refine GC.seq ?_ | refine GC.region ?_ | refine GE.then_normal ?_)
  refine GC.cond_dec rfl (fun hlt => ?_) (fun hlt => ?_)
  · have hcat := rep_cells D2 i
    repeat (first | (apply G.ex (hd := rfl); case h => (first | exact Ex.move rfl | exact Ex.build rfl rfl)) | refine GC.seq ?_ | refine GC.region ?_ | refine GC.block ?_ | refine GC.skip ?_ | refine GE.then_normal ?_)
    refine G.lit (cells := flat eD [pM]) rfl (by rfl) (by rfl) (by rfl) (by rfl) (by rfl) (by rfl) rfl (fun q => ?_)
    refine G.app rfl rfl (by rfl) (by omega) rfl (hcat) (fun o2 c2 rs_ hrs_ => ?_)
    try simp only at hrs_
    subst hrs_
    repeat (first | (apply G.ex (hd := rfl); case h => (first | exact Ex.move rfl | exact Ex.add rfl rfl (by omega) | exact Ex.assign rfl)) | refine G.nil ?_ | refine GC.region ?_ | refine GE.then_normal ?_ | refine GE.block_normal ?_)
    rw [show (i : Int) + 1 = ((i + 1 : Nat) : Int) by omega]
    refine GE.loop (i + 1, o2, c2) (by simp only; omega) (by simp only; omega) (by simp only [fits]; repeat (first | exact trivial | refine And.intro rfl ?_)) (by repeat (first | exact Takes.nil | apply Takes.dup rfl | apply Takes.cons | exact Take1.here | apply Take1.there)) (by repeat (first | exact Subs.refl | refine Subs.skip ?_))
  obtain rfl : i = 12 := by omega
  obtain ⟨eM, heM⟩ : ∃ eM : DeM, eM = ⟨2, ⟨none, 0, 0, []⟩, (D.length : Int), 0, ⟨none, 0, 0, []⟩⟩ := ⟨_, rfl⟩
  repeat (first | (apply G.ex (hd := rfl); case h => (first | exact Ex.move rfl | exact Ex.build rfl rfl)) | refine GC.seq ?_ | refine GC.region ?_ | refine GC.exit ?_ | refine GE.then_normal ?_ | refine GE.then_exit ?_ | refine GE.block_hit ?_)
  refine G.lit (cells := flat eD [(⟨2, ⟨none, 0, 0, []⟩, (D.length : Int), 0, ⟨none, 0, 0, []⟩⟩ : DeM), ⟨4, ⟨none, 0, 0, []⟩, 0, 0, ⟨none, 0, 0, []⟩⟩, pM]) rfl (by rfl) (by rfl) (by rfl) (by rfl) (by rfl) (by rfl) rfl (fun q4 => ?_)
  rw [← heM, ← htM]
  have hcat2 : flat eD (D2 ++ List.replicate 12 pM) ++ flat eD [eM, tM, pM] = flat eD (D2 ++ List.replicate 12 pM ++ [eM, tM, pM]) := (flat_append ..).symm
  refine G.app rfl rfl (by rfl) (by omega) rfl (hcat2) (fun o5 c5 rs_ hrs_ => ?_)
  try simp only at hrs_
  subst hrs_
  obtain ⟨D3, hD3⟩ : ∃ D3, D3 = D2 ++ List.replicate 12 pM ++ [eM, tM, pM] := ⟨_, rfl⟩
  rw [← hD3, show 13 + 12 + 3 = 28 from rfl]
  have hmem : ∀ m ∈ D3, m = sM ∨ m = pM ∨ m = hM ∨ m = tM ∨ m = eM := by
    intro m hm
    rw [hD3, hD2] at hm
    simp only [List.mem_append, List.mem_cons, List.mem_replicate, List.not_mem_nil, or_false] at hm
    rcases hm with (((h | h) | (h | h)) | h) | (h | h | h)
    · exact .inl h
    · exact .inr (.inl h.2)
    · exact .inr (.inr (.inl h))
    · exact .inr (.inr (.inr (.inl h)))
    · exact .inr (.inl h.2)
    · exact .inr (.inr (.inr (.inr h)))
    · exact .inr (.inr (.inr (.inl h)))
    · exact .inr (.inl h)
  have hD3l : D3.length = 28 := by rw [hD3, hD2]; simp
  have hde : D3.map toDe = heardD D K F to := by
    rw [hD3, hD2, hsM, hhM, htM, heM]
    unfold heardD polls
    simp only [List.map_append, List.map_cons, List.map_nil, List.map_replicate]
    rfl
  have hMs : ∀ m ∈ D3, MOk m := by
    intro m hm
    rcases hmem m hm with rfl | rfl | rfl | rfl | rfl
    · rw [hsM]; exact ⟨by simp, rfl, rfl, by simp only; omega, by simp⟩
    · exact ⟨by simp, rfl, rfl, by simp, by simp⟩
    · rw [hhM]; exact ⟨by simp, rfl, rfl, by simp, by simp⟩
    · rw [htM]; exact ⟨by simp, rfl, rfl, by simp, by simp⟩
    · rw [heM]; exact ⟨by simp, rfl, rfl, by simp, by simp⟩
  have hrd1 : ∀ z ∈ D3.map (·.d), z = (⟨d2, D.length, dc, D⟩) ∨ z = ⟨none, 0, 0, []⟩ := by
    intro z hz
    obtain ⟨m, hm, rfl⟩ := List.mem_map.1 hz
    rcases hmem m hm with rfl | rfl | rfl | rfl | rfl
    · exact .inl (by rw [hsM])
    · exact .inr rfl
    · exact .inr (by rw [hhM])
    · exact .inr (by rw [htM])
    · exact .inr (by rw [heM])
  have hrd2 : ∀ z ∈ D3.map (·.sk), z = (⟨q2, 1, 1, [(F, to)]⟩) ∨ z = ⟨none, 0, 0, []⟩ := by
    intro z hz
    obtain ⟨m, hm, rfl⟩ := List.mem_map.1 hz
    rcases hmem m hm with rfl | rfl | rfl | rfl | rfl
    · exact .inr (by rw [hsM])
    · exact .inr rfl
    · exact .inl (by rw [hhM])
    · exact .inr (by rw [htM])
    · exact .inr (by rw [heM])
  first | refine G.nilvec 5 1 ?_ | refine GC.nilvec 5 1 ?_
  first | refine G.frz none ?_ | refine GC.frz none ?_ | refine GE.frz none ?_
  refine G.conv (fun w_ H_ => Holds.rdTwo (D3.map (·.d)) ⟨d2, D.length, dc, D⟩ ⟨none, 0, 0, []⟩ hrd1 (H_.take (need := [.sl d2 D.length dc 1 (flat eB D), .sl none 0 0 1 (flat eB [])]) (by repeat (first | exact Takes.nil | apply Takes.dup rfl | apply Takes.cons | exact Take1.here | apply Take1.there)))) ?_
  try simp only [List.append_eq, List.nil_append, List.cons_append]
  first | refine G.nilvec 41 2 ?_ | refine GC.nilvec 41 2 ?_
  first | refine G.frz none ?_ | refine GC.frz none ?_ | refine GE.frz none ?_
  refine G.conv (fun w_ H_ => Holds.rdTwo (D3.map (·.sk)) ⟨q2, 1, 1, [(F, to)]⟩ ⟨none, 0, 0, []⟩ hrd2 (H_.take (need := [.sl q2 1 1 2 (flat eR [(F, to)]), .sl none 0 0 2 (flat eR [])]) (by repeat (first | exact Takes.nil | apply Takes.dup rfl | apply Takes.cons | exact Take1.here | apply Take1.there)))) ?_
  try simp only [List.append_eq, List.nil_append, List.cons_append]
  repeat (first | (apply G.ex (hd := rfl); case h => (first | exact Ex.move rfl | exact Ex.assign rfl)) | refine G.nil ?_ | refine GC.seq ?_ | refine GC.region ?_ | refine GE.then_normal ?_)
  first | refine G.call (caps := []) (sender_sp 1000 (by omega) (.vec 35 5 o5 28 c5 (flat eD D3)) o5 28 c5 D3 hD3l (by omega) hMs) rfl rfl rfl rfl (by repeat (first | exact Takes.nil | apply Takes.dup rfl | apply Takes.cons | exact Take1.here | apply Take1.there)) ?_ | refine G.callU (caps := []) (sender_sp 1000 (by omega) (.vec 35 5 o5 28 c5 (flat eD D3)) o5 28 c5 D3 hD3l (by omega) hMs) rfl rfl rfl (by repeat (first | exact Takes.nil | apply Takes.dup rfl | apply Takes.cons | exact Take1.here | apply Take1.there)) ?_
  rintro v_ give_ ⟨T, o, oc, hT, rfl, rfl⟩ rs_ hrs_
  simp only [List.cons_append, List.nil_append] at hrs_
  subst hrs_
  rw [hde] at hT
  rw [← hT] at hlaw
  have hTl : T.length = 28 := by have := hlaw.len; rwa [List.length_map] at this
  obtain ⟨Z, hZ⟩ : ∃ Z, Z = ((T.map (·.t)).drop 13).take 12 := ⟨_, rfl⟩
  have hZl : Z.length = 12 := by rw [hZ, List.length_take, List.length_drop, List.length_map, hTl]; rfl
  have hZa : ∀ c, c < 12 → Z.getD c default = (T.getD (13 + c) default).t := by
    intro c hc
    rw [hZ, (drop_at (T.map (·.t)) 13 12 c (by rw [List.length_map]; omega) hc).1, getD_mapT _ _ _ (by omega)]
  have hcov := hlaw.cov
  have hbd := hlaw.bd
  rw [← hZ] at hcov hbd
  have hbd' : ∀ c, c < 12 → 0 ≤ (T.getD (13 + c) default).t.from_ ∧ (T.getD (13 + c) default).t.from_ + (T.getD (13 + c) default).t.data.length ≤ (D.length : Int) := by
    intro c hc
    rw [← hZa c hc]
    exact hbd _ (by rw [List.getD_eq_getElem?_getD, List.getElem?_eq_getElem (by omega)]; exact List.getElem_mem _)
  repeat (first | (apply G.ex (hd := rfl); case h => (first | exact Ex.move rfl | exact Ex.extract rfl rfl | exact Ex.assign rfl | exact Ex.notB rfl)) | refine G.nil ?_ | refine GC.seq ?_ | refine GC.region ?_ | refine GC.skip ?_ | refine GE.then_normal ?_ | refine GC.cond_no rfl (by first | assumption | omega) ?_)
  refine G.make rfl rfl (by omega) rfl rfl (fun sa => ?_)
  rw [show zrep [.int .i64 0] D.length = flat (eI .i64) (List.replicate D.length (0 : Int)) from (flat_rep (eI .i64) (0 : Int) D.length).symm]
  repeat (first | (apply G.ex (hd := rfl); case h => (first | exact Ex.move rfl | exact Ex.assign rfl)) | refine G.nil ?_ | refine GC.seq ?_ | refine GC.region ?_ | refine GC.block ?_ | refine GE.then_normal ?_)
  refine GC.conv (rs' := [.vec 32 7 o 28 oc (flat eT T), .vec 3 1 sa D.length D.length (flat (eI .i64) (List.replicate D.length (0 : Int)))] ++ rest) (fun w_ H_ => ?_) ?_
  · have h_ := H_.take (need := [.vec 32 7 o 28 oc (flat eT T), .vec 3 1 sa D.length D.length (flat (eI .i64) (List.replicate D.length (0 : Int)))]) (by repeat (first | exact Takes.nil | apply Takes.dup rfl | apply Takes.cons | exact Take1.here | apply Take1.there))
    exact subs_app (by repeat (first | exact Subs.refl | refine Subs.skip ?_)) h_
  try simp only [List.append_eq, List.nil_append, List.cons_append]
  refine GC.loop (ι := Nat × List Int) (fun x => x.1 ≤ 12 ∧ x.2.length = D.length ∧ ∀ p, p < D.length → x.2.getD p default = (cov (Z.take x.1) (p : Int) : Int)) (fun x => 12 - x.1) (fun x => [(10, .int .i64 (D.length : Int)), (11, .int .i64 F), (12, .int .i64 to), (13, .int .i64 K), (16, .int .i64 13), (18, .slice o 28 oc), (20, .slice sa D.length D.length), (21, .int .i64 ((13 + x.1 : Nat) : Int))]) (fun x => [.vec 32 7 o 28 oc (flat eT T), .vec 3 1 sa D.length D.length (flat (eI .i64) x.2)]) (0, List.replicate D.length 0) ⟨Nat.zero_le _, List.length_replicate, fun p hp => by simp only; rw [List.getD_eq_getElem?_getD, List.getElem?_replicate, if_pos hp]; rfl⟩ (by simp only [fits]; repeat (first | exact trivial | refine And.intro rfl ?_)) (by repeat (first | exact Takes.nil | apply Takes.dup rfl | apply Takes.cons | exact Take1.here | apply Take1.there)) ?_
  rintro ⟨c, S⟩ ⟨hc, hSl, hS⟩ fr_ rs_ hfr_ hrs_
  simp only [List.cons_append, List.nil_append] at hfr_ hrs_
  subst hfr_ hrs_
  simp only at hc hSl hS
  repeat (first | (apply G.ex (hd := rfl); case h => (first | exact Ex.move rfl | exact Ex.add rfl rfl (by omega) | exact Ex.lss rfl rfl)) | refine G.nil ?_ | refine GC.seq ?_ | refine GC.region ?_ | refine GE.then_normal ?_)
  refine GC.cond_dec rfl (fun hlt => ?_) (fun hlt => ?_)
  · have hlt : c < 12 := by omega
    obtain ⟨x1, x2⟩ := hbd' c hlt
    have hct : ∀ p : Int, cov (Z.take (c + 1)) p = cov (Z.take c) p + (if (T.getD (13 + c) default).t.from_ ≤ p ∧ p < (T.getD (13 + c) default).t.from_ + (T.getD (13 + c) default).t.data.length then 1 else 0) := by
      intro p
      rw [cov_take Z c p (by omega), hZa c hlt]
    have h13 : 13 + c < T.length := by omega
    obtain ⟨X, hX⟩ : ∃ X : Nat, (T.getD (13 + c) default).t.from_ = (X : Int) := ⟨(T.getD (13 + c) default).t.from_.toNat, by omega⟩
    repeat (first | (apply G.ex (hd := rfl); case h => (first | exact Ex.assign rfl)) | refine G.nil ?_ | refine GC.seq ?_ | refine GC.region ?_ | refine GC.block ?_ | refine GC.skip ?_ | refine GE.then_normal ?_)
    refine GC.loop (ι := Nat × List Int) (fun x => x.1 ≤ (T.getD (13 + c) default).t.data.length ∧ x.2.length = D.length ∧ ∀ p, p < D.length → x.2.getD p default = (cov (Z.take c) (p : Int) : Int) + if X ≤ p ∧ p < X + x.1 then 1 else 0) (fun x => (T.getD (13 + c) default).t.data.length - x.1) (fun x => [(10, .int .i64 (D.length : Int)), (11, .int .i64 F), (12, .int .i64 to), (13, .int .i64 K), (16, .int .i64 13), (18, .slice o 28 oc), (20, .slice sa D.length D.length), (21, .int .i64 ((13 + c : Nat) : Int)), (22, .int .i64 (x.1 : Int))]) (fun x => [.vec 32 7 o 28 oc (flat eT T), .vec 3 1 sa D.length D.length (flat (eI .i64) x.2)]) (0, S) ⟨Nat.zero_le _, hSl, fun p hp => by simp only; rw [hS p hp, if_neg (by omega)]; rfl⟩ (by simp only [fits]; repeat (first | exact trivial | refine And.intro rfl ?_)) (by repeat (first | exact Takes.nil | apply Takes.dup rfl | apply Takes.cons | exact Take1.here | apply Take1.there)) ?_
    rintro ⟨j, S1⟩ ⟨hj, hS1l, hS1⟩ fr_ rs_ hfr_ hrs_
    simp only [List.cons_append, List.nil_append] at hfr_ hrs_
    subst hfr_ hrs_
    simp only at hj hS1l hS1
    repeat (first | (apply G.ex (hd := rfl); case h => (first | exact Ex.move rfl | exact Ex.fieldE rfl | exact Ex.lss rfl rfl | exact Ex.lenSl rfl | exact Ex.indexN rfl rfl (by first | omega | (simp; done) | (simp; omega)) | exact Ex.loadT rfl (by first | omega | (simp; done) | (simp; omega)) rfl)) | refine G.nil ?_ | refine GC.seq ?_ | refine GC.region ?_ | refine GE.then_normal ?_)
    refine GC.cond_dec rfl (fun hjl => ?_) (fun hjl => ?_)
    · have hjl : j < (T.getD (13 + c) default).t.data.length := by omega
      have hXj : X + j < D.length := by omega
      repeat ((fail_if_success (refine GC.region (id := 31) ?_)); first | (apply G.ex (hd := rfl); case h => (first | exact Ex.move rfl | exact Ex.fieldE rfl | exact Ex.add rfl rfl (by omega) | exact Ex.lss rfl rfl | exact Ex.geq rfl rfl | exact Ex.indexN rfl rfl (by first | omega | (simp; done) | (simp; omega)) | exact Ex.loadT rfl (by first | omega | (simp; done) | (simp; omega)) rfl | exact Ex.assign rfl | exact Ex.pickF rfl (by first | assumption | omega) rfl)) | refine G.g_ff rfl rfl (by first | assumption | omega) ?_ | refine G.nil ?_ | refine GC.seq ?_ | refine GC.region ?_ | refine GC.block ?_ | refine GC.skip ?_ | refine GE.then_normal ?_ | refine GC.cond_no rfl (by first | assumption | omega) ?_)
      rw [hX, show (X : Int) + (j : Int) = ((X + j : Nat) : Int) by omega]
      have hv := hS1 (X + j) hXj
      have hcb : cov (Z.take c) ((X + j : Nat) : Int) ≤ 12 := by
        unfold cov
        exact Nat.le_trans (List.length_filter_le ..) (by rw [List.length_take]; omega)
      have hvb : 0 ≤ S1.getD (X + j) default ∧ S1.getD (X + j) default ≤ 13 := by rw [hv]; split <;> omega
      repeat (first | (apply G.ex (hd := rfl); case h => (first | exact Ex.move rfl | exact Ex.add rfl rfl (by omega) | exact Ex.indexN rfl rfl (by first | omega | (simp; done) | (simp; omega)) | exact Ex.loadT0 rfl (by first | omega | (simp; done) | (simp; omega)) rfl)) | refine GC.region ?_)
      first | refine G.storeT0 rfl rfl rfl rfl (by first | omega | (simp; omega)) rfl ((S1.getD (X + j) default + 1)) (rfl) (fun rs_ hrs_ => ?_) | refine G.storeT rfl rfl rfl rfl (by first | omega | (simp; omega)) rfl ((S1.getD (X + j) default + 1)) (rfl) (fun rs_ hrs_ => ?_) | refine G.storeTA rfl rfl (by first | omega | (simp; omega)) rfl ((S1.getD (X + j) default + 1)) (rfl) (fun rs_ hrs_ => ?_)
      try simp only at hrs_
      subst hrs_
      repeat (first | (apply G.ex (hd := rfl); case h => (first | exact Ex.move rfl | exact Ex.add rfl rfl (by omega) | exact Ex.assign rfl)) | refine G.nil ?_ | refine GC.region ?_ | refine GE.then_normal ?_ | refine GE.block_normal ?_)
      rw [show (j : Int) + 1 = ((j + 1 : Nat) : Int) by omega]
      have hnx : ∀ p, p < D.length → (S1.set (X + j) (S1.getD (X + j) default + 1)).getD p default = (cov (Z.take c) (p : Int) : Int) + if X ≤ p ∧ p < X + (j + 1) then 1 else 0 := by
        intro p hp
        rw [getD_set1 _ _ _ _ (by omega)]
        by_cases e : p = X + j
        · subst e
          rw [if_pos rfl, hv, if_neg (by omega), if_pos (by omega)]; omega
        · rw [if_neg e, hS1 p hp]
          by_cases e2 : X ≤ p ∧ p < X + j
          · rw [if_pos e2, if_pos (by omega)]
          · rw [if_neg e2, if_neg (by omega)]
      refine GE.loop (j + 1, S1.set (X + j) (S1.getD (X + j) default + 1)) ⟨by simp only; omega, by simp only [List.length_set]; exact hS1l, hnx⟩ (by simp only; omega) (by simp only [fits]; repeat (first | exact trivial | refine And.intro rfl ?_)) (by repeat (first | exact Takes.nil | apply Takes.dup rfl | apply Takes.cons | exact Take1.here | apply Take1.there)) (by repeat (first | exact Subs.refl | refine Subs.skip ?_))
    · have hje : j = (T.getD (13 + c) default).t.data.length := by omega
      repeat (first | (apply G.ex (hd := rfl); case h => (first | exact Ex.move rfl | exact Ex.add rfl rfl (by omega) | exact Ex.assign rfl)) | refine G.nil ?_ | refine GC.region ?_ | refine GC.exit ?_ | refine GE.then_normal ?_ | refine GE.then_exit ?_ | refine GE.block_normal ?_ | refine GE.block_hit ?_)
      rw [show ((13 + c : Nat) : Int) + 1 = ((13 + (c + 1) : Nat) : Int) by omega]
      have hnx : ∀ p, p < D.length → S1.getD p default = (cov (Z.take (c + 1)) (p : Int) : Int) := by
        intro p hp
        rw [hS1 p hp, hct, hX, ← hje]
        by_cases e2 : X ≤ p ∧ p < X + j
        · rw [if_pos e2, if_pos (by omega)]; omega
        · rw [if_neg e2, if_neg (by omega)]; omega
      refine GE.loop (c + 1, S1) ⟨by simp only; omega, hS1l, hnx⟩ (by simp only; omega) (by simp only [fits]; repeat (first | exact trivial | refine And.intro rfl ?_)) (by repeat (first | exact Takes.nil | apply Takes.dup rfl | apply Takes.cons | exact Take1.here | apply Take1.there)) (by repeat (first | exact Subs.refl | refine Subs.skip ?_))
  obtain rfl : c = 12 := by omega
  rw [show Z.take 12 = Z by rw [← hZl, List.take_length]] at hS
  repeat (first | (apply G.ex (hd := rfl); case h => (first | exact Ex.assign rfl)) | refine G.nil ?_ | refine GC.seq ?_ | refine GC.region ?_ | refine GC.block ?_ | refine GC.exit ?_ | refine GE.then_normal ?_ | refine GE.then_exit ?_ | refine GE.block_hit ?_)
  refine GC.loop (ι := Nat) (fun p => p ≤ D.length) (fun p => D.length - p) (fun p => [(10, .int .i64 (D.length : Int)), (11, .int .i64 F), (12, .int .i64 to), (13, .int .i64 K), (18, .slice o 28 oc), (20, .slice sa D.length D.length), (24, .int .i64 (p : Int))]) (fun p => [.vec 32 7 o 28 oc (flat eT T), .vec 3 1 sa D.length D.length (flat (eI .i64) S)]) 0 (Nat.zero_le _) (by simp only [fits]; repeat (first | exact trivial | refine And.intro rfl ?_)) (by repeat (first | exact Takes.nil | apply Takes.dup rfl | apply Takes.cons | exact Take1.here | apply Take1.there)) ?_
  rintro p hp fr_ rs_ hfr_ hrs_
  simp only [List.cons_append, List.nil_append] at hfr_ hrs_
  subst hfr_ hrs_
  repeat (first | (apply G.ex (hd := rfl); case h => (first | exact Ex.move rfl | exact Ex.lss rfl rfl)) | refine G.nil ?_ | refine GC.seq ?_ | refine GC.region ?_ | refine GE.then_normal ?_)
  refine GC.cond_dec rfl (fun hlt => ?_) (fun hlt => ?_)
  · have hlt : p < D.length := by omega
    have hw := hS p hlt
    rw [hcov p (by omega) (by omega)] at hw
    by_cases e1 : (p : Int) < K
    · rw [if_pos (.inl e1)] at hw
      have hw' : ¬ ¬ S.getD p default = 0 := fun h => h hw
      repeat (first | (apply G.ex (hd := rfl); case h => (first | exact Ex.move rfl | exact Ex.add rfl rfl (by omega) | exact Ex.lss rfl rfl | exact Ex.neI rfl rfl | exact Ex.indexN rfl rfl (by first | omega | (simp; done) | (simp; omega)) | exact Ex.loadT0 rfl (by first | omega | (simp; done) | (simp; omega)) rfl | exact Ex.assign rfl | exact Ex.pickT rfl (by first | assumption | omega) rfl)) | refine G.g_ft rfl rfl (by first | assumption | omega) rfl ?_ | refine G.g_un rfl rfl rfl ?_ | refine G.nil ?_ | refine GC.seq ?_ | refine GC.region ?_ | refine GC.block ?_ | refine GC.skip ?_ | refine GE.then_normal ?_ | refine GE.block_normal ?_ | refine GC.cond_no rfl (by first | assumption | omega) ?_ | refine GC.cond_t rfl ?_)
      rw [show (p : Int) + 1 = ((p + 1 : Nat) : Int) by omega]
      refine GE.loop (p + 1) (by omega) (by omega) (by simp only [fits]; repeat (first | exact trivial | refine And.intro rfl ?_)) (by repeat (first | exact Takes.nil | apply Takes.dup rfl | apply Takes.cons | exact Take1.here | apply Take1.there)) (by repeat (first | exact Subs.refl | refine Subs.skip ?_))
    · by_cases e2 : F ≤ (p : Int)
      · by_cases e3 : (p : Int) < to
        · rw [if_pos (.inr ⟨e2, e3⟩)] at hw
          have hw' : ¬ ¬ S.getD p default = 0 := fun h => h hw
          repeat (first | (apply G.ex (hd := rfl); case h => (first | exact Ex.move rfl | exact Ex.add rfl rfl (by omega) | exact Ex.lss rfl rfl | exact Ex.geq rfl rfl | exact Ex.neI rfl rfl | exact Ex.indexN rfl rfl (by first | omega | (simp; done) | (simp; omega)) | exact Ex.loadT0 rfl (by first | omega | (simp; done) | (simp; omega)) rfl | exact Ex.assign rfl | exact Ex.pickT rfl (by first | assumption | omega) rfl | exact Ex.pickF rfl (by first | assumption | omega) rfl)) | refine G.g_tt rfl rfl (by first | assumption | omega) ?_ | refine G.g_ff rfl rfl (by first | assumption | omega) ?_ | refine G.nil ?_ | refine GC.seq ?_ | refine GC.region ?_ | refine GC.block ?_ | refine GC.skip ?_ | refine GE.then_normal ?_ | refine GE.block_normal ?_ | refine GC.cond_yes rfl (by first | assumption | omega) ?_ | refine GC.cond_no rfl (by first | assumption | omega) ?_)
          rw [show (p : Int) + 1 = ((p + 1 : Nat) : Int) by omega]
          refine GE.loop (p + 1) (by omega) (by omega) (by simp only [fits]; repeat (first | exact trivial | refine And.intro rfl ?_)) (by repeat (first | exact Takes.nil | apply Takes.dup rfl | apply Takes.cons | exact Take1.here | apply Take1.there)) (by repeat (first | exact Subs.refl | refine Subs.skip ?_))
        · rw [if_neg (by omega)] at hw
          have hw' : ¬ ¬ S.getD p default = 1 := fun h => h hw
          repeat (first | (apply G.ex (hd := rfl); case h => (first | exact Ex.move rfl | exact Ex.add rfl rfl (by omega) | exact Ex.lss rfl rfl | exact Ex.geq rfl rfl | exact Ex.neI rfl rfl | exact Ex.indexN rfl rfl (by first | omega | (simp; done) | (simp; omega)) | exact Ex.loadT0 rfl (by first | omega | (simp; done) | (simp; omega)) rfl | exact Ex.assign rfl | exact Ex.pickT rfl (by first | assumption | omega) rfl | exact Ex.pickF rfl (by first | assumption | omega) rfl)) | refine G.g_tt rfl rfl (by first | assumption | omega) ?_ | refine G.g_ff rfl rfl (by first | assumption | omega) ?_ | refine G.nil ?_ | refine GC.seq ?_ | refine GC.region ?_ | refine GC.block ?_ | refine GC.skip ?_ | refine GE.then_normal ?_ | refine GE.block_normal ?_ | refine GC.cond_no rfl (by first | assumption | omega) ?_)
          rw [show (p : Int) + 1 = ((p + 1 : Nat) : Int) by omega]
          refine GE.loop (p + 1) (by omega) (by omega) (by simp only [fits]; repeat (first | exact trivial | refine And.intro rfl ?_)) (by repeat (first | exact Takes.nil | apply Takes.dup rfl | apply Takes.cons | exact Take1.here | apply Take1.there)) (by repeat (first | exact Subs.refl | refine Subs.skip ?_))
      · rw [if_neg (by omega)] at hw
        have hw' : ¬ ¬ S.getD p default = 1 := fun h => h hw
        repeat (first | (apply G.ex (hd := rfl); case h => (first | exact Ex.move rfl | exact Ex.add rfl rfl (by omega) | exact Ex.lss rfl rfl | exact Ex.geq rfl rfl | exact Ex.neI rfl rfl | exact Ex.indexN rfl rfl (by first | omega | (simp; done) | (simp; omega)) | exact Ex.loadT0 rfl (by first | omega | (simp; done) | (simp; omega)) rfl | exact Ex.assign rfl | exact Ex.pickF rfl (by first | assumption | omega) rfl)) | refine G.g_tf rfl rfl (by first | assumption | omega) rfl ?_ | refine G.g_ff rfl rfl (by first | assumption | omega) ?_ | refine G.nil ?_ | refine GC.seq ?_ | refine GC.region ?_ | refine GC.block ?_ | refine GC.skip ?_ | refine GE.then_normal ?_ | refine GE.block_normal ?_ | refine GC.cond_no rfl (by first | assumption | omega) ?_ | refine GC.cond_f rfl ?_)
        rw [show (p : Int) + 1 = ((p + 1 : Nat) : Int) by omega]
        refine GE.loop (p + 1) (by omega) (by omega) (by simp only [fits]; repeat (first | exact trivial | refine And.intro rfl ?_)) (by repeat (first | exact Takes.nil | apply Takes.dup rfl | apply Takes.cons | exact Take1.here | apply Take1.there)) (by repeat (first | exact Subs.refl | refine Subs.skip ?_))
  · have hid := hlaw.idle
    have hle := hlaw.left
    rw [getD_mapT _ _ _ (by omega)] at hid hle
    have h27 : 27 < T.length := by omega
    repeat ((fail_if_success (refine GC.region (id := 41) ?_)); first | (apply G.ex (hd := rfl); case h => (first | exact Ex.move rfl | exact Ex.sub rfl rfl (by omega) | exact Ex.lenSl rfl | exact Ex.assign rfl)) | refine G.nil ?_ | refine GC.seq ?_ | refine GC.region ?_ | refine GC.exit ?_ | refine GE.then_normal ?_ | refine GE.then_exit ?_ | refine GE.block_hit ?_)
    rw [show ((28 : Nat) : Int) - 1 = ((27 : Nat) : Int) from rfl]
    repeat (first | (apply G.ex (hd := rfl); case h => (first | exact Ex.move rfl | exact Ex.fieldE rfl | exact Ex.indexN rfl rfl (by first | omega | (simp; done) | (simp; omega)) | exact Ex.loadT rfl (by first | omega | (simp; done) | (simp; omega)) rfl)) | refine GC.region ?_)
    rw [hid]
    repeat (first | (apply G.ex (hd := rfl); case h => (first | exact Ex.move rfl | exact Ex.fieldE rfl | exact Ex.eqI rfl rfl | exact Ex.indexN rfl rfl (by first | omega | (simp; done) | (simp; omega)) | exact Ex.loadT rfl (by first | omega | (simp; done) | (simp; omega)) rfl | exact Ex.assign rfl | exact Ex.pickLT rfl rfl)) | refine G.yes rfl rfl ?_ | refine G.nil ?_ | refine GC.ret ?_ | refine GE.then_normal ?_)
    refine GE.ret (by first | exact .inl rfl | exact .inr rfl) (by first | exact res0 Try.results5 | exact res1 Try.results5 rfl | exact res2 Try.results5 rfl rfl | exact resR1 Try.results5 (by first | exact RV.tmp rfl | exact RV.cell rfl (eP_len _) | exact RV.cell rfl rfl | exact RV.cell1 rfl) | exact resR2 Try.results5 (by first | exact RV.tmp rfl | exact RV.cell rfl (eP_len _) | exact RV.cell rfl rfl | exact RV.cell1 rfl) (by first | exact RV.tmp rfl | exact RV.cell rfl (eP_len _) | exact RV.cell rfl rfl | exact RV.cell1 rfl) | exact resR3 Try.results5 (by first | exact RV.tmp rfl | exact RV.cell rfl (eP_len _) | exact RV.cell rfl rfl | exact RV.cell1 rfl) (by first | exact RV.tmp rfl | exact RV.cell rfl (eP_len _) | exact RV.cell rfl rfl | exact RV.cell1 rfl) (by first | exact RV.tmp rfl | exact RV.cell rfl (eP_len _) | exact RV.cell rfl rfl | exact RV.cell1 rfl)) ⟨by rw [decide_eq_true hle], rfl⟩ (by repeat (first | exact Takes.nil | apply Takes.dup rfl | apply Takes.cons | exact Take1.here | apply Take1.there)) (by repeat (first | exact Subs.refl | refine Subs.skip ?_))
end send
end Go.Proofs.Ytnikohhhfbdalaa
