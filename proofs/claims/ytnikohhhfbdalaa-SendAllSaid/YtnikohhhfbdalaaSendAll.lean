/-
  CONTRACT of packthreadkeep.SendAll, by the kit.
-/
import Derived.Test.YtnikohhhfbdalaaSendF
import Derived.Test.YtnikohhhfbdalaaSendAP
import Derived.Test.YtnikohhhfbdalaaKit30
namespace Go.Proofs.Ytnikohhhfbdalaa
open Go.RowKit
attribute [local irreducible] Ex G GC GE Gq FPost LPost
set_option linter.unusedVariables false
set_option linter.unusedSimpArgs false
namespace send
open hole
abbrev pM : DeM := ⟨3, ⟨none, 0, 0, []⟩, 0, 0, ⟨none, 0, 0, []⟩⟩
theorem rep_cells (A : List DeM) (i : Nat) : flat eD (A ++ List.replicate i pM) ++ flat eD [pM] = flat eD (A ++ List.replicate (i + 1) pM) := by
  rw [← flat_append, List.append_assoc, ← List.replicate_succ']
theorem polls_len (n : Nat) : (polls n).length = n := by unfold polls; simp
theorem polls_at (s : Se) (n i : Nat) (h : i < n) : (runs s (polls n)).getD i default = (pollF (ends s (polls i))).2 ∧ ends s (polls (i + 1)) = (pollF (ends s (polls i))).1 := by
  obtain ⟨h1, h2⟩ := runs_at (polls n) s i (by rw [polls_len]; exact h)
  have e : ∀ j, j ≤ n → (polls n).take j = polls j := by
    intro j hj
    unfold polls
    rw [List.take_replicate, Nat.min_eq_left hj]
  have e2 : (polls n).getD i default = .poll := by
    unfold polls
    rw [List.getD_eq_getElem?_getD, List.getElem?_replicate, if_pos h]; rfl
  rw [e i (by omega), e2] at h1 h2
  rw [e (i + 1) (by omega)] at h2
  exact ⟨h1, h2⟩
structure Law (s1 : Se) (i : Nat) (at_ sum : Int) (idle : Bool) : Prop where
  le : i ≤ 60
  lat : -1 ≤ at_ ∧ at_ ≤ (ends s1 (polls i)).again
  lsum : 0 ≤ sum ∧ sum ≤ s1.left
  go : idle = false → sum + U (ends s1 (polls i)) ≤ s1.left ∧ psi (ends s1 (polls i)) + i ≤ 45
  still : idle = true → Still (ends s1 (polls i))
set_option maxHeartbeats 16000000 in
theorem sendAll_sp (a0 : Option Addr) (len0 cap0 : Nat) (z0 : List WiM) (hl0 : z0.length = len0) (hb0 : len0 ≤ 9223372036854775807) (hw0 : ∀ m ∈ z0, WOk m) (a1 : Option Addr) (len1 cap1 : Nat) (z1 : List UInt8) (hl1 : z1.length = len1) (hb1 : len1 ≤ 9223372036854775807) :
    Spec Try.prog 4 [.slice a0 len0 cap0, .slice a1 len1 cap1] [.sl a0 len0 cap0 4 (flat eWi z0), .per (Rd eB 1 (z0.map (·.d))), .sl a1 len1 cap1 1 (flat eB z1)] fun v give => v = .bool true ∧ give = [] := by
  have htt : ¬ ¬ true = true := fun h => h rfl
  have hff : ¬ false = true := by decide
  refine Spec.intro Try.func4 rfl Try.ntmps4 rfl fun w0 rest rs_ hrs_ => ?_
  simp only [List.cons_append, List.nil_append] at hrs_
  subst hrs_
  repeat (first | (apply G.ex (hd := rfl); case h => (first | exact Ex.move rfl | exact Ex.assign rfl)) | refine G.nil ?_ | refine GC.seq ?_ | refine GC.region ?_ | refine GE.then_normal ?_)
  first | refine G.call (caps := []) (deeds_sp a0 len0 cap0 z0 hl0 hb0 hw0 80 (by omega) 150 (by omega)) rfl rfl rfl rfl (by repeat (first | exact Takes.nil | apply Takes.dup rfl | apply Takes.cons | exact Take1.here | apply Take1.there)) ?_ | refine G.callU (caps := []) (deeds_sp a0 len0 cap0 z0 hl0 hb0 hw0 80 (by omega) 150 (by omega)) rfl rfl rfl (by repeat (first | exact Takes.nil | apply Takes.dup rfl | apply Takes.cons | exact Take1.here | apply Take1.there)) ?_
  rintro v_ give_ ⟨A, oa, oac, hAN, hA, rfl, rfl⟩ rs_ hrs_
  simp only [List.cons_append, List.nil_append] at hrs_
  subst hrs_
  repeat (first | (apply G.ex (hd := rfl); case h => (first | exact Ex.move rfl)))
  first | refine G.call (caps := []) (octets_sp a1 len1 cap1 z1 hl1 hb1 200 (by omega)) rfl rfl rfl rfl (by repeat (first | exact Takes.nil | apply Takes.dup rfl | apply Takes.cons | exact Take1.here | apply Take1.there)) ?_ | refine G.callU (caps := []) (octets_sp a1 len1 cap1 z1 hl1 hb1 200 (by omega)) rfl rfl rfl (by repeat (first | exact Takes.nil | apply Takes.dup rfl | apply Takes.cons | exact Take1.here | apply Take1.there)) ?_
  rintro v_ give_ ⟨xo, xc, rfl, rfl⟩ rs_ hrs_
  simp only [List.cons_append, List.nil_append] at hrs_
  subst hrs_
  first | refine G.frz xo ?_ | refine GC.frz xo ?_ | refine GE.frz xo ?_
  have hXl : (z1.take 200).length = min len1 200 := by rw [List.length_take, hl1]; omega
  generalize z1.take 200 = X at *
  obtain ⟨sM, hsM⟩ : ∃ sM : DeM, sM = ⟨1, ⟨xo, min len1 200, xc, X⟩, 0, 0, ⟨none, 0, 0, []⟩⟩ := ⟨_, rfl⟩
  obtain ⟨tM, htM⟩ : ∃ tM : DeM, tM = ⟨4, ⟨none, 0, 0, []⟩, 0, 0, ⟨none, 0, 0, []⟩⟩ := ⟨_, rfl⟩
  repeat (first | (apply G.ex (hd := rfl); case h => (first | exact Ex.build rfl rfl)))
  refine G.lit (cells := flat eD [(⟨1, ⟨xo, min len1 200, xc, X⟩, 0, 0, ⟨none, 0, 0, []⟩⟩ : DeM)]) rfl (by rfl) (by rfl) (by rfl) (by rfl) (by rfl) (by rfl) rfl (fun q1 => ?_)
  rw [← hsM]
  have hcat0 : flat eD A ++ flat eD [sM] = flat eD (A ++ [sM]) := (flat_append ..).symm
  refine G.app rfl rfl (by rfl) (by omega) rfl (hcat0) (fun o1 c1 rs_ hrs_ => ?_)
  try simp only at hrs_
  subst hrs_
  repeat (first | (apply G.ex (hd := rfl); case h => (first | exact Ex.assign rfl)) | refine G.nil ?_ | refine GC.seq ?_ | refine GC.region ?_ | refine GC.block ?_ | refine GE.then_normal ?_)
  obtain ⟨D1, hD1⟩ : ∃ D1, D1 = A ++ [sM] := ⟨_, rfl⟩
  rw [← hD1, show flat eD D1 = flat eD (D1 ++ List.replicate 0 pM) by simp]
  refine GC.conv (rs' := [.vec 35 5 o1 (A.length + 1) c1 (flat eD (D1 ++ List.replicate 0 pM)), .sl xo (min len1 200) xc 1 (flat eB X), .per (Rd eB 1 (A.map (·.d))), .per (Rd eR 2 (A.map (·.sk)))] ++ rest) (fun w_ H_ => ?_) ?_
  · have h_ := H_.take (need := [.vec 35 5 o1 (A.length + 1) c1 (flat eD (D1 ++ List.replicate 0 pM)), .sl xo (min len1 200) xc 1 (flat eB X), .per (Rd eB 1 (A.map (·.d))), .per (Rd eR 2 (A.map (·.sk)))]) (by repeat (first | exact Takes.nil | apply Takes.dup rfl | apply Takes.cons | exact Take1.here | apply Take1.there))
    exact subs_app (by repeat (first | exact Subs.refl | refine Subs.skip ?_)) h_
  try simp only [List.append_eq, List.nil_append, List.cons_append]
  refine GC.loop (ι := Nat × Option Addr × Nat) (fun x => x.1 ≤ 40) (fun x => 40 - x.1) (fun x => [(5, .slice x.2.1 (A.length + 1 + x.1) x.2.2), (6, .int .i64 (x.1 : Int))]) (fun x => [.vec 35 5 x.2.1 (A.length + 1 + x.1) x.2.2 (flat eD (D1 ++ List.replicate x.1 pM)), .sl xo (min len1 200) xc 1 (flat eB X), .per (Rd eB 1 (A.map (·.d))), .per (Rd eR 2 (A.map (·.sk)))]) (0, o1, c1) (Nat.zero_le _) (by simp only [fits]; repeat (first | exact trivial | refine And.intro rfl ?_)) (by repeat (first | exact Takes.nil | apply Takes.dup rfl | apply Takes.cons | exact Take1.here | apply Take1.there)) ?_
  rintro ⟨i, o2, c2⟩ hi fr_ rs_ hfr_ hrs_
  simp only [List.cons_append, List.nil_append] at hfr_ hrs_
  subst hfr_ hrs_
  have hi' : i ≤ 40 := hi
  repeat (first | (apply G.ex (hd := rfl); case h => (first | exact Ex.move rfl | exact Ex.lss rfl rfl)) | refine G.nil ?_ | refine GC.seq ?_ | refine GC.region ?_ | refine GE.then_normal ?_)
  refine GC.cond_dec rfl (fun hlt => ?_) (fun hlt => ?_)
  · have hcat := rep_cells D1 i
    repeat (first | (apply G.ex (hd := rfl); case h => (first | exact Ex.move rfl | exact Ex.build rfl rfl)) | refine GC.seq ?_ | refine GC.region ?_ | refine GC.block ?_ | refine GC.skip ?_ | refine GE.then_normal ?_)
    refine G.lit (cells := flat eD [pM]) rfl (by rfl) (by rfl) (by rfl) (by rfl) (by rfl) (by rfl) rfl (fun q => ?_)
    refine G.app rfl rfl (by rfl) (by omega) rfl (hcat) (fun o3 c3 rs_ hrs_ => ?_)
    try simp only at hrs_
    subst hrs_
    repeat (first | (apply G.ex (hd := rfl); case h => (first | exact Ex.move rfl | exact Ex.add rfl rfl (by omega) | exact Ex.assign rfl)) | refine G.nil ?_ | refine GC.region ?_ | refine GE.then_normal ?_ | refine GE.block_normal ?_)
    rw [show (i : Int) + 1 = ((i + 1 : Nat) : Int) by omega]
    refine GE.loop (i + 1, o3, c3) (by simp only; omega) (by simp only; omega) (by simp only [fits]; repeat (first | exact trivial | refine And.intro rfl ?_)) (by repeat (first | exact Takes.nil | apply Takes.dup rfl | apply Takes.cons | exact Take1.here | apply Take1.there)) (by repeat (first | exact Subs.refl | refine Subs.skip ?_))
  obtain rfl : i = 40 := by omega
  repeat (first | (apply G.ex (hd := rfl); case h => (first | exact Ex.move rfl | exact Ex.build rfl rfl)) | refine GC.seq ?_ | refine GC.region ?_ | refine GC.exit ?_ | refine GE.then_normal ?_ | refine GE.then_exit ?_ | refine GE.block_hit ?_)
  refine G.lit (cells := flat eD [(⟨4, ⟨none, 0, 0, []⟩, 0, 0, ⟨none, 0, 0, []⟩⟩ : DeM)]) rfl (by rfl) (by rfl) (by rfl) (by rfl) (by rfl) (by rfl) rfl (fun q3 => ?_)
  rw [← htM]
  have hcat1 : flat eD (D1 ++ List.replicate 40 pM) ++ flat eD [tM] = flat eD (D1 ++ List.replicate 40 pM ++ [tM]) := (flat_append ..).symm
  refine G.app rfl rfl (by rfl) (by omega) rfl (hcat1) (fun o4 c4 rs_ hrs_ => ?_)
  try simp only at hrs_
  subst hrs_
  obtain ⟨D2, hD2⟩ : ∃ D2, D2 = D1 ++ List.replicate 40 pM ++ [tM] := ⟨_, rfl⟩
  rw [← hD2, show flat eD D2 = flat eD (D2 ++ List.replicate 0 pM) by simp]
  obtain ⟨N, hN⟩ : ∃ N, N = A.length + 1 + 40 + 1 := ⟨_, rfl⟩
  rw [← hN]
  repeat (first | (apply G.ex (hd := rfl); case h => (first | exact Ex.move rfl | exact Ex.lenSl rfl | exact Ex.assign rfl)) | refine G.nil ?_ | refine GC.seq ?_ | refine GC.region ?_ | refine GC.block ?_ | refine GE.then_normal ?_)
  refine GC.conv (rs' := [.vec 35 5 o4 N c4 (flat eD (D2 ++ List.replicate 0 pM)), .sl xo (min len1 200) xc 1 (flat eB X), .per (Rd eB 1 (A.map (·.d))), .per (Rd eR 2 (A.map (·.sk)))] ++ rest) (fun w_ H_ => ?_) ?_
  · have h_ := H_.take (need := [.vec 35 5 o4 N c4 (flat eD (D2 ++ List.replicate 0 pM)), .sl xo (min len1 200) xc 1 (flat eB X), .per (Rd eB 1 (A.map (·.d))), .per (Rd eR 2 (A.map (·.sk)))]) (by repeat (first | exact Takes.nil | apply Takes.dup rfl | apply Takes.cons | exact Take1.here | apply Take1.there))
    exact subs_app (by repeat (first | exact Subs.refl | refine Subs.skip ?_)) h_
  try simp only [List.append_eq, List.nil_append, List.cons_append]
  refine GC.loop (ι := Nat × Option Addr × Nat) (fun x => x.1 ≤ 60) (fun x => 60 - x.1) (fun x => [(5, .slice x.2.1 (N + x.1) x.2.2), (7, .int .i64 (N : Int)), (8, .int .i64 (x.1 : Int))]) (fun x => [.vec 35 5 x.2.1 (N + x.1) x.2.2 (flat eD (D2 ++ List.replicate x.1 pM)), .sl xo (min len1 200) xc 1 (flat eB X), .per (Rd eB 1 (A.map (·.d))), .per (Rd eR 2 (A.map (·.sk)))]) (0, o4, c4) (Nat.zero_le _) (by simp only [fits]; repeat (first | exact trivial | refine And.intro rfl ?_)) (by repeat (first | exact Takes.nil | apply Takes.dup rfl | apply Takes.cons | exact Take1.here | apply Take1.there)) ?_
  rintro ⟨i, o5, c5⟩ hi fr_ rs_ hfr_ hrs_
  simp only [List.cons_append, List.nil_append] at hfr_ hrs_
  subst hfr_ hrs_
  have hi' : i ≤ 60 := hi
  repeat (first | (apply G.ex (hd := rfl); case h => (first | exact Ex.move rfl | exact Ex.lss rfl rfl)) | refine G.nil ?_ | refine GC.seq ?_ | refine GC.region ?_ | refine GE.then_normal ?_)
  refine GC.cond_dec rfl (fun hlt => ?_) (fun hlt => ?_)
  · have hcat := rep_cells D2 i
    repeat (first | (apply G.ex (hd := rfl); case h => (first | exact Ex.move rfl | exact Ex.build rfl rfl)) | refine GC.seq ?_ | refine GC.region ?_ | refine GC.block ?_ | refine GC.skip ?_ | refine GE.then_normal ?_)
    refine G.lit (cells := flat eD [pM]) rfl (by rfl) (by rfl) (by rfl) (by rfl) (by rfl) (by rfl) rfl (fun q => ?_)
    refine G.app rfl rfl (by rfl) (by omega) rfl (hcat) (fun o6 c6 rs_ hrs_ => ?_)
    try simp only at hrs_
    subst hrs_
    repeat (first | (apply G.ex (hd := rfl); case h => (first | exact Ex.move rfl | exact Ex.add rfl rfl (by omega) | exact Ex.assign rfl)) | refine G.nil ?_ | refine GC.region ?_ | refine GE.then_normal ?_ | refine GE.block_normal ?_)
    rw [show (i : Int) + 1 = ((i + 1 : Nat) : Int) by omega]
    refine GE.loop (i + 1, o6, c6) (by simp only; omega) (by simp only; omega) (by simp only [fits]; repeat (first | exact trivial | refine And.intro rfl ?_)) (by repeat (first | exact Takes.nil | apply Takes.dup rfl | apply Takes.cons | exact Take1.here | apply Take1.there)) (by repeat (first | exact Subs.refl | refine Subs.skip ?_))
  obtain rfl : i = 60 := by omega
  obtain ⟨B, hB⟩ : ∃ B : List DeM, B = [sM] ++ List.replicate 40 pM ++ [tM] ++ List.replicate 60 pM := ⟨_, rfl⟩
  have hD3 : D2 ++ List.replicate 60 pM = A ++ B := by rw [hD2, hD1, hB]; simp only [List.append_assoc]
  rw [hD3]
  have hmem : ∀ m ∈ B, m = sM ∨ m = pM ∨ m = tM := by
    intro m hm
    rw [hB] at hm
    simp only [List.mem_append, List.mem_cons, List.mem_replicate, List.not_mem_nil, or_false] at hm
    rcases hm with ((h | h) | h) | h
    · exact .inl h
    · exact .inr (.inl h.2)
    · exact .inr (.inr h)
    · exact .inr (.inl h.2)
  have hBl : (A ++ B).length = N + 60 := by rw [hB, hN]; simp <;> omega
  have hMs : ∀ m ∈ A ++ B, MOk m := by
    intro m hm
    rcases List.mem_append.1 hm with hm | hm
    · exact (hA m hm).1
    · rcases hmem m hm with rfl | rfl | rfl
      · rw [hsM]; exact ⟨by simp, hXl, rfl, by simp only; omega, by simp⟩
      · exact ⟨by simp, rfl, rfl, by simp, by simp⟩
      · rw [htM]; exact ⟨by simp, rfl, rfl, by simp, by simp⟩
  have hrd1 : ∀ z ∈ B.map (·.d), z = (⟨xo, min len1 200, xc, X⟩ : SlD UInt8) ∨ z = ⟨none, 0, 0, []⟩ := by
    intro z hz
    obtain ⟨m, hm, rfl⟩ := List.mem_map.1 hz
    rcases hmem m hm with rfl | rfl | rfl
    · exact .inl (by rw [hsM])
    · exact .inr rfl
    · exact .inr (by rw [htM])
  have hrd2 : ∀ z ∈ B.map (·.sk), z = (⟨none, 0, 0, []⟩ : SlD R) ∨ z = ⟨none, 0, 0, []⟩ := by
    intro z hz
    obtain ⟨m, hm, rfl⟩ := List.mem_map.1 hz
    rcases hmem m hm with rfl | rfl | rfl
    · exact .inl (by rw [hsM])
    · exact .inr rfl
    · exact .inr (by rw [htM])
  first | refine G.nilvec 5 1 ?_ | refine GC.nilvec 5 1 ?_
  first | refine G.frz none ?_ | refine GC.frz none ?_ | refine GE.frz none ?_
  refine GC.conv (fun w_ H_ => Holds.rdTwo (B.map (·.d)) ⟨xo, min len1 200, xc, X⟩ ⟨none, 0, 0, []⟩ hrd1 (H_.take (need := [.sl xo (min len1 200) xc 1 (flat eB X), .sl none 0 0 1 (flat eB [])]) (by repeat (first | exact Takes.nil | apply Takes.dup rfl | apply Takes.cons | exact Take1.here | apply Take1.there)))) ?_
  try simp only [List.append_eq, List.nil_append, List.cons_append]
  refine GC.conv (fun w_ H_ => Holds.rdApp (H_.take (need := [.per (Rd eB 1 (A.map (·.d))), .per (Rd eB 1 (B.map (·.d)))]) (by repeat (first | exact Takes.nil | apply Takes.dup rfl | apply Takes.cons | exact Take1.here | apply Take1.there)))) ?_
  try simp only [List.append_eq, List.nil_append, List.cons_append]
  first | refine G.nilvec 41 2 ?_ | refine GC.nilvec 41 2 ?_
  first | refine G.frz none ?_ | refine GC.frz none ?_ | refine GE.frz none ?_
  refine GC.conv (fun w_ H_ => Holds.rdTwo (B.map (·.sk)) ⟨none, 0, 0, []⟩ ⟨none, 0, 0, []⟩ hrd2 (H_.take (need := [.sl none 0 0 2 (flat eR []), .sl none 0 0 2 (flat eR [])]) (by repeat (first | exact Takes.nil | apply Takes.dup rfl | apply Takes.cons | exact Take1.here | apply Take1.there)))) ?_
  try simp only [List.append_eq, List.nil_append, List.cons_append]
  refine GC.conv (fun w_ H_ => Holds.rdApp (H_.take (need := [.per (Rd eR 2 (A.map (·.sk))), .per (Rd eR 2 (B.map (·.sk)))]) (by repeat (first | exact Takes.nil | apply Takes.dup rfl | apply Takes.cons | exact Take1.here | apply Take1.there)))) ?_
  try simp only [List.append_eq, List.nil_append, List.cons_append]
  rw [← List.map_append, ← List.map_append]
  repeat (first | (apply G.ex (hd := rfl); case h => (first | exact Ex.move rfl)) | refine GC.seq ?_ | refine GC.region ?_ | refine GC.exit ?_ | refine GE.then_normal ?_ | refine GE.then_exit ?_ | refine GE.block_hit ?_)
  first | refine G.call (caps := []) (sender_sp 100 (by omega) (.vec 35 5 o5 (N + 60) c5 (flat eD (A ++ B))) o5 (N + 60) c5 (A ++ B) hBl (by omega) hMs) rfl rfl rfl rfl (by repeat (first | exact Takes.nil | apply Takes.dup rfl | apply Takes.cons | exact Take1.here | apply Take1.there)) ?_ | refine G.callU (caps := []) (sender_sp 100 (by omega) (.vec 35 5 o5 (N + 60) c5 (flat eD (A ++ B))) o5 (N + 60) c5 (A ++ B) hBl (by omega) hMs) rfl rfl rfl (by repeat (first | exact Takes.nil | apply Takes.dup rfl | apply Takes.cons | exact Take1.here | apply Take1.there)) ?_
  rintro v_ give_ ⟨T, o, oc, hT, rfl, rfl⟩ rs_ hrs_
  simp only [List.cons_append, List.nil_append] at hrs_
  subst hrs_
  obtain ⟨E1, hE1⟩ : ∃ E1, E1 = A.map toDe ++ [.submit X] ++ polls 40 := ⟨_, rfl⟩
  have hde : (A ++ B).map toDe = (E1 ++ [.timeout]) ++ polls 60 := by
    rw [hB, hE1, hsM, htM]
    unfold polls
    simp only [List.map_append, List.map_cons, List.map_nil, List.map_replicate, List.append_assoc]
    rfl
  rw [hde, runs_app, runs_app, ends_app] at hT
  have hE1l : E1.length + 1 = N := by rw [hE1, hN]; simp [polls_len] <;> omega
  have hDL : ∀ d ∈ E1 ++ [.timeout], DLaw d := by
    intro d hd
    rw [hE1] at hd
    have hp : ∀ n, ∀ d ∈ polls n, DLaw d := fun n d h => by
      unfold polls at h
      rw [List.eq_of_mem_replicate h]; exact trivial
    simp only [List.mem_append, List.mem_map, List.mem_singleton] at hd
    rcases hd with ((⟨m, hm, rfl⟩ | rfl) | h) | rfl
    · obtain ⟨hmo, hmb⟩ := hA m hm
      by_cases e : m.kind = 2
      · have hb := hmb.hea e
        show DLaw (toDe m)
        unfold toDe
        rw [if_neg (by omega), if_pos e]
        show m.ack + m.win ≤ 349
        omega
      · show DLaw (toDe m)
        unfold toDe
        by_cases e1 : m.kind = 1
        · rw [if_pos e1]; exact trivial
        · rw [if_neg e1, if_neg e]
          split
          · exact trivial
          · split <;> exact trivial
    · exact trivial
    · exact hp 40 d h
    · exact trivial
  have hH : SOk (newF 100) := SOk.new (by omega)
  obtain ⟨ed1, ed2⟩ := edge_run (E1 ++ [.timeout]) (newF 100) 349 hH hDL (by simp [newF]) (by omega) (by simp [newF])
  rw [ends_app] at ed1 ed2
  have hk0 : SOk (ends (newF 100) E1) := SOk.ends hH
  obtain ⟨s1, hs1⟩ : ∃ s1, s1 = timeoutF (ends (newF 100) E1) := ⟨_, rfl⟩
  have hk1 : SOk s1 := by rw [hs1]; exact hk0.timeout
  have hto : ends (ends (newF 100) E1) [.timeout] = s1 := hs1.symm
  have hto2 : runs (ends (newF 100) E1) [.timeout] = [plain 0 s1] := by rw [hs1]; rfl
  rw [hto] at ed1 ed2 hT
  rw [hto2] at hT
  have hE1r : (runs (newF 100) E1).length = E1.length := runs_len ..
  have hTl : T.length = N + 60 := by
    have := congrArg List.length hT
    simp only [List.length_map, List.length_append, List.length_singleton, runs_len, polls_len] at this
    omega
  have hTp : ∀ i, i < 60 → (T.getD (N + i) default).t = (pollF (ends s1 (polls i))).2 := by
    intro i hi
    rw [← (polls_at s1 60 i hi).1, ← getD_mapT (fun x : StM => x.t) T (N + i) (by omega), hT, List.getD_eq_getElem?_getD, List.getElem?_append_right (by simp only [List.length_append, List.length_singleton]; omega), ← List.getD_eq_getElem?_getD]
    congr 1
    simp only [List.length_append, List.length_singleton]
    omega
  have hTn : (T.getD (N - 1) default).t.left = s1.left := by
    rw [← getD_mapT (fun x : StM => x.t) T (N - 1) (by omega), hT, List.getD_eq_getElem?_getD, List.getElem?_append_left (by simp only [List.length_append, List.length_singleton]; omega), List.getElem?_append_right (by omega), show N - 1 - (runs (newF 100) E1).length = 0 by omega]
    rfl
  have hps := psi_bd hk1 ed1 (by simp only [List.length_append, List.length_singleton] at ed2; omega)
  have hU := U_done hk1 (by rw [hs1]; exact timeout_again _)
  have hU0 := U_nonneg hk1
  have hlb := left_bd hk1
  have hl1 := hk1.len
  have hL0 : Law s1 0 (-1) 0 false := ⟨by omega, ⟨by omega, by have := hk1.a0; show -1 ≤ s1.again; omega⟩, by omega, fun _ => ⟨by show 0 + U s1 ≤ _; omega, by show psi s1 + 0 ≤ 45; omega⟩, fun h => nomatch h⟩
  repeat (first | (apply G.ex (hd := rfl); case h => (first | exact Ex.move rfl | exact Ex.extract rfl rfl | exact Ex.assign rfl | exact Ex.notB rfl)) | refine G.nil ?_ | refine GC.seq ?_ | refine GC.region ?_ | refine GC.block ?_ | refine GC.skip ?_ | refine GE.then_normal ?_ | refine GC.cond_no rfl (by first | assumption | omega) ?_)
  refine GC.conv (rs' := [.vec 32 7 o (N + 60) oc (flat eT T)] ++ rest) (fun w_ H_ => ?_) ?_
  · have h_ := H_.take (need := [.vec 32 7 o (N + 60) oc (flat eT T)]) (by repeat (first | exact Takes.nil | apply Takes.dup rfl | apply Takes.cons | exact Take1.here | apply Take1.there))
    exact subs_app (by repeat (first | exact Subs.refl | refine Subs.skip ?_)) h_
  try simp only [List.append_eq, List.nil_append, List.cons_append]
  refine GC.loop (ι := Nat × Int × Int × Bool) (fun x => Law s1 x.1 x.2.1 x.2.2.1 x.2.2.2) (fun x => 60 - x.1) (fun x => [(7, .int .i64 (N : Int)), (9, .slice o (N + 60) oc), (11, .int .i64 x.2.1), (12, .int .i64 x.2.2.1), (13, .bool x.2.2.2), (14, .int .i64 ((N + x.1 : Nat) : Int))]) (fun x => [.vec 32 7 o (N + 60) oc (flat eT T)]) (0, -1, 0, false) hL0 (by simp only [fits]; repeat (first | exact trivial | refine And.intro rfl ?_)) (by repeat (first | exact Takes.nil | apply Takes.dup rfl | apply Takes.cons | exact Take1.here | apply Take1.there)) ?_
  rintro ⟨i, at1, sum1, idl⟩ hL fr_ rs_ hfr_ hrs_
  simp only [List.cons_append, List.nil_append] at hfr_ hrs_
  subst hfr_ hrs_
  obtain ⟨L1, L2, L3, L4, L5⟩ := hL
  simp only at L1 L2 L3 L4 L5
  repeat (first | (apply G.ex (hd := rfl); case h => (first | exact Ex.move rfl | exact Ex.lss rfl rfl | exact Ex.lenSl rfl)) | refine G.nil ?_ | refine GC.seq ?_ | refine GC.region ?_ | refine GE.then_normal ?_)
  refine GC.cond_dec rfl (fun hlt => ?_) (fun hlt => ?_)
  · have hlt : i < 60 := by omega
    have hx := hTp i hlt
    have hsi : SOk (ends s1 (polls i)) := SOk.ends hk1
    have hnx := (polls_at s1 60 i hlt).2
    have hPT := poll_told hsi
    have hsi2 := hsi.poll
    have hUn := U_nonneg hsi
    have hUn2 := U_nonneg hsi2
    have hPI := @poll_idle (ends s1 (polls i))
    have hPN := poll_not hsi
    have hag := hsi.a1
    have hnn := hsi.ne
    have hen := hsi.end1
    have hag2 := hsi2.a1
    have hnn2 := hsi2.ne
    have hen2 := hsi2.end1
    rw [← hx] at hPT hPI hPN
    rw [← hnx] at hPT hPI hPN hsi2 hUn2 hag2 hnn2 hen2
    have hN60 : N + i < T.length := by omega
    repeat (first | (apply G.ex (hd := rfl); case h => (first | exact Ex.move rfl | exact Ex.indexN rfl rfl (by first | omega | (simp; done) | (simp; omega)) | exact Ex.loadTA rfl (by first | omega | (simp; done) | (simp; omega)))) | refine GC.seq ?_ | refine GC.region ?_ | refine GC.block ?_ | refine GC.skip ?_ | refine GE.then_normal ?_)
    refine G.alloc rfl (fun xb => ?_)
    repeat (first | refine G.storeBA rfl rfl rfl rfl rfl ?_ | (apply G.ex (hd := rfl); case h => (first | exact Ex.fieldB rfl | exact Ex.loadB rfl rfl)) | refine G.nil ?_ | refine GC.seq ?_ | refine GC.region ?_ | refine GE.then_normal ?_)
    generalize T.getD (N + i) default = x at *
    obtain ⟨⟨code, from_, data, fin, again, idle, left⟩, xo1, xc1⟩ := x
    simp only at hPI hPN
    cases idle with
    | true =>
      obtain ⟨hst, hsame⟩ := hPI rfl
      refine GC.reblk [.int .i64 code, .int .i64 from_, .slice xo1 data.length xc1, .bool fin, .bool again, .bool true, .int .i64 left] rfl ?_
      repeat (first | (apply G.ex (hd := rfl); case h => (first | exact Ex.move rfl | exact Ex.add rfl rfl (by omega) | exact Ex.assign rfl)) | refine G.nil ?_ | refine GC.seq ?_ | refine GC.region ?_ | refine GC.exit ?_ | refine GE.then_normal ?_ | refine GE.then_exit ?_ | refine GE.block_hit ?_ | refine GC.cond_t rfl ?_)
      rw [show ((N + i : Nat) : Int) + 1 = ((N + (i + 1) : Nat) : Int) by omega]
      have hLn : Law s1 (i + 1) (at1) (sum1) true := ⟨by omega, ⟨L2.1, by rw [hsame]; exact L2.2⟩, L3, fun h => (nomatch h), fun _ => by rw [hsame]; exact hst⟩
      refine GE.loop (i + 1, at1, sum1, true) hLn (by simp only; omega) (by simp only [fits]; repeat (first | exact trivial | refine And.intro rfl ?_)) (by repeat (first | exact Takes.nil | apply Takes.dup rfl | apply Takes.cons | exact Take1.here | apply Take1.there)) (by repeat (first | exact Subs.refl | refine Subs.skip ?_))
    | false =>
      have hP := hPN rfl
      have hidl : idl = false := by
        cases idl with
        | false => rfl
        | true =>
          have := (L5 rfl).poll
          have h2 := congrArg Prod.snd this
          rw [← hx] at h2
          exact nomatch congrArg St.idle h2
      subst hidl
      obtain ⟨M1, M2⟩ := L4 rfl
      have p1 := hP.to
      have p2 := hP.psi
      simp only at p1
      cases again with
      | false =>
        obtain ⟨n1, n2, n3⟩ := hP.new rfl
        have hn := hPT.new rfl rfl
        refine GC.reblk [.int .i64 code, .int .i64 from_, .slice xo1 data.length xc1, .bool fin, .bool false, .bool false, .int .i64 left] rfl ?_
        simp only at hn
        repeat (first | (apply G.ex (hd := rfl); case h => (first | exact Ex.move rfl | exact Ex.fieldB rfl | exact Ex.loadB rfl rfl | exact Ex.add rfl rfl (by omega) | exact Ex.assign rfl | exact Ex.notB rfl | exact Ex.pickT rfl (by first | assumption | omega) rfl)) | refine G.g_ft rfl rfl (by first | assumption | omega) rfl ?_ | refine G.nil ?_ | refine GC.seq ?_ | refine GC.region ?_ | refine GC.skip ?_ | refine GC.exit ?_ | refine GE.then_normal ?_ | refine GE.then_exit ?_ | refine GE.block_hit ?_ | refine GC.cond_no rfl (by first | assumption | omega) ?_ | refine GC.cond_t rfl ?_)
        rw [show ((N + i : Nat) : Int) + 1 = ((N + (i + 1) : Nat) : Int) by omega]
        have hLn : Law s1 (i + 1) (at1) (sum1) false := ⟨by omega, ⟨L2.1, by have hfz : (if fin = true then (1 : Int) else 0) ≥ 0 := (by split <;> omega); omega⟩, L3, fun _ => ⟨by rw [n1]; omega, by omega⟩, fun h => (nomatch h)⟩
        refine GE.loop (i + 1, at1, sum1, false) hLn (by simp only; omega) (by simp only [fits]; repeat (first | exact trivial | refine And.intro rfl ?_)) (by repeat (first | exact Takes.nil | apply Takes.dup rfl | apply Takes.cons | exact Take1.here | apply Take1.there)) (by repeat (first | exact Subs.refl | refine Subs.skip ?_))
      | true =>
        have hs := hP.sum rfl
        have hge := hP.ge
        have hbd := hPT.bd rfl
        simp only at hs hge hbd
        rcases hge with hge | hge
        case inr => exact nomatch hge
        cases fin with
        | true =>
          rw [if_pos rfl] at hs
          refine GC.reblk [.int .i64 code, .int .i64 from_, .slice xo1 data.length xc1, .bool true, .bool true, .bool false, .int .i64 left] rfl ?_
          repeat (first | (apply G.ex (hd := rfl); case h => (first | exact Ex.move rfl | exact Ex.fieldB rfl | exact Ex.loadB rfl rfl | exact Ex.add rfl rfl (by omega) | exact Ex.lss rfl rfl | exact Ex.lenSl rfl | exact Ex.assign rfl | exact Ex.notB rfl | exact Ex.pickF rfl (by first | assumption | omega) rfl)) | refine G.g_ff rfl rfl (by first | assumption | omega) ?_ | refine G.nil ?_ | refine GC.seq ?_ | refine GC.region ?_ | refine GC.skip ?_ | refine GE.then_normal ?_ | refine GE.block_normal ?_ | refine GC.cond_no rfl (by first | assumption | omega) ?_ | refine GC.cond_t rfl ?_)
          rw [show ((N + i : Nat) : Int) + 1 = ((N + (i + 1) : Nat) : Int) by omega]
          have hLn : Law s1 (i + 1) (from_ + (data.length : Int)) (sum1 + (data.length : Int) + 1) false := ⟨by omega, ⟨by omega, by omega⟩, ⟨by omega, by omega⟩, fun _ => ⟨by omega, by omega⟩, fun h => (nomatch h)⟩
          refine GE.loop (i + 1, from_ + (data.length : Int), sum1 + (data.length : Int) + 1, false) hLn (by simp only; omega) (by simp only [fits]; repeat (first | exact trivial | refine And.intro rfl ?_)) (by repeat (first | exact Takes.nil | apply Takes.dup rfl | apply Takes.cons | exact Take1.here | apply Take1.there)) (by repeat (first | exact Subs.refl | refine Subs.skip ?_))
        | false =>
          rw [if_neg (by decide)] at hs
          refine GC.reblk [.int .i64 code, .int .i64 from_, .slice xo1 data.length xc1, .bool false, .bool true, .bool false, .int .i64 left] rfl ?_
          repeat (first | (apply G.ex (hd := rfl); case h => (first | exact Ex.move rfl | exact Ex.fieldB rfl | exact Ex.loadB rfl rfl | exact Ex.add rfl rfl (by omega) | exact Ex.lss rfl rfl | exact Ex.lenSl rfl | exact Ex.assign rfl | exact Ex.notB rfl | exact Ex.pickF rfl (by first | assumption | omega) rfl)) | refine G.g_ff rfl rfl (by first | assumption | omega) ?_ | refine G.nil ?_ | refine GC.seq ?_ | refine GC.region ?_ | refine GC.skip ?_ | refine GE.then_normal ?_ | refine GE.block_normal ?_ | refine GC.cond_no rfl (by first | assumption | omega) ?_)
          rw [show ((N + i : Nat) : Int) + 1 = ((N + (i + 1) : Nat) : Int) by omega]
          have hLn : Law s1 (i + 1) (from_ + (data.length : Int)) (sum1 + (data.length : Int)) false := ⟨by omega, ⟨by omega, by omega⟩, ⟨by omega, by omega⟩, fun _ => ⟨by omega, by omega⟩, fun h => (nomatch h)⟩
          refine GE.loop (i + 1, from_ + (data.length : Int), sum1 + (data.length : Int), false) hLn (by simp only; omega) (by simp only [fits]; repeat (first | exact trivial | refine And.intro rfl ?_)) (by repeat (first | exact Takes.nil | apply Takes.dup rfl | apply Takes.cons | exact Take1.here | apply Take1.there)) (by repeat (first | exact Subs.refl | refine Subs.skip ?_))
  · obtain rfl : i = 60 := by omega
    cases idl with
    | false =>
      exfalso
      have := (L4 rfl).2
      omega
    | true =>
      have hN1 : N - 1 < T.length := by omega
      repeat (first | (apply G.ex (hd := rfl); case h => (first | exact Ex.move rfl | exact Ex.fieldE rfl | exact Ex.sub rfl rfl (by omega) | exact Ex.leq rfl rfl | exact Ex.loadT rfl (by first | omega | (simp; done) | (simp; omega)) rfl | exact Ex.assign rfl | exact Ex.pickLT rfl rfl | exact Ex.indexI rfl rfl (by omega))) | refine G.yes rfl rfl ?_ | refine G.nil ?_ | refine GC.seq ?_ | refine GC.region ?_ | refine GC.ret ?_ | refine GC.exit ?_ | refine GE.then_normal ?_ | refine GE.then_exit ?_ | refine GE.block_hit ?_)
      rw [show (N : Int) - 1 = ((N - 1 : Nat) : Int) by omega]
      repeat (first | fail)
      refine GE.ret (by first | exact .inl rfl | exact .inr rfl) (by first | exact res0 Try.results4 | exact res1 Try.results4 rfl | exact res2 Try.results4 rfl rfl | exact resR1 Try.results4 (by first | exact RV.tmp rfl | exact RV.cell rfl (eP_len _) | exact RV.cell rfl rfl | exact RV.cell1 rfl) | exact resR2 Try.results4 (by first | exact RV.tmp rfl | exact RV.cell rfl (eP_len _) | exact RV.cell rfl rfl | exact RV.cell1 rfl) (by first | exact RV.tmp rfl | exact RV.cell rfl (eP_len _) | exact RV.cell rfl rfl | exact RV.cell1 rfl) | exact resR3 Try.results4 (by first | exact RV.tmp rfl | exact RV.cell rfl (eP_len _) | exact RV.cell rfl rfl | exact RV.cell1 rfl) (by first | exact RV.tmp rfl | exact RV.cell rfl (eP_len _) | exact RV.cell rfl rfl | exact RV.cell1 rfl) (by first | exact RV.tmp rfl | exact RV.cell rfl (eP_len _) | exact RV.cell rfl rfl | exact RV.cell1 rfl)) ⟨by rw [decide_eq_true (by rw [Int.toNat_natCast, hTn]; exact L3.2)], rfl⟩ (by repeat (first | exact Takes.nil | apply Takes.dup rfl | apply Takes.cons | exact Take1.here | apply Take1.there)) (by repeat (first | exact Subs.refl | refine Subs.skip ?_))
end send
end Go.Proofs.Ytnikohhhfbdalaa
