/-
  CONTRACT of packthreadkeep.TreeRoom, by the kit.
-/
import Derived.Test.YtcfnbghhgogkcaaDoorTreeW
namespace Go.Proofs.YtcfnbghhgogkcaaDoor
open Go.RowKit
attribute [local irreducible] Ex G GC GE Gq FPost LPost
set_option linter.unusedVariables false
set_option linter.unusedSimpArgs false
namespace tree
open path
def mkM (i : Nat) : List AcM := (List.range i).map fun q => acN (mkA q)
theorem mkM_len (i : Nat) : (mkM i).length = i := by unfold mkM; rw [List.length_map, List.length_range]
theorem mkM_step (i : Nat) : mkM (i + 1) = mkM i ++ [acN (mkA i)] := by unfold mkM; rw [List.range_succ, List.map_append]; rfl
theorem mkM_a : (mkM 60).map (·.a) = (List.range' 0 60).map mkA := by
  unfold mkM; rw [List.map_map, List.range_eq_range']; rfl
theorem mkM_at {i k : Nat} (h : i < k) : (mkM k).getD i default = acN (mkA i) := by
  unfold mkM
  rw [List.getD_eq_getElem?_getD, List.getElem?_eq_getElem (by rw [List.length_map, List.length_range]; exact h), List.getElem_map, List.getElem_range]; rfl
theorem mkM_none : ∀ x ∈ mkM 60, dA x = ⟨none, 0, 0, []⟩ := fun x hx => by
  unfold mkM at hx
  obtain ⟨q, hq, rfl⟩ := List.mem_map.1 hx
  rfl
theorem mkM_ok : ∀ x ∈ mkM 60, AcOk x.a := fun x hx => by
  unfold mkM at hx
  obtain ⟨q, hq, rfl⟩ := List.mem_map.1 hx
  exact ⟨show 4 ≤ 1000000 by omega, Nat.zero_le _, Nat.zero_le _⟩
theorem getD_right {α : Type} {a b : List α} {d : α} {n i : Nat} (hn : a.length = n) : (a ++ b).getD (n + i) d = b.getD i d := by
  rw [List.getD_eq_getElem?_getD, List.getD_eq_getElem?_getD, List.getElem?_append_right (by omega), show n + i - a.length = i by omega]
theorem rq_start (l : List JbM) : RQ (ends newT (l.map actF)) (ends newT (l.map actF)).count 0 := by
  obtain ⟨k, c⟩ := ends_ok (l.map actF) TrOk.new Cnt.new
  obtain ⟨m, hm⟩ := k.root
  exact ⟨by show _ = _ + (0 : Int); omega, m, hm, fun x j hx => .inl (Abcd.ends l Abcd.new 0 m hm x j hx), fun h => absurd h (by omega)⟩
def tail3 (m : Nat) : List AcM := [acN (rmA (47 :: zN (m - 1))), acN (dirA (47 :: zz)), acN (dirA (47 :: zzz))]
theorem tail3_none (m : Nat) : ∀ x ∈ tail3 m, dA x = ⟨none, 0, 0, []⟩ := fun x hx => by
  unfold tail3 at hx
  simp only [List.mem_cons, List.not_mem_nil, or_false] at hx
  rcases hx with rfl | rfl | rfl <;> rfl
theorem tail3_ok (m : Nat) : ∀ x ∈ tail3 m, AcOk x.a := fun x hx => by
  unfold tail3 at hx
  simp only [List.mem_cons, List.not_mem_nil, or_false] at hx
  rcases hx with rfl | rfl | rfl
  · exact ⟨show 4 ≤ 1000000 by omega, Nat.zero_le _, Nat.zero_le _⟩
  · exact ⟨show 3 ≤ 1000000 by omega, Nat.zero_le _, Nat.zero_le _⟩
  · exact ⟨show 4 ≤ 1000000 by omega, Nat.zero_le _, Nat.zero_le _⟩
set_option maxHeartbeats 16000000 in
theorem treeRoom_sp (a0 : Option Addr) (len0 cap0 : Nat) (z0 : List JbM) (hl0 : z0.length = len0) (hb0 : len0 ≤ 9223372036854775807) (hw0 : ∀ m ∈ z0, JOk m) (a1 : Int) (ha1 : -9223372036854775808 ≤ a1 ∧ a1 ≤ 9223372036854775807) :
    Spec Tryd.prog 8 [.slice a0 len0 cap0, .int .i64 a1] [.sl a0 len0 cap0 4 (flat eJb z0), .per (Rd eB 1 (z0.map (·.d)))] fun v give => v = .bool true ∧ give = [] := by
  refine Spec.intro Tryd.func8 rfl Tryd.ntmps8 rfl fun w0 rest rs_ hrs_ => ?_
  simp only [List.cons_append, List.nil_append] at hrs_
  subst hrs_
  repeat (first | (apply G.ex (hd := rfl); case h => (first | exact Ex.move rfl | exact Ex.assign rfl)) | refine G.nil ?_ | refine GC.seq ?_ | refine GC.region ?_ | refine GE.then_normal ?_)
  first | refine G.call (caps := []) (acts_sp a0 len0 cap0 z0 hl0 hb0 hw0 30 (by decide)) rfl rfl rfl rfl (by repeat first | exact tn_ | apply td_ rfl | apply tc_ | exact .here | apply Take1.there) ?_ | refine G.callU (caps := []) (acts_sp a0 len0 cap0 z0 hl0 hb0 hw0 30 (by decide)) rfl rfl rfl (by repeat first | exact tn_ | apply td_ rfl | apply tc_ | exact .here | apply Take1.there) ?_
  rintro v_ give_ ⟨A, oa, oc, hA, rfl, rfl⟩ rs_ hrs_
  simp only [List.cons_append, List.nil_append] at hrs_
  subst hrs_
  have hAok := acts_ok hA
  have hAl : A.length ≤ 30 := by have := congrArg List.length hA; rw [List.length_map, List.length_map, List.length_take] at this; omega
  obtain ⟨kT, cT⟩ := ends_ok (A.map (·.a)) TrOk.new Cnt.new
  have hrq := rq_start (z0.take 30)
  rw [← hA] at hrq
  have hce := count_ends (A.map (·.a)) newT
  rw [List.length_map, show newT.count = 1 from rfl] at hce
  have hc1 := kT.cnt
  obtain ⟨m, hm⟩ : ∃ m : Nat, (ends newT (A.map (·.a))).count + (m : Int) = 40 := ⟨(40 - (ends newT (A.map (·.a))).count).toNat, by omega⟩
  have hm9 : 9 ≤ m ∧ m ≤ 39 := by omega
  obtain ⟨q1, q2, q3, q4⟩ := room_runs hm 60 0 _ kT cT (by rw [Nat.zero_min]; exact hrq) (by omega)
  rw [show min (0 + 60) m = m by omega] at q4
  have hmore := room_more q2 q4 hm (by omega)
  have hlen := (A.map (·.a)).length_map (f := id)
  obtain ⟨n, hn⟩ : ∃ n, A.length = n := ⟨_, rfl⟩
  have hcode : ∀ i, i < 60 → ((runs newT ((A ++ mkM 60).map (·.a))).getD (n + i) default).code = if i < m then 0 else 9 := fun i hi => by
    rw [List.map_append, mkM_a, runs_app, getD_right (by rw [runs_len, List.length_map]; exact hn), q1 i hi, Nat.zero_add]
  have hlast : runs newT ((A ++ mkM 60 ++ tail3 m).map (·.a)) = runs newT ((A ++ mkM 60).map (·.a)) ++ [(doF (ends newT ((A ++ mkM 60).map (·.a))) (rmA (47 :: zN (m - 1)))).2, (doF (doF (ends newT ((A ++ mkM 60).map (·.a))) (rmA (47 :: zN (m - 1)))).1 (dirA (47 :: zz))).2, (doF (doF (doF (ends newT ((A ++ mkM 60).map (·.a))) (rmA (47 :: zN (m - 1)))).1 (dirA (47 :: zz))).1 (dirA (47 :: zzz))).2] := by
    rw [List.map_append (l₁ := A ++ mkM 60), runs_app]; rfl
  have hends : ends newT ((A ++ mkM 60).map (·.a)) = ends (ends newT (A.map (·.a))) ((List.range' 0 60).map mkA) := by
    rw [List.map_append, mkM_a, ends_app]
  rw [hends] at hlast
  have hrl : (runs newT ((A ++ mkM 60).map (·.a))).length = n + 60 := by rw [runs_len, List.length_map, List.length_append, mkM_len]; omega
  have k0 : ((runs newT ((A ++ mkM 60 ++ tail3 m).map (·.a))).getD (n + 60 + 0) default).code = 0 := by
    rw [hlast, getD_right hrl]; exact hmore.1
  have k1 : ((runs newT ((A ++ mkM 60 ++ tail3 m).map (·.a))).getD (n + 60 + 1) default).code = 0 := by
    rw [hlast, getD_right hrl]; exact hmore.2.1
  have k2 : ((runs newT ((A ++ mkM 60 ++ tail3 m).map (·.a))).getD (n + 60 + 2) default).code = 9 := by
    rw [hlast, getD_right hrl]; exact hmore.2.2
  clear hlast hends hmore q1 q2 q3 q4 hrq hrl hce hc1 kT cT hm hlen
  rw [hn] at hAl ⊢
  have hA0 : flat eAcM A = flat eAcM (A ++ mkM 0) := by rw [show mkM 0 = [] from rfl, List.append_nil]
  rw [hA0]
  clear hA0
  repeat (first | (apply G.ex (hd := rfl); case h => (first | exact Ex.assign rfl)) | refine G.nil ?_ | refine GC.seq ?_ | refine GC.region ?_ | refine GC.block ?_ | refine GE.then_normal ?_)
  refine GC.loop (ι := Nat × Option Addr × Nat) (fun x => x.1 ≤ 60) (fun x => 60 - x.1) (fun x => [(5, .slice x.2.1 (n + x.1) x.2.2), (6, .string (sOf abc)), (7, .int .i64 (x.1 : Int))]) (fun x => [.vec 36 6 x.2.1 (n + x.1) x.2.2 (flat eAcM (A ++ mkM x.1))]) (0, oa, oc) (Nat.zero_le _) (by simp only [fits]; repeat (first | exact trivial | refine And.intro rfl ?_)) (by repeat first | exact tn_ | apply td_ rfl | apply tc_ | exact .here | apply Take1.there) ?_
  rintro ⟨i, wa, wc⟩ hi fr_ rs_ hfr_ hrs_
  simp only [List.cons_append, List.nil_append] at hfr_ hrs_
  subst hfr_ hrs_
  simp only at hi
  repeat (first | (apply G.ex (hd := rfl); case h => (first | exact Ex.move rfl | exact Ex.lss rfl rfl)) | refine G.nil ?_ | refine GC.seq ?_ | refine GC.region ?_ | refine GE.then_normal ?_)
  refine GC.cond_dec rfl (fun hlt => ?_) (fun hlt => ?_)
  · have hlt : i < 60 := by omega
    have hcat : flat eAcM (A ++ mkM i) ++ flat eAcM [acN (mkA i)] = flat eAcM (A ++ mkM (i + 1)) := by
      rw [mkM_step, ← List.append_assoc]; exact (flat_append ..).symm
    have habl : abc.length = 26 := rfl
    have hx26 : i % 26 < 26 := by omega
    have hy26 : i / 26 < 26 := by omega
    have hl3 : (([47, 122] : List UInt8) ++ [abc.getD (i % 26) 0]).length + [abc.getD (i / 26) 0].length ≤ 9223372036854775807 := by simp only [List.length_append, List.length_cons, List.length_nil]; omega
    repeat ((fail_if_success (refine GC.region (id := 6) ?_)); first | refine GC.seq ?_ | refine GC.block ?_ | refine GC.skip ?_ | refine GE.then_normal ?_)
    refine GC.drawA [] [] (by repeat first | exact tn_ | apply td_ rfl | apply tc_ | exact .here | apply Take1.there) (by kernel_rfl) ?_
    first | (apply GA.take [] (hD := .inl rfl) (hsub := ⟨_, Takes.nil⟩) (i := 0) (hi := rfl) (hs := by kernel_rfl) (hfr := by kernel_rfl) (hr := by kernel_rfl) (hQ := np_) (hd := rfl); case hx => (first | exact Ex.move rfl))
    first | (apply GA.take [] (hD := .inl rfl) (hsub := ⟨_, Takes.nil⟩) (i := 1) (hi := rfl) (hs := by kernel_rfl) (hfr := by kernel_rfl) (hr := by kernel_rfl) (hQ := np_) (hd := rfl); case hx => (first | exact Ex.move rfl))
    first | (apply GA.take [] (hD := .inl rfl) (hsub := ⟨_, Takes.nil⟩) (i := 2) (hi := rfl) (hs := by kernel_rfl) (hfr := by kernel_rfl) (hr := by kernel_rfl) (hQ := np_) (hd := rfl); case hx => (first | exact Ex.move rfl))
    first | (apply GA.take [] (hD := .inl rfl) (hsub := ⟨_, Takes.nil⟩) (i := 3) (hi := rfl) (hs := by kernel_rfl) (hfr := by kernel_rfl) (hr := by kernel_rfl) (hQ := np_) (hd := rfl); case hx => (first | exact Ex.rem rfl rfl (by omega)))
    first | (apply GA.take [] (hD := .inl rfl) (hsub := ⟨_, Takes.nil⟩) (i := 4) (hi := rfl) (hs := by kernel_rfl) (hfr := by kernel_rfl) (hr := by kernel_rfl) (hQ := np_) (hd := rfl); case hx => (first | exact Ex.move rfl))
    first | (apply GA.take [] (hD := .inl rfl) (hsub := ⟨_, Takes.nil⟩) (i := 5) (hi := rfl) (hs := by kernel_rfl) (hfr := by kernel_rfl) (hr := by kernel_rfl) (hQ := np_) (hd := rfl); case hx => (first | exact Ex.rem rfl rfl (by omega)))
    first | (apply GA.take [] (hD := .inl rfl) (hsub := ⟨_, Takes.nil⟩) (i := 6) (hi := rfl) (hs := by kernel_rfl) (hfr := by kernel_rfl) (hr := by kernel_rfl) (hQ := np_) (hd := rfl); case hx => (first | exact Ex.add rfl rfl (by omega)))
    rw [show (i : Int) % 26 = ((i % 26 : Nat) : Int) by omega, show ((i % 26 : Nat) : Int) + 1 = ((i % 26 + 1 : Nat) : Int) by omega]
    apply GA.take [] (hD := .inl rfl) (hsub := ⟨_, Takes.nil⟩) (i := 7) (hi := rfl) (hs := by kernel_rfl) (hfr := by kernel_rfl) (hr := by kernel_rfl) (hQ := np_) (hd := rfl) (hx := (Ex.subMid (l := abc) (a := i % 26) (b := i % 26 + 1) rfl rfl rfl (by omega)))
    rw [abc_cut _ hx26]
    apply GA.take [] (hD := .inl rfl) (hsub := ⟨_, Takes.nil⟩) (i := 8) (hi := rfl) (hs := by kernel_rfl) (hfr := by kernel_rfl) (hr := by kernel_rfl) (hQ := np_) (hd := rfl) (hx := (Ex.addO (a := [47, 122]) (b := [abc.getD (i % 26) 0]) rfl rfl (show 2 + 1 ≤ 9223372036854775807 by decide)))
    first | (apply GA.take [] (hD := .inl rfl) (hsub := ⟨_, Takes.nil⟩) (i := 9) (hi := rfl) (hs := by kernel_rfl) (hfr := by kernel_rfl) (hr := by kernel_rfl) (hQ := np_) (hd := rfl); case hx => (first | exact Ex.move rfl))
    first | (apply GA.take [] (hD := .inl rfl) (hsub := ⟨_, Takes.nil⟩) (i := 10) (hi := rfl) (hs := by kernel_rfl) (hfr := by kernel_rfl) (hr := by kernel_rfl) (hQ := np_) (hd := rfl); case hx => (first | exact Ex.move rfl))
    first | (apply GA.take [] (hD := .inl rfl) (hsub := ⟨_, Takes.nil⟩) (i := 11) (hi := rfl) (hs := by kernel_rfl) (hfr := by kernel_rfl) (hr := by kernel_rfl) (hQ := np_) (hd := rfl); case hx => (first | exact Ex.quo rfl rfl (by omega)))
    first | (apply GA.take [] (hD := .inl rfl) (hsub := ⟨_, Takes.nil⟩) (i := 12) (hi := rfl) (hs := by kernel_rfl) (hfr := by kernel_rfl) (hr := by kernel_rfl) (hQ := np_) (hd := rfl); case hx => (first | exact Ex.move rfl))
    first | (apply GA.take [] (hD := .inl rfl) (hsub := ⟨_, Takes.nil⟩) (i := 13) (hi := rfl) (hs := by kernel_rfl) (hfr := by kernel_rfl) (hr := by kernel_rfl) (hQ := np_) (hd := rfl); case hx => (first | exact Ex.quo rfl rfl (by omega)))
    first | (apply GA.take [] (hD := .inl rfl) (hsub := ⟨_, Takes.nil⟩) (i := 14) (hi := rfl) (hs := by kernel_rfl) (hfr := by kernel_rfl) (hr := by kernel_rfl) (hQ := np_) (hd := rfl); case hx => (first | exact Ex.add rfl rfl (by omega)))
    rw [show (i : Int) / 26 = ((i / 26 : Nat) : Int) by omega, show ((i / 26 : Nat) : Int) + 1 = ((i / 26 + 1 : Nat) : Int) by omega]
    apply GA.take [] (hD := .inl rfl) (hsub := ⟨_, Takes.nil⟩) (i := 15) (hi := rfl) (hs := by kernel_rfl) (hfr := by kernel_rfl) (hr := by kernel_rfl) (hQ := np_) (hd := rfl) (hx := (Ex.subMid (l := abc) (a := i / 26) (b := i / 26 + 1) rfl rfl rfl (by omega)))
    rw [abc_cut _ hy26]
    apply GA.take [] (hD := .inl rfl) (hsub := ⟨_, Takes.nil⟩) (i := 16) (hi := rfl) (hs := by kernel_rfl) (hfr := by kernel_rfl) (hr := by kernel_rfl) (hQ := np_) (hd := rfl) (hx := (Ex.addO (a := [47, 122] ++ [abc.getD (i % 26) 0]) (b := [abc.getD (i / 26) 0]) rfl rfl hl3))
    rw [show [47, 122] ++ [abc.getD (i % 26) 0] ++ [abc.getD (i / 26) 0] = 47 :: zN i from rfl]
    first | (apply GA.take [] (hD := .inl rfl) (hsub := ⟨_, Takes.nil⟩) (i := 17) (hi := rfl) (hs := by kernel_rfl) (hfr := by kernel_rfl) (hr := by kernel_rfl) (hQ := np_) (hd := rfl); case hx => (first | exact Ex.build rfl rfl))
    refine GA.one (i := 18) (by kernel_rfl) rfl ?_
    refine G.lit (cells := flat eAcM [acN (mkA i)]) rfl (by rfl) (by rfl) (by rfl) (by rfl) (by rfl) (by rfl) rfl (fun y => ?_)
    try refine G.nil ?_
    refine GA.back (by first | exact .inl (by decide) | exact .inr ⟨_, (by repeat first | exact tn_ | apply td_ rfl | apply tc_ | exact .here | apply Take1.there)⟩) ?_
    refine GA.one (i := 19) (by kernel_rfl) rfl ?_
    refine G.app rfl rfl (by rfl) (by omega) rfl (hcat) (fun wa2 wc2 rs_ hrs_ => ?_)
    try simp only at hrs_
    subst hrs_
    try refine G.nil ?_
    refine GA.back (by first | exact .inl (by decide) | exact .inr ⟨_, (by repeat first | exact tn_ | apply td_ rfl | apply tc_ | exact .here | apply Take1.there)⟩) ?_
    first | (apply GA.take [] (hD := .inl rfl) (hsub := ⟨_, Takes.nil⟩) (i := 20) (hi := rfl) (hs := by kernel_rfl) (hfr := by kernel_rfl) (hr := by kernel_rfl) (hQ := np_) (hd := rfl); case hx => (first | exact Ex.assign rfl))
    refine GA.done (by kernel_rfl) ?_
    repeat (first | (apply G.ex (hd := rfl); case h => (first | exact Ex.move rfl | exact Ex.add rfl rfl (by omega) | exact Ex.assign rfl)) | refine G.nil ?_ | refine GC.region ?_ | refine GE.then_normal ?_ | refine GE.block_normal ?_)
    rw [show (i : Int) + 1 = ((i + 1 : Nat) : Int) by omega]
    refine GE.loop (i + 1, wa2, wc2) (by simp only; omega) (by simp only; omega) (by simp only [fits]; repeat (first | exact trivial | refine And.intro rfl ?_)) (by repeat first | exact tn_ | apply td_ rfl | apply tc_ | exact .here | apply Take1.there) (by repeat (first | exact Subs.refl | refine Subs.skip ?_))
  · obtain rfl : i = 60 := by omega
    obtain ⟨M, hM⟩ : ∃ M, mkM 60 = M := ⟨_, rfl⟩
    have hMl : M.length = 60 := by rw [← hM]; exact mkM_len 60
    have hMn := mkM_none
    have hMk := mkM_ok
    have hMat : (A ++ M).getD (n + (m - 1)) default = acN (mkA (m - 1)) := by
      rw [getD_right hn, ← hM]; exact mkM_at (by omega)
    rw [hM] at hMn hMk k0 k1 k2 hcode ⊢
    repeat (first | (apply G.ex (hd := rfl); case h => (first | exact Ex.move rfl)) | refine GC.seq ?_ | refine GC.region ?_ | refine GC.exit ?_ | refine GE.then_normal ?_ | refine GE.then_exit ?_ | refine GE.block_hit ?_)
    refine G.rdNone M hMn ?_
    refine G.conv (fun w_ H_ => Holds.rdApp (H_.take (need := [.per (Rd eB 1 (A.map dA)), .per (Rd eB 1 (M.map dA))]) (by repeat first | exact tn_ | apply td_ rfl | apply tc_ | exact .here | apply Take1.there))) ?_
    try simp only [List.append_eq, List.nil_append, List.cons_append]
    rw [show A.map dA ++ M.map dA = (A ++ M).map dA from (List.map_append ..).symm]
    have hok2 : ∀ x ∈ A ++ M, AcOk x.a := fun x hx => (List.mem_append.1 hx).elim (hAok x) (hMk x)
    have hABl : (A ++ M).length = n + 60 := by rw [List.length_append]; omega
    obtain ⟨B, hB⟩ : ∃ B, A ++ M = B := ⟨_, rfl⟩
    rw [hB] at hok2 hABl hMat k0 k1 k2 hcode ⊢
    clear hAok hMn hMk hM hMl
    first | refine G.call (caps := []) (grown_sp (.vec 36 6 wa (n + 60) wc (flat eAcM B)) wa (n + 60) wc B hABl (by omega) hok2) rfl rfl rfl rfl (by repeat first | exact tn_ | apply td_ rfl | apply tc_ | exact .here | apply Take1.there) ?_ | refine G.callU (caps := []) (grown_sp (.vec 36 6 wa (n + 60) wc (flat eAcM B)) wa (n + 60) wc B hABl (by omega) hok2) rfl rfl rfl (by repeat first | exact tn_ | apply td_ rfl | apply tc_ | exact .here | apply Take1.there) ?_
    rintro v_ give_ ⟨S, so, sc, hS, rfl, rfl⟩ rs_ hrs_
    simp only [List.cons_append, List.nil_append] at hrs_
    subst hrs_
    have hSl : S.length = n + 60 := by have := congrArg List.length hS; rw [List.length_map, runs_len, List.length_map] at this; omega
    have hSc : ∀ i, i < 60 → (S.getD (n + i) default).s.code = if i < m then 0 else 9 := fun i hi => by
      have e : (S.map (·.s)).getD (n + i) default = (S.getD (n + i) default).s := getD_map _ _ _ (by omega)
      rw [← e, hS]; exact hcode i hi
    have hS59 := hSc 59 (by omega)
    rw [if_neg (by omega)] at hS59
    clear hcode
    have hn1 : ((n + 60 : Nat) : Int) - 1 = ((n + 59 : Nat) : Int) := by omega
    have t0 : (((n + 60 : Nat) : Int) - 1).toNat = n + 59 := by omega
    rw [← t0] at hS59
    repeat (first | (apply G.ex (hd := rfl); case h => (first | exact Ex.move rfl | exact Ex.fieldE rfl | exact Ex.sub rfl rfl (by omega) | exact Ex.neI rfl rfl | exact Ex.lenSl rfl | exact Ex.loadT0 rfl (by first | omega | (simp; done) | (simp; omega)) rfl | exact Ex.extract rfl rfl | exact Ex.assign rfl | exact Ex.notB rfl | exact Ex.pickLF rfl rfl | exact Ex.indexI rfl rfl (by omega))) | refine G.yes rfl rfl ?_ | refine G.nil ?_ | refine GC.seq ?_ | refine GC.region ?_ | refine GC.block ?_ | refine GC.skip ?_ | refine GE.then_normal ?_ | refine GC.cond_no rfl (by first | assumption | omega) ?_)
    rw [show ((n + 60 : Nat) : Int) - 60 = ((n + 0 : Nat) : Int) by omega]
    refine GC.loop (ι := Nat) (fun j => j ≤ 60) (fun j => 60 - j) (fun j => [(5, .slice wa (n + 60) wc), (8, .slice so (n + 60) sc), (10, .int .i64 (if j = 0 then -1 else ((n + (min j m - 1) : Nat) : Int))), (11, .int .i64 ((n + j : Nat) : Int))]) (fun j => [.vec 32 5 so (n + 60) sc (flat eSnM S)]) 0 (Nat.zero_le _) (by simp only [fits]; repeat (first | exact trivial | refine And.intro rfl ?_)) (by repeat first | exact tn_ | apply td_ rfl | apply tc_ | exact .here | apply Take1.there) ?_
    rintro j hj fr_ rs_ hfr_ hrs_
    simp only [List.cons_append, List.nil_append] at hfr_ hrs_
    subst hfr_ hrs_
    repeat (first | (apply G.ex (hd := rfl); case h => (first | exact Ex.move rfl | exact Ex.lss rfl rfl | exact Ex.lenSl rfl)) | refine G.nil ?_ | refine GC.seq ?_ | refine GC.region ?_ | refine GE.then_normal ?_)
    refine GC.cond_dec rfl (fun hlt2 => ?_) (fun hlt2 => ?_)
    · have hlt2 : j < 60 := by omega
      have hcj := hSc j hlt2
      by_cases hjm : j < m
      · rw [if_pos hjm] at hcj
        repeat (first | (apply G.ex (hd := rfl); case h => (first | exact Ex.move rfl | exact Ex.fieldE rfl | exact Ex.add rfl rfl (by omega) | exact Ex.eqI rfl rfl | exact Ex.indexN rfl rfl (by first | omega | (simp; done) | (simp; omega)) | exact Ex.loadT0 rfl (by first | omega | (simp; done) | (simp; omega)) rfl | exact Ex.assign rfl)) | refine G.nil ?_ | refine GC.seq ?_ | refine GC.region ?_ | refine GC.block ?_ | refine GC.skip ?_ | refine GE.then_normal ?_ | refine GE.block_normal ?_ | refine GC.cond_yes rfl (by first | assumption | omega) ?_)
        rw [show ((n + j : Nat) : Int) + 1 = ((n + (j + 1) : Nat) : Int) by omega]
        rw [show (Value.int .i64 ((n + j : Nat) : Int)) = Value.int .i64 (if j + 1 = 0 then -1 else ((n + (min (j + 1) m - 1) : Nat) : Int)) by rw [if_neg (by omega), show min (j + 1) m - 1 = j by omega]]
        refine GE.loop (j + 1) (by omega) (by omega) (by simp only [fits]; repeat (first | exact trivial | refine And.intro rfl ?_)) (by repeat first | exact tn_ | apply td_ rfl | apply tc_ | exact .here | apply Take1.there) (by repeat (first | exact Subs.refl | refine Subs.skip ?_))
      · rw [if_neg hjm] at hcj
        have hne : ¬ (S.getD (n + j) default).s.code = 0 := by omega
        repeat (first | (apply G.ex (hd := rfl); case h => (first | exact Ex.move rfl | exact Ex.fieldE rfl | exact Ex.add rfl rfl (by omega) | exact Ex.eqI rfl rfl | exact Ex.indexN rfl rfl (by first | omega | (simp; done) | (simp; omega)) | exact Ex.loadT0 rfl (by first | omega | (simp; done) | (simp; omega)) rfl | exact Ex.assign rfl)) | refine G.nil ?_ | refine GC.seq ?_ | refine GC.region ?_ | refine GC.block ?_ | refine GC.skip ?_ | refine GE.then_normal ?_ | refine GE.block_normal ?_ | refine GC.cond_no rfl (by first | assumption | omega) ?_)
        rw [show ((n + j : Nat) : Int) + 1 = ((n + (j + 1) : Nat) : Int) by omega]
        rw [show (Value.int .i64 (if j = 0 then -1 else ((n + (min j m - 1) : Nat) : Int))) = Value.int .i64 (if j + 1 = 0 then -1 else ((n + (min (j + 1) m - 1) : Nat) : Int)) by rw [if_neg (by omega), if_neg (by omega), show min (j + 1) m - 1 = min j m - 1 by omega]]
        refine GE.loop (j + 1) (by omega) (by omega) (by simp only [fits]; repeat (first | exact trivial | refine And.intro rfl ?_)) (by repeat first | exact tn_ | apply td_ rfl | apply tc_ | exact .here | apply Take1.there) (by repeat (first | exact Subs.refl | refine Subs.skip ?_))
    · obtain rfl : j = 60 := by omega
      rw [if_neg (show ¬ (60 : Nat) = 0 by decide), show min 60 m - 1 = m - 1 by omega]
      obtain ⟨mm, hmm⟩ : ∃ mm, n + (m - 1) = mm := ⟨_, rfl⟩
      have hmml : mm < n + 60 := by omega
      rw [hmm] at hMat ⊢
      repeat (first | (apply G.ex (hd := rfl); case h => (first | exact Ex.move rfl | exact Ex.fieldE rfl | exact Ex.lss rfl rfl | exact Ex.indexN rfl rfl (by first | omega | (simp; done) | (simp; omega)) | exact Ex.loadT rfl (by first | omega | (simp; done) | (simp; omega)) rfl | exact Ex.build rfl rfl)) | refine G.nil ?_ | refine GC.seq ?_ | refine GC.region ?_ | refine GC.skip ?_ | refine GC.exit ?_ | refine GE.then_normal ?_ | refine GE.then_exit ?_ | refine GE.block_hit ?_ | refine GC.cond_no rfl (by first | assumption | omega) ?_)
      rw [hMat]
      refine G.alloc rfl (fun gb => ?_)
      have hcat3 : flat eAcM B ++ flat eAcM (tail3 m) = flat eAcM (B ++ tail3 m) := (flat_append ..).symm
      have hok3 : ∀ x ∈ B ++ tail3 m, AcOk x.a := fun x hx => (List.mem_append.1 hx).elim (hok2 x) (tail3_ok m x)
      have hBl3 : (B ++ tail3 m).length = n + 63 := by rw [List.length_append, hABl]; rfl
      repeat ((fail_if_success (refine GC.region (id := 19) ?_)); first | refine G.storeBA rfl rfl rfl rfl rfl ?_ | refine G.nil ?_ | refine GC.seq ?_ | refine GE.then_normal ?_)
      refine GC.drawA [] [.blk gb 36 (eAcM (acN (rmA (47 :: zN (m - 1)))))] (by repeat first | exact tn_ | apply td_ rfl | apply tc_ | exact .here | apply Take1.there) (by kernel_rfl) ?_
      first | (apply GA.take [] (hD := .inl rfl) (hsub := ⟨_, Takes.nil⟩) (i := 0) (hi := rfl) (hs := by kernel_rfl) (hfr := by kernel_rfl) (hr := by kernel_rfl) (hQ := np_) (hd := rfl); case hx => (first | exact Ex.move rfl))
      first | (apply GA.take _ (hD := .inr ⟨rfl, by kernel_rfl⟩) (hsub := ⟨_, (by repeat first | exact tn_ | apply td_ rfl | apply tc_ | exact .here | apply Take1.there)⟩) (i := 2) (hi := rfl) (hs := by kernel_rfl) (hfr := by kernel_rfl) (hr := by kernel_rfl) (hQ := np_) (hd := rfl); case hx => (first | exact Ex.loadBA rfl rfl rfl))
      first | (apply GA.take [] (hD := .inl rfl) (hsub := ⟨_, Takes.nil⟩) (i := 3) (hi := rfl) (hs := by kernel_rfl) (hfr := by kernel_rfl) (hr := by kernel_rfl) (hQ := np_) (hd := rfl); case hx => (first | exact Ex.build rfl rfl))
      first | (apply GA.take [] (hD := .inl rfl) (hsub := ⟨_, Takes.nil⟩) (i := 4) (hi := rfl) (hs := by kernel_rfl) (hfr := by kernel_rfl) (hr := by kernel_rfl) (hQ := np_) (hd := rfl); case hx => (first | exact Ex.build rfl rfl))
      refine GA.two (i := 1) (j := 5) (by kernel_rfl) rfl rfl ?_ ?_
      · refine G.appNil rfl rfl (by rfl) (by omega) rfl (rfl) (fun b4 c4 => ?_)
        try refine G.nil ?_
        refine GA.back (by first | exact .inl (by decide) | exact .inr ⟨_, (by repeat first | exact tn_ | apply td_ rfl | apply tc_ | exact .here | apply Take1.there)⟩) ?_
        refine GA.one (i := 5) (by kernel_rfl) rfl ?_
        refine G.lit (cells := flat eAcM (tail3 m)) rfl (by rfl) (by rfl) (by rfl) (by rfl) (by rfl) (by rfl) rfl (fun y => ?_)
        try refine G.nil ?_
        refine GA.back (by first | exact .inl (by decide) | exact .inr ⟨_, (by repeat first | exact tn_ | apply td_ rfl | apply tc_ | exact .here | apply Take1.there)⟩) ?_
        refine GA.one (i := 6) (by kernel_rfl) rfl ?_
        refine G.app rfl rfl (by rfl) (by omega) rfl (hcat3) (fun b5 c5 rs_ hrs_ => ?_)
        try simp only at hrs_
        subst hrs_
        try refine G.nil ?_
        refine GA.back (by first | exact .inl (by decide) | exact .inr ⟨_, (by repeat first | exact tn_ | apply td_ rfl | apply tc_ | exact .here | apply Take1.there)⟩) ?_
        refine GA.one (i := 7) (by kernel_rfl) rfl ?_
        refine G.rdNone (tail3 m) (tail3_none m) ?_
        refine G.conv (fun w_ H_ => Holds.rdApp (H_.take (need := [.per (Rd eB 1 (B.map dA)), .per (Rd eB 1 ((tail3 m).map dA))]) (by repeat first | exact tn_ | apply td_ rfl | apply tc_ | exact .here | apply Take1.there))) ?_
        try simp only [List.append_eq, List.nil_append, List.cons_append]
        rw [show B.map dA ++ (tail3 m).map dA = (B ++ tail3 m).map dA from (List.map_append ..).symm]
        first | refine G.call (caps := []) (grown_sp (.vec 36 6 b5 (n + 60 + 3) c5 (flat eAcM (B ++ tail3 m))) b5 (n + 60 + 3) c5 (B ++ tail3 m) hBl3 (by omega) hok3) rfl rfl rfl rfl (by repeat first | exact tn_ | apply td_ rfl | apply tc_ | exact .here | apply Take1.there) ?_ | refine G.callU (caps := []) (grown_sp (.vec 36 6 b5 (n + 60 + 3) c5 (flat eAcM (B ++ tail3 m))) b5 (n + 60 + 3) c5 (B ++ tail3 m) hBl3 (by omega) hok3) rfl rfl rfl (by repeat first | exact tn_ | apply td_ rfl | apply tc_ | exact .here | apply Take1.there) ?_
        rintro v_ give_ ⟨Z, zo, zc, hZ, rfl, rfl⟩ rs_ hrs_
        simp only [List.cons_append, List.nil_append] at hrs_
        subst hrs_
        try refine G.nil ?_
        refine GA.back (by first | exact .inl (by decide) | exact .inr ⟨_, (by repeat first | exact tn_ | apply td_ rfl | apply tc_ | exact .here | apply Take1.there)⟩) ?_
        first | (apply GA.take [] (hD := .inl rfl) (hsub := ⟨_, Takes.nil⟩) (i := 8) (hi := rfl) (hs := by kernel_rfl) (hfr := by kernel_rfl) (hr := by kernel_rfl) (hQ := np_) (hd := rfl); case hx => (first | exact Ex.move rfl))
        first | (apply GA.take [] (hD := .inl rfl) (hsub := ⟨_, Takes.nil⟩) (i := 9) (hi := rfl) (hs := by kernel_rfl) (hfr := by kernel_rfl) (hr := by kernel_rfl) (hQ := np_) (hd := rfl); case hx => (first | exact Ex.extract rfl rfl))
        first | (apply GA.take [] (hD := .inl rfl) (hsub := ⟨_, Takes.nil⟩) (i := 10) (hi := rfl) (hs := by kernel_rfl) (hfr := by kernel_rfl) (hr := by kernel_rfl) (hQ := np_) (hd := rfl); case hx => (first | exact Ex.extract rfl rfl))
        first | (apply GA.take [] (hD := .inl rfl) (hsub := ⟨_, Takes.nil⟩) (i := 11) (hi := rfl) (hs := by kernel_rfl) (hfr := by kernel_rfl) (hr := by kernel_rfl) (hQ := np_) (hd := rfl); case hx => (first | exact Ex.assign rfl))
        first | (apply GA.take [] (hD := .inl rfl) (hsub := ⟨_, Takes.nil⟩) (i := 12) (hi := rfl) (hs := by kernel_rfl) (hfr := by kernel_rfl) (hr := by kernel_rfl) (hQ := np_) (hd := rfl); case hx => (first | exact Ex.assign rfl))
        refine GA.done (by kernel_rfl) ?_
        have hZl : Z.length = n + 60 + 3 := by have := congrArg List.length hZ; rw [List.length_map, runs_len, List.length_map] at this; omega
        have e0 : (Z.getD (n + 60 + 0) default).s.code = 0 := by
          have e : (Z.map (·.s)).getD (n + 60 + 0) default = (Z.getD (n + 60 + 0) default).s := getD_map _ _ _ (by omega)
          rw [← e, hZ]; exact k0
        have e1 : (Z.getD (n + 60 + 1) default).s.code = 0 := by
          have e : (Z.map (·.s)).getD (n + 60 + 1) default = (Z.getD (n + 60 + 1) default).s := getD_map _ _ _ (by omega)
          rw [← e, hZ]; exact k1
        have e2 : (Z.getD (n + 60 + 2) default).s.code = 9 := by
          have e : (Z.map (·.s)).getD (n + 60 + 2) default = (Z.getD (n + 60 + 2) default).s := getD_map _ _ _ (by omega)
          rw [← e, hZ]; exact k2
        generalize hN3 : n + 60 + 3 = N3 at hZl ⊢
        have t3 : ((N3 : Int) - 3).toNat = n + 60 + 0 := by omega
        have t2 : ((N3 : Int) - 2).toNat = n + 60 + 1 := by omega
        have t1 : ((N3 : Int) - 1).toNat = n + 60 + 2 := by omega
        rw [← t3] at e0
        rw [← t2] at e1
        rw [← t1] at e2
        have hE : ∀ _ : Unit, (Z.getD ((N3 : Int) - 3).toNat default).s.code = 0 ∧ (Z.getD ((N3 : Int) - 2).toNat default).s.code = 0 ∧ (Z.getD ((N3 : Int) - 1).toNat default).s.code = 9 := fun _ => ⟨e0, e1, e2⟩
        have hN4 : 3 ≤ N3 ∧ N3 ≤ 1000 := by omega
        clear e0 e1 e2 t1 t2 t3 hZ k0 k1 k2 hS59 hSc hMat hcat3 hok3 hok2 hBl3 hN3 hABl hSl hS hmml hmm hB hA hn t0
        repeat (first | (apply G.ex (hd := rfl); case h => (first | exact Ex.move rfl | exact Ex.fieldE rfl | exact Ex.sub rfl rfl (by omega) | exact Ex.eqI rfl rfl | exact Ex.lenSl rfl | exact Ex.loadT0 rfl (by first | omega | (simp; done) | (simp; omega)) rfl | exact Ex.assign rfl | exact Ex.pickLT rfl rfl | exact Ex.indexI rfl rfl (by omega))) | refine G.yes rfl rfl ?_ | refine G.nil ?_ | refine GC.seq ?_ | refine GC.region ?_ | refine GE.then_normal ?_)
        rw [(hE ()).1]
        repeat (first | (apply G.ex (hd := rfl); case h => (first | exact Ex.move rfl | exact Ex.fieldE rfl | exact Ex.sub rfl rfl (by omega) | exact Ex.eqI rfl rfl | exact Ex.loadT0 rfl (by first | omega | (simp; done) | (simp; omega)) rfl | exact Ex.pickT rfl (by first | assumption | omega) rfl | exact Ex.indexI rfl rfl (by omega))) | refine G.g_tt rfl rfl (by first | assumption | omega) ?_)
        rw [(hE ()).2.1]
        repeat (first | (apply G.ex (hd := rfl); case h => (first | exact Ex.move rfl | exact Ex.fieldE rfl | exact Ex.sub rfl rfl (by omega) | exact Ex.eqI rfl rfl | exact Ex.loadT0 rfl (by first | omega | (simp; done) | (simp; omega)) rfl | exact Ex.assign rfl | exact Ex.pickT rfl (by first | assumption | omega) rfl | exact Ex.indexI rfl rfl (by omega))) | refine G.g_tt rfl rfl (by first | assumption | omega) ?_ | refine G.nil ?_ | refine GC.ret ?_ | refine GE.then_normal ?_)
        refine GE.ret (by first | exact .inl rfl | exact .inr rfl) (res1 Tryd.results8 rfl) ⟨congrArg Value.bool (decide_eq_true (hE ()).2.2), rfl⟩ (by repeat first | exact tn_ | apply td_ rfl | apply tc_ | exact .here | apply Take1.there) (by repeat (first | exact Subs.refl | refine Subs.skip ?_))
      · refine G.lit (cells := flat eAcM (tail3 m)) rfl (by rfl) (by rfl) (by rfl) (by rfl) (by rfl) (by rfl) rfl (fun y => ?_)
        try refine G.nil ?_
        refine GA.back (by first | exact .inl (by decide) | exact .inr ⟨_, (by repeat first | exact tn_ | apply td_ rfl | apply tc_ | exact .here | apply Take1.there)⟩) ?_
        refine GA.one (i := 1) (by kernel_rfl) rfl ?_
        refine G.appNil rfl rfl (by rfl) (by omega) rfl (rfl) (fun b4 c4 => ?_)
        try refine G.nil ?_
        refine GA.back (by first | exact .inl (by decide) | exact .inr ⟨_, (by repeat first | exact tn_ | apply td_ rfl | apply tc_ | exact .here | apply Take1.there)⟩) ?_
        refine GA.one (i := 6) (by kernel_rfl) rfl ?_
        refine G.app rfl rfl (by rfl) (by omega) rfl (hcat3) (fun b5 c5 rs_ hrs_ => ?_)
        try simp only at hrs_
        subst hrs_
        try refine G.nil ?_
        refine GA.back (by first | exact .inl (by decide) | exact .inr ⟨_, (by repeat first | exact tn_ | apply td_ rfl | apply tc_ | exact .here | apply Take1.there)⟩) ?_
        refine GA.one (i := 7) (by kernel_rfl) rfl ?_
        refine G.rdNone (tail3 m) (tail3_none m) ?_
        refine G.conv (fun w_ H_ => Holds.rdApp (H_.take (need := [.per (Rd eB 1 (B.map dA)), .per (Rd eB 1 ((tail3 m).map dA))]) (by repeat first | exact tn_ | apply td_ rfl | apply tc_ | exact .here | apply Take1.there))) ?_
        try simp only [List.append_eq, List.nil_append, List.cons_append]
        rw [show B.map dA ++ (tail3 m).map dA = (B ++ tail3 m).map dA from (List.map_append ..).symm]
        first | refine G.call (caps := []) (grown_sp (.vec 36 6 b5 (n + 60 + 3) c5 (flat eAcM (B ++ tail3 m))) b5 (n + 60 + 3) c5 (B ++ tail3 m) hBl3 (by omega) hok3) rfl rfl rfl rfl (by repeat first | exact tn_ | apply td_ rfl | apply tc_ | exact .here | apply Take1.there) ?_ | refine G.callU (caps := []) (grown_sp (.vec 36 6 b5 (n + 60 + 3) c5 (flat eAcM (B ++ tail3 m))) b5 (n + 60 + 3) c5 (B ++ tail3 m) hBl3 (by omega) hok3) rfl rfl rfl (by repeat first | exact tn_ | apply td_ rfl | apply tc_ | exact .here | apply Take1.there) ?_
        rintro v_ give_ ⟨Z, zo, zc, hZ, rfl, rfl⟩ rs_ hrs_
        simp only [List.cons_append, List.nil_append] at hrs_
        subst hrs_
        try refine G.nil ?_
        refine GA.back (by first | exact .inl (by decide) | exact .inr ⟨_, (by repeat first | exact tn_ | apply td_ rfl | apply tc_ | exact .here | apply Take1.there)⟩) ?_
        first | (apply GA.take [] (hD := .inl rfl) (hsub := ⟨_, Takes.nil⟩) (i := 8) (hi := rfl) (hs := by kernel_rfl) (hfr := by kernel_rfl) (hr := by kernel_rfl) (hQ := np_) (hd := rfl); case hx => (first | exact Ex.move rfl))
        first | (apply GA.take [] (hD := .inl rfl) (hsub := ⟨_, Takes.nil⟩) (i := 9) (hi := rfl) (hs := by kernel_rfl) (hfr := by kernel_rfl) (hr := by kernel_rfl) (hQ := np_) (hd := rfl); case hx => (first | exact Ex.extract rfl rfl))
        first | (apply GA.take [] (hD := .inl rfl) (hsub := ⟨_, Takes.nil⟩) (i := 10) (hi := rfl) (hs := by kernel_rfl) (hfr := by kernel_rfl) (hr := by kernel_rfl) (hQ := np_) (hd := rfl); case hx => (first | exact Ex.extract rfl rfl))
        first | (apply GA.take [] (hD := .inl rfl) (hsub := ⟨_, Takes.nil⟩) (i := 11) (hi := rfl) (hs := by kernel_rfl) (hfr := by kernel_rfl) (hr := by kernel_rfl) (hQ := np_) (hd := rfl); case hx => (first | exact Ex.assign rfl))
        first | (apply GA.take [] (hD := .inl rfl) (hsub := ⟨_, Takes.nil⟩) (i := 12) (hi := rfl) (hs := by kernel_rfl) (hfr := by kernel_rfl) (hr := by kernel_rfl) (hQ := np_) (hd := rfl); case hx => (first | exact Ex.assign rfl))
        refine GA.done (by kernel_rfl) ?_
        have hZl : Z.length = n + 60 + 3 := by have := congrArg List.length hZ; rw [List.length_map, runs_len, List.length_map] at this; omega
        have e0 : (Z.getD (n + 60 + 0) default).s.code = 0 := by
          have e : (Z.map (·.s)).getD (n + 60 + 0) default = (Z.getD (n + 60 + 0) default).s := getD_map _ _ _ (by omega)
          rw [← e, hZ]; exact k0
        have e1 : (Z.getD (n + 60 + 1) default).s.code = 0 := by
          have e : (Z.map (·.s)).getD (n + 60 + 1) default = (Z.getD (n + 60 + 1) default).s := getD_map _ _ _ (by omega)
          rw [← e, hZ]; exact k1
        have e2 : (Z.getD (n + 60 + 2) default).s.code = 9 := by
          have e : (Z.map (·.s)).getD (n + 60 + 2) default = (Z.getD (n + 60 + 2) default).s := getD_map _ _ _ (by omega)
          rw [← e, hZ]; exact k2
        generalize hN3 : n + 60 + 3 = N3 at hZl ⊢
        have t3 : ((N3 : Int) - 3).toNat = n + 60 + 0 := by omega
        have t2 : ((N3 : Int) - 2).toNat = n + 60 + 1 := by omega
        have t1 : ((N3 : Int) - 1).toNat = n + 60 + 2 := by omega
        rw [← t3] at e0
        rw [← t2] at e1
        rw [← t1] at e2
        have hE : ∀ _ : Unit, (Z.getD ((N3 : Int) - 3).toNat default).s.code = 0 ∧ (Z.getD ((N3 : Int) - 2).toNat default).s.code = 0 ∧ (Z.getD ((N3 : Int) - 1).toNat default).s.code = 9 := fun _ => ⟨e0, e1, e2⟩
        have hN4 : 3 ≤ N3 ∧ N3 ≤ 1000 := by omega
        clear e0 e1 e2 t1 t2 t3 hZ k0 k1 k2 hS59 hSc hMat hcat3 hok3 hok2 hBl3 hN3 hABl hSl hS hmml hmm hB hA hn t0
        repeat (first | (apply G.ex (hd := rfl); case h => (first | exact Ex.move rfl | exact Ex.fieldE rfl | exact Ex.sub rfl rfl (by omega) | exact Ex.eqI rfl rfl | exact Ex.lenSl rfl | exact Ex.loadT0 rfl (by first | omega | (simp; done) | (simp; omega)) rfl | exact Ex.assign rfl | exact Ex.pickLT rfl rfl | exact Ex.indexI rfl rfl (by omega))) | refine G.yes rfl rfl ?_ | refine G.nil ?_ | refine GC.seq ?_ | refine GC.region ?_ | refine GE.then_normal ?_)
        rw [(hE ()).1]
        repeat (first | (apply G.ex (hd := rfl); case h => (first | exact Ex.move rfl | exact Ex.fieldE rfl | exact Ex.sub rfl rfl (by omega) | exact Ex.eqI rfl rfl | exact Ex.loadT0 rfl (by first | omega | (simp; done) | (simp; omega)) rfl | exact Ex.pickT rfl (by first | assumption | omega) rfl | exact Ex.indexI rfl rfl (by omega))) | refine G.g_tt rfl rfl (by first | assumption | omega) ?_)
        rw [(hE ()).2.1]
        repeat (first | (apply G.ex (hd := rfl); case h => (first | exact Ex.move rfl | exact Ex.fieldE rfl | exact Ex.sub rfl rfl (by omega) | exact Ex.eqI rfl rfl | exact Ex.loadT0 rfl (by first | omega | (simp; done) | (simp; omega)) rfl | exact Ex.assign rfl | exact Ex.pickT rfl (by first | assumption | omega) rfl | exact Ex.indexI rfl rfl (by omega))) | refine G.g_tt rfl rfl (by first | assumption | omega) ?_ | refine G.nil ?_ | refine GC.ret ?_ | refine GE.then_normal ?_)
        refine GE.ret (by first | exact .inl rfl | exact .inr rfl) (res1 Tryd.results8 rfl) ⟨congrArg Value.bool (decide_eq_true (hE ()).2.2), rfl⟩ (by repeat first | exact tn_ | apply td_ rfl | apply tc_ | exact .here | apply Take1.there) (by repeat (first | exact Subs.refl | refine Subs.skip ?_))
end tree
end Go.Proofs.YtcfnbghhgogkcaaDoor
