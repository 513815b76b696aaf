/-
  CONTRACT of packthreadkeep.ServeMarks, by the kit.
-/
import Derived.Test.YtmceappjldcbmaaDoorServeE
import Derived.Test.YtmceappjldcbmaaDoorServeV
import Derived.Test.YtmceappjldcbmaaDoorServeM
namespace Go.Proofs.YtmceappjldcbmaaDoor
open Go.RowKit
attribute [local irreducible] Ex G GC GE Gq FPost LPost
set_option linter.unusedVariables false
set_option linter.unusedSimpArgs false
namespace serve
open tree path msg
/-- a request whose mark is so much more -/
def mk (N : Nat) (m : Ms) : Ms := { m with r := setM m.r (m.r.mark + (N : Int)) }
theorem set_take {α : Type} [Inhabited α] (f : α → α) (A : List α) (i : Nat) (h : i < A.length) : ((A.take i).map f ++ A.drop i).set i (f (A.getD i default)) = (A.take (i + 1)).map f ++ A.drop (i + 1) := by
  have e : A.getD i default = A[i] := by rw [List.getD_eq_getElem?_getD, List.getElem?_eq_getElem h]; rfl
  have hl : ((A.take i).map f).length = i := by rw [List.length_map, List.length_take]; omega
  rw [List.drop_eq_getElem_cons h, List.set_append_right _ _ (by omega), hl, Nat.sub_self, List.set_cons_zero, List.take_succ_eq_append_getElem h, List.map_append, List.append_assoc, e]
  rfl
theorem marks_at {S S2 : List RpM} {A : List Ms} {N : Nat} (hS : S.map (·.x) = sruns svNew (A.map (·.r))) (hS2 : S2.map (·.x) = sruns svNew ((A.map (mk N)).map (·.r))) (hO : ∀ x ∈ A, MsOk x) {j : Nat} (hj : j < A.length) :
    (S.getD j default).x.mark = (A.getD j default).r.mark ∧ (S2.getD j default).x.mark = ((A.map (mk N)).getD j default).r.mark ∧ setMp (S2.getD j default).x (S.getD j default).x.mark = (S.getD j default).x ∧ (S.getD j default).x.d.length ≤ 1000000 ∧ (S.getD j default).x.names.length ≤ 1000 := by
  have hSl : S.length = A.length := by have := congrArg List.length hS; rw [List.length_map, sruns_len, List.length_map] at this; exact this
  have hS2l : S2.length = A.length := by have := congrArg List.length hS2; rw [List.length_map, sruns_len, List.length_map, List.length_map] at this; exact this
  have e1 := rd_at hS (i := j) (by omega)
  have e2 := rd_at hS2 (i := j) (by omega)
  have er : (A.map (mk N)).map (·.r) = (A.map (·.r)).map fun r => setM r (r.mark + (N : Int)) := by rw [List.map_map, List.map_map]; rfl
  have hz := (marks_law (fun r => r.mark + (N : Int)) svNew (A.map (·.r))).1
  rw [← er, ← hS2, ← hS] at hz
  have hR : (A.map (·.r)).getD j default = (A.getD j default).r := getD_map _ _ _ hj
  have mk1 : ∀ (l : List Rq), j < l.length → ((sruns svNew l).getD j default).mark = (l.getD j default).mark := fun l hl => by
    have := congrArg (fun x => x.getD j default) (sruns_mark svNew l)
    rw [getD_map _ _ _ (by rw [sruns_len]; exact hl), getD_map _ _ _ hl] at this
    exact this
  have h1 : (S.getD j default).x.mark = (A.getD j default).r.mark := by rw [e1, mk1 _ (by rw [List.length_map]; exact hj), hR]
  have h2 : (S2.getD j default).x.mark = ((A.map (mk N)).getD j default).r.mark := by
    rw [e2, mk1 _ (by rw [List.length_map, List.length_map]; exact hj), getD_map _ _ _ (by rw [List.length_map]; exact hj)]
  have h3 : (S2.getD j default).x = setMp (S.getD j default).x ((A.getD j default).r.mark + (N : Int)) := by
    have a := congrArg (fun x => x.getD j default) hz
    simp only at a
    rw [getD_map _ _ _ (by omega)] at a
    rw [a, List.getD_eq_getElem?_getD, List.getElem?_eq_getElem (by rw [List.length_zipWith, List.length_map, List.length_map]; omega), Option.getD_some, List.getElem_zipWith, List.getElem_map, List.getElem_map]
    have b1 : A.getD j default = A[j] := by rw [List.getD_eq_getElem?_getD, List.getElem?_eq_getElem hj]; rfl
    have b2 : S.getD j default = S[j] := by rw [List.getD_eq_getElem?_getD, List.getElem?_eq_getElem (by omega)]; rfl
    rw [b1, b2]
  have hs := sruns_small (A.map (·.r)) SvOk.new (fun r hr => by obtain ⟨x, hx, rfl⟩ := List.mem_map.1 hr; exact (hO x hx).1) ((S.getD j default).x) (by rw [← hS]; exact List.mem_map.2 ⟨_, getD_mem (by omega), rfl⟩)
  exact ⟨h1, h2, by rw [h3]; rfl, by omega, by omega⟩
set_option maxHeartbeats 16000000 in
theorem serveMarks_sp (a0 : Option Addr) (len0 cap0 : Nat) (z0 : List JbM) (hl0 : z0.length = len0) (hb0 : len0 ≤ 9223372036854775807) (hw0 : ∀ m ∈ z0, JOk m) (a1 : Int) (ha1 : -9223372036854775808 ≤ a1 ∧ a1 ≤ 9223372036854775807) :
    Spec Tryd.prog 3 [.slice a0 len0 cap0, .int .i64 a1] [.sl a0 len0 cap0 4 (flat eJb z0), .per (Rd eB 1 (z0.map (·.d))), PlainR] fun v give => v = .bool true ∧ give = [] := by
  have hk0 := Int.emod_nonneg a1 (show (1000 : Int) ≠ 0 by decide)
  have hk1 := Int.emod_lt_of_pos a1 (show (0 : Int) < 1000 by decide)
  obtain ⟨N, hN⟩ : ∃ N : Nat, a1 % 1000 = (N : Int) := ⟨(a1 % 1000).toNat, by omega⟩
  refine Spec.intro Tryd.func3 rfl Tryd.ntmps3 rfl fun w0 rest rs_ hrs_ => ?_
  simp only [List.cons_append, List.nil_append] at hrs_
  subst hrs_
  repeat (first | (apply G.ex (hd := rfl); case h => (first | exact Ex.move rfl | exact Ex.assign rfl)) | refine G.nil ?_ | refine GC.seq ?_ | refine GC.region ?_ | refine GE.then_normal ?_)
  first | refine G.call (caps := []) (requests_sp a0 len0 cap0 z0 hl0 hb0 hw0 80 (by decide)) rfl rfl rfl rfl (by repeat first | exact tn_ | apply td_ rfl | apply tc_ | exact .here | apply Take1.there) ?_ | refine G.callU (caps := []) (requests_sp a0 len0 cap0 z0 hl0 hb0 hw0 80 (by decide)) rfl rfl rfl (by repeat first | exact tn_ | apply td_ rfl | apply tc_ | exact .here | apply Take1.there) ?_
  rintro v_ give_ ⟨A, oa, oc, hA, hO, rfl, rfl⟩ rs_ hrs_
  simp only [List.cons_append, List.nil_append] at hrs_
  subst hrs_
  have hAl : A.length ≤ 80 := by have := congrArg List.length hA; rw [List.length_map, rqsF_len, List.length_take] at this; omega
  have hmk : ∀ x ∈ A, 0 ≤ x.r.mark ∧ x.r.mark < 4294967296 := fun x hx => by
    have h1 : x.r ∈ A.map (·.r) := List.mem_map.2 ⟨x, hx, rfl⟩
    rw [hA] at h1
    obtain ⟨j, i, e⟩ := rqsF_mem h1
    have h2 := (rqF_facts j i).2.2.2.2.2
    rw [e, h2]
    omega
  clear hA
  repeat (first | (apply G.ex (hd := rfl); case h => (first | exact Ex.move rfl | exact Ex.assign rfl)) | refine G.nil ?_ | refine GC.seq ?_ | refine GC.region ?_ | refine GE.then_normal ?_)
  first | refine G.call (caps := []) (served_sp (.vec 30 9 oa A.length oc (flat eRq A)) oa A.length oc A rfl (by omega) hO) rfl rfl rfl rfl (by repeat first | exact tn_ | apply td_ rfl | apply tc_ | exact .here | apply Take1.there) ?_ | refine G.callU (caps := []) (served_sp (.vec 30 9 oa A.length oc (flat eRq A)) oa A.length oc A rfl (by omega) hO) rfl rfl rfl (by repeat first | exact tn_ | apply td_ rfl | apply tc_ | exact .here | apply Take1.there) ?_
  rintro v_ give_ ⟨S, so, sc, hS, rfl, rfl⟩ rs_ hrs_
  simp only [List.cons_append, List.nil_append] at hrs_
  subst hrs_
  have hSl : S.length = A.length := by have := congrArg List.length hS; rw [List.length_map, sruns_len, List.length_map] at this; exact this
  repeat (first | (apply G.ex (hd := rfl); case h => (first | exact Ex.move rfl | exact Ex.extract rfl rfl | exact Ex.assign rfl)) | refine G.nil ?_ | refine GC.seq ?_ | refine GC.region ?_ | refine GE.then_normal ?_)
  refine G.appNil rfl rfl (by rfl) (by omega) rfl (rfl) (fun ba bc => ?_)
  repeat (first | (apply G.ex (hd := rfl); case h => (first | exact Ex.assign rfl)) | refine G.nil ?_ | refine GC.seq ?_ | refine GC.region ?_ | refine GC.block ?_ | refine GE.then_normal ?_)
  refine GC.loop (ι := Nat × List Ms) (fun x => x.1 ≤ A.length ∧ x.2 = (A.take x.1).map (mk N) ++ A.drop x.1) (fun x => A.length - x.1) (fun x => [(1, .int .i64 a1), (5, .slice oa A.length oc), (6, .slice so A.length sc), (7, .bool true), (8, .slice ba A.length bc), (9, .int .i64 (x.1 : Int))]) (fun x => [.vec 30 9 ba A.length bc (flat eRq x.2), .vec 30 9 oa A.length oc (flat eRq A), .vec 35 7 so A.length sc (flat eRpM S), .per (Rd eB 1 (S.map dR)), .per (Rd eO 1 (S.map nR)), .per (Rd eB 1 (A.map dM)), PlainR]) (0, A) ⟨Nat.zero_le _, rfl⟩ (by simp only [fits]; repeat (first | exact trivial | refine And.intro rfl ?_)) (by repeat first | exact tn_ | apply td_ rfl | apply tc_ | exact .here | apply Take1.there) ?_
  rintro ⟨i, B⟩ ⟨hi, hB⟩ fr_ rs_ hfr_ hrs_
  simp only [List.cons_append, List.nil_append] at hfr_ hrs_
  subst hfr_ hrs_
  simp only at hi hB
  have hBl : B.length = A.length := by rw [hB, List.length_append, List.length_map, List.length_take, List.length_drop]; omega
  by_cases c : i < A.length
  · have hBi : B.getD i default = A.getD i default := by
      rw [hB, getD_app_right _ _ _ (by rw [List.length_map, List.length_take]; omega), List.length_map, List.length_take, Nat.min_eq_left hi, Nat.sub_self, List.getD_eq_getElem?_getD, List.getElem?_drop, List.getD_eq_getElem?_getD, Nat.add_zero]
    have hm := hmk (B.getD i default) (by rw [hBi]; exact getD_mem c)
    have hB2 : B.set i (mk N (B.getD i default)) = (A.take (i + 1)).map (mk N) ++ A.drop (i + 1) := by
      rw [hBi, hB]; exact set_take (mk N) A i c
    clear hB hBi
    repeat (first | (apply G.ex (hd := rfl); case h => (first | exact Ex.move rfl | exact Ex.lss rfl rfl | exact Ex.lenSl rfl)) | refine G.nil ?_ | refine GC.seq ?_ | refine GC.region ?_ | refine GC.block ?_ | refine GC.skip ?_ | refine GE.then_normal ?_ | refine GC.cond_yes rfl (by first | assumption | omega) ?_)
    refine GC.drawA [10] [.vec 30 9 ba A.length bc (flat eRq B)] (by repeat first | exact tn_ | apply td_ rfl | apply tc_ | exact .here | apply Take1.there) (by kernel_rfl) ?_
    first | (apply GA.take [] (hD := .inl rfl) (hsub := ⟨_, Takes.nil⟩) (i := 0) (hi := rfl) (hs := by kernel_rfl) (hfr := by kernel_rfl) (hr := by kernel_rfl) (hQ := np_) (hd := rfl); case hx => (first | exact Ex.move rfl))
    first | (apply GA.take [] (hD := .inl rfl) (hsub := ⟨_, Takes.nil⟩) (i := 1) (hi := rfl) (hs := by kernel_rfl) (hfr := by kernel_rfl) (hr := by kernel_rfl) (hQ := np_) (hd := rfl); case hx => (first | exact Ex.move rfl))
    first | (apply GA.take _ (hD := .inr ⟨rfl, by kernel_rfl⟩) (hsub := ⟨_, (by repeat first | exact tn_ | apply td_ rfl | apply tc_ | exact .here | apply Take1.there)⟩) (i := 2) (hi := rfl) (hs := by kernel_rfl) (hfr := by kernel_rfl) (hr := by kernel_rfl) (hQ := np_) (hd := rfl); case hx => (first | exact Ex.indexN rfl rfl (by first | omega | (simp; done) | (simp; omega))))
    first | (apply GA.take [] (hD := .inl rfl) (hsub := ⟨_, Takes.nil⟩) (i := 3) (hi := rfl) (hs := by kernel_rfl) (hfr := by kernel_rfl) (hr := by kernel_rfl) (hQ := np_) (hd := rfl); case hx => (first | exact Ex.fieldE rfl))
    first | (apply GA.take _ (hD := .inr ⟨rfl, by kernel_rfl⟩) (hsub := ⟨_, (by repeat first | exact tn_ | apply td_ rfl | apply tc_ | exact .here | apply Take1.there)⟩) (i := 4) (hi := rfl) (hs := by kernel_rfl) (hfr := by kernel_rfl) (hr := by kernel_rfl) (hQ := np_) (hd := rfl); case hx => (first | exact Ex.loadT rfl (by first | omega | (simp; done) | (simp; omega)) rfl))
    first | (apply GA.take [] (hD := .inl rfl) (hsub := ⟨_, Takes.nil⟩) (i := 5) (hi := rfl) (hs := by kernel_rfl) (hfr := by kernel_rfl) (hr := by kernel_rfl) (hQ := np_) (hd := rfl); case hx => (first | exact Ex.move rfl))
    refine GA.one (i := 6) (by kernel_rfl) rfl ?_
    first | refine G.call (caps := []) (picked_sp a1 1000 (by decide) (by decide)) rfl rfl rfl rfl (by repeat first | exact tn_ | apply td_ rfl | apply tc_ | exact .here | apply Take1.there) ?_ | refine G.callU (caps := []) (picked_sp a1 1000 (by decide) (by decide)) rfl rfl rfl (by repeat first | exact tn_ | apply td_ rfl | apply tc_ | exact .here | apply Take1.there) ?_
    rintro v_ give_ ⟨rfl, rfl⟩ rs_ hrs_
    simp only [List.cons_append, List.nil_append] at hrs_
    subst hrs_
    rw [hN]
    try refine G.nil ?_
    refine GA.back (by first | exact .inl (by decide) | exact .inr ⟨_, (by repeat first | exact tn_ | apply td_ rfl | apply tc_ | exact .here | apply Take1.there)⟩) ?_
    first | (apply GA.take [] (hD := .inl rfl) (hsub := ⟨_, Takes.nil⟩) (i := 7) (hi := rfl) (hs := by kernel_rfl) (hfr := by kernel_rfl) (hr := by kernel_rfl) (hQ := np_) (hd := rfl); case hx => (first | exact Ex.add rfl rfl (by omega)))
    refine GA.one (i := 8) (by kernel_rfl) rfl ?_
    (apply G.ex (hd := rfl); case h => (first | exact Ex.indexN rfl rfl (by first | omega | (simp; done) | (simp; omega))))
    try refine G.nil ?_
    refine GA.back (by first | exact .inl (by decide) | exact .inr ⟨_, (by repeat first | exact tn_ | apply td_ rfl | apply tc_ | exact .here | apply Take1.there)⟩) ?_
    first | (apply GA.take [] (hD := .inl rfl) (hsub := ⟨_, Takes.nil⟩) (i := 9) (hi := rfl) (hs := by kernel_rfl) (hfr := by kernel_rfl) (hr := by kernel_rfl) (hQ := np_) (hd := rfl); case hx => (first | exact Ex.fieldE rfl))
    refine GA.one (i := 10) (by kernel_rfl) rfl ?_
    first | refine G.storeT0 rfl rfl rfl rfl (by first | omega | (simp; omega)) rfl ((mk N (B.getD i default))) (rfl) (fun rs_ hrs_ => ?_) | refine G.storeT rfl rfl rfl rfl (by first | omega | (simp; omega)) rfl ((mk N (B.getD i default))) (rfl) (fun rs_ hrs_ => ?_) | refine G.storeTA rfl rfl (by first | omega | (simp; omega)) rfl ((mk N (B.getD i default))) (rfl) (fun rs_ hrs_ => ?_)
    try simp only at hrs_
    subst hrs_
    try refine G.nil ?_
    refine GA.back (by first | exact .inl (by decide) | exact .inr ⟨_, (by repeat first | exact tn_ | apply td_ rfl | apply tc_ | exact .here | apply Take1.there)⟩) ?_
    refine GA.done (by kernel_rfl) ?_
    repeat (first | (apply G.ex (hd := rfl); case h => (first | exact Ex.move rfl | exact Ex.add rfl rfl (by omega) | exact Ex.assign rfl)) | refine G.nil ?_ | refine GC.region ?_ | refine GE.then_normal ?_ | refine GE.block_normal ?_)
    rw [show (i : Int) + 1 = ((i + 1 : Nat) : Int) by omega]
    refine GE.loop (i + 1, B.set i (mk N (B.getD i default))) ⟨by simp only; omega, hB2⟩ (by simp only; omega) (by simp only [fits]; repeat (first | exact trivial | refine And.intro rfl ?_)) (by repeat first | exact tn_ | apply td_ rfl | apply tc_ | exact .here | apply Take1.there) (by repeat (first | exact Subs.refl | refine Subs.skip ?_))
  · obtain rfl : i = A.length := by omega
    rw [List.take_length, List.drop_length, List.append_nil] at hB
    have hBd : A.map dM = B.map dM := by rw [hB, List.map_map]; rfl
    have hBok : ∀ x ∈ B, MsOk x := fun x hx => by
      rw [hB] at hx
      obtain ⟨y, hy, rfl⟩ := List.mem_map.1 hx
      obtain ⟨p1, p2, p3⟩ := hO y hy
      exact ⟨p1, p2, p3⟩
    rw [hBd]
    repeat (first | (apply G.ex (hd := rfl); case h => (first | exact Ex.move rfl | exact Ex.lss rfl rfl | exact Ex.lenSl rfl)) | refine G.nil ?_ | refine GC.seq ?_ | refine GC.region ?_ | refine GC.exit ?_ | refine GE.then_normal ?_ | refine GE.then_exit ?_ | refine GE.block_hit ?_ | refine GC.cond_no rfl (by first | assumption | omega) ?_)
    first | refine G.call (caps := []) (served_sp (.vec 30 9 ba A.length bc (flat eRq B)) ba A.length bc B hBl (by omega) hBok) rfl rfl rfl rfl (by repeat first | exact tn_ | apply td_ rfl | apply tc_ | exact .here | apply Take1.there) ?_ | refine G.callU (caps := []) (served_sp (.vec 30 9 ba A.length bc (flat eRq B)) ba A.length bc B hBl (by omega) hBok) rfl rfl rfl (by repeat first | exact tn_ | apply td_ rfl | apply tc_ | exact .here | apply Take1.there) ?_
    rintro v_ give_ ⟨S2, to_, tc, hS2, rfl, rfl⟩ rs_ hrs_
    simp only [List.cons_append, List.nil_append] at hrs_
    subst hrs_
    have key : ∀ j, j < A.length → (S.getD j default).x.mark = (A.getD j default).r.mark ∧ (S2.getD j default).x.mark = (B.getD j default).r.mark ∧ setMp (S2.getD j default).x (S.getD j default).x.mark = (S.getD j default).x ∧ (S.getD j default).x.d.length ≤ 1000000 ∧ (S.getD j default).x.names.length ≤ 1000 := fun j hj => by
      rw [hB] at hS2 ⊢
      exact marks_at hS hS2 hO hj
    have hS2l : S2.length = A.length := by have := congrArg List.length hS2; rw [List.length_map, sruns_len, List.length_map] at this; omega
    clear hB hBd hBok hS hS2 hO hmk
    repeat (first | (apply G.ex (hd := rfl); case h => (first | exact Ex.move rfl | exact Ex.extract rfl rfl | exact Ex.assign rfl | exact Ex.notB rfl | exact Ex.pickLF rfl rfl)) | refine G.yes rfl rfl ?_ | refine G.nil ?_ | refine GC.seq ?_ | refine GC.region ?_ | refine GC.block ?_ | refine GC.skip ?_ | refine GE.then_normal ?_ | refine GC.cond_f rfl ?_)
    refine GC.loop (ι := Nat) (fun j => j ≤ A.length) (fun j => A.length - j) (fun j => [(5, .slice oa A.length oc), (6, .slice so A.length sc), (8, .slice ba A.length bc), (10, .slice to_ A.length tc), (12, .int .i64 (j : Int))]) (fun j => [.vec 30 9 ba A.length bc (flat eRq B), .vec 30 9 oa A.length oc (flat eRq A), .vec 35 7 so A.length sc (flat eRpM S), .vec 35 7 to_ A.length tc (flat eRpM S2), .per (Rd eB 1 (S.map dR)), .per (Rd eO 1 (S.map nR)), .per (Rd eB 1 (S2.map dR)), .per (Rd eO 1 (S2.map nR))]) 0 (Nat.zero_le _) (by simp only [fits]; repeat (first | exact trivial | refine And.intro rfl ?_)) (by repeat first | exact tn_ | apply td_ rfl | apply tc_ | exact .here | apply Take1.there) ?_
    rintro j hj fr_ rs_ hfr_ hrs_
    simp only [List.cons_append, List.nil_append] at hfr_ hrs_
    subst hfr_ hrs_
    by_cases c : j < A.length
    · obtain ⟨f1, f2, f3, fd, fn⟩ := key j c
      clear key
      have n1 : ¬ ¬ (S.getD j default).x.mark = (A.getD j default).r.mark := fun h => h f1
      have n2 : ¬ ¬ (S2.getD j default).x.mark = (B.getD j default).r.mark := fun h => h f2
      have g1 : (S.map dR).getD j default = dR (S.getD j default) := getD_map _ _ _ (by omega)
      have g2 : (S.map nR).getD j default = nR (S.getD j default) := getD_map _ _ _ (by omega)
      have g3 : (S2.map dR).getD j default = ⟨(S2.getD j default).da, (S.getD j default).x.d.length, (S2.getD j default).dc, (S.getD j default).x.d⟩ := by rw [← f3]; exact getD_map _ _ _ (by omega)
      have g4 : (S2.map nR).getD j default = ⟨(S2.getD j default).na, (S.getD j default).x.names.length, (S2.getD j default).nc, (S.getD j default).x.names⟩ := by rw [← f3]; exact getD_map _ _ _ (by omega)
      repeat (first | (apply G.ex (hd := rfl); case h => (first | exact Ex.move rfl | exact Ex.lss rfl rfl | exact Ex.lenSl rfl | exact Ex.indexN rfl rfl (by first | omega | (simp; done) | (simp; omega)) | exact Ex.loadTA rfl (by first | omega | (simp; done) | (simp; omega)))) | refine G.nil ?_ | (apply Gq.ex (hd := rfl); case h => (first | exact Ex.move rfl | exact Ex.fieldE rfl | exact Ex.neI rfl rfl | exact Ex.indexN rfl rfl (by first | omega | (simp; done) | (simp; omega)) | exact Ex.loadT0 rfl (by first | omega | (simp; done) | (simp; omega)) rfl | exact Ex.loadT rfl (by first | omega | (simp; done) | (simp; omega)) rfl | exact Ex.pickF rfl (by first | assumption | omega) rfl)) | refine Gq.g_ff rfl rfl (by first | assumption | omega) ?_ | refine Gq.nil ?_ | refine GC.seq ?_ | refine GC.region ?_ | refine GC.draw (by kernel_rfl) (by kernel_rfl) ?_ | refine GC.block ?_ | refine GC.skip ?_ | refine GE.then_normal ?_ | refine GC.cond_yes rfl (by first | assumption | omega) ?_ | refine GC.cond_no rfl (by first | assumption | omega) ?_)
      refine G.alloc rfl (fun xb => ?_)
      repeat (first | refine G.storeB rfl rfl rfl rfl rfl ?_ | refine G.storeBA rfl rfl rfl rfl rfl ?_ | (apply G.ex (hd := rfl); case h => (first | exact Ex.move rfl | exact Ex.fieldE rfl | exact Ex.fieldB rfl | exact Ex.indexN rfl rfl (by first | omega | (simp; done) | (simp; omega)) | exact Ex.loadT0 rfl (by first | omega | (simp; done) | (simp; omega)) rfl)) | refine G.nil ?_ | refine GC.seq ?_ | refine GC.region ?_ | refine GE.then_normal ?_)
      refine GC.reblk (eRp (setMp (S2.getD j default).x (S.getD j default).x.mark) (S2.getD j default).da (S2.getD j default).dc (S2.getD j default).na (S2.getD j default).nc) rfl ?_
      rw [f3]
      refine GC.conv (fun w_ H_ => H_.rdAt (l := S.map dR) (enc := eB) (s := 1) (by simp) j (by rw [List.length_map]; omega)) ?_
      rw [g1]
      refine GC.conv (fun w_ H_ => H_.rdAt (l := S.map nR) (enc := eO) (s := 1) (by simp) j (by rw [List.length_map]; omega)) ?_
      rw [g2]
      refine GC.conv (fun w_ H_ => H_.rdAt (l := S2.map dR) (enc := eB) (s := 1) (by simp) j (by rw [List.length_map]; omega)) ?_
      rw [g3]
      refine GC.conv (fun w_ H_ => H_.rdAt (l := S2.map nR) (enc := eO) (s := 1) (by simp) j (by rw [List.length_map]; omega)) ?_
      rw [g4]
      refine GC.drawA [] [.vec 35 7 so A.length sc (flat eRpM S), .blk xb 35 (eRp (S.getD j default).x (S2.getD j default).da (S2.getD j default).dc (S2.getD j default).na (S2.getD j default).nc)] (by repeat first | exact tn_ | apply td_ rfl | apply tc_ | exact .here | apply Take1.there) (by kernel_rfl) ?_
      first | (apply GA.take [] (hD := .inl rfl) (hsub := ⟨_, Takes.nil⟩) (i := 0) (hi := rfl) (hs := by kernel_rfl) (hfr := by kernel_rfl) (hr := by kernel_rfl) (hQ := np_) (hd := rfl); case hx => (first | exact Ex.move rfl))
      first | (apply GA.take [] (hD := .inl rfl) (hsub := ⟨_, Takes.nil⟩) (i := 1) (hi := rfl) (hs := by kernel_rfl) (hfr := by kernel_rfl) (hr := by kernel_rfl) (hQ := np_) (hd := rfl); case hx => (first | exact Ex.move rfl))
      first | (apply GA.take _ (hD := .inr ⟨rfl, by kernel_rfl⟩) (hsub := ⟨_, (by repeat first | exact tn_ | apply td_ rfl | apply tc_ | exact .here | apply Take1.there)⟩) (i := 2) (hi := rfl) (hs := by kernel_rfl) (hfr := by kernel_rfl) (hr := by kernel_rfl) (hQ := np_) (hd := rfl); case hx => (first | exact Ex.indexN rfl rfl (by first | omega | (simp; done) | (simp; omega))))
      first | (apply GA.take _ (hD := .inr ⟨rfl, by kernel_rfl⟩) (hsub := ⟨_, (by repeat first | exact tn_ | apply td_ rfl | apply tc_ | exact .here | apply Take1.there)⟩) (i := 3) (hi := rfl) (hs := by kernel_rfl) (hfr := by kernel_rfl) (hr := by kernel_rfl) (hQ := np_) (hd := rfl); case hx => (first | exact Ex.loadTA rfl (by first | omega | (simp; done) | (simp; omega))))
      first | (apply GA.take _ (hD := .inr ⟨rfl, by kernel_rfl⟩) (hsub := ⟨_, (by repeat first | exact tn_ | apply td_ rfl | apply tc_ | exact .here | apply Take1.there)⟩) (i := 4) (hi := rfl) (hs := by kernel_rfl) (hfr := by kernel_rfl) (hr := by kernel_rfl) (hQ := np_) (hd := rfl); case hx => (first | exact Ex.loadBA rfl rfl rfl))
      refine GA.one (i := 5) (by kernel_rfl) rfl ?_
      first | refine G.call (caps := []) (sameReply_sp (S.getD j default).x (S.getD j default).da (S2.getD j default).da (S.getD j default).na (S2.getD j default).na (S.getD j default).dc (S2.getD j default).dc (S.getD j default).nc (S2.getD j default).nc fd fn) rfl rfl rfl rfl (by repeat first | exact tn_ | apply td_ rfl | apply tc_ | exact .here | apply Take1.there) ?_ | refine G.callU (caps := []) (sameReply_sp (S.getD j default).x (S.getD j default).da (S2.getD j default).da (S.getD j default).na (S2.getD j default).na (S.getD j default).dc (S2.getD j default).dc (S.getD j default).nc (S2.getD j default).nc fd fn) rfl rfl rfl (by repeat first | exact tn_ | apply td_ rfl | apply tc_ | exact .here | apply Take1.there) ?_
      rintro v_ give_ ⟨rfl, rfl⟩ rs_ hrs_
      simp only [List.cons_append, List.nil_append] at hrs_
      subst hrs_
      try refine G.nil ?_
      refine GA.back (by first | exact .inl (by decide) | exact .inr ⟨_, (by repeat first | exact tn_ | apply td_ rfl | apply tc_ | exact .here | apply Take1.there)⟩) ?_
      first | (apply GA.take [] (hD := .inl rfl) (hsub := ⟨_, Takes.nil⟩) (i := 6) (hi := rfl) (hs := by kernel_rfl) (hfr := by kernel_rfl) (hr := by kernel_rfl) (hQ := np_) (hd := rfl); case hx => (first | exact Ex.notB rfl))
      refine GA.done (by kernel_rfl) ?_
      repeat (first | (apply G.ex (hd := rfl); case h => (first | exact Ex.move rfl | exact Ex.add rfl rfl (by omega) | exact Ex.assign rfl)) | refine G.nil ?_ | refine GC.region ?_ | refine GC.skip ?_ | refine GE.then_normal ?_ | refine GE.block_normal ?_ | refine GC.cond_f rfl ?_)
      rw [show (j : Int) + 1 = ((j + 1 : Nat) : Int) by omega]
      refine GE.loop (j + 1) (by omega) (by omega) (by simp only [fits]; repeat (first | exact trivial | refine And.intro rfl ?_)) (by repeat first | exact tn_ | apply td_ rfl | apply tc_ | exact .here | apply Take1.there) (by repeat (first | exact Subs.refl | refine Subs.skip ?_))
    · obtain rfl : j = A.length := by omega
      repeat (first | (apply G.ex (hd := rfl); case h => (first | exact Ex.move rfl | exact Ex.lss rfl rfl | exact Ex.lenSl rfl | exact Ex.assign rfl)) | refine G.nil ?_ | refine GC.seq ?_ | refine GC.region ?_ | refine GC.ret ?_ | refine GC.exit ?_ | refine GE.then_normal ?_ | refine GE.then_exit ?_ | refine GE.block_hit ?_ | refine GC.cond_no rfl (by first | assumption | omega) ?_)
      refine GE.ret (by first | exact .inl rfl | exact .inr rfl) (res1 Tryd.results3 rfl) ⟨rfl, rfl⟩ (by repeat first | exact tn_ | apply td_ rfl | apply tc_ | exact .here | apply Take1.there) (by repeat (first | exact Subs.refl | refine Subs.skip ?_))
end serve
end Go.Proofs.YtmceappjldcbmaaDoor
