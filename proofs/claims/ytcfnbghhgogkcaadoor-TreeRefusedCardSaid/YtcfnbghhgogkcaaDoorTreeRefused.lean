/-
  CONTRACT of packthreadkeep.TreeRefused, by the kit.
-/
import Derived.Test.YtcfnbghhgogkcaaDoorTreeN4
namespace Go.Proofs.YtcfnbghhgogkcaaDoor
open Go.RowKit
attribute [local irreducible] Ex G GC GE Gq FPost LPost
set_option linter.unusedVariables false
set_option linter.unusedSimpArgs false
namespace tree
open path
theorem Holds.rdSub {w0 w : World} {α : Type} {enc : α → List Value} {s : Nat} {l m : List (SlD α)} {rs : List Res} (h : ∀ x ∈ m, x ∈ l) (H : Holds w0 w (.per (Rd enc s l) :: rs)) : Holds w0 w (.per (Rd enc s m) :: .per (Rd enc s l) :: rs) :=
  H.derive (List.mem_cons_self ..) _ fun f o o' hs y hy => hs y (h y hy)
/-- acts that were not refused, up to one -/
def fewM (A : List AcM) (S : List SnM) (i : Nat) : List AcM := (((A.zip S).take i).filter fun p => decide (p.2.s.code = 0)).map Prod.fst
def wantM (S : List SnM) (i : Nat) : List SnM := (S.take i).filter fun x => decide (x.s.code = 0)
theorem fewM_step {A : List AcM} {S : List SnM} {i : Nat} (hA : i < A.length) (hS : i < S.length) : fewM A S (i + 1) = fewM A S i ++ if (S.getD i default).s.code = 0 then [A.getD i default] else [] := by
  unfold fewM
  rw [List.take_succ_eq_append_getElem (by rw [List.length_zip]; omega), List.filter_append, List.map_append, List.getElem_zip]
  have e1 : A.getD i default = A[i] := by rw [List.getD_eq_getElem?_getD, List.getElem?_eq_getElem hA]; rfl
  have e2 : S.getD i default = S[i] := by rw [List.getD_eq_getElem?_getD, List.getElem?_eq_getElem hS]; rfl
  rw [e1, e2]
  by_cases c : S[i].s.code = 0
  · rw [if_pos c, List.filter_cons, if_pos (by simp [c])]; rfl
  · rw [if_neg c, List.filter_cons, if_neg (by simp [c])]; rfl
theorem wantM_step {S : List SnM} {i : Nat} (hS : i < S.length) : wantM S (i + 1) = wantM S i ++ if (S.getD i default).s.code = 0 then [S.getD i default] else [] := by
  unfold wantM
  rw [List.take_succ_eq_append_getElem hS, List.filter_append]
  have e2 : S.getD i default = S[i] := by rw [List.getD_eq_getElem?_getD, List.getElem?_eq_getElem hS]; rfl
  rw [e2]
  by_cases c : S[i].s.code = 0
  · rw [if_pos c, List.filter_cons, if_pos (by simp [c])]; rfl
  · rw [if_neg c, List.filter_cons, if_neg (by simp [c])]; rfl
theorem fewM_mem {A : List AcM} {S : List SnM} {i : Nat} : ∀ x ∈ fewM A S i, x ∈ A := fun x hx => by
  obtain ⟨p, hp, rfl⟩ := List.mem_map.1 hx
  have h1 := List.mem_of_mem_take (List.mem_filter.1 hp).1
  exact (List.of_mem_zip (a := p.1) (b := p.2) h1).1
theorem wantM_mem {S : List SnM} {i : Nat} : ∀ x ∈ wantM S i, x ∈ S := fun x hx => List.mem_of_mem_take (List.mem_filter.1 hx).1
theorem fewM_len {A : List AcM} {S : List SnM} : ∀ i, (fewM A S i).length ≤ i := fun i => by
  unfold fewM
  rw [List.length_map]
  have h1 := List.length_filter_le (fun p : AcM × SnM => decide (p.2.s.code = 0)) ((A.zip S).take i)
  rw [List.length_take] at h1
  omega
theorem wantM_len {S : List SnM} : ∀ i, (wantM S i).length ≤ i := fun i => by
  have h1 := List.length_filter_le (fun x : SnM => decide (x.s.code = 0)) (S.take i)
  rw [List.length_take] at h1
  unfold wantM
  omega
/-- without what is refused all else comes to the same -/
theorem few_law : ∀ (t : Tr) (A : List AcM) (S : List SnM), S.map (·.s) = runs t (A.map (·.a)) → runs t (((A.zip S).filter fun p => decide (p.2.s.code = 0)).map fun p => p.1.a) = (S.filter fun x => decide (x.s.code = 0)).map (·.s)
  | t, [], S, h => by
    have : S = [] := List.map_eq_nil_iff.1 h
    subst this; rfl
  | t, a :: A, [], h => nomatch h
  | t, a :: A, s :: S, h => by
    have h1 : s.s = (doF t a.a).2 := (List.cons.inj h).1
    have h2 : S.map (·.s) = runs (doF t a.a).1 (A.map (·.a)) := (List.cons.inj h).2
    have ih := few_law (doF t a.a).1 A S h2
    rw [List.zip_cons_cons, List.filter_cons, List.filter_cons]
    by_cases c : s.s.code = 0
    · rw [if_pos (by simp [c]), if_pos (by simp [c])]
      show (doF t a.a).2 :: runs (doF t a.a).1 _ = s.s :: _
      rw [ih, h1]
    · rw [if_neg (by simp [c]), if_neg (by simp [c])]
      have : (doF t a.a).1 = t := refused (by rw [← h1]; exact c)
      rw [this] at ih
      exact ih
theorem fewM_all {A : List AcM} {S : List SnM} (hl : A.length = S.length) (h : S.map (·.s) = runs newT (A.map (·.a))) : runs newT ((fewM A S A.length).map (·.a)) = (wantM S A.length).map (·.s) := by
  unfold fewM wantM
  rw [List.take_of_length_le (by rw [List.length_zip]; omega), List.take_of_length_le (by omega), List.map_map]
  exact few_law newT A S h
set_option maxHeartbeats 16000000 in
theorem treeRefused_sp (a0 : Option Addr) (len0 cap0 : Nat) (z0 : List JbM) (hl0 : z0.length = len0) (hb0 : len0 ≤ 9223372036854775807) (hw0 : ∀ m ∈ z0, JOk m) :
    Spec Tryd.prog 4 [.slice a0 len0 cap0] [.sl a0 len0 cap0 4 (flat eJb z0), .per (Rd eB 1 (z0.map (·.d)))] fun v give => v = .bool true ∧ give = [] := by
  refine Spec.intro Tryd.func4 rfl Tryd.ntmps4 rfl fun w0 rest rs_ hrs_ => ?_
  simp only [List.cons_append, List.nil_append] at hrs_
  subst hrs_
  repeat (first | (apply G.ex (hd := rfl); case h => (first | exact Ex.move rfl | exact Ex.assign rfl)) | refine G.nil ?_ | refine GC.seq ?_ | refine GC.region ?_ | refine GE.then_normal ?_)
  first | refine G.call (caps := []) (acts_sp a0 len0 cap0 z0 hl0 hb0 hw0 80 (by decide)) rfl rfl rfl rfl (by repeat first | exact tn_ | apply td_ rfl | apply tc_ | exact .here | apply Take1.there) ?_ | refine G.callU (caps := []) (acts_sp a0 len0 cap0 z0 hl0 hb0 hw0 80 (by decide)) rfl rfl rfl (by repeat first | exact tn_ | apply td_ rfl | apply tc_ | exact .here | apply Take1.there) ?_
  rintro v_ give_ ⟨A, oa, oc, hA, rfl, rfl⟩ rs_ hrs_
  simp only [List.cons_append, List.nil_append] at hrs_
  subst hrs_
  have hAok := acts_ok hA
  have hAl : A.length ≤ 80 := by have := congrArg List.length hA; rw [List.length_map, List.length_map, List.length_take] at this; omega
  obtain ⟨n, hn⟩ : ∃ n, A.length = n := ⟨_, rfl⟩
  rw [hn] at hAl ⊢
  repeat (first | (apply G.ex (hd := rfl); case h => (first | exact Ex.move rfl | exact Ex.assign rfl)) | refine G.nil ?_ | refine GC.seq ?_ | refine GC.region ?_ | refine GE.then_normal ?_)
  first | refine G.call (caps := []) (grown_sp (.vec 36 6 oa n oc (flat eAcM A)) oa n oc A hn (by omega) hAok) rfl rfl rfl rfl (by repeat first | exact tn_ | apply td_ rfl | apply tc_ | exact .here | apply Take1.there) ?_ | refine G.callU (caps := []) (grown_sp (.vec 36 6 oa n oc (flat eAcM A)) oa n oc A hn (by omega) hAok) rfl rfl rfl (by repeat first | exact tn_ | apply td_ rfl | apply tc_ | exact .here | apply Take1.there) ?_
  rintro v_ give_ ⟨S, so, sc, hS, rfl, rfl⟩ rs_ hrs_
  simp only [List.cons_append, List.nil_append] at hrs_
  subst hrs_
  have hSl : S.length = n := by have := congrArg List.length hS; rw [List.length_map, runs_len, List.length_map] at this; omega
  have hall := fewM_all (hn.trans hSl.symm) hS
  rw [hn] at hall
  repeat (first | (apply G.ex (hd := rfl); case h => (first | exact Ex.move rfl | exact Ex.extract rfl rfl | exact Ex.assign rfl | exact Ex.notB rfl)) | refine G.nil ?_ | refine GC.seq ?_ | refine GC.region ?_ | refine GC.block ?_ | refine GC.skip ?_ | refine GE.then_normal ?_ | refine GC.cond_f rfl ?_)
  refine GC.nilvec 36 6 ?_
  refine GC.nilvec 32 5 ?_
  repeat (first | fail)
  refine GC.loop (ι := Nat × (Option Addr × Nat) × Option Addr × Nat) (fun x => x.1 ≤ n) (fun x => n - x.1) (fun x => [(3, .slice oa n oc), (4, .slice so n sc), (6, .slice x.2.1.1 (fewM A S x.1).length x.2.1.2), (7, .slice x.2.2.1 (wantM S x.1).length x.2.2.2), (8, .int .i64 (x.1 : Int))]) (fun x => [.vec 36 6 x.2.1.1 (fewM A S x.1).length x.2.1.2 (flat eAcM (fewM A S x.1)), .vec 32 5 x.2.2.1 (wantM S x.1).length x.2.2.2 (flat eSnM (wantM S x.1))]) (0, (none, 0), none, 0) (Nat.zero_le _) (by simp only [fits]; repeat (first | exact trivial | refine And.intro rfl ?_)) (by repeat first | exact tn_ | apply td_ rfl | apply tc_ | exact .here | apply Take1.there) ?_
  rintro ⟨i, ⟨fa, fc⟩, wa, wc⟩ hi fr_ rs_ hfr_ hrs_
  simp only [List.cons_append, List.nil_append] at hfr_ hrs_
  subst hfr_ hrs_
  simp only at hi
  repeat (first | (apply G.ex (hd := rfl); case h => (first | exact Ex.move rfl | exact Ex.lss rfl rfl | exact Ex.lenSl rfl)) | refine G.nil ?_ | refine GC.seq ?_ | refine GC.region ?_ | refine GE.then_normal ?_)
  refine GC.cond_dec rfl (fun hlt => ?_) (fun hlt => ?_)
  · have hlt : i < n := by omega
    have hfs := fewM_step (A := A) (S := S) (i := i) (by omega) (by omega)
    have hws := wantM_step (S := S) (i := i) (by omega)
    have hfl := fewM_len (A := A) (S := S) i
    have hwl := wantM_len (S := S) i
    repeat (first | (apply G.ex (hd := rfl); case h => (first | exact Ex.move rfl | exact Ex.fieldE rfl | exact Ex.eqI rfl rfl | exact Ex.indexN rfl rfl (by first | omega | (simp; done) | (simp; omega)) | exact Ex.loadT0 rfl (by first | omega | (simp; done) | (simp; omega)) rfl)) | refine G.nil ?_ | refine GC.seq ?_ | refine GC.region ?_ | refine GC.block ?_ | refine GC.skip ?_ | refine GE.then_normal ?_)
    by_cases hc : (S.getD i default).s.code = 0
    · rw [if_pos hc] at hfs hws
      have hcat : flat eAcM (fewM A S i) ++ flat eAcM [A.getD i default] = flat eAcM (fewM A S (i + 1)) := by rw [hfs]; exact (flat_append ..).symm
      have hcat2 : flat eSnM (wantM S i) ++ flat eSnM [S.getD i default] = flat eSnM (wantM S (i + 1)) := by rw [hws]; exact (flat_append ..).symm
      have hl1 : (fewM A S i).length + 1 = (fewM A S (i + 1)).length := by rw [hfs, List.length_append]; rfl
      have hl2 : (wantM S i).length + 1 = (wantM S (i + 1)).length := by rw [hws, List.length_append]; rfl
      repeat (first | (apply G.ex (hd := rfl); case h => (first | exact Ex.move rfl | exact Ex.indexN rfl rfl (by first | omega | (simp; done) | (simp; omega)) | exact Ex.loadTA rfl (by first | omega | (simp; done) | (simp; omega)))) | refine GC.seq ?_ | refine GC.region ?_ | refine GC.cond_yes rfl (by first | assumption | omega) ?_)
      refine G.lit (cells := flat eAcM [A.getD i default]) rfl (by rfl) (by rfl) (by rfl) (by rfl) (by rfl) (by rfl) rfl (fun y => ?_)
      repeat (first | fail)
      refine G.app rfl rfl (by rfl) (by omega) rfl (hcat) (fun fa2 fc2 rs_ hrs_ => ?_)
      try simp only at hrs_
      subst hrs_
      rw [hl1]
      repeat (first | (apply G.ex (hd := rfl); case h => (first | exact Ex.move rfl | exact Ex.indexN rfl rfl (by first | omega | (simp; done) | (simp; omega)) | exact Ex.assign rfl | exact Ex.loadTA rfl (by first | omega | (simp; done) | (simp; omega)))) | refine G.nil ?_ | refine GC.region ?_ | refine GE.then_normal ?_)
      refine G.lit (cells := flat eSnM [S.getD i default]) rfl (by rfl) (by rfl) (by rfl) (by rfl) (by rfl) (by rfl) rfl (fun y2 => ?_)
      repeat (first | fail)
      refine G.app rfl rfl (by rfl) (by omega) rfl (hcat2) (fun wa2 wc2 rs_ hrs_ => ?_)
      try simp only at hrs_
      subst hrs_
      rw [hl2]
      repeat (first | (apply G.ex (hd := rfl); case h => (first | exact Ex.move rfl | exact Ex.add rfl rfl (by omega) | exact Ex.assign rfl)) | refine G.nil ?_ | refine GC.region ?_ | refine GE.then_normal ?_ | refine GE.block_normal ?_)
      rw [show (i : Int) + 1 = ((i + 1 : Nat) : Int) by omega]
      refine GE.loop (i + 1, (fa2, fc2), wa2, wc2) (by simp only; omega) (by simp only; omega) (by simp only [fits]; repeat (first | exact trivial | refine And.intro rfl ?_)) (by repeat first | exact tn_ | apply td_ rfl | apply tc_ | exact .here | apply Take1.there) (by repeat (first | exact Subs.refl | refine Subs.skip ?_))
    · rw [if_neg hc, List.append_nil] at hfs hws
      rw [← hfs, ← hws]
      repeat (first | (apply G.ex (hd := rfl); case h => (first | exact Ex.move rfl | exact Ex.add rfl rfl (by omega) | exact Ex.assign rfl)) | refine G.nil ?_ | refine GC.region ?_ | refine GC.skip ?_ | refine GE.then_normal ?_ | refine GE.block_normal ?_ | refine GC.cond_no rfl (by first | assumption | omega) ?_)
      rw [show (i : Int) + 1 = ((i + 1 : Nat) : Int) by omega]
      refine GE.loop (i + 1, (fa, fc), wa, wc) (by simp only; omega) (by simp only; omega) (by simp only [fits]; repeat (first | exact trivial | refine And.intro rfl ?_)) (by repeat first | exact tn_ | apply td_ rfl | apply tc_ | exact .here | apply Take1.there) (by repeat (first | exact Subs.refl | refine Subs.skip ?_))
  · obtain rfl : i = n := by omega
    have hfl := fewM_len (A := A) (S := S) i
    have hwl := wantM_len (S := S) i
    have hFm : ∀ x ∈ (fewM A S i).map dA, x ∈ A.map dA := fun x hx => by
      obtain ⟨y, hy, rfl⟩ := List.mem_map.1 hx
      exact List.mem_map.2 ⟨y, fewM_mem y hy, rfl⟩
    have hWm : ∀ x ∈ (wantM S i).map dS, x ∈ S.map dS := fun x hx => by
      obtain ⟨y, hy, rfl⟩ := List.mem_map.1 hx
      exact List.mem_map.2 ⟨y, wantM_mem y hy, rfl⟩
    have hWn : ∀ x ∈ (wantM S i).map nS, x ∈ S.map nS := fun x hx => by
      obtain ⟨y, hy, rfl⟩ := List.mem_map.1 hx
      exact List.mem_map.2 ⟨y, wantM_mem y hy, rfl⟩
    have hFok : ∀ x ∈ fewM A S i, AcOk x.a := fun x hx => hAok x (fewM_mem x hx)
    generalize hF : fewM A S i = F at *
    generalize hW : wantM S i = W at *
    have hsame : F.length = W.length := by have := congrArg List.length hall; rw [runs_len, List.length_map, List.length_map] at this; exact this
    have hsm : ∀ x ∈ W, x.s.d.length ≤ 2048 ∧ x.s.names.length ≤ 39 := by
      have key : ∀ (t : Tr) (l : List Ac), TrOk t → Cnt t → ∀ s ∈ runs t l, s.d.length ≤ 2048 ∧ s.names.length ≤ 39 := by
        intro t l
        induction l generalizing t with
        | nil => intro _ _ s hs; exact nomatch hs
        | cons a l ih =>
          intro k c s hs
          rcases List.mem_cons.1 hs with rfl | hs
          · exact small k c a
          · exact ih _ (k.do_ c a).1 (k.do_ c a).2 s hs
      intro x hx
      exact key newT _ TrOk.new Cnt.new x.s (by rw [hall]; exact List.mem_map.2 ⟨x, hx, rfl⟩)
    repeat (first | (apply G.ex (hd := rfl); case h => (first | exact Ex.move rfl)) | refine GC.seq ?_ | refine GC.region ?_ | refine GC.exit ?_ | refine GE.then_normal ?_ | refine GE.then_exit ?_ | refine GE.block_hit ?_)
    refine G.conv (fun w_ H_ => Holds.rdSub hFm (H_.take (need := [.per (Rd eB 1 (A.map dA))]) (by repeat first | exact tn_ | apply td_ rfl | apply tc_ | exact .here | apply Take1.there))) ?_
    try simp only [List.append_eq, List.nil_append, List.cons_append]
    refine G.conv (fun w_ H_ => Holds.rdSub hWm (H_.take (need := [.per (Rd eB 1 (S.map dS))]) (by repeat first | exact tn_ | apply td_ rfl | apply tc_ | exact .here | apply Take1.there))) ?_
    try simp only [List.append_eq, List.nil_append, List.cons_append]
    refine G.conv (fun w_ H_ => Holds.rdSub hWn (H_.take (need := [.per (Rd eO 1 (S.map nS))]) (by repeat first | exact tn_ | apply td_ rfl | apply tc_ | exact .here | apply Take1.there))) ?_
    try simp only [List.append_eq, List.nil_append, List.cons_append]
    first | refine G.call (caps := []) (grown_sp (.vec 36 6 fa F.length fc (flat eAcM F)) fa F.length fc F rfl (by omega) hFok) rfl rfl rfl rfl (by repeat first | exact tn_ | apply td_ rfl | apply tc_ | exact .here | apply Take1.there) ?_ | refine G.callU (caps := []) (grown_sp (.vec 36 6 fa F.length fc (flat eAcM F)) fa F.length fc F rfl (by omega) hFok) rfl rfl rfl (by repeat first | exact tn_ | apply td_ rfl | apply tc_ | exact .here | apply Take1.there) ?_
    rintro v_ give_ ⟨T, ta, tc, hT, rfl, rfl⟩ rs_ hrs_
    simp only [List.cons_append, List.nil_append] at hrs_
    subst hrs_
    have hTl : T.length = F.length := by have := congrArg List.length hT; rw [List.length_map, runs_len, List.length_map] at this; omega
    repeat (first | (apply G.ex (hd := rfl); case h => (first | exact Ex.move rfl | exact Ex.extract rfl rfl | exact Ex.assign rfl | exact Ex.notB rfl)) | refine G.nil ?_ | refine GC.seq ?_ | refine GC.region ?_ | refine GC.block ?_ | refine GC.skip ?_ | refine GE.then_normal ?_ | refine GC.cond_f rfl ?_)
    refine GC.loop (ι := Nat) (fun x => x ≤ F.length) (fun x => F.length - x) (fun x => [(7, .slice wa W.length wc), (9, .slice ta F.length tc), (11, .int .i64 (x : Int))]) (fun x => [.vec 32 5 ta F.length tc (flat eSnM T), .vec 32 5 wa W.length wc (flat eSnM W), .per (Rd eB 1 (T.map dS)), .per (Rd eO 1 (T.map nS)), .per (Rd eB 1 (W.map dS)), .per (Rd eO 1 (W.map nS))]) 0 (Nat.zero_le _) (by simp only [fits]; repeat (first | exact trivial | refine And.intro rfl ?_)) (by repeat first | exact tn_ | apply td_ rfl | apply tc_ | exact .here | apply Take1.there) ?_
    rintro j hj fr_ rs_ hfr_ hrs_
    simp only [List.cons_append, List.nil_append] at hfr_ hrs_
    subst hfr_ hrs_
    repeat (first | (apply G.ex (hd := rfl); case h => (first | exact Ex.move rfl | exact Ex.lss rfl rfl | exact Ex.lenSl rfl)) | refine G.nil ?_ | refine GC.seq ?_ | refine GC.region ?_ | refine GE.then_normal ?_)
    refine GC.cond_dec rfl (fun hlt2 => ?_) (fun hlt2 => ?_)
    · have hlt2 : j < F.length := by omega
      have e1 : (T.map dS).getD j default = dS (T.getD j default) := getD_map _ _ _ (by omega)
      have e2 : (T.map nS).getD j default = nS (T.getD j default) := getD_map _ _ _ (by omega)
      have e3 : (W.map dS).getD j default = dS (W.getD j default) := getD_map _ _ _ (by omega)
      have e4 : (W.map nS).getD j default = nS (W.getD j default) := getD_map _ _ _ (by omega)
      have hsj : (T.getD j default).s = (W.getD j default).s := by
        have q1 : (T.map (·.s)).getD j default = (T.getD j default).s := getD_map _ _ _ (by omega)
        have q2 : (W.map (·.s)).getD j default = (W.getD j default).s := getD_map _ _ _ (by omega)
        rw [← q1, ← q2, hT, hall]
      obtain ⟨s1, s2⟩ := hsm (W.getD j default) (by rw [List.getD_eq_getElem?_getD, List.getElem?_eq_getElem (show j < W.length by omega)]; exact List.getElem_mem _)
      repeat ((fail_if_success (refine GC.region (id := 19) ?_)); first | refine GC.seq ?_ | refine GC.block ?_ | refine GC.skip ?_ | refine GE.then_normal ?_)
      refine GC.conv (fun w_ H_ => H_.rdAt (l := T.map dS) (enc := eB) (s := 1) (by simp) j (by rw [List.length_map]; omega)) ?_
      refine GC.conv (fun w_ H_ => H_.rdAt (l := T.map nS) (enc := eO) (s := 1) (by simp) j (by rw [List.length_map]; omega)) ?_
      refine GC.conv (fun w_ H_ => H_.rdAt (l := W.map dS) (enc := eB) (s := 1) (by simp) j (by rw [List.length_map]; omega)) ?_
      refine GC.conv (fun w_ H_ => H_.rdAt (l := W.map nS) (enc := eO) (s := 1) (by simp) j (by rw [List.length_map]; omega)) ?_
      rw [e1, e2, e3, e4]
      have hWl : j < W.length := by omega
      refine GC.drawA [] [.vec 32 5 ta F.length tc (flat eSnM T), .vec 32 5 wa W.length wc (flat eSnM W)] (by repeat first | exact tn_ | apply td_ rfl | apply tc_ | exact .here | apply Take1.there) (by kernel_rfl) ?_
      first | (apply GA.take [] (hD := .inl rfl) (hsub := ⟨_, Takes.nil⟩) (i := 0) (hi := rfl) (hs := by kernel_rfl) (hfr := by kernel_rfl) (hr := by kernel_rfl) (hQ := np_) (hd := rfl); case hx => (first | exact Ex.move rfl))
      first | (apply GA.take [] (hD := .inl rfl) (hsub := ⟨_, Takes.nil⟩) (i := 1) (hi := rfl) (hs := by kernel_rfl) (hfr := by kernel_rfl) (hr := by kernel_rfl) (hQ := np_) (hd := rfl); case hx => (first | exact Ex.move rfl))
      first | (apply GA.take _ (hD := .inr ⟨rfl, by kernel_rfl⟩) (hsub := ⟨_, (by repeat first | exact tn_ | apply td_ rfl | apply tc_ | exact .here | apply Take1.there)⟩) (i := 2) (hi := rfl) (hs := by kernel_rfl) (hfr := by kernel_rfl) (hr := by kernel_rfl) (hQ := np_) (hd := rfl); case hx => (first | exact Ex.indexN rfl rfl (by first | omega | (simp; done) | (simp; omega))))
      first | (apply GA.take _ (hD := .inr ⟨rfl, by kernel_rfl⟩) (hsub := ⟨_, (by repeat first | exact tn_ | apply td_ rfl | apply tc_ | exact .here | apply Take1.there)⟩) (i := 3) (hi := rfl) (hs := by kernel_rfl) (hfr := by kernel_rfl) (hr := by kernel_rfl) (hQ := np_) (hd := rfl); case hx => (first | exact Ex.loadTA rfl (by first | omega | (simp; done) | (simp; omega))))
      first | (apply GA.take [] (hD := .inl rfl) (hsub := ⟨_, Takes.nil⟩) (i := 4) (hi := rfl) (hs := by kernel_rfl) (hfr := by kernel_rfl) (hr := by kernel_rfl) (hQ := np_) (hd := rfl); case hx => (first | exact Ex.move rfl))
      first | (apply GA.take [] (hD := .inl rfl) (hsub := ⟨_, Takes.nil⟩) (i := 5) (hi := rfl) (hs := by kernel_rfl) (hfr := by kernel_rfl) (hr := by kernel_rfl) (hQ := np_) (hd := rfl); case hx => (first | exact Ex.move rfl))
      first | (apply GA.take _ (hD := .inr ⟨rfl, by kernel_rfl⟩) (hsub := ⟨_, (by repeat first | exact tn_ | apply td_ rfl | apply tc_ | exact .here | apply Take1.there)⟩) (i := 6) (hi := rfl) (hs := by kernel_rfl) (hfr := by kernel_rfl) (hr := by kernel_rfl) (hQ := np_) (hd := rfl); case hx => (first | exact Ex.indexN rfl rfl (by first | omega | (simp; done) | (simp; omega))))
      first | (apply GA.take _ (hD := .inr ⟨rfl, by kernel_rfl⟩) (hsub := ⟨_, (by repeat first | exact tn_ | apply td_ rfl | apply tc_ | exact .here | apply Take1.there)⟩) (i := 7) (hi := rfl) (hs := by kernel_rfl) (hfr := by kernel_rfl) (hr := by kernel_rfl) (hQ := np_) (hd := rfl); case hx => (first | exact Ex.loadTA rfl (by first | omega | (simp; done) | (simp; omega))))
      refine GA.one (i := 8) (by kernel_rfl) rfl ?_
      generalize T.getD j default = x at *
      generalize W.getD j default = y at *
      first | refine G.call (caps := []) (sameSeen_sp x y hsj (by rw [hsj]; omega) (by rw [hsj]; omega)) rfl rfl rfl rfl (by repeat first | exact tn_ | apply td_ rfl | apply tc_ | exact .here | apply Take1.there) ?_ | refine G.callU (caps := []) (sameSeen_sp x y hsj (by rw [hsj]; omega) (by rw [hsj]; omega)) rfl rfl rfl (by repeat first | exact tn_ | apply td_ rfl | apply tc_ | exact .here | apply Take1.there) ?_
      rintro v_ give_ ⟨rfl, rfl⟩ rs_ hrs_
      simp only [List.cons_append, List.nil_append] at hrs_
      subst hrs_
      try refine G.nil ?_
      refine GA.back (by first | exact .inl (by decide) | exact .inr ⟨_, (by repeat first | exact tn_ | apply td_ rfl | apply tc_ | exact .here | apply Take1.there)⟩) ?_
      first | (apply GA.take [] (hD := .inl rfl) (hsub := ⟨_, Takes.nil⟩) (i := 9) (hi := rfl) (hs := by kernel_rfl) (hfr := by kernel_rfl) (hr := by kernel_rfl) (hQ := np_) (hd := rfl); case hx => (first | exact Ex.notB rfl))
      refine GA.done (by kernel_rfl) ?_
      repeat (first | (apply G.ex (hd := rfl); case h => (first | exact Ex.move rfl | exact Ex.add rfl rfl (by omega) | exact Ex.assign rfl)) | refine G.nil ?_ | refine GC.region ?_ | refine GC.skip ?_ | refine GE.then_normal ?_ | refine GE.block_normal ?_ | refine GC.cond_f rfl ?_)
      rw [show (j : Int) + 1 = ((j + 1 : Nat) : Int) by omega]
      refine GE.loop (j + 1) (by omega) (by omega) (by simp only [fits]; repeat (first | exact trivial | refine And.intro rfl ?_)) (by repeat first | exact tn_ | apply td_ rfl | apply tc_ | exact .here | apply Take1.there) (by repeat (first | exact Subs.refl | refine Subs.skip ?_))
    · repeat (first | (apply G.ex (hd := rfl); case h => (first | exact Ex.assign rfl)) | refine G.nil ?_ | refine GC.seq ?_ | refine GC.region ?_ | refine GC.ret ?_ | refine GC.exit ?_ | refine GE.then_normal ?_ | refine GE.then_exit ?_ | refine GE.block_hit ?_)
      refine GE.ret (by first | exact .inl rfl | exact .inr rfl) (res1 Tryd.results4 rfl) ⟨rfl, rfl⟩ (by repeat first | exact tn_ | apply td_ rfl | apply tc_ | exact .here | apply Take1.there) (by repeat (first | exact Subs.refl | refine Subs.skip ?_))
end tree
end Go.Proofs.YtcfnbghhgogkcaaDoor
