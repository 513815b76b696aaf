/-
  CONTRACT of packthreadtop.TopShaped: it returns true. By the kit.
-/
import Derived.Test.YtcabcpealkbekaaBuck
namespace Go.Proofs.Ytcabcpealkbekaa
open Go.RowKit
attribute [local irreducible] Ex G GC GE Gq FPost LPost
set_option linter.unusedVariables false
set_option linter.unusedSimpArgs false

namespace buck
open fair
theorem step_size {s s1 : St} {f : Nat × Int} {o : Int × Nat × Int} (h : Step s f o s1) (hw : Wf s) (hf : f.2 = 0) (ho : o.1 = 0) : 1 ≤ o.2.2 ∧ o.2.2 ≤ 1500 := by
  cases h with
  | comes i z hz => simp only at hf; omega
  | none i z hz hn => simp only at ho; omega
  | sends _ i z o hz hs =>
    obtain ⟨a1, a2, a3, a4, a5, a6⟩ := sends_w hs hw
    exact (hw.fl _ (at_mem (fs := s.1) (i := o.1) (by omega))).w o.2 (by rw [a4]; simp)
theorem lst_le {L : List (Nat × Int)} {i : Nat} (h : lst L L.length ≤ i) : lst L L.length ≤ i + 1 := by omega
set_option maxHeartbeats 4000000 in
set_option maxRecDepth 100000 in
theorem topShaped_sp (a0 : Option Addr) (len0 cap0 : Nat) (z0 : List Int) (hl0 : z0.length = len0) (hb0 : len0 ≤ 9223372036854775807) (hw0 : ∀ z ∈ z0, -9223372036854775808 ≤ z ∧ z ≤ 9223372036854775807) (a1 : Option Addr) (len1 cap1 : Nat) (z1 : List Int) (hl1 : z1.length = len1) (hb1 : len1 ≤ 9223372036854775807) (hw1 : ∀ z ∈ z1, -9223372036854775808 ≤ z ∧ z ≤ 9223372036854775807) (a2 : Int) (ha2 : -9223372036854775808 ≤ a2 ∧ a2 ≤ 9223372036854775807) (a3 : Int) (ha3 : -9223372036854775808 ≤ a3 ∧ a3 ≤ 9223372036854775807) :
    Spec Try.prog 12 [.slice a0 len0 cap0, .slice a1 len1 cap1, .int .i64 a2, .int .i64 a3] [.sl a0 len0 cap0 1 (flat (eI .i64) z0), .sl a1 len1 cap1 1 (flat (eI .i64) z1)] fun v give => v = .bool true ∧ give = [] := by
  refine Spec.intro Try.func12 rfl Try.ntmps12 rfl fun w0 rest rs_ hrs_ => ?_
  simp only [List.cons_append, List.nil_append] at hrs_
  subst hrs_
  repeat (first | (apply G.ex (hd := rfl); case h => (first | exact Ex.move rfl | exact Ex.assign rfl)) | refine G.nil ?_ | refine GC.seq ?_ | refine GC.region ?_ | refine GE.then_normal ?_)
  first | refine G.call (caps := []) (feeds_sp a1 len1 cap1 z1 hl1 (by omega) hw1 150 (by decide)) rfl rfl rfl rfl (by repeat (first | exact Takes.nil | apply Takes.dup rfl | apply Takes.cons | exact Take1.here | apply Take1.there)) ?_ | refine G.callU (caps := []) (feeds_sp a1 len1 cap1 z1 hl1 (by omega) hw1 150 (by decide)) rfl rfl rfl (by repeat (first | exact Takes.nil | apply Takes.dup rfl | apply Takes.cons | exact Take1.here | apply Take1.there)) ?_
  rintro v_ give_ ⟨fa, fc, rfl, rfl⟩ rs_ hrs_
  simp only [List.cons_append, List.nil_append] at hrs_
  subst hrs_
  obtain ⟨N, hN⟩ : ∃ N, N = min len1 150 := ⟨_, rfl⟩
  obtain ⟨L, hL⟩ : ∃ L, L = feeds (z1.take N) := ⟨_, rfl⟩
  rw [← hN, ← hL]
  have hLl : L.length = N := by rw [hL, feeds, List.length_map, List.length_take]; omega
  have hLo : ∀ f ∈ L, f.1 < 3 ∧ 0 ≤ f.2 ∧ f.2 ≤ 150 := by rw [hL]; exact feeds_ok _
  repeat (first | (apply G.ex (hd := rfl); case h => (first | exact Ex.move rfl | exact Ex.assign rfl)) | refine G.nil ?_ | refine GC.seq ?_ | refine GC.region ?_ | refine GE.then_normal ?_)
  first | refine G.call (caps := []) (quanta_sp a0 len0 cap0 z0 hl0 (by omega) hw0) rfl rfl rfl rfl (by repeat (first | exact Takes.nil | apply Takes.dup rfl | apply Takes.cons | exact Take1.here | apply Take1.there)) ?_ | refine G.callU (caps := []) (quanta_sp a0 len0 cap0 z0 hl0 (by omega) hw0) rfl rfl rfl (by repeat (first | exact Takes.nil | apply Takes.dup rfl | apply Takes.cons | exact Take1.here | apply Take1.there)) ?_
  rintro v_ give_ ⟨qa, Q, rfl, hQl, hQ, rfl⟩ rs_ hrs_
  simp only [List.cons_append, List.nil_append] at hrs_
  subst hrs_
  repeat (first | (apply G.ex (hd := rfl); case h => (first | exact Ex.move rfl)))
  refine G.appNil rfl rfl (by rfl) (by omega) rfl (rfl) (fun b2 d2 => ?_)
  first | refine G.frz b2 ?_ | refine GC.frz b2 ?_ | refine GE.frz b2 ?_
  first | refine G.frz qa ?_ | refine GC.frz qa ?_ | refine GE.frz qa ?_
  have S := fair.play_sp qa 3 Q (by omega) (by omega) (fun q hq => by have := hQ q hq; omega) b2 d2 L (by omega) (fun f hf => by have := hLo f hf; omega)
  rw [hQl, hLl] at S
  first | refine G.call (caps := []) (S) rfl rfl rfl rfl (by repeat (first | exact Takes.nil | apply Takes.dup rfl | apply Takes.cons | exact Take1.here | apply Take1.there)) ?_ | refine G.callU (caps := []) (S) rfl rfl rfl (by repeat (first | exact Takes.nil | apply Takes.dup rfl | apply Takes.cons | exact Take1.here | apply Take1.there)) ?_
  rintro v_ give_ ⟨oa, oc, os, s, hp, hos, rfl, rfl⟩ rs_ hrs_
  simp only [List.cons_append, List.nil_append] at hrs_
  subst hrs_
  have hw3 : Wf (fresh Q) := fresh_wf (by omega) (fun q hq => by have := hQ q hq; omega)
  have hl3 : (fresh Q).1.length = 3 := by simp [fresh, hQl]
  repeat (first | (apply G.ex (hd := rfl); case h => (first | exact Ex.move rfl | exact Ex.neI rfl rfl | exact Ex.lenSl rfl | exact Ex.extract rfl rfl | exact Ex.assign rfl | exact Ex.pickF rfl (by first | assumption | omega) rfl)) | refine G.g_ff rfl rfl (by first | assumption | omega) ?_ | refine G.nil ?_ | refine GC.seq ?_ | refine GC.region ?_ | refine GC.block ?_ | refine GC.skip ?_ | refine GE.then_normal ?_ | refine GC.cond_no rfl (by first | assumption | omega) ?_)
  first | refine G.nilvec 68 2 ?_ | refine GC.nilvec 68 2 ?_
  repeat (first | fail)
  refine GC.loop (ι := Nat × Option Addr × Nat × List (Nat × Int) × St) (fun x => x.1 ≤ N ∧ Ok x.2.2.2.1 ∧ x.2.2.2.1.length ≤ x.1 ∧ lst x.2.2.2.1 x.2.2.2.1.length ≤ x.1 ∧ Wf x.2.2.2.2 ∧ x.2.2.2.2.1.length = 3 ∧ Plays x.2.2.2.2 (L.drop x.1) (os.drop x.1) s) (fun x => N - x.1) (fun x => [(2, .int .i64 a2), (3, .int .i64 a3), (9, .slice fa N fc), (10, .slice oa N oc), (12, .slice x.2.1 x.2.2.2.1.length x.2.2.1), (13, .int .i64 (x.1 : Int))]) (fun x => [.vec 68 2 x.2.1 x.2.2.2.1.length x.2.2.1 (flat eFd x.2.2.2.1), .vec 59 3 oa N oc (flat eO os), .vec 57 2 fa N fc (flat eFd L)]) (0, none, 0, [], fresh Q) ⟨Nat.zero_le _, ok_nil, Nat.zero_le _, Nat.zero_le _, hw3, hl3, by simpa using hp⟩ (by simp only [fits]; repeat (first | exact trivial | refine And.intro rfl ?_)) (by repeat (first | exact Takes.nil | apply Takes.dup rfl | apply Takes.cons | exact Take1.here | apply Take1.there)) ?_
  rintro ⟨i, pa, pc, P, st⟩ ⟨hi_, ho_, hPl_, hls_, hw_, hl_, hp_⟩ fr_ rs_ hfr_ hrs_
  simp only [List.cons_append, List.nil_append] at hfr_ hrs_
  subst hfr_ hrs_
  obtain ⟨hi, hok, hPl, hls, hw, hl, hpl⟩ : i ≤ N ∧ Ok P ∧ P.length ≤ i ∧ lst P P.length ≤ i ∧ Wf st ∧ st.1.length = 3 ∧ Plays st (L.drop i) (os.drop i) s := ⟨hi_, ho_, hPl_, hls_, hw_, hl_, hp_⟩
  clear hi_ ho_ hPl_ hls_ hw_ hl_ hp_
  repeat (first | (apply G.ex (hd := rfl); case h => (first | exact Ex.move rfl | exact Ex.lss rfl rfl | exact Ex.lenSl rfl)) | refine G.nil ?_ | refine GC.seq ?_ | refine GC.region ?_ | refine GE.then_normal ?_)
  refine GC.cond_dec rfl (fun hlt => ?_) (fun hlt => ?_)
  · have hlt : i < N := by omega
    obtain ⟨hio, s2, hst, hp1⟩ := hpl.next (by omega)
    have hLi := hLo (L.getD i default) (by rw [List.getD_eq_getElem?_getD, List.getElem?_eq_getElem (by omega)]; exact List.getElem_mem _)
    obtain ⟨hw1', hl1'⟩ := step_wf hst hw (by omega) (by omega)
    by_cases hz : (L.getD i default).2 = 0
    · by_cases hcode : (os.getD i default).1 = 0
      · have hsz := step_size hst hw hz hcode
        have hcat : flat eFd P ++ flat eFd [(i, (os.getD i default).2.2)] = flat eFd (P ++ [(i, (os.getD i default).2.2)]) := (flat_append ..).symm
        obtain ⟨k1, k2⟩ := hok.snoc (t := i) (z := (os.getD i default).2.2) hls (by omega) hsz
        repeat (first | (apply G.ex (hd := rfl); case h => (first | exact Ex.move rfl | exact Ex.fieldE rfl | exact Ex.eqI rfl rfl | exact Ex.indexN rfl rfl (by first | omega | (simp; done) | (simp; omega)) | exact Ex.loadT0 rfl (by first | omega | (simp; done) | (simp; omega)) rfl | exact Ex.loadT rfl (by first | omega | (simp; done) | (simp; omega)) rfl | exact Ex.pickT rfl (by first | assumption | omega) rfl | exact Ex.build rfl rfl)) | refine G.g_tt rfl rfl (by first | assumption | omega) ?_ | refine G.nil ?_ | refine GC.seq ?_ | refine GC.region ?_ | refine GC.block ?_ | refine GC.skip ?_ | refine GE.then_normal ?_ | refine GC.cond_yes rfl (by first | assumption | omega) ?_)
        refine G.lit rfl (by rfl) (by rfl) (by rfl) (by rfl) (by rfl) (by rfl) rfl (fun y => ?_)
        repeat (first | fail)
        refine G.app rfl rfl (by rfl) (by omega) rfl (hcat) (fun o2 c2 rs_ hrs_ => ?_)
        try simp only at hrs_
        subst hrs_
        rw [show P.length + 1 = (P ++ [(i, (os.getD i default).2.2)]).length by simp]
        repeat (first | (apply G.ex (hd := rfl); case h => (first | exact Ex.move rfl | exact Ex.add rfl rfl (by omega) | exact Ex.assign rfl)) | refine G.nil ?_ | refine GC.region ?_ | refine GE.then_normal ?_ | refine GE.block_normal ?_)
        refine GE.loop (i + 1, o2, c2, P ++ [(i, (os.getD i default).2.2)], s2) ⟨by simp only; omega, k1, (by simp only [List.length_append, List.length_singleton]; omega), (by simp only; rw [k2]; omega), hw1', (by simp only; omega), hp1⟩ (by simp only; omega) (by simp only [fits]; repeat (first | exact trivial | refine And.intro rfl ?_)) (by repeat (first | exact Takes.nil | apply Takes.dup rfl | apply Takes.cons | exact Take1.here | apply Take1.there)) (by repeat (first | exact Subs.refl | refine Subs.skip ?_))
      · repeat (first | (apply G.ex (hd := rfl); case h => (first | exact Ex.move rfl | exact Ex.fieldE rfl | exact Ex.add rfl rfl (by omega) | exact Ex.eqI rfl rfl | exact Ex.indexN rfl rfl (by first | omega | (simp; done) | (simp; omega)) | exact Ex.loadT0 rfl (by first | omega | (simp; done) | (simp; omega)) rfl | exact Ex.loadT rfl (by first | omega | (simp; done) | (simp; omega)) rfl | exact Ex.assign rfl | exact Ex.pickT rfl (by first | assumption | omega) rfl)) | refine G.g_tt rfl rfl (by first | assumption | omega) ?_ | refine G.nil ?_ | refine GC.seq ?_ | refine GC.region ?_ | refine GC.block ?_ | refine GC.skip ?_ | refine GE.then_normal ?_ | refine GE.block_normal ?_ | refine GC.cond_no rfl (by first | assumption | omega) ?_)
        refine GE.loop (i + 1, pa, pc, P, s2) ⟨by simp only; omega, hok, (by simp only; omega), (by simp only; omega), hw1', (by simp only; omega), hp1⟩ (by simp only; omega) (by simp only [fits]; repeat (first | exact trivial | refine And.intro rfl ?_)) (by repeat (first | exact Takes.nil | apply Takes.dup rfl | apply Takes.cons | exact Take1.here | apply Take1.there)) (by repeat (first | exact Subs.refl | refine Subs.skip ?_))
    · repeat (first | (apply G.ex (hd := rfl); case h => (first | exact Ex.move rfl | exact Ex.fieldE rfl | exact Ex.add rfl rfl (by omega) | exact Ex.eqI rfl rfl | exact Ex.indexN rfl rfl (by first | omega | (simp; done) | (simp; omega)) | exact Ex.loadT rfl (by first | omega | (simp; done) | (simp; omega)) rfl | exact Ex.assign rfl | exact Ex.pickF rfl (by first | assumption | omega) rfl)) | refine G.g_tf rfl rfl (by first | assumption | omega) rfl ?_ | refine G.nil ?_ | refine GC.seq ?_ | refine GC.region ?_ | refine GC.block ?_ | refine GC.skip ?_ | refine GE.then_normal ?_ | refine GE.block_normal ?_ | refine GC.cond_f rfl ?_)
      refine GE.loop (i + 1, pa, pc, P, s2) ⟨by simp only; omega, hok, (by simp only; omega), (by simp only; omega), hw1', (by simp only; omega), hp1⟩ (by simp only; omega) (by simp only [fits]; repeat (first | exact trivial | refine And.intro rfl ?_)) (by repeat (first | exact Takes.nil | apply Takes.dup rfl | apply Takes.cons | exact Take1.here | apply Take1.there)) (by repeat (first | exact Subs.refl | refine Subs.skip ?_))
  · obtain ⟨n, hn⟩ : ∃ n, P.length = n := ⟨_, rfl⟩
    rw [hn]
    rw [hn] at hPl hls
    have hr := Int.emod_nonneg a2 (show (60 : Int) ≠ 0 by decide)
    have hr2 := Int.emod_lt_of_pos a2 (show (0 : Int) < 60 by decide)
    have hu := Int.emod_nonneg a3 (show (900 : Int) ≠ 0 by decide)
    have hu2 := Int.emod_lt_of_pos a3 (show (0 : Int) < 900 by decide)
    repeat (first | (apply G.ex (hd := rfl); case h => (first | exact Ex.move rfl)) | refine GC.seq ?_ | refine GC.region ?_ | refine GC.exit ?_ | refine GE.then_normal ?_ | refine GE.then_exit ?_ | refine GE.block_hit ?_)
    first | refine G.call (caps := []) (picked_sp a2 60 (by omega) (by omega)) rfl rfl rfl rfl (by repeat (first | exact Takes.nil | apply Takes.dup rfl | apply Takes.cons | exact Take1.here | apply Take1.there)) ?_ | refine G.callU (caps := []) (picked_sp a2 60 (by omega) (by omega)) rfl rfl rfl (by repeat (first | exact Takes.nil | apply Takes.dup rfl | apply Takes.cons | exact Take1.here | apply Take1.there)) ?_
    rintro v_ give_ ⟨rfl, rfl⟩ rs_ hrs_
    simp only [List.cons_append, List.nil_append] at hrs_
    subst hrs_
    repeat (first | (apply G.ex (hd := rfl); case h => (first | exact Ex.move rfl | exact Ex.assign rfl)) | refine G.nil ?_ | refine GC.seq ?_ | refine GC.region ?_ | refine GE.then_normal ?_)
    first | refine G.call (caps := []) (picked_sp a3 900 (by omega) (by omega)) rfl rfl rfl rfl (by repeat (first | exact Takes.nil | apply Takes.dup rfl | apply Takes.cons | exact Take1.here | apply Take1.there)) ?_ | refine G.callU (caps := []) (picked_sp a3 900 (by omega) (by omega)) rfl rfl rfl (by repeat (first | exact Takes.nil | apply Takes.dup rfl | apply Takes.cons | exact Take1.here | apply Take1.there)) ?_
    rintro v_ give_ ⟨rfl, rfl⟩ rs_ hrs_
    simp only [List.cons_append, List.nil_append] at hrs_
    subst hrs_
    generalize hR : a2 % 60 = R at *
    generalize hU : a3 % 900 = U at *
    repeat (first | (apply G.ex (hd := rfl); case h => (first | exact Ex.move rfl | exact Ex.assign rfl)) | refine G.nil ?_ | refine GC.seq ?_ | refine GC.region ?_ | refine GE.then_normal ?_)
    refine G.appNil rfl rfl (by rfl) (by omega) rfl (rfl) (fun b3 d3 => ?_)
    first | refine G.frz b3 ?_ | refine GC.frz b3 ?_ | refine GE.frz b3 ?_
    first | refine G.call (caps := []) (buck.play_sp R U (by omega) (by omega) b3 n d3 P hn (by omega) hok) rfl rfl rfl rfl (by repeat (first | exact Takes.nil | apply Takes.dup rfl | apply Takes.cons | exact Take1.here | apply Take1.there)) ?_ | refine G.callU (caps := []) (buck.play_sp R U (by omega) (by omega) b3 n d3 P hn (by omega) hok) rfl rfl rfl (by repeat (first | exact Takes.nil | apply Takes.dup rfl | apply Takes.cons | exact Take1.here | apply Take1.there)) ?_
    rintro v_ give_ ⟨ba, bc, B, c, hI, rfl, rfl⟩ rs_ hrs_
    simp only [List.cons_append, List.nil_append] at hrs_
    subst hrs_
    repeat (first | (apply G.ex (hd := rfl); case h => (first | exact Ex.move rfl | exact Ex.lenSl rfl | exact Ex.extract rfl rfl | exact Ex.assign rfl)) | refine G.nil ?_ | refine GC.seq ?_ | refine GC.region ?_ | refine GE.then_normal ?_)
    first | refine G.call (caps := []) (bound_sp R U N (by omega) (by omega) (by omega)) rfl rfl rfl rfl (by repeat (first | exact Takes.nil | apply Takes.dup rfl | apply Takes.cons | exact Take1.here | apply Take1.there)) ?_ | refine G.callU (caps := []) (bound_sp R U N (by omega) (by omega) (by omega)) rfl rfl rfl (by repeat (first | exact Takes.nil | apply Takes.dup rfl | apply Takes.cons | exact Take1.here | apply Take1.there)) ?_
    rintro v_ give_ ⟨rfl, rfl⟩ rs_ hrs_
    simp only [List.cons_append, List.nil_append] at hrs_
    subst hrs_
    repeat (first | (apply G.ex (hd := rfl); case h => (first | exact Ex.move rfl | exact Ex.extract rfl rfl | exact Ex.assign rfl | exact Ex.build rfl rfl)) | refine G.nil ?_ | refine GC.seq ?_ | refine GC.region ?_ | refine GE.then_normal ?_)
    refine G.lit rfl (by rfl) (by rfl) (by rfl) (by rfl) (by rfl) (by rfl) rfl (fun y => ?_)
    first | refine G.frz y ?_ | refine GC.frz y ?_ | refine GE.frz y ?_
    first | refine G.call (caps := []) (buck.play_sp 1 5 (by omega) (by omega) y 1 1 [(0, 5)] rfl (by omega) ok_one) rfl rfl rfl rfl (by repeat (first | exact Takes.nil | apply Takes.dup rfl | apply Takes.cons | exact Take1.here | apply Take1.there)) ?_ | refine G.callU (caps := []) (buck.play_sp 1 5 (by omega) (by omega) y 1 1 [(0, 5)] rfl (by omega) ok_one) rfl rfl rfl (by repeat (first | exact Takes.nil | apply Takes.dup rfl | apply Takes.cons | exact Take1.here | apply Take1.there)) ?_
    rintro v_ give_ ⟨b1, c1, B1, e1, hI1, rfl, rfl⟩ rs_ hrs_
    simp only [List.cons_append, List.nil_append] at hrs_
    subst hrs_
    have hB1 : B1.getD 0 default = true := hI1.one (by omega)
    have hB1n : ¬ ¬ B1.getD 0 default = true := fun k => k hB1
    have hB1l := hI1.len
    have hBl := hI.len
    have hbd := hI.bd
    have hc0 := hI.c0
    have hbk : ∀ k, k ≤ n → 0 ≤ pas P B k ∧ pas P B k ≤ 1500 * (k : Int) := fun k hk => by
      induction k with
      | zero => exact ⟨Int.le_refl 0, Int.le_refl 0⟩
      | succ k ih =>
        have := ih (by omega)
        have := hok.el k (by omega)
        have e : pas P B (k + 1) = pas P B k + if B.getD k default then (P.getD k default).2 else 0 := rfl
        rw [e]
        split <;> omega
    have hRN : R * (lst P n : Int) ≤ R * (N : Int) := Int.mul_le_mul_of_nonneg_left (by omega) hr
    repeat (first | (apply G.ex (hd := rfl); case h => (first | exact Ex.move rfl | exact Ex.neI rfl rfl | exact Ex.lenSl rfl | exact Ex.indexN rfl rfl (by first | omega | (simp; done) | (simp; omega)) | exact Ex.loadT0 rfl (by first | omega | (simp; done) | (simp; omega)) rfl | exact Ex.extract rfl rfl | exact Ex.assign rfl | exact Ex.notB rfl | exact Ex.pickF rfl (by first | assumption | omega) rfl)) | refine G.g_ff rfl rfl (by first | assumption | omega) ?_ | refine G.nil ?_ | refine GC.seq ?_ | refine GC.region ?_ | refine GC.block ?_ | refine GC.skip ?_ | refine GE.then_normal ?_ | refine GC.cond_no rfl (by first | assumption | omega) ?_)
    refine GC.loop (ι := Nat) (fun k => k ≤ n) (fun k => n - k) (fun k => [(12, .slice pa n pc), (16, .slice ba n bc), (18, .int .i64 (U + R * (N : Int))), (22, .int .i64 (pas P B k)), (23, .int .i64 (k : Int))]) (fun k => [.vec 4 1 ba n bc (flat eBo B), .vec 68 2 pa n pc (flat eFd P)]) 0 (Nat.zero_le _) (by simp only [fits]; repeat (first | exact trivial | refine And.intro rfl ?_)) (by repeat (first | exact Takes.nil | apply Takes.dup rfl | apply Takes.cons | exact Take1.here | apply Take1.there)) ?_
    · rintro k hk fr_ rs_ hfr_ hrs_
      simp only [List.cons_append, List.nil_append] at hfr_ hrs_
      subst hfr_ hrs_
      repeat (first | (apply G.ex (hd := rfl); case h => (first | exact Ex.move rfl | exact Ex.lss rfl rfl | exact Ex.lenSl rfl)) | refine G.nil ?_ | refine GC.seq ?_ | refine GC.region ?_ | refine GE.then_normal ?_)
      refine GC.cond_dec rfl (fun hltk => ?_) (fun hltk => ?_)
      · have hltk : k < n := by omega
        have hpk := hbk k hk
        have hek := hok.el k (by omega)
        have e : pas P B (k + 1) = pas P B k + if B.getD k default then (P.getD k default).2 else 0 := rfl
        cases hb : B.getD k default with
        | true =>
          rw [hb, if_pos rfl] at e
          repeat (first | (apply G.ex (hd := rfl); case h => (first | exact Ex.move rfl | exact Ex.indexN rfl rfl (by first | omega | (simp; done) | (simp; omega)) | exact Ex.loadT0 rfl (by first | omega | (simp; done) | (simp; omega)) rfl)) | refine G.nil ?_ | refine GC.seq ?_ | refine GC.region ?_ | refine GC.block ?_ | refine GC.skip ?_ | refine GE.then_normal ?_)
          rw [hb]
          repeat (first | (apply G.ex (hd := rfl); case h => (first | exact Ex.move rfl | exact Ex.fieldE rfl | exact Ex.add rfl rfl (by omega) | exact Ex.indexN rfl rfl (by first | omega | (simp; done) | (simp; omega)) | exact Ex.loadT rfl (by first | omega | (simp; done) | (simp; omega)) rfl | exact Ex.assign rfl)) | refine G.nil ?_ | refine GC.region ?_ | refine GE.then_normal ?_ | refine GE.block_normal ?_ | refine GC.cond_t rfl ?_)
          rw [← e]
          refine GE.loop (k + 1) (by omega) (by omega) (by simp only [fits]; repeat (first | exact trivial | refine And.intro rfl ?_)) (by repeat (first | exact Takes.nil | apply Takes.dup rfl | apply Takes.cons | exact Take1.here | apply Take1.there)) (by repeat (first | exact Subs.refl | refine Subs.skip ?_))
        | false =>
          rw [hb, if_neg (by decide), Int.add_zero] at e
          repeat (first | (apply G.ex (hd := rfl); case h => (first | exact Ex.move rfl | exact Ex.indexN rfl rfl (by first | omega | (simp; done) | (simp; omega)) | exact Ex.loadT0 rfl (by first | omega | (simp; done) | (simp; omega)) rfl)) | refine G.nil ?_ | refine GC.seq ?_ | refine GC.region ?_ | refine GC.block ?_ | refine GC.skip ?_ | refine GE.then_normal ?_)
          rw [hb]
          repeat (first | (apply G.ex (hd := rfl); case h => (first | exact Ex.move rfl | exact Ex.add rfl rfl (by omega) | exact Ex.assign rfl)) | refine G.nil ?_ | refine GC.region ?_ | refine GC.skip ?_ | refine GE.then_normal ?_ | refine GE.block_normal ?_ | refine GC.cond_f rfl ?_)
          rw [← e]
          refine GE.loop (k + 1) (by omega) (by omega) (by simp only [fits]; repeat (first | exact trivial | refine And.intro rfl ?_)) (by repeat (first | exact Takes.nil | apply Takes.dup rfl | apply Takes.cons | exact Take1.here | apply Take1.there)) (by repeat (first | exact Subs.refl | refine Subs.skip ?_))
      · have hkn : k = n := by omega
        subst hkn
        repeat (first | (apply G.ex (hd := rfl); case h => (first | exact Ex.move rfl | exact Ex.leq rfl rfl | exact Ex.assign rfl)) | refine G.nil ?_ | refine GC.seq ?_ | refine GC.region ?_ | refine GC.ret ?_ | refine GC.exit ?_ | refine GE.then_normal ?_ | refine GE.then_exit ?_ | refine GE.block_hit ?_)
        refine GE.ret (by first | exact .inl rfl | exact .inr rfl) (by first | exact res0 Try.results12 | exact res1 Try.results12 rfl | exact res2 Try.results12 rfl rfl | exact resR1 Try.results12 (by first | exact RV.tmp rfl | exact RV.cell rfl rfl | exact RV.cell1 rfl) | exact resR2 Try.results12 (by first | exact RV.tmp rfl | exact RV.cell rfl rfl | exact RV.cell1 rfl) (by first | exact RV.tmp rfl | exact RV.cell rfl rfl | exact RV.cell1 rfl) | exact resR3 Try.results12 (by first | exact RV.tmp rfl | exact RV.cell rfl rfl | exact RV.cell1 rfl) (by first | exact RV.tmp rfl | exact RV.cell rfl rfl | exact RV.cell1 rfl) (by first | exact RV.tmp rfl | exact RV.cell rfl rfl | exact RV.cell1 rfl)) ⟨by rw [decide_eq_true (by omega)], rfl⟩ (by repeat (first | exact Takes.nil | apply Takes.dup rfl | apply Takes.cons | exact Take1.here | apply Take1.there)) (by repeat (first | exact Subs.refl | refine Subs.skip ?_))
end buck
end Go.Proofs.Ytcabcpealkbekaa
