/-
  CONTRACT of slices.symMergeCmpFunc, at rows of any length, by the kit.
-/
import Derived.Test.YtfkgchdbjfbdaaaSortC
namespace Go.Proofs.Ytfkgchdbjfbdaaa
open Go.RowKit
attribute [local irreducible] Ex G GC GE Gq FPost LPost
set_option linter.unusedVariables false
set_option linter.unusedSimpArgs false
namespace sort
theorem nil_of {α : Type} {l : List α} (h : ¬ 0 < l.length) : l = [] := List.length_eq_zero_iff.1 (by omega)
set_option maxHeartbeats 32000000 in
theorem symMerge_sp (kb : Nat) (la : Option Addr) (ln lc : Nat) (Ls : List Int) (hl : Ls.length = ln) (da : Option Addr) (dc N : Nat) (hN2 : N ≤ 1000000) : ∀ (s : Nat) (P U V Q : List Nat) (a m b : Nat), U.length + V.length ≤ s → 0 < U.length → 0 < V.length → P.length = a → a + U.length = m → m + V.length = b → (P ++ (U ++ (V ++ Q))).length = N →
    Srt (key Ls) U → Srt (key Ls) V → Sep U V → (∀ x ∈ U, x < ln) → (∀ x ∈ V, x < ln) → MSpec kb la ln lc Ls da dc N P U V Q a m b := by
  intro s
  induction s with
  | zero => intro P U V Q a m b hs h1; omega
  | succ s ih =>
    intro P U V Q a m b hs hU0 hV0 ha hm hb hN hU hV sp hiU hiV
    by_cases h1 : U.length = 1
    · obtain ⟨u, rfl⟩ := List.length_eq_one_iff.1 h1
      exact merge_left kb la ln lc Ls hl da dc N hN2 u P V Q a m b hV0 ha hm hb hN hV (fun v hv => sp u (List.mem_singleton.2 rfl) v hv) (hiU u (List.mem_singleton.2 rfl)) hiV
    by_cases h2 : V.length = 1
    · obtain ⟨v, rfl⟩ := List.length_eq_one_iff.1 h2
      exact merge_right kb la ln lc Ls hl da dc N hN2 v P U Q a m b (by omega) ha hm hb hN hU (fun u hu => sp u hu v (List.mem_singleton.2 rfl)) (hiV v (List.mem_singleton.2 rfl)) hiU
    have c1 : ¬ (m : Int) - (a : Int) = 1 := by omega
    have c2 : ¬ (b : Int) - (m : Int) = 1 := by omega
    have hNl : a + (U.length + (V.length + Q.length)) = N := by rw [← hN]; simp only [List.length_append]; omega
    have hDU : ∀ c, a ≤ c → c < m → (P ++ (U ++ (V ++ Q))).getD c default = U.getD (c - a) default := fun c k1 k2 => by
      rw [getD_app, if_neg (by omega), ha, getD_app, if_pos (by omega)]
    have hDV : ∀ j, j < V.length → (P ++ (U ++ (V ++ Q))).getD (m + j) default = V.getD j default := fun j k1 => by
      rw [getD_app, if_neg (by omega), ha, getD_app, if_neg (by omega), getD_app, if_pos (by omega)]; congr 1; omega
    obtain ⟨mid, hmid⟩ : ∃ mid, (a + b) / 2 = mid := ⟨_, rfl⟩
    unfold MSpec
    refine Spec.intro Try.func37 rfl Try.ntmps37 rfl fun w0 rest rs_ hrs_ => ?_
    simp only [List.cons_append, List.nil_append] at hrs_
    subst hrs_
    repeat (first | (apply G.ex (hd := rfl); case h => (first | exact Ex.move rfl | exact Ex.add rfl rfl (by omega) | exact Ex.sub rfl rfl (by omega) | exact Ex.eqI rfl rfl)) | refine G.nil ?_ | refine GC.seq ?_ | refine GC.region ?_ | refine GC.skip ?_ | refine GE.then_normal ?_ | refine GC.cond_no rfl (by first | assumption | omega) ?_)
    refine G.ex (hd := rfl) (Ex.convU rfl (by omega)) ?_
    refine G.ex (hd := rfl) (Ex.shr1u rfl rfl) ?_
    rw [half_cast, hmid]
    repeat ((fail_if_success (refine GC.seq ?_; refine GC.region (id := 27) ?_)); first | (apply G.ex (hd := rfl); case h => (first | exact Ex.move rfl | exact Ex.add rfl rfl (by omega) | exact Ex.assign rfl | exact Ex.conv64 rfl (by omega))) | refine G.nil ?_ | refine GC.seq ?_ | refine GC.region ?_ | refine GE.then_normal ?_)
    rw [show (mid : Int) + (m : Int) = ((mid + m : Nat) : Int) by omega]
    refine GC.meet (ι := Nat × Nat) (fun x => a ≤ x.1 ∧ x.1 ≤ x.2 ∧ x.2 ≤ m ∧ x.2 ≤ mid ∧ mid + m ≤ x.1 + b ∧ (x.1 = a ∨ mid + m = x.1 + b) ∧ (x.2 = m ∨ x.2 = mid)) (fun x => [(0, .slice da N dc), (1, .int .i64 (a : Int)), (2, .int .i64 (m : Int)), (3, .int .i64 (b : Int)), (4, cmpV kb), (18, .int .i64 (mid : Int)), (19, .int .i64 ((mid + m : Nat) : Int)), (20, .int .i64 (x.1 : Int)), (21, .int .i64 (x.2 : Int))]) (fun x => [DR da N dc (P ++ (U ++ (V ++ Q))), KB kb la ln lc, LS la ln lc Ls]) rest ?_ ?_
    · by_cases c : mid < m
      · have c' : (m : Int) > (mid : Int) := by omega
        repeat (first | (apply G.ex (hd := rfl); case h => (first | exact Ex.move rfl | exact Ex.sub rfl rfl (by omega) | exact Ex.gtr rfl rfl | exact Ex.assign rfl)) | refine G.nil ?_ | refine GC.seq ?_ | refine GC.region ?_ | refine GE.then_normal ?_ | refine GC.cond_yes rfl (by first | assumption | omega) ?_)
        rw [show ((mid + m : Nat) : Int) - (b : Int) = ((mid + m - b : Nat) : Int) by omega]
        refine GE.meet (mid + m - b, mid) ⟨by simp only; omega, by simp only; omega, by simp only; omega, Nat.le_refl _, by simp only; omega, by simp only; omega, .inr rfl⟩ (by simp only [fits]; repeat (first | exact trivial | refine And.intro rfl ?_)) (by repeat first | exact tn_ | apply td_ rfl | apply tc_ | exact .here | apply Take1.there) (by repeat (first | exact Subs.refl | refine Subs.skip ?_))
      · have c' : ¬ (m : Int) > (mid : Int) := by omega
        repeat (first | (apply G.ex (hd := rfl); case h => (first | exact Ex.move rfl | exact Ex.gtr rfl rfl | exact Ex.assign rfl)) | refine G.nil ?_ | refine GC.seq ?_ | refine GC.region ?_ | refine GE.then_normal ?_ | refine GC.cond_no rfl (by first | assumption | omega) ?_)
        refine GE.meet (a, m) ⟨Nat.le_refl _, by simp only; omega, Nat.le_refl _, by simp only; omega, by simp only; omega, .inl rfl, .inl rfl⟩ (by simp only [fits]; repeat (first | exact trivial | refine And.intro rfl ?_)) (by repeat first | exact tn_ | apply td_ rfl | apply tc_ | exact .here | apply Take1.there) (by repeat (first | exact Subs.refl | refine Subs.skip ?_))
    rintro ⟨s0, r0⟩ ⟨q1, q2, q3, q4, q5, q6, q7⟩ fr_ rs_ hfr_ hrs_
    simp only [List.cons_append, List.nil_append] at hfr_ hrs_
    subst hfr_ hrs_
    simp only at q1 q2 q3 q4 q5 q6 q7
    repeat (first | (apply G.ex (hd := rfl); case h => (first | exact Ex.move rfl | exact Ex.sub rfl rfl (by omega) | exact Ex.assign rfl)) | refine G.nil ?_ | refine GC.seq ?_ | refine GC.region ?_ | refine GC.block ?_ | refine GE.then_normal ?_)
    rw [show ((mid + m : Nat) : Int) - 1 = ((mid + m - 1 : Nat) : Int) by omega]
    refine GC.loop (ι := Nat × Nat) (fun x => s0 ≤ x.1 ∧ x.1 ≤ x.2 ∧ x.2 ≤ r0 ∧ (x.1 = s0 ∨ ¬ key Ls (V.getD (mid - x.1) default) < key Ls (U.getD (x.1 - 1 - a) default)) ∧ (x.2 = r0 ∨ key Ls (V.getD (mid - 1 - x.2) default) < key Ls (U.getD (x.2 - a) default))) (fun x => x.2 - x.1) (fun x => [(0, .slice da N dc), (1, .int .i64 (a : Int)), (2, .int .i64 (m : Int)), (3, .int .i64 (b : Int)), (4, cmpV kb), (18, .int .i64 (mid : Int)), (19, .int .i64 ((mid + m : Nat) : Int)), (20, .int .i64 (x.1 : Int)), (21, .int .i64 (x.2 : Int)), (22, .int .i64 ((mid + m - 1 : Nat) : Int))]) (fun x => [DR da N dc (P ++ (U ++ (V ++ Q))), KB kb la ln lc, LS la ln lc Ls]) (s0, r0) ⟨Nat.le_refl _, q2, Nat.le_refl _, .inl rfl, .inl rfl⟩ (by simp only [fits]; repeat (first | exact trivial | refine And.intro rfl ?_)) (by repeat first | exact tn_ | apply td_ rfl | apply tc_ | exact .here | apply Take1.there) ?_
    rintro ⟨st, r⟩ ⟨g1, g2, g3, hf1, hf2⟩ fr_ rs_ hfr_ hrs_
    simp only [List.cons_append, List.nil_append] at hfr_ hrs_
    subst hfr_ hrs_
    simp only at g1 g2 g3 hf1 hf2
    by_cases c : st < r
    · obtain ⟨h, hh⟩ : ∃ h, (st + r) / 2 = h := ⟨_, rfl⟩
      have hhl : st ≤ h ∧ h < r := by omega
      have c' : (st : Int) < (r : Int) := by omega
      have hgu := at_eN (i := h) (by omega) (hDU h (by omega) (by omega))
      have hgv := at_eN (i := m + (mid - 1 - h)) (by omega) (hDV (mid - 1 - h) (by omega))
      have ha1 : h < N := by omega
      have hh1 : m + (mid - 1 - h) < N := by omega
      have hvl : V.getD (mid - 1 - h) default < ln := hiV _ (getD_mem' (by omega))
      have hul : U.getD (h - a) default < ln := hiU _ (getD_mem' (by omega))
      clear hDU hDV ih hU hV sp hiU hiV
      repeat (first | (apply G.ex (hd := rfl); case h => (first | exact Ex.move rfl | exact Ex.add rfl rfl (by omega) | exact Ex.lss rfl rfl)) | refine G.nil ?_ | refine GC.seq ?_ | refine GC.region ?_ | refine GC.block ?_ | refine GC.skip ?_ | refine GE.then_normal ?_ | refine GC.cond_yes rfl (by first | assumption | omega) ?_)
      refine G.ex (hd := rfl) (Ex.convU rfl (by omega)) ?_
      refine G.ex (hd := rfl) (Ex.shr1u rfl rfl) ?_
      rw [half_cast, hh]
      repeat (first | (apply G.ex (hd := rfl); case h => (first | exact Ex.assign rfl | exact Ex.conv64 rfl (by omega))) | refine G.nil ?_ | refine GC.seq ?_ | refine GE.then_normal ?_)
      refine GC.vecSome (List.mem_cons_self ..) (by omega) fun q hq => ?_
      subst hq
      refine GC.drawA [] [DR (some q) N dc (P ++ (U ++ (V ++ Q)))] (by repeat first | exact tn_ | apply td_ rfl | apply tc_ | exact .here | apply Take1.there) (by kernel_rfl) ?_
      first | (apply GA.take [] (hD := .inl rfl) (hsub := ⟨_, Takes.nil⟩) (i := 0) (hi := rfl) (hs := by kernel_rfl) (hfr := by kernel_rfl) (hr := by kernel_rfl) (hQ := np_) (hd := rfl); case hx => (first | exact Ex.move rfl))
      first | (apply GA.take [] (hD := .inl rfl) (hsub := ⟨_, Takes.nil⟩) (i := 1) (hi := rfl) (hs := by kernel_rfl) (hfr := by kernel_rfl) (hr := by kernel_rfl) (hQ := np_) (hd := rfl); case hx => (first | exact Ex.move rfl))
      first | (apply GA.take [] (hD := .inl rfl) (hsub := ⟨_, Takes.nil⟩) (i := 2) (hi := rfl) (hs := by kernel_rfl) (hfr := by kernel_rfl) (hr := by kernel_rfl) (hQ := np_) (hd := rfl); case hx => (first | exact Ex.move rfl))
      first | (apply GA.take [] (hD := .inl rfl) (hsub := ⟨_, Takes.nil⟩) (i := 3) (hi := rfl) (hs := by kernel_rfl) (hfr := by kernel_rfl) (hr := by kernel_rfl) (hQ := np_) (hd := rfl); case hx => (first | exact Ex.move rfl))
      first | (apply GA.take [] (hD := .inl rfl) (hsub := ⟨_, Takes.nil⟩) (i := 4) (hi := rfl) (hs := by kernel_rfl) (hfr := by kernel_rfl) (hr := by kernel_rfl) (hQ := np_) (hd := rfl); case hx => (first | exact Ex.sub rfl rfl (by omega)))
      first | (apply GA.take [] (hD := .inl rfl) (hsub := ⟨_, Takes.nil⟩) (i := 7) (hi := rfl) (hs := by kernel_rfl) (hfr := by kernel_rfl) (hr := by kernel_rfl) (hQ := np_) (hd := rfl); case hx => (first | exact Ex.move rfl))
      first | (apply GA.take [] (hD := .inl rfl) (hsub := ⟨_, Takes.nil⟩) (i := 8) (hi := rfl) (hs := by kernel_rfl) (hfr := by kernel_rfl) (hr := by kernel_rfl) (hQ := np_) (hd := rfl); case hx => (first | exact Ex.move rfl))
      rw [show ((mid + m - 1 : Nat) : Int) - (h : Int) = ((m + (mid - 1 - h) : Nat) : Int) by omega]
      apply GA.take [] (hD := .inl rfl) (hsub := ⟨_, Takes.nil⟩) (i := 5) (hi := rfl) (hs := by kernel_rfl) (hfr := by kernel_rfl) (hr := by kernel_rfl) (hQ := np_) (hd := rfl) (hx := (Ex.indexSome (k := m + (mid - 1 - h)) rfl rfl hh1))
      apply GA.take _ (hD := .inr ⟨rfl, by kernel_rfl⟩) (hsub := ⟨_, (by repeat first | exact tn_ | apply td_ rfl | apply tc_ | exact .here | apply Take1.there)⟩) (i := 6) (hi := rfl) (hs := by kernel_rfl) (hfr := by kernel_rfl) (hr := by kernel_rfl) (hQ := np_) (hd := rfl) (hx := (Ex.loadE (k := (m + (mid - 1 - h)) * 1) rfl hgv))
      apply GA.take [] (hD := .inl rfl) (hsub := ⟨_, Takes.nil⟩) (i := 9) (hi := rfl) (hs := by kernel_rfl) (hfr := by kernel_rfl) (hr := by kernel_rfl) (hQ := np_) (hd := rfl) (hx := (Ex.indexSome (k := h) rfl rfl ha1))
      apply GA.take _ (hD := .inr ⟨rfl, by kernel_rfl⟩) (hsub := ⟨_, (by repeat first | exact tn_ | apply td_ rfl | apply tc_ | exact .here | apply Take1.there)⟩) (i := 10) (hi := rfl) (hs := by kernel_rfl) (hfr := by kernel_rfl) (hr := by kernel_rfl) (hQ := np_) (hd := rfl) (hx := (Ex.loadE (k := h * 1) rfl hgu))
      refine GA.one (i := 11) (by kernel_rfl) rfl ?_
      first | refine G.call (order1_sp kb la ln lc Ls hl (V.getD (mid - 1 - h) default) (U.getD (h - a) default) hvl hul) rfl rfl rfl rfl (by repeat first | exact tn_ | apply td_ rfl | apply tc_ | exact .here | apply Take1.there) ?_ | refine G.callU (order1_sp kb la ln lc Ls hl (V.getD (mid - 1 - h) default) (U.getD (h - a) default) hvl hul) rfl rfl rfl (by repeat first | exact tn_ | apply td_ rfl | apply tc_ | exact .here | apply Take1.there) ?_
      rintro v_ give_ ⟨rfl, rfl⟩ rs_ hrs_
      simp only [List.cons_append, List.nil_append] at hrs_
      subst hrs_
      try refine G.nil ?_
      refine GA.back (by first | exact .inl (by decide) | exact .inr ⟨_, (by repeat first | exact tn_ | apply td_ rfl | apply tc_ | exact .here | apply Take1.there)⟩) ?_
      first | (apply GA.take [] (hD := .inl rfl) (hsub := ⟨_, Takes.nil⟩) (i := 12) (hi := rfl) (hs := by kernel_rfl) (hfr := by kernel_rfl) (hr := by kernel_rfl) (hQ := np_) (hd := rfl); case hx => (first | exact Ex.lss rfl rfl))
      rw [cmp3_lt]
      first | (apply GA.take [] (hD := .inl rfl) (hsub := ⟨_, Takes.nil⟩) (i := 13) (hi := rfl) (hs := by kernel_rfl) (hfr := by kernel_rfl) (hr := by kernel_rfl) (hQ := np_) (hd := rfl); case hx => (first | exact Ex.notD rfl))
      refine GA.done (by kernel_rfl) ?_
      by_cases ck : key Ls (V.getD (mid - 1 - h) default) < key Ls (U.getD (h - a) default)
      · have ck' : ¬ ¬ key Ls (V.getD (mid - 1 - h) default) < key Ls (U.getD (h - a) default) := fun k => k ck
        repeat (first | (apply G.ex (hd := rfl); case h => (first | exact Ex.move rfl | exact Ex.assign rfl)) | refine G.nil ?_ | refine GC.region ?_ | refine GE.then_normal ?_ | refine GE.block_normal ?_ | refine GC.cond_no rfl (by first | assumption | omega) ?_)
        refine GE.loop (st, h) ⟨g1, by simp only; omega, by simp only; omega, hf1, .inr ck⟩ (by simp only; omega) (by simp only [fits]; repeat (first | exact trivial | refine And.intro rfl ?_)) (by repeat first | exact tn_ | apply td_ rfl | apply tc_ | exact .here | apply Take1.there) (by repeat (first | exact Subs.refl | refine Subs.skip ?_))
      · have ck2 : ¬ key Ls (V.getD (mid - (h + 1)) default) < key Ls (U.getD (h + 1 - 1 - a) default) := by
          rw [show mid - (h + 1) = mid - 1 - h by omega, Nat.add_sub_cancel]; exact ck
        repeat (first | (apply G.ex (hd := rfl); case h => (first | exact Ex.move rfl | exact Ex.add rfl rfl (by omega) | exact Ex.assign rfl)) | refine G.nil ?_ | refine GC.region ?_ | refine GE.then_normal ?_ | refine GE.block_normal ?_ | refine GC.cond_yes rfl (by first | assumption | omega) ?_)
        rw [show (h : Int) + 1 = ((h + 1 : Nat) : Int) by omega]
        refine GE.loop (h + 1, r) ⟨by simp only; omega, by simp only; omega, g3, .inr ck2, hf2⟩ (by simp only; omega) (by simp only [fits]; repeat (first | exact trivial | refine And.intro rfl ?_)) (by repeat first | exact tn_ | apply td_ rfl | apply tc_ | exact .here | apply Take1.there) (by repeat (first | exact Subs.refl | refine Subs.skip ?_))
    · obtain rfl : st = r := by omega
      have c' : ¬ (st : Int) < (st : Int) := by omega
      obtain ⟨e, he⟩ : ∃ e, mid - st = e := ⟨_, rfl⟩
      have hcut := cut_facts hU hV sp (st - a) e (by omega) (by omega) (by
        rcases hf1 with f | f
        · omega
        · right; right
          rw [show st - a - 1 = st - 1 - a by omega, ← he]; exact f) (by
        rcases hf2 with f | f
        · omega
        · right; right
          rw [show e - 1 = mid - 1 - st by omega]; exact f)
      have heV : e ≤ V.length := by omega
      have hsU : st - a ≤ U.length := by omega
      clear hDU hDV hf1 hf2
      obtain ⟨U1, U2, V1, V2, eU, eV, lU, lV, h12, h21⟩ : ∃ U1 U2 V1 V2, U = U1 ++ U2 ∧ V = V1 ++ V2 ∧ U1.length = st - a ∧ V1.length = e ∧ (∀ u ∈ U1, ∀ v ∈ V2, bf (key Ls) u v) ∧ (∀ v ∈ V1, ∀ u ∈ U2, bf (key Ls) v u) :=
        ⟨U.take (st - a), U.drop (st - a), V.take e, V.drop e, (List.take_append_drop ..).symm, (List.take_append_drop ..).symm, by rw [List.length_take]; omega, by rw [List.length_take]; omega, hcut.1, hcut.2⟩
      clear hcut
      subst eU eV
      simp only [List.length_append] at hs hU0 hV0 hm hb h1 h2 hNl heV hsU
      have hU1 := hU.sublist (List.sublist_append_left U1 U2)
      have hU2 := hU.sublist (List.sublist_append_right U1 U2)
      have hV1 := hV.sublist (List.sublist_append_left V1 V2)
      have hV2 := hV.sublist (List.sublist_append_right V1 V2)
      have sp1 : Sep U1 V1 := fun u hu v hv => sp u (List.mem_append_left _ hu) v (List.mem_append_left _ hv)
      have sp2 : Sep U2 V2 := fun u hu v hv => sp u (List.mem_append_right _ hu) v (List.mem_append_right _ hv)
      have hend : ((mid + m : Nat) : Int) - (st : Int) = ((m + e : Nat) : Int) := by omega
      repeat ((fail_if_success (refine GC.seq ?_; refine GC.region (id := 39) ?_)); first | (apply G.ex (hd := rfl); case h => (first | exact Ex.move rfl | exact Ex.sub rfl rfl (by omega) | exact Ex.lss rfl rfl | exact Ex.assign rfl)) | refine G.nil ?_ | refine GC.seq ?_ | refine GC.region ?_ | refine GC.exit ?_ | refine GE.then_normal ?_ | refine GE.then_exit ?_ | refine GE.block_hit ?_ | refine GC.cond_no rfl (by first | assumption | omega) ?_)
      rw [hend]
      refine GC.meet (ι := Unit) (fun _ => True) (fun _ => [(0, .slice da N dc), (1, .int .i64 (a : Int)), (3, .int .i64 (b : Int)), (4, cmpV kb), (18, .int .i64 (mid : Int)), (20, .int .i64 (st : Int)), (24, .int .i64 ((m + e : Nat) : Int))]) (fun _ => [DR da N dc (P ++ ((U1 ++ V1) ++ ((U2 ++ V2) ++ Q))), KB kb la ln lc, LS la ln lc Ls]) rest ?_ ?_
      · by_cases c3 : st < m
        · have c3' : (st : Int) < (m : Int) := by omega
          by_cases c4 : 0 < V1.length
          · have c4' : (m : Int) < ((m + e : Nat) : Int) := by omega
            rw [show P ++ ((U1 ++ U2) ++ ((V1 ++ V2) ++ Q)) = (P ++ U1) ++ (U2 ++ (V1 ++ (V2 ++ Q))) by simp only [List.append_assoc]]
            repeat (first | (apply G.ex (hd := rfl); case h => (first | exact Ex.move rfl | exact Ex.lss rfl rfl | exact Ex.pickT rfl (by first | assumption | omega) rfl)) | refine G.g_tt rfl rfl (by first | assumption | omega) ?_ | refine G.nil ?_ | refine GC.seq ?_ | refine GC.region ?_ | refine GE.then_normal ?_ | refine GC.cond_yes rfl (by first | assumption | omega) ?_)
            first | refine G.call (caps := []) (rotate_sp (cmpV kb) da dc (P ++ U1) U2 V1 (V2 ++ Q) st m (m + e) N (by omega) c4 (by rw [List.length_append]; omega) (by omega) (by omega) (by simp only [List.length_append]; omega) hN2) rfl rfl rfl rfl (by repeat first | exact tn_ | apply td_ rfl | apply tc_ | exact .here | apply Take1.there) ?_ | refine G.callU (caps := []) (rotate_sp (cmpV kb) da dc (P ++ U1) U2 V1 (V2 ++ Q) st m (m + e) N (by omega) c4 (by rw [List.length_append]; omega) (by omega) (by omega) (by simp only [List.length_append]; omega) hN2) rfl rfl rfl (by repeat first | exact tn_ | apply td_ rfl | apply tc_ | exact .here | apply Take1.there) ?_
            rintro v_ give_ rfl rs_ hrs_
            simp only [List.cons_append, List.nil_append] at hrs_
            subst hrs_
            rw [show (P ++ U1) ++ (V1 ++ (U2 ++ (V2 ++ Q))) = P ++ ((U1 ++ V1) ++ ((U2 ++ V2) ++ Q)) by simp only [List.append_assoc]]
            repeat (first | refine G.nil ?_)
            refine GE.meet () trivial (by simp only [fits]; repeat (first | exact trivial | refine And.intro rfl ?_)) (by repeat first | exact tn_ | apply td_ rfl | apply tc_ | exact .here | apply Take1.there) (by repeat (first | exact Subs.refl | refine Subs.skip ?_))
          · have c4' : ¬ (m : Int) < ((m + e : Nat) : Int) := by omega
            rw [show P ++ ((U1 ++ U2) ++ ((V1 ++ V2) ++ Q)) = P ++ ((U1 ++ V1) ++ ((U2 ++ V2) ++ Q)) by rw [nil_of c4]; simp only [List.append_assoc, List.nil_append]]
            repeat (first | (apply G.ex (hd := rfl); case h => (first | exact Ex.move rfl | exact Ex.lss rfl rfl | exact Ex.pickT rfl (by first | assumption | omega) rfl)) | refine G.g_tt rfl rfl (by first | assumption | omega) ?_ | refine G.nil ?_ | refine GC.seq ?_ | refine GC.region ?_ | refine GC.skip ?_ | refine GE.then_normal ?_ | refine GC.cond_no rfl (by first | assumption | omega) ?_)
            refine GE.meet () trivial (by simp only [fits]; repeat (first | exact trivial | refine And.intro rfl ?_)) (by repeat first | exact tn_ | apply td_ rfl | apply tc_ | exact .here | apply Take1.there) (by repeat (first | exact Subs.refl | refine Subs.skip ?_))
        · have c3' : ¬ (st : Int) < (m : Int) := by omega
          rw [show P ++ ((U1 ++ U2) ++ ((V1 ++ V2) ++ Q)) = P ++ ((U1 ++ V1) ++ ((U2 ++ V2) ++ Q)) by rw [nil_of (l := U2) (by omega)]; simp only [List.append_assoc, List.nil_append]]
          repeat (first | (apply G.ex (hd := rfl); case h => (first | exact Ex.move rfl | exact Ex.lss rfl rfl | exact Ex.pickF rfl (by first | assumption | omega) rfl)) | refine G.g_tf rfl rfl (by first | assumption | omega) rfl ?_ | refine G.nil ?_ | refine GC.seq ?_ | refine GC.region ?_ | refine GC.skip ?_ | refine GE.then_normal ?_ | refine GC.cond_f rfl ?_)
          refine GE.meet () trivial (by simp only [fits]; repeat (first | exact trivial | refine And.intro rfl ?_)) (by repeat first | exact tn_ | apply td_ rfl | apply tc_ | exact .here | apply Take1.there) (by repeat (first | exact Subs.refl | refine Subs.skip ?_))
      rintro _ _ fr_ rs_ hfr_ hrs_
      simp only [List.cons_append, List.nil_append] at hfr_ hrs_
      subst hfr_ hrs_
      repeat ((fail_if_success (refine GC.seq ?_; refine GC.region (id := 41) ?_)); first | refine GC.seq ?_ | refine GE.then_normal ?_)
      refine GC.meet (ι := List Nat) (fun W1 => W1.Perm (U1 ++ V1) ∧ Srt (key Ls) W1) (fun _ => [(0, .slice da N dc), (3, .int .i64 (b : Int)), (4, cmpV kb), (18, .int .i64 (mid : Int)), (24, .int .i64 ((m + e : Nat) : Int))]) (fun W1 => [DR da N dc (P ++ (W1 ++ ((U2 ++ V2) ++ Q))), KB kb la ln lc, LS la ln lc Ls]) rest ?_ ?_
      · by_cases c3 : a < st
        · have c3' : (a : Int) < (st : Int) := by omega
          by_cases c4 : st < mid
          · have c4' : (st : Int) < (mid : Int) := by omega
            rw [show P ++ ((U1 ++ V1) ++ ((U2 ++ V2) ++ Q)) = P ++ (U1 ++ (V1 ++ ((U2 ++ V2) ++ Q))) by simp only [List.append_assoc]]
            have hi := ih P U1 V1 ((U2 ++ V2) ++ Q) a st mid (by omega) (by omega) (by omega) ha (by omega) (by omega) (by simp only [List.length_append]; omega) hU1 hV1 sp1 (fun x hx => hiU x (List.mem_append_left _ hx)) (fun x hx => hiV x (List.mem_append_left _ hx))
            repeat (first | (apply G.ex (hd := rfl); case h => (first | exact Ex.move rfl | exact Ex.lss rfl rfl | exact Ex.pickT rfl (by first | assumption | omega) rfl)) | refine G.g_tt rfl rfl (by first | assumption | omega) ?_ | refine G.nil ?_ | refine GC.seq ?_ | refine GC.region ?_ | refine GE.then_normal ?_ | refine GC.cond_yes rfl (by first | assumption | omega) ?_)
            first | refine G.call (caps := []) (hi) rfl rfl rfl rfl (by repeat first | exact tn_ | apply td_ rfl | apply tc_ | exact .here | apply Take1.there) ?_ | refine G.callU (caps := []) (hi) rfl rfl rfl (by repeat first | exact tn_ | apply td_ rfl | apply tc_ | exact .here | apply Take1.there) ?_
            rintro v_ give_ ⟨W1, p1, s1, rfl⟩ rs_ hrs_
            simp only [List.cons_append, List.nil_append] at hrs_
            subst hrs_
            repeat (first | refine G.nil ?_)
            refine GE.meet W1 ⟨p1, s1⟩ (by simp only [fits]; repeat (first | exact trivial | refine And.intro rfl ?_)) (by repeat first | exact tn_ | apply td_ rfl | apply tc_ | exact .here | apply Take1.there) (by repeat (first | exact Subs.refl | refine Subs.skip ?_))
          · have c4' : ¬ (st : Int) < (mid : Int) := by omega
            have e1 : V1 = [] := nil_of (by omega)
            repeat (first | (apply G.ex (hd := rfl); case h => (first | exact Ex.move rfl | exact Ex.lss rfl rfl | exact Ex.pickT rfl (by first | assumption | omega) rfl)) | refine G.g_tt rfl rfl (by first | assumption | omega) ?_ | refine G.nil ?_ | refine GC.seq ?_ | refine GC.region ?_ | refine GC.skip ?_ | refine GE.then_normal ?_ | refine GC.cond_no rfl (by first | assumption | omega) ?_)
            refine GE.meet (U1 ++ V1) ⟨.refl _, by rw [e1, List.append_nil]; exact hU1⟩ (by simp only [fits]; repeat (first | exact trivial | refine And.intro rfl ?_)) (by repeat first | exact tn_ | apply td_ rfl | apply tc_ | exact .here | apply Take1.there) (by repeat (first | exact Subs.refl | refine Subs.skip ?_))
        · have c3' : ¬ (a : Int) < (st : Int) := by omega
          have e1 : U1 = [] := nil_of (by omega)
          repeat (first | (apply G.ex (hd := rfl); case h => (first | exact Ex.move rfl | exact Ex.lss rfl rfl | exact Ex.pickF rfl (by first | assumption | omega) rfl)) | refine G.g_tf rfl rfl (by first | assumption | omega) rfl ?_ | refine G.nil ?_ | refine GC.seq ?_ | refine GC.region ?_ | refine GC.skip ?_ | refine GE.then_normal ?_ | refine GC.cond_f rfl ?_)
          refine GE.meet (U1 ++ V1) ⟨.refl _, by rw [e1]; exact hV1⟩ (by simp only [fits]; repeat (first | exact trivial | refine And.intro rfl ?_)) (by repeat first | exact tn_ | apply td_ rfl | apply tc_ | exact .here | apply Take1.there) (by repeat (first | exact Subs.refl | refine Subs.skip ?_))
      rintro W1 ⟨p1, s1⟩ fr_ rs_ hfr_ hrs_
      simp only [List.cons_append, List.nil_append] at hfr_ hrs_
      subst hfr_ hrs_
      have lW : W1.length = U1.length + V1.length := by rw [p1.length_eq, List.length_append]
      rw [show P ++ (W1 ++ ((U2 ++ V2) ++ Q)) = (P ++ W1) ++ (U2 ++ (V2 ++ Q)) by simp only [List.append_assoc]]
      have fin : ∀ W2 : List Nat, W2.Perm (U2 ++ V2) → Srt (key Ls) W2 → (W1 ++ W2).Perm (U1 ++ U2 ++ (V1 ++ V2)) ∧ Srt (key Ls) (W1 ++ W2) := fun W2 p2 s2 => (merged hU hV h12 h21 p1 p2 s1 s2).symm
      by_cases c3 : mid < m + e
      · have c3' : (mid : Int) < ((m + e : Nat) : Int) := by omega
        by_cases c4 : m + e < b
        · have c4' : ((m + e : Nat) : Int) < (b : Int) := by omega
          have hi := ih (P ++ W1) U2 V2 Q mid (m + e) b (by omega) (by omega) (by omega) (by rw [List.length_append]; omega) (by omega) (by omega) (by simp only [List.length_append]; omega) hU2 hV2 sp2 (fun x hx => hiU x (List.mem_append_right _ hx)) (fun x hx => hiV x (List.mem_append_right _ hx))
          repeat (first | (apply G.ex (hd := rfl); case h => (first | exact Ex.move rfl | exact Ex.lss rfl rfl | exact Ex.pickT rfl (by first | assumption | omega) rfl)) | refine G.g_tt rfl rfl (by first | assumption | omega) ?_ | refine G.nil ?_ | refine GC.seq ?_ | refine GC.region ?_ | refine GE.then_normal ?_ | refine GC.cond_yes rfl (by first | assumption | omega) ?_)
          first | refine G.call (caps := []) (hi) rfl rfl rfl rfl (by repeat first | exact tn_ | apply td_ rfl | apply tc_ | exact .here | apply Take1.there) ?_ | refine G.callU (caps := []) (hi) rfl rfl rfl (by repeat first | exact tn_ | apply td_ rfl | apply tc_ | exact .here | apply Take1.there) ?_
          rintro v_ give_ ⟨W2, p2, s2, rfl⟩ rs_ hrs_
          simp only [List.cons_append, List.nil_append] at hrs_
          subst hrs_
          obtain ⟨f1, f2⟩ := fin W2 p2 s2
          rw [show (P ++ W1) ++ (W2 ++ Q) = P ++ ((W1 ++ W2) ++ Q) by simp only [List.append_assoc]]
          repeat (first | refine G.nil ?_)
          refine GE.ret (by first | exact .inl rfl | exact .inr rfl) (res0 Try.results37) ⟨W1 ++ W2, f1, f2, rfl⟩ (by repeat first | exact tn_ | apply td_ rfl | apply tc_ | exact .here | apply Take1.there) (by repeat (first | exact Subs.refl | refine Subs.skip ?_))
        · have c4' : ¬ ((m + e : Nat) : Int) < (b : Int) := by omega
          have e2 : V2 = [] := nil_of (by omega)
          obtain ⟨f1, f2⟩ := fin (U2 ++ V2) (.refl _) (by rw [e2, List.append_nil]; exact hU2)
          rw [show (P ++ W1) ++ (U2 ++ (V2 ++ Q)) = P ++ ((W1 ++ (U2 ++ V2)) ++ Q) by simp only [List.append_assoc]]
          repeat (first | (apply G.ex (hd := rfl); case h => (first | exact Ex.move rfl | exact Ex.lss rfl rfl | exact Ex.pickT rfl (by first | assumption | omega) rfl)) | refine G.g_tt rfl rfl (by first | assumption | omega) ?_ | refine G.nil ?_ | refine GC.seq ?_ | refine GC.region ?_ | refine GC.skip ?_ | refine GE.then_normal ?_ | refine GC.cond_no rfl (by first | assumption | omega) ?_)
          refine GE.ret (by first | exact .inl rfl | exact .inr rfl) (res0 Try.results37) ⟨W1 ++ (U2 ++ V2), f1, f2, rfl⟩ (by repeat first | exact tn_ | apply td_ rfl | apply tc_ | exact .here | apply Take1.there) (by repeat (first | exact Subs.refl | refine Subs.skip ?_))
      · have c3' : ¬ (mid : Int) < ((m + e : Nat) : Int) := by omega
        have e2 : U2 = [] := nil_of (by omega)
        obtain ⟨f1, f2⟩ := fin (U2 ++ V2) (.refl _) (by rw [e2]; exact hV2)
        rw [show (P ++ W1) ++ (U2 ++ (V2 ++ Q)) = P ++ ((W1 ++ (U2 ++ V2)) ++ Q) by simp only [List.append_assoc]]
        repeat (first | (apply G.ex (hd := rfl); case h => (first | exact Ex.move rfl | exact Ex.lss rfl rfl | exact Ex.pickF rfl (by first | assumption | omega) rfl)) | refine G.g_tf rfl rfl (by first | assumption | omega) rfl ?_ | refine G.nil ?_ | refine GC.seq ?_ | refine GC.region ?_ | refine GC.skip ?_ | refine GE.then_normal ?_ | refine GC.cond_f rfl ?_)
        refine GE.ret (by first | exact .inl rfl | exact .inr rfl) (res0 Try.results37) ⟨W1 ++ (U2 ++ V2), f1, f2, rfl⟩ (by repeat first | exact tn_ | apply td_ rfl | apply tc_ | exact .here | apply Take1.there) (by repeat (first | exact Subs.refl | refine Subs.skip ?_))
end sort
end Go.Proofs.Ytfkgchdbjfbdaaa
