/-
  CONTRACT of slices.symMergeCmpFunc, by the kit.
-/
import Derived.Test.YtfkgchdbjfbdaaaSortB
namespace Go.Proofs.Ytfkgchdbjfbdaaa
open Go.RowKit
attribute [local irreducible] Ex G GC GE Gq FPost LPost
set_option linter.unusedVariables false
set_option linter.unusedSimpArgs false
namespace sort
theorem half_cast (x y : Nat) : ((x : Int) + (y : Int)) / 2 = (((x + y) / 2 : Nat) : Int) := by omega
theorem cut_id {α : Type} (l : List α) (s : Nat) : l.take s ++ l.drop s = l := List.take_append_drop ..
/-- a single one ahead is put in behind -/
abbrev MSpec (kb : Nat) (la : Option Addr) (ln lc : Nat) (Ls : List Int) (da : Option Addr) (dc N : Nat) (P U V Q : List Nat) (a m b : Nat) : Prop :=
    Spec Try.prog 37 [.slice da N dc, .int .i64 (a : Int), .int .i64 (m : Int), .int .i64 (b : Int), cmpV kb] [DR da N dc (P ++ (U ++ (V ++ Q))), KB kb la ln lc, LS la ln lc Ls] fun v give => ∃ W, W.Perm (U ++ V) ∧ Srt (key Ls) W ∧ give = [DR da N dc (P ++ (W ++ Q)), KB kb la ln lc]
set_option maxHeartbeats 16000000 in
theorem merge_left (kb : Nat) (la : Option Addr) (ln lc : Nat) (Ls : List Int) (hl : Ls.length = ln) (da : Option Addr) (dc N : Nat) (hN2 : N ≤ 1000000) (u : Nat) (P V Q : List Nat) (a m b : Nat) (hV0 : 0 < V.length) (ha : P.length = a) (hm : a + 1 = m) (hb : m + V.length = b) (hN : (P ++ ([u] ++ (V ++ Q))).length = N)
    (hV : Srt (key Ls) V) (sp : ∀ v ∈ V, u < v) (hu : u < ln) (hin : ∀ x ∈ V, x < ln) : MSpec kb la ln lc Ls da dc N P [u] V Q a m b := by
  obtain ⟨Z, hZ⟩ : ∃ Z, P ++ (V ++ Q) = Z := ⟨_, rfl⟩
  have hZm : ∀ e, e ≤ V.length → insZ Z (a + e) u = P ++ ((V.take e ++ u :: V.drop e) ++ Q) := fun e he => by rw [← hZ, ← ha, insZ_mid P V Q u e he]
  have hZ0 : P ++ ([u] ++ (V ++ Q)) = insZ Z (a + 0) u := by rw [hZm 0 (Nat.zero_le _), List.take_zero, List.drop_zero]; rfl
  have hZl : Z.length + 1 = N := by rw [← hZ, ← hN]; simp only [List.length_append, List.length_singleton]; omega
  have hbN : b ≤ N := by rw [← hN]; simp only [List.length_append, List.length_singleton]; omega
  have hZa : ∀ e, e < V.length → Z.getD (a + e) default = V.getD e default := fun e he => by
    rw [← hZ, getD_app, if_neg (by omega), ha, Nat.add_sub_cancel_left, getD_app, if_pos he]
  unfold MSpec
  rw [hZ0]
  clear hZ hZ0 hN
  have c1 : (m : Int) - (a : Int) = 1 := by omega
  refine Spec.intro Try.func37 rfl Try.ntmps37 rfl fun w0 rest rs_ hrs_ => ?_
  simp only [List.cons_append, List.nil_append] at hrs_
  subst hrs_
  repeat (first | (apply G.ex (hd := rfl); case h => (first | exact Ex.move rfl | exact Ex.sub rfl rfl (by omega) | exact Ex.eqI rfl rfl | exact Ex.assign rfl)) | refine G.nil ?_ | refine GC.seq ?_ | refine GC.region ?_ | refine GC.block ?_ | refine GE.then_normal ?_ | refine GC.cond_yes rfl (by first | assumption | omega) ?_)
  rw [show (b : Int) = ((m + V.length : Nat) : Int) by omega]
  refine GC.loop (ι := Nat × Nat) (fun x => x.1 ≤ x.2 ∧ x.2 ≤ V.length ∧ (x.1 = 0 ∨ key Ls (V.getD (x.1 - 1) default) < key Ls u) ∧ (x.2 = V.length ∨ ¬ key Ls (V.getD x.2 default) < key Ls u)) (fun x => x.2 - x.1) (fun x => [(0, .slice da N dc), (1, .int .i64 (a : Int)), (4, cmpV kb), (10, .int .i64 ((m + x.1 : Nat) : Int)), (11, .int .i64 ((m + x.2 : Nat) : Int))]) (fun x => [DR da N dc (insZ Z (a + 0) u), KB kb la ln lc, LS la ln lc Ls]) (0, V.length) ⟨Nat.zero_le _, Nat.le_refl _, .inl rfl, .inl rfl⟩ (by simp only [fits]; repeat (first | exact trivial | refine And.intro rfl ?_)) (by repeat first | exact tn_ | apply td_ rfl | apply tc_ | exact .here | apply Take1.there) ?_
  rintro ⟨e1, e2⟩ ⟨he1, he2, hf2, hf1⟩ fr_ rs_ hfr_ hrs_
  simp only [List.cons_append, List.nil_append] at hfr_ hrs_
  subst hfr_ hrs_
  simp only at he1 he2 hf2 hf1
  by_cases c : e1 < e2
  · obtain ⟨h, hh⟩ : ∃ h, (e1 + e2) / 2 = h := ⟨_, rfl⟩
    have hhl : e1 ≤ h ∧ h < e2 := by omega
    have c' : ((m + e1 : Nat) : Int) < ((m + e2 : Nat) : Int) := by omega
    have hxu : (insZ Z (a + 0) u).getD a default = u := by rw [insZ_at u (by omega), if_neg (by omega), if_pos (Nat.add_zero a).symm]
    have hxv : (insZ Z (a + 0) u).getD (m + h) default = V.getD h default := by rw [insZ_at u (by omega), if_neg (by omega), if_neg (by omega), show m + h - 1 = a + h by omega, hZa h (by omega)]
    have hil := insZ_len (Z := Z) (c := a + 0) u (by omega)
    have hgu := at_eN (i := a) (by omega) hxu
    have hgv := at_eN (i := m + h) (by omega) hxv
    have ha1 : a < N := by omega
    have hh1 : m + h < N := by omega
    have hvl : V.getD h default < ln := hin _ (getD_mem' (by omega))
    clear hxu hxv hZm hZa hin hV sp
    repeat (first | (apply G.ex (hd := rfl); case h => (first | exact Ex.move rfl | exact Ex.add rfl rfl (by omega) | exact Ex.lss rfl rfl)) | refine G.nil ?_ | refine GC.seq ?_ | refine GC.region ?_ | refine GC.block ?_ | refine GC.skip ?_ | refine GE.then_normal ?_ | refine GC.cond_yes rfl (by first | assumption | omega) ?_)
    refine G.ex (hd := rfl) (Ex.convU rfl (by omega)) ?_
    refine G.ex (hd := rfl) (Ex.shr1u rfl rfl) ?_
    rw [half_cast, show (m + e1 + (m + e2)) / 2 = m + h by omega]
    repeat (first | (apply G.ex (hd := rfl); case h => (first | exact Ex.assign rfl | exact Ex.conv64 rfl (by omega))) | refine G.nil ?_ | refine GC.seq ?_ | refine GE.then_normal ?_)
    refine GC.vecSome (List.mem_cons_self ..) (by omega) fun q hq => ?_
    subst hq
    refine GC.drawA [] [DR (some q) N dc (insZ Z (a + 0) u)] (by repeat first | exact tn_ | apply td_ rfl | apply tc_ | exact .here | apply Take1.there) (by kernel_rfl) ?_
    first | (apply GA.take [] (hD := .inl rfl) (hsub := ⟨_, Takes.nil⟩) (i := 0) (hi := rfl) (hs := by kernel_rfl) (hfr := by kernel_rfl) (hr := by kernel_rfl) (hQ := np_) (hd := rfl); case hx => (first | exact Ex.move rfl))
    first | (apply GA.take [] (hD := .inl rfl) (hsub := ⟨_, Takes.nil⟩) (i := 1) (hi := rfl) (hs := by kernel_rfl) (hfr := by kernel_rfl) (hr := by kernel_rfl) (hQ := np_) (hd := rfl); case hx => (first | exact Ex.move rfl))
    first | (apply GA.take [] (hD := .inl rfl) (hsub := ⟨_, Takes.nil⟩) (i := 2) (hi := rfl) (hs := by kernel_rfl) (hfr := by kernel_rfl) (hr := by kernel_rfl) (hQ := np_) (hd := rfl); case hx => (first | exact Ex.move rfl))
    first | (apply GA.take [] (hD := .inl rfl) (hsub := ⟨_, Takes.nil⟩) (i := 5) (hi := rfl) (hs := by kernel_rfl) (hfr := by kernel_rfl) (hr := by kernel_rfl) (hQ := np_) (hd := rfl); case hx => (first | exact Ex.move rfl))
    first | (apply GA.take [] (hD := .inl rfl) (hsub := ⟨_, Takes.nil⟩) (i := 6) (hi := rfl) (hs := by kernel_rfl) (hfr := by kernel_rfl) (hr := by kernel_rfl) (hQ := np_) (hd := rfl); case hx => (first | exact Ex.move rfl))
    apply GA.take [] (hD := .inl rfl) (hsub := ⟨_, Takes.nil⟩) (i := 3) (hi := rfl) (hs := by kernel_rfl) (hfr := by kernel_rfl) (hr := by kernel_rfl) (hQ := np_) (hd := rfl) (hx := (Ex.indexSome (k := m + h) rfl rfl hh1))
    apply GA.take _ (hD := .inr ⟨rfl, by kernel_rfl⟩) (hsub := ⟨_, (by repeat first | exact tn_ | apply td_ rfl | apply tc_ | exact .here | apply Take1.there)⟩) (i := 4) (hi := rfl) (hs := by kernel_rfl) (hfr := by kernel_rfl) (hr := by kernel_rfl) (hQ := np_) (hd := rfl) (hx := (Ex.loadE (k := (m + h) * 1) rfl hgv))
    apply GA.take [] (hD := .inl rfl) (hsub := ⟨_, Takes.nil⟩) (i := 7) (hi := rfl) (hs := by kernel_rfl) (hfr := by kernel_rfl) (hr := by kernel_rfl) (hQ := np_) (hd := rfl) (hx := (Ex.indexSome (k := a) rfl rfl ha1))
    apply GA.take _ (hD := .inr ⟨rfl, by kernel_rfl⟩) (hsub := ⟨_, (by repeat first | exact tn_ | apply td_ rfl | apply tc_ | exact .here | apply Take1.there)⟩) (i := 8) (hi := rfl) (hs := by kernel_rfl) (hfr := by kernel_rfl) (hr := by kernel_rfl) (hQ := np_) (hd := rfl) (hx := (Ex.loadE (k := a * 1) rfl hgu))
    refine GA.one (i := 9) (by kernel_rfl) rfl ?_
    first | refine G.call (order1_sp kb la ln lc Ls hl (V.getD h default) u hvl hu) rfl rfl rfl rfl (by repeat first | exact tn_ | apply td_ rfl | apply tc_ | exact .here | apply Take1.there) ?_ | refine G.callU (order1_sp kb la ln lc Ls hl (V.getD h default) u hvl hu) rfl rfl rfl (by repeat first | exact tn_ | apply td_ rfl | apply tc_ | exact .here | apply Take1.there) ?_
    rintro v_ give_ ⟨rfl, rfl⟩ rs_ hrs_
    simp only [List.cons_append, List.nil_append] at hrs_
    subst hrs_
    try refine G.nil ?_
    refine GA.back (by first | exact .inl (by decide) | exact .inr ⟨_, (by repeat first | exact tn_ | apply td_ rfl | apply tc_ | exact .here | apply Take1.there)⟩) ?_
    first | (apply GA.take [] (hD := .inl rfl) (hsub := ⟨_, Takes.nil⟩) (i := 10) (hi := rfl) (hs := by kernel_rfl) (hfr := by kernel_rfl) (hr := by kernel_rfl) (hQ := np_) (hd := rfl); case hx => (first | exact Ex.lss rfl rfl))
    rw [cmp3_lt]
    refine GA.done (by kernel_rfl) ?_
    by_cases ck : key Ls (V.getD h default) < key Ls u
    · repeat (first | (apply G.ex (hd := rfl); case h => (first | exact Ex.move rfl | exact Ex.add rfl rfl (by omega) | exact Ex.assign rfl)) | refine G.nil ?_ | refine GC.region ?_ | refine GE.then_normal ?_ | refine GE.block_normal ?_ | refine GC.cond_yes rfl (by first | assumption | omega) ?_)
      rw [show ((m + h : Nat) : Int) + 1 = ((m + (h + 1) : Nat) : Int) by omega]
      refine GE.loop (h + 1, e2) ⟨by simp only; omega, he2, .inr ck, hf1⟩ (by simp only; omega) (by simp only [fits]; repeat (first | exact trivial | refine And.intro rfl ?_)) (by repeat first | exact tn_ | apply td_ rfl | apply tc_ | exact .here | apply Take1.there) (by repeat (first | exact Subs.refl | refine Subs.skip ?_))
    · repeat (first | (apply G.ex (hd := rfl); case h => (first | exact Ex.move rfl | exact Ex.assign rfl)) | refine G.nil ?_ | refine GC.region ?_ | refine GE.then_normal ?_ | refine GE.block_normal ?_ | refine GC.cond_no rfl (by first | assumption | omega) ?_)
      refine GE.loop (e1, h) ⟨by simp only; omega, by simp only; omega, hf2, .inr ck⟩ (by simp only; omega) (by simp only [fits]; repeat (first | exact trivial | refine And.intro rfl ?_)) (by repeat first | exact tn_ | apply td_ rfl | apply tc_ | exact .here | apply Take1.there) (by repeat (first | exact Subs.refl | refine Subs.skip ?_))
  · obtain rfl : e1 = e2 := by omega
    have c' : ¬ ((m + e1 : Nat) : Int) < ((m + e1 : Nat) : Int) := by omega
    have hW := put_left hV sp e1 he2 hf1 hf2
    have hp : (V.take e1 ++ u :: V.drop e1).Perm ([u] ++ V) := ins_perm V u e1
    have hZe := hZm e1 he2
    clear hZm hf1 hf2 hV sp hin
    repeat (first | (apply G.ex (hd := rfl); case h => (first | exact Ex.move rfl | exact Ex.lss rfl rfl | exact Ex.assign rfl)) | refine G.nil ?_ | refine GC.seq ?_ | refine GC.region ?_ | refine GC.block ?_ | refine GC.exit ?_ | refine GE.then_normal ?_ | refine GE.then_exit ?_ | refine GE.block_hit ?_ | refine GC.cond_no rfl (by first | assumption | omega) ?_)
    rw [show (a : Int) = ((a + 0 : Nat) : Int) by omega]
    refine GC.loop (ι := Nat) (fun e => e ≤ e1) (fun e => e1 - e) (fun e => [(0, .slice da N dc), (10, .int .i64 ((m + e1 : Nat) : Int)), (13, .int .i64 ((a + e : Nat) : Int))]) (fun e => [DR da N dc (insZ Z (a + e) u), KB kb la ln lc]) 0 (Nat.zero_le _) (by simp only [fits]; repeat (first | exact trivial | refine And.intro rfl ?_)) (by repeat first | exact tn_ | apply td_ rfl | apply tc_ | exact .here | apply Take1.there) ?_
    rintro e he fr_ rs_ hfr_ hrs_
    simp only [List.cons_append, List.nil_append] at hfr_ hrs_
    subst hfr_ hrs_
    by_cases c2 : e < e1
    · have c2' : ((a + e : Nat) : Int) < ((m + e1 : Nat) : Int) - 1 := by omega
      have hx_ : (insZ Z (a + e) u).getD (a + e) default = u := by rw [insZ_at u (by omega), if_neg (by omega), if_pos rfl]
      have hy_ : (insZ Z (a + e) u).getD (a + e + 1) default = Z.getD (a + e) default := by rw [insZ_at u (by omega), if_neg (by omega), if_neg (by omega), Nat.add_sub_cancel]
      have hsw : ((insZ Z (a + e) u).set (a + e) (Z.getD (a + e) default)).set (a + e + 1) u = insZ Z (a + (e + 1)) u := by
        have := insZ_right (Z := Z) (c := a + e) u (by omega)
        unfold huff.swp at this
        rw [hx_, hy_] at this
        exact this
      have hil := insZ_len (Z := Z) (c := a + e) u (by omega)
      have hgj := at_eN (i := a + e) (by omega) hx_
      have hgi := at_eN (i := a + e + 1) (by omega) hy_
      have hj1 : a + e < N := by omega
      have hi1 : a + e + 1 < N := by omega
      clear hx_ hy_ hZa hW hp hZe
      repeat (first | (apply G.ex (hd := rfl); case h => (first | exact Ex.move rfl | exact Ex.sub rfl rfl (by omega) | exact Ex.lss rfl rfl)) | refine G.nil ?_ | refine GC.seq ?_ | refine GC.region ?_ | refine GC.block ?_ | refine GC.skip ?_ | refine GE.then_normal ?_ | refine GC.cond_yes rfl (by first | assumption | omega) ?_)
      refine GC.vecSome (List.mem_cons_self ..) (by omega) fun q hq => ?_
      subst hq
      refine GC.drawA [15, 17] [DR (some q) N dc (insZ Z (a + e) u)] (by repeat first | exact tn_ | apply td_ rfl | apply tc_ | exact .here | apply Take1.there) (by kernel_rfl) ?_
      first | (apply GA.take [] (hD := .inl rfl) (hsub := ⟨_, Takes.nil⟩) (i := 0) (hi := rfl) (hs := by kernel_rfl) (hfr := by kernel_rfl) (hr := by kernel_rfl) (hQ := np_) (hd := rfl); case hx => (first | exact Ex.move rfl))
      first | (apply GA.take [] (hD := .inl rfl) (hsub := ⟨_, Takes.nil⟩) (i := 1) (hi := rfl) (hs := by kernel_rfl) (hfr := by kernel_rfl) (hr := by kernel_rfl) (hQ := np_) (hd := rfl); case hx => (first | exact Ex.move rfl))
      first | (apply GA.take [] (hD := .inl rfl) (hsub := ⟨_, Takes.nil⟩) (i := 2) (hi := rfl) (hs := by kernel_rfl) (hfr := by kernel_rfl) (hr := by kernel_rfl) (hQ := np_) (hd := rfl); case hx => (first | exact Ex.move rfl))
      first | (apply GA.take [] (hD := .inl rfl) (hsub := ⟨_, Takes.nil⟩) (i := 3) (hi := rfl) (hs := by kernel_rfl) (hfr := by kernel_rfl) (hr := by kernel_rfl) (hQ := np_) (hd := rfl); case hx => (first | exact Ex.move rfl))
      first | (apply GA.take [] (hD := .inl rfl) (hsub := ⟨_, Takes.nil⟩) (i := 4) (hi := rfl) (hs := by kernel_rfl) (hfr := by kernel_rfl) (hr := by kernel_rfl) (hQ := np_) (hd := rfl); case hx => (first | exact Ex.add rfl rfl (by omega)))
      first | (apply GA.take [] (hD := .inl rfl) (hsub := ⟨_, Takes.nil⟩) (i := 5) (hi := rfl) (hs := by kernel_rfl) (hfr := by kernel_rfl) (hr := by kernel_rfl) (hQ := np_) (hd := rfl); case hx => (first | exact Ex.move rfl))
      first | (apply GA.take [] (hD := .inl rfl) (hsub := ⟨_, Takes.nil⟩) (i := 6) (hi := rfl) (hs := by kernel_rfl) (hfr := by kernel_rfl) (hr := by kernel_rfl) (hQ := np_) (hd := rfl); case hx => (first | exact Ex.move rfl))
      first | (apply GA.take [] (hD := .inl rfl) (hsub := ⟨_, Takes.nil⟩) (i := 7) (hi := rfl) (hs := by kernel_rfl) (hfr := by kernel_rfl) (hr := by kernel_rfl) (hQ := np_) (hd := rfl); case hx => (first | exact Ex.add rfl rfl (by omega)))
      first | (apply GA.take [] (hD := .inl rfl) (hsub := ⟨_, Takes.nil⟩) (i := 10) (hi := rfl) (hs := by kernel_rfl) (hfr := by kernel_rfl) (hr := by kernel_rfl) (hQ := np_) (hd := rfl); case hx => (first | exact Ex.move rfl))
      first | (apply GA.take [] (hD := .inl rfl) (hsub := ⟨_, Takes.nil⟩) (i := 11) (hi := rfl) (hs := by kernel_rfl) (hfr := by kernel_rfl) (hr := by kernel_rfl) (hQ := np_) (hd := rfl); case hx => (first | exact Ex.move rfl))
      rw [show ((a + e : Nat) : Int) + 1 = ((a + e + 1 : Nat) : Int) by omega]
      apply GA.take [] (hD := .inl rfl) (hsub := ⟨_, Takes.nil⟩) (i := 8) (hi := rfl) (hs := by kernel_rfl) (hfr := by kernel_rfl) (hr := by kernel_rfl) (hQ := np_) (hd := rfl) (hx := (Ex.indexSome (k := a + e + 1) rfl rfl hi1))
      apply GA.take _ (hD := .inr ⟨rfl, by kernel_rfl⟩) (hsub := ⟨_, (by repeat first | exact tn_ | apply td_ rfl | apply tc_ | exact .here | apply Take1.there)⟩) (i := 9) (hi := rfl) (hs := by kernel_rfl) (hfr := by kernel_rfl) (hr := by kernel_rfl) (hQ := np_) (hd := rfl) (hx := (Ex.loadE (k := (a + e + 1) * 1) rfl hgi))
      apply GA.take [] (hD := .inl rfl) (hsub := ⟨_, Takes.nil⟩) (i := 12) (hi := rfl) (hs := by kernel_rfl) (hfr := by kernel_rfl) (hr := by kernel_rfl) (hQ := np_) (hd := rfl) (hx := (Ex.indexSome (k := a + e) rfl rfl hj1))
      apply GA.take _ (hD := .inr ⟨rfl, by kernel_rfl⟩) (hsub := ⟨_, (by repeat first | exact tn_ | apply td_ rfl | apply tc_ | exact .here | apply Take1.there)⟩) (i := 13) (hi := rfl) (hs := by kernel_rfl) (hfr := by kernel_rfl) (hr := by kernel_rfl) (hQ := np_) (hd := rfl) (hx := (Ex.loadE (k := (a + e) * 1) rfl hgj))
      apply GA.take [] (hD := .inl rfl) (hsub := ⟨_, Takes.nil⟩) (i := 14) (hi := rfl) (hs := by kernel_rfl) (hfr := by kernel_rfl) (hr := by kernel_rfl) (hQ := np_) (hd := rfl) (hx := (Ex.indexSome (k := a + e) rfl rfl hj1))
      refine GA.one (i := 15) (by kernel_rfl) rfl ?_
      first | refine G.storeT0 rfl rfl rfl rfl (by first | omega | (simp; omega)) rfl ((Z.getD (a + e) default)) (rfl) (fun rs_ hrs_ => ?_) | refine G.storeT rfl rfl rfl rfl (by first | omega | (simp; omega)) rfl ((Z.getD (a + e) default)) (rfl) (fun rs_ hrs_ => ?_) | refine G.storeTA rfl rfl (by first | omega | (simp; omega)) rfl ((Z.getD (a + e) default)) (rfl) (fun rs_ hrs_ => ?_)
      try simp only at hrs_
      subst hrs_
      try refine G.nil ?_
      refine GA.back (by first | exact .inl (by decide) | exact .inr ⟨_, (by repeat first | exact tn_ | apply td_ rfl | apply tc_ | exact .here | apply Take1.there)⟩) ?_
      apply GA.take [] (hD := .inl rfl) (hsub := ⟨_, Takes.nil⟩) (i := 16) (hi := rfl) (hs := by kernel_rfl) (hfr := by kernel_rfl) (hr := by kernel_rfl) (hQ := np_) (hd := rfl) (hx := (Ex.indexSome (k := a + e + 1) rfl rfl hi1))
      refine GA.one (i := 17) (by kernel_rfl) rfl ?_
      first | refine G.storeT0 rfl rfl rfl rfl (by first | omega | (simp; omega)) rfl (u) (rfl) (fun rs_ hrs_ => ?_) | refine G.storeT rfl rfl rfl rfl (by first | omega | (simp; omega)) rfl (u) (rfl) (fun rs_ hrs_ => ?_) | refine G.storeTA rfl rfl (by first | omega | (simp; omega)) rfl (u) (rfl) (fun rs_ hrs_ => ?_)
      try simp only at hrs_
      subst hrs_
      try refine G.nil ?_
      refine GA.back (by first | exact .inl (by decide) | exact .inr ⟨_, (by repeat first | exact tn_ | apply td_ rfl | apply tc_ | exact .here | apply Take1.there)⟩) ?_
      refine GA.done (by kernel_rfl) ?_
      rw [hsw]
      repeat (first | (apply G.ex (hd := rfl); case h => (first | exact Ex.move rfl | exact Ex.add rfl rfl (by omega) | exact Ex.assign rfl)) | refine G.nil ?_ | refine GC.region ?_ | refine GE.then_normal ?_ | refine GE.block_normal ?_)
      rw [show ((a + e : Nat) : Int) + 1 = ((a + (e + 1) : Nat) : Int) by omega]
      refine GE.loop (e + 1) (by omega) (by omega) (by simp only [fits]; repeat (first | exact trivial | refine And.intro rfl ?_)) (by repeat first | exact tn_ | apply td_ rfl | apply tc_ | exact .here | apply Take1.there) (by repeat (first | exact Subs.refl | refine Subs.skip ?_))
    · obtain rfl : e = e1 := by omega
      have c2' : ¬ ((a + e : Nat) : Int) < ((m + e : Nat) : Int) - 1 := by omega
      rw [hZe]
      repeat (first | (apply G.ex (hd := rfl); case h => (first | exact Ex.move rfl | exact Ex.sub rfl rfl (by omega) | exact Ex.lss rfl rfl)) | refine G.nil ?_ | refine GC.seq ?_ | refine GC.region ?_ | refine GC.ret ?_ | refine GC.exit ?_ | refine GE.then_normal ?_ | refine GE.then_ret ?_ | refine GE.then_exit ?_ | refine GE.block_hit ?_ | refine GC.cond_no rfl (by first | assumption | omega) ?_)
      refine GE.ret (by first | exact .inl rfl | exact .inr rfl) (res0 Try.results37) ⟨_, hp, hW, rfl⟩ (by repeat first | exact tn_ | apply td_ rfl | apply tc_ | exact .here | apply Take1.there) (by repeat (first | exact Subs.refl | refine Subs.skip ?_))
set_option maxHeartbeats 16000000 in
theorem merge_right (kb : Nat) (la : Option Addr) (ln lc : Nat) (Ls : List Int) (hl : Ls.length = ln) (da : Option Addr) (dc N : Nat) (hN2 : N ≤ 1000000) (v : Nat) (P U Q : List Nat) (a m b : Nat) (hU0 : 1 < U.length) (ha : P.length = a) (hm : a + U.length = m) (hb : m + 1 = b) (hN : (P ++ (U ++ ([v] ++ Q))).length = N)
    (hU : Srt (key Ls) U) (sp : ∀ u ∈ U, u < v) (hv : v < ln) (hin : ∀ x ∈ U, x < ln) : MSpec kb la ln lc Ls da dc N P U [v] Q a m b := by
  obtain ⟨Z, hZ⟩ : ∃ Z, P ++ (U ++ Q) = Z := ⟨_, rfl⟩
  have hZm : ∀ e, e ≤ U.length → insZ Z (a + e) v = P ++ ((U.take e ++ v :: U.drop e) ++ Q) := fun e he => by rw [← hZ, ← ha, insZ_mid P U Q v e he]
  have hZ0 : P ++ (U ++ ([v] ++ Q)) = insZ Z (a + U.length) v := by rw [hZm U.length (Nat.le_refl _), List.take_length, List.drop_length]; simp only [List.append_assoc, List.cons_append, List.nil_append]
  have hZl : Z.length + 1 = N := by rw [← hZ, ← hN]; simp only [List.length_append, List.length_singleton]; omega
  have hbN : b ≤ N := by rw [← hN]; simp only [List.length_append, List.length_singleton]; omega
  have hZa : ∀ e, e < U.length → Z.getD (a + e) default = U.getD e default := fun e he => by
    rw [← hZ, getD_app, if_neg (by omega), ha, Nat.add_sub_cancel_left, getD_app, if_pos he]
  unfold MSpec
  rw [hZ0]
  clear hZ hZ0 hN
  have c1 : ¬ (m : Int) - (a : Int) = 1 := by omega
  have c2 : (b : Int) - (m : Int) = 1 := by omega
  refine Spec.intro Try.func37 rfl Try.ntmps37 rfl fun w0 rest rs_ hrs_ => ?_
  simp only [List.cons_append, List.nil_append] at hrs_
  subst hrs_
  repeat (first | (apply G.ex (hd := rfl); case h => (first | exact Ex.move rfl | exact Ex.sub rfl rfl (by omega) | exact Ex.eqI rfl rfl | exact Ex.assign rfl)) | refine G.nil ?_ | refine GC.seq ?_ | refine GC.region ?_ | refine GC.block ?_ | refine GC.skip ?_ | refine GE.then_normal ?_ | refine GC.cond_yes rfl (by first | assumption | omega) ?_ | refine GC.cond_no rfl (by first | assumption | omega) ?_)
  rw [show (a : Int) = ((a + 0 : Nat) : Int) by omega, show (m : Int) = ((a + U.length : Nat) : Int) by omega]
  refine GC.loop (ι := Nat × Nat) (fun x => x.1 ≤ x.2 ∧ x.2 ≤ U.length ∧ (x.1 = 0 ∨ ¬ key Ls v < key Ls (U.getD (x.1 - 1) default)) ∧ (x.2 = U.length ∨ key Ls v < key Ls (U.getD x.2 default))) (fun x => x.2 - x.1) (fun x => [(0, .slice da N dc), (2, .int .i64 ((a + U.length : Nat) : Int)), (4, cmpV kb), (14, .int .i64 ((a + x.1 : Nat) : Int)), (15, .int .i64 ((a + x.2 : Nat) : Int))]) (fun x => [DR da N dc (insZ Z (a + U.length) v), KB kb la ln lc, LS la ln lc Ls]) (0, U.length) ⟨Nat.zero_le _, Nat.le_refl _, .inl rfl, .inl rfl⟩ (by simp only [fits]; repeat (first | exact trivial | refine And.intro rfl ?_)) (by repeat first | exact tn_ | apply td_ rfl | apply tc_ | exact .here | apply Take1.there) ?_
  rintro ⟨e1, e2⟩ ⟨he1, he2, hf1, hf2⟩ fr_ rs_ hfr_ hrs_
  simp only [List.cons_append, List.nil_append] at hfr_ hrs_
  subst hfr_ hrs_
  simp only at he1 he2 hf1 hf2
  by_cases c : e1 < e2
  · obtain ⟨h, hh⟩ : ∃ h, (e1 + e2) / 2 = h := ⟨_, rfl⟩
    have hhl : e1 ≤ h ∧ h < e2 := by omega
    have c' : ((a + e1 : Nat) : Int) < ((a + e2 : Nat) : Int) := by omega
    have hxu : (insZ Z (a + U.length) v).getD (a + U.length) default = v := by rw [insZ_at v (by omega), if_neg (by omega), if_pos rfl]
    have hxv : (insZ Z (a + U.length) v).getD (a + h) default = U.getD h default := by rw [insZ_at v (by omega), if_pos (by omega), hZa h (by omega)]
    have hil := insZ_len (Z := Z) (c := a + U.length) v (by omega)
    have hgu := at_eN (i := a + U.length) (by omega) hxu
    have hgv := at_eN (i := a + h) (by omega) hxv
    have ha1 : a + U.length < N := by omega
    have hh1 : a + h < N := by omega
    have hvl : U.getD h default < ln := hin _ (getD_mem' (by omega))
    clear hxu hxv hZm hZa hin hU sp
    repeat (first | (apply G.ex (hd := rfl); case h => (first | exact Ex.move rfl | exact Ex.add rfl rfl (by omega) | exact Ex.lss rfl rfl)) | refine G.nil ?_ | refine GC.seq ?_ | refine GC.region ?_ | refine GC.block ?_ | refine GC.skip ?_ | refine GE.then_normal ?_ | refine GC.cond_yes rfl (by first | assumption | omega) ?_)
    refine G.ex (hd := rfl) (Ex.convU rfl (by omega)) ?_
    refine G.ex (hd := rfl) (Ex.shr1u rfl rfl) ?_
    rw [half_cast, show (a + e1 + (a + e2)) / 2 = a + h by omega]
    repeat (first | (apply G.ex (hd := rfl); case h => (first | exact Ex.assign rfl | exact Ex.conv64 rfl (by omega))) | refine G.nil ?_ | refine GC.seq ?_ | refine GE.then_normal ?_)
    refine GC.vecSome (List.mem_cons_self ..) (by omega) fun q hq => ?_
    subst hq
    refine GC.drawA [] [DR (some q) N dc (insZ Z (a + U.length) v)] (by repeat first | exact tn_ | apply td_ rfl | apply tc_ | exact .here | apply Take1.there) (by kernel_rfl) ?_
    first | (apply GA.take [] (hD := .inl rfl) (hsub := ⟨_, Takes.nil⟩) (i := 0) (hi := rfl) (hs := by kernel_rfl) (hfr := by kernel_rfl) (hr := by kernel_rfl) (hQ := np_) (hd := rfl); case hx => (first | exact Ex.move rfl))
    first | (apply GA.take [] (hD := .inl rfl) (hsub := ⟨_, Takes.nil⟩) (i := 1) (hi := rfl) (hs := by kernel_rfl) (hfr := by kernel_rfl) (hr := by kernel_rfl) (hQ := np_) (hd := rfl); case hx => (first | exact Ex.move rfl))
    first | (apply GA.take [] (hD := .inl rfl) (hsub := ⟨_, Takes.nil⟩) (i := 2) (hi := rfl) (hs := by kernel_rfl) (hfr := by kernel_rfl) (hr := by kernel_rfl) (hQ := np_) (hd := rfl); case hx => (first | exact Ex.move rfl))
    first | (apply GA.take [] (hD := .inl rfl) (hsub := ⟨_, Takes.nil⟩) (i := 5) (hi := rfl) (hs := by kernel_rfl) (hfr := by kernel_rfl) (hr := by kernel_rfl) (hQ := np_) (hd := rfl); case hx => (first | exact Ex.move rfl))
    first | (apply GA.take [] (hD := .inl rfl) (hsub := ⟨_, Takes.nil⟩) (i := 6) (hi := rfl) (hs := by kernel_rfl) (hfr := by kernel_rfl) (hr := by kernel_rfl) (hQ := np_) (hd := rfl); case hx => (first | exact Ex.move rfl))
    apply GA.take [] (hD := .inl rfl) (hsub := ⟨_, Takes.nil⟩) (i := 3) (hi := rfl) (hs := by kernel_rfl) (hfr := by kernel_rfl) (hr := by kernel_rfl) (hQ := np_) (hd := rfl) (hx := (Ex.indexSome (k := a + U.length) rfl rfl ha1))
    apply GA.take _ (hD := .inr ⟨rfl, by kernel_rfl⟩) (hsub := ⟨_, (by repeat first | exact tn_ | apply td_ rfl | apply tc_ | exact .here | apply Take1.there)⟩) (i := 4) (hi := rfl) (hs := by kernel_rfl) (hfr := by kernel_rfl) (hr := by kernel_rfl) (hQ := np_) (hd := rfl) (hx := (Ex.loadE (k := (a + U.length) * 1) rfl hgu))
    apply GA.take [] (hD := .inl rfl) (hsub := ⟨_, Takes.nil⟩) (i := 7) (hi := rfl) (hs := by kernel_rfl) (hfr := by kernel_rfl) (hr := by kernel_rfl) (hQ := np_) (hd := rfl) (hx := (Ex.indexSome (k := a + h) rfl rfl hh1))
    apply GA.take _ (hD := .inr ⟨rfl, by kernel_rfl⟩) (hsub := ⟨_, (by repeat first | exact tn_ | apply td_ rfl | apply tc_ | exact .here | apply Take1.there)⟩) (i := 8) (hi := rfl) (hs := by kernel_rfl) (hfr := by kernel_rfl) (hr := by kernel_rfl) (hQ := np_) (hd := rfl) (hx := (Ex.loadE (k := (a + h) * 1) rfl hgv))
    refine GA.one (i := 9) (by kernel_rfl) rfl ?_
    first | refine G.call (order1_sp kb la ln lc Ls hl v (U.getD h default) hv hvl) rfl rfl rfl rfl (by repeat first | exact tn_ | apply td_ rfl | apply tc_ | exact .here | apply Take1.there) ?_ | refine G.callU (order1_sp kb la ln lc Ls hl v (U.getD h default) hv hvl) rfl rfl rfl (by repeat first | exact tn_ | apply td_ rfl | apply tc_ | exact .here | apply Take1.there) ?_
    rintro v_ give_ ⟨rfl, rfl⟩ rs_ hrs_
    simp only [List.cons_append, List.nil_append] at hrs_
    subst hrs_
    try refine G.nil ?_
    refine GA.back (by first | exact .inl (by decide) | exact .inr ⟨_, (by repeat first | exact tn_ | apply td_ rfl | apply tc_ | exact .here | apply Take1.there)⟩) ?_
    first | (apply GA.take [] (hD := .inl rfl) (hsub := ⟨_, Takes.nil⟩) (i := 10) (hi := rfl) (hs := by kernel_rfl) (hfr := by kernel_rfl) (hr := by kernel_rfl) (hQ := np_) (hd := rfl); case hx => (first | exact Ex.lss rfl rfl))
    rw [cmp3_lt]
    first | (apply GA.take [] (hD := .inl rfl) (hsub := ⟨_, Takes.nil⟩) (i := 11) (hi := rfl) (hs := by kernel_rfl) (hfr := by kernel_rfl) (hr := by kernel_rfl) (hQ := np_) (hd := rfl); case hx => (first | exact Ex.notD rfl))
    refine GA.done (by kernel_rfl) ?_
    by_cases ck : key Ls v < key Ls (U.getD h default)
    · have ck' : ¬ ¬ key Ls v < key Ls (U.getD h default) := fun k => k ck
      repeat (first | (apply G.ex (hd := rfl); case h => (first | exact Ex.move rfl | exact Ex.assign rfl)) | refine G.nil ?_ | refine GC.region ?_ | refine GE.then_normal ?_ | refine GE.block_normal ?_ | refine GC.cond_no rfl (by first | assumption | omega) ?_)
      refine GE.loop (e1, h) ⟨by simp only; omega, by simp only; omega, hf1, .inr ck⟩ (by simp only; omega) (by simp only [fits]; repeat (first | exact trivial | refine And.intro rfl ?_)) (by repeat first | exact tn_ | apply td_ rfl | apply tc_ | exact .here | apply Take1.there) (by repeat (first | exact Subs.refl | refine Subs.skip ?_))
    · repeat (first | (apply G.ex (hd := rfl); case h => (first | exact Ex.move rfl | exact Ex.add rfl rfl (by omega) | exact Ex.assign rfl)) | refine G.nil ?_ | refine GC.region ?_ | refine GE.then_normal ?_ | refine GE.block_normal ?_ | refine GC.cond_yes rfl (by first | assumption | omega) ?_)
      rw [show ((a + h : Nat) : Int) + 1 = ((a + (h + 1) : Nat) : Int) by omega]
      refine GE.loop (h + 1, e2) ⟨by simp only; omega, he2, .inr ck, hf2⟩ (by simp only; omega) (by simp only [fits]; repeat (first | exact trivial | refine And.intro rfl ?_)) (by repeat first | exact tn_ | apply td_ rfl | apply tc_ | exact .here | apply Take1.there) (by repeat (first | exact Subs.refl | refine Subs.skip ?_))
  · obtain rfl : e1 = e2 := by omega
    have c' : ¬ ((a + e1 : Nat) : Int) < ((a + e1 : Nat) : Int) := by omega
    have hW := put_right hU sp e1 he2 hf1 hf2
    have hp : (U.take e1 ++ v :: U.drop e1).Perm (U ++ [v]) := (ins_perm U v e1).trans (List.perm_append_singleton v U).symm
    have hZe := hZm e1 he2
    clear hZm hf1 hf2 hU sp hin
    repeat (first | (apply G.ex (hd := rfl); case h => (first | exact Ex.move rfl | exact Ex.lss rfl rfl | exact Ex.assign rfl)) | refine G.nil ?_ | refine GC.seq ?_ | refine GC.region ?_ | refine GC.block ?_ | refine GC.exit ?_ | refine GE.then_normal ?_ | refine GE.then_exit ?_ | refine GE.block_hit ?_ | refine GC.cond_no rfl (by first | assumption | omega) ?_)
    refine GC.loop (ι := Nat) (fun e => e1 ≤ e ∧ e ≤ U.length) (fun e => e) (fun e => [(0, .slice da N dc), (14, .int .i64 ((a + e1 : Nat) : Int)), (17, .int .i64 ((a + e : Nat) : Int))]) (fun e => [DR da N dc (insZ Z (a + e) v), KB kb la ln lc]) U.length ⟨he2, Nat.le_refl _⟩ (by simp only [fits]; repeat (first | exact trivial | refine And.intro rfl ?_)) (by repeat first | exact tn_ | apply td_ rfl | apply tc_ | exact .here | apply Take1.there) ?_
    rintro e he fr_ rs_ hfr_ hrs_
    simp only [List.cons_append, List.nil_append] at hfr_ hrs_
    subst hfr_ hrs_
    by_cases c3 : e1 < e
    · obtain ⟨k, rfl⟩ : ∃ k, e = k + 1 := ⟨e - 1, by omega⟩
      have c3' : ((a + (k + 1) : Nat) : Int) > ((a + e1 : Nat) : Int) := by omega
      have hx_ : (insZ Z (a + (k + 1)) v).getD (a + (k + 1)) default = v := by rw [insZ_at v (by omega), if_neg (by omega), if_pos rfl]
      have hy_ : (insZ Z (a + (k + 1)) v).getD (a + k) default = Z.getD (a + k) default := by rw [insZ_at v (by omega), if_pos (by omega)]
      have hsw : ((insZ Z (a + (k + 1)) v).set (a + (k + 1)) (Z.getD (a + k) default)).set (a + k) v = insZ Z (a + k) v := by
        have := insZ_left (Z := Z) (c := a + k) v (by omega)
        unfold huff.swp at this
        rw [show a + k + 1 = a + (k + 1) by omega, hx_, hy_] at this
        exact this
      have hil := insZ_len (Z := Z) (c := a + (k + 1)) v (by omega)
      have hgj := at_eN (i := a + (k + 1)) (by omega) hx_
      have hgi := at_eN (i := a + k) (by omega) hy_
      have hj1 : a + (k + 1) < N := by omega
      have hi1 : a + k < N := by omega
      clear hx_ hy_ hZa hW hp hZe
      repeat (first | (apply G.ex (hd := rfl); case h => (first | exact Ex.move rfl | exact Ex.gtr rfl rfl)) | refine G.nil ?_ | refine GC.seq ?_ | refine GC.region ?_ | refine GC.block ?_ | refine GC.skip ?_ | refine GE.then_normal ?_ | refine GC.cond_yes rfl (by first | assumption | omega) ?_)
      refine GC.vecSome (List.mem_cons_self ..) (by omega) fun q hq => ?_
      subst hq
      refine GC.drawA [15, 17] [DR (some q) N dc (insZ Z (a + (k + 1)) v)] (by repeat first | exact tn_ | apply td_ rfl | apply tc_ | exact .here | apply Take1.there) (by kernel_rfl) ?_
      first | (apply GA.take [] (hD := .inl rfl) (hsub := ⟨_, Takes.nil⟩) (i := 0) (hi := rfl) (hs := by kernel_rfl) (hfr := by kernel_rfl) (hr := by kernel_rfl) (hQ := np_) (hd := rfl); case hx => (first | exact Ex.move rfl))
      first | (apply GA.take [] (hD := .inl rfl) (hsub := ⟨_, Takes.nil⟩) (i := 1) (hi := rfl) (hs := by kernel_rfl) (hfr := by kernel_rfl) (hr := by kernel_rfl) (hQ := np_) (hd := rfl); case hx => (first | exact Ex.move rfl))
      first | (apply GA.take [] (hD := .inl rfl) (hsub := ⟨_, Takes.nil⟩) (i := 2) (hi := rfl) (hs := by kernel_rfl) (hfr := by kernel_rfl) (hr := by kernel_rfl) (hQ := np_) (hd := rfl); case hx => (first | exact Ex.move rfl))
      first | (apply GA.take [] (hD := .inl rfl) (hsub := ⟨_, Takes.nil⟩) (i := 3) (hi := rfl) (hs := by kernel_rfl) (hfr := by kernel_rfl) (hr := by kernel_rfl) (hQ := np_) (hd := rfl); case hx => (first | exact Ex.move rfl))
      first | (apply GA.take [] (hD := .inl rfl) (hsub := ⟨_, Takes.nil⟩) (i := 4) (hi := rfl) (hs := by kernel_rfl) (hfr := by kernel_rfl) (hr := by kernel_rfl) (hQ := np_) (hd := rfl); case hx => (first | exact Ex.sub rfl rfl (by omega)))
      first | (apply GA.take [] (hD := .inl rfl) (hsub := ⟨_, Takes.nil⟩) (i := 5) (hi := rfl) (hs := by kernel_rfl) (hfr := by kernel_rfl) (hr := by kernel_rfl) (hQ := np_) (hd := rfl); case hx => (first | exact Ex.move rfl))
      first | (apply GA.take [] (hD := .inl rfl) (hsub := ⟨_, Takes.nil⟩) (i := 6) (hi := rfl) (hs := by kernel_rfl) (hfr := by kernel_rfl) (hr := by kernel_rfl) (hQ := np_) (hd := rfl); case hx => (first | exact Ex.move rfl))
      first | (apply GA.take [] (hD := .inl rfl) (hsub := ⟨_, Takes.nil⟩) (i := 7) (hi := rfl) (hs := by kernel_rfl) (hfr := by kernel_rfl) (hr := by kernel_rfl) (hQ := np_) (hd := rfl); case hx => (first | exact Ex.sub rfl rfl (by omega)))
      first | (apply GA.take [] (hD := .inl rfl) (hsub := ⟨_, Takes.nil⟩) (i := 10) (hi := rfl) (hs := by kernel_rfl) (hfr := by kernel_rfl) (hr := by kernel_rfl) (hQ := np_) (hd := rfl); case hx => (first | exact Ex.move rfl))
      first | (apply GA.take [] (hD := .inl rfl) (hsub := ⟨_, Takes.nil⟩) (i := 11) (hi := rfl) (hs := by kernel_rfl) (hfr := by kernel_rfl) (hr := by kernel_rfl) (hQ := np_) (hd := rfl); case hx => (first | exact Ex.move rfl))
      rw [show ((a + (k + 1) : Nat) : Int) - 1 = ((a + k : Nat) : Int) by omega]
      apply GA.take [] (hD := .inl rfl) (hsub := ⟨_, Takes.nil⟩) (i := 8) (hi := rfl) (hs := by kernel_rfl) (hfr := by kernel_rfl) (hr := by kernel_rfl) (hQ := np_) (hd := rfl) (hx := (Ex.indexSome (k := a + k) rfl rfl hi1))
      apply GA.take _ (hD := .inr ⟨rfl, by kernel_rfl⟩) (hsub := ⟨_, (by repeat first | exact tn_ | apply td_ rfl | apply tc_ | exact .here | apply Take1.there)⟩) (i := 9) (hi := rfl) (hs := by kernel_rfl) (hfr := by kernel_rfl) (hr := by kernel_rfl) (hQ := np_) (hd := rfl) (hx := (Ex.loadE (k := (a + k) * 1) rfl hgi))
      apply GA.take [] (hD := .inl rfl) (hsub := ⟨_, Takes.nil⟩) (i := 12) (hi := rfl) (hs := by kernel_rfl) (hfr := by kernel_rfl) (hr := by kernel_rfl) (hQ := np_) (hd := rfl) (hx := (Ex.indexSome (k := a + (k + 1)) rfl rfl hj1))
      apply GA.take _ (hD := .inr ⟨rfl, by kernel_rfl⟩) (hsub := ⟨_, (by repeat first | exact tn_ | apply td_ rfl | apply tc_ | exact .here | apply Take1.there)⟩) (i := 13) (hi := rfl) (hs := by kernel_rfl) (hfr := by kernel_rfl) (hr := by kernel_rfl) (hQ := np_) (hd := rfl) (hx := (Ex.loadE (k := (a + (k + 1)) * 1) rfl hgj))
      apply GA.take [] (hD := .inl rfl) (hsub := ⟨_, Takes.nil⟩) (i := 14) (hi := rfl) (hs := by kernel_rfl) (hfr := by kernel_rfl) (hr := by kernel_rfl) (hQ := np_) (hd := rfl) (hx := (Ex.indexSome (k := a + (k + 1)) rfl rfl hj1))
      refine GA.one (i := 15) (by kernel_rfl) rfl ?_
      first | refine G.storeT0 rfl rfl rfl rfl (by first | omega | (simp; omega)) rfl ((Z.getD (a + k) default)) (rfl) (fun rs_ hrs_ => ?_) | refine G.storeT rfl rfl rfl rfl (by first | omega | (simp; omega)) rfl ((Z.getD (a + k) default)) (rfl) (fun rs_ hrs_ => ?_) | refine G.storeTA rfl rfl (by first | omega | (simp; omega)) rfl ((Z.getD (a + k) default)) (rfl) (fun rs_ hrs_ => ?_)
      try simp only at hrs_
      subst hrs_
      try refine G.nil ?_
      refine GA.back (by first | exact .inl (by decide) | exact .inr ⟨_, (by repeat first | exact tn_ | apply td_ rfl | apply tc_ | exact .here | apply Take1.there)⟩) ?_
      apply GA.take [] (hD := .inl rfl) (hsub := ⟨_, Takes.nil⟩) (i := 16) (hi := rfl) (hs := by kernel_rfl) (hfr := by kernel_rfl) (hr := by kernel_rfl) (hQ := np_) (hd := rfl) (hx := (Ex.indexSome (k := a + k) rfl rfl hi1))
      refine GA.one (i := 17) (by kernel_rfl) rfl ?_
      first | refine G.storeT0 rfl rfl rfl rfl (by first | omega | (simp; omega)) rfl (v) (rfl) (fun rs_ hrs_ => ?_) | refine G.storeT rfl rfl rfl rfl (by first | omega | (simp; omega)) rfl (v) (rfl) (fun rs_ hrs_ => ?_) | refine G.storeTA rfl rfl (by first | omega | (simp; omega)) rfl (v) (rfl) (fun rs_ hrs_ => ?_)
      try simp only at hrs_
      subst hrs_
      try refine G.nil ?_
      refine GA.back (by first | exact .inl (by decide) | exact .inr ⟨_, (by repeat first | exact tn_ | apply td_ rfl | apply tc_ | exact .here | apply Take1.there)⟩) ?_
      refine GA.done (by kernel_rfl) ?_
      rw [hsw]
      repeat (first | (apply G.ex (hd := rfl); case h => (first | exact Ex.move rfl | exact Ex.sub rfl rfl (by omega) | exact Ex.assign rfl)) | refine G.nil ?_ | refine GC.region ?_ | refine GE.then_normal ?_ | refine GE.block_normal ?_)
      rw [show ((a + (k + 1) : Nat) : Int) - 1 = ((a + k : Nat) : Int) by omega]
      refine GE.loop k (by omega) (by omega) (by simp only [fits]; repeat (first | exact trivial | refine And.intro rfl ?_)) (by repeat first | exact tn_ | apply td_ rfl | apply tc_ | exact .here | apply Take1.there) (by repeat (first | exact Subs.refl | refine Subs.skip ?_))
    · obtain rfl : e = e1 := by omega
      have c3' : ¬ ((a + e : Nat) : Int) > ((a + e : Nat) : Int) := by omega
      rw [hZe]
      repeat (first | (apply G.ex (hd := rfl); case h => (first | exact Ex.move rfl | exact Ex.gtr rfl rfl)) | refine G.nil ?_ | refine GC.seq ?_ | refine GC.region ?_ | refine GC.ret ?_ | refine GC.exit ?_ | refine GE.then_normal ?_ | refine GE.then_ret ?_ | refine GE.then_exit ?_ | refine GE.block_hit ?_ | refine GC.cond_no rfl (by first | assumption | omega) ?_)
      refine GE.ret (by first | exact .inl rfl | exact .inr rfl) (res0 Try.results37) ⟨_, hp, hW, rfl⟩ (by repeat first | exact tn_ | apply td_ rfl | apply tc_ | exact .here | apply Take1.there) (by repeat (first | exact Subs.refl | refine Subs.skip ?_))
end sort
end Go.Proofs.Ytfkgchdbjfbdaaa
