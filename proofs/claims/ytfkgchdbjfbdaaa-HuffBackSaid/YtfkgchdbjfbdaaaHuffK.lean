/-
  CONTRACTS of packthreadkeep.Counts, sameInts and lengthsOf, by the kit.
-/
import Derived.Test.YtfkgchdbjfbdaaaHuffC
namespace Go.Proofs.Ytfkgchdbjfbdaaa
open Go.RowKit
attribute [local irreducible] Ex G GC GE Gq FPost LPost
set_option linter.unusedVariables false
set_option linter.unusedSimpArgs false
namespace huff
def mods : List Int := [3, 10, 100, 5000]
def cntF (z : Int) : Int := z % mods.getD ((z.tdiv 7) % 4).toNat default
theorem mods_at (k : Nat) (h : k < 4) : 3 ≤ mods.getD k default ∧ mods.getD k default ≤ 5000 := by
  have : k = 0 ∨ k = 1 ∨ k = 2 ∨ k = 3 := by omega
  rcases this with rfl | rfl | rfl | rfl <;> decide
theorem cntF_in (z : Int) : 0 ≤ cntF z ∧ cntF z < 5000 := by
  have h0 := Int.emod_nonneg (z.tdiv 7) (show (4 : Int) ≠ 0 by decide)
  have h1 := Int.emod_lt_of_pos (z.tdiv 7) (show (0 : Int) < 4 by decide)
  obtain ⟨a, b⟩ := mods_at ((z.tdiv 7) % 4).toNat (by omega)
  unfold cntF
  have h2 := Int.emod_nonneg z (show mods.getD ((z.tdiv 7) % 4).toNat default ≠ 0 by omega)
  have h3 := Int.emod_lt_of_pos z (show 0 < mods.getD ((z.tdiv 7) % 4).toNat default by omega)
  omega
set_option maxHeartbeats 16000000 in
theorem counts_sp (ao : Option Addr) (n c : Nat) (l : List Int) (hl : l.length = n) (hn : n ≤ 9223372036854775807) (hw : ∀ z ∈ l, -9223372036854775808 ≤ z ∧ z ≤ 9223372036854775807) (N : Nat) (hN : N ≤ 64) :
    Spec Try.prog 9 [.slice ao n c, .int .i64 (N : Int)] [.sl ao n c 1 (flat (eI .i64) l)] fun v give => ∃ (C : List Int) (oa : Option Addr) (oc : Nat), C = (l.take N).map cntF ∧ v = .slice oa C.length oc ∧ give = [.vec 3 1 oa C.length oc (flat (eI .i64) C)] := by
  refine Spec.intro Try.func9 rfl Try.ntmps9 rfl fun w0 rest rs_ hrs_ => ?_
  simp only [List.cons_append, List.nil_append] at hrs_
  subst hrs_
  repeat (first | (apply G.ex (hd := rfl); case h => (first | exact Ex.assign rfl)) | refine G.nil ?_ | refine GC.seq ?_ | refine GC.region ?_ | refine GC.block ?_ | refine GE.then_normal ?_)
  refine GC.nilvec 3 1 ?_
  repeat (first | fail)
  refine GC.loop (ι := Nat × List Int × Option Addr × Nat) (fun x => x.1 ≤ n ∧ x.1 ≤ N ∧ x.2.1 = (l.take x.1).map cntF ∧ x.2.1.length = x.1) (fun x => N - x.1) (fun x => [(0, .slice ao n c), (1, .int .i64 (N : Int)), (5, .slice x.2.2.1 x.1 x.2.2.2), (6, .int .i64 (x.1 : Int))]) (fun x => [.vec 3 1 x.2.2.1 x.1 x.2.2.2 (flat (eI .i64) x.2.1), .sl ao n c 1 (flat (eI .i64) l)]) (0, [], none, 0) ⟨Nat.zero_le _, Nat.zero_le _, rfl, rfl⟩ (by simp only [fits]; repeat (first | exact trivial | refine And.intro rfl ?_)) (by repeat first | exact tn_ | apply td_ rfl | apply tc_ | exact .here | apply Take1.there) ?_
  rintro ⟨i, A, oa, oc⟩ ⟨hi, hiN, hA, hAl⟩ fr_ rs_ hfr_ hrs_
  simp only [List.cons_append, List.nil_append] at hfr_ hrs_
  subst hfr_ hrs_
  simp only at hi hiN hA hAl
  by_cases h1 : i < n
  · by_cases h2 : i < N
    · have hz := hw (l.getD i default) (by rw [List.getD_eq_getElem?_getD, List.getElem?_eq_getElem (by omega)]; exact List.getElem_mem _)
      have hts : (l.take (i + 1)).map cntF = (l.take i).map cntF ++ [cntF (l.getD i default)] := by
        rw [List.take_succ_eq_append_getElem (by omega), List.map_append, List.getD_eq_getElem?_getD, List.getElem?_eq_getElem (by omega)]; rfl
      have hgi : (flat (eI .i64) l)[i * 1 + 0]? = some (.int .i64 (l.getD i default)) := flat_at (inferInstance : Enc (eI .i64) 1) l i 0 (by omega) (by decide)
      repeat (first | (apply G.ex (hd := rfl); case h => (first | exact Ex.move rfl | exact Ex.lss rfl rfl | exact Ex.lenSl rfl | exact Ex.pickT rfl (by first | assumption | omega) rfl)) | refine G.g_tt rfl rfl (by first | assumption | omega) ?_ | refine G.nil ?_ | refine GC.seq ?_ | refine GC.region ?_ | refine GC.block ?_ | refine GC.skip ?_ | refine GE.then_normal ?_ | refine GC.cond_yes rfl (by first | assumption | omega) ?_)
      generalize l.getD i default = z at *
      have h0 := Int.emod_nonneg (z.tdiv 7) (show (4 : Int) ≠ 0 by decide)
      have h4 := Int.emod_lt_of_pos (z.tdiv 7) (show (0 : Int) < 4 by decide)
      obtain ⟨k, hk⟩ : ∃ k : Nat, z.tdiv 7 % 4 = (k : Int) := ⟨(z.tdiv 7 % 4).toNat, by omega⟩
      have hm := mods_at k (by omega)
      have hml : k < mods.length := by show k < 4; omega
      have hc : cntF z = z % mods.getD k default := by unfold cntF; rw [hk]; rfl
      have hcat : flat (eI .i64) A ++ flat (eI .i64) [cntF z] = flat (eI .i64) (A ++ [cntF z]) := (flat_append ..).symm
      refine GC.drawA [] [.sl ao n c 1 (flat (eI .i64) l)] (by repeat first | exact tn_ | apply td_ rfl | apply tc_ | exact .here | apply Take1.there) (by kernel_rfl) ?_
      first | (apply GA.take [] (hD := .inl rfl) (hsub := ⟨_, Takes.nil⟩) (i := 0) (hi := rfl) (hs := by kernel_rfl) (hfr := by kernel_rfl) (hr := by kernel_rfl) (hQ := np_) (hd := rfl); case hx => (first | exact Ex.move rfl))
      first | (apply GA.take [] (hD := .inl rfl) (hsub := ⟨_, Takes.nil⟩) (i := 1) (hi := rfl) (hs := by kernel_rfl) (hfr := by kernel_rfl) (hr := by kernel_rfl) (hQ := np_) (hd := rfl); case hx => (first | exact Ex.move rfl))
      first | (apply GA.take [] (hD := .inl rfl) (hsub := ⟨_, Takes.nil⟩) (i := 2) (hi := rfl) (hs := by kernel_rfl) (hfr := by kernel_rfl) (hr := by kernel_rfl) (hQ := np_) (hd := rfl); case hx => (first | exact Ex.move rfl))
      first | (apply GA.take _ (hD := .inr ⟨rfl, by kernel_rfl⟩) (hsub := ⟨_, (by repeat first | exact tn_ | apply td_ rfl | apply tc_ | exact .here | apply Take1.there)⟩) (i := 3) (hi := rfl) (hs := by kernel_rfl) (hfr := by kernel_rfl) (hr := by kernel_rfl) (hQ := np_) (hd := rfl); case hx => (first | exact Ex.indexN rfl rfl (by first | omega | (simp; done) | (simp; omega))))
      apply GA.take _ (hD := .inr ⟨rfl, by kernel_rfl⟩) (hsub := ⟨_, (by repeat first | exact tn_ | apply td_ rfl | apply tc_ | exact .here | apply Take1.there)⟩) (i := 4) (hi := rfl) (hs := by kernel_rfl) (hfr := by kernel_rfl) (hr := by kernel_rfl) (hQ := np_) (hd := rfl) (hx := (Ex.loadE (k := i * 1) rfl hgi))
      first | (apply GA.take [] (hD := .inl rfl) (hsub := ⟨_, Takes.nil⟩) (i := 6) (hi := rfl) (hs := by kernel_rfl) (hfr := by kernel_rfl) (hr := by kernel_rfl) (hQ := np_) (hd := rfl); case hx => (first | exact Ex.move rfl))
      first | (apply GA.take [] (hD := .inl rfl) (hsub := ⟨_, Takes.nil⟩) (i := 7) (hi := rfl) (hs := by kernel_rfl) (hfr := by kernel_rfl) (hr := by kernel_rfl) (hQ := np_) (hd := rfl); case hx => (first | exact Ex.move rfl))
      first | (apply GA.take _ (hD := .inr ⟨rfl, by kernel_rfl⟩) (hsub := ⟨_, (by repeat first | exact tn_ | apply td_ rfl | apply tc_ | exact .here | apply Take1.there)⟩) (i := 8) (hi := rfl) (hs := by kernel_rfl) (hfr := by kernel_rfl) (hr := by kernel_rfl) (hQ := np_) (hd := rfl); case hx => (first | exact Ex.indexN rfl rfl (by first | omega | (simp; done) | (simp; omega))))
      apply GA.take _ (hD := .inr ⟨rfl, by kernel_rfl⟩) (hsub := ⟨_, (by repeat first | exact tn_ | apply td_ rfl | apply tc_ | exact .here | apply Take1.there)⟩) (i := 9) (hi := rfl) (hs := by kernel_rfl) (hfr := by kernel_rfl) (hr := by kernel_rfl) (hQ := np_) (hd := rfl) (hx := (Ex.loadE (k := i * 1) rfl hgi))
      first | (apply GA.take [] (hD := .inl rfl) (hsub := ⟨_, Takes.nil⟩) (i := 10) (hi := rfl) (hs := by kernel_rfl) (hfr := by kernel_rfl) (hr := by kernel_rfl) (hQ := np_) (hd := rfl); case hx => (first | exact Ex.quotB rfl rfl (by omega)))
      refine GA.two (i := 5) (j := 11) (by kernel_rfl) rfl rfl ?_ ?_
      · refine G.lit (cells := flat (eI .i64) mods) rfl (by rfl) (by rfl) (by rfl) (by rfl) (by rfl) (by rfl) rfl (fun q => ?_)
        try refine G.nil ?_
        refine GA.back (by first | exact .inl (by decide) | exact .inr ⟨_, (by repeat first | exact tn_ | apply td_ rfl | apply tc_ | exact .here | apply Take1.there)⟩) ?_
        refine GA.one (i := 11) (by kernel_rfl) rfl ?_
        first | refine G.call (caps := []) (picked_sp (z.tdiv 7) 4 (by decide) (by decide)) rfl rfl rfl rfl (by repeat first | exact tn_ | apply td_ rfl | apply tc_ | exact .here | apply Take1.there) ?_ | refine G.callU (caps := []) (picked_sp (z.tdiv 7) 4 (by decide) (by decide)) rfl rfl rfl (by repeat first | exact tn_ | apply td_ rfl | apply tc_ | exact .here | apply Take1.there) ?_
        rintro v_ give_ ⟨rfl, rfl⟩ rs_ hrs_
        simp only [List.cons_append, List.nil_append] at hrs_
        subst hrs_
        rw [hk]
        try refine G.nil ?_
        refine GA.back (by first | exact .inl (by decide) | exact .inr ⟨_, (by repeat first | exact tn_ | apply td_ rfl | apply tc_ | exact .here | apply Take1.there)⟩) ?_
        refine GA.one (i := 12) (by kernel_rfl) rfl ?_
        (apply G.ex (hd := rfl); case h => (first | exact Ex.indexN rfl rfl (by first | omega | (simp; done) | (simp; omega))))
        try refine G.nil ?_
        refine GA.back (by first | exact .inl (by decide) | exact .inr ⟨_, (by repeat first | exact tn_ | apply td_ rfl | apply tc_ | exact .here | apply Take1.there)⟩) ?_
        refine GA.one (i := 13) (by kernel_rfl) rfl ?_
        (apply G.ex (hd := rfl); case h => (first | exact Ex.loadT0 rfl (by first | omega | (simp; done) | (simp; omega)) rfl))
        try refine G.nil ?_
        refine GA.back (by first | exact .inl (by decide) | exact .inr ⟨_, (by repeat first | exact tn_ | apply td_ rfl | apply tc_ | exact .here | apply Take1.there)⟩) ?_
        refine GA.one (i := 14) (by kernel_rfl) rfl ?_
        first | refine G.call (caps := []) (picked_sp z (mods.getD k default) (by omega) (by omega)) rfl rfl rfl rfl (by repeat first | exact tn_ | apply td_ rfl | apply tc_ | exact .here | apply Take1.there) ?_ | refine G.callU (caps := []) (picked_sp z (mods.getD k default) (by omega) (by omega)) rfl rfl rfl (by repeat first | exact tn_ | apply td_ rfl | apply tc_ | exact .here | apply Take1.there) ?_
        rintro v_ give_ ⟨rfl, rfl⟩ rs_ hrs_
        simp only [List.cons_append, List.nil_append] at hrs_
        subst hrs_
        rw [← hc]
        try refine G.nil ?_
        refine GA.back (by first | exact .inl (by decide) | exact .inr ⟨_, (by repeat first | exact tn_ | apply td_ rfl | apply tc_ | exact .here | apply Take1.there)⟩) ?_
        refine GA.one (i := 15) (by kernel_rfl) rfl ?_
        refine G.lit (cells := flat (eI .i64) [cntF z]) rfl (by rfl) (by rfl) (by rfl) (by rfl) (by rfl) (by rfl) rfl (fun q2 => ?_)
        try refine G.nil ?_
        refine GA.back (by first | exact .inl (by decide) | exact .inr ⟨_, (by repeat first | exact tn_ | apply td_ rfl | apply tc_ | exact .here | apply Take1.there)⟩) ?_
        refine GA.one (i := 16) (by kernel_rfl) rfl ?_
        refine G.app rfl rfl (by rfl) (by omega) rfl (hcat) (fun o2 c2 rs_ hrs_ => ?_)
        try simp only at hrs_
        subst hrs_
        try refine G.nil ?_
        refine GA.back (by first | exact .inl (by decide) | exact .inr ⟨_, (by repeat first | exact tn_ | apply td_ rfl | apply tc_ | exact .here | apply Take1.there)⟩) ?_
        first | (apply GA.take [] (hD := .inl rfl) (hsub := ⟨_, Takes.nil⟩) (i := 17) (hi := rfl) (hs := by kernel_rfl) (hfr := by kernel_rfl) (hr := by kernel_rfl) (hQ := np_) (hd := rfl); case hx => (first | exact Ex.assign rfl))
        refine GA.done (by kernel_rfl) ?_
        repeat (first | (apply G.ex (hd := rfl); case h => (first | exact Ex.move rfl | exact Ex.add rfl rfl (by omega) | exact Ex.assign rfl)) | refine G.nil ?_ | refine GC.region ?_ | refine GE.then_normal ?_ | refine GE.block_normal ?_)
        rw [show (i : Int) + 1 = ((i + 1 : Nat) : Int) by omega]
        refine GE.loop (i + 1, A ++ [cntF z], o2, c2) ⟨by simp only; omega, by simp only; omega, by simp only; rw [hA, hts], by simp only [List.length_append, hAl]; rfl⟩ (by simp only; omega) (by simp only [fits]; repeat (first | exact trivial | refine And.intro rfl ?_)) (by repeat first | exact tn_ | apply td_ rfl | apply tc_ | exact .here | apply Take1.there) (by repeat (first | exact Subs.refl | refine Subs.skip ?_))
      · first | refine G.call (caps := []) (picked_sp (z.tdiv 7) 4 (by decide) (by decide)) rfl rfl rfl rfl (by repeat first | exact tn_ | apply td_ rfl | apply tc_ | exact .here | apply Take1.there) ?_ | refine G.callU (caps := []) (picked_sp (z.tdiv 7) 4 (by decide) (by decide)) rfl rfl rfl (by repeat first | exact tn_ | apply td_ rfl | apply tc_ | exact .here | apply Take1.there) ?_
        rintro v_ give_ ⟨rfl, rfl⟩ rs_ hrs_
        simp only [List.cons_append, List.nil_append] at hrs_
        subst hrs_
        rw [hk]
        try refine G.nil ?_
        refine GA.back (by first | exact .inl (by decide) | exact .inr ⟨_, (by repeat first | exact tn_ | apply td_ rfl | apply tc_ | exact .here | apply Take1.there)⟩) ?_
        refine GA.one (i := 5) (by kernel_rfl) rfl ?_
        refine G.lit (cells := flat (eI .i64) mods) rfl (by rfl) (by rfl) (by rfl) (by rfl) (by rfl) (by rfl) rfl (fun q => ?_)
        try refine G.nil ?_
        refine GA.back (by first | exact .inl (by decide) | exact .inr ⟨_, (by repeat first | exact tn_ | apply td_ rfl | apply tc_ | exact .here | apply Take1.there)⟩) ?_
        refine GA.one (i := 12) (by kernel_rfl) rfl ?_
        (apply G.ex (hd := rfl); case h => (first | exact Ex.indexN rfl rfl (by first | omega | (simp; done) | (simp; omega))))
        try refine G.nil ?_
        refine GA.back (by first | exact .inl (by decide) | exact .inr ⟨_, (by repeat first | exact tn_ | apply td_ rfl | apply tc_ | exact .here | apply Take1.there)⟩) ?_
        refine GA.one (i := 13) (by kernel_rfl) rfl ?_
        (apply G.ex (hd := rfl); case h => (first | exact Ex.loadT0 rfl (by first | omega | (simp; done) | (simp; omega)) rfl))
        try refine G.nil ?_
        refine GA.back (by first | exact .inl (by decide) | exact .inr ⟨_, (by repeat first | exact tn_ | apply td_ rfl | apply tc_ | exact .here | apply Take1.there)⟩) ?_
        refine GA.one (i := 14) (by kernel_rfl) rfl ?_
        first | refine G.call (caps := []) (picked_sp z (mods.getD k default) (by omega) (by omega)) rfl rfl rfl rfl (by repeat first | exact tn_ | apply td_ rfl | apply tc_ | exact .here | apply Take1.there) ?_ | refine G.callU (caps := []) (picked_sp z (mods.getD k default) (by omega) (by omega)) rfl rfl rfl (by repeat first | exact tn_ | apply td_ rfl | apply tc_ | exact .here | apply Take1.there) ?_
        rintro v_ give_ ⟨rfl, rfl⟩ rs_ hrs_
        simp only [List.cons_append, List.nil_append] at hrs_
        subst hrs_
        rw [← hc]
        try refine G.nil ?_
        refine GA.back (by first | exact .inl (by decide) | exact .inr ⟨_, (by repeat first | exact tn_ | apply td_ rfl | apply tc_ | exact .here | apply Take1.there)⟩) ?_
        refine GA.one (i := 15) (by kernel_rfl) rfl ?_
        refine G.lit (cells := flat (eI .i64) [cntF z]) rfl (by rfl) (by rfl) (by rfl) (by rfl) (by rfl) (by rfl) rfl (fun q2 => ?_)
        try refine G.nil ?_
        refine GA.back (by first | exact .inl (by decide) | exact .inr ⟨_, (by repeat first | exact tn_ | apply td_ rfl | apply tc_ | exact .here | apply Take1.there)⟩) ?_
        refine GA.one (i := 16) (by kernel_rfl) rfl ?_
        refine G.app rfl rfl (by rfl) (by omega) rfl (hcat) (fun o2 c2 rs_ hrs_ => ?_)
        try simp only at hrs_
        subst hrs_
        try refine G.nil ?_
        refine GA.back (by first | exact .inl (by decide) | exact .inr ⟨_, (by repeat first | exact tn_ | apply td_ rfl | apply tc_ | exact .here | apply Take1.there)⟩) ?_
        first | (apply GA.take [] (hD := .inl rfl) (hsub := ⟨_, Takes.nil⟩) (i := 17) (hi := rfl) (hs := by kernel_rfl) (hfr := by kernel_rfl) (hr := by kernel_rfl) (hQ := np_) (hd := rfl); case hx => (first | exact Ex.assign rfl))
        refine GA.done (by kernel_rfl) ?_
        repeat (first | (apply G.ex (hd := rfl); case h => (first | exact Ex.move rfl | exact Ex.add rfl rfl (by omega) | exact Ex.assign rfl)) | refine G.nil ?_ | refine GC.region ?_ | refine GE.then_normal ?_ | refine GE.block_normal ?_)
        rw [show (i : Int) + 1 = ((i + 1 : Nat) : Int) by omega]
        refine GE.loop (i + 1, A ++ [cntF z], o2, c2) ⟨by simp only; omega, by simp only; omega, by simp only; rw [hA, hts], by simp only [List.length_append, hAl]; rfl⟩ (by simp only; omega) (by simp only [fits]; repeat (first | exact trivial | refine And.intro rfl ?_)) (by repeat first | exact tn_ | apply td_ rfl | apply tc_ | exact .here | apply Take1.there) (by repeat (first | exact Subs.refl | refine Subs.skip ?_))
    · obtain rfl : i = N := by omega
      repeat (first | (apply G.ex (hd := rfl); case h => (first | exact Ex.move rfl | exact Ex.lss rfl rfl | exact Ex.lenSl rfl | exact Ex.assign rfl | exact Ex.pickT rfl (by first | assumption | omega) rfl)) | refine G.g_tt rfl rfl (by first | assumption | omega) ?_ | refine G.nil ?_ | refine GC.seq ?_ | refine GC.region ?_ | refine GC.ret ?_ | refine GC.exit ?_ | refine GE.then_normal ?_ | refine GE.then_exit ?_ | refine GE.block_hit ?_ | refine GC.cond_no rfl (by first | assumption | omega) ?_)
      subst hAl
      refine GE.ret (by first | exact .inl rfl | exact .inr rfl) (res1 Try.results9 rfl) ⟨A, oa, oc, hA, rfl, rfl⟩ (by repeat first | exact tn_ | apply td_ rfl | apply tc_ | exact .here | apply Take1.there) (by repeat (first | exact Subs.refl | refine Subs.skip ?_))
  · obtain rfl : i = n := by omega
    rw [List.take_of_length_le (by omega)] at hA
    rw [← List.take_of_length_le (l := l) (i := N) (by omega)] at hA
    repeat (first | (apply G.ex (hd := rfl); case h => (first | exact Ex.move rfl | exact Ex.lss rfl rfl | exact Ex.lenSl rfl | exact Ex.assign rfl | exact Ex.pickF rfl (by first | assumption | omega) rfl)) | refine G.g_tf rfl rfl (by first | assumption | omega) rfl ?_ | refine G.nil ?_ | refine GC.seq ?_ | refine GC.region ?_ | refine GC.ret ?_ | refine GC.exit ?_ | refine GE.then_normal ?_ | refine GE.then_exit ?_ | refine GE.block_hit ?_ | refine GC.cond_f rfl ?_)
    subst hAl
    refine GE.ret (by first | exact .inl rfl | exact .inr rfl) (res1 Try.results9 rfl) ⟨A, oa, oc, hA, rfl, rfl⟩ (by repeat first | exact tn_ | apply td_ rfl | apply tc_ | exact .here | apply Take1.there) (by repeat (first | exact Subs.refl | refine Subs.skip ?_))
set_option maxHeartbeats 16000000 in
theorem sameInts_sp (r s : Res) (ao bo : Option Addr) (n c m d : Nat) (l l' : List Int) [hr : RdR r ao n c 1 (flat (eI .i64) l)] [hs : RdR s bo m d 1 (flat (eI .i64) l')] (hl : l.length = n) (hl' : l'.length = m) (hn : n ≤ 9223372036854775807) (hm : m ≤ 9223372036854775807) :
    Spec Try.prog 16 [.slice ao n c, .slice bo m d] [r, s] fun v give => v = .bool (decide (l = l')) ∧ give = [r, s] := by
  refine Spec.intro Try.func16 rfl Try.ntmps16 rfl fun w0 rest rs_ hrs_ => ?_
  simp only [List.cons_append, List.nil_append] at hrs_
  subst hrs_
  repeat (first | (apply G.ex (hd := rfl); case h => (first | exact Ex.move rfl | exact Ex.neI rfl rfl | exact Ex.lenSl rfl | exact Ex.assign rfl)) | refine G.nil ?_ | refine GC.seq ?_ | refine GC.region ?_ | refine GE.then_normal ?_)
  refine GC.cond_dec rfl (fun h => ?_) (fun h => ?_)
  · repeat (first | (apply G.ex (hd := rfl); case h => (first | exact Ex.assign rfl)) | refine G.nil ?_ | refine GC.seq ?_ | refine GC.region ?_ | refine GC.ret ?_ | refine GE.then_normal ?_ | refine GE.then_ret ?_)
    refine GE.ret (by first | exact .inl rfl | exact .inr rfl) (res1 Try.results16 rfl) ⟨congrArg Value.bool (decide_eq_false (fun e => h (by rw [← hl, ← hl', e]))).symm, rfl⟩ (by repeat first | exact tn_ | apply td_ rfl | apply tc_ | exact .here | apply Take1.there) (by repeat (first | exact Subs.refl | refine Subs.skip ?_))
  · have hnm : n = m := by omega
    subst hnm
    repeat (first | (apply G.ex (hd := rfl); case h => (first | exact Ex.assign rfl)) | refine G.nil ?_ | refine GC.seq ?_ | refine GC.region ?_ | refine GC.block ?_ | refine GC.skip ?_ | refine GE.then_normal ?_)
    refine GC.loop (ι := Nat) (fun k => k ≤ n ∧ l.take k = l'.take k) (fun k => n - k) (fun k => [(0, .slice ao n c), (1, .slice bo n d), (5, .int .i64 (k : Int))]) (fun k => [r, s]) 0 ⟨Nat.zero_le _, rfl⟩ (by simp only [fits]; repeat (first | exact trivial | refine And.intro rfl ?_)) (by repeat first | exact tn_ | apply td_ rfl | apply tc_ | exact .here | apply Take1.there) ?_
    rintro k ⟨hk, he⟩ fr_ rs_ hfr_ hrs_
    simp only [List.cons_append, List.nil_append] at hfr_ hrs_
    subst hfr_ hrs_
    repeat (first | (apply G.ex (hd := rfl); case h => (first | exact Ex.move rfl | exact Ex.lss rfl rfl | exact Ex.lenSl rfl)) | refine G.nil ?_ | refine GC.seq ?_ | refine GC.region ?_ | refine GE.then_normal ?_)
    refine GC.cond_dec rfl (fun hlt => ?_) (fun hlt => ?_)
    · have hlt : k < n := by omega
      repeat (first | (apply Gq.ex (hd := rfl); case h => (first | exact Ex.move rfl | exact Ex.neI rfl rfl | exact Ex.indexN rfl rfl (by first | omega | (simp; done) | (simp; omega)) | exact Ex.loadT0 rfl (by first | omega | (simp; done) | (simp; omega)) rfl)) | refine Gq.nil ?_ | refine GC.seq ?_ | refine GC.draw (by kernel_rfl) (by kernel_rfl) ?_ | refine GC.block ?_ | refine GC.skip ?_ | refine GE.then_normal ?_)
      refine GC.cond_dec rfl (fun hne => ?_) (fun hne => ?_)
      · repeat (first | (apply G.ex (hd := rfl); case h => (first | exact Ex.assign rfl)) | refine G.nil ?_ | refine GC.seq ?_ | refine GC.region ?_ | refine GC.ret ?_ | refine GE.then_normal ?_ | refine GE.then_ret ?_ | refine GE.block_ret ?_)
        refine GE.ret (by first | exact .inl rfl | exact .inr rfl) (res1 Try.results16 rfl) ⟨congrArg Value.bool (decide_eq_false (fun e => hne (by rw [e]))).symm, rfl⟩ (by repeat first | exact tn_ | apply td_ rfl | apply tc_ | exact .here | apply Take1.there) (by repeat (first | exact Subs.refl | refine Subs.skip ?_))
      · have he' : l.take (k + 1) = l'.take (k + 1) := by
          rw [List.take_succ_eq_append_getElem (by omega), List.take_succ_eq_append_getElem (by omega), he]
          congr 2
          have := Decidable.not_not.1 hne
          rw [List.getD_eq_getElem?_getD, List.getD_eq_getElem?_getD, List.getElem?_eq_getElem (by omega), List.getElem?_eq_getElem (by omega)] at this
          simpa using this
        clear he hne
        repeat (first | (apply G.ex (hd := rfl); case h => (first | exact Ex.move rfl | exact Ex.add rfl rfl (by omega) | exact Ex.assign rfl)) | refine G.nil ?_ | refine GC.region ?_ | refine GC.skip ?_ | refine GE.then_normal ?_ | refine GE.block_normal ?_)
        refine GE.loop (k + 1) ⟨by omega, he'⟩ (by omega) (by simp only [fits]; repeat (first | exact trivial | refine And.intro rfl ?_)) (by repeat first | exact tn_ | apply td_ rfl | apply tc_ | exact .here | apply Take1.there) (by repeat (first | exact Subs.refl | refine Subs.skip ?_))
    · have hkn : k = n := by omega
      have e : l = l' := by
        rw [← List.take_of_length_le (Nat.le_of_eq hl), ← hkn, he, hkn, List.take_of_length_le (Nat.le_of_eq hl')]
      repeat (first | (apply G.ex (hd := rfl); case h => (first | exact Ex.assign rfl)) | refine G.nil ?_ | refine GC.seq ?_ | refine GC.region ?_ | refine GC.ret ?_ | refine GC.exit ?_ | refine GE.then_normal ?_ | refine GE.then_exit ?_ | refine GE.block_hit ?_)
      refine GE.ret (by first | exact .inl rfl | exact .inr rfl) (res1 Try.results16 rfl) ⟨congrArg Value.bool (decide_eq_true e).symm, rfl⟩ (by repeat first | exact tn_ | apply td_ rfl | apply tc_ | exact .here | apply Take1.there) (by repeat (first | exact Subs.refl | refine Subs.skip ?_))
theorem sup_step (c : Nat → Nat) (k : Nat) : (sup c (k + 1)).length = (sup c k).length + (if c k = 0 then 0 else 1) := by
  have h := sup_sum (c := c) (fun _ => 1) (k + 1)
  have h2 := sup_sum (c := c) (fun _ => 1) k
  rw [List.map_const', List.sum_replicate_nat, Nat.mul_one] at h h2
  rw [h, h2]; rfl
theorem good_two {out : List Int} (hl : out.length = 2) (h0 : ∀ z ∈ out, (0 : Int) ≤ z) (g : Good (cN [1, 2]) (fun i => (out.getD i default).toNat) 2) : out = [1, 1] := by
  match out, hl with
  | [a, b], _ =>
    have s2 : max 2 (sup (cN [1, 2]) 2).length = 2 := by decide
    have a1 := g.some 0 (by decide) (by decide)
    have b1 := g.some 1 (by decide) (by decide)
    rw [s2] at a1 b1
    have ha := h0 a (List.mem_cons_self ..)
    have hb := h0 b (List.mem_cons_of_mem _ (List.mem_cons_self ..))
    have a2 : 1 ≤ a.toNat ∧ a.toNat + 1 ≤ 2 := a1
    have b2 : 1 ≤ b.toNat ∧ b.toNat + 1 ≤ 2 := b1
    obtain rfl : a = 1 := by omega
    obtain rfl : b = 1 := by omega
    rfl
set_option maxHeartbeats 16000000 in
theorem lengthsOf_sp (r : Res) (ao : Option Addr) (n c : Nat) (C : List Int) (hl : C.length = n) (hn : n ≤ 64) [hR : RdR r ao n c 1 (flat (eI .i64) C)] (hC : ∀ z ∈ C, 0 ≤ z ∧ z ≤ 1048576) :
    Spec Try.prog 10 [.slice ao n c] [r] fun v give => ∃ (out : List Int) (oa : Option Addr) (oc : Nat), out.length = n ∧ (∀ z ∈ out, (0 : Int) ≤ z) ∧ Good (cN C) (fun i => (out.getD i default).toNat) n ∧ v = .tuple #[.slice oa n oc, .int .i64 ((sup (cN C) n).length : Int), .bool true] ∧ give = [.vec 3 1 oa n oc (flat (eI .i64) out), r] := by
  have hsl : (sup (cN C) n).length ≤ n := sup_len
  refine Spec.intro Try.func10 rfl Try.ntmps10 rfl fun w0 rest rs_ hrs_ => ?_
  simp only [List.cons_append, List.nil_append] at hrs_
  subst hrs_
  repeat (first | (apply G.ex (hd := rfl); case h => (first | exact Ex.move rfl | exact Ex.assign rfl)) | refine G.nil ?_ | refine GC.seq ?_ | refine GC.region ?_ | refine GE.then_normal ?_)
  refine G.appNil rfl rfl (by rfl) (by omega) rfl (rfl) (fun da dc => ?_)
  repeat (first | fail)
  first | refine G.call (caps := []) (hlengths_sp (.vec 3 1 da n dc (flat (eI .i64) C)) da n dc C hl hn hC) rfl rfl rfl rfl (by repeat first | exact tn_ | apply td_ rfl | apply tc_ | exact .here | apply Take1.there) ?_ | refine G.callU (caps := []) (hlengths_sp (.vec 3 1 da n dc (flat (eI .i64) C)) da n dc C hl hn hC) rfl rfl rfl (by repeat first | exact tn_ | apply td_ rfl | apply tc_ | exact .here | apply Take1.there) ?_
  rintro v_ give_ ⟨out, oa, oc, hol, h0, hg, rfl, rfl⟩ rs_ hrs_
  simp only [List.cons_append, List.nil_append] at hrs_
  subst hrs_
  repeat (first | (apply G.ex (hd := rfl); case h => (first | exact Ex.move rfl | exact Ex.extract rfl rfl | exact Ex.assign rfl)) | refine G.nil ?_ | refine GC.seq ?_ | refine GC.region ?_ | refine GE.then_normal ?_)
  refine G.lit (cells := flat (eI .i64) [1, 2]) rfl (by rfl) (by rfl) (by rfl) (by rfl) (by rfl) (by rfl) rfl (fun q => ?_)
  first | refine G.call (caps := []) (hlengths_sp (.vec 3 1 q 2 2 (flat (eI .i64) [1, 2])) q 2 2 [1, 2] rfl (by decide) (by decide)) rfl rfl rfl rfl (by repeat first | exact tn_ | apply td_ rfl | apply tc_ | exact .here | apply Take1.there) ?_ | refine G.callU (caps := []) (hlengths_sp (.vec 3 1 q 2 2 (flat (eI .i64) [1, 2])) q 2 2 [1, 2] rfl (by decide) (by decide)) rfl rfl rfl (by repeat first | exact tn_ | apply td_ rfl | apply tc_ | exact .here | apply Take1.there) ?_
  rintro v_ give_ ⟨two, ta, tc, htl, ht0, htg, rfl, rfl⟩ rs_ hrs_
  simp only [List.cons_append, List.nil_append] at hrs_
  subst hrs_
  obtain rfl := good_two htl ht0 htg
  clear htl ht0 htg
  repeat (first | (apply G.ex (hd := rfl); case h => (first | exact Ex.move rfl | exact Ex.extract rfl rfl | exact Ex.assign rfl)) | refine G.nil ?_ | refine GC.seq ?_ | refine GC.region ?_ | refine GC.block ?_ | refine GE.then_normal ?_)
  refine GC.loop (ι := Nat) (fun x => x ≤ n) (fun x => n - x) (fun x => [(0, .slice ao n c), (5, .slice oa n oc), (6, .int .i64 0), (7, .slice ta 2 tc), (8, .int .i64 0), (9, .int .i64 ((sup (cN C) x).length : Int)), (10, .int .i64 (x : Int))]) (fun x => [.vec 3 1 oa n oc (flat (eI .i64) out), r, .vec 3 1 ta 2 tc (flat (eI .i64) [1, 1])]) 0 (Nat.zero_le _) (by simp only [fits]; repeat (first | exact trivial | refine And.intro rfl ?_)) (by repeat first | exact tn_ | apply td_ rfl | apply tc_ | exact .here | apply Take1.there) ?_
  rintro x hx fr_ rs_ hfr_ hrs_
  simp only [List.cons_append, List.nil_append] at hfr_ hrs_
  subst hfr_ hrs_
  have hsx : (sup (cN C) x).length ≤ x := sup_len
  by_cases h1 : x < n
  · have hst := sup_step (cN C) x
    have hz := hC (C.getD x default) (by rw [List.getD_eq_getElem?_getD, List.getElem?_eq_getElem (by omega)]; exact List.getElem_mem _)
    have hcx : cN C x = (C.getD x default).toNat := rfl
    by_cases h2 : 0 < C.getD x default
    · rw [if_neg (by omega)] at hst
      repeat (first | (apply G.ex (hd := rfl); case h => (first | exact Ex.move rfl | exact Ex.add rfl rfl (by omega) | exact Ex.lss rfl rfl | exact Ex.gtr rfl rfl | exact Ex.lenSl rfl | exact Ex.indexN rfl rfl (by first | omega | (simp; done) | (simp; omega)) | exact Ex.loadT0 rfl (by first | omega | (simp; done) | (simp; omega)) rfl | exact Ex.assign rfl)) | refine G.nil ?_ | refine GC.seq ?_ | refine GC.region ?_ | refine GC.block ?_ | refine GC.skip ?_ | refine GE.then_normal ?_ | refine GE.block_normal ?_ | refine GC.cond_yes rfl (by first | assumption | omega) ?_)
      rw [show ((sup (cN C) x).length : Int) + 1 = ((sup (cN C) (x + 1)).length : Int) by omega, show (x : Int) + 1 = ((x + 1 : Nat) : Int) by omega]
      refine GE.loop (x + 1) (by omega) (by omega) (by simp only [fits]; repeat (first | exact trivial | refine And.intro rfl ?_)) (by repeat first | exact tn_ | apply td_ rfl | apply tc_ | exact .here | apply Take1.there) (by repeat (first | exact Subs.refl | refine Subs.skip ?_))
    · rw [if_pos (by omega)] at hst
      repeat (first | (apply G.ex (hd := rfl); case h => (first | exact Ex.move rfl | exact Ex.add rfl rfl (by omega) | exact Ex.lss rfl rfl | exact Ex.gtr rfl rfl | exact Ex.lenSl rfl | exact Ex.indexN rfl rfl (by first | omega | (simp; done) | (simp; omega)) | exact Ex.loadT0 rfl (by first | omega | (simp; done) | (simp; omega)) rfl | exact Ex.assign rfl)) | refine G.nil ?_ | refine GC.seq ?_ | refine GC.region ?_ | refine GC.block ?_ | refine GC.skip ?_ | refine GE.then_normal ?_ | refine GE.block_normal ?_ | refine GC.cond_yes rfl (by first | assumption | omega) ?_ | refine GC.cond_no rfl (by first | assumption | omega) ?_)
      rw [show ((sup (cN C) x).length : Int) = ((sup (cN C) (x + 1)).length : Int) by omega, show (x : Int) + 1 = ((x + 1 : Nat) : Int) by omega]
      refine GE.loop (x + 1) (by omega) (by omega) (by simp only [fits]; repeat (first | exact trivial | refine And.intro rfl ?_)) (by repeat first | exact tn_ | apply td_ rfl | apply tc_ | exact .here | apply Take1.there) (by repeat (first | exact Subs.refl | refine Subs.skip ?_))
  · obtain rfl : x = n := by omega
    repeat (first | (apply G.ex (hd := rfl); case h => (first | exact Ex.move rfl | exact Ex.lss rfl rfl | exact Ex.eqI rfl rfl | exact Ex.lenSl rfl | exact Ex.pickT rfl (by first | assumption | omega) rfl)) | refine G.g_tt rfl rfl (by first | assumption | omega) ?_ | refine G.nil ?_ | refine GC.seq ?_ | refine GC.region ?_ | refine GC.exit ?_ | refine GE.then_normal ?_ | refine GE.then_exit ?_ | refine GE.block_hit ?_ | refine GC.cond_no rfl (by first | assumption | omega) ?_)
    refine G.lit (cells := flat (eI .i64) [1, 1]) rfl (by rfl) (by rfl) (by rfl) (by rfl) (by rfl) (by rfl) rfl (fun q2 => ?_)
    repeat (first | refine G.g_tt rfl rfl (by first | assumption | omega) ?_)
    first | refine G.call (caps := []) (sameInts_sp (.vec 3 1 ta 2 tc (flat (eI .i64) [1, 1])) (.vec 3 1 q2 2 2 (flat (eI .i64) [1, 1])) ta q2 2 tc 2 2 [1, 1] [1, 1] rfl rfl (by decide) (by decide)) rfl rfl rfl rfl (by repeat first | exact tn_ | apply td_ rfl | apply tc_ | exact .here | apply Take1.there) ?_ | refine G.callU (caps := []) (sameInts_sp (.vec 3 1 ta 2 tc (flat (eI .i64) [1, 1])) (.vec 3 1 q2 2 2 (flat (eI .i64) [1, 1])) ta q2 2 tc 2 2 [1, 1] [1, 1] rfl rfl (by decide) (by decide)) rfl rfl rfl (by repeat first | exact tn_ | apply td_ rfl | apply tc_ | exact .here | apply Take1.there) ?_
    rintro v_ give_ ⟨rfl, rfl⟩ rs_ hrs_
    simp only [List.cons_append, List.nil_append] at hrs_
    subst hrs_
    rw [decide_eq_true (rfl : ([1, 1] : List Int) = [1, 1])]
    repeat (first | (apply G.ex (hd := rfl); case h => (first | exact Ex.assign rfl | exact Ex.pickT rfl (by first | assumption | omega) rfl)) | refine G.nil ?_ | refine GC.ret ?_ | refine GE.then_normal ?_)
    refine GE.ret (by first | exact .inl rfl | exact .inr rfl) (resR3 Try.results10 (RV.tmp rfl) (RV.tmp rfl) (RV.tmp rfl)) ⟨out, oa, oc, hol, h0, hg, rfl, rfl⟩ (by repeat first | exact tn_ | apply td_ rfl | apply tc_ | exact .here | apply Take1.there) (by repeat (first | exact Subs.refl | refine Subs.skip ?_))
end huff
end Go.Proofs.Ytfkgchdbjfbdaaa
