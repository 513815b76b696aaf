/-
  CONTRACTS of hole.Gaps and packthreadkeep.Heap; the laws HoleGrows, HoleKnows, HoleGapsAll, by the kit.
-/
import Derived.Test.YtomibkfpeiceoaaHole2
namespace Go.Proofs.Ytomibkfpeiceoaa
open Go.RowKit
attribute [local irreducible] Ex G GC GE Gq FPost LPost
set_option linter.unusedVariables false
set_option linter.unusedSimpArgs false

namespace hole
theorem gaps_app : ∀ (l m : List R) (d : Int), gaps d (l ++ m) = gaps d l ++ gaps (last d l) m
  | [], m, d => rfl
  | r :: t, m, d => by
    show (d, r.1) :: gaps r.2 (t ++ m) = (d, r.1) :: (gaps r.2 t ++ gaps (last r.2 t) m)
    rw [gaps_app t m r.2]
theorem gaps_take (d : Int) (l : List R) (k : Nat) (h : k < l.length) : gaps d (l.take (k + 1)) = gaps d (l.take k) ++ [(last d (l.take k), (l.getD k default).1)] := by
  rw [getD_take l k h, gaps_app]; rfl
theorem gaps_sp (d : Int) (ao : Option Addr) (n c : Nat) (l : List R) (hl : l.length = n) (hm : May d l) :
    Spec Try.prog 35 [.int .i64 d, .slice ao n c] [.sl ao n c 2 (flat eR l)] fun v give => ∃ ao' c', v = .tuple #[.slice ao' n c', .int .i64 0] ∧ give = [.sl ao' n c' 2 (flat eR (gaps d l))] := by
  have hlen := hm.len
  refine Spec.intro Try.func35 rfl Try.ntmps35 rfl fun w0 rest rs_ hrs_ => ?_
  simp only [List.cons_append, List.nil_append] at hrs_
  subst hrs_
  repeat (first | (apply G.ex (hd := rfl); case h => (first | exact Ex.move rfl | exact Ex.assign rfl)) | refine G.nil ?_ | refine GC.seq ?_ | refine GC.region ?_ | refine GE.then_normal ?_)
  first | refine G.call (caps := []) (may_sp (.sl ao n c 2 (flat eR l)) d ao n c l hl hm) rfl rfl rfl rfl (by repeat (first | exact Takes.nil | apply Takes.dup rfl | apply Takes.cons | exact Take1.here | apply Take1.there)) ?_ | refine G.callU (caps := []) (may_sp (.sl ao n c 2 (flat eR l)) d ao n c l hl hm) rfl rfl rfl (by repeat (first | exact Takes.nil | apply Takes.dup rfl | apply Takes.cons | exact Take1.here | apply Take1.there)) ?_
  rintro v_ give_ ⟨rfl, rfl⟩ rs_ hrs_
  simp only [List.cons_append, List.nil_append] at hrs_
  subst hrs_
  repeat (first | (apply G.ex (hd := rfl); case h => (first | exact Ex.move rfl | exact Ex.lenSl rfl | exact Ex.assign rfl | exact Ex.notB rfl)) | refine G.nil ?_ | refine GC.seq ?_ | refine GC.region ?_ | refine GC.block ?_ | refine GC.skip ?_ | refine GE.then_normal ?_ | refine GC.cond_f rfl ?_)
  first | refine G.nilvec 61 2 ?_ | refine GC.nilvec 61 2 ?_
  refine GC.loop (ι := Nat × Option Addr × Nat) (fun i => i.1 ≤ n) (fun i => n - i.1) (fun i => [(0, .int .i64 (last d (l.take i.1))), (6, .slice i.2.1 i.1 i.2.2), (13, .slice ao n c), (14, .int .i64 (n : Int)), (15, .int .i64 (i.1 : Int))]) (fun i => [.vec 61 2 i.2.1 i.1 i.2.2 (flat eR (gaps d (l.take i.1))), .sl ao n c 2 (flat eR l)]) (0, none, 0) (Nat.zero_le _) (by simp only [fits]; repeat (first | exact trivial | refine And.intro rfl ?_)) (by repeat (first | exact Takes.nil | apply Takes.dup rfl | apply Takes.cons | exact Take1.here | apply Take1.there)) ?_
  rintro ⟨i, ga, gc⟩ hi fr_ rs_ hfr_ hrs_
  simp only [List.cons_append, List.nil_append] at hfr_ hrs_
  subst hfr_ hrs_
  simp only at hi
  repeat (first | (apply G.ex (hd := rfl); case h => (first | exact Ex.lss rfl rfl)) | refine G.nil ?_ | refine GC.seq ?_ | refine GC.region ?_ | refine GE.then_normal ?_)
  refine GC.cond_dec rfl (fun hlt => ?_) (fun hlt => ?_)
  · have hlt : i < n := by omega
    obtain ⟨c1, c2, c3⟩ := chain_at hm.ch i (by omega)
    have hg := gaps_take d l i (by omega)
    repeat (first | (apply G.ex (hd := rfl); case h => (first | exact Ex.indexN rfl rfl (by first | omega | (simp; done) | (simp; omega)) | exact Ex.loadTA rfl (by first | omega | (simp; done) | (simp; omega)))) | refine GC.seq ?_ | refine GC.region ?_ | refine GC.block ?_ | refine GC.skip ?_ | refine GE.then_normal ?_)
    refine G.alloc rfl (fun b => ?_)
    repeat (first | refine G.storeBA rfl rfl rfl rfl rfl ?_ | (apply G.ex (hd := rfl); case h => (first | exact Ex.move rfl | exact Ex.fieldB rfl | exact Ex.loadB rfl rfl | exact Ex.build rfl rfl)) | refine G.nil ?_ | refine GC.seq ?_ | refine GC.region ?_ | refine GE.then_normal ?_)
    refine G.lit rfl (by rfl) (by rfl) (by rfl) (by rfl) (by rfl) (by rfl) rfl (fun q => ?_)
    have hcat : flat eR (gaps d (l.take i)) ++ eR (last d (l.take i), (l.getD i default).1) = flat eR (gaps d (l.take (i + 1))) := by rw [hg, flat_snoc]
    refine G.app rfl rfl (by rfl) (by omega) rfl (hcat) (fun g2 d2 rs_ hrs_ => ?_)
    try simp only at hrs_
    subst hrs_
    repeat (first | (apply G.ex (hd := rfl); case h => (first | exact Ex.move rfl | exact Ex.fieldB rfl | exact Ex.loadB rfl rfl | exact Ex.add rfl rfl (by omega) | exact Ex.assign rfl)) | refine G.nil ?_ | refine GC.region ?_ | refine GE.then_normal ?_ | refine GE.block_normal ?_)
    rw [← c3]
    refine GE.loop (i + 1, g2, d2) (by simp only; omega) (by simp only; omega) (by simp only [fits]; repeat (first | exact trivial | refine And.intro rfl ?_)) (by repeat (first | exact Takes.nil | apply Takes.dup rfl | apply Takes.cons | exact Take1.here | apply Take1.there)) (by repeat (first | exact Subs.refl | refine Subs.skip ?_))
  · obtain rfl : i = n := by omega
    rw [List.take_of_length_le (by omega)]
    repeat (first | (apply G.ex (hd := rfl); case h => (first | exact Ex.move rfl | exact Ex.assign rfl)) | refine G.nil ?_ | refine GC.seq ?_ | refine GC.region ?_ | refine GC.ret ?_ | refine GC.exit ?_ | refine GE.then_normal ?_ | refine GE.then_exit ?_ | refine GE.block_hit ?_)
    first | refine G.frz ga ?_ | refine GC.frz ga ?_ | refine GE.frz ga ?_
    refine GE.ret (by first | exact .inl rfl | exact .inr rfl) (by first | exact res0 Try.results35 | exact res1 Try.results35 rfl | exact res2 Try.results35 rfl rfl | exact resR1 Try.results35 (by first | exact RV.tmp rfl | exact RV.cell rfl rfl | exact RV.cell1 rfl) | exact resR2 Try.results35 (by first | exact RV.tmp rfl | exact RV.cell rfl rfl | exact RV.cell1 rfl) (by first | exact RV.tmp rfl | exact RV.cell rfl rfl | exact RV.cell1 rfl) | exact resR3 Try.results35 (by first | exact RV.tmp rfl | exact RV.cell rfl rfl | exact RV.cell1 rfl) (by first | exact RV.tmp rfl | exact RV.cell rfl rfl | exact RV.cell1 rfl) (by first | exact RV.tmp rfl | exact RV.cell rfl rfl | exact RV.cell1 rfl)) ⟨_, _, rfl, rfl⟩ (by repeat (first | exact Takes.nil | apply Takes.dup rfl | apply Takes.cons | exact Take1.here | apply Take1.there)) (by repeat (first | exact Subs.refl | refine Subs.skip ?_))
theorem rg_good (L : List Int) (i : Nat) : Good (rg L i) := by
  obtain ⟨h1, h2, h3⟩ := rangeOf_bd (L.getD (2 * i) default) (L.getD (2 * i + 1) default)
  exact ⟨h1, h2, h3⟩
theorem rgs_good (L : List Int) (k : Nat) : ∀ r ∈ rgs L k, Good r := by
  intro r hr
  obtain ⟨i, _, rfl⟩ := List.mem_map.1 hr
  exact rg_good L i
set_option maxHeartbeats 4000000 in
theorem heap_sp (ao : Option Addr) (n c : Nat) (L : List Int) (m : Nat) (hl : L.length = n) (hn : n ≤ 9223372036854775807) (hm : m ≤ 1000) :
    Spec Try.prog 29 [.slice ao n c, .int .i64 (m : Int)] [.sl ao n c 1 (flat (eI .i64) L)]
      fun v give => ∃ ao' c', v = .tuple #[.int .i64 (heap (rgs L (min (n / 2) m))).1, .slice ao' (heap (rgs L (min (n / 2) m))).2.length c', .bool true] ∧
        give = [.sl ao' (heap (rgs L (min (n / 2) m))).2.length c' 2 (flat eR (heap (rgs L (min (n / 2) m))).2)] := by
  refine Spec.intro Try.func29 rfl Try.ntmps29 rfl fun w0 rest rs_ hrs_ => ?_
  simp only [List.cons_append, List.nil_append] at hrs_
  subst hrs_
  repeat (first | (apply G.ex (hd := rfl); case h => (first | exact Ex.assign rfl)) | refine G.nil ?_ | refine GC.seq ?_ | refine GC.region ?_ | refine GC.block ?_ | refine GE.then_normal ?_)
  first | refine G.nilvec 61 2 ?_ | refine GC.nilvec 61 2 ?_
  first | refine G.frz none ?_ | refine GC.frz none ?_ | refine GE.frz none ?_
  refine GC.loop (ι := Nat × Option Addr × Nat × Int × List R) (fun i => i.1 ≤ m ∧ 2 * i.1 ≤ n ∧ i.2.2.2 = heap (rgs L i.1)) (fun i => m - i.1) (fun i => [(0, .slice ao n c), (1, .int .i64 (m : Int)), (7, .int .i64 i.2.2.2.1), (8, .slice i.2.1 i.2.2.2.2.length i.2.2.1), (9, .int .i64 ((2 * i.1 : Nat) : Int))]) (fun i => [.sl ao n c 1 (flat (eI .i64) L), .sl i.2.1 i.2.2.2.2.length i.2.2.1 2 (flat eR i.2.2.2.2)]) (0, none, 0, 0, []) ⟨Nat.zero_le _, Nat.zero_le _, rfl⟩ (by simp only [fits]; repeat (first | exact trivial | refine And.intro rfl ?_)) (by repeat (first | exact Takes.nil | apply Takes.dup rfl | apply Takes.cons | exact Take1.here | apply Take1.there)) ?_
  rintro ⟨i, oa, oc, D, l⟩ ⟨hi1, hi2, hs⟩ fr_ rs_ hfr_ hrs_
  simp only [List.cons_append, List.nil_append] at hfr_ hrs_
  subst hfr_ hrs_
  simp only at hi1 hi2 hs
  have hmay := heap_may _ _ rfl (rgs_good L i)
  rw [← hs] at hmay
  simp only at hmay
  by_cases hlt : 2 * i + 1 < n ∧ i < m
  · obtain ⟨hlt1, hlt2⟩ := hlt
    have hst : heap (rgs L (i + 1)) = hstep (heap (rgs L i)) (rg L i) := by rw [rgs_snoc, heap_snoc]
    have hgood := rg_good L i
    have hd0 := hmay.d0
    have e1 : ((2 * i : Nat) : Int) + 1 = ((2 * i + 1 : Nat) : Int) := by omega
    have e2 : ((2 * i : Nat) : Int) + 2 = ((2 * (i + 1) : Nat) : Int) := by omega
    repeat (first | (apply G.ex (hd := rfl); case h => (first | exact Ex.move rfl | exact Ex.add rfl rfl (by omega) | exact Ex.lss rfl rfl | exact Ex.lenSl rfl | exact Ex.mul rfl rfl (by omega) | exact Ex.pickT rfl (by first | assumption | omega) rfl)) | refine G.g_tt rfl rfl (by first | assumption | omega) ?_ | refine G.nil ?_ | refine GC.seq ?_ | refine GC.region ?_ | refine GC.block ?_ | refine GC.skip ?_ | refine GE.then_normal ?_ | refine GC.cond_yes rfl (by first | assumption | omega) ?_)
    refine GC.drawA [] [.sl ao n c 1 (flat (eI .i64) L)] (by repeat (first | exact Takes.nil | apply Takes.dup rfl | apply Takes.cons | exact Take1.here | apply Take1.there)) (by kernel_rfl) ?_
    first | (apply GA.take [] (hD := .inl rfl) (hsub := ⟨_, Takes.nil⟩) (i := 0) (hi := rfl) (hs := by kernel_rfl) (hfr := by kernel_rfl) (hr := by kernel_rfl) (hQ := (by repeat (first | exact NoPanic.fpost | apply NoPanic.then_ | apply NoPanic.block))) (hd := rfl); case hx => (first | exact Ex.move rfl))
    first | (apply GA.take [] (hD := .inl rfl) (hsub := ⟨_, Takes.nil⟩) (i := 1) (hi := rfl) (hs := by kernel_rfl) (hfr := by kernel_rfl) (hr := by kernel_rfl) (hQ := (by repeat (first | exact NoPanic.fpost | apply NoPanic.then_ | apply NoPanic.block))) (hd := rfl); case hx => (first | exact Ex.move rfl))
    first | (apply GA.take [] (hD := .inl rfl) (hsub := ⟨_, Takes.nil⟩) (i := 2) (hi := rfl) (hs := by kernel_rfl) (hfr := by kernel_rfl) (hr := by kernel_rfl) (hQ := (by repeat (first | exact NoPanic.fpost | apply NoPanic.then_ | apply NoPanic.block))) (hd := rfl); case hx => (first | exact Ex.move rfl))
    first | (apply GA.take [] (hD := .inl rfl) (hsub := ⟨_, Takes.nil⟩) (i := 3) (hi := rfl) (hs := by kernel_rfl) (hfr := by kernel_rfl) (hr := by kernel_rfl) (hQ := (by repeat (first | exact NoPanic.fpost | apply NoPanic.then_ | apply NoPanic.block))) (hd := rfl); case hx => (first | exact Ex.move rfl))
    first | (apply GA.take _ (hD := .inr ⟨rfl, by kernel_rfl⟩) (hsub := ⟨_, (by repeat (first | exact Takes.nil | apply Takes.dup rfl | apply Takes.cons | exact Take1.here | apply Take1.there))⟩) (i := 4) (hi := rfl) (hs := by kernel_rfl) (hfr := by kernel_rfl) (hr := by kernel_rfl) (hQ := (by repeat (first | exact NoPanic.fpost | apply NoPanic.then_ | apply NoPanic.block))) (hd := rfl); case hx => (first | exact Ex.indexN rfl rfl (by first | omega | (simp; done) | (simp; omega))))
    first | (apply GA.take _ (hD := .inr ⟨rfl, by kernel_rfl⟩) (hsub := ⟨_, (by repeat (first | exact Takes.nil | apply Takes.dup rfl | apply Takes.cons | exact Take1.here | apply Take1.there))⟩) (i := 5) (hi := rfl) (hs := by kernel_rfl) (hfr := by kernel_rfl) (hr := by kernel_rfl) (hQ := (by repeat (first | exact NoPanic.fpost | apply NoPanic.then_ | apply NoPanic.block))) (hd := rfl); case hx => (first | exact Ex.loadT0 rfl (by first | omega | (simp; done) | (simp; omega)) rfl))
    first | (apply GA.take [] (hD := .inl rfl) (hsub := ⟨_, Takes.nil⟩) (i := 6) (hi := rfl) (hs := by kernel_rfl) (hfr := by kernel_rfl) (hr := by kernel_rfl) (hQ := (by repeat (first | exact NoPanic.fpost | apply NoPanic.then_ | apply NoPanic.block))) (hd := rfl); case hx => (first | exact Ex.move rfl))
    first | (apply GA.take [] (hD := .inl rfl) (hsub := ⟨_, Takes.nil⟩) (i := 7) (hi := rfl) (hs := by kernel_rfl) (hfr := by kernel_rfl) (hr := by kernel_rfl) (hQ := (by repeat (first | exact NoPanic.fpost | apply NoPanic.then_ | apply NoPanic.block))) (hd := rfl); case hx => (first | exact Ex.move rfl))
    first | (apply GA.take [] (hD := .inl rfl) (hsub := ⟨_, Takes.nil⟩) (i := 8) (hi := rfl) (hs := by kernel_rfl) (hfr := by kernel_rfl) (hr := by kernel_rfl) (hQ := (by repeat (first | exact NoPanic.fpost | apply NoPanic.then_ | apply NoPanic.block))) (hd := rfl); case hx => (first | exact Ex.add rfl rfl (by omega)))
    rw [e1]
    first | (apply GA.take _ (hD := .inr ⟨rfl, by kernel_rfl⟩) (hsub := ⟨_, (by repeat (first | exact Takes.nil | apply Takes.dup rfl | apply Takes.cons | exact Take1.here | apply Take1.there))⟩) (i := 9) (hi := rfl) (hs := by kernel_rfl) (hfr := by kernel_rfl) (hr := by kernel_rfl) (hQ := (by repeat (first | exact NoPanic.fpost | apply NoPanic.then_ | apply NoPanic.block))) (hd := rfl); case hx => (first | exact Ex.indexN rfl rfl (by first | omega | (simp; done) | (simp; omega))))
    first | (apply GA.take _ (hD := .inr ⟨rfl, by kernel_rfl⟩) (hsub := ⟨_, (by repeat (first | exact Takes.nil | apply Takes.dup rfl | apply Takes.cons | exact Take1.here | apply Take1.there))⟩) (i := 10) (hi := rfl) (hs := by kernel_rfl) (hfr := by kernel_rfl) (hr := by kernel_rfl) (hQ := (by repeat (first | exact NoPanic.fpost | apply NoPanic.then_ | apply NoPanic.block))) (hd := rfl); case hx => (first | exact Ex.loadT0 rfl (by first | omega | (simp; done) | (simp; omega)) rfl))
    refine GA.one (i := 11) (by kernel_rfl) rfl ?_
    first | refine G.call (caps := []) (rangeOf_sp (L.getD (2 * i) default) (L.getD (2 * i + 1) default)) rfl rfl rfl rfl (by repeat (first | exact Takes.nil | apply Takes.dup rfl | apply Takes.cons | exact Take1.here | apply Take1.there)) ?_ | refine G.callU (caps := []) (rangeOf_sp (L.getD (2 * i) default) (L.getD (2 * i + 1) default)) rfl rfl rfl (by repeat (first | exact Takes.nil | apply Takes.dup rfl | apply Takes.cons | exact Take1.here | apply Take1.there)) ?_
    rintro v_ give_ ⟨rfl, rfl⟩ rs_ hrs_
    simp only [List.cons_append, List.nil_append] at hrs_
    subst hrs_
    try refine G.nil ?_
    refine GA.back (by first | exact .inl (by decide) | exact .inr ⟨_, (by repeat (first | exact Takes.nil | apply Takes.dup rfl | apply Takes.cons | exact Take1.here | apply Take1.there))⟩) ?_
    refine GA.one (i := 12) (by kernel_rfl) rfl ?_
    have hr : rangeOf (L.getD (2 * i) default) (L.getD (2 * i + 1) default) = rg L i := rfl
    rw [hr]
    obtain ⟨g1, g2, g3⟩ := hgood
    rw [← hs] at hst
    generalize rg L i = r at *
    obtain ⟨r1, r2⟩ := r
    simp only at g1 g2 g3
    by_cases hfull : 16 < (add D l (r1, r2)).2.length
    · have hst' : (D, l) = heap (rgs L (i + 1)) := by rw [hst]; unfold hstep; rw [if_pos hfull]
      first | refine G.call (caps := []) (add_full_sp D oa l.length oc l r1 r2 rfl hmay (by omega) (by omega) (by omega) hfull) rfl rfl rfl rfl (by repeat (first | exact Takes.nil | apply Takes.dup rfl | apply Takes.cons | exact Take1.here | apply Take1.there)) ?_ | refine G.callU (caps := []) (add_full_sp D oa l.length oc l r1 r2 rfl hmay (by omega) (by omega) (by omega) hfull) rfl rfl rfl (by repeat (first | exact Takes.nil | apply Takes.dup rfl | apply Takes.cons | exact Take1.here | apply Take1.there)) ?_
      rintro v_ give_ ⟨rfl, rfl⟩ rs_ hrs_
      simp only [List.cons_append, List.nil_append] at hrs_
      subst hrs_
      try refine G.nil ?_
      refine GA.back (by first | exact .inl (by decide) | exact .inr ⟨_, (by repeat (first | exact Takes.nil | apply Takes.dup rfl | apply Takes.cons | exact Take1.here | apply Take1.there))⟩) ?_
      first | (apply GA.take [] (hD := .inl rfl) (hsub := ⟨_, Takes.nil⟩) (i := 13) (hi := rfl) (hs := by kernel_rfl) (hfr := by kernel_rfl) (hr := by kernel_rfl) (hQ := (by repeat (first | exact NoPanic.fpost | apply NoPanic.then_ | apply NoPanic.block))) (hd := rfl); case hx => (first | exact Ex.move rfl))
      first | (apply GA.take [] (hD := .inl rfl) (hsub := ⟨_, Takes.nil⟩) (i := 14) (hi := rfl) (hs := by kernel_rfl) (hfr := by kernel_rfl) (hr := by kernel_rfl) (hQ := (by repeat (first | exact NoPanic.fpost | apply NoPanic.then_ | apply NoPanic.block))) (hd := rfl); case hx => (first | exact Ex.extract rfl rfl))
      first | (apply GA.take [] (hD := .inl rfl) (hsub := ⟨_, Takes.nil⟩) (i := 15) (hi := rfl) (hs := by kernel_rfl) (hfr := by kernel_rfl) (hr := by kernel_rfl) (hQ := (by repeat (first | exact NoPanic.fpost | apply NoPanic.then_ | apply NoPanic.block))) (hd := rfl); case hx => (first | exact Ex.extract rfl rfl))
      first | (apply GA.take [] (hD := .inl rfl) (hsub := ⟨_, Takes.nil⟩) (i := 16) (hi := rfl) (hs := by kernel_rfl) (hfr := by kernel_rfl) (hr := by kernel_rfl) (hQ := (by repeat (first | exact NoPanic.fpost | apply NoPanic.then_ | apply NoPanic.block))) (hd := rfl); case hx => (first | exact Ex.extract rfl rfl))
      first | (apply GA.take [] (hD := .inl rfl) (hsub := ⟨_, Takes.nil⟩) (i := 17) (hi := rfl) (hs := by kernel_rfl) (hfr := by kernel_rfl) (hr := by kernel_rfl) (hQ := (by repeat (first | exact NoPanic.fpost | apply NoPanic.then_ | apply NoPanic.block))) (hd := rfl); case hx => (first | exact Ex.assign rfl))
      first | (apply GA.take [] (hD := .inl rfl) (hsub := ⟨_, Takes.nil⟩) (i := 18) (hi := rfl) (hs := by kernel_rfl) (hfr := by kernel_rfl) (hr := by kernel_rfl) (hQ := (by repeat (first | exact NoPanic.fpost | apply NoPanic.then_ | apply NoPanic.block))) (hd := rfl); case hx => (first | exact Ex.assign rfl))
      first | (apply GA.take [] (hD := .inl rfl) (hsub := ⟨_, Takes.nil⟩) (i := 19) (hi := rfl) (hs := by kernel_rfl) (hfr := by kernel_rfl) (hr := by kernel_rfl) (hQ := (by repeat (first | exact NoPanic.fpost | apply NoPanic.then_ | apply NoPanic.block))) (hd := rfl); case hx => (first | exact Ex.assign rfl))
      refine GA.done (by kernel_rfl) ?_
      repeat (first | (apply G.ex (hd := rfl); case h => (first | exact Ex.move rfl | exact Ex.add rfl rfl (by omega) | exact Ex.eqI rfl rfl | exact Ex.assign rfl)) | refine G.nil ?_ | refine GC.seq ?_ | refine GC.region ?_ | refine GC.exit ?_ | refine GE.then_normal ?_ | refine GE.then_exit ?_ | refine GE.block_hit ?_ | refine GC.cond_yes rfl (by first | assumption | omega) ?_)
      rw [e2]
      refine GE.loop (i + 1, oa, oc, D, l) ⟨by simp only; omega, by simp only; omega, hst'⟩ (by simp only; omega) (by simp only [fits]; repeat (first | exact trivial | refine And.intro rfl ?_)) (by repeat (first | exact Takes.nil | apply Takes.dup rfl | apply Takes.cons | exact Take1.here | apply Take1.there)) (by repeat (first | exact Subs.refl | refine Subs.skip ?_))
    · have hst' : add D l (r1, r2) = heap (rgs L (i + 1)) := by rw [hst]; unfold hstep; rw [if_neg hfull]
      first | refine G.call (caps := []) (add_sp D oa l.length oc l r1 r2 rfl hmay (by omega) (by omega) (by omega) (by omega)) rfl rfl rfl rfl (by repeat (first | exact Takes.nil | apply Takes.dup rfl | apply Takes.cons | exact Take1.here | apply Take1.there)) ?_ | refine G.callU (caps := []) (add_sp D oa l.length oc l r1 r2 rfl hmay (by omega) (by omega) (by omega) (by omega)) rfl rfl rfl (by repeat (first | exact Takes.nil | apply Takes.dup rfl | apply Takes.cons | exact Take1.here | apply Take1.there)) ?_
      rintro v_ give_ ⟨pa, pc, rfl, rfl⟩ rs_ hrs_
      simp only [List.cons_append, List.nil_append] at hrs_
      subst hrs_
      generalize add D l (r1, r2) = s' at *
      try refine G.nil ?_
      refine GA.back (by first | exact .inl (by decide) | exact .inr ⟨_, (by repeat (first | exact Takes.nil | apply Takes.dup rfl | apply Takes.cons | exact Take1.here | apply Take1.there))⟩) ?_
      first | (apply GA.take [] (hD := .inl rfl) (hsub := ⟨_, Takes.nil⟩) (i := 13) (hi := rfl) (hs := by kernel_rfl) (hfr := by kernel_rfl) (hr := by kernel_rfl) (hQ := (by repeat (first | exact NoPanic.fpost | apply NoPanic.then_ | apply NoPanic.block))) (hd := rfl); case hx => (first | exact Ex.move rfl))
      first | (apply GA.take [] (hD := .inl rfl) (hsub := ⟨_, Takes.nil⟩) (i := 14) (hi := rfl) (hs := by kernel_rfl) (hfr := by kernel_rfl) (hr := by kernel_rfl) (hQ := (by repeat (first | exact NoPanic.fpost | apply NoPanic.then_ | apply NoPanic.block))) (hd := rfl); case hx => (first | exact Ex.extract rfl rfl))
      first | (apply GA.take [] (hD := .inl rfl) (hsub := ⟨_, Takes.nil⟩) (i := 15) (hi := rfl) (hs := by kernel_rfl) (hfr := by kernel_rfl) (hr := by kernel_rfl) (hQ := (by repeat (first | exact NoPanic.fpost | apply NoPanic.then_ | apply NoPanic.block))) (hd := rfl); case hx => (first | exact Ex.extract rfl rfl))
      first | (apply GA.take [] (hD := .inl rfl) (hsub := ⟨_, Takes.nil⟩) (i := 16) (hi := rfl) (hs := by kernel_rfl) (hfr := by kernel_rfl) (hr := by kernel_rfl) (hQ := (by repeat (first | exact NoPanic.fpost | apply NoPanic.then_ | apply NoPanic.block))) (hd := rfl); case hx => (first | exact Ex.extract rfl rfl))
      first | (apply GA.take [] (hD := .inl rfl) (hsub := ⟨_, Takes.nil⟩) (i := 17) (hi := rfl) (hs := by kernel_rfl) (hfr := by kernel_rfl) (hr := by kernel_rfl) (hQ := (by repeat (first | exact NoPanic.fpost | apply NoPanic.then_ | apply NoPanic.block))) (hd := rfl); case hx => (first | exact Ex.assign rfl))
      first | (apply GA.take [] (hD := .inl rfl) (hsub := ⟨_, Takes.nil⟩) (i := 18) (hi := rfl) (hs := by kernel_rfl) (hfr := by kernel_rfl) (hr := by kernel_rfl) (hQ := (by repeat (first | exact NoPanic.fpost | apply NoPanic.then_ | apply NoPanic.block))) (hd := rfl); case hx => (first | exact Ex.assign rfl))
      first | (apply GA.take [] (hD := .inl rfl) (hsub := ⟨_, Takes.nil⟩) (i := 19) (hi := rfl) (hs := by kernel_rfl) (hfr := by kernel_rfl) (hr := by kernel_rfl) (hQ := (by repeat (first | exact NoPanic.fpost | apply NoPanic.then_ | apply NoPanic.block))) (hd := rfl); case hx => (first | exact Ex.assign rfl))
      refine GA.done (by kernel_rfl) ?_
      repeat (first | (apply G.ex (hd := rfl); case h => (first | exact Ex.move rfl | exact Ex.add rfl rfl (by omega) | exact Ex.eqI rfl rfl | exact Ex.neI rfl rfl | exact Ex.assign rfl)) | refine G.nil ?_ | refine GC.seq ?_ | refine GC.region ?_ | refine GC.skip ?_ | refine GE.then_normal ?_ | refine GE.block_normal ?_ | refine GC.cond_no rfl (by first | assumption | omega) ?_)
      rw [e2]
      refine GE.loop (i + 1, pa, pc, s'.1, s'.2) ⟨by simp only; omega, by simp only; omega, hst'⟩ (by simp only; omega) (by simp only [fits]; repeat (first | exact trivial | refine And.intro rfl ?_)) (by repeat (first | exact Takes.nil | apply Takes.dup rfl | apply Takes.cons | exact Take1.here | apply Take1.there)) (by repeat (first | exact Subs.refl | refine Subs.skip ?_))
  · have hk : min (n / 2) m = i := by omega
    rw [hk, ← hs]
    simp only
    by_cases hlt1 : 2 * i + 1 < n
    · have hlt2 : ¬ i < m := fun k => hlt ⟨hlt1, k⟩
      repeat (first | (apply G.ex (hd := rfl); case h => (first | exact Ex.move rfl | exact Ex.add rfl rfl (by omega) | exact Ex.lss rfl rfl | exact Ex.lenSl rfl | exact Ex.mul rfl rfl (by omega) | exact Ex.pickT rfl (by first | assumption | omega) rfl)) | refine G.g_tt rfl rfl (by first | assumption | omega) ?_ | refine G.nil ?_ | refine GC.seq ?_ | refine GC.region ?_ | refine GC.exit ?_ | refine GE.then_normal ?_ | refine GE.then_exit ?_ | refine GE.block_hit ?_ | refine GC.cond_no rfl (by first | assumption | omega) ?_)
      first | refine G.call (caps := []) (may_sp (.sl oa l.length oc 2 (flat eR l)) D oa l.length oc l rfl hmay) rfl rfl rfl rfl (by repeat (first | exact Takes.nil | apply Takes.dup rfl | apply Takes.cons | exact Take1.here | apply Take1.there)) ?_ | refine G.callU (caps := []) (may_sp (.sl oa l.length oc 2 (flat eR l)) D oa l.length oc l rfl hmay) rfl rfl rfl (by repeat (first | exact Takes.nil | apply Takes.dup rfl | apply Takes.cons | exact Take1.here | apply Take1.there)) ?_
      rintro v_ give_ ⟨rfl, rfl⟩ rs_ hrs_
      simp only [List.cons_append, List.nil_append] at hrs_
      subst hrs_
      repeat (first | (apply G.ex (hd := rfl); case h => (first | exact Ex.assign rfl)) | refine G.nil ?_ | refine GC.ret ?_ | refine GE.then_normal ?_)
      refine GE.ret (by first | exact .inl rfl | exact .inr rfl) (by first | exact res0 Try.results29 | exact res1 Try.results29 rfl | exact res2 Try.results29 rfl rfl | exact resR1 Try.results29 (by first | exact RV.tmp rfl | exact RV.cell rfl rfl | exact RV.cell1 rfl) | exact resR2 Try.results29 (by first | exact RV.tmp rfl | exact RV.cell rfl rfl | exact RV.cell1 rfl) (by first | exact RV.tmp rfl | exact RV.cell rfl rfl | exact RV.cell1 rfl) | exact resR3 Try.results29 (by first | exact RV.tmp rfl | exact RV.cell rfl rfl | exact RV.cell1 rfl) (by first | exact RV.tmp rfl | exact RV.cell rfl rfl | exact RV.cell1 rfl) (by first | exact RV.tmp rfl | exact RV.cell rfl rfl | exact RV.cell1 rfl)) ⟨_, _, rfl, rfl⟩ (by repeat (first | exact Takes.nil | apply Takes.dup rfl | apply Takes.cons | exact Take1.here | apply Take1.there)) (by repeat (first | exact Subs.refl | refine Subs.skip ?_))
    · repeat (first | (apply G.ex (hd := rfl); case h => (first | exact Ex.move rfl | exact Ex.add rfl rfl (by omega) | exact Ex.lss rfl rfl | exact Ex.lenSl rfl | exact Ex.pickF rfl (by first | assumption | omega) rfl)) | refine G.g_tf rfl rfl (by first | assumption | omega) rfl ?_ | refine G.nil ?_ | refine GC.seq ?_ | refine GC.region ?_ | refine GC.exit ?_ | refine GE.then_normal ?_ | refine GE.then_exit ?_ | refine GE.block_hit ?_ | refine GC.cond_f rfl ?_)
      first | refine G.call (caps := []) (may_sp (.sl oa l.length oc 2 (flat eR l)) D oa l.length oc l rfl hmay) rfl rfl rfl rfl (by repeat (first | exact Takes.nil | apply Takes.dup rfl | apply Takes.cons | exact Take1.here | apply Take1.there)) ?_ | refine G.callU (caps := []) (may_sp (.sl oa l.length oc 2 (flat eR l)) D oa l.length oc l rfl hmay) rfl rfl rfl (by repeat (first | exact Takes.nil | apply Takes.dup rfl | apply Takes.cons | exact Take1.here | apply Take1.there)) ?_
      rintro v_ give_ ⟨rfl, rfl⟩ rs_ hrs_
      simp only [List.cons_append, List.nil_append] at hrs_
      subst hrs_
      repeat (first | (apply G.ex (hd := rfl); case h => (first | exact Ex.assign rfl)) | refine G.nil ?_ | refine GC.ret ?_ | refine GE.then_normal ?_)
      refine GE.ret (by first | exact .inl rfl | exact .inr rfl) (by first | exact res0 Try.results29 | exact res1 Try.results29 rfl | exact res2 Try.results29 rfl rfl | exact resR1 Try.results29 (by first | exact RV.tmp rfl | exact RV.cell rfl rfl | exact RV.cell1 rfl) | exact resR2 Try.results29 (by first | exact RV.tmp rfl | exact RV.cell rfl rfl | exact RV.cell1 rfl) (by first | exact RV.tmp rfl | exact RV.cell rfl rfl | exact RV.cell1 rfl) | exact resR3 Try.results29 (by first | exact RV.tmp rfl | exact RV.cell rfl rfl | exact RV.cell1 rfl) (by first | exact RV.tmp rfl | exact RV.cell rfl rfl | exact RV.cell1 rfl) (by first | exact RV.tmp rfl | exact RV.cell rfl rfl | exact RV.cell1 rfl)) ⟨_, _, rfl, rfl⟩ (by repeat (first | exact Takes.nil | apply Takes.dup rfl | apply Takes.cons | exact Take1.here | apply Take1.there)) (by repeat (first | exact Subs.refl | refine Subs.skip ?_))
set_option maxHeartbeats 4000000 in
theorem holeGrows_sp (a0 : Option Addr) (len0 cap0 : Nat) (z0 : List Int) (hl0 : z0.length = len0) (hb0 : len0 ≤ 9223372036854775807) (hw0 : ∀ z ∈ z0, -9223372036854775808 ≤ z ∧ z ≤ 9223372036854775807) (a1 : Int) (ha1 : -9223372036854775808 ≤ a1 ∧ a1 ≤ 9223372036854775807) (a2 : Int) (ha2 : -9223372036854775808 ≤ a2 ∧ a2 ≤ 9223372036854775807) (a3 : Int) (ha3 : -9223372036854775808 ≤ a3 ∧ a3 ≤ 9223372036854775807) :
    Spec Try.prog 13 [.slice a0 len0 cap0, .int .i64 a1, .int .i64 a2, .int .i64 a3] [.sl a0 len0 cap0 1 (flat (eI .i64) z0)] fun v give => v = .bool true ∧ give = [] := by
  refine Spec.intro Try.func13 rfl Try.ntmps13 rfl fun w0 rest rs_ hrs_ => ?_
  simp only [List.cons_append, List.nil_append] at hrs_
  subst hrs_
  repeat (first | (apply G.ex (hd := rfl); case h => (first | exact Ex.move rfl | exact Ex.assign rfl)) | refine G.nil ?_ | refine GC.seq ?_ | refine GC.region ?_ | refine GE.then_normal ?_)
  first | refine G.call (caps := []) (heap_sp a0 len0 cap0 z0 20 hl0 hb0 (by omega)) rfl rfl rfl rfl (by repeat (first | exact Takes.nil | apply Takes.dup rfl | apply Takes.cons | exact Take1.here | apply Take1.there)) ?_ | refine G.callU (caps := []) (heap_sp a0 len0 cap0 z0 20 hl0 hb0 (by omega)) rfl rfl rfl (by repeat (first | exact Takes.nil | apply Takes.dup rfl | apply Takes.cons | exact Take1.here | apply Take1.there)) ?_
  rintro v_ give_ ⟨oa, oc, rfl, rfl⟩ rs_ hrs_
  simp only [List.cons_append, List.nil_append] at hrs_
  subst hrs_
  have hmay := heap_may _ _ rfl (rgs_good z0 (min (len0 / 2) 20))
  generalize heap (rgs z0 (min (len0 / 2) 20)) = s at *
  obtain ⟨D, l⟩ := s
  simp only at hmay ⊢
  repeat (first | (apply G.ex (hd := rfl); case h => (first | exact Ex.move rfl | exact Ex.extract rfl rfl | exact Ex.assign rfl)) | refine G.nil ?_ | refine GC.seq ?_ | refine GC.region ?_ | refine GE.then_normal ?_)
  first | refine G.call (caps := []) (rangeOf_sp a1 a2) rfl rfl rfl rfl (by repeat (first | exact Takes.nil | apply Takes.dup rfl | apply Takes.cons | exact Take1.here | apply Take1.there)) ?_ | refine G.callU (caps := []) (rangeOf_sp a1 a2) rfl rfl rfl (by repeat (first | exact Takes.nil | apply Takes.dup rfl | apply Takes.cons | exact Take1.here | apply Take1.there)) ?_
  rintro v_ give_ ⟨rfl, rfl⟩ rs_ hrs_
  simp only [List.cons_append, List.nil_append] at hrs_
  subst hrs_
  obtain ⟨g1, g2, g3⟩ := rangeOf_bd a1 a2
  generalize rangeOf a1 a2 = r at *
  obtain ⟨r1, r2⟩ := r
  simp only at g1 g2 g3
  repeat (first | fail)
  refine G.alloc rfl (fun b => ?_)
  repeat (first | refine G.storeBA rfl rfl rfl rfl rfl ?_ | (apply G.ex (hd := rfl); case h => (first | exact Ex.move rfl | exact Ex.loadBA rfl rfl rfl)) | refine G.nil ?_ | refine GC.seq ?_ | refine GC.region ?_ | refine GE.then_normal ?_)
  have had := added D l (r1, r2) hmay.ch
  have hd0 := hmay.d0
  have hhi := hmay.hi
  have hlen := hmay.len
  by_cases hfull : 16 < (add D l (r1, r2)).2.length
  · have h16 : l.length = 16 := by have := had.len; omega
    first | refine G.call (caps := []) (add_full_sp D oa l.length oc l r1 r2 rfl hmay (by omega) (by omega) (by omega) hfull) rfl rfl rfl rfl (by repeat (first | exact Takes.nil | apply Takes.dup rfl | apply Takes.cons | exact Take1.here | apply Take1.there)) ?_ | refine G.callU (caps := []) (add_full_sp D oa l.length oc l r1 r2 rfl hmay (by omega) (by omega) (by omega) hfull) rfl rfl rfl (by repeat (first | exact Takes.nil | apply Takes.dup rfl | apply Takes.cons | exact Take1.here | apply Take1.there)) ?_
    rintro v_ give_ ⟨rfl, rfl⟩ rs_ hrs_
    simp only [List.cons_append, List.nil_append] at hrs_
    subst hrs_
    repeat (first | (apply G.ex (hd := rfl); case h => (first | exact Ex.move rfl | exact Ex.eqI rfl rfl | exact Ex.lenSl rfl | exact Ex.extract rfl rfl | exact Ex.assign rfl | exact Ex.notB rfl | exact Ex.pickT rfl (by first | assumption | omega) rfl)) | refine G.g_tt rfl rfl (by first | assumption | omega) ?_ | refine G.nil ?_ | refine GC.seq ?_ | refine GC.region ?_ | refine GC.skip ?_ | refine GC.ret ?_ | refine GE.then_normal ?_ | refine GE.then_ret ?_ | refine GC.cond_yes rfl (by first | assumption | omega) ?_ | refine GC.cond_f rfl ?_)
    refine GE.ret (by first | exact .inl rfl | exact .inr rfl) (by first | exact res0 Try.results13 | exact res1 Try.results13 rfl | exact res2 Try.results13 rfl rfl | exact resR1 Try.results13 (by first | exact RV.tmp rfl | exact RV.cell rfl rfl | exact RV.cell1 rfl) | exact resR2 Try.results13 (by first | exact RV.tmp rfl | exact RV.cell rfl rfl | exact RV.cell1 rfl) (by first | exact RV.tmp rfl | exact RV.cell rfl rfl | exact RV.cell1 rfl) | exact resR3 Try.results13 (by first | exact RV.tmp rfl | exact RV.cell rfl rfl | exact RV.cell1 rfl) (by first | exact RV.tmp rfl | exact RV.cell rfl rfl | exact RV.cell1 rfl) (by first | exact RV.tmp rfl | exact RV.cell rfl rfl | exact RV.cell1 rfl)) ⟨congrArg Value.bool (decide_eq_true (by omega)), rfl⟩ (by repeat (first | exact Takes.nil | apply Takes.dup rfl | apply Takes.cons | exact Take1.here | apply Take1.there)) (by repeat (first | exact Subs.refl | refine Subs.skip ?_))
  · first | refine G.call (caps := []) (add_sp D oa l.length oc l r1 r2 rfl hmay (by omega) (by omega) (by omega) (by omega)) rfl rfl rfl rfl (by repeat (first | exact Takes.nil | apply Takes.dup rfl | apply Takes.cons | exact Take1.here | apply Take1.there)) ?_ | refine G.callU (caps := []) (add_sp D oa l.length oc l r1 r2 rfl hmay (by omega) (by omega) (by omega) (by omega)) rfl rfl rfl (by repeat (first | exact Takes.nil | apply Takes.dup rfl | apply Takes.cons | exact Take1.here | apply Take1.there)) ?_
    rintro v_ give_ ⟨pa, pc, rfl, rfl⟩ rs_ hrs_
    simp only [List.cons_append, List.nil_append] at hrs_
    subst hrs_
    obtain ⟨b1, b2, b3, b4, b5, b6⟩ := had
    generalize add D l (r1, r2) = s' at *
    obtain ⟨E, m⟩ := s'
    simp only at b1 b2 b3 b4 b5 b6 hfull ⊢
    have hmay' : May E m := ⟨by omega, b1, by omega, by omega⟩
    repeat (first | (apply G.ex (hd := rfl); case h => (first | exact Ex.move rfl | exact Ex.eqI rfl rfl | exact Ex.extract rfl rfl | exact Ex.assign rfl | exact Ex.notB rfl)) | refine G.nil ?_ | refine GC.seq ?_ | refine GC.region ?_ | refine GC.skip ?_ | refine GE.then_normal ?_ | refine GC.cond_no rfl (by first | assumption | omega) ?_ | refine GC.cond_f rfl ?_)
    first | refine G.call (caps := []) (picked_sp a3 220 (by omega) (by omega)) rfl rfl rfl rfl (by repeat (first | exact Takes.nil | apply Takes.dup rfl | apply Takes.cons | exact Take1.here | apply Take1.there)) ?_ | refine G.callU (caps := []) (picked_sp a3 220 (by omega) (by omega)) rfl rfl rfl (by repeat (first | exact Takes.nil | apply Takes.dup rfl | apply Takes.cons | exact Take1.here | apply Take1.there)) ?_
    rintro v_ give_ ⟨rfl, rfl⟩ rs_ hrs_
    simp only [List.cons_append, List.nil_append] at hrs_
    subst hrs_
    generalize a3 % 220 = x at *
    repeat (first | (apply G.ex (hd := rfl); case h => (first | exact Ex.move rfl | exact Ex.geq rfl rfl | exact Ex.eqI rfl rfl | exact Ex.assign rfl | exact Ex.pickT rfl (by first | assumption | omega) rfl)) | refine G.g_tt rfl rfl (by first | assumption | omega) ?_ | refine G.nil ?_ | refine GC.seq ?_ | refine GC.region ?_ | refine GE.then_normal ?_)
    first | refine G.call (caps := []) (may_sp (.sl pa m.length pc 2 (flat eR m)) E pa m.length pc m rfl hmay') rfl rfl rfl rfl (by repeat (first | exact Takes.nil | apply Takes.dup rfl | apply Takes.cons | exact Take1.here | apply Take1.there)) ?_ | refine G.callU (caps := []) (may_sp (.sl pa m.length pc 2 (flat eR m)) E pa m.length pc m rfl hmay') rfl rfl rfl (by repeat (first | exact Takes.nil | apply Takes.dup rfl | apply Takes.cons | exact Take1.here | apply Take1.there)) ?_
    rintro v_ give_ ⟨rfl, rfl⟩ rs_ hrs_
    simp only [List.cons_append, List.nil_append] at hrs_
    subst hrs_
    repeat (first | (apply G.ex (hd := rfl); case h => (first | exact Ex.move rfl | exact Ex.pickT rfl (by first | assumption | omega) rfl)) | refine G.yes rfl rfl ?_)
    first | refine G.call (caps := []) (has_sp (.sl pa m.length pc 2 (flat eR m)) E x pa m.length pc m rfl (by omega)) rfl rfl rfl rfl (by repeat (first | exact Takes.nil | apply Takes.dup rfl | apply Takes.cons | exact Take1.here | apply Take1.there)) ?_ | refine G.callU (caps := []) (has_sp (.sl pa m.length pc 2 (flat eR m)) E x pa m.length pc m rfl (by omega)) rfl rfl rfl (by repeat (first | exact Takes.nil | apply Takes.dup rfl | apply Takes.cons | exact Take1.here | apply Take1.there)) ?_
    rintro v_ give_ ⟨rfl, rfl⟩ rs_ hrs_
    simp only [List.cons_append, List.nil_append] at hrs_
    subst hrs_
    repeat (first | (apply G.ex (hd := rfl); case h => (first | exact Ex.move rfl)) | refine G.yes rfl rfl ?_)
    first | refine G.call (caps := []) (has_sp (.sl oa l.length oc 2 (flat eR l)) D x oa l.length oc l rfl (by omega)) rfl rfl rfl rfl (by repeat (first | exact Takes.nil | apply Takes.dup rfl | apply Takes.cons | exact Take1.here | apply Take1.there)) ?_ | refine G.callU (caps := []) (has_sp (.sl oa l.length oc 2 (flat eR l)) D x oa l.length oc l rfl (by omega)) rfl rfl rfl (by repeat (first | exact Takes.nil | apply Takes.dup rfl | apply Takes.cons | exact Take1.here | apply Take1.there)) ?_
    rintro v_ give_ ⟨rfl, rfl⟩ rs_ hrs_
    simp only [List.cons_append, List.nil_append] at hrs_
    subst hrs_
    have hk : hasB E m x = (hasB D l x || (decide (r1 ≤ x) && decide (x < r2))) := by
      rw [Bool.eq_iff_iff, hasB_iff, b5, Bool.or_eq_true, hasB_iff, Bool.and_eq_true, decide_eq_true_eq, decide_eq_true_eq]
    rw [hk]
    clear hk
    generalize hasB D l x = B at *
    cases B
    · by_cases hx1 : r1 ≤ x
      · repeat (first | (apply G.ex (hd := rfl); case h => (first | exact Ex.move rfl | exact Ex.fieldB rfl | exact Ex.loadB rfl rfl | exact Ex.lss rfl rfl | exact Ex.leq rfl rfl | exact Ex.assign rfl | exact Ex.eqB rfl rfl | exact Ex.pickT rfl (by first | assumption | omega) rfl | exact Ex.pickLT rfl rfl | exact Ex.pickLF rfl rfl)) | refine G.g_tt rfl rfl (by first | assumption | omega) ?_ | refine G.yes rfl rfl ?_ | refine G.nil ?_ | refine GC.ret ?_ | refine GE.then_normal ?_)
        refine GE.ret (by first | exact .inl rfl | exact .inr rfl) (by first | exact res0 Try.results13 | exact res1 Try.results13 rfl | exact res2 Try.results13 rfl rfl | exact resR1 Try.results13 (by first | exact RV.tmp rfl | exact RV.cell rfl rfl | exact RV.cell1 rfl) | exact resR2 Try.results13 (by first | exact RV.tmp rfl | exact RV.cell rfl rfl | exact RV.cell1 rfl) (by first | exact RV.tmp rfl | exact RV.cell rfl rfl | exact RV.cell1 rfl) | exact resR3 Try.results13 (by first | exact RV.tmp rfl | exact RV.cell rfl rfl | exact RV.cell1 rfl) (by first | exact RV.tmp rfl | exact RV.cell rfl rfl | exact RV.cell1 rfl) (by first | exact RV.tmp rfl | exact RV.cell rfl rfl | exact RV.cell1 rfl)) ⟨congrArg Value.bool (by simp [hx1]), rfl⟩ (by repeat (first | exact Takes.nil | apply Takes.dup rfl | apply Takes.cons | exact Take1.here | apply Take1.there)) (by repeat (first | exact Subs.refl | refine Subs.skip ?_))
      · repeat (first | (apply G.ex (hd := rfl); case h => (first | exact Ex.move rfl | exact Ex.fieldB rfl | exact Ex.loadB rfl rfl | exact Ex.leq rfl rfl | exact Ex.assign rfl | exact Ex.eqB rfl rfl | exact Ex.pickF rfl (by first | assumption | omega) rfl | exact Ex.pickLT rfl rfl | exact Ex.pickLF rfl rfl)) | refine G.g_tf rfl rfl (by first | assumption | omega) rfl ?_ | refine G.yes rfl rfl ?_ | refine G.nil ?_ | refine GC.ret ?_ | refine GE.then_normal ?_)
        refine GE.ret (by first | exact .inl rfl | exact .inr rfl) (by first | exact res0 Try.results13 | exact res1 Try.results13 rfl | exact res2 Try.results13 rfl rfl | exact resR1 Try.results13 (by first | exact RV.tmp rfl | exact RV.cell rfl rfl | exact RV.cell1 rfl) | exact resR2 Try.results13 (by first | exact RV.tmp rfl | exact RV.cell rfl rfl | exact RV.cell1 rfl) (by first | exact RV.tmp rfl | exact RV.cell rfl rfl | exact RV.cell1 rfl) | exact resR3 Try.results13 (by first | exact RV.tmp rfl | exact RV.cell rfl rfl | exact RV.cell1 rfl) (by first | exact RV.tmp rfl | exact RV.cell rfl rfl | exact RV.cell1 rfl) (by first | exact RV.tmp rfl | exact RV.cell rfl rfl | exact RV.cell1 rfl)) ⟨congrArg Value.bool (by simp [hx1]), rfl⟩ (by repeat (first | exact Takes.nil | apply Takes.dup rfl | apply Takes.cons | exact Take1.here | apply Take1.there)) (by repeat (first | exact Subs.refl | refine Subs.skip ?_))
    · repeat (first | (apply G.ex (hd := rfl); case h => (first | exact Ex.move rfl | exact Ex.assign rfl | exact Ex.eqB rfl rfl | exact Ex.pickLT rfl rfl)) | refine G.g_un rfl rfl rfl ?_ | refine G.yes rfl rfl ?_ | refine G.l_ft rfl rfl rfl ?_ | refine G.nil ?_ | refine GC.ret ?_ | refine GE.then_normal ?_)
      refine GE.ret (by first | exact .inl rfl | exact .inr rfl) (by first | exact res0 Try.results13 | exact res1 Try.results13 rfl | exact res2 Try.results13 rfl rfl | exact resR1 Try.results13 (by first | exact RV.tmp rfl | exact RV.cell rfl rfl | exact RV.cell1 rfl) | exact resR2 Try.results13 (by first | exact RV.tmp rfl | exact RV.cell rfl rfl | exact RV.cell1 rfl) (by first | exact RV.tmp rfl | exact RV.cell rfl rfl | exact RV.cell1 rfl) | exact resR3 Try.results13 (by first | exact RV.tmp rfl | exact RV.cell rfl rfl | exact RV.cell1 rfl) (by first | exact RV.tmp rfl | exact RV.cell rfl rfl | exact RV.cell1 rfl) (by first | exact RV.tmp rfl | exact RV.cell rfl rfl | exact RV.cell1 rfl)) ⟨congrArg Value.bool (by simp), rfl⟩ (by repeat (first | exact Takes.nil | apply Takes.dup rfl | apply Takes.cons | exact Take1.here | apply Take1.there)) (by repeat (first | exact Subs.refl | refine Subs.skip ?_))
set_option maxHeartbeats 4000000 in
theorem holeGapsAll_sp (a0 : Option Addr) (len0 cap0 : Nat) (z0 : List Int) (hl0 : z0.length = len0) (hb0 : len0 ≤ 9223372036854775807) (hw0 : ∀ z ∈ z0, -9223372036854775808 ≤ z ∧ z ≤ 9223372036854775807) (a1 : Int) (ha1 : -9223372036854775808 ≤ a1 ∧ a1 ≤ 9223372036854775807) :
    Spec Try.prog 14 [.slice a0 len0 cap0, .int .i64 a1] [.sl a0 len0 cap0 1 (flat (eI .i64) z0)] fun v give => v = .bool true ∧ give = [] := by
  refine Spec.intro Try.func14 rfl Try.ntmps14 rfl fun w0 rest rs_ hrs_ => ?_
  simp only [List.cons_append, List.nil_append] at hrs_
  subst hrs_
  repeat (first | (apply G.ex (hd := rfl); case h => (first | exact Ex.move rfl | exact Ex.assign rfl)) | refine G.nil ?_ | refine GC.seq ?_ | refine GC.region ?_ | refine GE.then_normal ?_)
  first | refine G.call (caps := []) (heap_sp a0 len0 cap0 z0 20 hl0 hb0 (by omega)) rfl rfl rfl rfl (by repeat (first | exact Takes.nil | apply Takes.dup rfl | apply Takes.cons | exact Take1.here | apply Take1.there)) ?_ | refine G.callU (caps := []) (heap_sp a0 len0 cap0 z0 20 hl0 hb0 (by omega)) rfl rfl rfl (by repeat (first | exact Takes.nil | apply Takes.dup rfl | apply Takes.cons | exact Take1.here | apply Take1.there)) ?_
  rintro v_ give_ ⟨oa, oc, rfl, rfl⟩ rs_ hrs_
  simp only [List.cons_append, List.nil_append] at hrs_
  subst hrs_
  have hmay := heap_may _ _ rfl (rgs_good z0 (min (len0 / 2) 20))
  generalize heap (rgs z0 (min (len0 / 2) 20)) = s at *
  obtain ⟨D, l⟩ := s
  simp only at hmay ⊢
  repeat (first | (apply G.ex (hd := rfl); case h => (first | exact Ex.move rfl | exact Ex.extract rfl rfl | exact Ex.assign rfl)) | refine G.nil ?_ | refine GC.seq ?_ | refine GC.region ?_ | refine GE.then_normal ?_)
  first | refine G.call (caps := []) (gaps_sp D oa l.length oc l rfl hmay) rfl rfl rfl rfl (by repeat (first | exact Takes.nil | apply Takes.dup rfl | apply Takes.cons | exact Take1.here | apply Take1.there)) ?_ | refine G.callU (caps := []) (gaps_sp D oa l.length oc l rfl hmay) rfl rfl rfl (by repeat (first | exact Takes.nil | apply Takes.dup rfl | apply Takes.cons | exact Take1.here | apply Take1.there)) ?_
  rintro v_ give_ ⟨ga, gc, rfl, rfl⟩ rs_ hrs_
  simp only [List.cons_append, List.nil_append] at hrs_
  subst hrs_
  have hgl := gaps_len l D
  have hlen := hmay.len
  have hhi := hmay.hi
  have hd0 := hmay.d0
  by_cases h0 : l = []
  · subst h0
    repeat (first | (apply G.ex (hd := rfl); case h => (first | exact Ex.move rfl | exact Ex.gtr rfl rfl | exact Ex.neI rfl rfl | exact Ex.lenSl rfl | exact Ex.extract rfl rfl | exact Ex.assign rfl | exact Ex.notB rfl | exact Ex.pickF rfl (by first | assumption | omega) rfl | exact Ex.pickLF rfl rfl)) | refine G.g_ff rfl rfl (by first | assumption | omega) ?_ | refine G.yes rfl rfl ?_ | refine G.nil ?_ | refine GC.seq ?_ | refine GC.region ?_ | refine GC.block ?_ | refine GC.skip ?_ | refine GE.then_normal ?_ | refine GC.cond_no rfl (by first | assumption | omega) ?_ | refine GC.cond_f rfl ?_)
    refine GC.loop (ι := Unit) (fun _ => True) (fun _ => 0) (fun _ => [(10, .int .i64 D), (11, .int .i64 ((0 : Nat) : Int)), (12, .int .i64 D), (13, .slice oa 0 oc), (14, .int .i64 0)]) (fun _ => [.sl oa 0 oc 2 (flat eR [])]) () trivial (by simp only [fits]; repeat (first | exact trivial | refine And.intro rfl ?_)) (by repeat (first | exact Takes.nil | apply Takes.dup rfl | apply Takes.cons | exact Take1.here | apply Take1.there)) ?_
    rintro _ ht fr_ rs_ hfr_ hrs_
    simp only [List.cons_append, List.nil_append] at hfr_ hrs_
    subst hfr_ hrs_
    repeat (first | (apply G.ex (hd := rfl); case h => (first | exact Ex.move rfl | exact Ex.lss rfl rfl | exact Ex.eqI rfl rfl | exact Ex.lenSl rfl | exact Ex.pickT rfl (by first | assumption | omega) rfl)) | refine G.g_tt rfl rfl (by first | assumption | omega) ?_ | refine G.nil ?_ | refine GC.seq ?_ | refine GC.region ?_ | refine GC.exit ?_ | refine GE.then_normal ?_ | refine GE.then_exit ?_ | refine GE.block_hit ?_ | refine GC.cond_no rfl (by first | assumption | omega) ?_)
    first | refine G.call (caps := []) (may_sp (.sl oa 0 oc 2 (flat eR [])) D oa 0 oc [] rfl hmay) rfl rfl rfl rfl (by repeat (first | exact Takes.nil | apply Takes.dup rfl | apply Takes.cons | exact Take1.here | apply Take1.there)) ?_ | refine G.callU (caps := []) (may_sp (.sl oa 0 oc 2 (flat eR [])) D oa 0 oc [] rfl hmay) rfl rfl rfl (by repeat (first | exact Takes.nil | apply Takes.dup rfl | apply Takes.cons | exact Take1.here | apply Take1.there)) ?_
    rintro v_ give_ ⟨rfl, rfl⟩ rs_ hrs_
    simp only [List.cons_append, List.nil_append] at hrs_
    subst hrs_
    repeat (first | (apply G.ex (hd := rfl); case h => (first | exact Ex.assign rfl | exact Ex.pickT rfl (by first | assumption | omega) rfl)) | refine G.nil ?_ | refine GC.ret ?_ | refine GE.then_normal ?_)
    refine GE.ret (by first | exact .inl rfl | exact .inr rfl) (by first | exact res0 Try.results14 | exact res1 Try.results14 rfl | exact res2 Try.results14 rfl rfl | exact resR1 Try.results14 (by first | exact RV.tmp rfl | exact RV.cell rfl rfl | exact RV.cell1 rfl) | exact resR2 Try.results14 (by first | exact RV.tmp rfl | exact RV.cell rfl rfl | exact RV.cell1 rfl) (by first | exact RV.tmp rfl | exact RV.cell rfl rfl | exact RV.cell1 rfl) | exact resR3 Try.results14 (by first | exact RV.tmp rfl | exact RV.cell rfl rfl | exact RV.cell1 rfl) (by first | exact RV.tmp rfl | exact RV.cell rfl rfl | exact RV.cell1 rfl) (by first | exact RV.tmp rfl | exact RV.cell rfl rfl | exact RV.cell1 rfl)) ⟨rfl, rfl⟩ (by repeat (first | exact Takes.nil | apply Takes.dup rfl | apply Takes.cons | exact Take1.here | apply Take1.there)) (by repeat (first | exact Subs.refl | refine Subs.skip ?_))
  · have h1 : 0 < l.length := List.length_pos_iff.2 h0
    have hE : (l.getD (((l.length : Nat) : Int) - 1).toNat default).2 = last D l := by
      rw [show (((l.length : Nat) : Int) - 1).toNat = l.length - 1 by omega]
      have := (chain_at hmay.ch (l.length - 1) (by omega)).2.2
      rw [show l.length - 1 + 1 = l.length by omega, List.take_length] at this
      exact this.symm
    repeat (first | (apply G.ex (hd := rfl); case h => (first | exact Ex.move rfl | exact Ex.fieldE rfl | exact Ex.sub rfl rfl (by omega) | exact Ex.gtr rfl rfl | exact Ex.neI rfl rfl | exact Ex.lenSl rfl | exact Ex.loadT rfl (by first | omega | (simp; done) | (simp; omega)) rfl | exact Ex.extract rfl rfl | exact Ex.assign rfl | exact Ex.notB rfl | exact Ex.pickF rfl (by first | assumption | omega) rfl | exact Ex.pickLF rfl rfl | exact Ex.indexI rfl rfl (by omega))) | refine G.g_ff rfl rfl (by first | assumption | omega) ?_ | refine G.yes rfl rfl ?_ | refine G.nil ?_ | refine GC.seq ?_ | refine GC.region ?_ | refine GC.block ?_ | refine GC.skip ?_ | refine GE.then_normal ?_ | refine GC.cond_yes rfl (by first | assumption | omega) ?_ | refine GC.cond_no rfl (by first | assumption | omega) ?_)
    rw [hE]
    obtain ⟨T, hT, hT1⟩ : ∃ T : Nat, a1 % (l.length : Int) = T ∧ T < l.length := ⟨(a1 % (l.length : Int)).toNat, by have := Int.emod_nonneg a1 (show (l.length : Int) ≠ 0 by omega); omega, by have := Int.emod_nonneg a1 (show (l.length : Int) ≠ 0 by omega); have := Int.emod_lt_of_pos a1 (show 0 < (l.length : Int) by omega); omega⟩
    refine GC.loop (ι := Nat × Option Addr × Nat × Int × List R) (fun i => i.1 ≤ l.length ∧ Filled D l ((List.range i.1).map fun j => (gaps D l).getD ((j + T) % l.length) default) i.2.2.2) (fun i => l.length - i.1) (fun i => [(1, .int .i64 a1), (5, .int .i64 D), (6, .slice oa l.length oc), (8, .slice ga l.length gc), (10, .int .i64 (last D l)), (11, .int .i64 (l.length : Int)), (12, .int .i64 i.2.2.2.1), (13, .slice i.2.1 i.2.2.2.2.length i.2.2.1), (14, .int .i64 (i.1 : Int))]) (fun i => [.sl oa l.length oc 2 (flat eR l), .sl ga l.length gc 2 (flat eR (gaps D l)), .sl i.2.1 i.2.2.2.2.length i.2.2.1 2 (flat eR i.2.2.2.2)]) (0, oa, oc, D, l) ⟨Nat.zero_le _, hmay, fun n => by simp [inn]⟩ (by simp only [fits]; repeat (first | exact trivial | refine And.intro rfl ?_)) (by repeat (first | exact Takes.nil | apply Takes.dup rfl | apply Takes.cons | exact Take1.here | apply Take1.there)) ?_
    rintro ⟨i, ra, rc, E, m⟩ ⟨hi, hF⟩ fr_ rs_ hfr_ hrs_
    simp only [List.cons_append, List.nil_append] at hfr_ hrs_
    subst hfr_ hrs_
    simp only at hi hF
    repeat (first | (apply G.ex (hd := rfl); case h => (first | exact Ex.move rfl | exact Ex.lss rfl rfl)) | refine G.nil ?_ | refine GC.seq ?_ | refine GC.region ?_ | refine GE.then_normal ?_)
    refine GC.cond_dec rfl (fun hlt => ?_) (fun hlt => ?_)
    · have hlt : i < l.length := by omega
      repeat (first | (apply G.ex (hd := rfl); case h => (first | exact Ex.move rfl)) | refine GC.seq ?_ | refine GC.region ?_ | refine GC.block ?_ | refine GC.skip ?_ | refine GE.then_normal ?_)
      first | refine G.call (caps := []) (picked_sp a1 l.length (by omega) (by omega)) rfl rfl rfl rfl (by repeat (first | exact Takes.nil | apply Takes.dup rfl | apply Takes.cons | exact Take1.here | apply Take1.there)) ?_ | refine G.callU (caps := []) (picked_sp a1 l.length (by omega) (by omega)) rfl rfl rfl (by repeat (first | exact Takes.nil | apply Takes.dup rfl | apply Takes.cons | exact Take1.here | apply Take1.there)) ?_
      rintro v_ give_ ⟨rfl, rfl⟩ rs_ hrs_
      simp only [List.cons_append, List.nil_append] at hrs_
      subst hrs_
      rw [hT]
      have hk1 : ((i : Int) + (T : Int)) % (l.length : Int) = (((i + T) % l.length : Nat) : Int) := by rw [← Int.natCast_add, ← Int.natCast_emod]
      have hk0 : (i + T) % l.length < l.length := Nat.mod_lt _ h1
      have hg := getD_mem' (gaps D l) ((i + T) % l.length) (by omega)
      obtain ⟨x1, x2, x3, x4, x5⟩ := gaps_mem l D hmay.ch _ hg
      obtain ⟨y1, y2⟩ := hF.step hmay hg
      have hF' : Filled D l ((List.range (i + 1)).map fun j => (gaps D l).getD ((j + T) % l.length) default) (add E m ((gaps D l).getD ((i + T) % l.length) default)) := by
        rw [List.range_succ, List.map_append]; exact y2
      clear y2 hg
      first | (apply G.ex (hd := rfl); case h => (first | exact Ex.add rfl rfl (by omega)))
      first | (apply G.ex (hd := rfl); case h => (first | exact Ex.move rfl))
      first | (apply G.ex (hd := rfl); case h => (first | exact Ex.rem rfl rfl (by omega)))
      rw [hk1]
      clear hk1
      generalize (i + T) % l.length = k at *
      repeat (first | (apply G.ex (hd := rfl); case h => (first | exact Ex.indexN rfl rfl (by first | omega | (simp; done) | (simp; omega)) | exact Ex.loadTA rfl (by first | omega | (simp; done) | (simp; omega)))))
      refine G.alloc rfl (fun b => ?_)
      repeat (first | refine G.storeBA rfl rfl rfl rfl rfl ?_ | (apply G.ex (hd := rfl); case h => (first | exact Ex.move rfl | exact Ex.fieldB rfl | exact Ex.loadB rfl rfl | exact Ex.geq rfl rfl)) | refine G.g_ff rfl rfl (by first | assumption | omega) ?_ | refine G.nil ?_ | refine GC.seq ?_ | refine GC.region ?_ | refine GE.then_normal ?_)
      generalize (gaps D l).getD k default = g at *
      obtain ⟨g1, g2⟩ := g
      simp only at x1 x2 x3 x4 x5 y1
      repeat (first | fail)
      first | refine G.call (caps := []) (has_sp (.sl oa l.length oc 2 (flat eR l)) D g1 oa l.length oc l rfl (by omega)) rfl rfl rfl rfl (by repeat (first | exact Takes.nil | apply Takes.dup rfl | apply Takes.cons | exact Take1.here | apply Take1.there)) ?_ | refine G.callU (caps := []) (has_sp (.sl oa l.length oc 2 (flat eR l)) D g1 oa l.length oc l rfl (by omega)) rfl rfl rfl (by repeat (first | exact Takes.nil | apply Takes.dup rfl | apply Takes.cons | exact Take1.here | apply Take1.there)) ?_
      rintro v_ give_ ⟨rfl, rfl⟩ rs_ hrs_
      simp only [List.cons_append, List.nil_append] at hrs_
      subst hrs_
      have hno : hasB D l g1 = false := by
        rw [Bool.eq_false_iff, ne_eq, hasB_iff]
        rintro (k | k)
        · omega
        · exact x4 k
      rw [hno]
      repeat (first | (apply G.ex (hd := rfl); case h => (first | exact Ex.move rfl | exact Ex.pickF rfl (by first | assumption | omega) rfl | exact Ex.loadBA rfl rfl rfl)) | refine G.nil ?_ | refine GC.seq ?_ | refine GC.region ?_ | refine GC.skip ?_ | refine GE.then_normal ?_ | refine GC.cond_f rfl ?_)
      first | refine G.call (caps := []) (add_sp E ra m.length rc m g1 g2 rfl hF.may (by omega) (by omega) (by omega) y1) rfl rfl rfl rfl (by repeat (first | exact Takes.nil | apply Takes.dup rfl | apply Takes.cons | exact Take1.here | apply Take1.there)) ?_ | refine G.callU (caps := []) (add_sp E ra m.length rc m g1 g2 rfl hF.may (by omega) (by omega) (by omega) y1) rfl rfl rfl (by repeat (first | exact Takes.nil | apply Takes.dup rfl | apply Takes.cons | exact Take1.here | apply Take1.there)) ?_
      rintro v_ give_ ⟨pa, pc, rfl, rfl⟩ rs_ hrs_
      simp only [List.cons_append, List.nil_append] at hrs_
      subst hrs_
      generalize add E m (g1, g2) = s' at *
      obtain ⟨E', m'⟩ := s'
      simp only
      repeat (first | (apply G.ex (hd := rfl); case h => (first | exact Ex.move rfl | exact Ex.add rfl rfl (by omega) | exact Ex.neI rfl rfl | exact Ex.extract rfl rfl | exact Ex.assign rfl)) | refine G.nil ?_ | refine GC.seq ?_ | refine GC.region ?_ | refine GC.skip ?_ | refine GE.then_normal ?_ | refine GE.block_normal ?_ | refine GC.cond_no rfl (by first | assumption | omega) ?_)
      refine GE.loop (i + 1, pa, pc, E', m') ⟨by simp only; omega, hF'⟩ (by simp only; omega) (by simp only [fits]; repeat (first | exact trivial | refine And.intro rfl ?_)) (by repeat (first | exact Takes.nil | apply Takes.dup rfl | apply Takes.cons | exact Take1.here | apply Take1.there)) (by repeat (first | exact Subs.refl | refine Subs.skip ?_))
    · obtain rfl : i = l.length := by omega
      obtain ⟨e1, e2⟩ := hF.done hmay fun g => by
        have := turn_mem (fun j => (gaps D l).getD j default) l.length T hT1 g
        constructor
        · intro h
          obtain ⟨j, hj, rfl⟩ := List.mem_map.1 h
          exact getD_mem' _ _ (by rw [hgl]; exact Nat.mod_lt _ h1)
        · intro h
          obtain ⟨j, hj, e⟩ := List.getElem_of_mem h
          obtain ⟨i, hi, e'⟩ := this.2 ⟨j, by omega, by rw [List.getD_eq_getElem?_getD, List.getElem?_eq_getElem hj]; exact e⟩
          exact List.mem_map.2 ⟨i, List.mem_range.2 hi, e'⟩
      simp only at e1 e2
      subst e1 e2
      repeat (first | (apply G.ex (hd := rfl); case h => (first | exact Ex.move rfl | exact Ex.eqI rfl rfl | exact Ex.lenSl rfl | exact Ex.pickT rfl (by first | assumption | omega) rfl)) | refine G.g_tt rfl rfl (by first | assumption | omega) ?_ | refine G.yes rfl rfl ?_ | refine GC.seq ?_ | refine GC.region ?_ | refine GC.exit ?_ | refine GE.then_normal ?_ | refine GE.then_exit ?_ | refine GE.block_hit ?_)
      first | refine G.call (caps := []) (may_sp (.sl ra 0 rc 2 (flat eR [])) (last D l) ra 0 rc [] rfl hF.may) rfl rfl rfl rfl (by repeat (first | exact Takes.nil | apply Takes.dup rfl | apply Takes.cons | exact Take1.here | apply Take1.there)) ?_ | refine G.callU (caps := []) (may_sp (.sl ra 0 rc 2 (flat eR [])) (last D l) ra 0 rc [] rfl hF.may) rfl rfl rfl (by repeat (first | exact Takes.nil | apply Takes.dup rfl | apply Takes.cons | exact Take1.here | apply Take1.there)) ?_
      rintro v_ give_ ⟨rfl, rfl⟩ rs_ hrs_
      simp only [List.cons_append, List.nil_append] at hrs_
      subst hrs_
      repeat (first | (apply G.ex (hd := rfl); case h => (first | exact Ex.assign rfl | exact Ex.pickLT rfl rfl)) | refine G.nil ?_ | refine GC.ret ?_ | refine GE.then_normal ?_)
      refine GE.ret (by first | exact .inl rfl | exact .inr rfl) (by first | exact res0 Try.results14 | exact res1 Try.results14 rfl | exact res2 Try.results14 rfl rfl | exact resR1 Try.results14 (by first | exact RV.tmp rfl | exact RV.cell rfl rfl | exact RV.cell1 rfl) | exact resR2 Try.results14 (by first | exact RV.tmp rfl | exact RV.cell rfl rfl | exact RV.cell1 rfl) (by first | exact RV.tmp rfl | exact RV.cell rfl rfl | exact RV.cell1 rfl) | exact resR3 Try.results14 (by first | exact RV.tmp rfl | exact RV.cell rfl rfl | exact RV.cell1 rfl) (by first | exact RV.tmp rfl | exact RV.cell rfl rfl | exact RV.cell1 rfl) (by first | exact RV.tmp rfl | exact RV.cell rfl rfl | exact RV.cell1 rfl)) ⟨rfl, rfl⟩ (by repeat (first | exact Takes.nil | apply Takes.dup rfl | apply Takes.cons | exact Take1.here | apply Take1.there)) (by repeat (first | exact Subs.refl | refine Subs.skip ?_))
end hole
end Go.Proofs.Ytomibkfpeiceoaa
