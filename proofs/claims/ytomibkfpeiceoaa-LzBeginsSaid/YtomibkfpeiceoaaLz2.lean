/-
  CONTRACTS of lz.Parse, lz.Expand and of packthreadkeep's Few and lzSure, by the kit.
-/
import Derived.Test.YtomibkfpeiceoaaLz
namespace Go.Proofs.Ytomibkfpeiceoaa
open Go.RowKit
attribute [local irreducible] Ex G GC GE Gq FPost LPost
set_option linter.unusedVariables false
set_option linter.unusedSimpArgs false

namespace lz
set_option maxHeartbeats 4000000 in
theorem parse_sp (ao : Option Addr) (n c : Nat) (b : List UInt8) (hl : b.length = n) (hn : n ≤ 4096) :
    Spec Try.prog 26 [.slice ao n c] [.sl ao n c 1 (flat eB b)]
      fun v give => ∃ ao' c', v = .tuple #[.slice ao' (parse b).length c', .int .i64 0] ∧ give = [.sl ao' (parse b).length c' 3 (flat eT (parse b))] := by
  have hpl := parse_len b
  refine Spec.intro Try.func26 rfl Try.ntmps26 rfl fun w0 rest rs_ hrs_ => ?_
  simp only [List.cons_append, List.nil_append] at hrs_
  subst hrs_
  repeat (first | (apply G.ex (hd := rfl); case h => (first | exact Ex.move rfl | exact Ex.gtr rfl rfl | exact Ex.lenSl rfl | exact Ex.assign rfl)) | refine G.nil ?_ | refine GC.seq ?_ | refine GC.region ?_ | refine GC.skip ?_ | refine GE.then_normal ?_ | refine GC.cond_no rfl (by first | assumption | omega) ?_)
  refine G.makeMap eK rfl (fun mb => ?_)
  repeat (first | (apply G.ex (hd := rfl); case h => (first | exact Ex.assign rfl)) | refine G.nil ?_ | refine GC.seq ?_ | refine GC.region ?_ | refine GC.block ?_ | refine GE.then_normal ?_)
  first | refine G.nilvec 51 3 ?_ | refine GC.nilvec 51 3 ?_
  refine GC.conv (fun w_ H_ => H_.starNil) ?_
  refine GC.loop (ι := Nat × List Tok × FD × Option Addr × Nat) (fun i => i.1 ≤ n ∧ i.2.1 ++ pm b (n - i.1) i.1 = parse b ∧ ∀ k, posOf i.2.2.1 k = posK b k i.1) (fun i => n - i.1) (fun i => [(0, .slice ao n c), (4, .map (some mb)), (5, .slice i.2.2.2.1 i.2.1.length i.2.2.2.2), (6, .int .i64 (i.1 : Int))]) (fun i => [.vec 51 3 i.2.2.2.1 i.2.1.length i.2.2.2.2 (flat eT i.2.1), .own (MapR eK mb (fcell i.2.2.1)), .own (Star (fvec i.2.2.1)), .sl ao n c 1 (flat eB b)]) (0, [], [], none, 0) ⟨Nat.zero_le _, by unfold parse; rw [hl]; rfl, fun k => rfl⟩ (by simp only [fits]; repeat (first | exact trivial | refine And.intro rfl ?_)) (by repeat (first | exact Takes.nil | apply Takes.dup rfl | apply Takes.cons | exact Take1.here | apply Take1.there)) ?_
  rintro ⟨a, T, F, oa, oc⟩ ⟨ha, hT, hF⟩ fr_ rs_ hfr_ hrs_
  simp only [List.cons_append, List.nil_append] at hfr_ hrs_
  subst hfr_ hrs_
  simp only at ha hT hF
  repeat (first | (apply G.ex (hd := rfl); case h => (first | exact Ex.move rfl | exact Ex.lss rfl rfl | exact Ex.lenSl rfl)) | refine G.nil ?_ | refine GC.seq ?_ | refine GC.region ?_ | refine GE.then_normal ?_)
  refine GC.cond_dec rfl (fun hlt => ?_) (fun hlt => ?_)
  · have hlt : a < n := by omega
    have hstep := pm_step b a (by omega)
    rw [hl] at hstep
    rw [hstep] at hT
    have hw := tok_wide b a (by omega)
    have hok := tok_ok b a
    have hTl : T.length < (parse b).length := by rw [← hT]; simp
    have hT' : (T ++ [tok b a]) ++ pm b (n - (a + wide (tok b a))) (a + wide (tok b a)) = parse b := by rw [← hT]; simp
    clear hT hstep
    repeat (first | (apply G.ex (hd := rfl); case h => (first | exact Ex.move rfl)) | refine GC.seq ?_ | refine GC.region ?_ | refine GC.block ?_ | refine GC.skip ?_ | refine GE.then_normal ?_)
    first | refine G.call (caps := []) (best_sp mb F ao n c b a hl hn hlt (hF _)) rfl rfl rfl rfl (by repeat (first | exact Takes.nil | apply Takes.dup rfl | apply Takes.cons | exact Take1.here | apply Take1.there)) ?_ | refine G.callU (caps := []) (best_sp mb F ao n c b a hl hn hlt (hF _)) rfl rfl rfl (by repeat (first | exact Takes.nil | apply Takes.dup rfl | apply Takes.cons | exact Take1.here | apply Take1.there)) ?_
    rintro v_ give_ ⟨rfl, rfl⟩ rs_ hrs_
    simp only [List.cons_append, List.nil_append] at hrs_
    subst hrs_
    repeat (first | fail)
    refine G.alloc rfl (fun tb => ?_)
    simp only [eT]
    repeat (first | refine G.storeBA rfl rfl rfl rfl rfl ?_ | (apply G.ex (hd := rfl); case h => (first | exact Ex.fieldB rfl | exact Ex.loadB rfl rfl | exact Ex.eqI rfl rfl)) | refine G.nil ?_ | refine GC.seq ?_ | refine GC.region ?_ | refine GE.then_normal ?_)
    by_cases h0 : (bst b a).2 = 0
    case' pos =>
      have ht : tok b a = ⟨g b a, 0, 0⟩ := by unfold tok; rw [if_pos h0]
      have hz1 : ((bst b a).2 : Int) = 0 := by omega
      have hd0 : (bst b a).1 = 0 := by
        unfold bst at h0 ⊢
        split
        · rename_i h3
          rw [if_pos h3] at h0
          rcases best_cases b a (posK b (key b a) a).reverse (0, 0) with h | ⟨p, _, h, _, h5⟩
          · rw [h]
          · rw [h] at h0; simp only at h0; omega
        · rfl
      rw [h0, hd0]
      have hcat : flat eT T ++ eT ⟨g b a, 0, 0⟩ = flat eT (T ++ [tok b a]) := by rw [ht]; exact flat_snoc ..
      have hmax : max (((0 : Nat)) : Int) 1 = ((wide (tok b a) : Nat) : Int) := by rw [ht]; rfl
    case' neg =>
      have ht : tok b a = ⟨0, (bst b a).1, (bst b a).2⟩ := by unfold tok; rw [if_neg h0]
      have hz1 : ¬ ((bst b a).2 : Int) = 0 := by omega
      have hcat : flat eT T ++ eT ⟨0, (bst b a).1, (bst b a).2⟩ = flat eT (T ++ [tok b a]) := by rw [ht]; exact flat_snoc ..
      have hmax : max (((bst b a).2 : Nat) : Int) 1 = ((wide (tok b a) : Nat) : Int) := by rw [ht]; unfold wide; simp only; omega
    all_goals
      repeat (first | refine G.storeB rfl rfl rfl rfl rfl ?_ | (apply G.ex (hd := rfl); case h => (first | exact Ex.move rfl | exact Ex.fieldB rfl | exact Ex.indexN rfl rfl (by first | omega | (simp; done) | (simp; omega)) | exact Ex.loadT0 rfl (by first | omega | (simp; done) | (simp; omega)) rfl | exact Ex.loadBA rfl rfl rfl)) | refine G.nil ?_ | refine GC.seq ?_ | refine GC.region ?_ | refine GC.skip ?_ | refine GE.then_normal ?_ | refine GC.cond_yes rfl (by first | assumption | omega) ?_ | refine GC.cond_no rfl (by first | assumption | omega) ?_)
      refine G.lit rfl (by rfl) (by rfl) (by rfl) (by rfl) (by rfl) (by rfl) rfl (fun q => ?_)
      refine G.app rfl rfl (by rfl) (by omega) rfl (hcat) (fun o2 c2 rs_ hrs_ => ?_)
      try simp only at hrs_
      subst hrs_
      rw [show T.length + 1 = (T ++ [tok b a]).length by simp]
      refine G.drop ?_
      repeat (first | (apply G.ex (hd := rfl); case h => (first | exact Ex.move rfl | exact Ex.fieldB rfl | exact Ex.loadB rfl rfl | exact Ex.assign rfl | exact Ex.max rfl rfl)) | refine G.nil ?_ | refine GC.seq ?_ | refine GC.region ?_ | refine GC.block ?_ | refine GE.then_normal ?_)
      rw [hmax]
      clear hmax hcat hok ht
      generalize hW : wide (tok b a) = W at *
      have hWp : 1 ≤ W := by rw [← hW]; exact wide_pos _
      generalize T ++ [tok b a] = T' at *
      refine GC.loop (ι := Nat × FD) (fun j => j.1 ≤ W ∧ ∀ k, posOf j.2 k = posK b k (a + j.1)) (fun j => W - j.1) (fun j => [(0, .slice ao n c), (4, .map (some mb)), (5, .slice o2 T'.length c2), (6, .int .i64 ((a + j.1 : Nat) : Int)), (34, .int .i64 (W : Int)), (35, .int .i64 (j.1 : Int))]) (fun j => [.own (MapR eK mb (fcell j.2)), .own (Star (fvec j.2)), .sl ao n c 1 (flat eB b), .vec 51 3 o2 T'.length c2 (flat eT T')]) (0, F) ⟨Nat.zero_le _, hF⟩ (by simp only [fits]; repeat (first | exact trivial | refine And.intro rfl ?_)) (by repeat (first | exact Takes.nil | apply Takes.dup rfl | apply Takes.cons | exact Take1.here | apply Take1.there)) ?_
      rintro ⟨j, F1⟩ ⟨hj, hF1⟩ fr_ rs_ hfr_ hrs_
      simp only [List.cons_append, List.nil_append] at hfr_ hrs_
      subst hfr_ hrs_
      simp only at hj hF1
      repeat (first | (apply G.ex (hd := rfl); case h => (first | exact Ex.lss rfl rfl)) | refine G.nil ?_ | refine GC.seq ?_ | refine GC.region ?_ | refine GE.then_normal ?_)
      refine GC.cond_dec rfl (fun hjt => ?_) (fun hjt => ?_)
      · have hjt : j < W := by omega
        repeat (first | (apply G.ex (hd := rfl); case h => (first | exact Ex.move rfl)) | refine GC.seq ?_ | refine GC.region ?_ | refine GC.block ?_ | refine GC.skip ?_ | refine GE.then_normal ?_)
        first | refine G.call (caps := []) (note_sp mb F1 ao n c b (a + j) hl hn (by omega) hF1) rfl rfl rfl rfl (by repeat (first | exact Takes.nil | apply Takes.dup rfl | apply Takes.cons | exact Take1.here | apply Take1.there)) ?_ | refine G.callU (caps := []) (note_sp mb F1 ao n c b (a + j) hl hn (by omega) hF1) rfl rfl rfl (by repeat (first | exact Takes.nil | apply Takes.dup rfl | apply Takes.cons | exact Take1.here | apply Take1.there)) ?_
        rintro v_ give_ ⟨rfl, F2, hF2, rfl⟩ rs_ hrs_
        simp only [List.cons_append, List.nil_append] at hrs_
        subst hrs_
        repeat (first | (apply G.ex (hd := rfl); case h => (first | exact Ex.move rfl | exact Ex.add rfl rfl (by omega) | exact Ex.assign rfl)) | refine G.nil ?_ | refine GC.region ?_ | refine GE.then_normal ?_ | refine GE.block_normal ?_)
        rw [show ((a + j : Nat) : Int) + 1 = ((a + (j + 1) : Nat) : Int) by omega]
        repeat (first | fail)
        refine GE.loop (j + 1, F2) ⟨by simp only; omega, hF2⟩ (by simp only; omega) (by simp only [fits]; repeat (first | exact trivial | refine And.intro rfl ?_)) (by repeat (first | exact Takes.nil | apply Takes.dup rfl | apply Takes.cons | exact Take1.here | apply Take1.there)) (by repeat (first | exact Subs.refl | refine Subs.skip ?_))
      · obtain rfl : j = W := by omega
        repeat (first | refine GC.exit ?_ | refine GE.then_exit ?_ | refine GE.block_normal ?_ | refine GE.block_hit ?_)
        refine GE.loop (a + j, T', F1, o2, c2) ⟨by simp only; omega, hT', hF1⟩ (by simp only; omega) (by simp only [fits]; repeat (first | exact trivial | refine And.intro rfl ?_)) (by repeat (first | exact Takes.nil | apply Takes.dup rfl | apply Takes.cons | exact Take1.here | apply Take1.there)) (by repeat (first | exact Subs.refl | refine Subs.skip ?_))
  · have hae : a = n := by omega
    subst hae
    have hT2 : T = parse b := by
      rw [← hT, Nat.sub_self]; simp [pm]
    subst hT2
    repeat (first | (apply G.ex (hd := rfl); case h => (first | exact Ex.move rfl | exact Ex.assign rfl)) | refine G.nil ?_ | refine GC.seq ?_ | refine GC.region ?_ | refine GC.ret ?_ | refine GC.exit ?_ | refine GE.then_normal ?_ | refine GE.then_exit ?_ | refine GE.block_hit ?_)
    first | refine G.frz oa ?_ | refine GC.frz oa ?_ | refine GE.frz oa ?_
    refine GE.ret (by first | exact .inl rfl | exact .inr rfl) (by first | exact res0 Try.results26 | exact res1 Try.results26 rfl | exact res2 Try.results26 rfl rfl | exact resR1 Try.results26 (by first | exact RV.tmp rfl | exact RV.cell rfl rfl | exact RV.cell1 rfl) | exact resR2 Try.results26 (by first | exact RV.tmp rfl | exact RV.cell rfl rfl | exact RV.cell1 rfl) (by first | exact RV.tmp rfl | exact RV.cell rfl rfl | exact RV.cell1 rfl) | exact resR3 Try.results26 (by first | exact RV.tmp rfl | exact RV.cell rfl rfl | exact RV.cell1 rfl) (by first | exact RV.tmp rfl | exact RV.cell rfl rfl | exact RV.cell1 rfl) (by first | exact RV.tmp rfl | exact RV.cell rfl rfl | exact RV.cell1 rfl)) ⟨_, _, rfl, rfl⟩ (by repeat (first | exact Takes.nil | apply Takes.dup rfl | apply Takes.cons | exact Take1.here | apply Take1.there)) (by repeat (first | exact Subs.refl | refine Subs.skip ?_))
/-- few kinds of bytes -/
theorem few_sp (ao : Option Addr) (n c : Nat) (l : List UInt8) (hl : l.length = n) (hn : n ≤ 9223372036854775807) (kd : Int) (hk1 : 1 ≤ kd) (hk2 : kd ≤ 100) (m : Nat) (hm : m ≤ 1000) :
    Spec Try.prog 25 [.slice ao n c, .int .i64 kd, .int .i64 (m : Int)] [.sl ao n c 1 (flat eB l)] fun v give => ∃ ao' c' X, v = .slice ao' (min n m) c' ∧ X.length = min n m ∧ give = [.vec 5 1 ao' (min n m) c' (flat eB X)] := by
  refine Spec.intro Try.func25 rfl Try.ntmps25 rfl fun w0 rest rs_ hrs_ => ?_
  simp only [List.cons_append, List.nil_append] at hrs_
  subst hrs_
  repeat (first | (apply G.ex (hd := rfl); case h => (first | exact Ex.move rfl | exact Ex.assign rfl)) | refine G.nil ?_ | refine GC.seq ?_ | refine GC.region ?_ | refine GE.then_normal ?_)
  first | refine G.call (caps := []) (octets_sp ao n c l hl hn m (by omega)) rfl rfl rfl rfl (by repeat (first | exact Takes.nil | apply Takes.dup rfl | apply Takes.cons | exact Take1.here | apply Take1.there)) ?_ | refine G.callU (caps := []) (octets_sp ao n c l hl hn m (by omega)) rfl rfl rfl (by repeat (first | exact Takes.nil | apply Takes.dup rfl | apply Takes.cons | exact Take1.here | apply Take1.there)) ?_
  rintro v_ give_ ⟨b1, c1, rfl, rfl⟩ rs_ hrs_
  simp only [List.cons_append, List.nil_append] at hrs_
  subst hrs_
  have hN : min n m ≤ 1000 := by omega
  have hxl : (l.take m).length = min n m := by simp; omega
  generalize min n m = N at *
  generalize l.take m = X0 at *
  repeat (first | (apply G.ex (hd := rfl); case h => (first | exact Ex.assign rfl)) | refine G.nil ?_ | refine GC.seq ?_ | refine GC.region ?_ | refine GC.block ?_ | refine GE.then_normal ?_)
  refine GC.loop (ι := Nat × List UInt8) (fun i => i.1 ≤ N ∧ i.2.length = N) (fun i => N - i.1) (fun i => [(1, .int .i64 kd), (7, .slice b1 N c1), (8, .int .i64 (i.1 : Int))]) (fun i => [.vec 5 1 b1 N c1 (flat eB i.2)]) (0, X0) ⟨Nat.zero_le _, hxl⟩ (by simp only [fits]; repeat (first | exact trivial | refine And.intro rfl ?_)) (by repeat (first | exact Takes.nil | apply Takes.dup rfl | apply Takes.cons | exact Take1.here | apply Take1.there)) ?_
  rintro ⟨i, X⟩ ⟨hi, hX⟩ fr_ rs_ hfr_ hrs_
  simp only [List.cons_append, List.nil_append] at hfr_ hrs_
  subst hfr_ hrs_
  simp only at hi hX
  repeat (first | (apply G.ex (hd := rfl); case h => (first | exact Ex.move rfl | exact Ex.lss rfl rfl | exact Ex.lenSl rfl)) | refine G.nil ?_ | refine GC.seq ?_ | refine GC.region ?_ | refine GE.then_normal ?_)
  refine GC.cond_dec rfl (fun hlt => ?_) (fun hlt => ?_)
  · have hlt : i < N := by omega
    have hx := UInt8.toNat_lt (X.getD i default)
    have hk3 : 0 < kd % 256 := by omega
    repeat (first | (apply G.ex (hd := rfl); case h => (first | exact Ex.move rfl | exact Ex.indexN rfl rfl (by first | omega | (simp; done) | (simp; omega)) | exact Ex.loadT0 rfl (by first | omega | (simp; done) | (simp; omega)) rfl | exact Ex.rem rfl rfl (by omega) | exact Ex.conv8 rfl)) | refine GC.seq ?_ | refine GC.region ?_ | refine GC.block ?_ | refine GC.skip ?_ | refine GE.then_normal ?_)
    have hm1 := Int.emod_nonneg ((X.getD i default).toNat : Int) (show kd % 256 ≠ 0 by omega)
    have hm2 := Int.emod_lt_of_pos ((X.getD i default).toNat : Int) hk3
    first | refine G.storeT0 rfl rfl rfl rfl (by first | omega | (simp; omega)) rfl (byteZ (((X.getD i default).toNat : Int) % (kd % 256))) (set_eB [] _ _ (byteZ (((X.getD i default).toNat : Int) % (kd % 256))) (by rw [byteZ_toNat]; omega)) (fun rs_ hrs_ => ?_) | refine G.storeT rfl rfl rfl rfl (by first | omega | (simp; omega)) rfl (byteZ (((X.getD i default).toNat : Int) % (kd % 256))) (set_eB [] _ _ (byteZ (((X.getD i default).toNat : Int) % (kd % 256))) (by rw [byteZ_toNat]; omega)) (fun rs_ hrs_ => ?_) | refine G.storeTA rfl rfl (by first | omega | (simp; omega)) rfl (byteZ (((X.getD i default).toNat : Int) % (kd % 256))) (set_eB [] _ _ (byteZ (((X.getD i default).toNat : Int) % (kd % 256))) (by rw [byteZ_toNat]; omega)) (fun rs_ hrs_ => ?_)
    try simp only at hrs_
    subst hrs_
    repeat (first | (apply G.ex (hd := rfl); case h => (first | exact Ex.move rfl | exact Ex.add rfl rfl (by omega) | exact Ex.assign rfl)) | refine G.nil ?_ | refine GC.region ?_ | refine GE.then_normal ?_ | refine GE.block_normal ?_)
    refine GE.loop (i + 1, X.set i (byteZ (((X.getD i default).toNat : Int) % (kd % 256)))) ⟨by simp only; omega, by simp [hX]⟩ (by simp only; omega) (by simp only [fits]; repeat (first | exact trivial | refine And.intro rfl ?_)) (by repeat (first | exact Takes.nil | apply Takes.dup rfl | apply Takes.cons | exact Take1.here | apply Take1.there)) (by repeat (first | exact Subs.refl | refine Subs.skip ?_))
  · repeat (first | (apply G.ex (hd := rfl); case h => (first | exact Ex.move rfl | exact Ex.assign rfl)) | refine G.nil ?_ | refine GC.seq ?_ | refine GC.region ?_ | refine GC.ret ?_ | refine GC.exit ?_ | refine GE.then_normal ?_ | refine GE.then_exit ?_ | refine GE.block_hit ?_)
    refine GE.ret (by first | exact .inl rfl | exact .inr rfl) (by first | exact res0 Try.results25 | exact res1 Try.results25 rfl | exact res2 Try.results25 rfl rfl | exact resR1 Try.results25 (by first | exact RV.tmp rfl | exact RV.cell rfl rfl | exact RV.cell1 rfl) | exact resR2 Try.results25 (by first | exact RV.tmp rfl | exact RV.cell rfl rfl | exact RV.cell1 rfl) (by first | exact RV.tmp rfl | exact RV.cell rfl rfl | exact RV.cell1 rfl) | exact resR3 Try.results25 (by first | exact RV.tmp rfl | exact RV.cell rfl rfl | exact RV.cell1 rfl) (by first | exact RV.tmp rfl | exact RV.cell rfl rfl | exact RV.cell1 rfl) (by first | exact RV.tmp rfl | exact RV.cell rfl rfl | exact RV.cell1 rfl)) ⟨_, _, X, rfl, hX, rfl⟩ (by repeat (first | exact Takes.nil | apply Takes.dup rfl | apply Takes.cons | exact Take1.here | apply Take1.there)) (by repeat (first | exact Subs.refl | refine Subs.skip ?_))
set_option maxHeartbeats 4000000 in
theorem expand_sp (ao : Option Addr) (n c : Nat) (l : List Tok) (hl : l.length = n) (hn : n ≤ 4096) (hok : okL [] l) (htot : (exs [] l).length ≤ 4096) :
    Spec Try.prog 27 [.slice ao n c] [.sl ao n c 3 (flat eT l)]
      fun v give => ∃ ao' c', v = .tuple #[.slice ao' (exs [] l).length c', .int .i64 0] ∧ give = [.vec 5 1 ao' (exs [] l).length c' (flat eB (exs [] l))] := by
  refine Spec.intro Try.func27 rfl Try.ntmps27 rfl fun w0 rest rs_ hrs_ => ?_
  simp only [List.cons_append, List.nil_append] at hrs_
  subst hrs_
  repeat (first | (apply G.ex (hd := rfl); case h => (first | exact Ex.move rfl | exact Ex.gtr rfl rfl | exact Ex.lenSl rfl | exact Ex.assign rfl)) | refine G.nil ?_ | refine GC.seq ?_ | refine GC.region ?_ | refine GC.block ?_ | refine GC.skip ?_ | refine GE.then_normal ?_ | refine GC.cond_no rfl (by first | assumption | omega) ?_)
  first | refine G.nilvec 5 1 ?_ | refine GC.nilvec 5 1 ?_
  refine GC.loop (ι := Nat × List UInt8 × Option Addr × Nat) (fun i => i.1 ≤ n ∧ i.2.1 = exs [] (l.take i.1)) (fun i => n - i.1) (fun i => [(4, .slice i.2.2.1 i.2.1.length i.2.2.2), (10, .slice ao n c), (11, .int .i64 (n : Int)), (12, .int .i64 (i.1 : Int))]) (fun i => [.vec 5 1 i.2.2.1 i.2.1.length i.2.2.2 (flat eB i.2.1), .sl ao n c 3 (flat eT l)]) (0, [], none, 0) ⟨Nat.zero_le _, rfl⟩ (by simp only [fits]; repeat (first | exact trivial | refine And.intro rfl ?_)) (by repeat (first | exact Takes.nil | apply Takes.dup rfl | apply Takes.cons | exact Take1.here | apply Take1.there)) ?_
  rintro ⟨k, out, oa, oc⟩ ⟨hk, ho⟩ fr_ rs_ hfr_ hrs_
  simp only [List.cons_append, List.nil_append] at hfr_ hrs_
  subst hfr_ hrs_
  simp only at hk ho
  repeat (first | (apply G.ex (hd := rfl); case h => (first | exact Ex.lss rfl rfl)) | refine G.nil ?_ | refine GC.seq ?_ | refine GC.region ?_ | refine GE.then_normal ?_)
  refine GC.cond_dec rfl (fun hlt => ?_) (fun hlt => ?_)
  · have hlt : k < n := by omega
    have hv := okL_take l [] k hok (by omega)
    have hst : exs [] (l.take (k + 1)) = ex1 out (l.getD k default) := by
      rw [List.take_succ_eq_append_getElem (by omega), exs_snoc, ← ho, List.getD_eq_getElem?_getD, List.getElem?_eq_getElem (by omega)]; rfl
    have hle := exs_len_le l [] (k + 1)
    have hle0 := exs_len_le l [] k
    rw [← ho] at hv hle0
    have hexl := ex1_len out (l.getD k default)
    rw [hst] at hle
    repeat (first | (apply G.ex (hd := rfl); case h => (first | exact Ex.indexN rfl rfl (by first | omega | (simp; done) | (simp; omega)) | exact Ex.loadTA rfl (by first | omega | (simp; done) | (simp; omega)))) | refine GC.seq ?_ | refine GC.region ?_ | refine GC.block ?_ | refine GC.skip ?_ | refine GE.then_normal ?_)
    refine G.alloc rfl (fun tb => ?_)
    generalize l.getD k default = t at *
    obtain ⟨tb_, td, tl⟩ := t
    simp only [eT]
    obtain ⟨v1, v2, v3, v4⟩ := hv
    simp only at v1 v2 v3 v4
    by_cases h0 : tl = 0
    · subst h0
      have hd0 := v1 rfl
      subst hd0
      have hx : ex1 out ⟨tb_, 0, 0⟩ = out ++ [tb_] := rfl
      rw [hx] at hst hle hexl
      have hcat : flat eB out ++ flat eB [tb_] = flat eB (out ++ [tb_]) := (flat_append ..).symm
      repeat (first | refine G.storeBA rfl rfl rfl rfl rfl ?_ | (apply G.ex (hd := rfl); case h => (first | exact Ex.move rfl | exact Ex.fieldB rfl | exact Ex.loadB rfl rfl | exact Ex.lss rfl rfl | exact Ex.leq rfl rfl | exact Ex.gtr rfl rfl | exact Ex.eqI rfl rfl | exact Ex.neI rfl rfl | exact Ex.assign rfl | exact Ex.pickT rfl (by first | assumption | omega) rfl | exact Ex.pickF rfl (by first | assumption | omega) rfl)) | refine G.g_tt rfl rfl (by first | assumption | omega) ?_ | refine G.g_tf rfl rfl (by first | assumption | omega) rfl ?_ | refine G.g_ff rfl rfl (by first | assumption | omega) ?_ | refine G.g_un rfl rfl rfl ?_ | refine G.nil ?_ | refine GC.seq ?_ | refine GC.region ?_ | refine GC.block ?_ | refine GC.skip ?_ | refine GE.then_normal ?_ | refine GE.block_normal ?_ | refine GC.cond_yes rfl (by first | assumption | omega) ?_ | refine GC.cond_no rfl (by first | assumption | omega) ?_ | refine GC.cond_f rfl ?_)
      refine G.lit rfl (by rfl) (by rfl) (by rfl) (by rfl) (by rfl) (by rfl) rfl (fun q => ?_)
      refine G.app rfl rfl (by rfl) (by omega) rfl (hcat) (fun o2 c2 rs_ hrs_ => ?_)
      try simp only at hrs_
      subst hrs_
      rw [show out.length + 1 = (out ++ [tb_]).length by simp]
      refine G.drop ?_
      repeat (first | (apply G.ex (hd := rfl); case h => (first | exact Ex.move rfl | exact Ex.fieldB rfl | exact Ex.loadB rfl rfl | exact Ex.assign rfl)) | refine G.nil ?_ | refine GC.seq ?_ | refine GC.region ?_ | refine GC.block ?_ | refine GE.then_normal ?_)
      generalize out ++ [tb_] = out2 at *
      refine GC.loop (ι := Unit) (fun _ => True) (fun _ => 0) (fun _ => [(4, .slice o2 out2.length c2), (10, .slice ao n c), (11, .int .i64 (n : Int)), (12, .int .i64 (k : Int)), (71, .int .i64 ((0 : Nat) : Int)), (72, .int .i64 0)]) (fun _ => [.vec 5 1 o2 out2.length c2 (flat eB out2), .sl ao n c 3 (flat eT l)]) () trivial (by simp only [fits]; repeat (first | exact trivial | refine And.intro rfl ?_)) (by repeat (first | exact Takes.nil | apply Takes.dup rfl | apply Takes.cons | exact Take1.here | apply Take1.there)) ?_
      rintro _ hu fr_ rs_ hfr_ hrs_
      simp only [List.cons_append, List.nil_append] at hfr_ hrs_
      subst hfr_ hrs_
      repeat (first | (apply G.ex (hd := rfl); case h => (first | exact Ex.move rfl | exact Ex.add rfl rfl (by omega) | exact Ex.lss rfl rfl | exact Ex.gtr rfl rfl | exact Ex.lenSl rfl)) | refine G.nil ?_ | refine GC.seq ?_ | refine GC.region ?_ | refine GC.skip ?_ | refine GC.exit ?_ | refine GE.then_normal ?_ | refine GE.then_exit ?_ | refine GE.block_normal ?_ | refine GE.block_hit ?_ | refine GC.cond_no rfl (by first | assumption | omega) ?_)
      refine GE.loop (k + 1, out2, o2, c2) ⟨by simp only; omega, hst.symm⟩ (by simp only; omega) (by simp only [fits]; repeat (first | exact trivial | refine And.intro rfl ?_)) (by repeat (first | exact Takes.nil | apply Takes.dup rfl | apply Takes.cons | exact Take1.here | apply Take1.there)) (by repeat (first | exact Subs.refl | refine Subs.skip ?_))
    · have hpos : 0 < tl := by omega
      have hb0 := v2 hpos
      subst hb0
      obtain ⟨d1, d2, d3⟩ := v3 hpos
      have hx : ex1 out ⟨0, td, tl⟩ = ext out td tl := by unfold ex1; rw [if_neg h0]
      rw [hx] at hst hle hexl
      repeat (first | refine G.storeBA rfl rfl rfl rfl rfl ?_ | (apply G.ex (hd := rfl); case h => (first | exact Ex.move rfl | exact Ex.fieldB rfl | exact Ex.loadB rfl rfl | exact Ex.lss rfl rfl | exact Ex.leq rfl rfl | exact Ex.gtr rfl rfl | exact Ex.eqI rfl rfl | exact Ex.neI rfl rfl | exact Ex.lenSl rfl | exact Ex.assign rfl | exact Ex.pickT rfl (by first | assumption | omega) rfl | exact Ex.pickF rfl (by first | assumption | omega) rfl)) | refine G.g_tt rfl rfl (by first | assumption | omega) ?_ | refine G.g_tf rfl rfl (by first | assumption | omega) rfl ?_ | refine G.g_ff rfl rfl (by first | assumption | omega) ?_ | refine G.nil ?_ | refine GC.seq ?_ | refine GC.region ?_ | refine GC.block ?_ | refine GC.skip ?_ | refine GE.then_normal ?_ | refine GE.block_normal ?_ | refine GC.cond_no rfl (by first | assumption | omega) ?_ | refine GC.cond_f rfl ?_)
      refine GC.loop (ι := Nat × Option Addr × Nat) (fun j => j.1 ≤ tl) (fun j => tl - j.1) (fun j => [(4, .slice j.2.1 (ext out td j.1).length j.2.2), (6, .pointer (some (badr tb 0))), (10, .slice ao n c), (11, .int .i64 (n : Int)), (12, .int .i64 (k : Int)), (71, .int .i64 (tl : Int)), (72, .int .i64 (j.1 : Int))]) (fun j => [.vec 5 1 j.2.1 (ext out td j.1).length j.2.2 (flat eB (ext out td j.1)), .blk tb 51 (eT ⟨0, td, tl⟩), .sl ao n c 3 (flat eT l)]) (0, oa, oc) (Nat.zero_le _) (by simp only [fits]; repeat (first | exact trivial | refine And.intro rfl ?_)) (by repeat (first | exact Takes.nil | apply Takes.dup rfl | apply Takes.cons | exact Take1.here | apply Take1.there)) ?_
      rintro ⟨j, ja, jc⟩ hj fr_ rs_ hfr_ hrs_
      simp only [List.cons_append, List.nil_append] at hfr_ hrs_
      subst hfr_ hrs_
      simp only at hj
      have hjl := ext_len out td j
      repeat (first | (apply G.ex (hd := rfl); case h => (first | exact Ex.lss rfl rfl)) | refine G.nil ?_ | refine GC.seq ?_ | refine GC.region ?_ | refine GE.then_normal ?_)
      refine GC.cond_dec rfl (fun hjt => ?_) (fun hjt => ?_)
      · have hjt : j < tl := by omega
        have hcat : flat eB (ext out td j) ++ flat eB [g (ext out td j) ((ext out td j).length - td)] = flat eB (ext out td (j + 1)) := (flat_append ..).symm
        have hjl1 := ext_len out td (j + 1)
        have htl := ext_len out td tl
        simp only [eT]
        repeat (first | (apply G.ex (hd := rfl); case h => (first | exact Ex.move rfl | exact Ex.fieldB rfl | exact Ex.loadB rfl rfl | exact Ex.sub rfl rfl (by omega) | exact Ex.lenSl rfl | exact Ex.loadT0 rfl (by first | omega | (simp; done) | (simp; omega)) rfl | exact Ex.indexI rfl rfl (by omega))) | refine GC.seq ?_ | refine GC.region ?_ | refine GC.block ?_ | refine GC.skip ?_ | refine GE.then_normal ?_)
        rw [show ((((ext out td j).length : Nat) : Int) - (td : Int)).toNat = (ext out td j).length - td by omega]
        refine G.lit rfl (by rfl) (by rfl) (by rfl) (by rfl) (by rfl) (by rfl) rfl (fun q => ?_)
        refine G.app rfl rfl (by rfl) (by omega) rfl (hcat) (fun o2 c2 rs_ hrs_ => ?_)
        try simp only at hrs_
        subst hrs_
        rw [show (ext out td j).length + 1 = (ext out td (j + 1)).length by omega]
        refine G.drop ?_
        repeat (first | (apply G.ex (hd := rfl); case h => (first | exact Ex.move rfl | exact Ex.add rfl rfl (by omega) | exact Ex.assign rfl)) | refine G.nil ?_ | refine GC.region ?_ | refine GE.then_normal ?_ | refine GE.block_normal ?_)
        refine GE.loop (j + 1, o2, c2) (by simp only; omega) (by simp only; omega) (by simp only [fits]; repeat (first | exact trivial | refine And.intro rfl ?_)) (by repeat (first | exact Takes.nil | apply Takes.dup rfl | apply Takes.cons | exact Take1.here | apply Take1.there)) (by repeat (first | exact Subs.refl | refine Subs.skip ?_))
      · obtain rfl : j = tl := by omega
        repeat (first | (apply G.ex (hd := rfl); case h => (first | exact Ex.move rfl | exact Ex.add rfl rfl (by omega) | exact Ex.gtr rfl rfl | exact Ex.lenSl rfl)) | refine G.nil ?_ | refine GC.seq ?_ | refine GC.region ?_ | refine GC.skip ?_ | refine GC.exit ?_ | refine GE.then_normal ?_ | refine GE.then_exit ?_ | refine GE.block_normal ?_ | refine GE.block_hit ?_ | refine GC.cond_no rfl (by first | assumption | omega) ?_)
        refine GE.loop (k + 1, ext out td j, ja, jc) ⟨by simp only; omega, hst.symm⟩ (by simp only; omega) (by simp only [fits]; repeat (first | exact trivial | refine And.intro rfl ?_)) (by repeat (first | exact Takes.nil | apply Takes.dup rfl | apply Takes.cons | exact Take1.here | apply Take1.there)) (by repeat (first | exact Subs.refl | refine Subs.skip ?_))
  · have e : k = n := by omega
    subst e
    rw [List.take_of_length_le (by omega)] at ho
    subst ho
    repeat (first | (apply G.ex (hd := rfl); case h => (first | exact Ex.move rfl | exact Ex.assign rfl)) | refine G.nil ?_ | refine GC.seq ?_ | refine GC.region ?_ | refine GC.ret ?_ | refine GC.exit ?_ | refine GE.then_normal ?_ | refine GE.then_exit ?_ | refine GE.block_hit ?_)
    refine GE.ret (by first | exact .inl rfl | exact .inr rfl) (by first | exact res0 Try.results27 | exact res1 Try.results27 rfl | exact res2 Try.results27 rfl rfl | exact resR1 Try.results27 (by first | exact RV.tmp rfl | exact RV.cell rfl rfl | exact RV.cell1 rfl) | exact resR2 Try.results27 (by first | exact RV.tmp rfl | exact RV.cell rfl rfl | exact RV.cell1 rfl) (by first | exact RV.tmp rfl | exact RV.cell rfl rfl | exact RV.cell1 rfl) | exact resR3 Try.results27 (by first | exact RV.tmp rfl | exact RV.cell rfl rfl | exact RV.cell1 rfl) (by first | exact RV.tmp rfl | exact RV.cell rfl rfl | exact RV.cell1 rfl) (by first | exact RV.tmp rfl | exact RV.cell rfl rfl | exact RV.cell1 rfl)) ⟨_, _, rfl, rfl⟩ (by repeat (first | exact Takes.nil | apply Takes.dup rfl | apply Takes.cons | exact Take1.here | apply Take1.there)) (by repeat (first | exact Subs.refl | refine Subs.skip ?_))
theorem sure_sp : Spec Try.prog 28 [] [] fun v give => v = .bool true ∧ give = [] := by
  refine Spec.intro Try.func28 rfl Try.ntmps28 rfl fun w0 rest rs_ hrs_ => ?_
  simp only [List.cons_append, List.nil_append] at hrs_
  subst hrs_
  repeat (first | (apply G.ex (hd := rfl); case h => (first | exact Ex.assign rfl | exact Ex.build rfl rfl)) | refine G.nil ?_ | refine GC.seq ?_ | refine GC.region ?_ | refine GE.then_normal ?_)
  refine G.lit rfl (by rfl) (by rfl) (by rfl) (by rfl) (by rfl) (by rfl) rfl (fun q => ?_)
  first | refine G.frz q ?_ | refine GC.frz q ?_ | refine GE.frz q ?_
  have hx : exs [] [⟨7, 0, 0⟩, ⟨0, 1, 3⟩] = [7, 7, 7, 7] := rfl
  first | refine G.call (caps := []) (expand_sp q 2 2 [⟨7, 0, 0⟩, ⟨0, 1, 3⟩] rfl (by omega) ⟨⟨fun _ => rfl, fun h => absurd h (by decide), fun h => absurd h (by decide), by decide⟩, ⟨fun h => absurd h (by decide), fun _ => rfl, fun _ => by decide, by decide⟩, trivial⟩ (by rw [hx]; decide)) rfl rfl rfl rfl (by repeat (first | exact Takes.nil | apply Takes.dup rfl | apply Takes.cons | exact Take1.here | apply Take1.there)) ?_ | refine G.callU (caps := []) (expand_sp q 2 2 [⟨7, 0, 0⟩, ⟨0, 1, 3⟩] rfl (by omega) ⟨⟨fun _ => rfl, fun h => absurd h (by decide), fun h => absurd h (by decide), by decide⟩, ⟨fun h => absurd h (by decide), fun _ => rfl, fun _ => by decide, by decide⟩, trivial⟩ (by rw [hx]; decide)) rfl rfl rfl (by repeat (first | exact Takes.nil | apply Takes.dup rfl | apply Takes.cons | exact Take1.here | apply Take1.there)) ?_
  rintro v_ give_ ⟨a2, c2, rfl, rfl⟩ rs_ hrs_
  simp only [List.cons_append, List.nil_append] at hrs_
  subst hrs_
  rw [hx]
  repeat (first | (apply G.ex (hd := rfl); case h => (first | exact Ex.move rfl | exact Ex.eqI rfl rfl | exact Ex.extract rfl rfl | exact Ex.assign rfl)) | refine G.g_tt rfl rfl (by first | assumption | omega) ?_ | refine G.nil ?_ | refine GC.seq ?_ | refine GC.region ?_ | refine GE.then_normal ?_)
  refine G.lit rfl (by rfl) (by rfl) (by rfl) (by rfl) (by rfl) (by rfl) rfl (fun q2 => ?_)
  repeat (first | refine G.g_tt rfl rfl (by first | assumption | omega) ?_)
  first | refine G.call (caps := []) (sameBytes_sp (.vec 5 1 a2 (([7, 7, 7, 7] : List UInt8).length) c2 (flat eB [7, 7, 7, 7])) (.vec 5 1 q2 4 4 (flat eB [7, 7, 7, 7])) a2 q2 (([7, 7, 7, 7] : List UInt8).length) c2 4 4 [7, 7, 7, 7] [7, 7, 7, 7] rfl rfl (by decide) (by omega)) rfl rfl rfl rfl (by repeat (first | exact Takes.nil | apply Takes.dup rfl | apply Takes.cons | exact Take1.here | apply Take1.there)) ?_ | refine G.callU (caps := []) (sameBytes_sp (.vec 5 1 a2 (([7, 7, 7, 7] : List UInt8).length) c2 (flat eB [7, 7, 7, 7])) (.vec 5 1 q2 4 4 (flat eB [7, 7, 7, 7])) a2 q2 (([7, 7, 7, 7] : List UInt8).length) c2 4 4 [7, 7, 7, 7] [7, 7, 7, 7] rfl rfl (by decide) (by omega)) rfl rfl rfl (by repeat (first | exact Takes.nil | apply Takes.dup rfl | apply Takes.cons | exact Take1.here | apply Take1.there)) ?_
  rintro v_ give_ ⟨rfl, rfl⟩ rs_ hrs_
  simp only [List.cons_append, List.nil_append] at hrs_
  subst hrs_
  rw [decide_eq_true (rfl : ([7, 7, 7, 7] : List UInt8) = [7, 7, 7, 7])]
  repeat (first | (apply G.ex (hd := rfl); case h => (first | exact Ex.assign rfl | exact Ex.pickT rfl (by first | assumption | omega) rfl)) | refine G.nil ?_ | refine GC.ret ?_ | refine GE.then_normal ?_)
  refine GE.ret (by first | exact .inl rfl | exact .inr rfl) (by first | exact res0 Try.results28 | exact res1 Try.results28 rfl | exact res2 Try.results28 rfl rfl | exact resR1 Try.results28 (by first | exact RV.tmp rfl | exact RV.cell rfl rfl | exact RV.cell1 rfl) | exact resR2 Try.results28 (by first | exact RV.tmp rfl | exact RV.cell rfl rfl | exact RV.cell1 rfl) (by first | exact RV.tmp rfl | exact RV.cell rfl rfl | exact RV.cell1 rfl) | exact resR3 Try.results28 (by first | exact RV.tmp rfl | exact RV.cell rfl rfl | exact RV.cell1 rfl) (by first | exact RV.tmp rfl | exact RV.cell rfl rfl | exact RV.cell1 rfl) (by first | exact RV.tmp rfl | exact RV.cell rfl rfl | exact RV.cell1 rfl)) ⟨rfl, rfl⟩ (by repeat (first | exact Takes.nil | apply Takes.dup rfl | apply Takes.cons | exact Take1.here | apply Take1.there)) (by repeat (first | exact Subs.refl | refine Subs.skip ?_))
end lz
end Go.Proofs.Ytomibkfpeiceoaa
