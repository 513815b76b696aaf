/-
  CONTRACTS of slices.stableCmpFunc, SortStableFunc and huff.order, by the kit.
-/
import Derived.Test.YtfkgchdbjfbdaaaSortD
import Derived.Test.YtfkgchdbjfbdaaaSortR
import Derived.Test.YtfkgchdbjfbdaaaHuffC
namespace Go.Proofs.Ytfkgchdbjfbdaaa
open Go.RowKit
attribute [local irreducible] Ex G GC GE Gq FPost LPost
set_option linter.unusedVariables false
set_option linter.unusedSimpArgs false
namespace sort
set_option maxHeartbeats 32000000 in
theorem stable_sp (kb : Nat) (la : Option Addr) (ln lc : Nat) (Ls : List Int) (hl : Ls.length = ln) (da : Option Addr) (n dc : Nat) (X : List Nat) (hXl : X.length = n) (hn : n ≤ 100000) (hX : X.Pairwise (· < ·)) (hin : ∀ x ∈ X, x < ln) :
    Spec Try.prog 34 [.slice da n dc, .int .i64 (n : Int), cmpV kb] [DR da n dc X, KB kb la ln lc, LS la ln lc Ls] fun v give => ∃ W, W.Perm X ∧ Srt (key Ls) W ∧ give = [DR da n dc W, KB kb la ln lc] := by
  have mX : ∀ {a b x}, x ∈ seg X a b → x ∈ X := fun h => List.mem_of_mem_drop (List.mem_of_mem_take h)
  refine Spec.intro Try.func34 rfl Try.ntmps34 rfl fun w0 rest rs_ hrs_ => ?_
  simp only [List.cons_append, List.nil_append] at hrs_
  subst hrs_
  repeat (first | (apply G.ex (hd := rfl); case h => (first | exact Ex.move rfl | exact Ex.assign rfl)) | refine G.nil ?_ | refine GC.seq ?_ | refine GC.region ?_ | refine GC.block ?_ | refine GE.then_normal ?_)
  refine GC.loop (ι := Nat × List Nat) (fun x => 20 * x.1 ≤ n ∧ x.2.length = n ∧ x.2.drop (20 * x.1) = X.drop (20 * x.1) ∧ ∀ t, t < x.1 → Blk (key Ls) 20 x.2 X t) (fun x => n - 20 * x.1) (fun x => [(0, .slice da n dc), (1, .int .i64 (n : Int)), (2, cmpV kb), (6, .int .i64 20), (7, .int .i64 ((20 * x.1 : Nat) : Int)), (8, .int .i64 ((20 * x.1 + 20 : Nat) : Int))]) (fun x => [DR da n dc x.2, KB kb la ln lc, LS la ln lc Ls]) (0, X) ⟨Nat.zero_le _, hXl, rfl, fun t ht => by omega⟩ (by simp only [fits]; repeat (first | exact trivial | refine And.intro rfl ?_)) (by repeat first | exact tn_ | apply td_ rfl | apply tc_ | exact .here | apply Take1.there) ?_
  rintro ⟨k, D⟩ ⟨hk, hDl, hDX, hB⟩ fr_ rs_ hfr_ hrs_
  simp only [List.cons_append, List.nil_append] at hfr_ hrs_
  subst hfr_ hrs_
  simp only at hk hDl hDX hB
  have hPl : (D.take (20 * k)).length = 20 * k := by rw [List.length_take]; omega
  have hmm : ∀ {x b}, x ∈ seg X (20 * k) b → x ∈ X := fun h => mX h
  by_cases c : 20 * k + 20 ≤ n
  · have c' : ((20 * k + 20 : Nat) : Int) ≤ (n : Int) := by omega
    have hsl : (seg X (20 * k) 20).length = 20 := by rw [List.length_take, List.length_drop]; omega
    have hD : D = D.take (20 * k) ++ (seg X (20 * k) 20 ++ X.drop (20 * k + 20)) := by
      have e : X.drop (20 * k) = seg X (20 * k) 20 ++ X.drop (20 * k + 20) := by unfold seg; rw [← List.drop_drop (i := 20) (j := 20 * k), List.take_append_drop]
      rw [← e, ← hDX, List.take_append_drop]
    rw [hD]
    repeat (first | (apply G.ex (hd := rfl); case h => (first | exact Ex.move rfl | exact Ex.leq rfl rfl)) | refine G.nil ?_ | refine GC.seq ?_ | refine GC.region ?_ | refine GC.block ?_ | refine GC.skip ?_ | refine GE.then_normal ?_ | refine GC.cond_yes rfl (by first | assumption | omega) ?_)
    first | refine G.call (caps := []) (insertion_sp kb la ln lc Ls hl da dc (D.take (20 * k)) (seg X (20 * k) 20) (X.drop (20 * k + 20)) (20 * k) (20 * k + 20) n hPl (by omega) (by rw [← hD]; exact hDl) (by omega) ((hX.sublist (List.drop_sublist ..)).sublist (List.take_sublist ..)) (fun x hx => hin x (hmm hx))) rfl rfl rfl rfl (by repeat first | exact tn_ | apply td_ rfl | apply tc_ | exact .here | apply Take1.there) ?_ | refine G.callU (caps := []) (insertion_sp kb la ln lc Ls hl da dc (D.take (20 * k)) (seg X (20 * k) 20) (X.drop (20 * k + 20)) (20 * k) (20 * k + 20) n hPl (by omega) (by rw [← hD]; exact hDl) (by omega) ((hX.sublist (List.drop_sublist ..)).sublist (List.take_sublist ..)) (fun x hx => hin x (hmm hx))) rfl rfl rfl (by repeat first | exact tn_ | apply td_ rfl | apply tc_ | exact .here | apply Take1.there) ?_
    rintro v_ give_ ⟨W, hp, hs, rfl⟩ rs_ hrs_
    simp only [List.cons_append, List.nil_append] at hrs_
    subst hrs_
    have hWl : W.length = 20 := by rw [hp.length_eq]; exact hsl
    have hnx := blk_step (A := 20 * k) (Q := X.drop (20 * k + 20)) rfl hB (by omega) hs hp (.inl hWl)
    have hl2 : (D.take (20 * k) ++ (W ++ X.drop (20 * k + 20))).length = n := by simp only [List.length_append, hPl, hWl, List.length_drop]; omega
    have hd2 : (D.take (20 * k) ++ (W ++ X.drop (20 * k + 20))).drop (20 * (k + 1)) = X.drop (20 * (k + 1)) := by
      rw [show 20 * (k + 1) = 20 * k + 20 by omega, ← List.append_assoc, List.drop_left' (by rw [List.length_append]; omega)]
    clear hD hDX hB hsl hmm
    repeat (first | (apply G.ex (hd := rfl); case h => (first | exact Ex.move rfl | exact Ex.add rfl rfl (by omega) | exact Ex.assign rfl)) | refine G.nil ?_ | refine GC.seq ?_ | refine GC.region ?_ | refine GE.then_normal ?_ | refine GE.block_normal ?_)
    rw [show ((20 * k + 20 : Nat) : Int) + 20 = ((20 * (k + 1) + 20 : Nat) : Int) by omega, show ((20 * k + 20 : Nat) : Int) = ((20 * (k + 1) : Nat) : Int) by omega]
    refine GE.loop (k + 1, D.take (20 * k) ++ (W ++ X.drop (20 * k + 20))) ⟨by simp only; omega, hl2, hd2, hnx⟩ (by simp only; omega) (by simp only [fits]; repeat (first | exact trivial | refine And.intro rfl ?_)) (by repeat first | exact tn_ | apply td_ rfl | apply tc_ | exact .here | apply Take1.there) (by repeat (first | exact Subs.refl | refine Subs.skip ?_))
  · have c' : ¬ ((20 * k + 20 : Nat) : Int) ≤ (n : Int) := by omega
    have hdl : (X.drop (20 * k)).length = n - 20 * k := by rw [List.length_drop, hXl]
    have hsg : seg X (20 * k) 20 = X.drop (20 * k) := List.take_of_length_le (by omega)
    have hD : D = D.take (20 * k) ++ (X.drop (20 * k) ++ []) := by rw [List.append_nil, ← hDX, List.take_append_drop]
    rw [hD]
    repeat (first | (apply G.ex (hd := rfl); case h => (first | exact Ex.move rfl | exact Ex.leq rfl rfl)) | refine G.nil ?_ | refine GC.seq ?_ | refine GC.region ?_ | refine GC.exit ?_ | refine GE.then_normal ?_ | refine GE.then_exit ?_ | refine GE.block_hit ?_ | refine GC.cond_no rfl (by first | assumption | omega) ?_)
    first | refine G.call (caps := []) (insertion_sp kb la ln lc Ls hl da dc (D.take (20 * k)) (X.drop (20 * k)) [] (20 * k) n n hPl (by omega) (by rw [← hD]; exact hDl) (by omega) (hX.sublist (List.drop_sublist ..)) (fun x hx => hin x (List.mem_of_mem_drop hx))) rfl rfl rfl rfl (by repeat first | exact tn_ | apply td_ rfl | apply tc_ | exact .here | apply Take1.there) ?_ | refine G.callU (caps := []) (insertion_sp kb la ln lc Ls hl da dc (D.take (20 * k)) (X.drop (20 * k)) [] (20 * k) n n hPl (by omega) (by rw [← hD]; exact hDl) (by omega) (hX.sublist (List.drop_sublist ..)) (fun x hx => hin x (List.mem_of_mem_drop hx))) rfl rfl rfl (by repeat first | exact tn_ | apply td_ rfl | apply tc_ | exact .here | apply Take1.there) ?_
    rintro v_ give_ ⟨W, hp, hs, rfl⟩ rs_ hrs_
    simp only [List.cons_append, List.nil_append] at hrs_
    subst hrs_
    have hnx := blk_step (A := 20 * k) (Q := []) rfl hB (by omega) hs (by rw [hsg]; exact hp) (.inr rfl)
    have hWl : W.length = n - 20 * k := by rw [hp.length_eq]; exact hdl
    have hl2 : (D.take (20 * k) ++ (W ++ [])).length = n := by simp only [List.length_append, hPl, hWl, List.length_nil]; omega
    have hall := blk_all hnx (n := n) (by omega) hl2 hXl
    generalize D.take (20 * k) ++ (W ++ []) = D0 at *
    clear hD hDX hB hmm hnx hp hs hPl hsg hdl hWl hDl
    repeat (first | refine G.nil ?_ | refine GC.block ?_ | refine GE.then_normal ?_)
    refine GC.loop (ι := Nat × List Nat) (fun x => 0 < x.1 ∧ x.1 ≤ 2 * n + 20 ∧ x.2.length = n ∧ ∀ t, Blk (key Ls) x.1 x.2 X t) (fun x => n - x.1) (fun x => [(0, .slice da n dc), (1, .int .i64 (n : Int)), (2, cmpV kb), (6, .int .i64 (x.1 : Int))]) (fun x => [DR da n dc x.2, KB kb la ln lc, LS la ln lc Ls]) (20, D0) ⟨by simp only; omega, by simp only; omega, hl2, hall⟩ (by simp only [fits]; repeat (first | exact trivial | refine And.intro rfl ?_)) (by repeat first | exact tn_ | apply td_ rfl | apply tc_ | exact .here | apply Take1.there) ?_
    clear hl2 hall
    rintro ⟨bs, D⟩ ⟨hb0, hb1, hDl, hB⟩ fr_ rs_ hfr_ hrs_
    simp only [List.cons_append, List.nil_append] at hfr_ hrs_
    subst hfr_ hrs_
    simp only at hb0 hb1 hDl hB
    by_cases cb : bs < n
    · have cb' : (bs : Int) < (n : Int) := by omega
      repeat (first | (apply G.ex (hd := rfl); case h => (first | exact Ex.move rfl | exact Ex.lss rfl rfl | exact Ex.assign rfl | exact Ex.mul rfl rfl (by omega))) | refine G.nil ?_ | refine GC.seq ?_ | refine GC.region ?_ | refine GC.block ?_ | refine GC.skip ?_ | refine GE.then_normal ?_ | refine GC.cond_yes rfl (by first | assumption | omega) ?_)
      rw [show 2 * (bs : Int) = ((2 * bs * 0 + 2 * bs : Nat) : Int) by omega]
      refine GC.loop (ι := Nat × List Nat) (fun x => 2 * bs * x.1 ≤ n ∧ x.2.length = n ∧ x.2.drop (2 * bs * x.1) = D.drop (2 * bs * x.1) ∧ ∀ t, t < x.1 → Blk (key Ls) (2 * bs) x.2 X t) (fun x => n - 2 * bs * x.1) (fun x => [(0, .slice da n dc), (1, .int .i64 (n : Int)), (2, cmpV kb), (6, .int .i64 (bs : Int)), (7, .int .i64 ((2 * bs * x.1 : Nat) : Int)), (8, .int .i64 ((2 * bs * x.1 + 2 * bs : Nat) : Int))]) (fun x => [DR da n dc x.2, KB kb la ln lc, LS la ln lc Ls]) (0, D) ⟨by simp only; omega, hDl, rfl, fun t ht => by omega⟩ (by simp only [fits]; repeat (first | exact trivial | refine And.intro rfl ?_)) (by repeat first | exact tn_ | apply td_ rfl | apply tc_ | exact .here | apply Take1.there) ?_
      rintro ⟨j, E⟩ ⟨hj, hEl, hED, hC⟩ fr_ rs_ hfr_ hrs_
      simp only [List.cons_append, List.nil_append] at hfr_ hrs_
      subst hfr_ hrs_
      simp only at hj hEl hED hC
      have hA1 : 2 * bs * (j + 1) = 2 * bs * j + 2 * bs := Nat.mul_succ ..
      obtain ⟨A, hA⟩ : ∃ A, 2 * bs * j = A := ⟨_, rfl⟩
      obtain ⟨b1, b2, b3, b4, b5, b6⟩ := blk_two hX hA hB
      have hPl : (E.take A).length = A := by rw [List.length_take]; omega
      have hul : (seg D A bs).length = min bs (n - A) := by rw [List.length_take, List.length_drop, hDl]
      have hvl : (seg D (A + bs) bs).length = min bs (n - (A + bs)) := by rw [List.length_take, List.length_drop, hDl]
      rw [hA] at hj hED hA1
      have hE : E = E.take A ++ (seg D A bs ++ (seg D (A + bs) bs ++ D.drop (A + bs + bs))) := by rw [← seg_cut, ← hED, List.take_append_drop]
      rw [hA]
      by_cases c2 : A + 2 * bs ≤ n
      · have c2' : ((A + 2 * bs : Nat) : Int) ≤ (n : Int) := by omega
        have hms := symMerge_sp kb la ln lc Ls hl da dc n (by omega) (2 * bs) (E.take A) (seg D A bs) (seg D (A + bs) bs) (D.drop (A + bs + bs)) A (A + bs) (A + 2 * bs) (by omega) (by omega) (by omega) hPl (by omega) (by omega) (by rw [← hE]; exact hEl) b1 b2 b3 (fun x hx => hin x (b5 x hx)) (fun x hx => hin x (b6 x hx))
        rw [hE]
        repeat (first | (apply G.ex (hd := rfl); case h => (first | exact Ex.move rfl | exact Ex.add rfl rfl (by omega) | exact Ex.leq rfl rfl)) | refine G.nil ?_ | refine GC.seq ?_ | refine GC.region ?_ | refine GC.block ?_ | refine GC.skip ?_ | refine GE.then_normal ?_ | refine GC.cond_yes rfl (by first | assumption | omega) ?_)
        rw [show (A : Int) + (bs : Int) = ((A + bs : Nat) : Int) by omega]
        first | refine G.call (caps := []) (hms) rfl rfl rfl rfl (by repeat first | exact tn_ | apply td_ rfl | apply tc_ | exact .here | apply Take1.there) ?_ | refine G.callU (caps := []) (hms) rfl rfl rfl (by repeat first | exact tn_ | apply td_ rfl | apply tc_ | exact .here | apply Take1.there) ?_
        rintro v_ give_ ⟨W, hp, hs, rfl⟩ rs_ hrs_
        simp only [List.cons_append, List.nil_append] at hrs_
        subst hrs_
        have hWl : W.length = 2 * bs := by rw [hp.length_eq, List.length_append]; omega
        have hnx := blk_step (Q := D.drop (A + bs + bs)) hA hC (by omega) hs (hp.trans b4) (.inl hWl)
        have hl2 : (E.take A ++ (W ++ D.drop (A + bs + bs))).length = n := by simp only [List.length_append, hPl, hWl, List.length_drop]; omega
        have hd2 : (E.take A ++ (W ++ D.drop (A + bs + bs))).drop (2 * bs * (j + 1)) = D.drop (2 * bs * (j + 1)) := by
          rw [hA1, ← List.append_assoc, List.drop_left' (by rw [List.length_append]; omega), show A + 2 * bs = A + bs + bs by omega]
        clear hE hED hC hB b1 b2 b3 b4 b5 b6 hms
        repeat (first | (apply G.ex (hd := rfl); case h => (first | exact Ex.move rfl | exact Ex.add rfl rfl (by omega) | exact Ex.assign rfl | exact Ex.mul rfl rfl (by omega))) | refine G.nil ?_ | refine GC.seq ?_ | refine GC.region ?_ | refine GE.then_normal ?_ | refine GE.block_normal ?_)
        rw [show ((A + 2 * bs : Nat) : Int) + 2 * (bs : Int) = ((2 * bs * (j + 1) + 2 * bs : Nat) : Int) by omega, show ((A + 2 * bs : Nat) : Int) = ((2 * bs * (j + 1) : Nat) : Int) by omega]
        refine GE.loop (j + 1, E.take A ++ (W ++ D.drop (A + bs + bs))) ⟨by simp only; omega, hl2, hd2, hnx⟩ (by simp only; omega) (by simp only [fits]; repeat (first | exact trivial | refine And.intro rfl ?_)) (by repeat first | exact tn_ | apply td_ rfl | apply tc_ | exact .here | apply Take1.there) (by repeat (first | exact Subs.refl | refine Subs.skip ?_))
      · have c2' : ¬ ((A + 2 * bs : Nat) : Int) ≤ (n : Int) := by omega
        have hQ : D.drop (A + bs + bs) = [] := List.drop_of_length_le (by omega)
        rw [hQ] at hE
        by_cases c3 : A + bs < n
        · have c3' : ((A + bs : Nat) : Int) < (n : Int) := by omega
          have hms := symMerge_sp kb la ln lc Ls hl da dc n (by omega) (2 * bs) (E.take A) (seg D A bs) (seg D (A + bs) bs) [] A (A + bs) n (by omega) (by omega) (by omega) hPl (by omega) (by omega) (by rw [← hE]; exact hEl) b1 b2 b3 (fun x hx => hin x (b5 x hx)) (fun x hx => hin x (b6 x hx))
          rw [hE]
          repeat (first | (apply G.ex (hd := rfl); case h => (first | exact Ex.move rfl | exact Ex.add rfl rfl (by omega) | exact Ex.lss rfl rfl | exact Ex.leq rfl rfl | exact Ex.assign rfl)) | refine G.nil ?_ | refine GC.seq ?_ | refine GC.region ?_ | refine GC.exit ?_ | refine GE.then_normal ?_ | refine GE.then_exit ?_ | refine GE.block_hit ?_ | refine GC.cond_yes rfl (by first | assumption | omega) ?_ | refine GC.cond_no rfl (by first | assumption | omega) ?_)
          rw [show (A : Int) + (bs : Int) = ((A + bs : Nat) : Int) by omega]
          repeat (first | fail)
          first | refine G.call (caps := []) (hms) rfl rfl rfl rfl (by repeat first | exact tn_ | apply td_ rfl | apply tc_ | exact .here | apply Take1.there) ?_ | refine G.callU (caps := []) (hms) rfl rfl rfl (by repeat first | exact tn_ | apply td_ rfl | apply tc_ | exact .here | apply Take1.there) ?_
          rintro v_ give_ ⟨W, hp, hs, rfl⟩ rs_ hrs_
          simp only [List.cons_append, List.nil_append] at hrs_
          subst hrs_
          have hnx := blk_step (Q := []) hA hC (by omega) hs (hp.trans b4) (.inr rfl)
          have hWl : W.length = n - A := by rw [hp.length_eq, List.length_append]; omega
          have hl2 : (E.take A ++ (W ++ [])).length = n := by simp only [List.length_append, hPl, hWl, List.length_nil]; omega
          have hall := blk_all hnx (n := n) (by omega) hl2 hXl
          clear hE hED hC hB b1 b2 b3 b4 b5 b6 hms hnx
          repeat (first | (apply G.ex (hd := rfl); case h => (first | exact Ex.move rfl | exact Ex.assign rfl | exact Ex.mul rfl rfl (by omega))) | refine G.nil ?_ | refine GC.region ?_ | refine GE.then_normal ?_ | refine GE.block_normal ?_)
          rw [show (bs : Int) * 2 = ((2 * bs : Nat) : Int) by omega]
          refine GE.loop (2 * bs, E.take A ++ (W ++ [])) ⟨by simp only; omega, by simp only; omega, hl2, hall⟩ (by simp only; omega) (by simp only [fits]; repeat (first | exact trivial | refine And.intro rfl ?_)) (by repeat first | exact tn_ | apply td_ rfl | apply tc_ | exact .here | apply Take1.there) (by repeat (first | exact Subs.refl | refine Subs.skip ?_))
        · have c3' : ¬ ((A + bs : Nat) : Int) < (n : Int) := by omega
          have hv0 : seg D (A + bs) bs = [] := nil_of (by omega)
          rw [hv0, List.append_nil] at b4
          have hE2 : E = E.take A ++ (seg D A bs ++ []) := by rw [hv0] at hE; exact hE
          have hnx := blk_step (Q := []) hA hC (by omega) b1 b4 (.inr rfl)
          rw [← hE2] at hnx
          have hall := blk_all hnx (n := n) (by omega) hEl hXl
          clear hE hE2 hED hC hB b1 b2 b3 b4 b5 b6 hnx
          repeat (first | (apply G.ex (hd := rfl); case h => (first | exact Ex.move rfl | exact Ex.add rfl rfl (by omega) | exact Ex.lss rfl rfl | exact Ex.leq rfl rfl | exact Ex.assign rfl | exact Ex.mul rfl rfl (by omega))) | refine G.nil ?_ | refine GC.seq ?_ | refine GC.region ?_ | refine GC.skip ?_ | refine GC.exit ?_ | refine GE.then_normal ?_ | refine GE.then_exit ?_ | refine GE.block_normal ?_ | refine GE.block_hit ?_ | refine GC.cond_no rfl (by first | assumption | omega) ?_)
          rw [show (A : Int) + (bs : Int) = ((A + bs : Nat) : Int) by omega]
          repeat (first | fail)
          rw [show (bs : Int) * 2 = ((2 * bs : Nat) : Int) by omega]
          refine GE.loop (2 * bs, E) ⟨by simp only; omega, by simp only; omega, hEl, hall⟩ (by simp only; omega) (by simp only [fits]; repeat (first | exact trivial | refine And.intro rfl ?_)) (by repeat first | exact tn_ | apply td_ rfl | apply tc_ | exact .here | apply Take1.there) (by repeat (first | exact Subs.refl | refine Subs.skip ?_))
    · have cb' : ¬ (bs : Int) < (n : Int) := by omega
      obtain ⟨f1, f2⟩ := blk_end hB (by omega) (by omega)
      clear hB
      repeat (first | (apply G.ex (hd := rfl); case h => (first | exact Ex.move rfl | exact Ex.lss rfl rfl)) | refine G.nil ?_ | refine GC.seq ?_ | refine GC.region ?_ | refine GC.exit ?_ | refine GE.then_normal ?_ | refine GE.then_exit ?_ | refine GE.block_hit ?_ | refine GC.cond_no rfl (by first | assumption | omega) ?_)
      refine GE.ret (by first | exact .inl rfl | exact .inr rfl) (res0 Try.results34) ⟨D, f2, f1, rfl⟩ (by repeat first | exact tn_ | apply td_ rfl | apply tc_ | exact .here | apply Take1.there) (by repeat (first | exact Subs.refl | refine Subs.skip ?_))
theorem sortStable_sp (kb : Nat) (la : Option Addr) (ln lc : Nat) (Ls : List Int) (hl : Ls.length = ln) (da : Option Addr) (n dc : Nat) (X : List Nat) (hXl : X.length = n) (hn : n ≤ 100000) (hX : X.Pairwise (· < ·)) (hin : ∀ x ∈ X, x < ln) :
    Spec Try.prog 31 [.slice da n dc, cmpV kb] [DR da n dc X, KB kb la ln lc, LS la ln lc Ls] fun v give => ∃ W, W.Perm X ∧ Srt (key Ls) W ∧ give = [DR da n dc W, KB kb la ln lc] := by
  refine Spec.intro Try.func31 rfl Try.ntmps31 rfl fun w0 rest rs_ hrs_ => ?_
  simp only [List.cons_append, List.nil_append] at hrs_
  subst hrs_
  repeat (first | (apply G.ex (hd := rfl); case h => (first | exact Ex.move rfl | exact Ex.lenSl rfl)) | refine GC.region ?_)
  first | refine G.call (caps := []) (stable_sp kb la ln lc Ls hl da n dc X hXl hn hX hin) rfl rfl rfl rfl (by repeat first | exact tn_ | apply td_ rfl | apply tc_ | exact .here | apply Take1.there) ?_ | refine G.callU (caps := []) (stable_sp kb la ln lc Ls hl da n dc X hXl hn hX hin) rfl rfl rfl (by repeat first | exact tn_ | apply td_ rfl | apply tc_ | exact .here | apply Take1.there) ?_
  rintro v_ give_ ⟨W, hp, hs, rfl⟩ rs_ hrs_
  simp only [List.cons_append, List.nil_append] at hrs_
  subst hrs_
  repeat (first | refine G.nil ?_)
  refine GE.ret (by first | exact .inl rfl | exact .inr rfl) (res0 Try.results31) ⟨W, hp, hs, rfl⟩ (by repeat first | exact tn_ | apply td_ rfl | apply tc_ | exact .here | apply Take1.there) (by repeat (first | exact Subs.refl | refine Subs.skip ?_))
theorem sup_asc (c : Nat → Nat) : ∀ n, (huff.sup c n).Pairwise (· < ·)
  | 0 => List.Pairwise.nil
  | n + 1 => by
    unfold huff.sup
    split
    · exact sup_asc c n
    · exact List.pairwise_append.2 ⟨sup_asc c n, List.pairwise_singleton .., fun x hx y hy => by rw [List.mem_singleton.1 hy]; exact (huff.mem_sup.1 hx).1⟩
set_option maxHeartbeats 8000000 in
theorem order_sp (la : Option Addr) (ln lc : Nat) (Ls : List Int) (hl : Ls.length = ln) (hln : ln ≤ 100000) (h0 : ∀ z ∈ Ls, 0 ≤ z) :
    Spec Try.prog 27 [.slice la ln lc] [LS la ln lc Ls] fun v give => ∃ (W : List Nat) (oa : Option Addr) (oc : Nat), v = .slice oa W.length oc ∧ W.Perm (huff.sup (huff.cN Ls) ln) ∧ Srt (key Ls) W ∧ give = [DR oa W.length oc W] := by
  refine Spec.intro Try.func27 rfl Try.ntmps27 rfl fun w0 rest rs_ hrs_ => ?_
  simp only [List.cons_append, List.nil_append] at hrs_
  subst hrs_
  repeat (first | refine GC.seq ?_ | refine GC.region ?_)
  refine G.box rfl rfl rfl (fun kb => ?_)
  repeat (first | (apply G.ex (hd := rfl); case h => (first | exact Ex.move rfl | exact Ex.loadB rfl rfl | exact Ex.lenSl rfl | exact Ex.assign rfl)) | refine G.nil ?_ | refine GC.seq ?_ | refine GC.region ?_ | refine GC.block ?_ | refine GE.then_normal ?_)
  first | refine G.nilvec 3 1 ?_ | refine GC.nilvec 3 1 ?_
  repeat (first | fail)
  refine GC.loop (ι := Nat × Option Addr × Nat) (fun x => x.1 ≤ ln) (fun x => ln - x.1) (fun x => [(1, .pointer (some (badr kb 0))), (3, .slice x.2.1 (huff.sup (huff.cN Ls) x.1).length x.2.2), (6, .slice la ln lc), (7, .int .i64 (ln : Int)), (8, .int .i64 (x.1 : Int))]) (fun x => [DR x.2.1 (huff.sup (huff.cN Ls) x.1).length x.2.2 (huff.sup (huff.cN Ls) x.1), KB kb la ln lc, LS la ln lc Ls]) (0, none, 0) (Nat.zero_le _) (by simp only [fits]; repeat (first | exact trivial | refine And.intro rfl ?_)) (by repeat first | exact tn_ | apply td_ rfl | apply tc_ | exact .here | apply Take1.there) ?_
  rintro ⟨i, oa, oc⟩ hi fr_ rs_ hfr_ hrs_
  simp only [List.cons_append, List.nil_append] at hfr_ hrs_
  subst hfr_ hrs_
  simp only at hi
  have hsl : (huff.sup (huff.cN Ls) i).length ≤ i := huff.sup_len
  by_cases c : i < ln
  · have hz := h0 (Ls.getD i default) (by rw [List.getD_eq_getElem?_getD, List.getElem?_eq_getElem (by omega)]; exact List.getElem_mem _)
    have hc : huff.cN Ls i = (Ls.getD i default).toNat := rfl
    by_cases p : Ls.getD i default > 0
    · have hs1 : huff.sup (huff.cN Ls) (i + 1) = huff.sup (huff.cN Ls) i ++ [i] := by show (if huff.cN Ls i = 0 then _ else _) = _; rw [if_neg (by omega)]
      have hcat : flat eN (huff.sup (huff.cN Ls) i) ++ flat eN [i] = flat eN (huff.sup (huff.cN Ls) (i + 1)) := by rw [hs1]; exact (flat_append ..).symm
      have hl1 : (huff.sup (huff.cN Ls) i).length + 1 = (huff.sup (huff.cN Ls) (i + 1)).length := by rw [hs1, List.length_append]; rfl
      repeat (first | (apply G.ex (hd := rfl); case h => (first | exact Ex.move rfl | exact Ex.lss rfl rfl | exact Ex.gtr rfl rfl | exact Ex.indexN rfl rfl (by first | omega | (simp; done) | (simp; omega)) | exact Ex.loadT0 rfl (by first | omega | (simp; done) | (simp; omega)) rfl | exact Ex.assign rfl)) | refine G.nil ?_ | refine GC.seq ?_ | refine GC.region ?_ | refine GC.block ?_ | refine GC.skip ?_ | refine GE.then_normal ?_ | refine GC.cond_yes rfl (by first | assumption | omega) ?_)
      refine G.lit (cells := flat eN [i]) rfl (by rfl) (by rfl) (by rfl) (by rfl) (by rfl) (by rfl) rfl (fun q => ?_)
      refine G.app rfl rfl (by rfl) (by omega) rfl (hcat) (fun o2 oc2 rs_ hrs_ => ?_)
      try simp only at hrs_
      subst hrs_
      rw [hl1]
      repeat (first | (apply G.ex (hd := rfl); case h => (first | exact Ex.move rfl | exact Ex.add rfl rfl (by omega) | exact Ex.assign rfl)) | refine G.nil ?_ | refine GC.region ?_ | refine GE.then_normal ?_ | refine GE.block_normal ?_)
      rw [show (i : Int) + 1 = ((i + 1 : Nat) : Int) by omega]
      refine GE.loop (i + 1, o2, oc2) (by simp only; omega) (by simp only; omega) (by simp only [fits]; repeat (first | exact trivial | refine And.intro rfl ?_)) (by repeat first | exact tn_ | apply td_ rfl | apply tc_ | exact .here | apply Take1.there) (by repeat (first | exact Subs.refl | refine Subs.skip ?_))
    · have hs1 : huff.sup (huff.cN Ls) (i + 1) = huff.sup (huff.cN Ls) i := by show (if huff.cN Ls i = 0 then _ else _) = _; rw [if_pos (by omega)]
      repeat (first | (apply G.ex (hd := rfl); case h => (first | exact Ex.move rfl | exact Ex.add rfl rfl (by omega) | exact Ex.lss rfl rfl | exact Ex.gtr rfl rfl | exact Ex.indexN rfl rfl (by first | omega | (simp; done) | (simp; omega)) | exact Ex.loadT0 rfl (by first | omega | (simp; done) | (simp; omega)) rfl | exact Ex.assign rfl)) | refine G.nil ?_ | refine GC.seq ?_ | refine GC.region ?_ | refine GC.block ?_ | refine GC.skip ?_ | refine GE.then_normal ?_ | refine GE.block_normal ?_ | refine GC.cond_yes rfl (by first | assumption | omega) ?_ | refine GC.cond_no rfl (by first | assumption | omega) ?_)
      rw [show (i : Int) + 1 = ((i + 1 : Nat) : Int) by omega, ← hs1]
      refine GE.loop (i + 1, oa, oc) (by simp only; omega) (by simp only; omega) (by simp only [fits]; repeat (first | exact trivial | refine And.intro rfl ?_)) (by repeat first | exact tn_ | apply td_ rfl | apply tc_ | exact .here | apply Take1.there) (by repeat (first | exact Subs.refl | refine Subs.skip ?_))
  · obtain rfl : i = ln := by omega
    repeat (first | (apply G.ex (hd := rfl); case h => (first | exact Ex.move rfl | exact Ex.lss rfl rfl | exact Ex.mkFunc rfl)) | refine G.nil ?_ | refine GC.seq ?_ | refine GC.region ?_ | refine GC.exit ?_ | refine GE.then_normal ?_ | refine GE.then_exit ?_ | refine GE.block_hit ?_ | refine GC.cond_no rfl (by first | assumption | omega) ?_)
    first | refine G.call (caps := []) (sortStable_sp kb la i lc Ls hl oa (huff.sup (huff.cN Ls) i).length oc (huff.sup (huff.cN Ls) i) rfl (by omega) (sup_asc _ _) (fun x hx => (huff.mem_sup.1 hx).1)) rfl rfl rfl rfl (by repeat first | exact tn_ | apply td_ rfl | apply tc_ | exact .here | apply Take1.there) ?_ | refine G.callU (caps := []) (sortStable_sp kb la i lc Ls hl oa (huff.sup (huff.cN Ls) i).length oc (huff.sup (huff.cN Ls) i) rfl (by omega) (sup_asc _ _) (fun x hx => (huff.mem_sup.1 hx).1)) rfl rfl rfl (by repeat first | exact tn_ | apply td_ rfl | apply tc_ | exact .here | apply Take1.there) ?_
    rintro v_ give_ ⟨W, hp, hs, rfl⟩ rs_ hrs_
    simp only [List.cons_append, List.nil_append] at hrs_
    subst hrs_
    rw [← hp.length_eq]
    repeat (first | (apply G.ex (hd := rfl); case h => (first | exact Ex.move rfl | exact Ex.assign rfl)) | refine G.nil ?_ | refine GC.seq ?_ | refine GC.region ?_ | refine GC.ret ?_ | refine GE.then_normal ?_)
    refine GE.ret (by first | exact .inl rfl | exact .inr rfl) (res1 Try.results27 rfl) ⟨W, oa, oc, rfl, hp, hs, rfl⟩ (by repeat first | exact tn_ | apply td_ rfl | apply tc_ | exact .here | apply Take1.there) (by repeat (first | exact Subs.refl | refine Subs.skip ?_))
end sort
end Go.Proofs.Ytfkgchdbjfbdaaa
