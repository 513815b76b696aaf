/-
  CONTRACTS of slices.swapRangeCmpFunc, rotateCmpFunc and of huff.order's closure, by the kit.
-/
import Derived.Test.YtfkgchdbjfbdaaaSortP
import Derived.Test.YtfkgchdbjfbdaaaHuffR
namespace Go.Proofs.Ytfkgchdbjfbdaaa
open Go.RowKit
attribute [local irreducible] Ex G GC GE Gq FPost LPost
set_option linter.unusedVariables false
set_option linter.unusedSimpArgs false
namespace sort
abbrev cmpV (kb : Nat) : Value := .func (.func 32) #[] #[.pointer (some (badr kb 0))]
abbrev KB (kb : Nat) (la : Option Addr) (ln lc : Nat) : Res := .blk kb 22 [.slice la ln lc]
abbrev LS (la : Option Addr) (ln lc : Nat) (Ls : List Int) : Res := .sl la ln lc 1 (flat (eI .i64) Ls)
abbrev DR (da : Option Addr) (n dc : Nat) (D : List Nat) : Res := .vec 3 1 da n dc (flat eN D)
abbrev key (Ls : List Int) (x : Nat) : Int := Ls.getD x default
def cmp3 (a b : Int) : Int := if a < b then -1 else if b < a then 1 else 0
theorem cmp3_lt (a b : Int) : decide (cmp3 a b < 0) = decide (a < b) := by
  refine decide_eq_decide.2 ?_
  unfold cmp3
  split
  · omega
  split <;> omega
theorem order1_sp (kb : Nat) (la : Option Addr) (ln lc : Nat) (Ls : List Int) (hl : Ls.length = ln) (x y : Nat) (hx : x < ln) (hy : y < ln) :
    Spec Try.prog 32 [.int .i64 (x : Int), .int .i64 (y : Int), .pointer (some (badr kb 0))] [KB kb la ln lc, LS la ln lc Ls] fun v give => v = .int .i64 (cmp3 (key Ls x) (key Ls y)) ∧ give = [KB kb la ln lc] := by
  refine Spec.intro Try.func32 rfl Try.ntmps32 rfl fun w0 rest rs_ hrs_ => ?_
  simp only [List.cons_append, List.nil_append] at hrs_
  subst hrs_
  repeat (first | (apply G.ex (hd := rfl); case h => (first | exact Ex.assign rfl)) | refine G.nil ?_ | refine GC.seq ?_ | refine GC.region ?_ | refine GE.then_normal ?_)
  refine GC.drawA [] [KB kb la ln lc, LS la ln lc Ls] (by repeat first | exact tn_ | apply td_ rfl | apply tc_ | exact .here | apply Take1.there) (by kernel_rfl) ?_
  first | (apply GA.take _ (hD := .inr ⟨rfl, by kernel_rfl⟩) (hsub := ⟨_, (by repeat first | exact tn_ | apply td_ rfl | apply tc_ | exact .here | apply Take1.there)⟩) (i := 0) (hi := rfl) (hs := by kernel_rfl) (hfr := by kernel_rfl) (hr := by kernel_rfl) (hQ := np_) (hd := rfl); case hx => (first | exact Ex.loadB rfl rfl))
  first | (apply GA.take [] (hD := .inl rfl) (hsub := ⟨_, Takes.nil⟩) (i := 1) (hi := rfl) (hs := by kernel_rfl) (hfr := by kernel_rfl) (hr := by kernel_rfl) (hQ := np_) (hd := rfl); case hx => (first | exact Ex.move rfl))
  first | (apply GA.take _ (hD := .inr ⟨rfl, by kernel_rfl⟩) (hsub := ⟨_, (by repeat first | exact tn_ | apply td_ rfl | apply tc_ | exact .here | apply Take1.there)⟩) (i := 2) (hi := rfl) (hs := by kernel_rfl) (hfr := by kernel_rfl) (hr := by kernel_rfl) (hQ := np_) (hd := rfl); case hx => (first | exact Ex.indexN rfl rfl (by first | omega | (simp; done) | (simp; omega))))
  first | (apply GA.take _ (hD := .inr ⟨rfl, by kernel_rfl⟩) (hsub := ⟨_, (by repeat first | exact tn_ | apply td_ rfl | apply tc_ | exact .here | apply Take1.there)⟩) (i := 3) (hi := rfl) (hs := by kernel_rfl) (hfr := by kernel_rfl) (hr := by kernel_rfl) (hQ := np_) (hd := rfl); case hx => (first | exact Ex.loadT0 rfl (by first | omega | (simp; done) | (simp; omega)) rfl))
  first | (apply GA.take _ (hD := .inr ⟨rfl, by kernel_rfl⟩) (hsub := ⟨_, (by repeat first | exact tn_ | apply td_ rfl | apply tc_ | exact .here | apply Take1.there)⟩) (i := 4) (hi := rfl) (hs := by kernel_rfl) (hfr := by kernel_rfl) (hr := by kernel_rfl) (hQ := np_) (hd := rfl); case hx => (first | exact Ex.loadB rfl rfl))
  first | (apply GA.take [] (hD := .inl rfl) (hsub := ⟨_, Takes.nil⟩) (i := 5) (hi := rfl) (hs := by kernel_rfl) (hfr := by kernel_rfl) (hr := by kernel_rfl) (hQ := np_) (hd := rfl); case hx => (first | exact Ex.move rfl))
  first | (apply GA.take _ (hD := .inr ⟨rfl, by kernel_rfl⟩) (hsub := ⟨_, (by repeat first | exact tn_ | apply td_ rfl | apply tc_ | exact .here | apply Take1.there)⟩) (i := 6) (hi := rfl) (hs := by kernel_rfl) (hfr := by kernel_rfl) (hr := by kernel_rfl) (hQ := np_) (hd := rfl); case hx => (first | exact Ex.indexN rfl rfl (by first | omega | (simp; done) | (simp; omega))))
  first | (apply GA.take _ (hD := .inr ⟨rfl, by kernel_rfl⟩) (hsub := ⟨_, (by repeat first | exact tn_ | apply td_ rfl | apply tc_ | exact .here | apply Take1.there)⟩) (i := 7) (hi := rfl) (hs := by kernel_rfl) (hfr := by kernel_rfl) (hr := by kernel_rfl) (hQ := np_) (hd := rfl); case hx => (first | exact Ex.loadT0 rfl (by first | omega | (simp; done) | (simp; omega)) rfl))
  refine GA.one (i := 8) (by kernel_rfl) rfl ?_
  first | refine G.call (caps := []) (huff.compare_sp (key Ls x) (key Ls y)) rfl rfl rfl rfl (by repeat first | exact tn_ | apply td_ rfl | apply tc_ | exact .here | apply Take1.there) ?_ | refine G.callU (caps := []) (huff.compare_sp (key Ls x) (key Ls y)) rfl rfl rfl (by repeat first | exact tn_ | apply td_ rfl | apply tc_ | exact .here | apply Take1.there) ?_
  rintro v_ give_ ⟨rfl, rfl⟩ rs_ hrs_
  simp only [List.cons_append, List.nil_append] at hrs_
  subst hrs_
  try refine G.nil ?_
  refine GA.back (by first | exact .inl (by decide) | exact .inr ⟨_, (by repeat first | exact tn_ | apply td_ rfl | apply tc_ | exact .here | apply Take1.there)⟩) ?_
  first | (apply GA.take [] (hD := .inl rfl) (hsub := ⟨_, Takes.nil⟩) (i := 9) (hi := rfl) (hs := by kernel_rfl) (hfr := by kernel_rfl) (hr := by kernel_rfl) (hQ := np_) (hd := rfl); case hx => (first | exact Ex.assign rfl))
  refine GA.done (by kernel_rfl) ?_
  repeat (first | refine GC.ret ?_ | refine GE.then_normal ?_)
  refine GE.ret (by first | exact .inl rfl | exact .inr rfl) (res1 Try.results32 rfl) ⟨rfl, rfl⟩ (by repeat first | exact tn_ | apply td_ rfl | apply tc_ | exact .here | apply Take1.there) (by repeat (first | exact Subs.refl | refine Subs.skip ?_))
set_option maxHeartbeats 8000000 in
theorem swapRange_sp (f : Value) (da : Option Addr) (dc : Nat) (P X M Y Q : List Nat) (n : Nat) (hX : X.length = n) (hY : Y.length = n) (a b N : Nat) (ha : P.length = a) (hb : a + n + M.length = b) (hN : (P ++ (X ++ (M ++ (Y ++ Q)))).length = N) (hN2 : N ≤ 1000000) :
    Spec Try.prog 39 [.slice da N dc, .int .i64 (a : Int), .int .i64 (b : Int), .int .i64 (n : Int), f] [DR da N dc (P ++ (X ++ (M ++ (Y ++ Q))))] fun v give => give = [DR da N dc (P ++ (Y ++ (M ++ (X ++ Q))))] := by
  have hbn : b + n ≤ (P ++ (X ++ (M ++ (Y ++ Q)))).length := by simp only [List.length_append]; omega
  have hd := fun E h => Swg.done (P := P) (X := X) (M := M) (Y := Y) (Q := Q) (E := E) hX hY ha hb h
  generalize P ++ (X ++ (M ++ (Y ++ Q))) = D at *
  generalize P ++ (Y ++ (M ++ (X ++ Q))) = R at *
  refine Spec.intro Try.func39 rfl Try.ntmps39 rfl fun w0 rest rs_ hrs_ => ?_
  simp only [List.cons_append, List.nil_append] at hrs_
  subst hrs_
  repeat (first | (apply G.ex (hd := rfl); case h => (first | exact Ex.assign rfl)) | refine G.nil ?_ | refine GC.seq ?_ | refine GC.region ?_ | refine GC.block ?_ | refine GE.then_normal ?_)
  refine GC.loop (ι := Nat × List Nat) (fun x => x.1 ≤ n ∧ Swg D x.2 a b x.1) (fun x => n - x.1) (fun x => [(0, .slice da N dc), (1, .int .i64 (a : Int)), (2, .int .i64 (b : Int)), (3, .int .i64 (n : Int)), (10, .int .i64 (x.1 : Int))]) (fun x => [DR da N dc x.2]) (0, D) ⟨Nat.zero_le _, .start D a b⟩ (by simp only [fits]; repeat (first | exact trivial | refine And.intro rfl ?_)) (by repeat first | exact tn_ | apply td_ rfl | apply tc_ | exact .here | apply Take1.there) ?_
  rintro ⟨i, E⟩ ⟨hi, hE⟩ fr_ rs_ hfr_ hrs_
  simp only [List.cons_append, List.nil_append] at hfr_ hrs_
  subst hfr_ hrs_
  simp only at hi hE
  have hEl : E.length = N := by rw [hE.len]; exact hN
  by_cases c : i < n
  · have hst := hE.step c (by omega) hbn
    have hgi : (flat eN E)[(a + i) * 1 + 0]? = some (.int .i64 ((E.getD (a + i) default : Nat) : Int)) := flat_at (inferInstance : Enc eN 1) E (a + i) 0 (by omega) (by decide)
    have hgj : (flat eN E)[(b + i) * 1 + 0]? = some (.int .i64 ((E.getD (b + i) default : Nat) : Int)) := flat_at (inferInstance : Enc eN 1) E (b + i) 0 (by omega) (by decide)
    have hai : a + i < N := by omega
    have hbi : b + i < N := by omega
    clear hE hd
    repeat (first | (apply G.ex (hd := rfl); case h => (first | exact Ex.move rfl | exact Ex.lss rfl rfl)) | refine G.nil ?_ | refine GC.seq ?_ | refine GC.region ?_ | refine GC.block ?_ | refine GC.skip ?_ | refine GE.then_normal ?_ | refine GC.cond_yes rfl (by first | assumption | omega) ?_)
    refine GC.vecSome (List.mem_cons_self ..) (by omega) fun q hq => ?_
    subst hq
    refine GC.drawA [21, 23] [DR (some q) N dc E] (by repeat first | exact tn_ | apply td_ rfl | apply tc_ | exact .here | apply Take1.there) (by kernel_rfl) ?_
    first | (apply GA.take [] (hD := .inl rfl) (hsub := ⟨_, Takes.nil⟩) (i := 0) (hi := rfl) (hs := by kernel_rfl) (hfr := by kernel_rfl) (hr := by kernel_rfl) (hQ := np_) (hd := rfl); case hx => (first | exact Ex.move rfl))
    first | (apply GA.take [] (hD := .inl rfl) (hsub := ⟨_, Takes.nil⟩) (i := 1) (hi := rfl) (hs := by kernel_rfl) (hfr := by kernel_rfl) (hr := by kernel_rfl) (hQ := np_) (hd := rfl); case hx => (first | exact Ex.move rfl))
    first | (apply GA.take [] (hD := .inl rfl) (hsub := ⟨_, Takes.nil⟩) (i := 2) (hi := rfl) (hs := by kernel_rfl) (hfr := by kernel_rfl) (hr := by kernel_rfl) (hQ := np_) (hd := rfl); case hx => (first | exact Ex.move rfl))
    first | (apply GA.take [] (hD := .inl rfl) (hsub := ⟨_, Takes.nil⟩) (i := 3) (hi := rfl) (hs := by kernel_rfl) (hfr := by kernel_rfl) (hr := by kernel_rfl) (hQ := np_) (hd := rfl); case hx => (first | exact Ex.add rfl rfl (by omega)))
    first | (apply GA.take [] (hD := .inl rfl) (hsub := ⟨_, Takes.nil⟩) (i := 4) (hi := rfl) (hs := by kernel_rfl) (hfr := by kernel_rfl) (hr := by kernel_rfl) (hQ := np_) (hd := rfl); case hx => (first | exact Ex.move rfl))
    first | (apply GA.take [] (hD := .inl rfl) (hsub := ⟨_, Takes.nil⟩) (i := 5) (hi := rfl) (hs := by kernel_rfl) (hfr := by kernel_rfl) (hr := by kernel_rfl) (hQ := np_) (hd := rfl); case hx => (first | exact Ex.move rfl))
    first | (apply GA.take [] (hD := .inl rfl) (hsub := ⟨_, Takes.nil⟩) (i := 6) (hi := rfl) (hs := by kernel_rfl) (hfr := by kernel_rfl) (hr := by kernel_rfl) (hQ := np_) (hd := rfl); case hx => (first | exact Ex.move rfl))
    first | (apply GA.take [] (hD := .inl rfl) (hsub := ⟨_, Takes.nil⟩) (i := 7) (hi := rfl) (hs := by kernel_rfl) (hfr := by kernel_rfl) (hr := by kernel_rfl) (hQ := np_) (hd := rfl); case hx => (first | exact Ex.add rfl rfl (by omega)))
    first | (apply GA.take [] (hD := .inl rfl) (hsub := ⟨_, Takes.nil⟩) (i := 8) (hi := rfl) (hs := by kernel_rfl) (hfr := by kernel_rfl) (hr := by kernel_rfl) (hQ := np_) (hd := rfl); case hx => (first | exact Ex.move rfl))
    first | (apply GA.take [] (hD := .inl rfl) (hsub := ⟨_, Takes.nil⟩) (i := 9) (hi := rfl) (hs := by kernel_rfl) (hfr := by kernel_rfl) (hr := by kernel_rfl) (hQ := np_) (hd := rfl); case hx => (first | exact Ex.move rfl))
    first | (apply GA.take [] (hD := .inl rfl) (hsub := ⟨_, Takes.nil⟩) (i := 10) (hi := rfl) (hs := by kernel_rfl) (hfr := by kernel_rfl) (hr := by kernel_rfl) (hQ := np_) (hd := rfl); case hx => (first | exact Ex.move rfl))
    first | (apply GA.take [] (hD := .inl rfl) (hsub := ⟨_, Takes.nil⟩) (i := 11) (hi := rfl) (hs := by kernel_rfl) (hfr := by kernel_rfl) (hr := by kernel_rfl) (hQ := np_) (hd := rfl); case hx => (first | exact Ex.add rfl rfl (by omega)))
    first | (apply GA.take [] (hD := .inl rfl) (hsub := ⟨_, Takes.nil⟩) (i := 14) (hi := rfl) (hs := by kernel_rfl) (hfr := by kernel_rfl) (hr := by kernel_rfl) (hQ := np_) (hd := rfl); case hx => (first | exact Ex.move rfl))
    first | (apply GA.take [] (hD := .inl rfl) (hsub := ⟨_, Takes.nil⟩) (i := 15) (hi := rfl) (hs := by kernel_rfl) (hfr := by kernel_rfl) (hr := by kernel_rfl) (hQ := np_) (hd := rfl); case hx => (first | exact Ex.move rfl))
    first | (apply GA.take [] (hD := .inl rfl) (hsub := ⟨_, Takes.nil⟩) (i := 16) (hi := rfl) (hs := by kernel_rfl) (hfr := by kernel_rfl) (hr := by kernel_rfl) (hQ := np_) (hd := rfl); case hx => (first | exact Ex.move rfl))
    first | (apply GA.take [] (hD := .inl rfl) (hsub := ⟨_, Takes.nil⟩) (i := 17) (hi := rfl) (hs := by kernel_rfl) (hfr := by kernel_rfl) (hr := by kernel_rfl) (hQ := np_) (hd := rfl); case hx => (first | exact Ex.add rfl rfl (by omega)))
    rw [show (a : Int) + (i : Int) = ((a + i : Nat) : Int) by omega, show (b : Int) + (i : Int) = ((b + i : Nat) : Int) by omega]
    apply GA.take [] (hD := .inl rfl) (hsub := ⟨_, Takes.nil⟩) (i := 12) (hi := rfl) (hs := by kernel_rfl) (hfr := by kernel_rfl) (hr := by kernel_rfl) (hQ := np_) (hd := rfl) (hx := (Ex.indexSome (k := b + i) rfl rfl hbi))
    apply GA.take _ (hD := .inr ⟨rfl, by kernel_rfl⟩) (hsub := ⟨_, (by repeat first | exact tn_ | apply td_ rfl | apply tc_ | exact .here | apply Take1.there)⟩) (i := 13) (hi := rfl) (hs := by kernel_rfl) (hfr := by kernel_rfl) (hr := by kernel_rfl) (hQ := np_) (hd := rfl) (hx := (Ex.loadE (k := (b + i) * 1) rfl hgj))
    apply GA.take [] (hD := .inl rfl) (hsub := ⟨_, Takes.nil⟩) (i := 18) (hi := rfl) (hs := by kernel_rfl) (hfr := by kernel_rfl) (hr := by kernel_rfl) (hQ := np_) (hd := rfl) (hx := (Ex.indexSome (k := a + i) rfl rfl hai))
    apply GA.take _ (hD := .inr ⟨rfl, by kernel_rfl⟩) (hsub := ⟨_, (by repeat first | exact tn_ | apply td_ rfl | apply tc_ | exact .here | apply Take1.there)⟩) (i := 19) (hi := rfl) (hs := by kernel_rfl) (hfr := by kernel_rfl) (hr := by kernel_rfl) (hQ := np_) (hd := rfl) (hx := (Ex.loadE (k := (a + i) * 1) rfl hgi))
    apply GA.take [] (hD := .inl rfl) (hsub := ⟨_, Takes.nil⟩) (i := 20) (hi := rfl) (hs := by kernel_rfl) (hfr := by kernel_rfl) (hr := by kernel_rfl) (hQ := np_) (hd := rfl) (hx := (Ex.indexSome (k := a + i) rfl rfl hai))
    refine GA.one (i := 21) (by kernel_rfl) rfl ?_
    first | refine G.storeT0 rfl rfl rfl rfl (by first | omega | (simp; omega)) rfl ((E.getD (b + i) default)) (rfl) (fun rs_ hrs_ => ?_) | refine G.storeT rfl rfl rfl rfl (by first | omega | (simp; omega)) rfl ((E.getD (b + i) default)) (rfl) (fun rs_ hrs_ => ?_) | refine G.storeTA rfl rfl (by first | omega | (simp; omega)) rfl ((E.getD (b + i) default)) (rfl) (fun rs_ hrs_ => ?_)
    try simp only at hrs_
    subst hrs_
    try refine G.nil ?_
    refine GA.back (by first | exact .inl (by decide) | exact .inr ⟨_, (by repeat first | exact tn_ | apply td_ rfl | apply tc_ | exact .here | apply Take1.there)⟩) ?_
    apply GA.take [] (hD := .inl rfl) (hsub := ⟨_, Takes.nil⟩) (i := 22) (hi := rfl) (hs := by kernel_rfl) (hfr := by kernel_rfl) (hr := by kernel_rfl) (hQ := np_) (hd := rfl) (hx := (Ex.indexSome (k := b + i) rfl rfl hbi))
    refine GA.one (i := 23) (by kernel_rfl) rfl ?_
    first | refine G.storeT0 rfl rfl rfl rfl (by first | omega | (simp; omega)) rfl ((E.getD (a + i) default)) (rfl) (fun rs_ hrs_ => ?_) | refine G.storeT rfl rfl rfl rfl (by first | omega | (simp; omega)) rfl ((E.getD (a + i) default)) (rfl) (fun rs_ hrs_ => ?_) | refine G.storeTA rfl rfl (by first | omega | (simp; omega)) rfl ((E.getD (a + i) default)) (rfl) (fun rs_ hrs_ => ?_)
    try simp only at hrs_
    subst hrs_
    try refine G.nil ?_
    refine GA.back (by first | exact .inl (by decide) | exact .inr ⟨_, (by repeat first | exact tn_ | apply td_ rfl | apply tc_ | exact .here | apply Take1.there)⟩) ?_
    refine GA.done (by kernel_rfl) ?_
    repeat (first | (apply G.ex (hd := rfl); case h => (first | exact Ex.move rfl | exact Ex.add rfl rfl (by omega) | exact Ex.assign rfl)) | refine G.nil ?_ | refine GC.region ?_ | refine GE.then_normal ?_ | refine GE.block_normal ?_)
    rw [show (i : Int) + 1 = ((i + 1 : Nat) : Int) by omega]
    refine GE.loop (i + 1, huff.swp E (a + i) (b + i)) ⟨by simp only; omega, hst⟩ (by simp only; omega) (by simp only [fits]; repeat (first | exact trivial | refine And.intro rfl ?_)) (by repeat first | exact tn_ | apply td_ rfl | apply tc_ | exact .here | apply Take1.there) (by repeat (first | exact Subs.refl | refine Subs.skip ?_))
  · obtain rfl : i = n := by omega
    rw [hd E hE]
    repeat (first | (apply G.ex (hd := rfl); case h => (first | exact Ex.move rfl | exact Ex.lss rfl rfl)) | refine G.nil ?_ | refine GC.seq ?_ | refine GC.region ?_ | refine GC.exit ?_ | refine GE.then_normal ?_ | refine GE.then_exit ?_ | refine GE.block_hit ?_ | refine GC.cond_no rfl (by first | assumption | omega) ?_)
    refine GE.ret (by first | exact .inl rfl | exact .inr rfl) (res0 Try.results39) rfl (by repeat first | exact tn_ | apply td_ rfl | apply tc_ | exact .here | apply Take1.there) (by repeat (first | exact Subs.refl | refine Subs.skip ?_))
set_option maxHeartbeats 8000000 in
theorem rotate_sp (f : Value) (da : Option Addr) (dc : Nat) (P U V Q : List Nat) (a m b N : Nat) (hU : 0 < U.length) (hV : 0 < V.length) (ha : P.length = a) (hm : a + U.length = m) (hb : m + V.length = b) (hN : (P ++ (U ++ (V ++ Q))).length = N) (hN2 : N ≤ 1000000) :
    Spec Try.prog 38 [.slice da N dc, .int .i64 (a : Int), .int .i64 (m : Int), .int .i64 (b : Int), f] [DR da N dc (P ++ (U ++ (V ++ Q)))] fun v give => give = [DR da N dc (P ++ (V ++ (U ++ Q)))] := by
  have hbN : b ≤ 1000000 := by simp only [List.length_append] at hN; omega
  refine Spec.intro Try.func38 rfl Try.ntmps38 rfl fun w0 rest rs_ hrs_ => ?_
  simp only [List.cons_append, List.nil_append] at hrs_
  subst hrs_
  repeat (first | (apply G.ex (hd := rfl); case h => (first | exact Ex.move rfl | exact Ex.sub rfl rfl (by omega) | exact Ex.assign rfl)) | refine G.nil ?_ | refine GC.seq ?_ | refine GC.region ?_ | refine GC.block ?_ | refine GE.then_normal ?_)
  rw [show (m : Int) - (a : Int) = (U.length : Int) by omega, show (b : Int) - (m : Int) = (V.length : Int) by omega]
  refine GC.loop (ι := List Nat × List Nat × List Nat × List Nat) (fun x => x.1.length + x.2.1.length = m ∧ 0 < x.2.1.length ∧ 0 < x.2.2.1.length ∧ x.1 ++ (x.2.2.1 ++ (x.2.1 ++ x.2.2.2)) = P ++ (V ++ (U ++ Q))) (fun x => x.2.1.length + x.2.2.1.length) (fun x => [(0, .slice da N dc), (2, .int .i64 (m : Int)), (4, f), (10, .int .i64 (x.2.1.length : Int)), (11, .int .i64 (x.2.2.1.length : Int))]) (fun x => [DR da N dc (x.1 ++ (x.2.1 ++ (x.2.2.1 ++ x.2.2.2)))]) (P, U, V, Q) ⟨by simp only; omega, hU, hV, rfl⟩ (by simp only [fits]; repeat (first | exact trivial | refine And.intro rfl ?_)) (by repeat first | exact tn_ | apply td_ rfl | apply tc_ | exact .here | apply Take1.there) ?_
  rintro ⟨P1, A, B, Q1⟩ ⟨hm1, hA, hB, hT⟩ fr_ rs_ hfr_ hrs_
  simp only [List.cons_append, List.nil_append] at hfr_ hrs_
  subst hfr_ hrs_
  simp only at hm1 hA hB hT
  have hN1 : P1.length + (A.length + (B.length + Q1.length)) = N := by
    have := congrArg List.length hT
    simp only [List.length_append] at this hN
    omega
  by_cases c : A.length = B.length
  · have c' : ¬ ¬ ((A.length : Int) = (B.length : Int)) := fun h => h (by omega)
    rw [← hT]
    clear hT
    repeat (first | (apply G.ex (hd := rfl); case h => (first | exact Ex.move rfl | exact Ex.sub rfl rfl (by omega) | exact Ex.neI rfl rfl)) | refine G.nil ?_ | refine GC.seq ?_ | refine GC.region ?_ | refine GC.exit ?_ | refine GE.then_normal ?_ | refine GE.then_exit ?_ | refine GE.block_hit ?_ | refine GC.cond_no rfl (by first | assumption | omega) ?_)
    rw [show (m : Int) - (A.length : Int) = (P1.length : Int) by omega]
    first | refine G.call (caps := []) (swapRange_sp f da dc P1 A [] B Q1 A.length rfl c.symm P1.length m N rfl (by simp only [List.length_nil]; omega) (by simp only [List.length_append, List.length_nil]; omega) hN2) rfl rfl rfl rfl (by repeat first | exact tn_ | apply td_ rfl | apply tc_ | exact .here | apply Take1.there) ?_ | refine G.callU (caps := []) (swapRange_sp f da dc P1 A [] B Q1 A.length rfl c.symm P1.length m N rfl (by simp only [List.length_nil]; omega) (by simp only [List.length_append, List.length_nil]; omega) hN2) rfl rfl rfl (by repeat first | exact tn_ | apply td_ rfl | apply tc_ | exact .here | apply Take1.there) ?_
    rintro v_ give_ rfl rs_ hrs_
    simp only [List.cons_append, List.nil_append] at hrs_
    subst hrs_
    repeat (first | refine G.nil ?_)
    refine GE.ret (by first | exact .inl rfl | exact .inr rfl) (res0 Try.results38) rfl (by repeat first | exact tn_ | apply td_ rfl | apply tc_ | exact .here | apply Take1.there) (by repeat (first | exact Subs.refl | refine Subs.skip ?_))
  · have c' : ¬ ((A.length : Int) = (B.length : Int)) := by omega
    by_cases d : B.length < A.length
    · have d' : (A.length : Int) > (B.length : Int) := by omega
      obtain ⟨A1, A2, hA12, hA1⟩ : ∃ A1 A2, A = A1 ++ A2 ∧ A1.length = B.length := ⟨A.take B.length, A.drop B.length, (List.take_append_drop ..).symm, by rw [List.length_take]; omega⟩
      subst hA12
      rw [List.length_append] at hm1 hA hN1 c d d' c'
      have hT2 : P1 ++ B ++ (A1 ++ (A2 ++ Q1)) = P ++ (V ++ (U ++ Q)) := by rw [← hT, List.append_assoc, List.append_assoc]
      clear hT
      rw [List.length_append, List.append_assoc]
      repeat (first | (apply G.ex (hd := rfl); case h => (first | exact Ex.move rfl | exact Ex.sub rfl rfl (by omega) | exact Ex.gtr rfl rfl | exact Ex.neI rfl rfl)) | refine G.nil ?_ | refine GC.seq ?_ | refine GC.region ?_ | refine GC.block ?_ | refine GC.skip ?_ | refine GE.then_normal ?_ | refine GC.cond_yes rfl (by first | assumption | omega) ?_)
      rw [show (m : Int) - ((A1.length + A2.length : Nat) : Int) = (P1.length : Int) by omega]
      first | refine G.call (caps := []) (swapRange_sp f da dc P1 A1 A2 B Q1 B.length hA1 rfl P1.length m N rfl (by omega) (by simp only [List.length_append]; omega) hN2) rfl rfl rfl rfl (by repeat first | exact tn_ | apply td_ rfl | apply tc_ | exact .here | apply Take1.there) ?_ | refine G.callU (caps := []) (swapRange_sp f da dc P1 A1 A2 B Q1 B.length hA1 rfl P1.length m N rfl (by omega) (by simp only [List.length_append]; omega) hN2) rfl rfl rfl (by repeat first | exact tn_ | apply td_ rfl | apply tc_ | exact .here | apply Take1.there) ?_
      rintro v_ give_ rfl rs_ hrs_
      simp only [List.cons_append, List.nil_append] at hrs_
      subst hrs_
      rw [show P1 ++ (B ++ (A2 ++ (A1 ++ Q1))) = (P1 ++ B) ++ (A2 ++ (A1 ++ Q1)) from (List.append_assoc ..).symm]
      repeat (first | (apply G.ex (hd := rfl); case h => (first | exact Ex.move rfl | exact Ex.sub rfl rfl (by omega) | exact Ex.assign rfl)) | refine G.nil ?_ | refine GC.region ?_ | refine GE.then_normal ?_ | refine GE.block_normal ?_)
      rw [show ((A1.length + A2.length : Nat) : Int) - (B.length : Int) = (A2.length : Int) by omega, ← hA1]
      refine GE.loop (P1 ++ B, A2, A1, Q1) ⟨by simp only [List.length_append]; omega, by simp only; omega, by simp only; omega, hT2⟩ (by simp only [List.length_append]; omega) (by simp only [fits]; repeat (first | exact trivial | refine And.intro rfl ?_)) (by repeat first | exact tn_ | apply td_ rfl | apply tc_ | exact .here | apply Take1.there) (by repeat (first | exact Subs.refl | refine Subs.skip ?_))
    · have d' : ¬ (A.length : Int) > (B.length : Int) := by omega
      obtain ⟨B1, B2, hB12, hB2⟩ : ∃ B1 B2, B = B1 ++ B2 ∧ B2.length = A.length := ⟨B.take (B.length - A.length), B.drop (B.length - A.length), (List.take_append_drop ..).symm, by rw [List.length_drop]; omega⟩
      subst hB12
      rw [List.length_append] at hB hN1 c d d' c'
      have hT2 : P1 ++ (B1 ++ (B2 ++ (A ++ Q1))) = P ++ (V ++ (U ++ Q)) := by rw [← hT, List.append_assoc]
      clear hT
      rw [List.length_append, List.append_assoc]
      repeat (first | (apply G.ex (hd := rfl); case h => (first | exact Ex.move rfl | exact Ex.add rfl rfl (by omega) | exact Ex.sub rfl rfl (by omega) | exact Ex.gtr rfl rfl | exact Ex.neI rfl rfl)) | refine G.nil ?_ | refine GC.seq ?_ | refine GC.region ?_ | refine GC.block ?_ | refine GC.skip ?_ | refine GE.then_normal ?_ | refine GC.cond_yes rfl (by first | assumption | omega) ?_ | refine GC.cond_no rfl (by first | assumption | omega) ?_)
      rw [show (m : Int) - (A.length : Int) = (P1.length : Int) by omega, show (m : Int) + ((B1.length + B2.length : Nat) : Int) - (A.length : Int) = ((m + B1.length : Nat) : Int) by omega]
      first | refine G.call (caps := []) (swapRange_sp f da dc P1 A B1 B2 Q1 A.length rfl hB2 P1.length (m + B1.length) N rfl (by omega) (by simp only [List.length_append]; omega) hN2) rfl rfl rfl rfl (by repeat first | exact tn_ | apply td_ rfl | apply tc_ | exact .here | apply Take1.there) ?_ | refine G.callU (caps := []) (swapRange_sp f da dc P1 A B1 B2 Q1 A.length rfl hB2 P1.length (m + B1.length) N rfl (by omega) (by simp only [List.length_append]; omega) hN2) rfl rfl rfl (by repeat first | exact tn_ | apply td_ rfl | apply tc_ | exact .here | apply Take1.there) ?_
      rintro v_ give_ rfl rs_ hrs_
      simp only [List.cons_append, List.nil_append] at hrs_
      subst hrs_
      repeat (first | (apply G.ex (hd := rfl); case h => (first | exact Ex.move rfl | exact Ex.sub rfl rfl (by omega) | exact Ex.assign rfl)) | refine G.nil ?_ | refine GC.region ?_ | refine GE.then_normal ?_ | refine GE.block_normal ?_)
      rw [show ((B1.length + B2.length : Nat) : Int) - (A.length : Int) = (B1.length : Int) by omega, ← hB2]
      refine GE.loop (P1, B2, B1, A ++ Q1) ⟨by simp only; omega, by simp only; omega, by simp only; omega, hT2⟩ (by simp only [List.length_append]; omega) (by simp only [fits]; repeat (first | exact trivial | refine And.intro rfl ?_)) (by repeat first | exact tn_ | apply td_ rfl | apply tc_ | exact .here | apply Take1.there) (by repeat (first | exact Subs.refl | refine Subs.skip ?_))
end sort
end Go.Proofs.Ytfkgchdbjfbdaaa
