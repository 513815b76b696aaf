/-
  CONTRACT of glob.set (where what stands behind [ is a set), by the kit.
-/
import Derived.Test.YtmkojbeongiimaaGlob
namespace Go.Proofs.Ytmkojbeongiimaa
open Go.RowKit
attribute [local irreducible] Ex G GC GE Gq FPost LPost
set_option linter.unusedVariables false
set_option linter.unusedSimpArgs false
namespace glob
theorem addN_zero (p : Pt) (c : Nat) : addN p c c = p := by
  funext j
  unfold addN
  rw [show decide (1 + c ≤ j ∧ j < 1 + c) = false from decide_eq_false (by omega), Bool.or_false]
theorem addN_step (p : Pt) (c k : Nat) (h : c ≤ k) : upd (addN p c k) (0 + 1 + k) true = addN p c (k + 1) := by
  funext i
  unfold upd addN
  by_cases e : i = 0 + 1 + k
  · rw [if_pos e, show decide (1 + c ≤ i ∧ i < 1 + (k + 1)) = true from decide_eq_true (by omega), Bool.or_true]
  · rw [if_neg e]
    congr 1
    exact decide_eq_decide.2 (by omega)
theorem flipP_zero (p : Pt) (nb : Bool) : flipP p nb 0 = p := by
  funext j
  unfold flipP
  rw [if_neg (by omega)]
theorem flipP_step (p : Pt) (nb : Bool) (k : Nat) : upd (flipP p nb k) (0 + 1 + k) (decide (¬ flipP p nb k (0 + 1 + k) = nb)) = flipP p nb (k + 1) := by
  funext j
  unfold upd flipP
  by_cases e : j = 0 + 1 + k
  · rw [if_pos e, if_neg (by omega), if_pos (by omega), e]
    cases p (0 + 1 + k) <;> cases nb <;> rfl
  · rw [if_neg e]
    by_cases h : 1 ≤ j ∧ j < 1 + k
    · rw [if_pos h, if_pos (by omega)]
    · rw [if_neg h, if_neg (by omega)]
theorem okB_ne {c : UInt8} (h : okB c = true) : ¬ c = 93 := (of_decide_eq_true h).1
set_option maxHeartbeats 4000000 in
set_option maxRecDepth 100000 in
theorem set_sp (s : List UInt8) (p : Pt) (rest : List UInt8) (hs : SetOk s p rest) : Spec Try.prog 18 [.string (sOf s)] [] fun v give => v = .tuple #[.agg (eP p).toArray, .string (sOf rest), .bool true] ∧ give = [] := by
  have key : ∃ (nb : Bool) (c : UInt8) (t : List UInt8) (q : Pt), ((nb = true ∧ s = 94 :: c :: t) ∨ (nb = false ∧ s = c :: t ∧ ¬ c = 94)) ∧ ¬ c = 93 ∧ SetGo noP (c :: t) q rest ∧ p = flipP q nb 256 := by
    cases hs with
    | yes h1 h2 h3 => exact ⟨false, _, _, _, .inr ⟨rfl, rfl, h1⟩, h2, h3, rfl⟩
    | no h1 h2 => exact ⟨true, _, _, _, .inl ⟨rfl, rfl⟩, h1, h2, rfl⟩
  clear hs
  obtain ⟨nb, c, t, q, hs, hc93, hgo, rfl⟩ := key
  refine Spec.intro Try.func18 rfl Try.ntmps18 rfl fun w0 rest rs_ hrs_ => ?_
  simp only [List.cons_append, List.nil_append] at hrs_
  subst hrs_
  repeat (first | refine GC.seq ?_ | refine GC.region ?_)
  refine G.alloc rfl (fun rb => ?_)
  repeat (first | (apply G.ex (hd := rfl); case h => (first | exact Ex.assign rfl)) | refine G.nil ?_ | refine GC.seq ?_ | refine GC.region ?_ | refine GE.then_normal ?_)
  refine G.alloc rfl (fun pb => ?_)
  refine G.nil ?_
  refine GE.then_normal ?_
  refine GC.seq ?_
  refine GC.meet (ι := Unit) (fun _ => True) (fun _ => [(0, .string (sOf s)), (2, .pointer (some (badr rb 0))), (5, .pointer (some (badr pb 0))), (6, .bool nb)]) (fun _ => [.blk pb 45 (eP noP), .blk rb 45 (eP noP)]) rs_ ?_ ?_
  · rcases hs with ⟨rfl, rfl⟩ | ⟨rfl, rfl, hc94⟩
    · have hne : ¬ 94 :: c :: t = [] := by simp
      have hl : 0 < (94 :: c :: t).length := by simp
      repeat (first | (apply G.ex (hd := rfl); case h => (first | exact Ex.move rfl | exact Ex.indexO rfl rfl (by omega) | exact Ex.neO rfl rfl | exact Ex.eqI rfl rfl | exact Ex.assign rfl | exact Ex.pickT rfl (by first | assumption | omega) rfl)) | refine G.g_tt rfl rfl (by first | assumption | omega) ?_ | refine G.nil ?_ | refine GC.region ?_)
      refine GE.meet () trivial (by simp only [fits]; repeat (first | exact trivial | refine And.intro rfl ?_)) (by repeat (first | exact Takes.nil | apply Takes.dup rfl | apply Takes.cons | exact Take1.here | apply Take1.there)) (by repeat (first | exact Subs.refl | refine Subs.skip ?_))
    · have hc94' : decide (((c.toNat : Nat) : Int) = 94) = false := decide_eq_false (u8_ne hc94)
      have hne : ¬ c :: t = [] := by simp
      have hl : 0 < (c :: t).length := by simp
      repeat (first | (apply G.ex (hd := rfl); case h => (first | exact Ex.move rfl | exact Ex.indexO rfl rfl (by omega) | exact Ex.neO rfl rfl | exact Ex.eqI rfl rfl | exact Ex.assign rfl | exact Ex.pickT rfl (by first | assumption | omega) rfl)) | refine G.g_tt rfl rfl (by first | assumption | omega) ?_ | refine G.nil ?_ | refine GC.region ?_)
      rw [show ((c :: t).getD 0 0).toNat = c.toNat from rfl, hc94']
      refine GE.meet () trivial (by simp only [fits]; repeat (first | exact trivial | refine And.intro rfl ?_)) (by repeat (first | exact Takes.nil | apply Takes.dup rfl | apply Takes.cons | exact Take1.here | apply Take1.there)) (by repeat (first | exact Subs.refl | refine Subs.skip ?_))
  rintro ⟨⟩ - fr_ rs_ hfr_ hrs_
  simp only [List.cons_append, List.nil_append] at hfr_ hrs_
  subst hfr_ hrs_
  refine GE.then_normal ?_
  refine GC.seq ?_
  refine GC.meet (ι := Unit) (fun _ => True) (fun _ => [(0, .string (sOf (c :: t))), (2, .pointer (some (badr rb 0))), (5, .pointer (some (badr pb 0))), (6, .bool nb)]) (fun _ => [.blk pb 45 (eP noP), .blk rb 45 (eP noP)]) rs_ ?_ ?_
  · rcases hs with ⟨rfl, rfl⟩ | ⟨rfl, rfl, hc94⟩
    · have hl : 1 ≤ (94 :: c :: t).length := by simp
      repeat (first | (apply G.ex (hd := rfl); case h => (first | exact Ex.move rfl | exact Ex.subLo rfl rfl (by omega) | exact Ex.assign rfl)) | refine G.nil ?_ | refine GC.seq ?_ | refine GC.region ?_ | refine GE.then_normal ?_ | refine GC.cond_yes rfl (by first | assumption | omega) ?_)
      refine GE.meet () trivial (by simp only [fits]; repeat (first | exact trivial | refine And.intro rfl ?_)) (by repeat (first | exact Takes.nil | apply Takes.dup rfl | apply Takes.cons | exact Take1.here | apply Take1.there)) (by repeat (first | exact Subs.refl | refine Subs.skip ?_))
    · repeat (first | (apply G.ex (hd := rfl); case h => (first | exact Ex.move rfl)) | refine G.nil ?_ | refine GC.seq ?_ | refine GC.region ?_ | refine GC.skip ?_ | refine GE.then_normal ?_ | refine GC.cond_f rfl ?_)
      refine GE.meet () trivial (by simp only [fits]; repeat (first | exact trivial | refine And.intro rfl ?_)) (by repeat (first | exact Takes.nil | apply Takes.dup rfl | apply Takes.cons | exact Take1.here | apply Take1.there)) (by repeat (first | exact Subs.refl | refine Subs.skip ?_))
  rintro ⟨⟩ - fr_ rs_ hfr_ hrs_
  simp only [List.cons_append, List.nil_append] at hfr_ hrs_
  subst hfr_ hrs_
  repeat (first | (apply G.ex (hd := rfl); case h => (first | exact Ex.assign rfl)) | refine G.nil ?_ | refine GC.seq ?_ | refine GC.region ?_ | refine GC.block ?_ | refine GE.then_normal ?_)
  refine GC.loop (ι := Pt × List UInt8 × Bool) (fun x => SetGo x.1 x.2.1 q rest ∧ (x.2.2 = true → x.2.1.getD 0 0 ≠ 93)) (fun x => x.2.1.length) (fun x => [(0, .string (sOf x.2.1)), (2, .pointer (some (badr rb 0))), (5, .pointer (some (badr pb 0))), (6, .bool nb), (7, .bool x.2.2)]) (fun x => [.blk pb 45 (eP x.1), .blk rb 45 (eP noP)]) (noP, c :: t, true) ⟨hgo, fun _ => hc93⟩ (by simp only [fits]; repeat (first | exact trivial | refine And.intro rfl ?_)) (by repeat (first | exact Takes.nil | apply Takes.dup rfl | apply Takes.cons | exact Take1.here | apply Take1.there)) ?_
  clear hgo hc93 hs
  clear c t
  rintro ⟨p, s1, e⟩ ⟨hgo, he⟩ fr_ rs_ hfr_ hrs_
  simp only [List.cons_append, List.nil_append] at hfr_ hrs_
  subst hfr_ hrs_
  simp only at hgo he
  repeat (first | (apply G.ex (hd := rfl); case h => (first | exact Ex.move rfl)) | refine GC.seq ?_ | refine GC.region ?_)
  first | refine G.call (caps := []) (plain_sp s1) rfl rfl rfl rfl (by repeat (first | exact Takes.nil | apply Takes.dup rfl | apply Takes.cons | exact Take1.here | apply Take1.there)) ?_ | refine G.callU (caps := []) (plain_sp s1) rfl rfl rfl (by repeat (first | exact Takes.nil | apply Takes.dup rfl | apply Takes.cons | exact Take1.here | apply Take1.there)) ?_
  rintro v_ give_ ⟨rfl, rfl⟩ rs_ hrs_
  simp only [List.cons_append, List.nil_append] at hrs_
  subst hrs_
  have hsc : (∃ r, s1 = 93 :: r ∧ p = q ∧ r = rest) ∨ ∃ (c d : UInt8) (t t' : List UInt8), s1 = c :: t ∧ okB c = true ∧ c.toNat ≤ d.toNat ∧ SetGo (addN p c.toNat (d.toNat + 1)) t' q rest ∧ ((t = t' ∧ d = c ∧ isRng t = false) ∨ (t = 45 :: d :: t' ∧ okB d = true)) := by
    cases hgo with
    | stop => exact .inl ⟨_, rfl, rfl, rfl⟩
    | one h1 h2 h3 => exact .inr ⟨_, _, _, _, rfl, h1, Nat.le_refl _, h3, .inl ⟨rfl, rfl, h2⟩⟩
    | rng h1 h2 h3 h4 => exact .inr ⟨_, _, _, _, rfl, h1, h3, h4, .inr ⟨rfl, h2⟩⟩
  rcases hsc with ⟨r, rfl, rfl, rfl⟩ | ⟨c, d, t, t', rfl, hok, hcd, hgo', hsh⟩
  · have hpl : plainB (93 :: r) = false := rfl
    rw [hpl]
    have hef : e = false := by
      cases e with
      | false => rfl
      | true => exact absurd rfl (he rfl)
    subst hef
    have hne : ¬ 93 :: r = [] := by simp
    have hl : 0 < (93 :: r).length := by simp
    have hl1 : 1 ≤ (93 :: r).length := by simp
    repeat (first | (apply G.ex (hd := rfl); case h => (first | exact Ex.move rfl | exact Ex.indexO rfl rfl (by omega) | exact Ex.eqO rfl rfl | exact Ex.neI rfl rfl | exact Ex.pickF rfl (by first | assumption | omega) rfl)) | refine G.g_ff rfl rfl (by first | assumption | omega) ?_ | refine G.nil ?_ | refine GC.seq ?_ | refine GC.region ?_ | refine GC.block ?_ | refine GC.skip ?_ | refine GC.exit ?_ | refine GE.then_normal ?_ | refine GE.then_exit ?_ | refine GE.block_hit ?_ | refine GC.cond_no rfl (by first | assumption | omega) ?_ | refine GC.cond_f rfl ?_)
    rw [← flipP_zero p nb]
    refine GC.loop (ι := Nat) (fun k => k ≤ 256) (fun k => 256 - k) (fun k => [(0, .string (sOf (93 :: r))), (2, .pointer (some (badr rb 0))), (5, .pointer (some (badr pb 0))), (6, .bool nb), (71, .int .i64 (k : Int))]) (fun k => [.blk pb 45 (eP (flipP p nb k)), .blk rb 45 (eP noP)]) 0 (Nat.zero_le _) (by simp only [fits]; repeat (first | exact trivial | refine And.intro rfl ?_)) (by repeat (first | exact Takes.nil | apply Takes.dup rfl | apply Takes.cons | exact Take1.here | apply Take1.there)) ?_
    rintro k hk fr_ rs_ hfr_ hrs_
    simp only [List.cons_append, List.nil_append] at hfr_ hrs_
    subst hfr_ hrs_
    repeat (first | (apply G.ex (hd := rfl); case h => (first | exact Ex.lss rfl rfl)) | refine G.nil ?_ | refine GC.seq ?_ | refine GC.region ?_ | refine GE.then_normal ?_)
    refine GC.cond_dec rfl (fun hlt => ?_) (fun hlt => ?_)
    · have hlt : k < 256 := by omega
      repeat (first | (apply G.ex (hd := rfl); case h => (first | exact Ex.move rfl | exact Ex.indexPB rfl rfl (by first | omega | (simp; done) | (simp; omega)) | exact Ex.loadP rfl (by omega) | exact Ex.fieldB rfl | exact Ex.assign rfl | exact Ex.neB rfl rfl)) | refine G.nil ?_ | refine GC.seq ?_ | refine GC.region ?_ | refine GC.block ?_ | refine GC.skip ?_ | refine GE.then_normal ?_)
      refine G.storeP rfl rfl (by omega) (by repeat (first | exact Upd.here | apply Upd.there)) ?_
      rw [flipP_step]
      repeat (first | (apply G.ex (hd := rfl); case h => (first | exact Ex.move rfl | exact Ex.add rfl rfl (by omega))) | refine G.nil ?_ | refine GC.region ?_ | refine GE.then_normal ?_ | refine GE.block_normal ?_)
      refine GE.loop (k + 1) (by omega) (by omega) (by simp only [fits]; repeat (first | exact trivial | refine And.intro rfl ?_)) (by repeat (first | exact Takes.nil | apply Takes.dup rfl | apply Takes.cons | exact Take1.here | apply Take1.there)) (by repeat (first | exact Subs.refl | refine Subs.skip ?_))
    · have hk256 : k = 256 := by omega
      subst hk256
      repeat (first | refine GC.seq ?_ | refine GC.exit ?_ | refine GE.then_normal ?_ | refine GE.then_exit ?_ | refine GE.block_hit ?_)
      refine GC.drawA [3] [.blk pb 45 (eP (flipP p nb 256))] (by repeat (first | exact Takes.nil | apply Takes.dup rfl | apply Takes.cons | exact Take1.here | apply Take1.there)) (by kernel_rfl) ?_
      first | (apply GA.take _ (hD := .inr ⟨rfl, by kernel_rfl⟩) (hsub := ⟨_, (by repeat (first | exact Takes.nil | apply Takes.dup rfl | apply Takes.cons | exact Take1.here | apply Take1.there))⟩) (i := 0) (hi := rfl) (hs := by kernel_rfl) (hfr := by kernel_rfl) (hr := by kernel_rfl) (hQ := (by repeat (first | exact NoPanic.fpost | apply NoPanic.then_ | apply NoPanic.block))) (hd := rfl); case hx => (first | exact Ex.loadPW rfl))
      first | (apply GA.take [] (hD := .inl rfl) (hsub := ⟨_, Takes.nil⟩) (i := 1) (hi := rfl) (hs := by kernel_rfl) (hfr := by kernel_rfl) (hr := by kernel_rfl) (hQ := (by repeat (first | exact NoPanic.fpost | apply NoPanic.then_ | apply NoPanic.block))) (hd := rfl); case hx => (first | exact Ex.move rfl))
      first | (apply GA.take [] (hD := .inl rfl) (hsub := ⟨_, Takes.nil⟩) (i := 2) (hi := rfl) (hs := by kernel_rfl) (hfr := by kernel_rfl) (hr := by kernel_rfl) (hQ := (by repeat (first | exact NoPanic.fpost | apply NoPanic.then_ | apply NoPanic.block))) (hd := rfl); case hx => (first | exact Ex.subLo rfl rfl (by omega)))
      refine GA.one (i := 3) (by kernel_rfl) rfl ?_
      repeat (first | refine G.storeBA rfl rfl rfl rfl rfl ?_ | refine G.nil ?_)
      rw [eP_put]
      try refine G.nil ?_
      refine GA.back (by first | exact .inl (by decide) | exact .inr ⟨_, (by repeat (first | exact Takes.nil | apply Takes.dup rfl | apply Takes.cons | exact Take1.here | apply Take1.there))⟩) ?_
      first | (apply GA.take [] (hD := .inl rfl) (hsub := ⟨_, Takes.nil⟩) (i := 4) (hi := rfl) (hs := by kernel_rfl) (hfr := by kernel_rfl) (hr := by kernel_rfl) (hQ := (by repeat (first | exact NoPanic.fpost | apply NoPanic.then_ | apply NoPanic.block))) (hd := rfl); case hx => (first | exact Ex.assign rfl))
      first | (apply GA.take [] (hD := .inl rfl) (hsub := ⟨_, Takes.nil⟩) (i := 5) (hi := rfl) (hs := by kernel_rfl) (hfr := by kernel_rfl) (hr := by kernel_rfl) (hQ := (by repeat (first | exact NoPanic.fpost | apply NoPanic.then_ | apply NoPanic.block))) (hd := rfl); case hx => (first | exact Ex.assign rfl))
      refine GA.done (by kernel_rfl) ?_
      repeat (first | refine GC.ret ?_ | refine GE.then_normal ?_)
      refine GE.ret (by first | exact .inl rfl | exact .inr rfl) (by first | exact res0 Try.results18 | exact res1 Try.results18 rfl | exact res2 Try.results18 rfl rfl | exact resR1 Try.results18 (by first | exact RV.tmp rfl | exact RV.cell rfl (eP_len _) | exact RV.cell rfl rfl | exact RV.cell1 rfl) | exact resR2 Try.results18 (by first | exact RV.tmp rfl | exact RV.cell rfl (eP_len _) | exact RV.cell rfl rfl | exact RV.cell1 rfl) (by first | exact RV.tmp rfl | exact RV.cell rfl (eP_len _) | exact RV.cell rfl rfl | exact RV.cell1 rfl) | exact resR3 Try.results18 (by first | exact RV.tmp rfl | exact RV.cell rfl (eP_len _) | exact RV.cell rfl rfl | exact RV.cell1 rfl) (by first | exact RV.tmp rfl | exact RV.cell rfl (eP_len _) | exact RV.cell rfl rfl | exact RV.cell1 rfl) (by first | exact RV.tmp rfl | exact RV.cell rfl (eP_len _) | exact RV.cell rfl rfl | exact RV.cell1 rfl)) ⟨rfl, rfl⟩ (by repeat (first | exact Takes.nil | apply Takes.dup rfl | apply Takes.cons | exact Take1.here | apply Take1.there)) (by repeat (first | exact Subs.refl | refine Subs.skip ?_))
  · have hpl : plainB (c :: t) = true := hok
    rw [hpl]
    have hl : 0 < (c :: t).length := by simp
    have hl1 : 1 ≤ (c :: t).length := by simp
    repeat ((fail_if_success (refine GC.seq ?_; refine GC.region (id := 11) ?_)); first | (apply G.ex (hd := rfl); case h => (first | exact Ex.move rfl | exact Ex.indexO rfl rfl (by omega) | exact Ex.subLo rfl rfl (by omega) | exact Ex.assign rfl)) | refine G.nil ?_ | refine GC.seq ?_ | refine GC.region ?_ | refine GC.block ?_ | refine GC.skip ?_ | refine GE.then_normal ?_ | refine GC.cond_yes rfl (by first | assumption | omega) ?_)
    rw [show List.drop 1 (c :: t) = t from rfl]
    refine GC.meet (ι := Unit) (fun _ => True) (fun _ => [(0, .string (sOf t')), (2, .pointer (some (badr rb 0))), (5, .pointer (some (badr pb 0))), (6, .bool nb), (7, .bool e), (8, .int .u8 (c.toNat : Int)), (9, .int .u8 (d.toNat : Int))]) (fun _ => [.blk pb 45 (eP p), .blk rb 45 (eP noP)]) rs_ ?_ ?_
    · have hcons : ∃ x r, t = x :: r := by
        cases t with
        | cons x r => exact ⟨x, r, rfl⟩
        | nil =>
          rcases hsh with ⟨rfl, rfl, _⟩ | ⟨h, _⟩
          · cases hgo'
          · cases h
      obtain ⟨x, r, rfl⟩ := hcons
      have hne2 : ¬ x :: r = [] := by simp
      have hl2 : 0 < (x :: r).length := by simp
      have hl3 : 1 ≤ (x :: r).length := by simp
      by_cases hx : x = 45
      · subst hx
        have hx' : (((45 : UInt8).toNat : Nat) : Int) = 45 := rfl
        repeat (first | (apply G.ex (hd := rfl); case h => (first | exact Ex.move rfl | exact Ex.indexO rfl rfl (by omega) | exact Ex.neO rfl rfl | exact Ex.subLo rfl rfl (by omega) | exact Ex.eqI rfl rfl | exact Ex.pickT rfl (by first | assumption | omega) rfl)) | refine G.g_tt rfl rfl (by first | assumption | omega) ?_ | refine GC.seq ?_ | refine GC.region ?_)
        first | refine G.call (caps := []) (plain_sp r) rfl rfl rfl rfl (by repeat (first | exact Takes.nil | apply Takes.dup rfl | apply Takes.cons | exact Take1.here | apply Take1.there)) ?_ | refine G.callU (caps := []) (plain_sp r) rfl rfl rfl (by repeat (first | exact Takes.nil | apply Takes.dup rfl | apply Takes.cons | exact Take1.here | apply Take1.there)) ?_
        rintro v_ give_ ⟨rfl, rfl⟩ rs_ hrs_
        simp only [List.cons_append, List.nil_append] at hrs_
        subst hrs_
        rcases hsh with ⟨rfl, rfl, h⟩ | ⟨h, hd⟩
        · have hpl2 : plainB r = false := by simpa [isRng] using h
          rw [hpl2]
          repeat (first | (apply G.ex (hd := rfl); case h => (first | exact Ex.pickT rfl (by first | assumption | omega) rfl)) | refine G.nil ?_ | refine GC.skip ?_ | refine GE.then_normal ?_ | refine GC.cond_no rfl (by first | assumption | omega) ?_)
          refine GE.meet () trivial (by simp only [fits]; repeat (first | exact trivial | refine And.intro rfl ?_)) (by repeat (first | exact Takes.nil | apply Takes.dup rfl | apply Takes.cons | exact Take1.here | apply Take1.there)) (by repeat (first | exact Subs.refl | refine Subs.skip ?_))
        · obtain ⟨_, rfl⟩ := List.cons.inj h
          have hpl2 : plainB (d :: t') = true := hd
          rw [hpl2]
          have hl4 : 1 < (45 :: d :: t').length := by simp
          have hl5 : 2 ≤ (45 :: d :: t').length := by simp
          repeat (first | (apply G.ex (hd := rfl); case h => (first | exact Ex.pickT rfl (by first | assumption | omega) rfl)) | refine G.nil ?_ | (apply Gq.ex (hd := rfl); case h => (first | exact Ex.move rfl | exact Ex.indexO rfl rfl (by omega) | exact Ex.subLo rfl rfl (by omega) | exact Ex.assign rfl)) | refine Gq.nil ?_ | refine GC.draw (by kernel_rfl) (by kernel_rfl) ?_ | refine GE.then_normal ?_ | refine GC.cond_yes rfl (by first | assumption | omega) ?_)
          refine GE.meet () trivial (by simp only [fits]; repeat (first | exact trivial | refine And.intro rfl ?_)) (by repeat (first | exact Takes.nil | apply Takes.dup rfl | apply Takes.cons | exact Take1.here | apply Take1.there)) (by repeat (first | exact Subs.refl | refine Subs.skip ?_))
      · have hx' : ¬ ((x.toNat : Nat) : Int) = 45 := u8_ne hx
        rcases hsh with ⟨rfl, rfl, h⟩ | ⟨h, hd⟩
        · repeat (first | (apply G.ex (hd := rfl); case h => (first | exact Ex.move rfl | exact Ex.indexO rfl rfl (by omega) | exact Ex.neO rfl rfl | exact Ex.eqI rfl rfl | exact Ex.pickT rfl (by first | assumption | omega) rfl | exact Ex.pickF rfl (by first | assumption | omega) rfl)) | refine G.g_tt rfl rfl (by first | assumption | omega) ?_ | refine G.g_tf rfl rfl (by first | assumption | omega) rfl ?_ | refine G.nil ?_ | refine GC.seq ?_ | refine GC.region ?_ | refine GC.skip ?_ | refine GE.then_normal ?_ | refine GC.cond_f rfl ?_)
          refine GE.meet () trivial (by simp only [fits]; repeat (first | exact trivial | refine And.intro rfl ?_)) (by repeat (first | exact Takes.nil | apply Takes.dup rfl | apply Takes.cons | exact Take1.here | apply Take1.there)) (by repeat (first | exact Subs.refl | refine Subs.skip ?_))
        · exact absurd (List.cons.inj h).1 hx
    rintro ⟨⟩ - fr_ rs_ hfr_ hrs_
    simp only [List.cons_append, List.nil_append] at hfr_ hrs_
    subst hfr_ hrs_
    have hnlt : ¬ ((d.toNat : Nat) : Int) < ((c.toNat : Nat) : Int) := by omega
    have hd := UInt8.toNat_lt d
    repeat (first | (apply G.ex (hd := rfl); case h => (first | exact Ex.move rfl | exact Ex.lss rfl rfl | exact Ex.assign rfl | exact Ex.conv64b rfl)) | refine G.nil ?_ | refine GC.seq ?_ | refine GC.region ?_ | refine GC.block ?_ | refine GC.skip ?_ | refine GE.then_normal ?_ | refine GC.cond_no rfl (by first | assumption | omega) ?_)
    rw [← addN_zero p c.toNat]
    refine GC.loop (ι := Nat) (fun k => c.toNat ≤ k ∧ k ≤ d.toNat + 1) (fun k => 256 - k) (fun k => [(0, .string (sOf t')), (2, .pointer (some (badr rb 0))), (5, .pointer (some (badr pb 0))), (6, .bool nb), (9, .int .u8 (d.toNat : Int)), (10, .int .i64 (k : Int))]) (fun k => [.blk pb 45 (eP (addN p c.toNat k)), .blk rb 45 (eP noP)]) c.toNat ⟨Nat.le_refl _, by omega⟩ (by simp only [fits]; repeat (first | exact trivial | refine And.intro rfl ?_)) (by repeat (first | exact Takes.nil | apply Takes.dup rfl | apply Takes.cons | exact Take1.here | apply Take1.there)) ?_
    rintro k ⟨hk, hk2⟩ fr_ rs_ hfr_ hrs_
    simp only [List.cons_append, List.nil_append] at hfr_ hrs_
    subst hfr_ hrs_
    repeat (first | (apply G.ex (hd := rfl); case h => (first | exact Ex.move rfl | exact Ex.leq rfl rfl | exact Ex.conv64b rfl)) | refine G.nil ?_ | refine GC.seq ?_ | refine GC.region ?_ | refine GE.then_normal ?_)
    refine GC.cond_dec rfl (fun hle => ?_) (fun hle => ?_)
    · have hle : k ≤ d.toNat := by omega
      repeat (first | (apply G.ex (hd := rfl); case h => (first | exact Ex.move rfl | exact Ex.indexPB rfl rfl (by first | omega | (simp; done) | (simp; omega)) | exact Ex.fieldB rfl)) | refine GC.seq ?_ | refine GC.region ?_ | refine GC.block ?_ | refine GC.skip ?_ | refine GE.then_normal ?_)
      refine G.storeP rfl rfl (by omega) (by repeat (first | exact Upd.here | apply Upd.there)) ?_
      rw [addN_step p c.toNat k hk]
      repeat (first | (apply G.ex (hd := rfl); case h => (first | exact Ex.move rfl | exact Ex.add rfl rfl (by omega) | exact Ex.assign rfl)) | refine G.nil ?_ | refine GC.region ?_ | refine GE.then_normal ?_ | refine GE.block_normal ?_)
      refine GE.loop (k + 1) ⟨by omega, by omega⟩ (by omega) (by simp only [fits]; repeat (first | exact trivial | refine And.intro rfl ?_)) (by repeat (first | exact Takes.nil | apply Takes.dup rfl | apply Takes.cons | exact Take1.here | apply Take1.there)) (by repeat (first | exact Subs.refl | refine Subs.skip ?_))
    · have hk : k = d.toNat + 1 := by omega
      subst hk
      repeat (first | (apply G.ex (hd := rfl); case h => (first | exact Ex.assign rfl)) | refine G.nil ?_ | refine GC.region ?_ | refine GC.exit ?_ | refine GE.then_normal ?_ | refine GE.then_exit ?_ | refine GE.block_normal ?_ | refine GE.block_hit ?_)
      refine GE.loop (addN p c.toNat (d.toNat + 1), t', false) ⟨hgo', fun h => nomatch h⟩ (by simp only; rcases hsh with ⟨rfl, _⟩ | ⟨rfl, _⟩ <;> simp only [List.length_cons] <;> omega) (by simp only [fits]; repeat (first | exact trivial | refine And.intro rfl ?_)) (by repeat (first | exact Takes.nil | apply Takes.dup rfl | apply Takes.cons | exact Take1.here | apply Take1.there)) (by repeat (first | exact Subs.refl | refine Subs.skip ?_))
end glob
end Go.Proofs.Ytmkojbeongiimaa
