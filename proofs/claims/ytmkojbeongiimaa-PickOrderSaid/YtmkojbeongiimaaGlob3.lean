/-
  CONTRACT of glob.parts (where bytes are a pattern), by the kit.
-/
import Derived.Test.YtmkojbeongiimaaGlob2
namespace Go.Proofs.Ytmkojbeongiimaa
open Go.RowKit
attribute [local irreducible] Ex G GC GE Gq FPost LPost
set_option linter.unusedVariables false
set_option linter.unusedSimpArgs false
namespace glob
set_option maxHeartbeats 4000000 in
set_option maxRecDepth 100000 in
theorem parts_sp (s : List UInt8) (l : List Pt) (hs : Toks s l) (h40 : s.length ≤ 40) : Spec Try.prog 15 [.string (sOf s)] [] fun v give => ∃ ao c, v = .tuple #[.slice ao l.length c, .bool true] ∧ give = [.vec 45 257 ao l.length c (flat eP l)] := by
  have hle : ¬ (40 : Int) < ((s.length : Nat) : Int) := by omega
  refine Spec.intro Try.func15 rfl Try.ntmps15 rfl fun w0 rest rs_ hrs_ => ?_
  simp only [List.cons_append, List.nil_append] at hrs_
  subst hrs_
  repeat (first | (apply G.ex (hd := rfl); case h => (first | exact Ex.move rfl | exact Ex.lenO rfl | exact Ex.gtr rfl rfl | exact Ex.assign rfl)) | refine G.nil ?_ | refine GC.seq ?_ | refine GC.region ?_ | refine GC.block ?_ | refine GC.skip ?_ | refine GE.then_normal ?_ | refine GC.cond_no rfl (by first | assumption | omega) ?_)
  first | refine G.nilvec 45 257 ?_ | refine GC.nilvec 45 257 ?_
  refine GC.loop (ι := List Pt × List UInt8 × List Pt × Nat × Option Addr × Nat) (fun x => Toks x.2.1 x.2.2.1 ∧ x.1 ++ x.2.2.1 = l ∧ x.1.length = x.2.2.2.1 ∧ x.1.length + x.2.1.length ≤ 40) (fun x => x.2.1.length) (fun x => [(0, .string (sOf x.2.1)), (4, .slice x.2.2.2.2.1 x.2.2.2.1 x.2.2.2.2.2)]) (fun x => [.vec 45 257 x.2.2.2.2.1 x.2.2.2.1 x.2.2.2.2.2 (flat eP x.1)]) ([], s, l, 0, none, 0) ⟨hs, rfl, rfl, by simpa using h40⟩ (by simp only [fits]; repeat (first | exact trivial | refine And.intro rfl ?_)) (by repeat (first | exact Takes.nil | apply Takes.dup rfl | apply Takes.cons | exact Take1.here | apply Take1.there)) ?_
  clear hs hle h40
  clear s
  rintro ⟨out, s, l2, n, ao, c⟩ ⟨hs, hl, hn, h40⟩ fr_ rs_ hfr_ hrs_
  simp only [List.cons_append, List.nil_append] at hfr_ hrs_
  subst hfr_ hrs_
  simp only at hs hl hn h40
  have hcat : ∀ p : Pt, flat eP out ++ flat eP [p] = flat eP (out ++ [p]) := fun p => (flat_append ..).symm
  have hlen : ∀ p : Pt, (out ++ [p]).length = n + 1 := fun p => by simp [hn]
  have hass : ∀ (p : Pt) (l3 : List Pt), out ++ p :: l3 = l → (out ++ [p]) ++ l3 = l := fun p l3 h => by simp [← h]
  cases hs with
  | nil =>
    simp only [List.append_nil] at hl
    subst hl hn
    have hne : ¬ ¬ ([] : List UInt8) = [] := fun h => h rfl
    repeat (first | (apply G.ex (hd := rfl); case h => (first | exact Ex.move rfl | exact Ex.neO rfl rfl | exact Ex.assign rfl)) | refine G.nil ?_ | refine GC.seq ?_ | refine GC.region ?_ | refine GC.ret ?_ | refine GC.exit ?_ | refine GE.then_normal ?_ | refine GE.then_exit ?_ | refine GE.block_hit ?_ | refine GC.cond_no rfl (by first | assumption | omega) ?_)
    refine GE.ret (by first | exact .inl rfl | exact .inr rfl) (by first | exact res0 Try.results15 | exact res1 Try.results15 rfl | exact res2 Try.results15 rfl rfl | exact resR1 Try.results15 (by first | exact RV.tmp rfl | exact RV.cell rfl (eP_len _) | exact RV.cell rfl rfl | exact RV.cell1 rfl) | exact resR2 Try.results15 (by first | exact RV.tmp rfl | exact RV.cell rfl (eP_len _) | exact RV.cell rfl rfl | exact RV.cell1 rfl) (by first | exact RV.tmp rfl | exact RV.cell rfl (eP_len _) | exact RV.cell rfl rfl | exact RV.cell1 rfl) | exact resR3 Try.results15 (by first | exact RV.tmp rfl | exact RV.cell rfl (eP_len _) | exact RV.cell rfl rfl | exact RV.cell1 rfl) (by first | exact RV.tmp rfl | exact RV.cell rfl (eP_len _) | exact RV.cell rfl rfl | exact RV.cell1 rfl) (by first | exact RV.tmp rfl | exact RV.cell rfl (eP_len _) | exact RV.cell rfl rfl | exact RV.cell1 rfl)) ⟨_, _, rfl, rfl⟩ (by repeat (first | exact Takes.nil | apply Takes.dup rfl | apply Takes.cons | exact Take1.here | apply Take1.there)) (by repeat (first | exact Subs.refl | refine Subs.skip ?_))
  | @any t l3 h =>
    have hne : ¬ 63 :: t = [] := by simp
    have hl0 : 0 < (63 :: t).length := by simp
    have hl1 : 1 ≤ (63 :: t).length := by simp
    have hx : (((63 : UInt8).toNat : Nat) : Int) = 63 := rfl
    simp only [List.length_cons] at h40
    repeat (first | (apply G.ex (hd := rfl); case h => (first | exact Ex.move rfl | exact Ex.indexO rfl rfl (by omega) | exact Ex.neO rfl rfl | exact Ex.subLo rfl rfl (by omega) | exact Ex.eqI rfl rfl | exact Ex.assign rfl)) | refine G.nil ?_ | refine GC.seq ?_ | refine GC.region ?_ | refine GC.block ?_ | refine GC.skip ?_ | refine GE.then_normal ?_ | refine GC.cond_yes rfl (by first | assumption | omega) ?_)
    first | refine G.call (caps := []) (any_sp) rfl rfl rfl rfl (by repeat (first | exact Takes.nil | apply Takes.dup rfl | apply Takes.cons | exact Take1.here | apply Take1.there)) ?_ | refine G.callU (caps := []) (any_sp) rfl rfl rfl (by repeat (first | exact Takes.nil | apply Takes.dup rfl | apply Takes.cons | exact Take1.here | apply Take1.there)) ?_
    rintro v_ give_ ⟨rfl, rfl⟩ rs_ hrs_
    simp only [List.cons_append, List.nil_append] at hrs_
    subst hrs_
    refine G.litP rfl rfl (by rfl) (fun q => ?_)
    refine G.app rfl rfl (by rfl) (by omega) rfl (hcat _) (fun a2 c2 rs_ hrs_ => ?_)
    try simp only at hrs_
    subst hrs_
    repeat (first | (apply G.ex (hd := rfl); case h => (first | exact Ex.assign rfl)) | refine G.nil ?_ | refine GE.block_normal ?_)
    refine GE.loop (out ++ [anyF 256], t, l3, n + 1, a2, c2) ⟨h, hass _ _ hl, hlen _, by simp only [hlen]; omega⟩ (by simp) (by simp only [fits]; repeat (first | exact trivial | refine And.intro rfl ?_)) (by repeat (first | exact Takes.nil | apply Takes.dup rfl | apply Takes.cons | exact Take1.here | apply Take1.there)) (by repeat (first | exact Subs.refl | refine Subs.skip ?_))
  | @run t l3 h =>
    have hne : ¬ 42 :: t = [] := by simp
    have hl0 : 0 < (42 :: t).length := by simp
    have hl1 : 1 ≤ (42 :: t).length := by simp
    have hx : (((42 : UInt8).toNat : Nat) : Int) = 42 := rfl
    have hx2 : ¬ (((42 : UInt8).toNat : Nat) : Int) = 63 := by decide
    simp only [List.length_cons] at h40
    repeat (first | (apply G.ex (hd := rfl); case h => (first | exact Ex.move rfl | exact Ex.indexO rfl rfl (by omega) | exact Ex.neO rfl rfl | exact Ex.subLo rfl rfl (by omega) | exact Ex.bldR | exact Ex.eqI rfl rfl | exact Ex.assign rfl)) | refine G.nil ?_ | refine GC.seq ?_ | refine GC.region ?_ | refine GC.block ?_ | refine GC.skip ?_ | refine GE.then_normal ?_ | refine GC.cond_yes rfl (by first | assumption | omega) ?_ | refine GC.cond_no rfl (by first | assumption | omega) ?_)
    refine G.litP rfl rfl (by rfl) (fun q => ?_)
    refine G.app rfl rfl (by rfl) (by omega) rfl (hcat _) (fun a2 c2 rs_ hrs_ => ?_)
    try simp only at hrs_
    subst hrs_
    repeat (first | (apply G.ex (hd := rfl); case h => (first | exact Ex.assign rfl)) | refine G.nil ?_ | refine GE.block_normal ?_)
    refine GE.loop (out ++ [runP], t, l3, n + 1, a2, c2) ⟨h, hass _ _ hl, hlen _, by simp only [hlen]; omega⟩ (by simp) (by simp only [fits]; repeat (first | exact trivial | refine And.intro rfl ?_)) (by repeat (first | exact Takes.nil | apply Takes.dup rfl | apply Takes.cons | exact Take1.here | apply Take1.there)) (by repeat (first | exact Subs.refl | refine Subs.skip ?_))
  | @set s t p l3 h1 h2 =>
    have hne : ¬ 91 :: s = [] := by simp
    have hl0 : 0 < (91 :: s).length := by simp
    have hl1 : 1 ≤ (91 :: s).length := by simp
    have hx : (((91 : UInt8).toNat : Nat) : Int) = 91 := rfl
    have hx2 : ¬ (((91 : UInt8).toNat : Nat) : Int) = 63 := by decide
    have hx3 : ¬ (((91 : UInt8).toNat : Nat) : Int) = 42 := by decide
    simp only [List.length_cons] at h40
    have hsh := h1.short
    repeat (first | (apply G.ex (hd := rfl); case h => (first | exact Ex.move rfl | exact Ex.indexO rfl rfl (by omega) | exact Ex.neO rfl rfl | exact Ex.subLo rfl rfl (by omega) | exact Ex.eqI rfl rfl | exact Ex.assign rfl)) | refine G.nil ?_ | refine GC.seq ?_ | refine GC.region ?_ | refine GC.block ?_ | refine GC.skip ?_ | refine GE.then_normal ?_ | refine GC.cond_yes rfl (by first | assumption | omega) ?_ | refine GC.cond_no rfl (by first | assumption | omega) ?_)
    first | refine G.call (caps := []) (set_sp s p t h1) rfl rfl rfl rfl (by repeat (first | exact Takes.nil | apply Takes.dup rfl | apply Takes.cons | exact Take1.here | apply Take1.there)) ?_ | refine G.callU (caps := []) (set_sp s p t h1) rfl rfl rfl (by repeat (first | exact Takes.nil | apply Takes.dup rfl | apply Takes.cons | exact Take1.here | apply Take1.there)) ?_
    rintro v_ give_ ⟨rfl, rfl⟩ rs_ hrs_
    simp only [List.cons_append, List.nil_append] at hrs_
    subst hrs_
    repeat (first | (apply G.ex (hd := rfl); case h => (first | exact Ex.move rfl | exact Ex.extract rfl rfl)))
    refine G.alloc rfl (fun pb => ?_)
    repeat (first | refine G.storeBA rfl rfl rfl rfl rfl ?_ | (apply G.ex (hd := rfl); case h => (first | exact Ex.move rfl | exact Ex.loadPW rfl | exact Ex.assign rfl | exact Ex.notB rfl)) | refine G.nil ?_ | refine GC.seq ?_ | refine GC.region ?_ | refine GC.skip ?_ | refine GE.then_normal ?_ | refine GC.cond_f rfl ?_)
    rw [eP_put]
    have htt : ¬ ¬ true = true := fun h => h rfl
    repeat (first | fail)
    refine G.litP rfl rfl (by rfl) (fun q => ?_)
    refine G.app rfl rfl (by rfl) (by omega) rfl (hcat _) (fun a2 c2 rs_ hrs_ => ?_)
    try simp only at hrs_
    subst hrs_
    repeat (first | (apply G.ex (hd := rfl); case h => (first | exact Ex.move rfl | exact Ex.assign rfl)) | refine G.nil ?_ | refine GE.block_normal ?_)
    refine GE.loop (out ++ [p], t, l3, n + 1, a2, c2) ⟨h2, hass _ _ hl, hlen _, by simp only [hlen]; omega⟩ (by simp only [List.length_cons]; omega) (by simp only [fits]; repeat (first | exact trivial | refine And.intro rfl ?_)) (by repeat (first | exact Takes.nil | apply Takes.dup rfl | apply Takes.cons | exact Take1.here | apply Take1.there)) (by repeat (first | exact Subs.refl | refine Subs.skip ?_))
  | @lit b t l3 h1 h2 h3 h4 h =>
    have hne : ¬ b :: t = [] := by simp
    have hl0 : 0 < (b :: t).length := by simp
    have hl1 : 1 ≤ (b :: t).length := by simp
    have hx1 : ¬ ((b.toNat : Nat) : Int) = 63 := u8_ne h1
    have hx2 : ¬ ((b.toNat : Nat) : Int) = 42 := u8_ne h2
    have hx3 : ¬ ((b.toNat : Nat) : Int) = 91 := u8_ne h3
    have hx4 : ¬ ((b.toNat : Nat) : Int) = 92 := u8_ne h4
    simp only [List.length_cons] at h40
    repeat (first | (apply G.ex (hd := rfl); case h => (first | exact Ex.move rfl | exact Ex.indexO rfl rfl (by omega) | exact Ex.neO rfl rfl | exact Ex.subLo rfl rfl (by omega) | exact Ex.eqI rfl rfl | exact Ex.assign rfl)) | refine G.nil ?_ | refine GC.seq ?_ | refine GC.region ?_ | refine GC.block ?_ | refine GC.skip ?_ | refine GE.then_normal ?_ | refine GC.cond_yes rfl (by first | assumption | omega) ?_ | refine GC.cond_no rfl (by first | assumption | omega) ?_)
    first | refine G.call (caps := []) (one_sp b) rfl rfl rfl rfl (by repeat (first | exact Takes.nil | apply Takes.dup rfl | apply Takes.cons | exact Take1.here | apply Take1.there)) ?_ | refine G.callU (caps := []) (one_sp b) rfl rfl rfl (by repeat (first | exact Takes.nil | apply Takes.dup rfl | apply Takes.cons | exact Take1.here | apply Take1.there)) ?_
    rintro v_ give_ ⟨rfl, rfl⟩ rs_ hrs_
    simp only [List.cons_append, List.nil_append] at hrs_
    subst hrs_
    refine G.litP rfl rfl (by rfl) (fun q => ?_)
    refine G.app rfl rfl (by rfl) (by omega) rfl (hcat _) (fun a2 c2 rs_ hrs_ => ?_)
    try simp only at hrs_
    subst hrs_
    repeat (first | (apply G.ex (hd := rfl); case h => (first | exact Ex.assign rfl)) | refine G.nil ?_ | refine GE.block_normal ?_)
    refine GE.loop (out ++ [oneP b], t, l3, n + 1, a2, c2) ⟨h, hass _ _ hl, hlen _, by simp only [hlen]; omega⟩ (by simp) (by simp only [fits]; repeat (first | exact trivial | refine And.intro rfl ?_)) (by repeat (first | exact Takes.nil | apply Takes.dup rfl | apply Takes.cons | exact Take1.here | apply Take1.there)) (by repeat (first | exact Subs.refl | refine Subs.skip ?_))
end glob
end Go.Proofs.Ytmkojbeongiimaa
