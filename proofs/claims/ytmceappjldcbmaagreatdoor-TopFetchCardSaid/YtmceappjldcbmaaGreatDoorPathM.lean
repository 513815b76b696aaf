/-
  CONTRACTS of strings.ContainsAny with "/\\x00" and of path.Name, whatever bytes a name has, by the kit.
-/
import Derived.Test.YtmceappjldcbmaaGreatDoorKitN2
import Derived.Test.YtmceappjldcbmaaGreatDoorCom
import Derived.Test.YtmceappjldcbmaaGreatDoorKitN1
namespace Go.Proofs.YtmceappjldcbmaaGreatDoor
open Go.RowKit
attribute [local irreducible] Ex G GC GE Gq FPost LPost
set_option linter.unusedVariables false
set_option linter.unusedSimpArgs false

namespace path
def cs2 : List UInt8 := [47, 0]
theorem ib_run (l : List UInt8) (c : Int) : ∀ w, (callFunc 100 [Value.string (sOf l), Value.int .u8 c].toArray).run Tryz.prog w = .ok (.value (.int .i64 (Lib.indexByte l c.toNat.toUInt8))) w := fun w => by
  rw [run_callFunc_extern Tryz.func100 (by kernel_rfl) (by kernel_rfl) (by kernel_rfl) (e := Extern.BytealgIndexByte.indexByte) (by kernel_rfl)]
  have := Lib.run_indexByteString (P := Tryz.prog) (sOf l) c w
  simp only [show ([Value.string (sOf l), Value.int .u8 c].toArray) = #[Value.string (sOf l), Value.int .u8 c] from rfl, this]
  rfl
theorem ibs_sp (l : List UInt8) (c : Int) : Spec Tryz.prog 93 [.string (sOf l), .int .u8 c] [] fun v give => v = .int .i64 (Lib.indexByte l c.toNat.toUInt8) ∧ give = [] := by
  refine Spec.intro Tryz.func93 rfl Tryz.ntmps93 rfl fun w0 rest rs_ hrs_ => ?_
  simp only [List.cons_append, List.nil_append] at hrs_
  subst hrs_
  repeat (first | (apply G.ex (hd := rfl); case h => (first | exact Ex.move rfl | exact Ex.assign rfl)) | refine G.nil ?_ | refine GC.seq ?_ | refine GC.region ?_ | refine GE.then_normal ?_)
  refine G.ex (Ex.ext (ib_run l c) rfl rfl) rfl ?_
  repeat (first | (apply G.ex (hd := rfl); case h => (first | exact Ex.assign rfl)) | refine G.nil ?_ | refine GC.ret ?_ | refine GE.then_normal ?_)
  refine GE.ret (by first | exact .inl rfl | exact .inr rfl) (res1 Tryz.results93 rfl) ⟨rfl, rfl⟩ (by repeat first | exact tn_ | apply td_ rfl | apply tc_ | exact .here | apply Take1.there) (by repeat (first | exact Subs.refl | refine Subs.skip ?_))
theorem ibb_sp (l : List UInt8) (c : Int) : Spec Tryz.prog 97 [.string (sOf l), .int .u8 c] [] fun v give => v = .int .i64 (Lib.indexByte l c.toNat.toUInt8) ∧ give = [] := by
  refine Spec.intro Tryz.func97 rfl Tryz.ntmps97 rfl fun w0 rest rs_ hrs_ => ?_
  simp only [List.cons_append, List.nil_append] at hrs_
  subst hrs_
  repeat (first | (apply G.ex (hd := rfl); case h => (first | exact Ex.move rfl | exact Ex.assign rfl)) | refine G.nil ?_ | refine GC.seq ?_ | refine GC.region ?_ | refine GE.then_normal ?_)
  first | refine G.call (caps := []) (ibs_sp l c) rfl rfl rfl rfl (by repeat first | exact tn_ | apply td_ rfl | apply tc_ | exact .here | apply Take1.there) ?_ | refine G.callU (caps := []) (ibs_sp l c) rfl rfl rfl (by repeat first | exact tn_ | apply td_ rfl | apply tc_ | exact .here | apply Take1.there) ?_
  rintro v_ give_ ⟨rfl, rfl⟩ rs_ hrs_
  simp only [List.cons_append, List.nil_append] at hrs_
  subst hrs_
  repeat (first | (apply G.ex (hd := rfl); case h => (first | exact Ex.assign rfl)) | refine G.nil ?_ | refine GC.ret ?_ | refine GE.then_normal ?_)
  refine GE.ret (by first | exact .inl rfl | exact .inr rfl) (res1 Tryz.results97 rfl) ⟨rfl, rfl⟩ (by repeat first | exact tn_ | apply td_ rfl | apply tc_ | exact .here | apply Take1.there) (by repeat (first | exact Subs.refl | refine Subs.skip ?_))
set_option maxRecDepth 100000 in
theorem vr_sp (c : Nat) (hv : Utf8.valid (c : Int) = true) : Spec Tryz.prog 98 [.int .i32 (c : Int)] [] fun v give => v = .bool true ∧ give = [] := by
  have h : c < 55296 ∨ (57344 ≤ c ∧ c ≤ 1114111) := by
    unfold Utf8.valid at hv
    simp only [Bool.or_eq_true, Bool.and_eq_true, decide_eq_true_eq] at hv
    omega
  refine Spec.intro Tryz.func98 rfl Tryz.ntmps98 rfl fun w0 rest rs_ hrs_ => ?_
  simp only [List.cons_append, List.nil_append] at hrs_
  subst hrs_
  by_cases h1 : c < 55296
  · repeat (first | (apply G.ex (hd := rfl); case h => (first | exact Ex.move rfl | exact Ex.lss rfl rfl | exact Ex.leq rfl rfl | exact Ex.assign rfl | exact Ex.pickT rfl (by first | assumption | omega) rfl)) | refine G.g_tt rfl rfl (by first | assumption | omega) ?_ | refine G.nil ?_ | refine GC.seq ?_ | refine GC.region ?_ | refine GC.block ?_ | refine GC.ret ?_ | refine GE.then_normal ?_ | refine GE.then_ret ?_ | refine GE.block_ret ?_ | refine GC.cond_yes rfl (by first | assumption | omega) ?_)
    refine GE.ret (by first | exact .inl rfl | exact .inr rfl) (res1 Tryz.results98 rfl) ⟨rfl, rfl⟩ (by repeat first | exact tn_ | apply td_ rfl | apply tc_ | exact .here | apply Take1.there) (by repeat (first | exact Subs.refl | refine Subs.skip ?_))
  · repeat (first | (apply G.ex (hd := rfl); case h => (first | exact Ex.move rfl | exact Ex.lss rfl rfl | exact Ex.leq rfl rfl | exact Ex.assign rfl | exact Ex.pickT rfl (by first | assumption | omega) rfl)) | refine G.g_tt rfl rfl (by first | assumption | omega) ?_ | refine G.nil ?_ | refine GC.seq ?_ | refine GC.region ?_ | refine GC.block ?_ | refine GC.ret ?_ | refine GE.then_normal ?_ | refine GE.then_ret ?_ | refine GE.block_ret ?_ | refine GC.cond_yes rfl (by first | assumption | omega) ?_ | refine GC.cond_no rfl (by first | assumption | omega) ?_)
    refine GE.ret (by first | exact .inl rfl | exact .inr rfl) (res1 Tryz.results98 rfl) ⟨rfl, rfl⟩ (by repeat first | exact tn_ | apply td_ rfl | apply tc_ | exact .here | apply Take1.there) (by repeat (first | exact Subs.refl | refine Subs.skip ?_))
/-- where a number stands in "/\\x00" -/
def at2 (c : Nat) : Int := if c = 47 then 0 else if c = 0 then 1 else -1
theorem at2_lo (c : Nat) (h : c < 128) : Lib.indexByte cs2 (c : Int).toNat.toUInt8 = at2 c := by
  have : ∀ k : Fin 128, Lib.indexByte cs2 ((k.1 : Nat) : Int).toNat.toUInt8 = at2 k.1 := by decide
  exact this ⟨c, h⟩
theorem ib_nil (c : UInt8) : Lib.indexByte [] c = -1 := rfl
set_option maxHeartbeats 4000000 in
set_option maxRecDepth 100000 in
theorem rune_sp (c : Nat) (hv : Utf8.valid (c : Int) = true) (hc : c < 1114112) : Spec Tryz.prog 82 [.string (sOf cs2), .int .i32 (c : Int)] [] fun v give => v = .int .i64 (at2 c) ∧ give = [] := by
  refine Spec.intro Tryz.func82 rfl Tryz.ntmps82 rfl fun w0 rest rs_ hrs_ => ?_
  simp only [List.cons_append, List.nil_append] at hrs_
  subst hrs_
  have c0 : (0 : Int) ≤ (c : Int) := Int.natCast_nonneg c
  by_cases h1 : c < 128
  · have c1 : (c : Int) < 128 := by omega
    repeat ((fail_if_success (refine GC.region (id := 35) ?_)); first | (apply G.ex (hd := rfl); case h => (first | exact Ex.move rfl | exact Ex.lss rfl rfl | exact Ex.leq rfl rfl | exact Ex.assign rfl | exact Ex.pickT rfl (by first | assumption | omega) rfl)) | refine G.g_tt rfl rfl (by first | assumption | omega) ?_ | refine G.nil ?_ | refine GC.seq ?_ | refine GC.region ?_ | refine GC.block ?_ | refine GE.then_normal ?_ | refine GC.cond_yes rfl (by first | assumption | omega) ?_)
    refine GC.region ?_
    iterate 2 (first | (apply G.ex (hd := rfl); case h => (first | exact Ex.move rfl)))
    refine G.ex (Ex.conv8 rfl) rfl ?_
    first | refine G.call (caps := []) (ibb_sp cs2 ((c : Int) % 256)) rfl rfl rfl rfl (by repeat first | exact tn_ | apply td_ rfl | apply tc_ | exact .here | apply Take1.there) ?_ | refine G.callU (caps := []) (ibb_sp cs2 ((c : Int) % 256)) rfl rfl rfl (by repeat first | exact tn_ | apply td_ rfl | apply tc_ | exact .here | apply Take1.there) ?_
    rintro v_ give_ ⟨rfl, rfl⟩ rs_ hrs_
    simp only [List.cons_append, List.nil_append] at hrs_
    subst hrs_
    rw [show (c : Int) % 256 = (c : Int) by omega, at2_lo c h1]
    repeat (first | (apply G.ex (hd := rfl); case h => (first | exact Ex.assign rfl)) | refine G.nil ?_ | refine GC.ret ?_ | refine GE.then_normal ?_ | refine GE.block_ret ?_)
    refine GE.ret (by first | exact .inl rfl | exact .inr rfl) (res1 Tryz.results82 rfl) ⟨rfl, rfl⟩ (by repeat first | exact tn_ | apply td_ rfl | apply tc_ | exact .here | apply Take1.there) (by repeat (first | exact Subs.refl | refine Subs.skip ?_))
  · have c1 : ¬ (c : Int) < 128 := by omega
    have ea : at2 c = -1 := by unfold at2; rw [if_neg (by omega), if_neg (by omega)]
    rw [ea]
    repeat ((fail_if_success (refine GC.region (id := 36) ?_)); first | (apply G.ex (hd := rfl); case h => (first | exact Ex.move rfl | exact Ex.lss rfl rfl | exact Ex.leq rfl rfl | exact Ex.assign rfl | exact Ex.pickT rfl (by first | assumption | omega) rfl)) | refine G.g_tt rfl rfl (by first | assumption | omega) ?_ | refine G.nil ?_ | refine GC.seq ?_ | refine GC.region ?_ | refine GC.block ?_ | refine GE.then_normal ?_ | refine GC.cond_no rfl (by first | assumption | omega) ?_)
    refine GC.region ?_
    iterate 4 (first | (apply G.ex (hd := rfl); case h => (first | exact Ex.move rfl | exact Ex.eqI rfl rfl | exact Ex.assign rfl)) | refine G.nil ?_)
    by_cases h2 : c = 65533
    · refine GE.then_normal ?_
      refine GC.cond_yes rfl (show (c : Int) = 65533 by omega) ?_
      repeat ((fail_if_success (refine GC.region (id := 37) ?_)); first | refine GC.seq ?_)
      refine GC.region ?_
      iterate 1 (first | (apply G.ex (hd := rfl); case h => (first | exact Ex.move rfl)))
      refine G.rangeS (l := cs2) rfl rfl (fun b => ?_)
      first | refine G.nil ?_
      repeat ((fail_if_success (refine GC.block (id := 9) ?_)); first | refine GE.then_normal ?_)
      refine GC.block ?_
      refine GC.loop (ι := Nat) (fun k => k ≤ 2) (fun k => 2 - k) (fun k => [(175, .pointer (some (badr b 0)))]) (fun k => [.own (IterR b (sOf cs2) k)]) 0 (by decide) (by simp only [fits]; repeat (first | exact trivial | refine And.intro rfl ?_)) (by repeat first | exact tn_ | apply td_ rfl | apply tc_ | exact .here | apply Take1.there) ?_
      rintro k hk fr_ rs_ hfr_ hrs_
      simp only [List.cons_append, List.nil_append] at hfr_ hrs_
      subst hfr_ hrs_
      have hk3 : k = 0 ∨ k = 1 ∨ k = 2 := by omega
      repeat ((fail_if_success (refine GC.region (id := 38) ?_)); first | refine GC.seq ?_)
      refine GC.region ?_
      rcases hk3 with rfl | rfl | rfl
      · refine G.nextS (l := cs2) (p := 0) (c := 47) (wd := 1) rfl (by decide) (by kernel_rfl) .here rfl ?_
        repeat ((fail_if_success (refine GC.region (id := 40) ?_)); first | (apply G.ex (hd := rfl); case h => (first | exact Ex.extract rfl rfl | exact Ex.assign rfl)) | refine G.nil ?_ | refine GC.seq ?_ | refine GC.region ?_ | refine GC.block ?_ | refine GC.skip ?_ | refine GE.then_normal ?_ | refine GC.cond_yes rfl (by first | assumption | omega) ?_)
        refine GC.region ?_
        iterate 4 (first | (apply G.ex (hd := rfl); case h => (first | exact Ex.move rfl | exact Ex.eqI rfl rfl)) | refine G.nil ?_ | refine GE.then_normal ?_)
        refine GC.cond_no rfl (by decide) ?_
        repeat (first | refine GC.skip ?_ | refine GE.block_normal ?_)
        refine GE.loop 1 (by decide) (by decide) (by simp only [fits]; repeat (first | exact trivial | refine And.intro rfl ?_)) (by repeat first | exact tn_ | apply td_ rfl | apply tc_ | exact .here | apply Take1.there) (by repeat (first | exact Subs.refl | refine Subs.skip ?_))
      · refine G.nextS (l := cs2) (p := 1) (c := 0) (wd := 1) rfl (by decide) (by kernel_rfl) .here rfl ?_
        repeat ((fail_if_success (refine GC.region (id := 40) ?_)); first | (apply G.ex (hd := rfl); case h => (first | exact Ex.extract rfl rfl | exact Ex.assign rfl)) | refine G.nil ?_ | refine GC.seq ?_ | refine GC.region ?_ | refine GC.block ?_ | refine GC.skip ?_ | refine GE.then_normal ?_ | refine GC.cond_yes rfl (by first | assumption | omega) ?_)
        refine GC.region ?_
        iterate 4 (first | (apply G.ex (hd := rfl); case h => (first | exact Ex.move rfl | exact Ex.eqI rfl rfl)) | refine G.nil ?_ | refine GE.then_normal ?_)
        refine GC.cond_no rfl (by decide) ?_
        repeat (first | refine GC.skip ?_ | refine GE.block_normal ?_)
        refine GE.loop 2 (by decide) (by decide) (by simp only [fits]; repeat (first | exact trivial | refine And.intro rfl ?_)) (by repeat first | exact tn_ | apply td_ rfl | apply tc_ | exact .here | apply Take1.there) (by repeat (first | exact Subs.refl | refine Subs.skip ?_))
      · refine G.nextE (l := cs2) (p := 2) rfl (by simp) (by decide) rfl ?_
        repeat (first | (apply G.ex (hd := rfl); case h => (first | exact Ex.extract rfl rfl | exact Ex.assign rfl)) | refine G.nil ?_ | refine GC.seq ?_ | refine GC.region ?_ | refine GC.ret ?_ | refine GC.exit ?_ | refine GE.then_normal ?_ | refine GE.then_exit ?_ | refine GE.block_ret ?_ | refine GE.block_hit ?_ | refine GC.cond_f rfl ?_)
        refine GE.ret (by first | exact .inl rfl | exact .inr rfl) (res1 Tryz.results82 rfl) ⟨rfl, rfl⟩ (by repeat first | exact tn_ | apply td_ rfl | apply tc_ | exact .here | apply Take1.there) (by repeat (first | exact Subs.refl | refine Subs.skip ?_))
    · refine GE.then_normal ?_
      refine GC.cond_no rfl (show ¬ (c : Int) = 65533 by omega) ?_
      obtain ⟨B, hB, hB2, hB4, hBl⟩ := encL_hi c (by omega) hv
      obtain ⟨L, hL⟩ : ∃ L, B.length = L + 1 := ⟨B.length - 1, by omega⟩
      rw [show B.length - 1 = L by omega] at hBl
      repeat ((fail_if_success (refine GC.region (id := 43) ?_)); first | refine GC.seq ?_)
      refine GC.region ?_
      first | (apply G.ex (hd := rfl); case h => (first | exact Ex.move rfl))
      first | refine G.call (caps := []) (vr_sp c hv) rfl rfl rfl rfl (by repeat first | exact tn_ | apply td_ rfl | apply tc_ | exact .here | apply Take1.there) ?_ | refine G.callU (caps := []) (vr_sp c hv) rfl rfl rfl (by repeat first | exact tn_ | apply td_ rfl | apply tc_ | exact .here | apply Take1.there) ?_
      rintro v_ give_ ⟨rfl, rfl⟩ rs_ hrs_
      simp only [List.cons_append, List.nil_append] at hrs_
      subst hrs_
      repeat ((fail_if_success (refine GC.region (id := 1) ?_)); first | (apply G.ex (hd := rfl); case h => (first | exact Ex.assign rfl | exact Ex.notB rfl)) | refine G.nil ?_ | refine GC.seq ?_ | refine GE.then_normal ?_ | refine GC.cond_f rfl ?_ | refine GC.scope ?_)
      refine GC.region ?_
      first | (apply G.ex (hd := rfl); case h => (first | exact Ex.move rfl))
      refine G.ex (Ex.convIS rfl) rfl ?_
      rw [hB]
      repeat ((fail_if_success (refine GC.region (id := 3) ?_)); first | (apply G.ex (hd := rfl); case h => (first | exact Ex.move rfl | exact Ex.lenO rfl | exact Ex.sub rfl rfl (by omega) | exact Ex.assign rfl)) | refine G.nil ?_ | refine GC.seq ?_ | refine GC.region ?_ | refine GE.then_normal ?_)
      rw [show (B.length : Int) - 1 = (L : Int) by omega]
      repeat ((fail_if_success (refine GC.block (id := 1) ?_)); first | (apply G.ex (hd := rfl); case h => (first | exact Ex.move rfl | exact Ex.assign rfl)) | refine G.nil ?_ | refine GC.seq ?_ | refine GC.region ?_ | refine GE.then_normal ?_)
      refine GC.block ?_
      refine GC.loop (ι := Unit) (fun _ => True) (fun _ => 0) (fun _ => [(0, .string (sOf cs2)), (7, .string (sOf B)), (8, .int .i64 (L : Int)), (9, .int .i64 (L : Int)), (10, .int .i64 0)]) (fun _ => []) () trivial (by simp only [fits]; repeat (first | exact trivial | refine And.intro rfl ?_)) (by repeat first | exact tn_ | apply td_ rfl | apply tc_ | exact .here | apply Take1.there) ?_
      rintro ⟨⟩ hT fr_ rs_ hfr_ hrs_
      simp only [List.cons_append, List.nil_append] at hfr_ hrs_
      subst hfr_ hrs_
      by_cases h5 : L = 1
      · subst h5
        have hne : ¬ cs2.getD 1 0 = B.getD 1 0 := fun e => by
          have e2 := congrArg UInt8.toNat e
          have e3 : (cs2.getD 1 0).toNat = 0 := rfl
          omega
        repeat (first | (apply G.ex (hd := rfl); case h => (first | exact Ex.move rfl | exact Ex.lenO rfl | exact Ex.lss rfl rfl)) | refine G.nil ?_ | refine GC.seq ?_ | refine GC.region ?_ | refine GC.block ?_ | refine GC.skip ?_ | refine GE.then_normal ?_ | refine GC.cond_t rfl ?_ | refine GC.scope ?_)
        refine GC.drawA [] [] (by repeat first | exact tn_ | apply td_ rfl | apply tc_ | exact .here | apply Take1.there) (by kernel_rfl) ?_
        first | (apply GA.take [] (hD := .inl rfl) (hsub := ⟨_, Takes.nil⟩) (i := 0) (hi := rfl) (hs := by kernel_rfl) (hfr := by kernel_rfl) (hr := by kernel_rfl) (hQ := np_) (hd := rfl); case hx => (first | exact Ex.move rfl))
        first | (apply GA.take [] (hD := .inl rfl) (hsub := ⟨_, Takes.nil⟩) (i := 1) (hi := rfl) (hs := by kernel_rfl) (hfr := by kernel_rfl) (hr := by kernel_rfl) (hQ := np_) (hd := rfl); case hx => (first | exact Ex.move rfl))
        apply GA.take [] (hD := .inl rfl) (hsub := ⟨_, Takes.nil⟩) (i := 2) (hi := rfl) (hs := by kernel_rfl) (hfr := by kernel_rfl) (hr := by kernel_rfl) (hQ := np_) (hd := rfl) (hx := (Ex.indexO (l := cs2) (k := 1) rfl rfl (by decide)))
        first | (apply GA.take [] (hD := .inl rfl) (hsub := ⟨_, Takes.nil⟩) (i := 3) (hi := rfl) (hs := by kernel_rfl) (hfr := by kernel_rfl) (hr := by kernel_rfl) (hQ := np_) (hd := rfl); case hx => (first | exact Ex.move rfl))
        first | (apply GA.take [] (hD := .inl rfl) (hsub := ⟨_, Takes.nil⟩) (i := 4) (hi := rfl) (hs := by kernel_rfl) (hfr := by kernel_rfl) (hr := by kernel_rfl) (hQ := np_) (hd := rfl); case hx => (first | exact Ex.move rfl))
        first | (apply GA.take [] (hD := .inl rfl) (hsub := ⟨_, Takes.nil⟩) (i := 5) (hi := rfl) (hs := by kernel_rfl) (hfr := by kernel_rfl) (hr := by kernel_rfl) (hQ := np_) (hd := rfl); case hx => (first | exact Ex.indexO rfl rfl (by omega)))
        first | (apply GA.take [] (hD := .inl rfl) (hsub := ⟨_, Takes.nil⟩) (i := 6) (hi := rfl) (hs := by kernel_rfl) (hfr := by kernel_rfl) (hr := by kernel_rfl) (hQ := np_) (hd := rfl); case hx => (first | exact Ex.neBy rfl rfl))
        refine GA.done (by kernel_rfl) ?_
        repeat (first | refine GC.seq ?_ | refine GE.then_normal ?_ | refine GC.cond_yes rfl (by first | assumption | omega) ?_)
        refine GC.drawA [] [] (by repeat first | exact tn_ | apply td_ rfl | apply tc_ | exact .here | apply Take1.there) (by kernel_rfl) ?_
        first | (apply GA.take [] (hD := .inl rfl) (hsub := ⟨_, Takes.nil⟩) (i := 0) (hi := rfl) (hs := by kernel_rfl) (hfr := by kernel_rfl) (hr := by kernel_rfl) (hQ := np_) (hd := rfl); case hx => (first | exact Ex.move rfl))
        first | (apply GA.take [] (hD := .inl rfl) (hsub := ⟨_, Takes.nil⟩) (i := 1) (hi := rfl) (hs := by kernel_rfl) (hfr := by kernel_rfl) (hr := by kernel_rfl) (hQ := np_) (hd := rfl); case hx => (first | exact Ex.move rfl))
        first | (apply GA.take [] (hD := .inl rfl) (hsub := ⟨_, Takes.nil⟩) (i := 2) (hi := rfl) (hs := by kernel_rfl) (hfr := by kernel_rfl) (hr := by kernel_rfl) (hQ := np_) (hd := rfl); case hx => (first | exact Ex.add rfl rfl (by omega)))
        rw [show (((1 : Nat) : Int) + 1) = ((2 : Nat) : Int) by rfl]
        apply GA.take [] (hD := .inl rfl) (hsub := ⟨_, Takes.nil⟩) (i := 3) (hi := rfl) (hs := by kernel_rfl) (hfr := by kernel_rfl) (hr := by kernel_rfl) (hQ := np_) (hd := rfl) (hx := (Ex.subLo (l := cs2) (a := 2) rfl rfl (by decide)))
        first | (apply GA.take [] (hD := .inl rfl) (hsub := ⟨_, Takes.nil⟩) (i := 4) (hi := rfl) (hs := by kernel_rfl) (hfr := by kernel_rfl) (hr := by kernel_rfl) (hQ := np_) (hd := rfl); case hx => (first | exact Ex.move rfl))
        first | (apply GA.take [] (hD := .inl rfl) (hsub := ⟨_, Takes.nil⟩) (i := 5) (hi := rfl) (hs := by kernel_rfl) (hfr := by kernel_rfl) (hr := by kernel_rfl) (hQ := np_) (hd := rfl); case hx => (first | exact Ex.move rfl))
        first | (apply GA.take [] (hD := .inl rfl) (hsub := ⟨_, Takes.nil⟩) (i := 6) (hi := rfl) (hs := by kernel_rfl) (hfr := by kernel_rfl) (hr := by kernel_rfl) (hQ := np_) (hd := rfl); case hx => (first | exact Ex.indexO rfl rfl (by omega)))
        refine GA.one (i := 7) (by kernel_rfl) rfl ?_
        first | refine G.call (caps := []) (ibb_sp [] (((B.getD 1 0).toNat : Nat) : Int)) rfl rfl rfl rfl (by repeat first | exact tn_ | apply td_ rfl | apply tc_ | exact .here | apply Take1.there) ?_ | refine G.callU (caps := []) (ibb_sp [] (((B.getD 1 0).toNat : Nat) : Int)) rfl rfl rfl (by repeat first | exact tn_ | apply td_ rfl | apply tc_ | exact .here | apply Take1.there) ?_
        rintro v_ give_ ⟨rfl, rfl⟩ rs_ hrs_
        simp only [List.cons_append, List.nil_append] at hrs_
        subst hrs_
        rw [ib_nil]
        try refine G.nil ?_
        refine GA.back (by first | exact .inl (by decide) | exact .inr ⟨_, (by repeat first | exact tn_ | apply td_ rfl | apply tc_ | exact .here | apply Take1.there)⟩) ?_
        refine GA.one (i := 8) (by kernel_rfl) rfl ?_
        repeat (first | (apply G.ex (hd := rfl); case h => (first | exact Ex.assign rfl)) | refine G.nil ?_)
        try refine G.nil ?_
        refine GA.back (by first | exact .inl (by decide) | exact .inr ⟨_, (by repeat first | exact tn_ | apply td_ rfl | apply tc_ | exact .here | apply Take1.there)⟩) ?_
        refine GA.done (by kernel_rfl) ?_
        repeat (first | (apply G.ex (hd := rfl); case h => (first | exact Ex.move rfl | exact Ex.lss rfl rfl | exact Ex.assign rfl)) | refine G.nil ?_ | refine GC.seq ?_ | refine GC.region ?_ | refine GC.ret ?_ | refine GE.then_normal ?_ | refine GE.then_ret ?_ | refine GE.block_ret ?_ | refine GC.cond_yes rfl (by first | assumption | omega) ?_ | refine GE.ng_ret ?_)
        refine GE.ret (by first | exact .inl rfl | exact .inr rfl) (res1 Tryz.results82 rfl) ⟨rfl, rfl⟩ (by repeat first | exact tn_ | apply td_ rfl | apply tc_ | exact .here | apply Take1.there) (by repeat (first | exact Subs.refl | refine Subs.skip ?_))
      · have hlen : ¬ (L : Int) < ((cs2.length : Nat) : Int) := by show ¬ (L : Int) < 2; omega
        repeat (first | (apply G.ex (hd := rfl); case h => (first | exact Ex.move rfl | exact Ex.lenO rfl | exact Ex.lss rfl rfl | exact Ex.assign rfl)) | refine G.nil ?_ | refine GC.seq ?_ | refine GC.region ?_ | refine GC.ret ?_ | refine GC.exit ?_ | refine GE.then_normal ?_ | refine GE.then_ret ?_ | refine GE.then_exit ?_ | refine GE.block_ret ?_ | refine GE.block_hit ?_ | refine GC.cond_no rfl (by first | assumption | omega) ?_ | refine GE.ng_ret ?_)
        refine GE.ret (by first | exact .inl rfl | exact .inr rfl) (res1 Tryz.results82 rfl) ⟨rfl, rfl⟩ (by repeat first | exact tn_ | apply td_ rfl | apply tc_ | exact .here | apply Take1.there) (by repeat (first | exact Subs.refl | refine Subs.skip ?_))
end path
end Go.Proofs.YtmceappjldcbmaaGreatDoor
/-
  CONTRACTS of strings.IndexAny and ContainsAny with "/\\x00", and of path.Name, whatever bytes a name has, by the kit.
-/
namespace Go.Proofs.YtmceappjldcbmaaGreatDoor
open Go.RowKit
attribute [local irreducible] Ex G GC GE Gq FPost LPost
set_option linter.unusedVariables false
set_option linter.unusedSimpArgs false

namespace path
/-- a set of bytes -/
def eA (f : Nat → Bool) : List Value := (List.range 256).map fun i => .bool (f i)
theorem eA_len (f : Nat → Bool) : (eA f).length = 256 := by simp [eA]
theorem eA_at (f : Nat → Bool) (j : Nat) (h : j < 256) : (eA f)[j]? = some (.bool (f j)) := by
  unfold eA; rw [List.getElem?_map, List.getElem?_range h]; rfl
theorem eA_one (f : Nat → Bool) : ∀ u ∈ eA f, u.oneCell' = true := fun u hu => by
  obtain ⟨i, _, rfl⟩ := List.mem_map.1 hu; rfl
instance : Enc eA 256 := ⟨eA_len, eA_one⟩
theorem eA_set (f : Nat → Bool) (j : Nat) (v : Bool) : (eA f).set j (.bool v) = eA (upd f j v) := by
  apply List.ext_getElem?
  intro i
  rw [List.getElem?_set]
  by_cases h : i < 256
  · rw [eA_at _ i h, eA_at _ i h]
    by_cases e : j = i
    · subst e; rw [if_pos rfl, if_pos (by rw [eA_len]; exact h)]; simp [upd]
    · rw [if_neg e]; simp [upd, Ne.symm e]
  · rw [List.getElem?_eq_none (by rw [eA_len]; omega), List.getElem?_eq_none (by rw [eA_len]; omega)]
    split
    · rename_i e; subst e; rw [if_neg (by rw [eA_len]; omega)]
    · rfl
instance : Inf Tryz.prog 153 256 256 (eA noP) := ⟨by kernel_rfl⟩
def setK : Nat → Nat → Bool
  | 0 => noP
  | 1 => upd noP 47 true
  | _ => upd (upd noP 47 true) 0 true
theorem setK2 (c : Nat) : setK 2 c = decide (c = 47 ∨ c = 0) := by
  simp only [setK, upd, noP]
  by_cases h : c = 0
  · subst h; rfl
  · by_cases h2 : c = 47
    · subst h2; rfl
    · simp [h, h2]
theorem use_sp (k : Int) : Spec Tryz.prog 83 [.int .i64 k] [] fun v give => v = .bool (decide (8 < k)) ∧ give = [] := by
  refine Spec.intro Tryz.func83 rfl Tryz.ntmps83 rfl fun w0 rest rs_ hrs_ => ?_
  simp only [List.cons_append, List.nil_append] at hrs_
  subst hrs_
  repeat (first | (apply G.ex (hd := rfl); case h => (first | exact Ex.move rfl | exact Ex.gtr rfl rfl | exact Ex.assign rfl)) | refine G.nil ?_ | refine GC.seq ?_ | refine GC.region ?_ | refine GC.ret ?_ | refine GE.then_normal ?_)
  refine GE.ret (by first | exact .inl rfl | exact .inr rfl) (res1 Tryz.results83 rfl) ⟨rfl, rfl⟩ (by repeat first | exact tn_ | apply td_ rfl | apply tc_ | exact .here | apply Take1.there) (by repeat (first | exact Subs.refl | refine Subs.skip ?_))
set_option maxRecDepth 100000 in
set_option maxHeartbeats 4000000 in
theorem mk_sp : Spec Tryz.prog 84 [.string (sOf cs2)] [] fun v give => v = .tuple #[.agg (eA (setK 2)).toArray, .bool true] ∧ give = [] := by
  refine Spec.intro Tryz.func84 rfl Tryz.ntmps84 rfl fun w0 rest rs_ hrs_ => ?_
  simp only [List.cons_append, List.nil_append] at hrs_
  subst hrs_
  repeat (first | refine GC.seq ?_ | refine GC.region ?_)
  refine G.alloc rfl (fun b => ?_)
  repeat (first | (apply G.ex (hd := rfl); case h => (first | exact Ex.assign rfl)) | refine G.nil ?_ | refine GC.seq ?_ | refine GC.region ?_ | refine GC.block ?_ | refine GE.then_normal ?_)
  refine GC.loop (ι := Nat) (fun k => k ≤ 2) (fun k => 2 - k) (fun k => [(0, .string (sOf cs2)), (2, .pointer (some (badr b 0))), (4, .int .i64 (k : Int))]) (fun k => [.blk b 153 (eA (setK k))]) 0 (by decide) (by simp only [fits]; repeat (first | exact trivial | refine And.intro rfl ?_)) (by repeat first | exact tn_ | apply td_ rfl | apply tc_ | exact .here | apply Take1.there) ?_
  rintro k hk fr_ rs_ hfr_ hrs_
  simp only [List.cons_append, List.nil_append] at hfr_ hrs_
  subst hfr_ hrs_
  have hk3 : k = 0 ∨ k = 1 ∨ k = 2 := by omega
  rcases hk3 with rfl | rfl | rfl
  · repeat ((fail_if_success (refine GC.region (id := 4) ?_)); first | (apply G.ex (hd := rfl); case h => (first | exact Ex.move rfl | exact Ex.lenO rfl | exact Ex.lss rfl rfl)) | refine G.nil ?_ | refine GC.seq ?_ | refine GC.region ?_ | refine GC.block ?_ | refine GC.skip ?_ | refine GE.then_normal ?_ | refine GC.cond_t rfl ?_)
    refine GC.region ?_
    iterate 2 (first | (apply G.ex (hd := rfl); case h => (first | exact Ex.move rfl)))
    refine G.ex (Ex.indexO (l := cs2) (k := 0) rfl rfl (by decide)) rfl ?_
    rw [show (cs2.getD 0 0).toNat = 47 from rfl]
    repeat ((fail_if_success (refine GC.region (id := 7) ?_)); first | (apply G.ex (hd := rfl); case h => (first | exact Ex.move rfl | exact Ex.geq rfl rfl | exact Ex.assign rfl)) | refine G.nil ?_ | refine GC.seq ?_ | refine GC.region ?_ | refine GC.skip ?_ | refine GE.then_normal ?_ | refine GC.cond_no rfl (by first | assumption | omega) ?_)
    refine GC.region ?_
    first | (apply G.ex (hd := rfl); case h => (first | exact Ex.move rfl))
    refine G.ex (Ex.indexPB (k := 47) (b := b) (j := 0) rfl rfl (by decide)) rfl ?_
    refine G.storeB (b := b) (j := 0 + 47) rfl rfl rfl rfl (by rw [Nat.blt_eq, eA_len]; decide) ?_
    refine G.reblk (eA (setK 1)) (eA_set _ _ _) ?_
    repeat (first | (apply G.ex (hd := rfl); case h => (first | exact Ex.move rfl | exact Ex.add rfl rfl (by omega) | exact Ex.assign rfl)) | refine G.nil ?_ | refine GC.region ?_ | refine GE.then_normal ?_ | refine GE.block_normal ?_)
    refine GE.loop 1 (by decide) (by decide) (by simp only [fits]; repeat (first | exact trivial | refine And.intro rfl ?_)) (by repeat first | exact tn_ | apply td_ rfl | apply tc_ | exact .here | apply Take1.there) (by repeat (first | exact Subs.refl | refine Subs.skip ?_))
  · repeat ((fail_if_success (refine GC.region (id := 4) ?_)); first | (apply G.ex (hd := rfl); case h => (first | exact Ex.move rfl | exact Ex.lenO rfl | exact Ex.lss rfl rfl)) | refine G.nil ?_ | refine GC.seq ?_ | refine GC.region ?_ | refine GC.block ?_ | refine GC.skip ?_ | refine GE.then_normal ?_ | refine GC.cond_t rfl ?_)
    refine GC.region ?_
    iterate 2 (first | (apply G.ex (hd := rfl); case h => (first | exact Ex.move rfl)))
    refine G.ex (Ex.indexO (l := cs2) (k := 1) rfl rfl (by decide)) rfl ?_
    rw [show (cs2.getD 1 0).toNat = 0 from rfl]
    repeat ((fail_if_success (refine GC.region (id := 7) ?_)); first | (apply G.ex (hd := rfl); case h => (first | exact Ex.move rfl | exact Ex.geq rfl rfl | exact Ex.assign rfl)) | refine G.nil ?_ | refine GC.seq ?_ | refine GC.region ?_ | refine GC.skip ?_ | refine GE.then_normal ?_ | refine GC.cond_no rfl (by first | assumption | omega) ?_)
    refine GC.region ?_
    first | (apply G.ex (hd := rfl); case h => (first | exact Ex.move rfl))
    refine G.ex (Ex.indexPB (k := 0) (b := b) (j := 0) rfl rfl (by decide)) rfl ?_
    refine G.storeB (b := b) (j := 0 + 0) rfl rfl rfl rfl (by rw [Nat.blt_eq, eA_len]; decide) ?_
    refine G.reblk (eA (setK 2)) (eA_set _ _ _) ?_
    repeat (first | (apply G.ex (hd := rfl); case h => (first | exact Ex.move rfl | exact Ex.add rfl rfl (by omega) | exact Ex.assign rfl)) | refine G.nil ?_ | refine GC.region ?_ | refine GE.then_normal ?_ | refine GE.block_normal ?_)
    refine GE.loop 2 (by decide) (by decide) (by simp only [fits]; repeat (first | exact trivial | refine And.intro rfl ?_)) (by repeat first | exact tn_ | apply td_ rfl | apply tc_ | exact .here | apply Take1.there) (by repeat (first | exact Subs.refl | refine Subs.skip ?_))
  · have hlt : ¬ ((2 : Nat) : Int) < ((cs2.length : Nat) : Int) := by decide
    repeat ((fail_if_success (refine GC.region (id := 8) ?_)); first | (apply G.ex (hd := rfl); case h => (first | exact Ex.move rfl | exact Ex.lenO rfl | exact Ex.lss rfl rfl)) | refine G.nil ?_ | refine GC.seq ?_ | refine GC.region ?_ | refine GC.exit ?_ | refine GE.then_normal ?_ | refine GE.then_exit ?_ | refine GE.block_hit ?_ | refine GC.cond_no rfl (by first | assumption | omega) ?_)
    refine GC.region ?_
    refine G.ex (Ex.loadWh (enc := eA) (q := setK 2) rfl) rfl ?_
    refine G.storeWh (enc := eA) (q := setK 2) rfl rfl .here (eA_len _) ?_
    repeat (first | (apply G.ex (hd := rfl); case h => (first | exact Ex.assign rfl)) | refine G.nil ?_ | refine GC.ret ?_ | refine GE.then_normal ?_)
    refine GE.ret (.inl rfl) (resR2 Tryz.results84 (RV.cell rfl (eA_len _)) (RV.tmp rfl)) ⟨rfl, rfl⟩ .nil (.skip .refl)
set_option maxRecDepth 100000 in
theorem has_sp (b : Nat) (T : TypeId) (f : Nat → Bool) (c : UInt8) : Spec Tryz.prog 85 [.pointer (some (badr b 0)), .int .u8 (c.toNat : Int)] [.blk b T (eA f)] fun v give => v = .bool (f c.toNat) ∧ give = [.blk b T (eA f)] := by
  have hc := c.toNat_lt
  refine Spec.intro Tryz.func85 rfl Tryz.ntmps85 rfl fun w0 rest rs_ hrs_ => ?_
  simp only [List.cons_append, List.nil_append] at hrs_
  subst hrs_
  repeat (first | (apply G.ex (hd := rfl); case h => (first | exact Ex.move rfl | exact Ex.nilCheck rfl | exact Ex.indexPB rfl rfl (by first | omega | (simp; done) | (simp; omega)) | exact Ex.assign rfl)) | refine G.nil ?_ | refine GC.seq ?_ | refine GC.region ?_ | refine GE.then_normal ?_)
  refine G.ex (Ex.loadB (b := b) (j := 0 + c.toNat) rfl (by rw [Nat.zero_add]; exact eA_at f _ (by omega))) rfl ?_
  repeat (first | (apply G.ex (hd := rfl); case h => (first | exact Ex.assign rfl)) | refine G.nil ?_ | refine GC.ret ?_ | refine GE.then_normal ?_)
  refine GE.ret (by first | exact .inl rfl | exact .inr rfl) (res1 Tryz.results85 rfl) ⟨rfl, rfl⟩ (by repeat first | exact tn_ | apply td_ rfl | apply tc_ | exact .here | apply Take1.there) (by repeat (first | exact Subs.refl | refine Subs.skip ?_))
/-- is one of the two in it? -/
def hit (l : List UInt8) : Prop := ∃ x ∈ l, x.toNat = 47 ∨ x.toNat = 0
theorem hit_drop {l : List UInt8} {i : Nat} (h : i < l.length) (hn : ¬ ((l.getD i 0).toNat = 47 ∨ (l.getD i 0).toNat = 0)) (hd : ¬ hit (l.take i)) : ¬ hit (l.take (i + 1)) := by
  rintro ⟨x, hx, hx2⟩
  rw [List.take_succ_eq_append_getElem h] at hx
  rcases List.mem_append.1 hx with hx | hx
  · exact hd ⟨x, hx, hx2⟩
  · rw [List.mem_singleton] at hx
    rw [List.getD_eq_getElem?_getD, List.getElem?_eq_getElem h] at hn
    exact hn (by rw [hx] at hx2; exact hx2)
theorem hit_at {l : List UInt8} {i : Nat} (h : i < l.length) (hn : (l.getD i 0).toNat = 47 ∨ (l.getD i 0).toNat = 0) : hit l :=
  ⟨l.getD i 0, by rw [List.getD_eq_getElem?_getD, List.getElem?_eq_getElem h]; exact List.getElem_mem h, hn⟩
theorem hit_skip {l : List UInt8} {i : Nat} : ∀ (w : Nat), i + w ≤ l.length → (∀ k, k < w → 128 ≤ (l.getD (i + k) 0).toNat) → ¬ hit (l.take i) → ¬ hit (l.take (i + w))
  | 0, _, _, hd => hd
  | w + 1, h, hw, hd => by
    have h1 := hit_skip w (by omega) (fun k hk => hw k (by omega)) hd
    have h2 := hw w (by omega)
    exact hit_drop (i := i + w) (by omega) (by omega) h1
theorem hit_no {l : List UInt8} {i : Nat} (h : l.length ≤ i) (hd : ¬ hit (l.take i)) : ¬ hit l := by
  rwa [List.take_of_length_le h] at hd
set_option maxRecDepth 100000 in
set_option maxHeartbeats 4000000 in
theorem any_sp (l : List UInt8) (hl : l.length ≤ 1000000) : Spec Tryz.prog 65 [.string (sOf l), .string (sOf cs2)] [] fun v give => ∃ k : Int, v = .int .i64 k ∧ (0 ≤ k ↔ hit l) ∧ give = [] := by
  refine Spec.intro Tryz.func65 rfl Tryz.ntmps65 rfl fun w0 rest rs_ hrs_ => ?_
  simp only [List.cons_append, List.nil_append] at hrs_
  subst hrs_
  by_cases h8 : 8 < l.length
  · have c1 : ¬ cs2 = [] := by decide
    have c2 : ¬ ((cs2.length : Nat) : Int) = 1 := by decide
    have c3 : (8 : Int) < (l.length : Int) := by omega
    repeat (first | (apply G.ex (hd := rfl); case h => (first | exact Ex.move rfl | exact Ex.lenO rfl | exact Ex.eqO rfl rfl | exact Ex.eqI rfl rfl | exact Ex.assign rfl)) | refine G.nil ?_ | refine GC.seq ?_ | refine GC.region ?_ | refine GC.skip ?_ | refine GE.then_normal ?_ | refine GC.cond_no rfl (by first | assumption | omega) ?_)
    first | refine G.call (caps := []) (use_sp (l.length : Int)) rfl rfl rfl rfl (by repeat first | exact tn_ | apply td_ rfl | apply tc_ | exact .here | apply Take1.there) ?_ | refine G.callU (caps := []) (use_sp (l.length : Int)) rfl rfl rfl (by repeat first | exact tn_ | apply td_ rfl | apply tc_ | exact .here | apply Take1.there) ?_
    rintro v_ give_ ⟨rfl, rfl⟩ rs_ hrs_
    simp only [List.cons_append, List.nil_append] at hrs_
    subst hrs_
    repeat (first | (apply G.ex (hd := rfl); case h => (first | exact Ex.move rfl)) | refine G.nil ?_ | refine GC.seq ?_ | refine GC.region ?_ | refine GE.then_normal ?_ | refine GC.cond_yes rfl (by first | assumption | omega) ?_)
    first | refine G.call (caps := []) (mk_sp) rfl rfl rfl rfl (by repeat first | exact tn_ | apply td_ rfl | apply tc_ | exact .here | apply Take1.there) ?_ | refine G.callU (caps := []) (mk_sp) rfl rfl rfl (by repeat first | exact tn_ | apply td_ rfl | apply tc_ | exact .here | apply Take1.there) ?_
    rintro v_ give_ ⟨rfl, rfl⟩ rs_ hrs_
    simp only [List.cons_append, List.nil_append] at hrs_
    subst hrs_
    repeat (first | (apply G.ex (hd := rfl); case h => (first | exact Ex.move rfl | exact Ex.extract rfl rfl)))
    refine G.alloc rfl (fun b => ?_)
    refine G.storeWh (enc := eA) (q := setK 2) rfl rfl .here (eA_len _) ?_
    repeat (first | (apply G.ex (hd := rfl); case h => (first | exact Ex.move rfl | exact Ex.assign rfl)) | refine G.nil ?_ | refine GC.seq ?_ | refine GC.region ?_ | refine GC.block ?_ | refine GE.then_normal ?_ | refine GC.cond_t rfl ?_)
    refine GC.loop (ι := Nat) (fun k => k ≤ l.length ∧ ¬ hit (l.take k)) (fun k => l.length - k) (fun k => [(0, .string (sOf l)), (6, .pointer (some (badr b 0))), (8, .int .i64 (k : Int))]) (fun k => [.blk b 153 (eA (setK 2))]) 0 ⟨Nat.zero_le _, fun ⟨x, hx, _⟩ => nomatch hx⟩ (by simp only [fits]; repeat (first | exact trivial | refine And.intro rfl ?_)) (by repeat first | exact tn_ | apply td_ rfl | apply tc_ | exact .here | apply Take1.there) ?_
    rintro k ⟨hk, hd⟩ fr_ rs_ hfr_ hrs_
    simp only [List.cons_append, List.nil_append] at hfr_ hrs_
    subst hfr_ hrs_
    repeat (first | (apply G.ex (hd := rfl); case h => (first | exact Ex.move rfl | exact Ex.lenO rfl | exact Ex.lss rfl rfl)) | refine G.nil ?_ | refine GC.seq ?_ | refine GC.region ?_ | refine GE.then_normal ?_)
    refine GC.cond_dec rfl (fun hlt => ?_) (fun hlt => ?_)
    · have hlt : k < l.length := by omega
      repeat (first | (apply G.ex (hd := rfl); case h => (first | exact Ex.move rfl | exact Ex.indexO rfl rfl (by omega))) | refine GC.seq ?_ | refine GC.region ?_ | refine GC.block ?_ | refine GC.skip ?_ | refine GE.then_normal ?_)
      first | refine G.call (caps := []) (has_sp b 153 (setK 2) (l.getD k 0)) rfl rfl rfl rfl (by repeat first | exact tn_ | apply td_ rfl | apply tc_ | exact .here | apply Take1.there) ?_ | refine G.callU (caps := []) (has_sp b 153 (setK 2) (l.getD k 0)) rfl rfl rfl (by repeat first | exact tn_ | apply td_ rfl | apply tc_ | exact .here | apply Take1.there) ?_
      rintro v_ give_ ⟨rfl, rfl⟩ rs_ hrs_
      simp only [List.cons_append, List.nil_append] at hrs_
      subst hrs_
      rw [setK2]
      by_cases hc : (l.getD k 0).toNat = 47 ∨ (l.getD k 0).toNat = 0
      · repeat (first | (apply G.ex (hd := rfl); case h => (first | exact Ex.move rfl | exact Ex.assign rfl)) | refine G.nil ?_ | refine GC.seq ?_ | refine GC.region ?_ | refine GC.ret ?_ | refine GE.then_normal ?_ | refine GE.then_ret ?_ | refine GE.block_ret ?_ | refine GC.cond_yes rfl (by first | assumption | omega) ?_)
        refine GE.ret (by first | exact .inl rfl | exact .inr rfl) (res1 Tryz.results65 rfl) ⟨(k : Int), rfl, ⟨fun _ => hit_at hlt hc, fun _ => by omega⟩, rfl⟩ (by repeat first | exact tn_ | apply td_ rfl | apply tc_ | exact .here | apply Take1.there) (by repeat (first | exact Subs.refl | refine Subs.skip ?_))
      · repeat (first | (apply G.ex (hd := rfl); case h => (first | exact Ex.move rfl | exact Ex.add rfl rfl (by omega) | exact Ex.assign rfl)) | refine G.nil ?_ | refine GC.region ?_ | refine GC.skip ?_ | refine GE.then_normal ?_ | refine GE.block_normal ?_ | refine GC.cond_no rfl (by first | assumption | omega) ?_)
        refine GE.loop (k + 1) ⟨by omega, hit_drop hlt hc hd⟩ (by omega) (by simp only [fits]; repeat (first | exact trivial | refine And.intro rfl ?_)) (by repeat first | exact tn_ | apply td_ rfl | apply tc_ | exact .here | apply Take1.there) (by repeat (first | exact Subs.refl | refine Subs.skip ?_))
    · repeat (first | (apply G.ex (hd := rfl); case h => (first | exact Ex.assign rfl)) | refine G.nil ?_ | refine GC.seq ?_ | refine GC.region ?_ | refine GC.ret ?_ | refine GC.exit ?_ | refine GE.then_normal ?_ | refine GE.then_ret ?_ | refine GE.then_exit ?_ | refine GE.block_hit ?_)
      refine GE.ret (by first | exact .inl rfl | exact .inr rfl) (res1 Tryz.results65 rfl) ⟨-1, rfl, ⟨fun h => absurd h (by decide), fun h => absurd h (hit_no (by omega) hd)⟩, rfl⟩ (by repeat first | exact tn_ | apply td_ rfl | apply tc_ | exact .here | apply Take1.there) (by repeat (first | exact Subs.refl | refine Subs.skip ?_))
  · have c1 : ¬ cs2 = [] := by decide
    have c2 : ¬ ((cs2.length : Nat) : Int) = 1 := by decide
    have c3 : ¬ (8 : Int) < (l.length : Int) := by omega
    repeat (first | (apply G.ex (hd := rfl); case h => (first | exact Ex.move rfl | exact Ex.lenO rfl | exact Ex.eqO rfl rfl | exact Ex.eqI rfl rfl | exact Ex.assign rfl)) | refine G.nil ?_ | refine GC.seq ?_ | refine GC.region ?_ | refine GC.skip ?_ | refine GE.then_normal ?_ | refine GC.cond_no rfl (by first | assumption | omega) ?_)
    first | refine G.call (caps := []) (use_sp (l.length : Int)) rfl rfl rfl rfl (by repeat first | exact tn_ | apply td_ rfl | apply tc_ | exact .here | apply Take1.there) ?_ | refine G.callU (caps := []) (use_sp (l.length : Int)) rfl rfl rfl (by repeat first | exact tn_ | apply td_ rfl | apply tc_ | exact .here | apply Take1.there) ?_
    rintro v_ give_ ⟨rfl, rfl⟩ rs_ hrs_
    simp only [List.cons_append, List.nil_append] at hrs_
    subst hrs_
    repeat (first | (apply G.ex (hd := rfl); case h => (first | exact Ex.move rfl)) | refine G.nil ?_ | refine GC.seq ?_ | refine GC.region ?_ | refine GC.skip ?_ | refine GE.then_normal ?_ | refine GC.cond_no rfl (by first | assumption | omega) ?_)
    refine G.rangeS (l := l) rfl rfl (fun b => ?_)
    repeat (first | refine G.nil ?_ | refine GC.block ?_ | refine GE.then_normal ?_)
    refine GC.loop (ι := Nat) (fun k => k ≤ l.length ∧ ¬ hit (l.take k)) (fun k => l.length - k) (fun k => [(1, .string (sOf cs2)), (45, .pointer (some (badr b 0)))]) (fun k => [.own (IterR b (sOf l) k)]) 0 ⟨Nat.zero_le _, fun ⟨x, hx, _⟩ => nomatch hx⟩ (by simp only [fits]; repeat (first | exact trivial | refine And.intro rfl ?_)) (by repeat first | exact tn_ | apply td_ rfl | apply tc_ | exact .here | apply Take1.there) ?_
    rintro k ⟨hk, hd⟩ fr_ rs_ hfr_ hrs_
    simp only [List.cons_append, List.nil_append] at hfr_ hrs_
    subst hfr_ hrs_
    repeat (first | refine GC.seq ?_ | refine GC.region ?_)
    by_cases hlt : k < l.length
    · by_cases hb : (l.getD k 0).toNat < 128
      · have hdec := decode_lo l k hlt hb
        refine G.nextS (l := l) (p := k) rfl hlt hdec .here rfl ?_
        have hv : Utf8.valid (((l.getD k 0).toNat : Nat) : Int) = true := by
          unfold Utf8.valid
          simp only [Bool.or_eq_true, Bool.and_eq_true, decide_eq_true_eq]
          omega
        iterate 4 (first | (apply G.ex (hd := rfl); case h => (first | exact Ex.extract rfl rfl)) | refine G.nil ?_ | refine GC.seq ?_ | refine GE.then_normal ?_)
        refine GC.cond_t rfl ?_
        repeat ((fail_if_success (refine GC.region (id := 20) ?_)); first | (apply G.ex (hd := rfl); case h => (first | exact Ex.extract rfl rfl | exact Ex.assign rfl)) | refine G.nil ?_ | refine GC.seq ?_ | refine GC.region ?_ | refine GC.block ?_ | refine GC.skip ?_ | refine GE.then_normal ?_)
        refine GC.region ?_
        iterate 2 (first | (apply G.ex (hd := rfl); case h => (first | exact Ex.move rfl)))
        first | refine G.call (caps := []) (rune_sp (l.getD k 0).toNat hv (by omega)) rfl rfl rfl rfl (by repeat first | exact tn_ | apply td_ rfl | apply tc_ | exact .here | apply Take1.there) ?_ | refine G.callU (caps := []) (rune_sp (l.getD k 0).toNat hv (by omega)) rfl rfl rfl (by repeat first | exact tn_ | apply td_ rfl | apply tc_ | exact .here | apply Take1.there) ?_
        rintro v_ give_ ⟨rfl, rfl⟩ rs_ hrs_
        simp only [List.cons_append, List.nil_append] at hrs_
        subst hrs_
        by_cases hc : (l.getD k 0).toNat = 47 ∨ (l.getD k 0).toNat = 0
        · have hge : 0 ≤ at2 (l.getD k 0).toNat := by unfold at2; rcases hc with h | h <;> rw [h] <;> decide
          repeat (first | (apply G.ex (hd := rfl); case h => (first | exact Ex.move rfl | exact Ex.geq rfl rfl | exact Ex.assign rfl)) | refine G.nil ?_ | refine GC.seq ?_ | refine GC.region ?_ | refine GC.ret ?_ | refine GE.then_normal ?_ | refine GE.then_ret ?_ | refine GE.block_ret ?_ | refine GC.cond_yes rfl (by first | assumption | omega) ?_)
          refine GE.ret (by first | exact .inl rfl | exact .inr rfl) (res1 Tryz.results65 rfl) ⟨(k : Int), rfl, ⟨fun _ => hit_at hlt hc, fun _ => by omega⟩, rfl⟩ (by repeat first | exact tn_ | apply td_ rfl | apply tc_ | exact .here | apply Take1.there) (by repeat (first | exact Subs.refl | refine Subs.skip ?_))
        · have hge : ¬ 0 ≤ at2 (l.getD k 0).toNat := by unfold at2; rw [if_neg (fun h => hc (.inl h)), if_neg (fun h => hc (.inr h))]; decide
          repeat (first | (apply G.ex (hd := rfl); case h => (first | exact Ex.geq rfl rfl)) | refine G.nil ?_ | refine GC.skip ?_ | refine GE.then_normal ?_ | refine GE.block_normal ?_ | refine GC.cond_no rfl (by first | assumption | omega) ?_)
          refine GE.loop (k + 1) ⟨by omega, hit_drop hlt hc hd⟩ (by omega) (by simp only [fits]; repeat (first | exact trivial | refine And.intro rfl ?_)) (by repeat first | exact tn_ | apply td_ rfl | apply tc_ | exact .here | apply Take1.there) (by repeat (first | exact Subs.refl | refine Subs.skip ?_))
      · obtain ⟨c, wd, hdec, g1, g2, g3, g4, g5, g6⟩ := decode_hi l k hlt (by omega)
        refine G.nextS (l := l) (p := k) rfl hlt hdec .here rfl ?_
        have hge : ¬ 0 ≤ at2 c := by unfold at2; rw [if_neg (by omega), if_neg (by omega)]; decide
        iterate 4 (first | (apply G.ex (hd := rfl); case h => (first | exact Ex.extract rfl rfl)) | refine G.nil ?_ | refine GC.seq ?_ | refine GE.then_normal ?_)
        refine GC.cond_t rfl ?_
        repeat ((fail_if_success (refine GC.region (id := 20) ?_)); first | (apply G.ex (hd := rfl); case h => (first | exact Ex.extract rfl rfl | exact Ex.assign rfl)) | refine G.nil ?_ | refine GC.seq ?_ | refine GC.region ?_ | refine GC.block ?_ | refine GC.skip ?_ | refine GE.then_normal ?_)
        refine GC.region ?_
        iterate 2 (first | (apply G.ex (hd := rfl); case h => (first | exact Ex.move rfl)))
        first | refine G.call (caps := []) (rune_sp c g3 g2) rfl rfl rfl rfl (by repeat first | exact tn_ | apply td_ rfl | apply tc_ | exact .here | apply Take1.there) ?_ | refine G.callU (caps := []) (rune_sp c g3 g2) rfl rfl rfl (by repeat first | exact tn_ | apply td_ rfl | apply tc_ | exact .here | apply Take1.there) ?_
        rintro v_ give_ ⟨rfl, rfl⟩ rs_ hrs_
        simp only [List.cons_append, List.nil_append] at hrs_
        subst hrs_
        repeat (first | (apply G.ex (hd := rfl); case h => (first | exact Ex.geq rfl rfl)) | refine G.nil ?_ | refine GC.skip ?_ | refine GE.then_normal ?_ | refine GE.block_normal ?_ | refine GC.cond_no rfl (by first | assumption | omega) ?_)
        refine GE.loop (k + wd) ⟨by omega, hit_skip wd g5 g6 hd⟩ (by omega) (by simp only [fits]; repeat (first | exact trivial | refine And.intro rfl ?_)) (by repeat first | exact tn_ | apply td_ rfl | apply tc_ | exact .here | apply Take1.there) (by repeat (first | exact Subs.refl | refine Subs.skip ?_))
    · refine G.nextE (l := l) (p := k) rfl (by simp) hlt rfl ?_
      repeat (first | (apply G.ex (hd := rfl); case h => (first | exact Ex.extract rfl rfl | exact Ex.assign rfl)) | refine G.nil ?_ | refine GC.seq ?_ | refine GC.region ?_ | refine GC.ret ?_ | refine GC.exit ?_ | refine GE.then_normal ?_ | refine GE.then_exit ?_ | refine GE.block_hit ?_ | refine GC.cond_f rfl ?_)
      refine GE.ret (by first | exact .inl rfl | exact .inr rfl) (res1 Tryz.results65 rfl) ⟨-1, rfl, ⟨fun h => absurd h (by decide), fun h => absurd h (hit_no (by omega) hd)⟩, rfl⟩ (by repeat first | exact tn_ | apply td_ rfl | apply tc_ | exact .here | apply Take1.there) (by repeat (first | exact Subs.refl | refine Subs.skip ?_))
open Classical in
theorem cany_sp (l : List UInt8) (hl : l.length ≤ 1000000) : Spec Tryz.prog 56 [.string (sOf l), .string (sOf cs2)] [] fun v give => v = .bool (decide (hit l)) ∧ give = [] := by
  refine Spec.intro Tryz.func56 rfl Tryz.ntmps56 rfl fun w0 rest rs_ hrs_ => ?_
  simp only [List.cons_append, List.nil_append] at hrs_
  subst hrs_
  repeat (first | (apply G.ex (hd := rfl); case h => (first | exact Ex.move rfl | exact Ex.assign rfl)) | refine G.nil ?_ | refine GC.seq ?_ | refine GC.region ?_ | refine GE.then_normal ?_)
  first | refine G.call (caps := []) (any_sp l hl) rfl rfl rfl rfl (by repeat first | exact tn_ | apply td_ rfl | apply tc_ | exact .here | apply Take1.there) ?_ | refine G.callU (caps := []) (any_sp l hl) rfl rfl rfl (by repeat first | exact tn_ | apply td_ rfl | apply tc_ | exact .here | apply Take1.there) ?_
  rintro v_ give_ ⟨k, rfl, hk, rfl⟩ rs_ hrs_
  simp only [List.cons_append, List.nil_append] at hrs_
  subst hrs_
  repeat (first | (apply G.ex (hd := rfl); case h => (first | exact Ex.geq rfl rfl | exact Ex.assign rfl)) | refine G.nil ?_ | refine GC.ret ?_ | refine GE.then_normal ?_)
  refine GE.ret (by first | exact .inl rfl | exact .inr rfl) (res1 Tryz.results56 rfl) ⟨congrArg Value.bool (decide_eq_decide.2 hk), rfl⟩ (by repeat first | exact tn_ | apply td_ rfl | apply tc_ | exact .here | apply Take1.there) (by repeat (first | exact Subs.refl | refine Subs.skip ?_))
instance (l : List UInt8) : Decidable (hit l) := inferInstanceAs (Decidable (∃ x ∈ l, x.toNat = 47 ∨ x.toNat = 0))
/-- is it a name? -/
def NameOk (l : List UInt8) : Prop := 1 ≤ l.length ∧ l.length ≤ 16 ∧ l ≠ [46] ∧ l ≠ [46, 46] ∧ ¬ hit l
instance (l : List UInt8) : Decidable (NameOk l) := inferInstanceAs (Decidable (_ ∧ _ ∧ _ ∧ _ ∧ _))
set_option maxHeartbeats 4000000 in
theorem name_sp (l : List UInt8) (hl : l.length ≤ 1000000) : Spec Tryz.prog 48 [.string (sOf l)] [] fun v give => v = .bool (decide (NameOk l)) ∧ give = [] := by
  refine Spec.intro Tryz.func48 rfl Tryz.ntmps48 rfl fun w0 rest rs_ hrs_ => ?_
  simp only [List.cons_append, List.nil_append] at hrs_
  subst hrs_
  by_cases h1 : 1 ≤ l.length
  · by_cases h2 : l.length ≤ 16
    · by_cases h3 : l = [46]
      · have h3' : ¬ ¬ l = [46] := fun h => h h3
        repeat (first | (apply G.ex (hd := rfl); case h => (first | exact Ex.move rfl | exact Ex.lenO rfl | exact Ex.neO rfl rfl | exact Ex.leq rfl rfl | exact Ex.geq rfl rfl | exact Ex.assign rfl | exact Ex.pickT rfl (by first | assumption | omega) rfl | exact Ex.pickF rfl (by first | assumption | omega) rfl | exact Ex.pickLF rfl rfl)) | refine G.g_tt rfl rfl (by first | assumption | omega) ?_ | refine G.g_tf rfl rfl (by first | assumption | omega) rfl ?_ | refine G.l_tf rfl rfl rfl ?_ | refine G.nil ?_ | refine GC.seq ?_ | refine GC.region ?_ | refine GC.ret ?_ | refine GE.then_normal ?_)
        refine GE.ret (by first | exact .inl rfl | exact .inr rfl) (res1 Tryz.results48 rfl) ⟨congrArg Value.bool (decide_eq_false (fun h => h.2.2.1 h3)).symm, rfl⟩ (by repeat first | exact tn_ | apply td_ rfl | apply tc_ | exact .here | apply Take1.there) (by repeat (first | exact Subs.refl | refine Subs.skip ?_))
      · by_cases h4 : l = [46, 46]
        · have h4' : ¬ ¬ l = [46, 46] := fun h => h h4
          repeat (first | (apply G.ex (hd := rfl); case h => (first | exact Ex.move rfl | exact Ex.lenO rfl | exact Ex.neO rfl rfl | exact Ex.leq rfl rfl | exact Ex.geq rfl rfl | exact Ex.assign rfl | exact Ex.pickT rfl (by first | assumption | omega) rfl | exact Ex.pickF rfl (by first | assumption | omega) rfl)) | refine G.g_tt rfl rfl (by first | assumption | omega) ?_ | refine G.g_tf rfl rfl (by first | assumption | omega) rfl ?_ | refine G.nil ?_ | refine GC.seq ?_ | refine GC.region ?_ | refine GC.ret ?_ | refine GE.then_normal ?_)
          refine GE.ret (by first | exact .inl rfl | exact .inr rfl) (res1 Tryz.results48 rfl) ⟨congrArg Value.bool (decide_eq_false (fun h => h.2.2.2.1 h4)).symm, rfl⟩ (by repeat first | exact tn_ | apply td_ rfl | apply tc_ | exact .here | apply Take1.there) (by repeat (first | exact Subs.refl | refine Subs.skip ?_))
        · repeat (first | (apply G.ex (hd := rfl); case h => (first | exact Ex.move rfl | exact Ex.lenO rfl | exact Ex.neO rfl rfl | exact Ex.leq rfl rfl | exact Ex.geq rfl rfl | exact Ex.assign rfl | exact Ex.pickT rfl (by first | assumption | omega) rfl)) | refine G.g_tt rfl rfl (by first | assumption | omega) ?_ | refine G.nil ?_ | refine GC.seq ?_ | refine GC.region ?_ | refine GE.then_normal ?_)
          first | refine G.call (caps := []) (cany_sp l hl) rfl rfl rfl rfl (by repeat first | exact tn_ | apply td_ rfl | apply tc_ | exact .here | apply Take1.there) ?_ | refine G.callU (caps := []) (cany_sp l hl) rfl rfl rfl (by repeat first | exact tn_ | apply td_ rfl | apply tc_ | exact .here | apply Take1.there) ?_
          rintro v_ give_ ⟨rfl, rfl⟩ rs_ hrs_
          simp only [List.cons_append, List.nil_append] at hrs_
          subst hrs_
          repeat (first | (apply G.ex (hd := rfl); case h => (first | exact Ex.assign rfl | exact Ex.notD rfl | exact Ex.pickT rfl (by first | assumption | omega) rfl)) | refine G.g_tt rfl rfl (by first | assumption | omega) ?_ | refine G.nil ?_ | refine GC.ret ?_ | refine GE.then_normal ?_)
          refine GE.ret (by first | exact .inl rfl | exact .inr rfl) (res1 Tryz.results48 rfl) ⟨congrArg Value.bool (decide_eq_decide.2 ⟨fun h => ⟨h1, h2, h3, h4, h⟩, fun h => h.2.2.2.2⟩), rfl⟩ (by repeat first | exact tn_ | apply td_ rfl | apply tc_ | exact .here | apply Take1.there) (by repeat (first | exact Subs.refl | refine Subs.skip ?_))
    · repeat (first | (apply G.ex (hd := rfl); case h => (first | exact Ex.move rfl | exact Ex.lenO rfl | exact Ex.leq rfl rfl | exact Ex.geq rfl rfl | exact Ex.assign rfl | exact Ex.pickT rfl (by first | assumption | omega) rfl | exact Ex.pickF rfl (by first | assumption | omega) rfl | exact Ex.pickLF rfl rfl)) | refine G.g_tt rfl rfl (by first | assumption | omega) ?_ | refine G.g_tf rfl rfl (by first | assumption | omega) rfl ?_ | refine G.l_tf rfl rfl rfl ?_ | refine G.nil ?_ | refine GC.seq ?_ | refine GC.region ?_ | refine GC.ret ?_ | refine GE.then_normal ?_)
      refine GE.ret (by first | exact .inl rfl | exact .inr rfl) (res1 Tryz.results48 rfl) ⟨congrArg Value.bool (decide_eq_false (fun h => h2 h.2.1)).symm, rfl⟩ (by repeat first | exact tn_ | apply td_ rfl | apply tc_ | exact .here | apply Take1.there) (by repeat (first | exact Subs.refl | refine Subs.skip ?_))
  · repeat (first | (apply G.ex (hd := rfl); case h => (first | exact Ex.move rfl | exact Ex.lenO rfl | exact Ex.geq rfl rfl | exact Ex.assign rfl | exact Ex.pickF rfl (by first | assumption | omega) rfl | exact Ex.pickLF rfl rfl)) | refine G.g_tf rfl rfl (by first | assumption | omega) rfl ?_ | refine G.l_tf rfl rfl rfl ?_ | refine G.nil ?_ | refine GC.seq ?_ | refine GC.region ?_ | refine GC.ret ?_ | refine GE.then_normal ?_)
    refine GE.ret (by first | exact .inl rfl | exact .inr rfl) (res1 Tryz.results48 rfl) ⟨congrArg Value.bool (decide_eq_false (fun h => h1 h.1)).symm, rfl⟩ (by repeat first | exact tn_ | apply td_ rfl | apply tc_ | exact .here | apply Take1.there) (by repeat (first | exact Subs.refl | refine Subs.skip ?_))
end path
end Go.Proofs.YtmceappjldcbmaaGreatDoor
/-
  CONTRACTS of strings.SplitSeq by "/" and of the iterator that it makes: whatever a round keeps, all rounds keep; a round may end them. By the kit.
-/
namespace Go.Proofs.YtmceappjldcbmaaGreatDoor
open Go.RowKit
attribute [local irreducible] Ex G GC GE Gq FPost LPost
set_option linter.unusedVariables false
set_option linter.unusedSimpArgs false
namespace path
/-- the parts of a path -/
def splitF : List UInt8 → List (List UInt8)
  | [] => [[]]
  | c :: t => if c = 47 then [] :: splitF t else match splitF t with
    | [] => [[c]]
    | h :: r => (c :: h) :: r
theorem splitF_cons (c : UInt8) (t : List UInt8) : splitF (c :: t) = if c = 47 then [] :: splitF t else match splitF t with
    | [] => [[c]]
    | h :: r => (c :: h) :: r := rfl
theorem splitF_ne : ∀ s, splitF s ≠ []
  | [] => by simp [splitF]
  | c :: t => by
    unfold splitF
    split
    · simp
    · split <;> simp
theorem ib_ge (l : List UInt8) (c : UInt8) : -1 ≤ Lib.indexByte l c := Lib.indexByte_ge l c
theorem ib_cons (b : UInt8) (l : List UInt8) (c : UInt8) : Lib.indexByte (b :: l) c = if b == c then 0 else if Lib.indexByte l c == -1 then -1 else Lib.indexByte l c + 1 := by
  rw [Lib.indexByte]
theorem split_none : ∀ s : List UInt8, Lib.indexByte s 47 < 0 → splitF s = [s]
  | [], _ => rfl
  | c :: t, h => by
    rw [ib_cons] at h
    have hg := ib_ge t 47
    by_cases hc : c = 47
    · subst hc; simp at h
    · rw [if_neg (by simpa using hc)] at h
      have h2 : Lib.indexByte t 47 < 0 := by
        split at h
        · rename_i e; have := beq_iff_eq.1 e; omega
        · rename_i e; have : ¬ Lib.indexByte t 47 = -1 := fun e' => e (by rw [e']; rfl)
          omega
      unfold splitF
      rw [if_neg hc, split_none t h2]
theorem split_some : ∀ (s : List UInt8) (i : Nat), Lib.indexByte s 47 = (i : Int) → i < s.length ∧ splitF s = s.take i :: splitF (s.drop (i + 1))
  | [], i, h => by
    exfalso
    have h' : (-1 : Int) = (i : Int) := h
    omega
  | c :: t, i, h => by
    rw [ib_cons] at h
    have hg := ib_ge t 47
    by_cases hc : c = 47
    · subst hc
      rw [if_pos (by simp)] at h
      obtain rfl : i = 0 := by omega
      exact ⟨by simp, by rw [splitF_cons, if_pos rfl]; rfl⟩
    · rw [if_neg (by simpa using hc)] at h
      by_cases e : Lib.indexByte t 47 = -1
      · rw [if_pos (by rw [e]; rfl)] at h; omega
      · rw [if_neg (by simpa using e)] at h
        obtain ⟨j, rfl⟩ : ∃ j, i = j + 1 := ⟨i - 1, by omega⟩
        obtain ⟨h1, h2⟩ := split_some t j (by omega)
        refine ⟨by simp; omega, ?_⟩
        rw [splitF_cons, if_neg hc, h2]
        rfl
theorem sidx_sp (l : List UInt8) : Spec Tryz.prog 81 [.string (sOf l), .string (sOf [47])] [] fun v give => v = .int .i64 (Lib.indexByte l 47) ∧ give = [] := by
  refine Spec.intro Tryz.func81 rfl Tryz.ntmps81 rfl fun w0 rest rs_ hrs_ => ?_
  simp only [List.cons_append, List.nil_append] at hrs_
  subst hrs_
  by_cases h : [47] = l
  · have e : Lib.indexByte l 47 = 0 := by rw [← h]; rfl
    rw [e]
    repeat (first | (apply G.ex (hd := rfl); case h => (first | exact Ex.move rfl | exact Ex.lenO rfl | exact Ex.eqO rfl rfl | exact Ex.eqI rfl rfl | exact Ex.assign rfl | exact Ex.pickLF rfl rfl)) | refine G.yes rfl rfl ?_ | refine G.nil ?_ | refine GC.seq ?_ | refine GC.region ?_ | refine GC.block ?_ | refine GC.ret ?_ | refine GE.then_normal ?_ | refine GE.then_ret ?_ | refine GE.block_ret ?_ | refine GC.cond_yes rfl (by first | assumption | omega) ?_)
    refine GE.ret (by first | exact .inl rfl | exact .inr rfl) (res1 Tryz.results81 rfl) ⟨rfl, rfl⟩ (by repeat first | exact tn_ | apply td_ rfl | apply tc_ | exact .here | apply Take1.there) (by repeat (first | exact Subs.refl | refine Subs.skip ?_))
  · repeat (first | (apply G.ex (hd := rfl); case h => (first | exact Ex.move rfl | exact Ex.lenO rfl | exact Ex.eqO rfl rfl | exact Ex.eqI rfl rfl | exact Ex.assign rfl | exact Ex.pickLF rfl rfl)) | refine G.yes rfl rfl ?_ | refine G.nil ?_ | refine GC.seq ?_ | refine GC.region ?_ | refine GC.block ?_ | refine GE.then_normal ?_ | refine GC.cond_no rfl (by first | assumption | omega) ?_ | refine GC.cond_t rfl ?_)
    refine G.ex (Ex.indexO (l := [47]) (k := 0) rfl rfl (by decide)) rfl ?_
    first | refine G.call (caps := []) (ibs_sp l 47) rfl rfl rfl rfl (by repeat first | exact tn_ | apply td_ rfl | apply tc_ | exact .here | apply Take1.there) ?_ | refine G.callU (caps := []) (ibs_sp l 47) rfl rfl rfl (by repeat first | exact tn_ | apply td_ rfl | apply tc_ | exact .here | apply Take1.there) ?_
    rintro v_ give_ ⟨rfl, rfl⟩ rs_ hrs_
    simp only [List.cons_append, List.nil_append] at hrs_
    subst hrs_
    repeat (first | (apply G.ex (hd := rfl); case h => (first | exact Ex.assign rfl)) | refine G.nil ?_ | refine GC.ret ?_ | refine GE.then_normal ?_ | refine GE.then_ret ?_ | refine GE.block_ret ?_)
    refine GE.ret (by first | exact .inl rfl | exact .inr rfl) (res1 Tryz.results81 rfl) ⟨rfl, rfl⟩ (by repeat first | exact tn_ | apply td_ rfl | apply tc_ | exact .here | apply Take1.there) (by repeat (first | exact Subs.refl | refine Subs.skip ?_))
theorem idx1_sp (l : List UInt8) : Spec Tryz.prog 64 [.string (sOf l), .string (sOf [47])] [] fun v give => v = .int .i64 (Lib.indexByte l 47) ∧ give = [] := by
  refine Spec.intro Tryz.func64 rfl Tryz.ntmps64 rfl fun w0 rest rs_ hrs_ => ?_
  simp only [List.cons_append, List.nil_append] at hrs_
  subst hrs_
  repeat (first | (apply G.ex (hd := rfl); case h => (first | exact Ex.move rfl | exact Ex.assign rfl)) | refine G.nil ?_ | refine GC.seq ?_ | refine GC.region ?_ | refine GE.then_normal ?_)
  first | refine G.call (caps := []) (sidx_sp l) rfl rfl rfl rfl (by repeat first | exact tn_ | apply td_ rfl | apply tc_ | exact .here | apply Take1.there) ?_ | refine G.callU (caps := []) (sidx_sp l) rfl rfl rfl (by repeat first | exact tn_ | apply td_ rfl | apply tc_ | exact .here | apply Take1.there) ?_
  rintro v_ give_ ⟨rfl, rfl⟩ rs_ hrs_
  simp only [List.cons_append, List.nil_append] at hrs_
  subst hrs_
  repeat (first | (apply G.ex (hd := rfl); case h => (first | exact Ex.assign rfl)) | refine G.nil ?_ | refine GC.ret ?_ | refine GE.then_normal ?_)
  refine GE.ret (by first | exact .inl rfl | exact .inr rfl) (res1 Tryz.results64 rfl) ⟨rfl, rfl⟩ (by repeat first | exact tn_ | apply td_ rfl | apply tc_ | exact .here | apply Take1.there) (by repeat (first | exact Subs.refl | refine Subs.skip ?_))
theorem splitq_sp (s : List UInt8) : Spec Tryz.prog 47 [.string (sOf s), .string (sOf [47])] [] fun v give => ∃ pb sb kb, v = .func (.func 62) #[] #[.pointer (some (badr pb 0)), .pointer (some (badr sb 0)), .pointer (some (badr kb 0))] ∧
    give = [.blk pb 9 [.string (sOf [47])], .blk sb 9 [.string (sOf s)], .blk kb 3 [.int .i64 0]] := by
  have h : Spec Tryz.prog 55 [.string (sOf s), .string (sOf [47]), .int .i64 0] [] fun v give => ∃ pb sb kb, v = .func (.func 62) #[] #[.pointer (some (badr pb 0)), .pointer (some (badr sb 0)), .pointer (some (badr kb 0))] ∧
      give = [.blk pb 9 [.string (sOf [47])], .blk sb 9 [.string (sOf s)], .blk kb 3 [.int .i64 0]] := by
    refine Spec.intro Tryz.func55 rfl Tryz.ntmps55 rfl fun w0 rest rs_ hrs_ => ?_
    simp only [List.cons_append, List.nil_append] at hrs_
    subst hrs_
    repeat (first | refine GC.seq ?_ | refine GC.region ?_)
    refine G.box rfl rfl rfl (fun sb => ?_)
    refine G.box rfl rfl rfl (fun pb => ?_)
    refine G.box rfl rfl rfl (fun kb => ?_)
    repeat (first | (apply G.ex (hd := rfl); case h => (first | exact Ex.assign rfl | exact Ex.mkFunc rfl)) | refine G.nil ?_ | refine GC.seq ?_ | refine GC.region ?_ | refine GC.ret ?_ | refine GE.then_normal ?_)
    refine GE.ret (by first | exact .inl rfl | exact .inr rfl) (res1 Tryz.results55 rfl) ⟨_, _, _, rfl, rfl⟩ (by repeat first | exact tn_ | apply td_ rfl | apply tc_ | exact .here | apply Take1.there) (by repeat (first | exact Subs.refl | refine Subs.skip ?_))
  refine Spec.intro Tryz.func47 rfl Tryz.ntmps47 rfl fun w0 rest rs_ hrs_ => ?_
  simp only [List.cons_append, List.nil_append] at hrs_
  subst hrs_
  repeat (first | (apply G.ex (hd := rfl); case h => (first | exact Ex.move rfl | exact Ex.assign rfl)) | refine G.nil ?_ | refine GC.seq ?_ | refine GC.region ?_ | refine GE.then_normal ?_)
  first | refine G.call (caps := []) (h) rfl rfl rfl rfl (by repeat first | exact tn_ | apply td_ rfl | apply tc_ | exact .here | apply Take1.there) ?_ | refine G.callU (caps := []) (h) rfl rfl rfl (by repeat first | exact tn_ | apply td_ rfl | apply tc_ | exact .here | apply Take1.there) ?_
  rintro v_ give_ ⟨pb, sb, kb, rfl, rfl⟩ rs_ hrs_
  simp only [List.cons_append, List.nil_append] at hrs_
  subst hrs_
  repeat (first | (apply G.ex (hd := rfl); case h => (first | exact Ex.assign rfl)) | refine G.nil ?_ | refine GC.ret ?_ | refine GE.then_normal ?_)
  refine GE.ret (by first | exact .inl rfl | exact .inr rfl) (res1 Tryz.results47 rfl) ⟨_, _, _, rfl, rfl⟩ (by repeat first | exact tn_ | apply td_ rfl | apply tc_ | exact .here | apply Take1.there) (by repeat (first | exact Subs.refl | refine Subs.skip ?_))
set_option maxHeartbeats 2000000 in
theorem split1_sp (s : List UInt8) (hs : s.length ≤ 1000000) (pb sb kb yl : Nat) (rec_ : Loop) {κ ι' : Type} (φ : Nat → κ → Prop) (ψ : ι' → Prop) (rsI : κ → List Res) (rsS : ι' → List Res)
    (hY : ∀ k i, k < (splitF s).length → φ k i → YSpec Tryz.prog yl [.string (sOf ((splitF s).getD k []))] (.own (LoopR yl rec_) :: rsI i) (RPost yl rec_ (fun g => ∃ j, φ (k + 1) j ∧ g = rsI j) (fun g => ∃ j, ψ j ∧ g = rsS j))) (i0 : κ) (h0 : φ 0 i0) :
    Spec Tryz.prog 62 [.func (.yield yl) #[] #[], .pointer (some (badr pb 0)), .pointer (some (badr sb 0)), .pointer (some (badr kb 0))] (.own (LoopR yl rec_) :: .blk pb 9 [.string (sOf [47])] :: .blk sb 9 [.string (sOf s)] :: .blk kb 3 [.int .i64 0] :: rsI i0)
      fun v give => (∃ g, (∃ j, φ (splitF s).length j ∧ g = rsI j) ∧ give = .own (LoopR yl rec_) :: g) ∨ (∃ g, (∃ j, ψ j ∧ g = rsS j) ∧ give = .own (LoopR yl (outOf rec_)) :: g) := by
  refine Spec.intro Tryz.func62 rfl Tryz.ntmps62 rfl fun w0 rest rs_ hrs_ => ?_
  simp only [List.cons_append, List.nil_append] at hrs_
  subst hrs_
  repeat (first | (apply G.ex (hd := rfl); case h => (first | exact Ex.lenO rfl | exact Ex.loadB rfl rfl | exact Ex.eqI rfl rfl)) | refine G.nil ?_ | refine GC.seq ?_ | refine GC.region ?_ | refine GC.block ?_ | refine GC.skip ?_ | refine GE.then_normal ?_ | refine GC.cond_f rfl ?_)
  refine GC.loop (ι := Nat × List UInt8 × κ) (fun x => x.1 < (splitF s).length ∧ (splitF s).drop x.1 = splitF x.2.1 ∧ x.2.1.length ≤ s.length ∧ φ x.1 x.2.2) (fun x => (splitF s).length - x.1) (fun x => [(0, .func (.yield yl) #[] #[]), (1, .pointer (some (badr pb 0))), (2, .pointer (some (badr sb 0))), (3, .pointer (some (badr kb 0)))]) (fun x => .own (LoopR yl rec_) :: .blk pb 9 [.string (sOf [47])] :: .blk sb 9 [.string (sOf x.2.1)] :: .blk kb 3 [.int .i64 0] :: rsI x.2.2) (0, s, i0) ⟨List.length_pos_iff.2 (splitF_ne s), rfl, Nat.le_refl _, h0⟩ (by simp only [fits]; repeat (first | exact trivial | refine And.intro rfl ?_)) (Takes.cons .here (.cons .here (.cons .here (.cons .here Takes.app)))) ?_
  rintro ⟨k, d, i⟩ ⟨hk, he, hd, hi⟩ fr_ rs_ hfr_ hrs_
  simp only [List.cons_append, List.nil_append] at hfr_ hrs_
  subst hfr_ hrs_
  simp only at hk he hd hi
  repeat (first | (apply G.ex (hd := rfl); case h => (first | exact Ex.loadB rfl rfl)) | refine GC.seq ?_ | refine GC.region ?_ | refine GC.block ?_)
  first | refine G.call (caps := []) (idx1_sp d) rfl rfl rfl rfl (by repeat first | exact tn_ | apply td_ rfl | apply tc_ | exact .here | apply Take1.there) ?_ | refine G.callU (caps := []) (idx1_sp d) rfl rfl rfl (by repeat first | exact tn_ | apply td_ rfl | apply tc_ | exact .here | apply Take1.there) ?_
  rintro v_ give_ ⟨rfl, rfl⟩ rs_ hrs_
  simp only [List.cons_append, List.nil_append] at hrs_
  subst hrs_
  have hge := ib_ge d 47
  have hget : (splitF s).getD k [] = (splitF d).getD 0 [] := by
    rw [← he, List.getD_eq_getElem?_getD, List.getD_eq_getElem?_getD, List.getElem?_drop]; rfl
  by_cases h1 : Lib.indexByte d 47 < 0
  · have hsd := split_none d h1
    rw [hsd] at hget he
    have hgd : (splitF s).getD k [] = d := hget
    have hk1 : k + 1 = (splitF s).length := by
      have := congrArg List.length he
      rw [List.length_drop] at this
      simp at this; omega
    have hYk := hY k i hk hi
    rw [hgd] at hYk
    repeat ((fail_if_success (refine GC.region (id := 10) ?_)); first | (apply G.ex (hd := rfl); case h => (first | exact Ex.move rfl | exact Ex.lss rfl rfl | exact Ex.assign rfl)) | refine G.nil ?_ | refine GC.seq ?_ | refine GC.region ?_ | refine GC.exit ?_ | refine GE.then_normal ?_ | refine GE.then_exit ?_ | refine GE.block_hit ?_ | refine GE.block_miss rfl ?_ | refine GC.cond_yes rfl (by first | assumption | omega) ?_)
    refine GC.regionYk 2 rfl rfl ?_
    repeat (first | (apply G.ex (hd := rfl); case h => (first | exact Ex.move rfl | exact Ex.loadB rfl rfl)) | refine G.nil ?_)
    refine GE.yield hYk rfl rfl rfl (Takes.cons .here (Takes.deep (Takes.deep (Takes.deep Takes.app)))) ?_
    rintro v_ give_ (⟨rfl, g, ⟨j, hj, rfl⟩, rfl⟩ | ⟨rfl, g, ⟨j, hj, rfl⟩, rfl⟩) rs_ hrs_
    · simp only [List.cons_append, List.nil_append] at hrs_
      subst hrs_
      refine GE.on rfl ?_
      repeat (first | refine G.nil ?_)
      refine GE.nrm ?_
      rw [hk1] at hj
      refine GE.ret (by first | exact .inl rfl | exact .inr rfl) (res0 Tryz.results62) (.inl ⟨_, ⟨j, hj, rfl⟩, rfl⟩) (Takes.cons .here Takes.app) (.skip (.skip (.skip .refl)))
    · simp only [List.cons_append, List.nil_append] at hrs_
      subst hrs_
      refine GE.on rfl ?_
      repeat (first | refine G.nil ?_)
      refine GE.nrm ?_
      refine GE.ret (by first | exact .inl rfl | exact .inr rfl) (res0 Tryz.results62) (.inr ⟨_, ⟨j, hj, rfl⟩, rfl⟩) (Takes.cons .here Takes.app) (.skip (.skip (.skip .refl)))
  · obtain ⟨j, hj⟩ : ∃ j : Nat, Lib.indexByte d 47 = (j : Int) := ⟨(Lib.indexByte d 47).toNat, by omega⟩
    obtain ⟨hjl, hsd⟩ := split_some d j hj
    rw [hsd] at hget he
    have hgd : (splitF s).getD k [] = d.take j := hget
    have he2 : (splitF s).drop (k + 1) = splitF (d.drop (j + 1)) := by
      have := congrArg List.tail he
      rwa [List.tail_drop] at this
    have hk1 : k + 1 < (splitF s).length := by
      have := congrArg List.length he2
      rw [List.length_drop] at this
      have h2 := List.length_pos_iff.2 (splitF_ne (d.drop (j + 1)))
      omega
    have hYk := hY k i hk hi
    rw [hgd] at hYk
    rw [hj] at h1 ⊢
    repeat ((fail_if_success (refine GC.region (id := 7) ?_)); first | (apply G.ex (hd := rfl); case h => (first | exact Ex.move rfl | exact Ex.lss rfl rfl | exact Ex.assign rfl)) | refine G.nil ?_ | refine GC.seq ?_ | refine GC.region ?_ | refine GC.skip ?_ | refine GE.then_normal ?_ | refine GC.cond_no rfl (by first | assumption | omega) ?_)
    refine GC.region ?_
    iterate 4 (first | (apply G.ex (hd := rfl); case h => (first | exact Ex.move rfl | exact Ex.loadB rfl rfl | exact Ex.add rfl rfl (by omega))))
    rw [Int.add_zero]
    repeat ((fail_if_success (refine GC.region (id := 8) ?_)); first | (apply G.ex (hd := rfl); case h => (first | exact Ex.subHi rfl rfl (by omega) | exact Ex.assign rfl)) | refine G.nil ?_ | refine GC.seq ?_ | refine GE.then_normal ?_)
    refine GC.regionYk 2 rfl rfl ?_
    repeat (first | (apply G.ex (hd := rfl); case h => (first | exact Ex.move rfl)) | refine G.nil ?_)
    refine GE.yield hYk rfl rfl rfl (Takes.cons .here (Takes.deep (Takes.deep (Takes.deep Takes.app)))) ?_
    rintro v_ give_ (⟨rfl, g, ⟨j2, hj2, rfl⟩, rfl⟩ | ⟨rfl, g, ⟨j2, hj2, rfl⟩, rfl⟩) rs_ hrs_
    · simp only [List.cons_append, List.nil_append] at hrs_
      subst hrs_
      refine GE.on rfl ?_
      have htt : ¬ ¬ true = true := fun h => h rfl
      repeat (first | (apply G.ex (hd := rfl); case h => (first | exact Ex.notB rfl)) | refine G.nil ?_)
      refine GE.nrm ?_
      repeat ((fail_if_success (refine GC.region (id := 9) ?_)); first | refine GC.skip ?_ | refine GE.then_normal ?_ | refine GC.cond_no rfl (by first | assumption | omega) ?_)
      refine GC.conv (rs' := _) (fun w_ H_ => H_.take (need := [.own (LoopR yl rec_), .blk pb 9 [.string (sOf [47])], .blk sb 9 [.string (sOf d)], .blk kb 3 [.int .i64 0]]) (.cons .here (.cons .mid (.cons .mid (.cons .mid .nil))))) ?_
      simp only [List.append_eq, List.cons_append, List.nil_append]
      refine GC.region ?_
      iterate 4 (first | (apply G.ex (hd := rfl); case h => (first | exact Ex.move rfl | exact Ex.lenO rfl | exact Ex.loadB rfl rfl)))
      refine G.ex (Ex.add rfl rfl (by simp; omega)) rfl ?_
      rw [show (j : Int) + ((([47] : List UInt8).length : Nat) : Int) = ((j + 1 : Nat) : Int) by simp]
      refine G.ex (Ex.subLo (l := d) (a := j + 1) rfl rfl (by omega)) rfl ?_
      repeat (first | refine G.storeB rfl rfl rfl rfl rfl ?_ | refine G.nil ?_ | refine GE.block_normal ?_)
      refine GE.loop (k + 1, d.drop (j + 1), j2) ⟨hk1, he2, by simp only [List.length_drop]; omega, hj2⟩ (by simp only; omega) (by simp only [fits]; repeat (first | exact trivial | refine And.intro rfl ?_)) (Takes.cons .here (.cons .here (.cons .here (.cons .here Takes.app)))) .refl
    · simp only [List.cons_append, List.nil_append] at hrs_
      subst hrs_
      refine GE.on rfl ?_
      have hff : ¬ false = true := fun h => nomatch h
      repeat (first | (apply G.ex (hd := rfl); case h => (first | exact Ex.notB rfl)) | refine G.nil ?_)
      refine GE.nrm ?_
      repeat (first | refine GC.ret ?_ | refine GE.then_normal ?_ | refine GE.then_ret ?_ | refine GE.block_ret ?_ | refine GC.cond_yes rfl (by first | assumption | omega) ?_)
      refine GE.ret (by first | exact .inl rfl | exact .inr rfl) (res0 Tryz.results62) (.inr ⟨_, ⟨j2, hj2, rfl⟩, rfl⟩) (Takes.cons .here Takes.app) (.skip (.skip (.skip .refl)))
end path
end Go.Proofs.YtmceappjldcbmaaGreatDoor
/-
  CONTRACTS of package path: walk, Clean, Follow, fault, by the kit.
-/
namespace Go.Proofs.YtmceappjldcbmaaGreatDoor
open Go.RowKit
attribute [local irreducible] Ex G GC GE Gq FPost LPost
set_option linter.unusedVariables false
set_option linter.unusedSimpArgs false
namespace path
theorem cloneS_sp (r : Res) (ao : Option Addr) (n c : Nat) (l : List (List UInt8)) [hr : RdR r ao n c 1 (flat eO l)] (hl : l.length = n) (hn : n ≤ 1000000) :
    Spec Tryz.prog 46 [.slice ao n c] [r] fun v give => ∃ ao' c', v = .slice ao' n c' ∧ give = [.vec 9 1 ao' n c' (flat eO l), r] := by
  refine Spec.intro Tryz.func46 rfl Tryz.ntmps46 rfl fun w0 rest rs_ hrs_ => ?_
  simp only [List.cons_append, List.nil_append] at hrs_
  subst hrs_
  repeat (first | (apply G.ex (hd := rfl); case h => (first | exact Ex.move rfl | exact Ex.assign rfl | exact Ex.eqNil rfl rfl)) | refine G.nil ?_ | refine GC.seq ?_ | refine GC.region ?_ | refine GE.then_normal ?_)
  refine GC.cond_dec rfl (fun h => ?_) (fun h => ?_)
  · subst h
    refine GC.nilLen (m := n) (c := c) fun h1 h2 h3 => ?_
    subst h1 h2
    rw [h3]
    first | refine G.nilvec 9 1 ?_ | refine GC.nilvec 9 1 ?_
    repeat (first | (apply G.ex (hd := rfl); case h => (first | exact Ex.assign rfl)) | refine G.nil ?_ | refine GC.seq ?_ | refine GC.region ?_ | refine GC.ret ?_ | refine GE.then_normal ?_ | refine GE.then_ret ?_)
    refine GE.ret (by first | exact .inl rfl | exact .inr rfl) (res1 Tryz.results46 rfl) ⟨_, _, rfl, rfl⟩ (by repeat first | exact tn_ | apply td_ rfl | apply tc_ | exact .here | apply Take1.there) (by repeat (first | exact Subs.refl | refine Subs.skip ?_))
  · repeat (first | refine GC.seq ?_ | refine GC.region ?_ | refine GC.skip ?_ | refine GE.then_normal ?_)
    refine G.lit rfl (by rfl) (by rfl) (by rfl) (by rfl) (by rfl) (by rfl) rfl (fun q => ?_)
    repeat (first | (apply G.ex (hd := rfl); case h => (first | exact Ex.move rfl)))
    refine G.app rfl rfl (by rfl) (by omega) rfl (rfl) (fun a2 c2 rs_ hrs_ => ?_)
    try simp only at hrs_
    subst hrs_
    simp only [Nat.zero_add, List.nil_append]
    repeat (first | (apply G.ex (hd := rfl); case h => (first | exact Ex.assign rfl)) | refine G.nil ?_ | refine GC.ret ?_ | refine GE.then_normal ?_)
    refine GE.ret (by first | exact .inl rfl | exact .inr rfl) (res1 Tryz.results46 rfl) ⟨_, _, rfl, rfl⟩ (by repeat first | exact tn_ | apply td_ rfl | apply tc_ | exact .here | apply Take1.there) (by repeat (first | exact Subs.refl | refine Subs.skip ?_))
theorem getDm {α : Type} [Inhabited α] (l : List α) (k : Nat) (h : k < l.length) : l.getD k default ∈ l := by
  rw [List.getD_eq_getElem?_getD, List.getElem?_eq_getElem h]; exact List.getElem_mem h
set_option maxHeartbeats 1000000 in
theorem idxn_sp (f : FuncId) [hF : Fun Tryz.prog f] (hf : ∀ l : List UInt8, l.length ≤ 1000000 → Spec Tryz.prog f [.string (sOf l)] [] fun v give => v = .bool (decide (¬ NameOk l)) ∧ give = [])
    (r : Res) (ao : Option Addr) (n c : Nat) (l : List (List UInt8)) [hr : RdR r ao n c 1 (flat eO l)] (hl : l.length = n) (hn : n ≤ 1000000) (hs : ∀ s ∈ l, s.length ≤ 1000000) :
    Spec Tryz.prog 86 [.slice ao n c, .func (.func f) #[] #[]] [r] fun v give => ∃ k : Int, v = .int .i64 k ∧ (0 ≤ k ↔ ∃ s ∈ l, ¬ NameOk s) ∧ give = [r] := by
  refine Spec.intro Tryz.func86 rfl Tryz.ntmps86 rfl fun w0 rest rs_ hrs_ => ?_
  simp only [List.cons_append, List.nil_append] at hrs_
  subst hrs_
  repeat (first | (apply G.ex (hd := rfl); case h => (first | exact Ex.move rfl | exact Ex.lenSl rfl | exact Ex.assign rfl)) | refine G.nil ?_ | refine GC.seq ?_ | refine GC.region ?_ | refine GC.block ?_ | refine GE.then_normal ?_)
  refine GC.loop (ι := Nat) (fun k => k ≤ n ∧ ∀ s ∈ l.take k, NameOk s) (fun k => n - k) (fun k => [(0, .slice ao n c), (1, .func (.func f) #[] #[]), (6, .slice ao n c), (7, .int .i64 (n : Int)), (8, .int .i64 (k : Int))]) (fun k => [r]) 0 ⟨Nat.zero_le _, fun s hs => nomatch hs⟩ (by simp only [fits]; repeat (first | exact trivial | refine And.intro rfl ?_)) (by repeat first | exact tn_ | apply td_ rfl | apply tc_ | exact .here | apply Take1.there) ?_
  rintro k ⟨hk, hd⟩ fr_ rs_ hfr_ hrs_
  simp only [List.cons_append, List.nil_append] at hfr_ hrs_
  subst hfr_ hrs_
  repeat (first | (apply G.ex (hd := rfl); case h => (first | exact Ex.lss rfl rfl)) | refine G.nil ?_ | refine GC.seq ?_ | refine GC.region ?_ | refine GE.then_normal ?_)
  refine GC.cond_dec rfl (fun hlt => ?_) (fun hlt => ?_)
  · have hlt : k < n := by omega
    have hmem := getDm l k (by omega)
    repeat (first | (apply G.ex (hd := rfl); case h => (first | exact Ex.move rfl | exact Ex.indexN rfl rfl (by first | omega | (simp; done) | (simp; omega)) | exact Ex.loadT0 rfl (by first | omega | (simp; done) | (simp; omega)) rfl | exact Ex.assign rfl)) | refine G.nil ?_ | refine GC.seq ?_ | refine GC.region ?_ | refine GC.block ?_ | refine GC.skip ?_ | refine GE.then_normal ?_)
    first | refine G.call (caps := []) (hf (l.getD k default) (hs _ hmem)) rfl rfl rfl rfl (by repeat first | exact tn_ | apply td_ rfl | apply tc_ | exact .here | apply Take1.there) ?_ | refine G.callU (caps := []) (hf (l.getD k default) (hs _ hmem)) rfl rfl rfl (by repeat first | exact tn_ | apply td_ rfl | apply tc_ | exact .here | apply Take1.there) ?_
    rintro v_ give_ ⟨rfl, rfl⟩ rs_ hrs_
    simp only [List.cons_append, List.nil_append] at hrs_
    subst hrs_
    by_cases hok : NameOk (l.getD k default)
    · have hok' : ¬ ¬ NameOk (l.getD k default) := fun h => h hok
      have hd2 : ∀ s ∈ l.take (k + 1), NameOk s := fun s hs' => by
        rw [List.take_succ_eq_append_getElem (by omega)] at hs'
        rcases List.mem_append.1 hs' with h | h
        · exact hd s h
        · rw [List.mem_singleton] at h; rw [h]
          rw [List.getD_eq_getElem?_getD, List.getElem?_eq_getElem (by omega)] at hok
          exact hok
      repeat (first | (apply G.ex (hd := rfl); case h => (first | exact Ex.move rfl | exact Ex.add rfl rfl (by omega))) | refine G.nil ?_ | refine GC.region ?_ | refine GC.skip ?_ | refine GE.then_normal ?_ | refine GE.block_normal ?_ | refine GC.cond_no rfl (by first | assumption | omega) ?_)
      refine GE.loop (k + 1) ⟨by omega, hd2⟩ (by omega) (by simp only [fits]; repeat (first | exact trivial | refine And.intro rfl ?_)) (by repeat first | exact tn_ | apply td_ rfl | apply tc_ | exact .here | apply Take1.there) (by repeat (first | exact Subs.refl | refine Subs.skip ?_))
    · repeat (first | (apply G.ex (hd := rfl); case h => (first | exact Ex.move rfl | exact Ex.assign rfl)) | refine G.nil ?_ | refine GC.seq ?_ | refine GC.region ?_ | refine GC.ret ?_ | refine GE.then_normal ?_ | refine GE.then_ret ?_ | refine GE.block_ret ?_ | refine GC.cond_yes rfl (by first | assumption | omega) ?_)
      refine GE.ret (by first | exact .inl rfl | exact .inr rfl) (res1 Tryz.results86 rfl) ⟨(k : Int), rfl, ⟨fun _ => ⟨_, hmem, hok⟩, fun _ => by omega⟩, rfl⟩ (by repeat first | exact tn_ | apply td_ rfl | apply tc_ | exact .here | apply Take1.there) (by repeat (first | exact Subs.refl | refine Subs.skip ?_))
  · repeat (first | (apply G.ex (hd := rfl); case h => (first | exact Ex.assign rfl)) | refine G.nil ?_ | refine GC.seq ?_ | refine GC.region ?_ | refine GC.ret ?_ | refine GC.exit ?_ | refine GE.then_normal ?_ | refine GE.then_exit ?_ | refine GE.block_hit ?_)
    refine GE.ret (by first | exact .inl rfl | exact .inr rfl) (res1 Tryz.results86 rfl) ⟨-1, rfl, ⟨fun h => absurd h (by decide), fun ⟨s, hs', hn'⟩ => absurd (hd s (by rw [List.take_of_length_le (by omega)]; exact hs')) hn'⟩, rfl⟩ (by repeat first | exact tn_ | apply td_ rfl | apply tc_ | exact .here | apply Take1.there) (by repeat (first | exact Subs.refl | refine Subs.skip ?_))
theorem contn_sp (f : FuncId) [hF : Fun Tryz.prog f] (hf : ∀ l : List UInt8, l.length ≤ 1000000 → Spec Tryz.prog f [.string (sOf l)] [] fun v give => v = .bool (decide (¬ NameOk l)) ∧ give = [])
    (r : Res) (ao : Option Addr) (n c : Nat) (l : List (List UInt8)) [hr : RdR r ao n c 1 (flat eO l)] (hl : l.length = n) (hn : n ≤ 1000000) (hs : ∀ s ∈ l, s.length ≤ 1000000) :
    Spec Tryz.prog 66 [.slice ao n c, .func (.func f) #[] #[]] [r] fun v give => v = .bool (decide (∃ s ∈ l, ¬ NameOk s)) ∧ give = [r] := by
  refine Spec.intro Tryz.func66 rfl Tryz.ntmps66 rfl fun w0 rest rs_ hrs_ => ?_
  simp only [List.cons_append, List.nil_append] at hrs_
  subst hrs_
  repeat (first | (apply G.ex (hd := rfl); case h => (first | exact Ex.move rfl | exact Ex.assign rfl)) | refine G.nil ?_ | refine GC.seq ?_ | refine GC.region ?_ | refine GE.then_normal ?_)
  first | refine G.call (caps := []) (idxn_sp f hf r ao n c l hl hn hs) rfl rfl rfl rfl (by repeat first | exact tn_ | apply td_ rfl | apply tc_ | exact .here | apply Take1.there) ?_ | refine G.callU (caps := []) (idxn_sp f hf r ao n c l hl hn hs) rfl rfl rfl (by repeat first | exact tn_ | apply td_ rfl | apply tc_ | exact .here | apply Take1.there) ?_
  rintro v_ give_ ⟨k, rfl, hk, rfl⟩ rs_ hrs_
  simp only [List.cons_append, List.nil_append] at hrs_
  subst hrs_
  repeat (first | (apply G.ex (hd := rfl); case h => (first | exact Ex.geq rfl rfl | exact Ex.assign rfl)) | refine G.nil ?_ | refine GC.ret ?_ | refine GE.then_normal ?_)
  refine GE.ret (by first | exact .inl rfl | exact .inr rfl) (res1 Tryz.results66 rfl) ⟨congrArg Value.bool (decide_eq_decide.2 hk), rfl⟩ (by repeat first | exact tn_ | apply td_ rfl | apply tc_ | exact .here | apply Take1.there) (by repeat (first | exact Subs.refl | refine Subs.skip ?_))
theorem badn_sp (l : List UInt8) (hl : l.length ≤ 1000000) : Spec Tryz.prog 67 [.string (sOf l)] [] fun v give => v = .bool (decide (¬ NameOk l)) ∧ give = [] := by
  refine Spec.intro Tryz.func67 rfl Tryz.ntmps67 rfl fun w0 rest rs_ hrs_ => ?_
  simp only [List.cons_append, List.nil_append] at hrs_
  subst hrs_
  repeat (first | (apply G.ex (hd := rfl); case h => (first | exact Ex.move rfl | exact Ex.assign rfl)) | refine G.nil ?_ | refine GC.seq ?_ | refine GC.region ?_ | refine GE.then_normal ?_)
  first | refine G.call (caps := []) (name_sp l hl) rfl rfl rfl rfl (by repeat first | exact tn_ | apply td_ rfl | apply tc_ | exact .here | apply Take1.there) ?_ | refine G.callU (caps := []) (name_sp l hl) rfl rfl rfl (by repeat first | exact tn_ | apply td_ rfl | apply tc_ | exact .here | apply Take1.there) ?_
  rintro v_ give_ ⟨rfl, rfl⟩ rs_ hrs_
  simp only [List.cons_append, List.nil_append] at hrs_
  subst hrs_
  repeat (first | (apply G.ex (hd := rfl); case h => (first | exact Ex.assign rfl | exact Ex.notD rfl)) | refine G.nil ?_ | refine GC.ret ?_ | refine GE.then_normal ?_)
  refine GE.ret (by first | exact .inl rfl | exact .inr rfl) (res1 Tryz.results67 rfl) ⟨rfl, rfl⟩ (by repeat first | exact tn_ | apply td_ rfl | apply tc_ | exact .here | apply Take1.there) (by repeat (first | exact Subs.refl | refine Subs.skip ?_))
def faultN (l : List (List UInt8)) : Int := if 12 < l.length then 9 else if ∃ s ∈ l, ¬ NameOk s then 4 else 0
theorem faultN_sp (r : Res) (ao : Option Addr) (n c : Nat) (l : List (List UInt8)) [hr : RdR r ao n c 1 (flat eO l)] (hl : l.length = n) (hn : n ≤ 1000000) (hs : ∀ s ∈ l, s.length ≤ 1000000) :
    Spec Tryz.prog 57 [.slice ao n c] [r] fun v give => v = .int .i64 (faultN l) ∧ give = [r] := by
  subst hl
  refine Spec.intro Tryz.func57 rfl Tryz.ntmps57 rfl fun w0 rest rs_ hrs_ => ?_
  simp only [List.cons_append, List.nil_append] at hrs_
  subst hrs_
  repeat (first | (apply G.ex (hd := rfl); case h => (first | exact Ex.move rfl | exact Ex.gtr rfl rfl | exact Ex.lenSl rfl | exact Ex.assign rfl)) | refine G.nil ?_ | refine GC.seq ?_ | refine GC.region ?_ | refine GC.block ?_ | refine GE.then_normal ?_)
  unfold faultN
  by_cases h1 : 12 < l.length
  · rw [if_pos h1]
    repeat (first | (apply G.ex (hd := rfl); case h => (first | exact Ex.assign rfl)) | refine G.nil ?_ | refine GC.seq ?_ | refine GC.region ?_ | refine GC.ret ?_ | refine GE.then_normal ?_ | refine GE.then_ret ?_ | refine GE.block_ret ?_ | refine GC.cond_yes rfl (by first | assumption | omega) ?_)
    refine GE.ret (by first | exact .inl rfl | exact .inr rfl) (res1 Tryz.results57 rfl) ⟨rfl, rfl⟩ (by repeat first | exact tn_ | apply td_ rfl | apply tc_ | exact .here | apply Take1.there) (by repeat (first | exact Subs.refl | refine Subs.skip ?_))
  · rw [if_neg h1]
    repeat (first | (apply G.ex (hd := rfl); case h => (first | exact Ex.move rfl)) | refine GC.seq ?_ | refine GC.region ?_ | refine GC.cond_no rfl (by first | assumption | omega) ?_)
    first | refine G.call (caps := []) (contn_sp 67 badn_sp r ao l.length c l rfl hn hs) rfl rfl rfl rfl (by repeat first | exact tn_ | apply td_ rfl | apply tc_ | exact .here | apply Take1.there) ?_ | refine G.callU (caps := []) (contn_sp 67 badn_sp r ao l.length c l rfl hn hs) rfl rfl rfl (by repeat first | exact tn_ | apply td_ rfl | apply tc_ | exact .here | apply Take1.there) ?_
    rintro v_ give_ ⟨rfl, rfl⟩ rs_ hrs_
    simp only [List.cons_append, List.nil_append] at hrs_
    subst hrs_
    by_cases h2 : ∃ s ∈ l, ¬ NameOk s
    · rw [if_pos h2]
      repeat (first | (apply G.ex (hd := rfl); case h => (first | exact Ex.assign rfl)) | refine G.nil ?_ | refine GC.seq ?_ | refine GC.region ?_ | refine GC.ret ?_ | refine GE.then_normal ?_ | refine GE.then_ret ?_ | refine GE.block_ret ?_ | refine GC.cond_yes rfl (by first | assumption | omega) ?_)
      refine GE.ret (by first | exact .inl rfl | exact .inr rfl) (res1 Tryz.results57 rfl) ⟨rfl, rfl⟩ (by repeat first | exact tn_ | apply td_ rfl | apply tc_ | exact .here | apply Take1.there) (by repeat (first | exact Subs.refl | refine Subs.skip ?_))
    · rw [if_neg h2]
      repeat (first | (apply G.ex (hd := rfl); case h => (first | exact Ex.assign rfl)) | refine G.nil ?_ | refine GC.seq ?_ | refine GC.region ?_ | refine GC.skip ?_ | refine GC.ret ?_ | refine GE.then_normal ?_ | refine GE.block_normal ?_ | refine GC.cond_no rfl (by first | assumption | omega) ?_)
      refine GE.ret (by first | exact .inl rfl | exact .inr rfl) (res1 Tryz.results57 rfl) ⟨rfl, rfl⟩ (by repeat first | exact tn_ | apply td_ rfl | apply tc_ | exact .here | apply Take1.there) (by repeat (first | exact Subs.refl | refine Subs.skip ?_))
/-- the names that parts lead to -/
def goF : List (List UInt8) → List (List UInt8) → List (List UInt8) × Int
  | out, [] => (out, 0)
  | out, p :: t => if p = [] ∨ p = [46] then goF out t else if p = [46, 46] then goF out.dropLast t else if ¬ NameOk p then ([], 4) else if out.length = 12 then ([], 9) else goF (out ++ [p]) t
def walkF (names : List (List UInt8)) (p : List UInt8) : List (List UInt8) × Int := if 200 < p.length then ([], 1) else goF names (splitF p)
theorem split_len (s : List UInt8) : ∀ p ∈ splitF s, p.length ≤ s.length := by
  induction s with
  | nil => intro p hp; simp [splitF] at hp; subst hp; exact Nat.le_refl _
  | cons c t ih =>
    intro p hp
    rw [splitF_cons] at hp
    by_cases hc : c = 47
    · rw [if_pos hc] at hp
      rcases List.mem_cons.1 hp with rfl | hp
      · exact Nat.zero_le _
      · have := ih p hp; simp; omega
    · rw [if_neg hc] at hp
      cases e : splitF t with
      | nil => exact absurd e (splitF_ne t)
      | cons h r =>
        rw [e] at hp
        rcases List.mem_cons.1 hp with rfl | hp
        · have := ih h (by rw [e]; simp); simp; omega
        · have := ih p (by rw [e]; exact List.mem_cons_of_mem _ hp); simp; omega
theorem goF_step (o : List (List UInt8)) (l : List (List UInt8)) (k : Nat) (h : k < l.length) : goF o (l.drop k) = if l.getD k [] = [] ∨ l.getD k [] = [46] then goF o (l.drop (k + 1)) else if l.getD k [] = [46, 46] then goF o.dropLast (l.drop (k + 1)) else if ¬ NameOk (l.getD k []) then ([], 4) else if o.length = 12 then ([], 9) else goF (o ++ [l.getD k []]) (l.drop (k + 1)) := by
  rw [List.drop_eq_getElem_cons h, List.getD_eq_getElem?_getD, List.getElem?_eq_getElem h]; rfl
theorem flat_takeO (k : Nat) : ∀ l : List (List UInt8), (flat eO l).take k = flat eO (l.take k) := by
  induction k with
  | zero => intro l; rfl
  | succ k ih =>
    intro l
    cases l with
    | nil => rfl
    | cons a t => show List.take (k + 1) (.string (sOf a) :: flat eO t) = .string (sOf a) :: flat eO (t.take k); rw [List.take_succ_cons, ih]
theorem cutO (o : List (List UInt8)) : (flat eO o).take ((o.length - 1) * 1) = flat eO o.dropLast := by
  rw [Nat.mul_one, flat_takeO, List.dropLast_eq_take]
theorem subA_zero {ao : Option Addr} {c s : Nat} : subA ao c 0 s = ao := by
  unfold subA; split
  · rfl
  · cases ao with
    | none => rfl
    | some a => simp [Addr.add]
set_option maxHeartbeats 8000000 in
theorem walk_sp (r : Res) (ao : Option Addr) (n c : Nat) (names : List (List UInt8)) [hr : RdR r ao n c 1 (flat eO names)] (hl : names.length = n) (hn : n ≤ 12) (p : List UInt8) (hp : p.length ≤ 9223372036854775807) :
    Spec Tryz.prog 37 [.slice ao n c, .string (sOf p)] [r] fun v give => ∃ oa oc, v = .tuple #[.slice oa (walkF names p).1.length oc, .int .i64 (walkF names p).2] ∧ (walkF names p).1.length ≤ 12 ∧ give = [.vec 9 1 oa (walkF names p).1.length oc (flat eO (walkF names p).1), r] := by
  refine Spec.introM Tryz.func37 rfl Tryz.ntmps37 rfl fun w0 rest rs_ hrs_ => ?_
  simp only [List.cons_append, List.nil_append] at hrs_
  subst hrs_
  repeat (first | refine GC.seq ?_ | refine GC.region ?_)
  refine G.alloc rfl (fun r4 => ?_)
  repeat (first | fail)
  refine G.alloc rfl (fun r5 => ?_)
  by_cases h200 : 200 < p.length
  · have e : walkF names p = ([], 1) := by unfold walkF; rw [if_pos h200]
    rw [e]
    repeat (first | refine G.storeB rfl rfl rfl rfl rfl ?_ | (apply G.ex (hd := rfl); case h => (first | exact Ex.move rfl | exact Ex.lenO rfl | exact Ex.gtr rfl rfl)) | refine G.nil ?_ | refine GC.seq ?_ | refine GC.region ?_ | refine GC.ret ?_ | refine GE.then_normal ?_ | refine GE.then_ret ?_ | refine GC.cond_yes rfl (by first | assumption | omega) ?_)
    refine GE.nilvec 9 1 ?_
    refine GE.retM0 (by first | exact .inl rfl | exact .inr rfl) (resR2 Tryz.results37 (by first | exact RV.cell rfl (eP_len _) | exact RV.cell rfl rfl | exact RV.cell1 rfl) (by first | exact RV.cell rfl (eP_len _) | exact RV.cell rfl rfl | exact RV.cell1 rfl)) ⟨none, 0, rfl, by decide, rfl⟩ (by repeat first | exact tn_ | apply td_ rfl | apply tc_ | exact .here | apply Take1.there) (by repeat (first | exact Subs.refl | refine Subs.skip ?_))
  · have e : walkF names p = goF names (splitF p) := by unfold walkF; rw [if_neg h200]
    rw [e]
    repeat (first | (apply G.ex (hd := rfl); case h => (first | exact Ex.move rfl | exact Ex.lenO rfl | exact Ex.gtr rfl rfl)) | refine G.nil ?_ | refine GC.seq ?_ | refine GC.region ?_ | refine GC.skip ?_ | refine GE.then_normal ?_ | refine GC.cond_no rfl (by first | assumption | omega) ?_)
    first | refine G.call (caps := []) (cloneS_sp r ao n c names hl (by omega)) rfl rfl rfl rfl (by repeat first | exact tn_ | apply td_ rfl | apply tc_ | exact .here | apply Take1.there) ?_ | refine G.callU (caps := []) (cloneS_sp r ao n c names hl (by omega)) rfl rfl rfl (by repeat first | exact tn_ | apply td_ rfl | apply tc_ | exact .here | apply Take1.there) ?_
    rintro v_ give_ ⟨ca, cc, rfl, rfl⟩ rs_ hrs_
    simp only [List.cons_append, List.nil_append] at hrs_
    subst hrs_
    refine G.alloc rfl (fun ob => ?_)
    repeat (first | refine G.storeB rfl rfl rfl rfl rfl ?_ | (apply G.ex (hd := rfl); case h => (first | exact Ex.move rfl)) | refine G.nil ?_ | refine GC.seq ?_ | refine GC.region ?_ | refine GE.then_normal ?_)
    first | refine G.call (caps := []) (splitq_sp p) rfl rfl rfl rfl (by repeat first | exact tn_ | apply td_ rfl | apply tc_ | exact .here | apply Take1.there) ?_ | refine G.callU (caps := []) (splitq_sp p) rfl rfl rfl (by repeat first | exact tn_ | apply td_ rfl | apply tc_ | exact .here | apply Take1.there) ?_
    rintro v_ give_ ⟨pb, sb, kb, rfl, rfl⟩ rs_ hrs_
    simp only [List.cons_append, List.nil_append] at hrs_
    subst hrs_
    repeat (first | refine G.nil ?_ | refine GC.block ?_ | refine GE.then_normal ?_)
    refine GC.rangeFunc2 (caps := [.pointer (some (badr pb 0)), .pointer (some (badr sb 0)), .pointer (some (badr kb 0))]) (need := [.blk pb 9 [.string (sOf [47])], .blk sb 9 [.string (sOf p)], .blk kb 3 [.int .i64 0], .blk ob 43 [.slice ca n cc], .vec 9 1 ca n cc (flat eO names), .blk r4 43 [.slice none 0 0], .blk r5 29 [.int .i64 0]])
      (post := fun _ g => ∃ (o : List (List UInt8)) (oa : Option Addr) (oc : Nat), goF names (splitF p) = (o, 0) ∧ o.length ≤ 12 ∧ g = [.blk ob 43 [.slice oa o.length oc], .vec 9 1 oa o.length oc (flat eO o), .blk r4 43 [.slice none 0 0], .blk r5 29 [.int .i64 0]])
      (stop := fun _ g => ∃ E : Int, goF names (splitF p) = ([], E) ∧ g = [.blk r4 43 [.slice none 0 0], .blk r5 29 [.int .i64 E]]) rfl (fun yl rec_ hst hpn hps hass hbody hfr => ?_) (by repeat (first | exact Takes.nil | apply Takes.dup rfl | apply Takes.cons | exact Take1.here | apply Take1.there)) ?_ ?_
    · have hs := split1_sp p (by omega) pb sb kb yl rec_ (κ := List (List UInt8) × Option Addr × Nat) (ι' := Int) (fun k x => goF names (splitF p) = goF x.1 ((splitF p).drop k) ∧ x.1.length ≤ 12) (fun E => goF names (splitF p) = ([], E))
        (fun x => [.blk ob 43 [.slice x.2.1 x.1.length x.2.2], .vec 9 1 x.2.1 x.1.length x.2.2 (flat eO x.1), .blk r4 43 [.slice none 0 0], .blk r5 29 [.int .i64 0]]) (fun E => [.blk r4 43 [.slice none 0 0], .blk r5 29 [.int .i64 E]]) ?_ (names, ca, cc) ⟨rfl, by rw [hl]; exact hn⟩
      · subst hl
        refine hs.mono ?_
        rintro v give (⟨g, ⟨⟨o, oa, oc⟩, ⟨h1, h2⟩, rfl⟩, rfl⟩ | ⟨g, ⟨E, h1, rfl⟩, rfl⟩)
        · rw [List.drop_length] at h1
          exact .inl ⟨_, ⟨o, oa, oc, h1, h2, rfl⟩, rfl⟩
        · exact .inr ⟨_, ⟨E, h1, rfl⟩, rfl⟩
      · rintro k ⟨o, oa, oc⟩ hk ⟨hgo, hol⟩
        simp only at hgo hol
        rw [goF_step o _ k hk] at hgo
        have hql := split_len p ((splitF p).getD k []) (by rw [List.getD_eq_getElem?_getD, List.getElem?_eq_getElem hk]; exact List.getElem_mem hk)
        obtain ⟨q, hq⟩ : ∃ q, (splitF p).getD k [] = q := ⟨_, rfl⟩
        rw [hq] at hgo hql ⊢
        refine YSpec.one hps hfr rfl fun w1 rest1 rs1 hrs1 => ?_
        simp only [List.cons_append, List.nil_append] at hrs1
        subst hrs1
        rw [hass, hbody]
        repeat (first | refine GRC.region rfl ?_ | refine GE.nrm ?_ | (apply G.ex (hd := rfl); case h => (first | exact Ex.assign rfl)) | refine G.nil ?_)
        refine GE.begin hst (by repeat (first | exact Takes.nil | apply Takes.dup rfl | apply Takes.cons | exact Take1.here | apply Take1.there)) ?_
        by_cases c1 : q = []
        · rw [if_pos (.inl c1)] at hgo
          repeat (first | refine GRC.seq ?_ | refine GRC.region rfl ?_ | refine GRC.block ?_ | refine GRC.skip ?_ | refine GE.nrm ?_ | refine GE.thenR ?_ | refine GRC.cond_t rfl ?_ | (apply G.ex (hd := rfl); case h => (first | exact Ex.move rfl | exact Ex.eqO rfl rfl | exact Ex.assign rfl | exact Ex.pickT rfl (by first | assumption | omega) rfl)) | refine G.g_ft rfl rfl (by first | assumption | omega) rfl ?_ | refine G.nil ?_ | refine GE.block_normal ?_)
          refine GE.endR2 hst hpn ⟨(o, oa, oc), ⟨hgo, hol⟩, rfl⟩ (by repeat (first | exact Takes.nil | apply Takes.dup rfl | apply Takes.cons | exact Take1.here | apply Take1.there)) (by repeat (first | exact Subs.refl | refine Subs.skip ?_))
        · by_cases c2 : q = [46]
          · rw [if_pos (.inr c2)] at hgo
            repeat (first | refine GRC.seq ?_ | refine GRC.region rfl ?_ | refine GRC.block ?_ | refine GRC.skip ?_ | refine GE.nrm ?_ | refine GE.thenR ?_ | refine GRC.cond_yes rfl (by first | assumption | omega) ?_ | (apply G.ex (hd := rfl); case h => (first | exact Ex.move rfl | exact Ex.eqO rfl rfl | exact Ex.assign rfl | exact Ex.pickF rfl (by first | assumption | omega) rfl)) | refine G.g_ff rfl rfl (by first | assumption | omega) ?_ | refine G.nil ?_ | refine GE.block_normal ?_)
            refine GE.endR2 hst hpn ⟨(o, oa, oc), ⟨hgo, hol⟩, rfl⟩ (by repeat (first | exact Takes.nil | apply Takes.dup rfl | apply Takes.cons | exact Take1.here | apply Take1.there)) (by repeat (first | exact Subs.refl | refine Subs.skip ?_))
          · rw [if_neg (fun h => h.elim c1 c2)] at hgo
            by_cases c3 : q = [46, 46]
            · rw [if_pos c3] at hgo
              repeat (first | refine GRC.seq ?_ | refine GRC.region rfl ?_ | refine GRC.block ?_ | refine GE.nrm ?_ | refine GE.thenR ?_ | refine GRC.cond_yes rfl (by first | assumption | omega) ?_ | refine GRC.cond_no rfl (by first | assumption | omega) ?_ | (apply G.ex (hd := rfl); case h => (first | exact Ex.move rfl | exact Ex.eqO rfl rfl | exact Ex.loadB rfl rfl | exact Ex.sub rfl rfl (by omega) | exact Ex.lenSl rfl | exact Ex.assign rfl | exact Ex.max rfl rfl | exact Ex.pickF rfl (by first | assumption | omega) rfl)) | refine G.g_ff rfl rfl (by first | assumption | omega) ?_ | refine G.nil ?_)
              rw [show max (0 : Int) ((o.length : Int) - 1) = ((o.length - 1 : Nat) : Int) by omega]
              refine G.len oa (m := o.length) (c := oc) fun ⟨_, hoc, _⟩ => ?_
              refine G.ex (Ex.slHi (r := o.length - 1) rfl rfl (by omega)) rfl ?_
              rw [subA_zero]
              refine G.conv (fun w_ H_ => Holds.cutRow (o.length - 1) (by omega) (H_.take (need := [.vec 9 1 oa o.length oc (flat eO o)]) (by repeat first | exact tn_ | apply td_ rfl | apply tc_ | exact .here | apply Take1.there))) ?_
              try simp only [List.append_eq, List.nil_append, List.cons_append]
              rw [cutO o]
              repeat (first | refine GE.nrm ?_ | refine G.storeB rfl rfl rfl rfl rfl ?_ | refine G.nil ?_ | refine GE.block_normal ?_)
              refine GE.endR2 hst hpn ⟨(o.dropLast, oa, oc), ⟨hgo, by show o.dropLast.length ≤ 12; rw [List.length_dropLast]; omega⟩, rfl⟩ (by rw [List.length_dropLast]; repeat (first | exact Takes.nil | apply Takes.dup rfl | apply Takes.cons | exact Take1.here | apply Take1.there)) (by repeat (first | exact Subs.refl | refine Subs.skip ?_))
            · rw [if_neg c3] at hgo
              by_cases c4 : NameOk q
              · have c4' : ¬ ¬ NameOk q := fun h => h c4
                rw [if_neg (fun h => h c4)] at hgo
                repeat (first | refine GRC.seq ?_ | refine GRC.region rfl ?_ | refine GRC.block ?_ | refine GE.nrm ?_ | refine GE.thenR ?_ | refine GRC.cond_no rfl (by first | assumption | omega) ?_ | (apply G.ex (hd := rfl); case h => (first | exact Ex.move rfl | exact Ex.eqO rfl rfl | exact Ex.assign rfl | exact Ex.pickF rfl (by first | assumption | omega) rfl)) | refine G.g_ff rfl rfl (by first | assumption | omega) ?_ | refine G.nil ?_)
                first | refine G.call (caps := []) (name_sp q (by omega)) rfl rfl rfl rfl (by repeat first | exact tn_ | apply td_ rfl | apply tc_ | exact .here | apply Take1.there) ?_ | refine G.callU (caps := []) (name_sp q (by omega)) rfl rfl rfl (by repeat first | exact tn_ | apply td_ rfl | apply tc_ | exact .here | apply Take1.there) ?_
                rintro v_ give_ ⟨rfl, rfl⟩ rs_ hrs_
                simp only [List.cons_append, List.nil_append] at hrs_
                subst hrs_
                by_cases c5 : o.length = 12
                · rw [if_pos c5] at hgo
                  repeat (first | refine GRC.seq ?_ | refine GRC.region rfl ?_ | refine GRC.ret ?_ | refine GE.nrm ?_ | refine GE.thenR ?_ | refine GRC.cond_yes rfl (by first | assumption | omega) ?_ | refine GRC.cond_no rfl (by first | assumption | omega) ?_ | refine G.storeB rfl rfl rfl rfl rfl ?_ | (apply G.ex (hd := rfl); case h => (first | exact Ex.loadB rfl rfl | exact Ex.eqI rfl rfl | exact Ex.lenSl rfl | exact Ex.assign rfl | exact Ex.notD rfl)) | refine G.nil ?_ | refine GE.block_ret ?_)
                  refine GE.endRet ⟨9, hgo, rfl⟩ (by repeat (first | exact Takes.nil | apply Takes.dup rfl | apply Takes.cons | exact Take1.here | apply Take1.there)) (by repeat (first | exact Subs.refl | refine Subs.skip ?_))
                · rw [if_neg c5] at hgo
                  have hcat : flat eO o ++ flat eO [q] = flat eO (o ++ [q]) := (flat_append ..).symm
                  repeat (first | refine GRC.seq ?_ | refine GRC.region rfl ?_ | refine GE.nrm ?_ | refine GE.thenR ?_ | refine GRC.cond_no rfl (by first | assumption | omega) ?_ | (apply G.ex (hd := rfl); case h => (first | exact Ex.move rfl | exact Ex.loadB rfl rfl | exact Ex.eqI rfl rfl | exact Ex.lenSl rfl | exact Ex.assign rfl | exact Ex.notD rfl)) | refine G.nil ?_)
                  refine G.lit rfl (by rfl) (by rfl) (by rfl) (by rfl) (by rfl) (by rfl) rfl (fun q1 => ?_)
                  repeat (first | fail)
                  refine G.app rfl rfl (by rfl) (by omega) rfl (hcat) (fun a2 c2 rs_ hrs_ => ?_)
                  try simp only at hrs_
                  subst hrs_
                  repeat (first | refine GE.nrm ?_ | refine G.storeB rfl rfl rfl rfl rfl ?_ | refine G.nil ?_ | refine GE.block_normal ?_)
                  refine GE.endR2 hst hpn ⟨(o ++ [q], a2, c2), ⟨hgo, by rw [List.length_append]; simp only [List.length_singleton]; omega⟩, by simp only [List.length_append, List.length_singleton]; rfl⟩ (by repeat (first | exact Takes.nil | apply Takes.dup rfl | apply Takes.cons | exact Take1.here | apply Take1.there)) (by repeat (first | exact Subs.refl | refine Subs.skip ?_))
              · rw [if_pos c4] at hgo
                repeat (first | refine GRC.seq ?_ | refine GRC.region rfl ?_ | refine GRC.block ?_ | refine GE.nrm ?_ | refine GE.thenR ?_ | refine GRC.cond_no rfl (by first | assumption | omega) ?_ | (apply G.ex (hd := rfl); case h => (first | exact Ex.move rfl | exact Ex.eqO rfl rfl | exact Ex.assign rfl | exact Ex.pickF rfl (by first | assumption | omega) rfl)) | refine G.g_ff rfl rfl (by first | assumption | omega) ?_ | refine G.nil ?_)
                first | refine G.call (caps := []) (name_sp q (by omega)) rfl rfl rfl rfl (by repeat first | exact tn_ | apply td_ rfl | apply tc_ | exact .here | apply Take1.there) ?_ | refine G.callU (caps := []) (name_sp q (by omega)) rfl rfl rfl (by repeat first | exact tn_ | apply td_ rfl | apply tc_ | exact .here | apply Take1.there) ?_
                rintro v_ give_ ⟨rfl, rfl⟩ rs_ hrs_
                simp only [List.cons_append, List.nil_append] at hrs_
                subst hrs_
                repeat (first | refine GRC.seq ?_ | refine GRC.region rfl ?_ | refine GRC.ret ?_ | refine GE.nrm ?_ | refine GE.thenR ?_ | refine GRC.cond_yes rfl (by first | assumption | omega) ?_ | refine G.storeB rfl rfl rfl rfl rfl ?_ | (apply G.ex (hd := rfl); case h => (first | exact Ex.assign rfl | exact Ex.notD rfl)) | refine G.nil ?_ | refine GE.block_ret ?_)
                refine GE.endRet ⟨4, hgo, rfl⟩ (by repeat (first | exact Takes.nil | apply Takes.dup rfl | apply Takes.cons | exact Take1.here | apply Take1.there)) (by repeat (first | exact Subs.refl | refine Subs.skip ?_))
    · rintro D v g ⟨o, oa, oc, hgo, hol, rfl⟩ rs1 hrs1
      simp only [List.cons_append, List.nil_append] at hrs1
      subst hrs1
      rw [hgo]
      repeat (first | (apply G.ex (hd := rfl); case h => (first | exact Ex.loadB rfl rfl)) | refine GC.seq ?_ | refine GC.region ?_ | refine GE.then_normal ?_ | refine GE.block_normal ?_)
      first | refine G.call (caps := []) (cloneS_sp (.vec 9 1 oa o.length oc (flat eO o)) oa o.length oc o rfl (by omega)) rfl rfl rfl rfl (by repeat first | exact tn_ | apply td_ rfl | apply tc_ | exact .here | apply Take1.there) ?_ | refine G.callU (caps := []) (cloneS_sp (.vec 9 1 oa o.length oc (flat eO o)) oa o.length oc o rfl (by omega)) rfl rfl rfl (by repeat first | exact tn_ | apply td_ rfl | apply tc_ | exact .here | apply Take1.there) ?_
      rintro v_ give_ ⟨da, dc, rfl, rfl⟩ rs_ hrs_
      simp only [List.cons_append, List.nil_append] at hrs_
      subst hrs_
      repeat (first | refine G.storeB rfl rfl rfl rfl rfl ?_ | refine G.nil ?_ | refine GC.ret ?_ | refine GE.then_normal ?_)
      refine GE.retM (by first | exact .inl rfl | exact .inr rfl) (by repeat first | exact tn_ | apply td_ rfl | apply tc_ | exact .here | apply Take1.there) (resR2 Tryz.results37 (by first | exact RV.cell rfl (eP_len _) | exact RV.cell rfl rfl | exact RV.cell1 rfl) (by first | exact RV.cell rfl (eP_len _) | exact RV.cell rfl rfl | exact RV.cell1 rfl)) ⟨da, dc, rfl, hol, rfl⟩ (by repeat first | exact tn_ | apply td_ rfl | apply tc_ | exact .here | apply Take1.there) (by repeat (first | exact Subs.refl | refine Subs.skip ?_))
    · rintro D v g ⟨E, hgo, rfl⟩ rs1 hrs1
      simp only [List.cons_append, List.nil_append] at hrs1
      subst hrs1
      rw [hgo]
      repeat (first | refine GE.then_ret ?_ | refine GE.block_ret ?_)
      refine GE.nilvec 9 1 ?_
      refine GE.retM (by first | exact .inl rfl | exact .inr rfl) (by repeat first | exact tn_ | apply td_ rfl | apply tc_ | exact .here | apply Take1.there) (resR2 Tryz.results37 (by first | exact RV.cell rfl (eP_len _) | exact RV.cell rfl rfl | exact RV.cell1 rfl) (by first | exact RV.cell rfl (eP_len _) | exact RV.cell rfl rfl | exact RV.cell1 rfl)) ⟨none, 0, rfl, Nat.zero_le _, rfl⟩ (by repeat first | exact tn_ | apply td_ rfl | apply tc_ | exact .here | apply Take1.there) (by repeat (first | exact Subs.refl | refine Subs.skip ?_))
end path
end Go.Proofs.YtmceappjldcbmaaGreatDoor
/-
  CONTRACTS: HasPrefix with "/", path.Clean, Follow, packthreadkeep.sameTexts; and what names are (no Join: for seats that do not reach it).
-/
namespace Go.Proofs.YtmceappjldcbmaaGreatDoor
open Go.RowKit
attribute [local irreducible] Ex G GC GE Gq FPost LPost
set_option linter.unusedVariables false
set_option linter.unusedSimpArgs false
namespace path
def NamesOk (l : List (List UInt8)) : Prop := l.length ≤ 12 ∧ ∀ s ∈ l, NameOk s
instance (l : List (List UInt8)) : Decidable (NamesOk l) := inferInstanceAs (Decidable (_ ∧ _))
theorem fault_ok {l : List (List UInt8)} (h : NamesOk l) : faultN l = 0 := by
  unfold faultN; rw [if_neg (by have := h.1; omega), if_neg (fun ⟨s, hs, hn⟩ => hn (h.2 s hs))]
theorem ok_le {l : List (List UInt8)} (h : NamesOk l) : ∀ s ∈ l, s.length ≤ 1000000 := fun s hs => by have := (h.2 s hs).2.1; omega
theorem clean_sp (p : List UInt8) (hp : p.length ≤ 9223372036854775807) :
    Spec Tryz.prog 29 [.string (sOf p)] [] fun v give => ∃ oa oc, v = .tuple #[.slice oa (walkF [] p).1.length oc, .int .i64 (walkF [] p).2] ∧ (walkF [] p).1.length ≤ 12 ∧ give = [.vec 9 1 oa (walkF [] p).1.length oc (flat eO (walkF [] p).1)] := by
  refine Spec.intro Tryz.func29 rfl Tryz.ntmps29 rfl fun w0 rest rs_ hrs_ => ?_
  simp only [List.cons_append, List.nil_append] at hrs_
  subst hrs_
  repeat (first | (apply G.ex (hd := rfl); case h => (first | exact Ex.move rfl | exact Ex.assign rfl)) | refine G.nil ?_ | refine GC.seq ?_ | refine GC.region ?_ | refine GE.then_normal ?_)
  refine G.nilsl 1 ?_
  first | refine G.call (caps := []) (walk_sp (.sl none 0 0 1 (flat eO [])) none 0 0 [] rfl (by decide) p hp) rfl rfl rfl rfl (by repeat first | exact tn_ | apply td_ rfl | apply tc_ | exact .here | apply Take1.there) ?_ | refine G.callU (caps := []) (walk_sp (.sl none 0 0 1 (flat eO [])) none 0 0 [] rfl (by decide) p hp) rfl rfl rfl (by repeat first | exact tn_ | apply td_ rfl | apply tc_ | exact .here | apply Take1.there) ?_
  rintro v_ give_ ⟨oa, oc, rfl, h12, rfl⟩ rs_ hrs_
  simp only [List.cons_append, List.nil_append] at hrs_
  subst hrs_
  repeat (first | (apply G.ex (hd := rfl); case h => (first | exact Ex.extract rfl rfl | exact Ex.assign rfl)) | refine G.nil ?_ | refine GC.ret ?_ | refine GE.then_normal ?_)
  refine GE.ret (by first | exact .inl rfl | exact .inr rfl) (res2 Tryz.results29 rfl rfl) ⟨oa, oc, rfl, h12, rfl⟩ (by repeat first | exact tn_ | apply td_ rfl | apply tc_ | exact .here | apply Take1.there) (by repeat (first | exact Subs.refl | refine Subs.skip ?_))
theorem pfx_sp (p : List UInt8) (hp : p.length ≤ 9223372036854775807) : Spec Tryz.prog 68 [.string (sOf p), .string (sOf [47])] [] fun v give => v = .bool (decide (p.take 1 = [47])) ∧ give = [] := by
  refine Spec.intro Tryz.func68 rfl Tryz.ntmps68 rfl fun w0 rest rs_ hrs_ => ?_
  simp only [List.cons_append, List.nil_append] at hrs_
  subst hrs_
  by_cases h1 : ([47] : List UInt8).length ≤ p.length
  · repeat (first | (apply G.ex (hd := rfl); case h => (first | exact Ex.move rfl | exact Ex.lenO rfl | exact Ex.eqO rfl rfl | exact Ex.subHi rfl rfl (by omega) | exact Ex.geq rfl rfl | exact Ex.assign rfl | exact Ex.pickT rfl (by first | assumption | omega) rfl)) | refine G.g_tt rfl rfl (by first | assumption | omega) ?_ | refine G.nil ?_ | refine GC.seq ?_ | refine GC.region ?_ | refine GC.ret ?_ | refine GE.then_normal ?_)
    refine GE.ret (by first | exact .inl rfl | exact .inr rfl) (res1 Tryz.results68 rfl) ⟨rfl, rfl⟩ (by repeat first | exact tn_ | apply td_ rfl | apply tc_ | exact .here | apply Take1.there) (by repeat (first | exact Subs.refl | refine Subs.skip ?_))
  · have : p = [] := by cases p with
      | nil => rfl
      | cons a t => exact absurd (Nat.succ_le_succ (Nat.zero_le _)) h1
    subst this
    repeat (first | (apply G.ex (hd := rfl); case h => (first | exact Ex.move rfl | exact Ex.lenO rfl | exact Ex.geq rfl rfl | exact Ex.assign rfl | exact Ex.pickF rfl (by first | assumption | omega) rfl)) | refine G.g_tf rfl rfl (by first | assumption | omega) rfl ?_ | refine G.nil ?_ | refine GC.seq ?_ | refine GC.region ?_ | refine GC.ret ?_ | refine GE.then_normal ?_)
    refine GE.ret (by first | exact .inl rfl | exact .inr rfl) (res1 Tryz.results68 rfl) ⟨rfl, rfl⟩ (by repeat first | exact tn_ | apply td_ rfl | apply tc_ | exact .here | apply Take1.there) (by repeat (first | exact Subs.refl | refine Subs.skip ?_))
theorem hpfx_sp (p : List UInt8) (hp : p.length ≤ 9223372036854775807) : Spec Tryz.prog 58 [.string (sOf p), .string (sOf [47])] [] fun v give => v = .bool (decide (p.take 1 = [47])) ∧ give = [] := by
  refine Spec.intro Tryz.func58 rfl Tryz.ntmps58 rfl fun w0 rest rs_ hrs_ => ?_
  simp only [List.cons_append, List.nil_append] at hrs_
  subst hrs_
  repeat (first | (apply G.ex (hd := rfl); case h => (first | exact Ex.move rfl | exact Ex.assign rfl)) | refine G.nil ?_ | refine GC.seq ?_ | refine GC.region ?_ | refine GE.then_normal ?_)
  first | refine G.call (caps := []) (pfx_sp p hp) rfl rfl rfl rfl (by repeat first | exact tn_ | apply td_ rfl | apply tc_ | exact .here | apply Take1.there) ?_ | refine G.callU (caps := []) (pfx_sp p hp) rfl rfl rfl (by repeat first | exact tn_ | apply td_ rfl | apply tc_ | exact .here | apply Take1.there) ?_
  rintro v_ give_ ⟨rfl, rfl⟩ rs_ hrs_
  simp only [List.cons_append, List.nil_append] at hrs_
  subst hrs_
  repeat (first | (apply G.ex (hd := rfl); case h => (first | exact Ex.assign rfl)) | refine G.nil ?_ | refine GC.ret ?_ | refine GE.then_normal ?_)
  refine GE.ret (by first | exact .inl rfl | exact .inr rfl) (res1 Tryz.results58 rfl) ⟨rfl, rfl⟩ (by repeat first | exact tn_ | apply td_ rfl | apply tc_ | exact .here | apply Take1.there) (by repeat (first | exact Subs.refl | refine Subs.skip ?_))
/-- where a path leads from names on -/
def followF (names : List (List UInt8)) (p : List UInt8) : List (List UInt8) × Int := if p.take 1 = [47] then walkF [] p else walkF names p
theorem follow_sp (r : Res) (ao : Option Addr) (n c : Nat) (l : List (List UInt8)) [hr : RdR r ao n c 1 (flat eO l)] (hl : l.length = n) (h : NamesOk l) (p : List UInt8) (hp : p.length ≤ 9223372036854775807) :
    Spec Tryz.prog 49 [.slice ao n c, .string (sOf p)] [r] fun v give => ∃ oa oc, v = .tuple #[.slice oa (followF l p).1.length oc, .int .i64 (followF l p).2] ∧ (followF l p).1.length ≤ 12 ∧ give = [.vec 9 1 oa (followF l p).1.length oc (flat eO (followF l p).1), r] := by
  have hn := h.1
  unfold followF
  refine Spec.intro Tryz.func49 rfl Tryz.ntmps49 rfl fun w0 rest rs_ hrs_ => ?_
  simp only [List.cons_append, List.nil_append] at hrs_
  subst hrs_
  repeat (first | (apply G.ex (hd := rfl); case h => (first | exact Ex.move rfl | exact Ex.assign rfl)) | refine G.nil ?_ | refine GC.seq ?_ | refine GC.region ?_ | refine GE.then_normal ?_)
  first | refine G.call (caps := []) (faultN_sp r ao n c l hl (by omega) (ok_le h)) rfl rfl rfl rfl (by repeat first | exact tn_ | apply td_ rfl | apply tc_ | exact .here | apply Take1.there) ?_ | refine G.callU (caps := []) (faultN_sp r ao n c l hl (by omega) (ok_le h)) rfl rfl rfl (by repeat first | exact tn_ | apply td_ rfl | apply tc_ | exact .here | apply Take1.there) ?_
  rintro v_ give_ ⟨rfl, rfl⟩ rs_ hrs_
  simp only [List.cons_append, List.nil_append] at hrs_
  subst hrs_
  rw [fault_ok h]
  repeat (first | (apply G.ex (hd := rfl); case h => (first | exact Ex.move rfl | exact Ex.neI rfl rfl | exact Ex.assign rfl)) | refine G.nil ?_ | refine GC.seq ?_ | refine GC.region ?_ | refine GC.skip ?_ | refine GE.then_normal ?_ | refine GC.cond_no rfl (by first | assumption | omega) ?_)
  first | refine G.call (caps := []) (hpfx_sp p hp) rfl rfl rfl rfl (by repeat first | exact tn_ | apply td_ rfl | apply tc_ | exact .here | apply Take1.there) ?_ | refine G.callU (caps := []) (hpfx_sp p hp) rfl rfl rfl (by repeat first | exact tn_ | apply td_ rfl | apply tc_ | exact .here | apply Take1.there) ?_
  rintro v_ give_ ⟨rfl, rfl⟩ rs_ hrs_
  simp only [List.cons_append, List.nil_append] at hrs_
  subst hrs_
  by_cases h1 : p.take 1 = [47]
  · rw [if_pos h1]
    repeat (first | (apply G.ex (hd := rfl); case h => (first | exact Ex.move rfl)) | refine G.nil ?_ | refine GC.seq ?_ | refine GC.region ?_ | refine GE.then_normal ?_ | refine GC.cond_yes rfl (by first | assumption | omega) ?_)
    first | refine G.call (caps := []) (clean_sp p hp) rfl rfl rfl rfl (by repeat first | exact tn_ | apply td_ rfl | apply tc_ | exact .here | apply Take1.there) ?_ | refine G.callU (caps := []) (clean_sp p hp) rfl rfl rfl (by repeat first | exact tn_ | apply td_ rfl | apply tc_ | exact .here | apply Take1.there) ?_
    rintro v_ give_ ⟨oa, oc, rfl, h12, rfl⟩ rs_ hrs_
    simp only [List.cons_append, List.nil_append] at hrs_
    subst hrs_
    repeat (first | (apply G.ex (hd := rfl); case h => (first | exact Ex.extract rfl rfl | exact Ex.assign rfl)) | refine G.nil ?_ | refine GC.ret ?_ | refine GE.then_normal ?_ | refine GE.then_ret ?_)
    refine GE.ret (by first | exact .inl rfl | exact .inr rfl) (res2 Tryz.results49 rfl rfl) ⟨oa, oc, rfl, h12, rfl⟩ (by repeat first | exact tn_ | apply td_ rfl | apply tc_ | exact .here | apply Take1.there) (by repeat (first | exact Subs.refl | refine Subs.skip ?_))
  · rw [if_neg h1]
    repeat (first | (apply G.ex (hd := rfl); case h => (first | exact Ex.move rfl)) | refine G.nil ?_ | refine GC.seq ?_ | refine GC.region ?_ | refine GC.skip ?_ | refine GE.then_normal ?_ | refine GC.cond_no rfl (by first | assumption | omega) ?_)
    first | refine G.call (caps := []) (walk_sp r ao n c l hl (by omega) p hp) rfl rfl rfl rfl (by repeat first | exact tn_ | apply td_ rfl | apply tc_ | exact .here | apply Take1.there) ?_ | refine G.callU (caps := []) (walk_sp r ao n c l hl (by omega) p hp) rfl rfl rfl (by repeat first | exact tn_ | apply td_ rfl | apply tc_ | exact .here | apply Take1.there) ?_
    rintro v_ give_ ⟨oa, oc, rfl, h12, rfl⟩ rs_ hrs_
    simp only [List.cons_append, List.nil_append] at hrs_
    subst hrs_
    repeat (first | (apply G.ex (hd := rfl); case h => (first | exact Ex.extract rfl rfl | exact Ex.assign rfl)) | refine G.nil ?_ | refine GC.ret ?_ | refine GE.then_normal ?_)
    refine GE.ret (by first | exact .inl rfl | exact .inr rfl) (res2 Tryz.results49 rfl rfl) ⟨oa, oc, rfl, h12, rfl⟩ (by repeat first | exact tn_ | apply td_ rfl | apply tc_ | exact .here | apply Take1.there) (by repeat (first | exact Subs.refl | refine Subs.skip ?_))
end path
end Go.Proofs.YtmceappjldcbmaaGreatDoor
/-
  PLAIN LAWS of names and paths, for seats that do not reach Join.
-/
namespace Go.Proofs.YtmceappjldcbmaaGreatDoor
open Go.RowKit
namespace path
/-- a path of parts -/
def ofParts (l : List (List UInt8)) : List UInt8 := l.flatMap fun p => 47 :: p
theorem goF_cons (o t : List (List UInt8)) (p : List UInt8) : goF o (p :: t) = if p = [] ∨ p = [46] then goF o t else if p = [46, 46] then goF o.dropLast t else if ¬ NameOk p then ([], 4) else if o.length = 12 then ([], 9) else goF (o ++ [p]) t := rfl
theorem goF_ok (o l r : List (List UInt8)) (ho : NamesOk o) (h : goF o l = (r, 0)) : NamesOk r := by
  induction l generalizing o with
  | nil =>
    have : o = r := congrArg Prod.fst h
    rw [← this]; exact ho
  | cons p t ih =>
    unfold goF at h
    split at h
    · exact ih _ ho h
    · split at h
      · exact ih _ ⟨by have := ho.1; rw [List.length_dropLast]; omega, fun s hs => ho.2 s ((List.dropLast_sublist _).subset hs)⟩ h
      · split at h
        · exact absurd (show (4 : Int) = 0 from congrArg Prod.snd h) (by decide)
        · rename_i c
          split at h
          · exact absurd (show (9 : Int) = 0 from congrArg Prod.snd h) (by decide)
          · refine ih _ ⟨by have := ho.1; rw [List.length_append, List.length_singleton]; omega, fun s hs => ?_⟩ h
            rcases List.mem_append.1 hs with hs | hs
            · exact ho.2 s hs
            · rw [List.mem_singleton] at hs; rw [hs]; exact Decidable.not_not.1 c
def PartOk (p : List UInt8) : Prop := p = [] ∨ p = [46] ∨ p = [46, 46] ∨ NameOk p
theorem clean_at (p : List UInt8) (hp : p.length ≤ 9223372036854775807) (a : List (List UInt8)) (e : Int) (h : walkF [] p = (a, e)) :
    Spec Tryz.prog 29 [.string (sOf p)] [] fun v give => ∃ oa oc, v = .tuple #[.slice oa a.length oc, .int .i64 e] ∧ a.length ≤ 12 ∧ give = [.vec 9 1 oa a.length oc (flat eO a)] := by
  have := clean_sp p hp; rw [h] at this; exact this
theorem follow_at (r : Res) (ao : Option Addr) (n c : Nat) (l : List (List UInt8)) [hr : RdR r ao n c 1 (flat eO l)] (hl : l.length = n) (hk : NamesOk l) (p : List UInt8) (hp : p.length ≤ 9223372036854775807) (a : List (List UInt8)) (e : Int) (h : followF l p = (a, e)) :
    Spec Tryz.prog 49 [.slice ao n c, .string (sOf p)] [r] fun v give => ∃ oa oc, v = .tuple #[.slice oa a.length oc, .int .i64 e] ∧ a.length ≤ 12 ∧ give = [.vec 9 1 oa a.length oc (flat eO a), r] := by
  have := follow_sp r ao n c l hl hk p hp; rw [h] at this; exact this
theorem walk_ok (p : List UInt8) (a : List (List UInt8)) (h : walkF [] p = (a, 0)) : NamesOk a := by
  unfold walkF at h
  split at h
  · exact absurd (show (1 : Int) = 0 from congrArg Prod.snd h) (by decide)
  · exact goF_ok [] _ _ ⟨by decide, fun s hs => nomatch hs⟩ h
end path
end Go.Proofs.YtmceappjldcbmaaGreatDoor
