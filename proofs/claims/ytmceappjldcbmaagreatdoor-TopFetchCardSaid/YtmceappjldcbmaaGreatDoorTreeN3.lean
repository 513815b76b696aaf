/-
  CONTRACTS of a file's long and do, and of a tree's at, by the kit.
-/
import Derived.Test.YtmceappjldcbmaaGreatDoorTreeN2
import Derived.Test.YtmceappjldcbmaaGreatDoorCom
import Derived.Test.YtmceappjldcbmaaGreatDoorIter
import Derived.StringKeys
import Derived.Test.YtmceappjldcbmaaGreatDoorTreeN1
namespace Go.Proofs.YtmceappjldcbmaaGreatDoor
open Go.RowKit
attribute [local irreducible] Ex G GC GE Gq FPost LPost
set_option linter.unusedVariables false
set_option linter.unusedSimpArgs false
namespace tree
open path
/-- an act in memory -/
def eAc (a : Ac) (da : Option Addr) (dc : Nat) : List Value := [.int .i64 a.kind, .string (sOf a.path), .string (sOf a.to), .int .i64 a.at_, .int .i64 a.cnt, .slice da a.d.length dc]
/-- what an act came to, in memory -/
def eSn (s : Sn) (da : Option Addr) (dc : Nat) (na : Option Addr) (nc : Nat) : List Value := [.int .i64 s.code, .int .i64 s.kind, .int .i64 s.size, .slice da s.d.length dc, .slice na s.names.length nc]
def SnP (s : Sn) (rs : List Res) (v : Value) (give : List Res) : Prop := ∃ da dc na nc, v = .agg (eSn s da dc na nc).toArray ∧ give = .vec 5 1 da s.d.length dc (flat eB s.d) :: .vec 9 1 na s.names.length nc (flat eO s.names) :: rs
theorem no_sp (e : Int) : Spec Tryz.prog 28 [.int .i64 e] [] fun v give => v = .agg (eSn (no e) none 0 none 0).toArray ∧ give = [] := by
  refine Spec.intro Tryz.func28 rfl Tryz.ntmps28 rfl fun w0 rest rs_ hrs_ => ?_
  simp only [List.cons_append, List.nil_append] at hrs_
  subst hrs_
  repeat (first | refine GC.seq ?_ | refine GC.region ?_)
  refine G.alloc rfl (fun b => ?_)
  repeat (first | refine G.storeBA rfl rfl rfl rfl rfl ?_ | (apply G.ex (hd := rfl); case h => (first | exact Ex.move rfl | exact Ex.build rfl rfl)) | refine G.nil ?_ | refine GC.seq ?_ | refine GC.region ?_ | refine GC.ret ?_ | refine GE.then_normal ?_)
  refine GE.ret (by first | exact .inl rfl | exact .inr rfl) (resR1 Tryz.results28 (by first | exact RV.cell rfl (eP_len _) | exact RV.cell rfl rfl | exact RV.cell1 rfl)) ⟨rfl, rfl⟩ (by repeat first | exact tn_ | apply td_ rfl | apply tc_ | exact .here | apply Take1.there) (by repeat (first | exact Subs.refl | refine Subs.skip ?_))
theorem in_sp (z : Int) : Spec Tryz.prog 53 [.int .i64 z] [] fun v give => v = .bool (decide (inB z)) ∧ give = [] := by
  refine Spec.intro Tryz.func53 rfl Tryz.ntmps53 rfl fun w0 rest rs_ hrs_ => ?_
  simp only [List.cons_append, List.nil_append] at hrs_
  subst hrs_
  by_cases h : 0 ≤ z
  · repeat (first | (apply G.ex (hd := rfl); case h => (first | exact Ex.move rfl | exact Ex.leq rfl rfl | exact Ex.geq rfl rfl | exact Ex.assign rfl | exact Ex.pickT rfl (by first | assumption | omega) rfl)) | refine G.g_tt rfl rfl (by first | assumption | omega) ?_ | refine G.nil ?_ | refine GC.seq ?_ | refine GC.region ?_ | refine GC.ret ?_ | refine GE.then_normal ?_)
    rw [show decide (z ≤ 2048) = decide (inB z) from decide_eq_decide.2 ⟨fun h' => ⟨h, h'⟩, fun h' => h'.2⟩]
    refine GE.ret (by first | exact .inl rfl | exact .inr rfl) (res1 Tryz.results53 rfl) ⟨rfl, rfl⟩ (by repeat first | exact tn_ | apply td_ rfl | apply tc_ | exact .here | apply Take1.there) (by repeat (first | exact Subs.refl | refine Subs.skip ?_))
  · have hn : ¬ inB z := fun h' => h h'.1
    rw [decide_eq_false hn]
    repeat (first | (apply G.ex (hd := rfl); case h => (first | exact Ex.move rfl | exact Ex.geq rfl rfl | exact Ex.assign rfl | exact Ex.pickF rfl (by first | assumption | omega) rfl)) | refine G.g_tf rfl rfl (by first | assumption | omega) rfl ?_ | refine G.nil ?_ | refine GC.seq ?_ | refine GC.region ?_ | refine GC.ret ?_ | refine GE.then_normal ?_)
    refine GE.ret (by first | exact .inl rfl | exact .inr rfl) (res1 Tryz.results53 rfl) ⟨rfl, rfl⟩ (by repeat first | exact tn_ | apply td_ rfl | apply tc_ | exact .here | apply Take1.there) (by repeat (first | exact Subs.refl | refine Subs.skip ?_))
theorem zrep_B : ∀ n, zrep [.int .u8 0] n = flat eB (List.replicate n 0)
  | 0 => rfl
  | n + 1 => by
    rw [List.replicate_succ]
    show [Value.int .u8 0] ++ zrep [.int .u8 0] n = eB 0 ++ flat eB (List.replicate n 0)
    rw [zrep_B n]; rfl
theorem flatB_take (k : Nat) (l : List UInt8) : (flat eB l).take k = flat eB (l.take k) := by
  have := flat_take (inferInstance : Enc eB 1) l k
  rwa [Nat.mul_one] at this
theorem flatB_drop (k : Nat) (l : List UInt8) : (flat eB l).drop k = flat eB (l.drop k) := by
  have := flat_drop (inferInstance : Enc eB 1) l k
  rwa [Nat.mul_one] at this
theorem flatB_len (l : List UInt8) : (flat eB l).length = l.length := by
  have := flat_len (inferInstance : Enc eB 1) l
  rwa [Nat.mul_one] at this
theorem laid_long (b : List UInt8) (n : Nat) : laid (zrep [.int .u8 0] n) 0 ((flat eB b).take n) = flat eB (long b n) := by
  unfold laid long
  rw [zrep_B, List.take_zero, List.nil_append, flatB_take, flat_append, Nat.zero_add, flatB_drop, flatB_len, List.drop_replicate, List.length_take]
  congr 3
  omega
theorem laid_lay (b d : List UInt8) (k : Nat) : laid (flat eB b) k (flat eB d) = flat eB (lay b d k) := by
  unfold laid lay
  rw [flatB_take, flatB_drop, flatB_len, flat_append, flat_append]
theorem long_sp (fb : Nat) (ao : Option Addr) (c : Nat) (b : List UInt8) (n : Nat) (hn : n ≤ 2048) :
    Spec Tryz.prog 54 [ptr fb, .int .i64 (n : Int)] [.blk fb 93 [.slice ao b.length c], .vec 5 1 ao b.length c (flat eB b)] fun v give => v = .tuple #[] ∧ ∃ ao' c', give = [.blk fb 93 [.slice ao' n c'], .vec 5 1 ao' n c' (flat eB (long b n))] := by
  refine Spec.intro Tryz.func54 rfl Tryz.ntmps54 rfl fun w0 rest rs_ hrs_ => ?_
  simp only [List.cons_append, List.nil_append] at hrs_
  subst hrs_
  repeat (first | (apply G.ex (hd := rfl); case h => (first | exact Ex.move rfl)) | refine GC.seq ?_ | refine GC.region ?_)
  refine G.make rfl rfl (by omega) rfl rfl (fun sa => ?_)
  repeat (first | (apply G.ex (hd := rfl); case h => (first | exact Ex.move rfl | exact Ex.nilCheck rfl | exact Ex.fieldB rfl | exact Ex.loadB rfl rfl | exact Ex.assign rfl)) | refine G.nil ?_ | refine GC.seq ?_ | refine GC.region ?_ | refine GE.then_normal ?_)
  refine G.copyPre rfl rfl rfl (fun rs_ hrs_ => ?_)
  try simp only at hrs_
  subst hrs_
  rw [laid_long]
  repeat (first | refine G.storeB rfl rfl rfl rfl rfl ?_ | (apply G.ex (hd := rfl); case h => (first | exact Ex.move rfl | exact Ex.nilCheck rfl | exact Ex.fieldB rfl)) | refine G.nil ?_ | refine GC.region ?_ | refine GE.then_normal ?_)
  refine GE.ret (by first | exact .inl rfl | exact .inr rfl) (res0 Tryz.results54) ⟨rfl, sa, n, rfl⟩ (by repeat first | exact tn_ | apply td_ rfl | apply tc_ | exact .here | apply Take1.there) (by repeat (first | exact Subs.refl | refine Subs.skip ?_))
set_option maxHeartbeats 8000000 in
theorem fdo_sp (fb : Nat) (ao : Option Addr) (c : Nat) (b : List UInt8) (hb : b.length ≤ 2048) (a : Ac) (q : Res) (da : Option Addr) (dc : Nat) [RdR q da a.d.length dc 1 (flat eB a.d)] (hd : a.d.length ≤ 1000000) (hk : a.kind = 3 ∨ a.kind = 4 ∨ a.kind = 5) :
    Spec Tryz.prog 44 [ptr fb, .agg (eAc a da dc).toArray] [.blk fb 93 [.slice ao b.length c], .vec 5 1 ao b.length c (flat eB b), q] fun v give => ∃ ao' c', SnP (fileF b a).2 [.blk fb 93 [.slice ao' (fileF b a).1.length c'], .vec 5 1 ao' (fileF b a).1.length c' (flat eB (fileF b a).1), q] v give := by
  obtain ⟨R, hR⟩ : ∃ R, fileF b a = R := ⟨_, rfl⟩
  rw [hR]
  unfold fileF at hR
  refine Spec.intro Tryz.func44 rfl Tryz.ntmps44 rfl fun w0 rest rs_ hrs_ => ?_
  simp only [List.cons_append, List.nil_append] at hrs_
  subst hrs_
  repeat (first | refine GC.seq ?_ | refine GC.region ?_)
  refine G.box (cs := eAc a da dc) rfl rfl rfl fun ab => ?_
  repeat (first | fail)
  refine G.alloc rfl (fun rb => ?_)
  by_cases k3 : a.kind = 3
  · by_cases i1 : inB a.at_
    · have hc1 : ¬ ((¬ a.kind = 5 ∧ ¬ inB a.at_) ∨ (¬ a.kind = 3 ∧ ¬ inB a.cnt)) := fun h => h.elim (fun h => h.2 i1) (fun h => h.1 k3)
      rw [if_neg hc1] at hR
      repeat (first | (apply G.ex (hd := rfl); case h => (first | exact Ex.move rfl | exact Ex.fieldB rfl | exact Ex.loadB rfl rfl | exact Ex.neI rfl rfl)) | refine G.g_tt rfl rfl (by first | assumption | omega) ?_ | refine G.nil ?_ | refine GC.seq ?_ | refine GC.region ?_ | refine GC.block ?_ | refine GE.then_normal ?_)
      first | refine G.call (caps := []) (in_sp a.at_) rfl rfl rfl rfl (by repeat first | exact tn_ | apply td_ rfl | apply tc_ | exact .here | apply Take1.there) ?_ | refine G.callU (caps := []) (in_sp a.at_) rfl rfl rfl (by repeat first | exact tn_ | apply td_ rfl | apply tc_ | exact .here | apply Take1.there) ?_
      rintro v_ give_ ⟨rfl, rfl⟩ rs_ hrs_
      simp only [List.cons_append, List.nil_append] at hrs_
      subst hrs_
      rw [decide_eq_true i1]
      repeat (first | (apply G.ex (hd := rfl); case h => (first | exact Ex.move rfl | exact Ex.fieldB rfl | exact Ex.loadB rfl rfl | exact Ex.eqI rfl rfl | exact Ex.neI rfl rfl | exact Ex.lenSl rfl | exact Ex.assign rfl | exact Ex.notB rfl | exact Ex.pickT rfl (by first | assumption | omega) rfl | exact Ex.pickF rfl (by first | assumption | omega) rfl)) | refine G.g_tt rfl rfl (by first | assumption | omega) ?_ | refine G.g_tf rfl rfl (by first | assumption | omega) rfl ?_ | refine G.nil ?_ | refine GC.seq ?_ | refine GC.region ?_ | refine GE.then_normal ?_ | refine GC.cond_f rfl ?_)
      obtain ⟨A, hA⟩ : ∃ A : Nat, a.at_ = (A : Int) := ⟨a.at_.toNat, by have := i1.1; omega⟩
      have hA2 : A ≤ 2048 := by have := i1.2; omega
      rw [hA] at hR ⊢
      by_cases c2 : (2048 : Int) < (A : Int) + a.d.length
      · rw [if_pos ⟨k3, c2⟩] at hR
        subst hR
        repeat (first | (apply G.ex (hd := rfl); case h => (first | exact Ex.add rfl rfl (by omega) | exact Ex.gtr rfl rfl | exact Ex.assign rfl | exact Ex.pickT rfl (by first | assumption | omega) rfl)) | refine G.g_tt rfl rfl (by first | assumption | omega) ?_ | refine G.nil ?_ | refine GC.seq ?_ | refine GC.region ?_ | refine GE.then_normal ?_ | refine GC.cond_yes rfl (by first | assumption | omega) ?_)
        first | refine G.call (caps := []) (no_sp 11) rfl rfl rfl rfl (by repeat first | exact tn_ | apply td_ rfl | apply tc_ | exact .here | apply Take1.there) ?_ | refine G.callU (caps := []) (no_sp 11) rfl rfl rfl (by repeat first | exact tn_ | apply td_ rfl | apply tc_ | exact .here | apply Take1.there) ?_
        rintro v_ give_ ⟨rfl, rfl⟩ rs_ hrs_
        simp only [List.cons_append, List.nil_append] at hrs_
        subst hrs_
        repeat (first | refine G.storeBA rfl rfl rfl rfl rfl ?_ | refine G.nil ?_ | refine GC.ret ?_ | refine GE.then_normal ?_ | refine GE.then_ret ?_ | refine GE.block_ret ?_)
        refine GE.nilvec 5 1 ?_
        refine GE.nilvec 9 1 ?_
        refine GE.ret (by first | exact .inl rfl | exact .inr rfl) (resR1 Tryz.results44 (by first | exact RV.cell rfl (eP_len _) | exact RV.cell rfl rfl | exact RV.cell1 rfl)) ⟨ao, c, none, 0, none, 0, rfl, rfl⟩ (by repeat first | exact tn_ | apply td_ rfl | apply tc_ | exact .here | apply Take1.there) (by repeat (first | exact Subs.refl | refine Subs.skip ?_))
      · rw [if_neg (fun h => c2 h.2), if_pos k3] at hR
        obtain ⟨bf, hbf⟩ : ∃ bf, (if (b.length : Int) < (A : Int) + a.d.length then long b (A + a.d.length) else b) = bf := ⟨_, rfl⟩
        repeat ((fail_if_success (refine GC.seq ?_; refine GC.region (id := 8) ?_)); first | (apply G.ex (hd := rfl); case h => (first | exact Ex.fieldB rfl | exact Ex.loadB rfl rfl | exact Ex.add rfl rfl (by omega) | exact Ex.gtr rfl rfl | exact Ex.eqI rfl rfl | exact Ex.assign rfl | exact Ex.pickT rfl (by first | assumption | omega) rfl)) | refine G.g_tt rfl rfl (by first | assumption | omega) ?_ | refine G.nil ?_ | refine GC.seq ?_ | refine GC.region ?_ | refine GC.block ?_ | refine GC.skip ?_ | refine GE.then_normal ?_ | refine GE.block_normal ?_ | refine GC.cond_yes rfl (by first | assumption | omega) ?_ | refine GC.cond_no rfl (by first | assumption | omega) ?_)
        refine GC.meet (ι := List UInt8 × Option Addr × Nat) (fun x => x.1 = bf) (fun x => [(0, ptr fb), (3, ptr ab), (4, ptr rb), (42, .int .i64 a.kind)]) (fun x => [.blk fb 93 [.slice x.2.1 x.1.length x.2.2], .vec 5 1 x.2.1 x.1.length x.2.2 (flat eB x.1), .blk ab 85 (eAc a da dc), .blk rb 81 [.int .i64 0, .int .i64 0, .int .i64 0, .slice none 0 0, .slice none 0 0], q]) rest ?_ ?_
        · repeat (first | (apply G.ex (hd := rfl); case h => (first | exact Ex.move rfl | exact Ex.nilCheck rfl | exact Ex.fieldB rfl | exact Ex.loadB rfl rfl | exact Ex.add rfl rfl (by omega) | exact Ex.gtr rfl rfl | exact Ex.lenSl rfl | exact Ex.assign rfl)) | refine G.nil ?_ | refine GC.seq ?_ | refine GC.region ?_ | refine GE.then_normal ?_)
          rw [hA]
          by_cases c4 : (b.length : Int) < (A : Int) + a.d.length
          · repeat (first | (apply G.ex (hd := rfl); case h => (first | exact Ex.move rfl)) | refine GC.region ?_ | refine GC.cond_yes rfl (by first | assumption | omega) ?_)
            rw [show (A : Int) + (a.d.length : Int) = ((A + a.d.length : Nat) : Int) by omega]
            first | refine G.call (caps := []) (long_sp fb ao c b (A + a.d.length) (by omega)) rfl rfl rfl rfl (by repeat first | exact tn_ | apply td_ rfl | apply tc_ | exact .here | apply Take1.there) ?_ | refine G.callU (caps := []) (long_sp fb ao c b (A + a.d.length) (by omega)) rfl rfl rfl (by repeat first | exact tn_ | apply td_ rfl | apply tc_ | exact .here | apply Take1.there) ?_
            rintro v_ give_ ⟨rfl, ao', c', rfl⟩ rs_ hrs_
            simp only [List.cons_append, List.nil_append] at hrs_
            subst hrs_
            repeat (first | refine G.nil ?_)
            have hll := long_len b (A + a.d.length)
            have hif : long b (A + a.d.length) = bf := by rw [← hbf, if_pos c4]
            generalize hbl : long b (A + a.d.length) = bl at hll hif ⊢
            rw [← hll]
            refine GE.meet (bl, ao', c') hif (by simp only [fits]; repeat (first | exact trivial | refine And.intro rfl ?_)) (by repeat first | exact tn_ | apply td_ rfl | apply tc_ | exact .here | apply Take1.there) (by repeat (first | exact Subs.refl | refine Subs.skip ?_))
          · repeat (first | refine GC.skip ?_ | refine GC.cond_no rfl (by first | assumption | omega) ?_)
            refine GE.meet (b, ao, c) ((if_neg c4).symm.trans hbf) (by simp only [fits]; repeat (first | exact trivial | refine And.intro rfl ?_)) (by repeat first | exact tn_ | apply td_ rfl | apply tc_ | exact .here | apply Take1.there) (by repeat (first | exact Subs.refl | refine Subs.skip ?_))
        · rintro ⟨b1, ao1, c1⟩ hb1 fr_ rs_ hfr_ hrs_
          simp only [List.cons_append, List.nil_append] at hfr_ hrs_ hb1
          subst hfr_ hrs_
          rw [← hbf] at hb1
          have hfit : A + a.d.length ≤ b1.length := by
            rw [hb1]
            split
            · rw [long_len]; exact Nat.le_refl _
            · omega
          have hR2 : R = (lay b1 a.d A, ⟨0, 0, b1.length, [], []⟩) := by
            rw [← hR, hb1]
            simp only [Int.toNat_natCast]
            rw [show ((A : Int) + (a.d.length : Int)).toNat = A + a.d.length by omega]
          subst hR2
          have hll := lay_len b1 a.d A hfit
          refine GE.len ao1 (m := b1.length) (c := c1) fun ⟨_, hmc, _⟩ => ?_
          repeat ((fail_if_success (refine GC.region (id := 11) ?_)); first | refine GE.then_normal ?_)
          refine GC.drawA [] [.blk fb 93 [.slice ao1 b1.length c1], .blk ab 85 (eAc a da dc)] (by repeat first | exact tn_ | apply td_ rfl | apply tc_ | exact .here | apply Take1.there) (by kernel_rfl) ?_
          first | (apply GA.take [] (hD := .inl rfl) (hsub := ⟨_, Takes.nil⟩) (i := 0) (hi := rfl) (hs := by kernel_rfl) (hfr := by kernel_rfl) (hr := by kernel_rfl) (hQ := np_) (hd := rfl); case hx => (first | exact Ex.move rfl))
          first | (apply GA.take [] (hD := .inl rfl) (hsub := ⟨_, Takes.nil⟩) (i := 1) (hi := rfl) (hs := by kernel_rfl) (hfr := by kernel_rfl) (hr := by kernel_rfl) (hQ := np_) (hd := rfl); case hx => (first | exact Ex.nilCheck rfl))
          first | (apply GA.take [] (hD := .inl rfl) (hsub := ⟨_, Takes.nil⟩) (i := 2) (hi := rfl) (hs := by kernel_rfl) (hfr := by kernel_rfl) (hr := by kernel_rfl) (hQ := np_) (hd := rfl); case hx => (first | exact Ex.fieldB rfl))
          first | (apply GA.take _ (hD := .inr ⟨rfl, by kernel_rfl⟩) (hsub := ⟨_, (by repeat first | exact tn_ | apply td_ rfl | apply tc_ | exact .here | apply Take1.there)⟩) (i := 3) (hi := rfl) (hs := by kernel_rfl) (hfr := by kernel_rfl) (hr := by kernel_rfl) (hQ := np_) (hd := rfl); case hx => (first | exact Ex.loadB rfl rfl))
          first | (apply GA.take [] (hD := .inl rfl) (hsub := ⟨_, Takes.nil⟩) (i := 4) (hi := rfl) (hs := by kernel_rfl) (hfr := by kernel_rfl) (hr := by kernel_rfl) (hQ := np_) (hd := rfl); case hx => (first | exact Ex.fieldB rfl))
          first | (apply GA.take _ (hD := .inr ⟨rfl, by kernel_rfl⟩) (hsub := ⟨_, (by repeat first | exact tn_ | apply td_ rfl | apply tc_ | exact .here | apply Take1.there)⟩) (i := 5) (hi := rfl) (hs := by kernel_rfl) (hfr := by kernel_rfl) (hr := by kernel_rfl) (hQ := np_) (hd := rfl); case hx => (first | exact Ex.loadB rfl rfl))
          rw [hA]
          first | (apply GA.take [] (hD := .inl rfl) (hsub := ⟨_, Takes.nil⟩) (i := 6) (hi := rfl) (hs := by kernel_rfl) (hfr := by kernel_rfl) (hr := by kernel_rfl) (hQ := np_) (hd := rfl); case hx => (first | exact Ex.slLo rfl rfl (by omega)))
          first | (apply GA.take [] (hD := .inl rfl) (hsub := ⟨_, Takes.nil⟩) (i := 7) (hi := rfl) (hs := by kernel_rfl) (hfr := by kernel_rfl) (hr := by kernel_rfl) (hQ := np_) (hd := rfl); case hx => (first | exact Ex.fieldB rfl))
          first | (apply GA.take _ (hD := .inr ⟨rfl, by kernel_rfl⟩) (hsub := ⟨_, (by repeat first | exact tn_ | apply td_ rfl | apply tc_ | exact .here | apply Take1.there)⟩) (i := 8) (hi := rfl) (hs := by kernel_rfl) (hfr := by kernel_rfl) (hr := by kernel_rfl) (hQ := np_) (hd := rfl); case hx => (first | exact Ex.loadB rfl rfl))
          refine GA.one (i := 9) (by kernel_rfl) rfl ?_
          refine G.copyIn (i := A) hfit rfl rfl rfl (fun rs_ hrs_ => ?_)
          try simp only at hrs_
          subst hrs_
          rw [laid_lay]
          try refine G.nil ?_
          refine GA.back (by first | exact .inl (by decide) | exact .inr ⟨_, (by repeat first | exact tn_ | apply td_ rfl | apply tc_ | exact .here | apply Take1.there)⟩) ?_
          refine GA.done (by kernel_rfl) ?_
          repeat (first | refine G.storeBA rfl rfl rfl rfl rfl ?_ | (apply G.ex (hd := rfl); case h => (first | exact Ex.move rfl | exact Ex.nilCheck rfl | exact Ex.fieldB rfl | exact Ex.loadB rfl rfl | exact Ex.lenSl rfl | exact Ex.build rfl rfl)) | refine G.nil ?_ | refine GC.seq ?_ | refine GC.region ?_ | refine GC.ret ?_ | refine GE.then_normal ?_ | refine GE.block_normal ?_)
          refine GE.nilvec 5 1 ?_
          refine GE.nilvec 9 1 ?_
          refine GE.ret (by first | exact .inl rfl | exact .inr rfl) (resR1 Tryz.results44 (by first | exact RV.cell rfl (eP_len _) | exact RV.cell rfl rfl | exact RV.cell1 rfl)) ⟨ao1, c1, none, 0, none, 0, rfl, by rw [hll]⟩ (by repeat first | exact tn_ | apply td_ rfl | apply tc_ | exact .here | apply Take1.there) (by repeat (first | exact Subs.refl | refine Subs.skip ?_))
    · have hc1 : (¬ a.kind = 5 ∧ ¬ inB a.at_) ∨ (¬ a.kind = 3 ∧ ¬ inB a.cnt) := .inl ⟨by omega, i1⟩
      rw [if_pos hc1] at hR
      subst hR
      repeat (first | (apply G.ex (hd := rfl); case h => (first | exact Ex.move rfl | exact Ex.fieldB rfl | exact Ex.loadB rfl rfl | exact Ex.neI rfl rfl)) | refine G.g_tt rfl rfl (by first | assumption | omega) ?_ | refine G.nil ?_ | refine GC.seq ?_ | refine GC.region ?_ | refine GC.block ?_ | refine GE.then_normal ?_)
      first | refine G.call (caps := []) (in_sp a.at_) rfl rfl rfl rfl (by repeat first | exact tn_ | apply td_ rfl | apply tc_ | exact .here | apply Take1.there) ?_ | refine G.callU (caps := []) (in_sp a.at_) rfl rfl rfl (by repeat first | exact tn_ | apply td_ rfl | apply tc_ | exact .here | apply Take1.there) ?_
      rintro v_ give_ ⟨rfl, rfl⟩ rs_ hrs_
      simp only [List.cons_append, List.nil_append] at hrs_
      subst hrs_
      rw [decide_eq_false i1]
      repeat (first | (apply G.ex (hd := rfl); case h => (first | exact Ex.assign rfl | exact Ex.notB rfl | exact Ex.pickT rfl (by first | assumption | omega) rfl)) | refine G.g_tt rfl rfl (by first | assumption | omega) ?_ | refine G.nil ?_ | refine GC.seq ?_ | refine GC.region ?_ | refine GC.skip ?_ | refine GE.then_normal ?_ | refine GC.cond_t rfl ?_)
      first | refine G.call (caps := []) (no_sp 2) rfl rfl rfl rfl (by repeat first | exact tn_ | apply td_ rfl | apply tc_ | exact .here | apply Take1.there) ?_ | refine G.callU (caps := []) (no_sp 2) rfl rfl rfl (by repeat first | exact tn_ | apply td_ rfl | apply tc_ | exact .here | apply Take1.there) ?_
      rintro v_ give_ ⟨rfl, rfl⟩ rs_ hrs_
      simp only [List.cons_append, List.nil_append] at hrs_
      subst hrs_
      repeat (first | refine G.storeBA rfl rfl rfl rfl rfl ?_ | refine G.nil ?_ | refine GC.ret ?_ | refine GE.then_normal ?_ | refine GE.then_ret ?_ | refine GE.block_ret ?_)
      refine GE.nilvec 5 1 ?_
      refine GE.nilvec 9 1 ?_
      refine GE.ret (by first | exact .inl rfl | exact .inr rfl) (resR1 Tryz.results44 (by first | exact RV.cell rfl (eP_len _) | exact RV.cell rfl rfl | exact RV.cell1 rfl)) ⟨ao, c, none, 0, none, 0, rfl, rfl⟩ (by repeat first | exact tn_ | apply td_ rfl | apply tc_ | exact .here | apply Take1.there) (by repeat (first | exact Subs.refl | refine Subs.skip ?_))
  · by_cases k5 : a.kind = 5
    · by_cases i2 : inB a.cnt
      · have hc1 : ¬ ((¬ a.kind = 5 ∧ ¬ inB a.at_) ∨ (¬ a.kind = 3 ∧ ¬ inB a.cnt)) := fun h => h.elim (fun h => h.1 k5) (fun h => h.2 i2)
        obtain ⟨C, hC⟩ : ∃ C : Nat, a.cnt = (C : Int) := ⟨a.cnt.toNat, by have := i2.1; omega⟩
        have hC2 : C ≤ 2048 := by have := i2.2; omega
        rw [if_neg hc1, if_neg (fun h => k3 h.1), if_neg k3, if_neg (by omega), hC, Int.toNat_natCast] at hR
        subst hR
        repeat (first | (apply G.ex (hd := rfl); case h => (first | exact Ex.move rfl | exact Ex.fieldB rfl | exact Ex.loadB rfl rfl | exact Ex.neI rfl rfl | exact Ex.assign rfl | exact Ex.pickF rfl (by first | assumption | omega) rfl)) | refine G.g_tt rfl rfl (by first | assumption | omega) ?_ | refine G.g_tf rfl rfl (by first | assumption | omega) rfl ?_ | refine G.nil ?_ | refine GC.seq ?_ | refine GC.region ?_ | refine GC.block ?_ | refine GE.then_normal ?_ | refine GC.cond_f rfl ?_)
        first | refine G.call (caps := []) (in_sp a.cnt) rfl rfl rfl rfl (by repeat first | exact tn_ | apply td_ rfl | apply tc_ | exact .here | apply Take1.there) ?_ | refine G.callU (caps := []) (in_sp a.cnt) rfl rfl rfl (by repeat first | exact tn_ | apply td_ rfl | apply tc_ | exact .here | apply Take1.there) ?_
        rintro v_ give_ ⟨rfl, rfl⟩ rs_ hrs_
        simp only [List.cons_append, List.nil_append] at hrs_
        subst hrs_
        rw [decide_eq_true i2]
        repeat (first | (apply G.ex (hd := rfl); case h => (first | exact Ex.move rfl | exact Ex.fieldB rfl | exact Ex.loadB rfl rfl | exact Ex.eqI rfl rfl | exact Ex.assign rfl | exact Ex.notB rfl | exact Ex.pickT rfl (by first | assumption | omega) rfl | exact Ex.pickF rfl (by first | assumption | omega) rfl)) | refine G.g_tt rfl rfl (by first | assumption | omega) ?_ | refine G.g_tf rfl rfl (by first | assumption | omega) rfl ?_ | refine G.nil ?_ | refine GC.seq ?_ | refine GC.region ?_ | refine GC.block ?_ | refine GC.skip ?_ | refine GE.then_normal ?_ | refine GE.block_normal ?_ | refine GC.cond_yes rfl (by first | assumption | omega) ?_ | refine GC.cond_no rfl (by first | assumption | omega) ?_ | refine GC.cond_f rfl ?_)
        rw [hC]
        first | refine G.call (caps := []) (long_sp fb ao c b C hC2) rfl rfl rfl rfl (by repeat first | exact tn_ | apply td_ rfl | apply tc_ | exact .here | apply Take1.there) ?_ | refine G.callU (caps := []) (long_sp fb ao c b C hC2) rfl rfl rfl (by repeat first | exact tn_ | apply td_ rfl | apply tc_ | exact .here | apply Take1.there) ?_
        rintro v_ give_ ⟨rfl, ao', c', rfl⟩ rs_ hrs_
        simp only [List.cons_append, List.nil_append] at hrs_
        subst hrs_
        repeat (first | refine G.storeBA rfl rfl rfl rfl rfl ?_ | (apply G.ex (hd := rfl); case h => (first | exact Ex.move rfl | exact Ex.nilCheck rfl | exact Ex.fieldB rfl | exact Ex.loadB rfl rfl | exact Ex.lenSl rfl | exact Ex.build rfl rfl)) | refine G.nil ?_ | refine GC.seq ?_ | refine GC.region ?_ | refine GC.ret ?_ | refine GE.then_normal ?_ | refine GE.block_normal ?_)
        refine GE.nilvec 5 1 ?_
        refine GE.nilvec 9 1 ?_
        have hll := long_len b C
        refine GE.ret (by first | exact .inl rfl | exact .inr rfl) (resR1 Tryz.results44 (by first | exact RV.cell rfl (eP_len _) | exact RV.cell rfl rfl | exact RV.cell1 rfl)) ⟨ao', c', none, 0, none, 0, rfl, by rw [hll]⟩ (by repeat first | exact tn_ | apply td_ rfl | apply tc_ | exact .here | apply Take1.there) (by repeat (first | exact Subs.refl | refine Subs.skip ?_))
      · have hc1 : (¬ a.kind = 5 ∧ ¬ inB a.at_) ∨ (¬ a.kind = 3 ∧ ¬ inB a.cnt) := .inr ⟨k3, i2⟩
        rw [if_pos hc1] at hR
        subst hR
        repeat (first | (apply G.ex (hd := rfl); case h => (first | exact Ex.move rfl | exact Ex.fieldB rfl | exact Ex.loadB rfl rfl | exact Ex.neI rfl rfl | exact Ex.assign rfl | exact Ex.pickF rfl (by first | assumption | omega) rfl)) | refine G.g_tt rfl rfl (by first | assumption | omega) ?_ | refine G.g_tf rfl rfl (by first | assumption | omega) rfl ?_ | refine G.nil ?_ | refine GC.seq ?_ | refine GC.region ?_ | refine GC.block ?_ | refine GE.then_normal ?_ | refine GC.cond_f rfl ?_)
        first | refine G.call (caps := []) (in_sp a.cnt) rfl rfl rfl rfl (by repeat first | exact tn_ | apply td_ rfl | apply tc_ | exact .here | apply Take1.there) ?_ | refine G.callU (caps := []) (in_sp a.cnt) rfl rfl rfl (by repeat first | exact tn_ | apply td_ rfl | apply tc_ | exact .here | apply Take1.there) ?_
        rintro v_ give_ ⟨rfl, rfl⟩ rs_ hrs_
        simp only [List.cons_append, List.nil_append] at hrs_
        subst hrs_
        rw [decide_eq_false i2]
        repeat (first | (apply G.ex (hd := rfl); case h => (first | exact Ex.assign rfl | exact Ex.notB rfl | exact Ex.pickT rfl (by first | assumption | omega) rfl)) | refine G.g_tt rfl rfl (by first | assumption | omega) ?_ | refine G.nil ?_ | refine GC.seq ?_ | refine GC.region ?_ | refine GE.then_normal ?_ | refine GC.cond_t rfl ?_)
        first | refine G.call (caps := []) (no_sp 2) rfl rfl rfl rfl (by repeat first | exact tn_ | apply td_ rfl | apply tc_ | exact .here | apply Take1.there) ?_ | refine G.callU (caps := []) (no_sp 2) rfl rfl rfl (by repeat first | exact tn_ | apply td_ rfl | apply tc_ | exact .here | apply Take1.there) ?_
        rintro v_ give_ ⟨rfl, rfl⟩ rs_ hrs_
        simp only [List.cons_append, List.nil_append] at hrs_
        subst hrs_
        repeat (first | refine G.storeBA rfl rfl rfl rfl rfl ?_ | refine G.nil ?_ | refine GC.ret ?_ | refine GE.then_normal ?_ | refine GE.then_ret ?_ | refine GE.block_ret ?_)
        refine GE.nilvec 5 1 ?_
        refine GE.nilvec 9 1 ?_
        refine GE.ret (by first | exact .inl rfl | exact .inr rfl) (resR1 Tryz.results44 (by first | exact RV.cell rfl (eP_len _) | exact RV.cell rfl rfl | exact RV.cell1 rfl)) ⟨ao, c, none, 0, none, 0, rfl, rfl⟩ (by repeat first | exact tn_ | apply td_ rfl | apply tc_ | exact .here | apply Take1.there) (by repeat (first | exact Subs.refl | refine Subs.skip ?_))
    · have k4 : a.kind = 4 := by omega
      by_cases i1 : inB a.at_
      · by_cases i2 : inB a.cnt
        · have hc1 : ¬ ((¬ a.kind = 5 ∧ ¬ inB a.at_) ∨ (¬ a.kind = 3 ∧ ¬ inB a.cnt)) := fun h => h.elim (fun h => h.2 i1) (fun h => h.2 i2)
          obtain ⟨C, hC⟩ : ∃ C : Nat, a.cnt = (C : Int) := ⟨a.cnt.toNat, by have := i2.1; omega⟩
          have hC2 : C ≤ 2048 := by have := i2.2; omega
          obtain ⟨A, hA⟩ : ∃ A : Nat, a.at_ = (A : Int) := ⟨a.at_.toNat, by have := i1.1; omega⟩
          have hA2 : A ≤ 2048 := by have := i1.2; omega
          obtain ⟨lo, hlo⟩ : ∃ lo, lo = min A b.length := ⟨_, rfl⟩
          obtain ⟨hi, hhi⟩ : ∃ hi, hi = min (lo + C) b.length := ⟨_, rfl⟩
          rw [if_neg hc1, if_neg (fun h => k3 h.1), if_neg k3, if_pos k4, hC, hA, Int.toNat_natCast, Int.toNat_natCast, ← hlo, ← hhi] at hR
          obtain ⟨pc, hpc⟩ : ∃ pc, pc = (b.drop lo).take (hi - lo) := ⟨_, rfl⟩
          rw [← hpc] at hR
          subst hR
          have hp : RdR (.vec 5 1 ao b.length c (flat eB b)) (subA ao c lo 1) (hi - lo) (c - lo) 1 (flat eB pc) := by
            have := RdR.piece (t := 5) (size := 1) (ao := ao) (n := b.length) (c := c) (xs := flat eB b) lo hi (by omega) (by omega)
            rwa [Nat.mul_one, Nat.mul_one, flatB_drop, flatB_take, ← hpc] at this
          have hpl : pc.length = hi - lo := by rw [hpc, List.length_take, List.length_drop]; omega
          repeat (first | (apply G.ex (hd := rfl); case h => (first | exact Ex.move rfl | exact Ex.fieldB rfl | exact Ex.loadB rfl rfl | exact Ex.neI rfl rfl)) | refine G.g_tt rfl rfl (by first | assumption | omega) ?_ | refine G.nil ?_ | refine GC.seq ?_ | refine GC.region ?_ | refine GC.block ?_ | refine GE.then_normal ?_)
          first | refine G.call (caps := []) (in_sp a.at_) rfl rfl rfl rfl (by repeat first | exact tn_ | apply td_ rfl | apply tc_ | exact .here | apply Take1.there) ?_ | refine G.callU (caps := []) (in_sp a.at_) rfl rfl rfl (by repeat first | exact tn_ | apply td_ rfl | apply tc_ | exact .here | apply Take1.there) ?_
          rintro v_ give_ ⟨rfl, rfl⟩ rs_ hrs_
          simp only [List.cons_append, List.nil_append] at hrs_
          subst hrs_
          rw [decide_eq_true i1]
          repeat (first | (apply G.ex (hd := rfl); case h => (first | exact Ex.move rfl | exact Ex.fieldB rfl | exact Ex.loadB rfl rfl | exact Ex.neI rfl rfl | exact Ex.assign rfl | exact Ex.notB rfl | exact Ex.pickT rfl (by first | assumption | omega) rfl)) | refine G.g_tt rfl rfl (by first | assumption | omega) ?_ | refine G.nil ?_ | refine GC.region ?_ | refine GE.then_normal ?_ | refine GC.cond_f rfl ?_)
          first | refine G.call (caps := []) (in_sp a.cnt) rfl rfl rfl rfl (by repeat first | exact tn_ | apply td_ rfl | apply tc_ | exact .here | apply Take1.there) ?_ | refine G.callU (caps := []) (in_sp a.cnt) rfl rfl rfl (by repeat first | exact tn_ | apply td_ rfl | apply tc_ | exact .here | apply Take1.there) ?_
          rintro v_ give_ ⟨rfl, rfl⟩ rs_ hrs_
          simp only [List.cons_append, List.nil_append] at hrs_
          subst hrs_
          rw [decide_eq_true i2]
          repeat ((fail_if_success (refine GC.region (id := 13) ?_)); first | (apply G.ex (hd := rfl); case h => (first | exact Ex.move rfl | exact Ex.fieldB rfl | exact Ex.loadB rfl rfl | exact Ex.eqI rfl rfl | exact Ex.assign rfl | exact Ex.notB rfl | exact Ex.pickT rfl (by first | assumption | omega) rfl | exact Ex.pickF rfl (by first | assumption | omega) rfl)) | refine G.g_tt rfl rfl (by first | assumption | omega) ?_ | refine G.g_tf rfl rfl (by first | assumption | omega) rfl ?_ | refine G.nil ?_ | refine GC.seq ?_ | refine GC.region ?_ | refine GC.block ?_ | refine GC.skip ?_ | refine GE.then_normal ?_ | refine GE.block_normal ?_ | refine GC.cond_yes rfl (by first | assumption | omega) ?_ | refine GC.cond_no rfl (by first | assumption | omega) ?_ | refine GC.cond_f rfl ?_)
          refine GC.len ao (m := b.length) (c := c) fun ⟨_, hmc, _⟩ => ?_
          refine GC.drawA [] [.blk fb 93 [.slice ao b.length c], .blk ab 85 (eAc a da dc)] (by repeat first | exact tn_ | apply td_ rfl | apply tc_ | exact .here | apply Take1.there) (by kernel_rfl) ?_
          first | (apply GA.take [] (hD := .inl rfl) (hsub := ⟨_, Takes.nil⟩) (i := 0) (hi := rfl) (hs := by kernel_rfl) (hfr := by kernel_rfl) (hr := by kernel_rfl) (hQ := np_) (hd := rfl); case hx => (first | exact Ex.fieldB rfl))
          first | (apply GA.take _ (hD := .inr ⟨rfl, by kernel_rfl⟩) (hsub := ⟨_, (by repeat first | exact tn_ | apply td_ rfl | apply tc_ | exact .here | apply Take1.there)⟩) (i := 1) (hi := rfl) (hs := by kernel_rfl) (hfr := by kernel_rfl) (hr := by kernel_rfl) (hQ := np_) (hd := rfl); case hx => (first | exact Ex.loadB rfl rfl))
          first | (apply GA.take [] (hD := .inl rfl) (hsub := ⟨_, Takes.nil⟩) (i := 2) (hi := rfl) (hs := by kernel_rfl) (hfr := by kernel_rfl) (hr := by kernel_rfl) (hQ := np_) (hd := rfl); case hx => (first | exact Ex.move rfl))
          first | (apply GA.take [] (hD := .inl rfl) (hsub := ⟨_, Takes.nil⟩) (i := 3) (hi := rfl) (hs := by kernel_rfl) (hfr := by kernel_rfl) (hr := by kernel_rfl) (hQ := np_) (hd := rfl); case hx => (first | exact Ex.nilCheck rfl))
          first | (apply GA.take [] (hD := .inl rfl) (hsub := ⟨_, Takes.nil⟩) (i := 4) (hi := rfl) (hs := by kernel_rfl) (hfr := by kernel_rfl) (hr := by kernel_rfl) (hQ := np_) (hd := rfl); case hx => (first | exact Ex.fieldB rfl))
          first | (apply GA.take _ (hD := .inr ⟨rfl, by kernel_rfl⟩) (hsub := ⟨_, (by repeat first | exact tn_ | apply td_ rfl | apply tc_ | exact .here | apply Take1.there)⟩) (i := 5) (hi := rfl) (hs := by kernel_rfl) (hfr := by kernel_rfl) (hr := by kernel_rfl) (hQ := np_) (hd := rfl); case hx => (first | exact Ex.loadB rfl rfl))
          first | (apply GA.take [] (hD := .inl rfl) (hsub := ⟨_, Takes.nil⟩) (i := 6) (hi := rfl) (hs := by kernel_rfl) (hfr := by kernel_rfl) (hr := by kernel_rfl) (hQ := np_) (hd := rfl); case hx => (first | exact Ex.lenSl rfl))
          rw [hA]
          first | (apply GA.take [] (hD := .inl rfl) (hsub := ⟨_, Takes.nil⟩) (i := 7) (hi := rfl) (hs := by kernel_rfl) (hfr := by kernel_rfl) (hr := by kernel_rfl) (hQ := np_) (hd := rfl); case hx => (first | exact Ex.min rfl rfl))
          rw [show min (A : Int) (b.length : Int) = (lo : Int) by omega]
          refine GA.one (i := 8) (by kernel_rfl) rfl ?_
          repeat (first | (apply G.ex (hd := rfl); case h => (first | exact Ex.assign rfl)) | refine G.nil ?_)
          try refine G.nil ?_
          refine GA.back (by first | exact .inl (by decide) | exact .inr ⟨_, (by repeat first | exact tn_ | apply td_ rfl | apply tc_ | exact .here | apply Take1.there)⟩) ?_
          refine GA.done (by kernel_rfl) ?_
          repeat ((fail_if_success (refine GC.region (id := 14) ?_)); first | refine GC.seq ?_ | refine GE.then_normal ?_)
          refine GC.drawA [] [.blk fb 93 [.slice ao b.length c], .blk ab 85 (eAc a da dc)] (by repeat first | exact tn_ | apply td_ rfl | apply tc_ | exact .here | apply Take1.there) (by kernel_rfl) ?_
          first | (apply GA.take [] (hD := .inl rfl) (hsub := ⟨_, Takes.nil⟩) (i := 0) (hi := rfl) (hs := by kernel_rfl) (hfr := by kernel_rfl) (hr := by kernel_rfl) (hQ := np_) (hd := rfl); case hx => (first | exact Ex.move rfl))
          first | (apply GA.take [] (hD := .inl rfl) (hsub := ⟨_, Takes.nil⟩) (i := 1) (hi := rfl) (hs := by kernel_rfl) (hfr := by kernel_rfl) (hr := by kernel_rfl) (hQ := np_) (hd := rfl); case hx => (first | exact Ex.nilCheck rfl))
          first | (apply GA.take [] (hD := .inl rfl) (hsub := ⟨_, Takes.nil⟩) (i := 2) (hi := rfl) (hs := by kernel_rfl) (hfr := by kernel_rfl) (hr := by kernel_rfl) (hQ := np_) (hd := rfl); case hx => (first | exact Ex.fieldB rfl))
          first | (apply GA.take _ (hD := .inr ⟨rfl, by kernel_rfl⟩) (hsub := ⟨_, (by repeat first | exact tn_ | apply td_ rfl | apply tc_ | exact .here | apply Take1.there)⟩) (i := 3) (hi := rfl) (hs := by kernel_rfl) (hfr := by kernel_rfl) (hr := by kernel_rfl) (hQ := np_) (hd := rfl); case hx => (first | exact Ex.loadB rfl rfl))
          first | (apply GA.take [] (hD := .inl rfl) (hsub := ⟨_, Takes.nil⟩) (i := 4) (hi := rfl) (hs := by kernel_rfl) (hfr := by kernel_rfl) (hr := by kernel_rfl) (hQ := np_) (hd := rfl); case hx => (first | exact Ex.move rfl))
          first | (apply GA.take [] (hD := .inl rfl) (hsub := ⟨_, Takes.nil⟩) (i := 5) (hi := rfl) (hs := by kernel_rfl) (hfr := by kernel_rfl) (hr := by kernel_rfl) (hQ := np_) (hd := rfl); case hx => (first | exact Ex.move rfl))
          first | (apply GA.take [] (hD := .inl rfl) (hsub := ⟨_, Takes.nil⟩) (i := 6) (hi := rfl) (hs := by kernel_rfl) (hfr := by kernel_rfl) (hr := by kernel_rfl) (hQ := np_) (hd := rfl); case hx => (first | exact Ex.fieldB rfl))
          first | (apply GA.take _ (hD := .inr ⟨rfl, by kernel_rfl⟩) (hsub := ⟨_, (by repeat first | exact tn_ | apply td_ rfl | apply tc_ | exact .here | apply Take1.there)⟩) (i := 7) (hi := rfl) (hs := by kernel_rfl) (hfr := by kernel_rfl) (hr := by kernel_rfl) (hQ := np_) (hd := rfl); case hx => (first | exact Ex.loadB rfl rfl))
          rw [hC]
          first | (apply GA.take [] (hD := .inl rfl) (hsub := ⟨_, Takes.nil⟩) (i := 8) (hi := rfl) (hs := by kernel_rfl) (hfr := by kernel_rfl) (hr := by kernel_rfl) (hQ := np_) (hd := rfl); case hx => (first | exact Ex.add rfl rfl (by omega)))
          first | (apply GA.take [] (hD := .inl rfl) (hsub := ⟨_, Takes.nil⟩) (i := 9) (hi := rfl) (hs := by kernel_rfl) (hfr := by kernel_rfl) (hr := by kernel_rfl) (hQ := np_) (hd := rfl); case hx => (first | exact Ex.move rfl))
          first | (apply GA.take [] (hD := .inl rfl) (hsub := ⟨_, Takes.nil⟩) (i := 10) (hi := rfl) (hs := by kernel_rfl) (hfr := by kernel_rfl) (hr := by kernel_rfl) (hQ := np_) (hd := rfl); case hx => (first | exact Ex.nilCheck rfl))
          first | (apply GA.take [] (hD := .inl rfl) (hsub := ⟨_, Takes.nil⟩) (i := 11) (hi := rfl) (hs := by kernel_rfl) (hfr := by kernel_rfl) (hr := by kernel_rfl) (hQ := np_) (hd := rfl); case hx => (first | exact Ex.fieldB rfl))
          first | (apply GA.take _ (hD := .inr ⟨rfl, by kernel_rfl⟩) (hsub := ⟨_, (by repeat first | exact tn_ | apply td_ rfl | apply tc_ | exact .here | apply Take1.there)⟩) (i := 12) (hi := rfl) (hs := by kernel_rfl) (hfr := by kernel_rfl) (hr := by kernel_rfl) (hQ := np_) (hd := rfl); case hx => (first | exact Ex.loadB rfl rfl))
          first | (apply GA.take [] (hD := .inl rfl) (hsub := ⟨_, Takes.nil⟩) (i := 13) (hi := rfl) (hs := by kernel_rfl) (hfr := by kernel_rfl) (hr := by kernel_rfl) (hQ := np_) (hd := rfl); case hx => (first | exact Ex.lenSl rfl))
          first | (apply GA.take [] (hD := .inl rfl) (hsub := ⟨_, Takes.nil⟩) (i := 14) (hi := rfl) (hs := by kernel_rfl) (hfr := by kernel_rfl) (hr := by kernel_rfl) (hQ := np_) (hd := rfl); case hx => (first | exact Ex.min rfl rfl))
          rw [show min ((lo : Int) + (C : Int)) (b.length : Int) = (hi : Int) by omega]
          first | (apply GA.take [] (hD := .inl rfl) (hsub := ⟨_, Takes.nil⟩) (i := 15) (hi := rfl) (hs := by kernel_rfl) (hfr := by kernel_rfl) (hr := by kernel_rfl) (hQ := np_) (hd := rfl); case hx => (first | exact Ex.slLH rfl rfl rfl (by omega)))
          refine GA.one (i := 16) (by kernel_rfl) rfl ?_
          first | refine G.call (caps := []) (cloneB_sp (.vec 5 1 ao b.length c (flat eB b)) (subA ao c lo 1) (hi - lo) (c - lo) pc (hr := hp) hpl (by omega)) rfl rfl rfl rfl (by repeat first | exact tn_ | apply td_ rfl | apply tc_ | exact .here | apply Take1.there) ?_ | refine G.callU (caps := []) (cloneB_sp (.vec 5 1 ao b.length c (flat eB b)) (subA ao c lo 1) (hi - lo) (c - lo) pc (hr := hp) hpl (by omega)) rfl rfl rfl (by repeat first | exact tn_ | apply td_ rfl | apply tc_ | exact .here | apply Take1.there) ?_
          rintro v_ give_ ⟨sa, sc, rfl, rfl⟩ rs_ hrs_
          simp only [List.cons_append, List.nil_append] at hrs_
          subst hrs_
          try refine G.nil ?_
          refine GA.back (by first | exact .inl (by decide) | exact .inr ⟨_, (by repeat first | exact tn_ | apply td_ rfl | apply tc_ | exact .here | apply Take1.there)⟩) ?_
          first | (apply GA.take [] (hD := .inl rfl) (hsub := ⟨_, Takes.nil⟩) (i := 17) (hi := rfl) (hs := by kernel_rfl) (hfr := by kernel_rfl) (hr := by kernel_rfl) (hQ := np_) (hd := rfl); case hx => (first | exact Ex.build rfl rfl))
          refine GA.one (i := 18) (by kernel_rfl) rfl ?_
          repeat (first | refine G.storeBA rfl rfl rfl rfl rfl ?_ | refine G.nil ?_)
          try refine G.nil ?_
          refine GA.back (by first | exact .inl (by decide) | exact .inr ⟨_, (by repeat first | exact tn_ | apply td_ rfl | apply tc_ | exact .here | apply Take1.there)⟩) ?_
          refine GA.done (by kernel_rfl) ?_
          repeat (first | refine GC.ret ?_ | refine GE.then_normal ?_ | refine GE.then_ret ?_ | refine GE.block_ret ?_)
          clear hp
          refine GE.nilvec 9 1 ?_
          rw [← hpl]
          refine GE.ret (by first | exact .inl rfl | exact .inr rfl) (resR1 Tryz.results44 (by first | exact RV.cell rfl (eP_len _) | exact RV.cell rfl rfl | exact RV.cell1 rfl)) ⟨ao, c, sa, sc, none, 0, rfl, rfl⟩ (by repeat first | exact tn_ | apply td_ rfl | apply tc_ | exact .here | apply Take1.there) (by repeat (first | exact Subs.refl | refine Subs.skip ?_))
        · have hc1 : (¬ a.kind = 5 ∧ ¬ inB a.at_) ∨ (¬ a.kind = 3 ∧ ¬ inB a.cnt) := .inr ⟨k3, i2⟩
          rw [if_pos hc1] at hR
          subst hR
          repeat (first | (apply G.ex (hd := rfl); case h => (first | exact Ex.move rfl | exact Ex.fieldB rfl | exact Ex.loadB rfl rfl | exact Ex.neI rfl rfl)) | refine G.g_tt rfl rfl (by first | assumption | omega) ?_ | refine G.nil ?_ | refine GC.seq ?_ | refine GC.region ?_ | refine GC.block ?_ | refine GE.then_normal ?_)
          first | refine G.call (caps := []) (in_sp a.at_) rfl rfl rfl rfl (by repeat first | exact tn_ | apply td_ rfl | apply tc_ | exact .here | apply Take1.there) ?_ | refine G.callU (caps := []) (in_sp a.at_) rfl rfl rfl (by repeat first | exact tn_ | apply td_ rfl | apply tc_ | exact .here | apply Take1.there) ?_
          rintro v_ give_ ⟨rfl, rfl⟩ rs_ hrs_
          simp only [List.cons_append, List.nil_append] at hrs_
          subst hrs_
          rw [decide_eq_true i1]
          repeat (first | (apply G.ex (hd := rfl); case h => (first | exact Ex.move rfl | exact Ex.fieldB rfl | exact Ex.loadB rfl rfl | exact Ex.neI rfl rfl | exact Ex.assign rfl | exact Ex.notB rfl | exact Ex.pickT rfl (by first | assumption | omega) rfl)) | refine G.g_tt rfl rfl (by first | assumption | omega) ?_ | refine G.nil ?_ | refine GC.region ?_ | refine GE.then_normal ?_ | refine GC.cond_f rfl ?_)
          first | refine G.call (caps := []) (in_sp a.cnt) rfl rfl rfl rfl (by repeat first | exact tn_ | apply td_ rfl | apply tc_ | exact .here | apply Take1.there) ?_ | refine G.callU (caps := []) (in_sp a.cnt) rfl rfl rfl (by repeat first | exact tn_ | apply td_ rfl | apply tc_ | exact .here | apply Take1.there) ?_
          rintro v_ give_ ⟨rfl, rfl⟩ rs_ hrs_
          simp only [List.cons_append, List.nil_append] at hrs_
          subst hrs_
          rw [decide_eq_false i2]
          repeat (first | (apply G.ex (hd := rfl); case h => (first | exact Ex.assign rfl | exact Ex.notB rfl | exact Ex.pickT rfl (by first | assumption | omega) rfl)) | refine G.g_tt rfl rfl (by first | assumption | omega) ?_ | refine G.nil ?_ | refine GC.seq ?_ | refine GC.region ?_ | refine GE.then_normal ?_ | refine GC.cond_t rfl ?_)
          first | refine G.call (caps := []) (no_sp 2) rfl rfl rfl rfl (by repeat first | exact tn_ | apply td_ rfl | apply tc_ | exact .here | apply Take1.there) ?_ | refine G.callU (caps := []) (no_sp 2) rfl rfl rfl (by repeat first | exact tn_ | apply td_ rfl | apply tc_ | exact .here | apply Take1.there) ?_
          rintro v_ give_ ⟨rfl, rfl⟩ rs_ hrs_
          simp only [List.cons_append, List.nil_append] at hrs_
          subst hrs_
          repeat (first | refine G.storeBA rfl rfl rfl rfl rfl ?_ | refine G.nil ?_ | refine GC.ret ?_ | refine GE.then_normal ?_ | refine GE.then_ret ?_ | refine GE.block_ret ?_)
          refine GE.nilvec 5 1 ?_
          refine GE.nilvec 9 1 ?_
          refine GE.ret (by first | exact .inl rfl | exact .inr rfl) (resR1 Tryz.results44 (by first | exact RV.cell rfl (eP_len _) | exact RV.cell rfl rfl | exact RV.cell1 rfl)) ⟨ao, c, none, 0, none, 0, rfl, rfl⟩ (by repeat first | exact tn_ | apply td_ rfl | apply tc_ | exact .here | apply Take1.there) (by repeat (first | exact Subs.refl | refine Subs.skip ?_))
      · have hc1 : (¬ a.kind = 5 ∧ ¬ inB a.at_) ∨ (¬ a.kind = 3 ∧ ¬ inB a.cnt) := .inl ⟨k5, i1⟩
        rw [if_pos hc1] at hR
        subst hR
        repeat (first | (apply G.ex (hd := rfl); case h => (first | exact Ex.move rfl | exact Ex.fieldB rfl | exact Ex.loadB rfl rfl | exact Ex.neI rfl rfl)) | refine G.g_tt rfl rfl (by first | assumption | omega) ?_ | refine G.nil ?_ | refine GC.seq ?_ | refine GC.region ?_ | refine GC.block ?_ | refine GE.then_normal ?_)
        first | refine G.call (caps := []) (in_sp a.at_) rfl rfl rfl rfl (by repeat first | exact tn_ | apply td_ rfl | apply tc_ | exact .here | apply Take1.there) ?_ | refine G.callU (caps := []) (in_sp a.at_) rfl rfl rfl (by repeat first | exact tn_ | apply td_ rfl | apply tc_ | exact .here | apply Take1.there) ?_
        rintro v_ give_ ⟨rfl, rfl⟩ rs_ hrs_
        simp only [List.cons_append, List.nil_append] at hrs_
        subst hrs_
        rw [decide_eq_false i1]
        repeat (first | (apply G.ex (hd := rfl); case h => (first | exact Ex.assign rfl | exact Ex.notB rfl | exact Ex.pickT rfl (by first | assumption | omega) rfl)) | refine G.g_tt rfl rfl (by first | assumption | omega) ?_ | refine G.nil ?_ | refine GC.seq ?_ | refine GC.region ?_ | refine GC.skip ?_ | refine GE.then_normal ?_ | refine GC.cond_t rfl ?_)
        first | refine G.call (caps := []) (no_sp 2) rfl rfl rfl rfl (by repeat first | exact tn_ | apply td_ rfl | apply tc_ | exact .here | apply Take1.there) ?_ | refine G.callU (caps := []) (no_sp 2) rfl rfl rfl (by repeat first | exact tn_ | apply td_ rfl | apply tc_ | exact .here | apply Take1.there) ?_
        rintro v_ give_ ⟨rfl, rfl⟩ rs_ hrs_
        simp only [List.cons_append, List.nil_append] at hrs_
        subst hrs_
        repeat (first | refine G.storeBA rfl rfl rfl rfl rfl ?_ | refine G.nil ?_ | refine GC.ret ?_ | refine GE.then_normal ?_ | refine GE.then_ret ?_ | refine GE.block_ret ?_)
        refine GE.nilvec 5 1 ?_
        refine GE.nilvec 9 1 ?_
        refine GE.ret (by first | exact .inl rfl | exact .inr rfl) (resR1 Tryz.results44 (by first | exact RV.cell rfl (eP_len _) | exact RV.cell rfl rfl | exact RV.cell1 rfl)) ⟨ao, c, none, 0, none, 0, rfl, rfl⟩ (by repeat first | exact tn_ | apply td_ rfl | apply tc_ | exact .here | apply Take1.there) (by repeat (first | exact Subs.refl | refine Subs.skip ?_))
end tree
end Go.Proofs.YtmceappjldcbmaaGreatDoor
/-
  CONTRACTS of maps.Keys and slices.Sorted at a directory's names, out of the library's shelf; of a tree's at.
-/
namespace Go.Proofs.YtmceappjldcbmaaGreatDoor
open Go.RowKit
attribute [local irreducible] Ex G GC GE Gq FPost LPost
set_option linter.unusedVariables false
set_option linter.unusedSimpArgs false
namespace tree
open path
theorem keys_sp (m : Nat) : Spec Tryz.prog 43 [.map (some m)] [] fun v give => ∃ kb, v = .func (.func 52) #[] #[.pointer (some (badr kb 0))] ∧ give = [.blk kb 74 [.map (some m)]] := by
  refine Spec.intro Tryz.func43 rfl Tryz.ntmps43 rfl fun w0 rest rs_ hrs_ => ?_
  simp only [List.cons_append, List.nil_append] at hrs_
  subst hrs_
  repeat (first | refine GC.seq ?_ | refine GC.region ?_)
  refine G.box rfl rfl rfl (fun kb => ?_)
  repeat (first | (apply G.ex (hd := rfl); case h => (first | exact Ex.assign rfl | exact Ex.mkFunc rfl)) | refine G.nil ?_ | refine GC.seq ?_ | refine GC.region ?_ | refine GC.ret ?_ | refine GE.then_normal ?_)
  refine GE.ret (by first | exact .inl rfl | exact .inr rfl) (res1 Tryz.results43 rfl) ⟨kb, rfl, rfl⟩ (by repeat first | exact tn_ | apply td_ rfl | apply tc_ | exact .here | apply Take1.there) (by repeat (first | exact Subs.refl | refine Subs.skip ?_))
theorem map_own {P : Program} {k : TypeId} (hk : P.underlying k = some .string) {w : World} {m : Nat} {L : NV} {bs : List Nat} {clk : Nat} (h : MapW w m L bs clk) (hn : (L.map (·.1)).Nodup) (hs : ∀ e ∈ L, e.1.length ≤ 16) (hm : L.length ≤ maxLen) :
    ∃ D : DataW Unit, w.ownsMap P k (fun _ => some (.nil, [])) m L.length D ∧ (strKeys D).Perm (L.map (·.1)) ∧ Maps.size D = L.length := by
  obtain ⟨h1, h2, h3, h4⟩ := h
  have hkey : ∀ x ∈ entB L bs, ∃ e ∈ L, Go.WideElems.rd (H := Unit) P k (fun _ => some (.nil, [])) x = some (.string e.1, .nil) := fun x hx => by
    obtain ⟨j, hj, hj', rfl⟩ := entB_mem h2 hx
    refine ⟨L[j], List.getElem_mem hj, ?_⟩
    have := hs _ (List.getElem_mem hj)
    unfold Go.WideElems.rd eNm
    rw [Go.WideMaps.keyOf_string_mk hk (by rw [sOf_size]; unfold maxLen; omega)]
    rfl
  have hborn : ∀ {L : NV} {bs : List Nat}, bs.length = L.length → (entB L bs).map (·.born) = bs := by
    intro L
    induction L with
    | nil => intro bs e; cases bs with
      | nil => rfl
      | cons => exact nomatch e
    | cons a t ih => intro bs e; cases bs with
      | nil => exact nomatch e
      | cons c bs => exact congrArg (c :: ·) (ih (Nat.succ.inj e))
  have hkeys : ∀ {L : NV} {bs : List Nat}, bs.length = L.length → (entB L bs).map (·.key) = (L.map (·.1)).map eNm := by
    intro L
    induction L with
    | nil => intro bs e; cases bs with
      | nil => rfl
      | cons => exact nomatch e
    | cons a t ih => intro bs e; cases bs with
      | nil => exact nomatch e
      | cons c bs => exact congrArg (_ :: ·) (ih (Nat.succ.inj e))
  have hrg : ∀ {L : NV} {bs : List Nat}, (∀ e ∈ L, e.1.length ≤ 16) → bs.length = L.length → (entB L bs).map (Go.WideElems.rg (H := Unit) P k fun _ => some (.nil, [])) = L.map fun e => (.string e.1, .nil) := by
    intro L
    induction L with
    | nil => intro bs _ e; cases bs with
      | nil => rfl
      | cons => exact nomatch e
    | cons a t ih => intro bs hs e; cases bs with
      | nil => exact nomatch e
      | cons c bs =>
        have ha := hs a (List.mem_cons_self ..)
        have e1 : Go.WideElems.rg (H := Unit) P k (fun _ => some (.nil, [])) ⟨eNm a.1, a.2, c⟩ = (.string a.1, .nil) := by
          unfold Go.WideElems.rg Go.WideElems.rd eNm
          rw [Go.WideMaps.keyOf_string_mk hk (by rw [sOf_size]; unfold maxLen; omega)]
          rfl
        show _ :: _ = _ :: _
        rw [e1]
        exact congrArg (_ :: ·) (ih (fun e he => hs e (List.mem_cons_of_mem _ he)) (Nat.succ.inj e))
  refine ⟨.map ((L.map fun e => (Lit.string e.1, DataW.nil)).foldr DataW.insert []), ⟨(entB L bs).toArray, clk, h1, ⟨by simp [entB_len h2]; exact hm, ⟨fun x hx => ?_, ?_, ?_⟩, fun x hx => ?_⟩, by simp [entB_len h2], ?_⟩, ?_, ?_⟩
  · obtain ⟨j, hj, hj', rfl⟩ := entB_mem h2 (by simpa using hx)
    exact h3 _ (List.getElem_mem hj')
  · rw [List.toList_toArray, hborn h2]; exact h4
  · rw [List.toList_toArray, hkeys h2]
    exact List.Pairwise.map eNm (fun a b hab e => hab (sOf_inj.1 (by injection e))) hn
  · obtain ⟨e, _, he⟩ := hkey x (by simpa using hx)
    exact ⟨_, he⟩
  · rw [List.toList_toArray, hrg hs h2]
  · have := (Go.WideShapes.sorted_perm (L.map fun e => (Lit.string e.1, (DataW.nil : DataW Unit)))).map fun p => Go.strOf p.1
    rw [List.map_map] at this
    exact this
  · have := (Go.WideShapes.sorted_perm (L.map fun e => (Lit.string e.1, (DataW.nil : DataW Unit)))).length_eq
    rw [List.length_map] at this
    exact this
theorem encStr_flat (l : List Nm) : l.map Go.Proofs.encStr = flat eO l := by
  induction l with
  | nil => rfl
  | cons a t ih => show _ :: _ = _ :: _; rw [ih]; rfl
theorem perm_eq {le : Nm → Nm → Prop} (anti : ∀ a b, le a b → le b a → a = b) : ∀ {a b : List Nm}, a.Perm b → a.Pairwise le → b.Pairwise le → a = b
  | [], b, h, _, _ => (List.nil_perm.1 h).symm
  | x :: a, [], h, _, _ => absurd h.length_eq (by simp)
  | x :: a, y :: b, h, ha, hb => by
    have hxy : x = y := by
      rcases List.mem_cons.1 (h.mem_iff.1 (List.mem_cons_self ..)) with e | hx
      · exact e
      · rcases List.mem_cons.1 (h.mem_iff.2 (List.mem_cons_self ..)) with e | hy
        · exact e.symm
        · exact anti _ _ ((List.pairwise_cons.1 ha).1 y hy) ((List.pairwise_cons.1 hb).1 x hx)
    subst hxy
    rw [perm_eq anti (List.perm_cons x |>.1 h) (List.pairwise_cons.1 ha).2 (List.pairwise_cons.1 hb).2]
theorem leN_iff (a b : Nm) : leN a b = true ↔ a ≤ b := by unfold leN; exact decide_eq_true_iff
theorem sorted_pw (l : List Nm) : (sorted l).Pairwise fun a b => a ≤ b := by
  have := List.pairwise_mergeSort (le := leN) (fun a b c h1 h2 => (leN_iff _ _).2 (List.le_trans ((leN_iff _ _).1 h1) ((leN_iff _ _).1 h2))) (fun a b => by
    rcases List.le_total a b with h | h
    · rw [(leN_iff a b).2 h]; rfl
    · rw [(leN_iff b a).2 h, Bool.or_true]) l
  exact this.imp fun {a b} h => (leN_iff a b).1 h
theorem sorted_perm (l : List Nm) : (sorted l).Perm l := List.mergeSort_perm l leN
theorem sorted_congr {l l' : List Nm} (h : l.Perm l') : sorted l = sorted l' :=
  perm_eq (fun a b h1 h2 => List.le_antisymm h1 h2) ((sorted_perm l).trans (h.trans (sorted_perm l').symm)) (sorted_pw l) (sorted_pw l')
theorem sorted_sp (T : Tr) (L : Nat → Loc) (k : TrOk T) (i : Nat) {l : List (Nm × Nat)} (hi : T.nd i = .dir l) (hl : l.length ≤ 100) (kb : Nat) :
    Spec Tryz.prog 42 [.func (.func 52) #[] #[.pointer (some (badr kb 0))]] [.blk kb 74 [.map (some (L i).m)], .own (NodesR T L)]
      fun v give => ∃ ao c, v = .slice ao (sorted (l.map (·.1))).length c ∧ give = [.vec 9 1 ao (sorted (l.map (·.1))).length c (flat eO (sorted (l.map (·.1)))), .own (NodesR T L)] := by
  intro w0 rest w H
  have hm := own_map (w0 := w0) (rs := [.blk kb 74 [.map (some (L i).m)], .own (NodesR T L)] ++ rest) (T := T) (L := L) (i := i) (List.mem_cons_of_mem _ (List.mem_cons_self ..)) hi w H
  have hkm : (entV (val T L) l).map (·.1) = l.map (·.1) := by unfold entV; rw [List.map_map]; rfl
  have hlen : (entV (val T L) l).length = l.length := List.length_map ..
  obtain ⟨D, hD, hp, hsz⟩ := map_own (P := Tryz.prog) (k := 9) Tryz.underlying9 hm (by rw [hkm]; exact k.nodup i l hi) (fun e he => by
    obtain ⟨q, hq, rfl⟩ := List.mem_map.1 he
    exact (k.ins i l hi q.1 q.2 hq).2.2.2.1) (by rw [hlen]; unfold maxLen; omega)
  have hkb : w.heap[kb]? = some (.cells #[.map (some (L i).m)] 74 (0, 0)) := H.at (List.mem_cons_self ..)
  have hc := callsIn_wide.1 (Tryz.sortedK kb (L i).m _ D _ w (Array.getElem?_eq_some_iff.1 hkb).1 (cell_of_blk hkb rfl) hD (by rw [hsz, hlen]; unfold maxLen; omega) (by rw [hsz, hlen]; omega))
  refine hc.mono ?_
  rintro e w' ⟨v, ss, rfl, hss, hrow, hnil, hb⟩
  have hsp : ss.mergeSort leN = sorted (l.map (·.1)) := sorted_congr (hss.trans (by rw [← hkm]; exact hp))
  have hll : ss.length = (sorted (l.map (·.1))).length := by rw [← hsp, List.length_mergeSort]
  have hrow' : w'.ownsRow w.heap.size 9 1 v ss.length (flat eO (sorted (l.map (·.1)))) := by
    rw [← hsp, ← encStr_flat]; exact hrow
  clear hrow
  rw [hll] at hrow'
  generalize sorted (l.map (·.1)) = sl at *
  obtain ⟨r1, ⟨rfl, r2⟩ | ⟨g, cap, cur, rfl, r2, r3, r4, r5, r6, r7⟩⟩ := hrow'
  · obtain rfl : sl = [] := List.eq_nil_of_length_eq_zero r2
    refine ⟨_, _, ⟨none, 0, rfl, rfl⟩, rfl, ?_⟩
    exact (Holds.nilvec 9 1 (H.kept hb).tail)
  · refine ⟨_, _, ⟨some ⟨g, 0, none⟩, cap, rfl, rfl⟩, rfl, ?_⟩
    refine Holds.add (w := w) H.tail hb.os hb.tape hb.output hb.size (fun q hq => hb.block q hq) (Hp.one g (.cells cur 9 (0, 0))) (Hp.one_le r3) (fun q hq => Hp.one_ne _ (by omega)) (fun f _ => ?_)
    refine ⟨r1, flat_one' (inferInstance : Enc eO 1) _, .inr ⟨g, 0, cur, rfl, Hp.one_self _ _, r4, r5, by omega, by rw [List.drop_zero]; exact r7⟩⟩
end tree
end Go.Proofs.YtmceappjldcbmaaGreatDoor
/-
  CONTRACT of a tree's at, by the kit.
-/
namespace Go.Proofs.YtmceappjldcbmaaGreatDoor
open Go.RowKit
attribute [local irreducible] Ex G GC GE Gq FPost LPost
set_option linter.unusedVariables false
set_option linter.unusedSimpArgs false
namespace tree
open path
set_option maxHeartbeats 8000000 in
theorem at_sp (T : Tr) (L : Nat → Loc) (bt : Nat) (k : TrOk T) (cn : Cnt T) (i : Nat) (hi : i < T.ns.length) (hnl : ∀ to, T.nd i ≠ .link to) (a : Ac) (q : Res) (da : Option Addr) (dc : Nat) [RdR q da a.d.length dc 1 (flat eB a.d)] (hd : a.d.length ≤ 1000000) (hk : 3 ≤ a.kind ∧ a.kind ≤ 7) :
    Spec Tryz.prog 34 [val T L i, .agg (eAc a da dc).toArray] [TreeB T L bt, .own (NodesR T L), q] fun v give => ∃ L', SnP (atF T i a).2 [TreeB (atF T i a).1 L' bt, .own (NodesR (atF T i a).1 L'), q] v give := by
  obtain ⟨R, hR⟩ : ∃ R, atF T i a = R := ⟨_, rfl⟩
  rw [hR]
  unfold atF at hR
  refine Spec.intro Tryz.func34 rfl Tryz.ntmps34 rfl fun w0 rest rs_ hrs_ => ?_
  simp only [List.cons_append, List.nil_append] at hrs_
  subst hrs_
  repeat (first | refine GC.seq ?_ | refine GC.region ?_)
  refine G.box (cs := eAc a da dc) rfl rfl rfl fun ab => ?_
  repeat (first | fail)
  refine G.alloc rfl (fun rb => ?_)
  cases hnd : T.nd i with
  | dir l =>
    have hl := names_few k cn hnd
    rw [val_dir hnd]
    simp only [hnd] at hR
    repeat (first | (apply G.ex (hd := rfl); case h => (first | exact Ex.move rfl | exact Ex.fieldB rfl | exact Ex.loadB rfl rfl | exact Ex.eqI rfl rfl | exact Ex.extract rfl rfl | exact Ex.assign rfl | exact Ex.asYes rfl | exact Ex.asNo rfl rfl)) | refine G.nil ?_ | refine GC.seq ?_ | refine GC.region ?_ | refine GC.block ?_ | refine GE.then_normal ?_)
    by_cases k7 : a.kind = 7
    · rw [if_pos k7] at hR
      subst hR
      repeat (first | (apply G.ex (hd := rfl); case h => (first | exact Ex.move rfl | exact Ex.nilCheck rfl | exact Ex.fieldB rfl | exact Ex.notB rfl)) | refine G.nil ?_ | refine GC.seq ?_ | refine GC.region ?_ | refine GC.skip ?_ | refine GE.then_normal ?_ | refine GC.cond_yes rfl (by first | assumption | omega) ?_ | refine GC.cond_f rfl ?_)
      refine G.ex (Ex.loadH rfl (own_dir (i := i) (T := T) (L := L) (by simp) hnd)) rfl ?_
      first | refine G.call (caps := []) (keys_sp (L i).m) rfl rfl rfl rfl (by repeat first | exact tn_ | apply td_ rfl | apply tc_ | exact .here | apply Take1.there) ?_ | refine G.callU (caps := []) (keys_sp (L i).m) rfl rfl rfl (by repeat first | exact tn_ | apply td_ rfl | apply tc_ | exact .here | apply Take1.there) ?_
      rintro v_ give_ ⟨kb, rfl, rfl⟩ rs_ hrs_
      simp only [List.cons_append, List.nil_append] at hrs_
      subst hrs_
      first | refine G.call (caps := []) (sorted_sp T L k i hnd (by omega) kb) rfl rfl rfl rfl (by repeat first | exact tn_ | apply td_ rfl | apply tc_ | exact .here | apply Take1.there) ?_ | refine G.callU (caps := []) (sorted_sp T L k i hnd (by omega) kb) rfl rfl rfl (by repeat first | exact tn_ | apply td_ rfl | apply tc_ | exact .here | apply Take1.there) ?_
      rintro v_ give_ ⟨sa, sc, rfl, rfl⟩ rs_ hrs_
      simp only [List.cons_append, List.nil_append] at hrs_
      subst hrs_
      repeat (first | refine G.storeBA rfl rfl rfl rfl rfl ?_ | (apply G.ex (hd := rfl); case h => (first | exact Ex.build rfl rfl)) | refine G.nil ?_ | refine GC.ret ?_ | refine GE.then_normal ?_ | refine GE.then_ret ?_ | refine GE.block_ret ?_)
      refine GE.nilvec 5 1 ?_
      refine GE.ret (by first | exact .inl rfl | exact .inr rfl) (resR1 Tryz.results34 (by first | exact RV.cell rfl (eP_len _) | exact RV.cell rfl rfl | exact RV.cell1 rfl)) ⟨L, none, 0, sa, sc, rfl, rfl⟩ (by repeat first | exact tn_ | apply td_ rfl | apply tc_ | exact .here | apply Take1.there) (by repeat (first | exact Subs.refl | refine Subs.skip ?_))
    · rw [if_neg k7] at hR
      by_cases k6 : a.kind = 6
      · rw [if_pos k6] at hR
        subst hR
        repeat (first | (apply G.ex (hd := rfl); case h => (first | exact Ex.move rfl | exact Ex.nilCheck rfl | exact Ex.fieldB rfl | exact Ex.eqI rfl rfl | exact Ex.assign rfl)) | refine G.nil ?_ | refine GC.seq ?_ | refine GC.region ?_ | refine GE.then_normal ?_ | refine GC.cond_yes rfl (by first | assumption | omega) ?_ | refine GC.cond_no rfl (by first | assumption | omega) ?_ | refine GC.cond_t rfl ?_)
        refine G.ex (Ex.loadH rfl (own_dir (i := i) (T := T) (L := L) (by simp) hnd)) rfl ?_
        refine G.ex (Ex.lenMapH rfl (own_map (i := i) (T := T) (L := L) (by simp) hnd)) rfl ?_
        rw [show (entV (val T L) l).length = l.length from List.length_map ..]
        repeat (first | refine G.storeBA rfl rfl rfl rfl rfl ?_ | (apply G.ex (hd := rfl); case h => (first | exact Ex.build rfl rfl)) | refine G.nil ?_ | refine GC.ret ?_ | refine GE.then_normal ?_ | refine GE.then_ret ?_ | refine GE.block_ret ?_)
        refine GE.nilvec 5 1 ?_
        refine GE.nilvec 9 1 ?_
        refine GE.ret (by first | exact .inl rfl | exact .inr rfl) (resR1 Tryz.results34 (by first | exact RV.cell rfl (eP_len _) | exact RV.cell rfl rfl | exact RV.cell1 rfl)) ⟨L, none, 0, none, 0, rfl, rfl⟩ (by repeat first | exact tn_ | apply td_ rfl | apply tc_ | exact .here | apply Take1.there) (by repeat (first | exact Subs.refl | refine Subs.skip ?_))
      · rw [if_neg k6] at hR
        subst hR
        repeat (first | (apply G.ex (hd := rfl); case h => (first | exact Ex.move rfl | exact Ex.eqI rfl rfl | exact Ex.assign rfl)) | refine G.nil ?_ | refine GC.seq ?_ | refine GC.region ?_ | refine GC.skip ?_ | refine GE.then_normal ?_ | refine GE.block_normal ?_ | refine GC.cond_no rfl (by first | assumption | omega) ?_ | refine GC.cond_t rfl ?_)
        first | refine G.call (caps := []) (no_sp 14) rfl rfl rfl rfl (by repeat first | exact tn_ | apply td_ rfl | apply tc_ | exact .here | apply Take1.there) ?_ | refine G.callU (caps := []) (no_sp 14) rfl rfl rfl (by repeat first | exact tn_ | apply td_ rfl | apply tc_ | exact .here | apply Take1.there) ?_
        rintro v_ give_ ⟨rfl, rfl⟩ rs_ hrs_
        simp only [List.cons_append, List.nil_append] at hrs_
        subst hrs_
        repeat (first | refine G.storeBA rfl rfl rfl rfl rfl ?_ | refine G.nil ?_ | refine GC.ret ?_ | refine GE.then_normal ?_ | refine GE.then_ret ?_)
        refine GE.nilvec 5 1 ?_
        refine GE.nilvec 9 1 ?_
        refine GE.ret (by first | exact .inl rfl | exact .inr rfl) (resR1 Tryz.results34 (by first | exact RV.cell rfl (eP_len _) | exact RV.cell rfl rfl | exact RV.cell1 rfl)) ⟨L, none, 0, none, 0, rfl, rfl⟩ (by repeat first | exact tn_ | apply td_ rfl | apply tc_ | exact .here | apply Take1.there) (by repeat (first | exact Subs.refl | refine Subs.skip ?_))
  | file d =>
    rw [val_file hnd]
    simp only [hnd] at hR
    repeat (first | (apply G.ex (hd := rfl); case h => (first | exact Ex.move rfl | exact Ex.fieldB rfl | exact Ex.loadB rfl rfl | exact Ex.eqI rfl rfl | exact Ex.extract rfl rfl | exact Ex.assign rfl | exact Ex.asYes rfl | exact Ex.asNo rfl rfl)) | refine G.nil ?_ | refine GC.seq ?_ | refine GC.region ?_ | refine GC.block ?_ | refine GE.then_normal ?_)
    by_cases k7 : a.kind = 7
    · rw [if_pos k7] at hR
      subst hR
      repeat (first | (apply G.ex (hd := rfl); case h => (first | exact Ex.move rfl | exact Ex.notB rfl)) | refine G.nil ?_ | refine GC.seq ?_ | refine GC.region ?_ | refine GE.then_normal ?_ | refine GC.cond_yes rfl (by first | assumption | omega) ?_ | refine GC.cond_t rfl ?_)
      first | refine G.call (caps := []) (no_sp 15) rfl rfl rfl rfl (by repeat first | exact tn_ | apply td_ rfl | apply tc_ | exact .here | apply Take1.there) ?_ | refine G.callU (caps := []) (no_sp 15) rfl rfl rfl (by repeat first | exact tn_ | apply td_ rfl | apply tc_ | exact .here | apply Take1.there) ?_
      rintro v_ give_ ⟨rfl, rfl⟩ rs_ hrs_
      simp only [List.cons_append, List.nil_append] at hrs_
      subst hrs_
      repeat (first | refine G.storeBA rfl rfl rfl rfl rfl ?_ | refine G.nil ?_ | refine GC.ret ?_ | refine GE.then_normal ?_ | refine GE.then_ret ?_ | refine GE.block_ret ?_)
      refine GE.nilvec 5 1 ?_
      refine GE.nilvec 9 1 ?_
      refine GE.ret (by first | exact .inl rfl | exact .inr rfl) (resR1 Tryz.results34 (by first | exact RV.cell rfl (eP_len _) | exact RV.cell rfl rfl | exact RV.cell1 rfl)) ⟨L, none, 0, none, 0, rfl, rfl⟩ (by repeat first | exact tn_ | apply td_ rfl | apply tc_ | exact .here | apply Take1.there) (by repeat (first | exact Subs.refl | refine Subs.skip ?_))
    · rw [if_neg k7] at hR
      by_cases k6 : a.kind = 6
      · rw [if_pos k6] at hR
        subst hR
        repeat (first | (apply G.ex (hd := rfl); case h => (first | exact Ex.move rfl | exact Ex.nilCheck rfl | exact Ex.fieldB rfl | exact Ex.eqI rfl rfl | exact Ex.assign rfl)) | refine G.nil ?_ | refine GC.seq ?_ | refine GC.region ?_ | refine GC.skip ?_ | refine GE.then_normal ?_ | refine GC.cond_yes rfl (by first | assumption | omega) ?_ | refine GC.cond_no rfl (by first | assumption | omega) ?_ | refine GC.cond_f rfl ?_)
        refine G.ex (Ex.loadH rfl (own_file (i := i) (T := T) (L := L) (by simp) hi hnd)) rfl ?_
        repeat (first | refine G.storeBA rfl rfl rfl rfl rfl ?_ | (apply G.ex (hd := rfl); case h => (first | exact Ex.lenSl rfl | exact Ex.build rfl rfl)) | refine G.nil ?_ | refine GC.ret ?_ | refine GE.then_normal ?_ | refine GE.then_ret ?_ | refine GE.block_ret ?_)
        refine GE.nilvec 5 1 ?_
        refine GE.nilvec 9 1 ?_
        refine GE.ret (by first | exact .inl rfl | exact .inr rfl) (resR1 Tryz.results34 (by first | exact RV.cell rfl (eP_len _) | exact RV.cell rfl rfl | exact RV.cell1 rfl)) ⟨L, none, 0, none, 0, rfl, rfl⟩ (by repeat first | exact tn_ | apply td_ rfl | apply tc_ | exact .here | apply Take1.there) (by repeat (first | exact Subs.refl | refine Subs.skip ?_))
      · rw [if_neg k6] at hR
        repeat (first | (apply G.ex (hd := rfl); case h => (first | exact Ex.move rfl | exact Ex.eqI rfl rfl | exact Ex.assign rfl | exact Ex.loadBA rfl rfl rfl)) | refine G.nil ?_ | refine GC.seq ?_ | refine GC.region ?_ | refine GC.skip ?_ | refine GE.then_normal ?_ | refine GE.block_normal ?_ | refine GC.cond_no rfl (by first | assumption | omega) ?_ | refine GC.cond_f rfl ?_)
        refine G.conv (fun w_ H_ => Holds.fileOut hi hnd (H_.take (need := [.own (NodesR T L)]) (by repeat first | exact tn_ | apply td_ rfl | apply tc_ | exact .here | apply Take1.there))) ?_
        try simp only [List.append_eq, List.nil_append, List.cons_append]
        first | refine G.call (caps := []) (fdo_sp (L i).b (L i).ao (L i).c d (k.file i d hnd) a q da dc hd (by omega)) rfl rfl rfl rfl (by repeat first | exact tn_ | apply td_ rfl | apply tc_ | exact .here | apply Take1.there) ?_ | refine G.callU (caps := []) (fdo_sp (L i).b (L i).ao (L i).c d (k.file i d hnd) a q da dc hd (by omega)) rfl rfl rfl (by repeat first | exact tn_ | apply td_ rfl | apply tc_ | exact .here | apply Take1.there) ?_
        rintro v_ give_ ⟨ao', c', sa, sc, na, nc, rfl, rfl⟩ rs_ hrs_
        simp only [List.cons_append, List.nil_append] at hrs_
        subst hrs_
        refine G.conv (fun w_ H_ => Holds.fileIn T.count hi hnd (H_.take (need := [.blk (L i).b 93 [.slice ao' (fileF d a).1.length c'], .vec 5 1 ao' (fileF d a).1.length c' (flat eB (fileF d a).1), .own (Hole T L i)]) (by repeat first | exact tn_ | apply td_ rfl | apply tc_ | exact .here | apply Take1.there))) ?_
        try simp only [List.append_eq, List.nil_append, List.cons_append]
        generalize hL2 : updL L i { L i with ao := ao', c := c' } = L2
        have hL02 : (L 0).b = (L2 0).b := by rw [← hL2]; exact (updL_b (L := L) (i := i) (x := { L i with ao := ao', c := c' }) rfl 0).symm
        rw [show TreeB T L bt = .blk bt 78 [ptr (L 0).b, .int .i64 T.count] from rfl, hL02]
        subst hR
        repeat (first | refine G.storeBA rfl rfl rfl rfl rfl ?_ | refine G.nil ?_ | refine GC.ret ?_ | refine GE.then_normal ?_)
        refine GE.ret (by first | exact .inl rfl | exact .inr rfl) (resR1 Tryz.results34 (by first | exact RV.cell rfl (eP_len _) | exact RV.cell rfl rfl | exact RV.cell1 rfl)) ⟨L2, sa, sc, na, nc, rfl, rfl⟩ (by repeat first | exact tn_ | apply td_ rfl | apply tc_ | exact .here | apply Take1.there) (by repeat (first | exact Subs.refl | refine Subs.skip ?_))
  | link to => exact absurd hnd (hnl to)
end tree
end Go.Proofs.YtmceappjldcbmaaGreatDoor
/-
  CONTRACTS of tree.New and of a tree's Do, by the kit.
-/
namespace Go.Proofs.YtmceappjldcbmaaGreatDoor
open Go.RowKit
attribute [local irreducible] Ex G GC GE Gq FPost LPost
set_option linter.unusedVariables false
set_option linter.unusedSimpArgs false
namespace tree
open path
def loc0 (b m : Nat) : Loc := ⟨b, m, none, 0, [], 0⟩
theorem Holds.newIn {w0 w : World} {rs : List Res} {b m : Nat} (H : Holds w0 w (.blk b 76 [.map (some m)] :: .own (MapB m [] [] 0) :: rs)) : Holds w0 w (.own (NodesR newT (fun _ => loc0 b m)) :: rs) := by
  have h1 := Holds.starIns (l := [.blk b 76 [.map (some m)], .own (MapB m [] [] 0)]) H
  exact Holds.starIns (l := [.own (Star [.blk b 76 [.map (some m)], .own (MapB m [] [] 0)])]) h1
theorem new_sp : Spec Tryz.prog 20 [] [] fun v give => ∃ bt L, v = ptr bt ∧ give = [TreeB newT L bt, .own (NodesR newT L)] := by
  refine Spec.intro Tryz.func20 rfl Tryz.ntmps20 rfl fun w0 rest rs_ hrs_ => ?_
  simp only [List.cons_append, List.nil_append] at hrs_
  subst hrs_
  repeat (first | (apply G.ex (hd := rfl); case h => (first | exact Ex.assign rfl)) | refine G.nil ?_ | refine GC.seq ?_ | refine GC.region ?_ | refine GE.then_normal ?_)
  refine G.makeMapB rfl fun m => ?_
  repeat (first | (apply G.ex (hd := rfl); case h => (first | exact Ex.build rfl rfl)))
  refine G.box (cs := [.map (some m)]) rfl rfl rfl fun b => ?_
  repeat (first | (apply G.ex (hd := rfl); case h => (first | exact Ex.build rfl rfl)))
  refine G.box (cs := [ptr b, .int .i64 1]) rfl rfl rfl fun bt => ?_
  refine G.conv (fun w_ H_ => Holds.newIn (H_.take (need := [.blk b 76 [.map (some m)], .own (MapB m [] [] 0)]) (by repeat first | exact tn_ | apply td_ rfl | apply tc_ | exact .here | apply Take1.there))) ?_
  try simp only [List.append_eq, List.nil_append, List.cons_append]
  repeat (first | (apply G.ex (hd := rfl); case h => (first | exact Ex.assign rfl)) | refine G.nil ?_ | refine GC.ret ?_ | refine GE.then_normal ?_)
  refine GE.ret (by first | exact .inl rfl | exact .inr rfl) (res1 Tryz.results20 rfl) ⟨bt, fun _ => loc0 b m, rfl, rfl⟩ (by repeat first | exact tn_ | apply td_ rfl | apply tc_ | exact .here | apply Take1.there) (by repeat (first | exact Subs.refl | refine Subs.skip ?_))
set_option maxHeartbeats 16000000 in
theorem do_sp (T : Tr) (L : Nat → Loc) (bt : Nat) (k : TrOk T) (cn : Cnt T) (a : Ac) (q : Res) (da : Option Addr) (dc : Nat) [RdR q da a.d.length dc 1 (flat eB a.d)] (hd : a.d.length ≤ 1000000) (hp : a.path.length ≤ 9223372036854775807) (hto : a.to.length ≤ 9223372036854775807) :
    Spec Tryz.prog 24 [ptr bt, .agg (eAc a da dc).toArray] [TreeB T L bt, .own (NodesR T L), q] fun v give => ∃ L', SnP (doF T a).2 [TreeB (doF T a).1 L' bt, .own (NodesR (doF T a).1 L'), q] v give := by
  obtain ⟨R, hR⟩ : ∃ R, doF T a = R := ⟨_, rfl⟩
  rw [hR]
  unfold doF at hR
  refine Spec.intro Tryz.func24 rfl Tryz.ntmps24 rfl fun w0 rest rs_ hrs_ => ?_
  simp only [List.cons_append, List.nil_append] at hrs_
  subst hrs_
  repeat (first | refine GC.seq ?_ | refine GC.region ?_)
  refine G.box (cs := eAc a da dc) rfl rfl rfl fun ab => ?_
  repeat (first | fail)
  refine G.alloc rfl (fun rb => ?_)
  by_cases c1 : a.kind < 1 ∨ 10 < a.kind
  · rw [if_pos c1] at hR
    subst hR
    by_cases c1' : a.kind < 1
    · repeat (first | (apply G.ex (hd := rfl); case h => (first | exact Ex.move rfl | exact Ex.fieldB rfl | exact Ex.loadB rfl rfl | exact Ex.lss rfl rfl | exact Ex.pickT rfl (by first | assumption | omega) rfl)) | refine G.g_ft rfl rfl (by first | assumption | omega) rfl ?_ | refine G.nil ?_ | refine GC.seq ?_ | refine GC.region ?_ | refine GE.then_normal ?_ | refine GC.cond_t rfl ?_)
      first | refine G.call (caps := []) (no_sp 3) rfl rfl rfl rfl (by repeat first | exact tn_ | apply td_ rfl | apply tc_ | exact .here | apply Take1.there) ?_ | refine G.callU (caps := []) (no_sp 3) rfl rfl rfl (by repeat first | exact tn_ | apply td_ rfl | apply tc_ | exact .here | apply Take1.there) ?_
      rintro v_ give_ ⟨rfl, rfl⟩ rs_ hrs_
      simp only [List.cons_append, List.nil_append] at hrs_
      subst hrs_
      repeat (first | refine G.storeBA rfl rfl rfl rfl rfl ?_ | refine G.nil ?_ | refine GC.ret ?_ | refine GE.then_normal ?_ | refine GE.then_ret ?_)
      refine GE.nilvec 5 1 ?_
      refine GE.nilvec 9 1 ?_
      refine GE.ret (by first | exact .inl rfl | exact .inr rfl) (resR1 Tryz.results24 (by first | exact RV.cell rfl (eP_len _) | exact RV.cell rfl rfl | exact RV.cell1 rfl)) ⟨L, none, 0, none, 0, rfl, rfl⟩ (by repeat first | exact tn_ | apply td_ rfl | apply tc_ | exact .here | apply Take1.there) (by repeat (first | exact Subs.refl | refine Subs.skip ?_))
    · have c1'' : 10 < a.kind := by omega
      repeat (first | (apply G.ex (hd := rfl); case h => (first | exact Ex.move rfl | exact Ex.fieldB rfl | exact Ex.loadB rfl rfl | exact Ex.lss rfl rfl | exact Ex.gtr rfl rfl | exact Ex.pickF rfl (by first | assumption | omega) rfl)) | refine G.g_ff rfl rfl (by first | assumption | omega) ?_ | refine G.nil ?_ | refine GC.seq ?_ | refine GC.region ?_ | refine GE.then_normal ?_ | refine GC.cond_yes rfl (by first | assumption | omega) ?_)
      first | refine G.call (caps := []) (no_sp 3) rfl rfl rfl rfl (by repeat first | exact tn_ | apply td_ rfl | apply tc_ | exact .here | apply Take1.there) ?_ | refine G.callU (caps := []) (no_sp 3) rfl rfl rfl (by repeat first | exact tn_ | apply td_ rfl | apply tc_ | exact .here | apply Take1.there) ?_
      rintro v_ give_ ⟨rfl, rfl⟩ rs_ hrs_
      simp only [List.cons_append, List.nil_append] at hrs_
      subst hrs_
      repeat (first | refine G.storeBA rfl rfl rfl rfl rfl ?_ | refine G.nil ?_ | refine GC.ret ?_ | refine GE.then_normal ?_ | refine GE.then_ret ?_)
      refine GE.nilvec 5 1 ?_
      refine GE.nilvec 9 1 ?_
      refine GE.ret (by first | exact .inl rfl | exact .inr rfl) (resR1 Tryz.results24 (by first | exact RV.cell rfl (eP_len _) | exact RV.cell rfl rfl | exact RV.cell1 rfl)) ⟨L, none, 0, none, 0, rfl, rfl⟩ (by repeat first | exact tn_ | apply td_ rfl | apply tc_ | exact .here | apply Take1.there) (by repeat (first | exact Subs.refl | refine Subs.skip ?_))
  · rw [if_neg c1] at hR
    have k1 : ¬ a.kind < 1 := fun h => c1 (.inl h)
    have k2 : ¬ 10 < a.kind := fun h => c1 (.inr h)
    by_cases c2 : a.kind = 10 ∧ (a.to.length = 0 ∨ 200 < a.to.length)
    · rw [if_pos c2] at hR
      subst hR
      have k10 := c2.1
      by_cases t0 : a.to.length = 0
      · repeat (first | (apply G.ex (hd := rfl); case h => (first | exact Ex.move rfl | exact Ex.lenO rfl | exact Ex.fieldB rfl | exact Ex.loadB rfl rfl | exact Ex.lss rfl rfl | exact Ex.gtr rfl rfl | exact Ex.eqI rfl rfl | exact Ex.pickT rfl (by first | assumption | omega) rfl | exact Ex.pickF rfl (by first | assumption | omega) rfl)) | refine G.g_tt rfl rfl (by first | assumption | omega) ?_ | refine G.g_ft rfl rfl (by first | assumption | omega) rfl ?_ | refine G.g_ff rfl rfl (by first | assumption | omega) ?_ | refine G.nil ?_ | refine GC.seq ?_ | refine GC.region ?_ | refine GC.skip ?_ | refine GE.then_normal ?_ | refine GC.cond_no rfl (by first | assumption | omega) ?_ | refine GC.cond_t rfl ?_)
        first | refine G.call (caps := []) (no_sp 1) rfl rfl rfl rfl (by repeat first | exact tn_ | apply td_ rfl | apply tc_ | exact .here | apply Take1.there) ?_ | refine G.callU (caps := []) (no_sp 1) rfl rfl rfl (by repeat first | exact tn_ | apply td_ rfl | apply tc_ | exact .here | apply Take1.there) ?_
        rintro v_ give_ ⟨rfl, rfl⟩ rs_ hrs_
        simp only [List.cons_append, List.nil_append] at hrs_
        subst hrs_
        repeat (first | refine G.storeBA rfl rfl rfl rfl rfl ?_ | refine G.nil ?_ | refine GC.ret ?_ | refine GE.then_normal ?_ | refine GE.then_ret ?_)
        refine GE.nilvec 5 1 ?_
        refine GE.nilvec 9 1 ?_
        refine GE.ret (by first | exact .inl rfl | exact .inr rfl) (resR1 Tryz.results24 (by first | exact RV.cell rfl (eP_len _) | exact RV.cell rfl rfl | exact RV.cell1 rfl)) ⟨L, none, 0, none, 0, rfl, rfl⟩ (by repeat first | exact tn_ | apply td_ rfl | apply tc_ | exact .here | apply Take1.there) (by repeat (first | exact Subs.refl | refine Subs.skip ?_))
      · have t1 : 200 < a.to.length := by rcases c2.2 with h | h; exact absurd h t0; exact h
        repeat (first | (apply G.ex (hd := rfl); case h => (first | exact Ex.move rfl | exact Ex.lenO rfl | exact Ex.fieldB rfl | exact Ex.loadB rfl rfl | exact Ex.lss rfl rfl | exact Ex.gtr rfl rfl | exact Ex.eqI rfl rfl | exact Ex.pickT rfl (by first | assumption | omega) rfl | exact Ex.pickF rfl (by first | assumption | omega) rfl)) | refine G.g_tt rfl rfl (by first | assumption | omega) ?_ | refine G.g_ff rfl rfl (by first | assumption | omega) ?_ | refine G.nil ?_ | refine GC.seq ?_ | refine GC.region ?_ | refine GC.skip ?_ | refine GE.then_normal ?_ | refine GC.cond_yes rfl (by first | assumption | omega) ?_ | refine GC.cond_no rfl (by first | assumption | omega) ?_)
        first | refine G.call (caps := []) (no_sp 1) rfl rfl rfl rfl (by repeat first | exact tn_ | apply td_ rfl | apply tc_ | exact .here | apply Take1.there) ?_ | refine G.callU (caps := []) (no_sp 1) rfl rfl rfl (by repeat first | exact tn_ | apply td_ rfl | apply tc_ | exact .here | apply Take1.there) ?_
        rintro v_ give_ ⟨rfl, rfl⟩ rs_ hrs_
        simp only [List.cons_append, List.nil_append] at hrs_
        subst hrs_
        repeat (first | refine G.storeBA rfl rfl rfl rfl rfl ?_ | refine G.nil ?_ | refine GC.ret ?_ | refine GE.then_normal ?_ | refine GE.then_ret ?_)
        refine GE.nilvec 5 1 ?_
        refine GE.nilvec 9 1 ?_
        refine GE.ret (by first | exact .inl rfl | exact .inr rfl) (resR1 Tryz.results24 (by first | exact RV.cell rfl (eP_len _) | exact RV.cell rfl rfl | exact RV.cell1 rfl)) ⟨L, none, 0, none, 0, rfl, rfl⟩ (by repeat first | exact tn_ | apply td_ rfl | apply tc_ | exact .here | apply Take1.there) (by repeat (first | exact Subs.refl | refine Subs.skip ?_))
    · rw [if_neg c2] at hR
      repeat ((fail_if_success (refine GC.seq ?_; refine GC.region (id := 3) ?_)); first | (apply G.ex (hd := rfl); case h => (first | exact Ex.move rfl | exact Ex.fieldB rfl | exact Ex.loadB rfl rfl | exact Ex.lss rfl rfl | exact Ex.gtr rfl rfl | exact Ex.pickF rfl (by first | assumption | omega) rfl)) | refine G.g_ff rfl rfl (by first | assumption | omega) ?_ | refine G.nil ?_ | refine GC.seq ?_ | refine GC.region ?_ | refine GC.skip ?_ | refine GE.then_normal ?_ | refine GC.cond_no rfl (by first | assumption | omega) ?_)
      refine GC.meet (ι := Unit) (fun _ => True) (fun _ => [(0, ptr bt), (3, ptr ab), (4, ptr rb)]) (fun _ => [.blk ab 85 (eAc a da dc), .blk rb 81 [.int .i64 0, .int .i64 0, .int .i64 0, .slice none 0 0, .slice none 0 0], TreeB T L bt, .own (NodesR T L), q]) rest ?_ ?_
      · by_cases k10 : a.kind = 10
        · have t0 : ¬ a.to.length = 0 := fun h => c2 ⟨k10, .inl h⟩
          have t1 : ¬ 200 < a.to.length := fun h => c2 ⟨k10, .inr h⟩
          repeat (first | (apply G.ex (hd := rfl); case h => (first | exact Ex.move rfl | exact Ex.lenO rfl | exact Ex.fieldB rfl | exact Ex.loadB rfl rfl | exact Ex.gtr rfl rfl | exact Ex.eqI rfl rfl | exact Ex.pickT rfl (by first | assumption | omega) rfl | exact Ex.pickF rfl (by first | assumption | omega) rfl)) | refine G.g_tt rfl rfl (by first | assumption | omega) ?_ | refine G.g_ff rfl rfl (by first | assumption | omega) ?_ | refine G.nil ?_ | refine GC.seq ?_ | refine GC.region ?_ | refine GC.skip ?_ | refine GE.then_normal ?_ | refine GC.cond_no rfl (by first | assumption | omega) ?_)
          refine GE.meet () trivial (by simp only [fits]; repeat (first | exact trivial | refine And.intro rfl ?_)) (by repeat first | exact tn_ | apply td_ rfl | apply tc_ | exact .here | apply Take1.there) (by repeat (first | exact Subs.refl | refine Subs.skip ?_))
        · repeat (first | (apply G.ex (hd := rfl); case h => (first | exact Ex.move rfl | exact Ex.fieldB rfl | exact Ex.loadB rfl rfl | exact Ex.eqI rfl rfl | exact Ex.pickF rfl (by first | assumption | omega) rfl)) | refine G.g_tf rfl rfl (by first | assumption | omega) rfl ?_ | refine G.g_un rfl rfl rfl ?_ | refine G.nil ?_ | refine GC.seq ?_ | refine GC.region ?_ | refine GC.skip ?_ | refine GE.then_normal ?_ | refine GC.cond_f rfl ?_)
          refine GE.meet () trivial (by simp only [fits]; repeat (first | exact trivial | refine And.intro rfl ?_)) (by repeat first | exact tn_ | apply td_ rfl | apply tc_ | exact .here | apply Take1.there) (by repeat (first | exact Subs.refl | refine Subs.skip ?_))
      · rintro u - fr_ rs_ hfr_ hrs_
        simp only [List.cons_append, List.nil_append] at hfr_ hrs_
        subst hfr_ hrs_
        obtain ⟨names, e, hw⟩ : ∃ names e, walkF [] a.path = (names, e) := ⟨_, _, rfl⟩
        rw [hw] at hR
        simp only at hR
        repeat (first | (apply G.ex (hd := rfl); case h => (first | exact Ex.fieldB rfl | exact Ex.loadB rfl rfl)) | refine GC.seq ?_ | refine GC.region ?_ | refine GE.then_normal ?_)
        first | refine G.call (caps := []) (clean_at a.path hp names e hw) rfl rfl rfl rfl (by repeat first | exact tn_ | apply td_ rfl | apply tc_ | exact .here | apply Take1.there) ?_ | refine G.callU (caps := []) (clean_at a.path hp names e hw) rfl rfl rfl (by repeat first | exact tn_ | apply td_ rfl | apply tc_ | exact .here | apply Take1.there) ?_
        rintro v_ give_ ⟨oa, oc, rfl, hn12, rfl⟩ rs_ hrs_
        simp only [List.cons_append, List.nil_append] at hrs_
        subst hrs_
        by_cases he : e = 0
        · rw [if_neg (fun h => h he)] at hR
          subst he
          have hok := walk_ok a.path names hw
          by_cases k1 : a.kind = 1
          · rw [if_pos k1] at hR
            repeat (first | (apply G.ex (hd := rfl); case h => (first | exact Ex.move rfl | exact Ex.fieldB rfl | exact Ex.loadB rfl rfl | exact Ex.eqI rfl rfl | exact Ex.neI rfl rfl | exact Ex.extract rfl rfl | exact Ex.assign rfl)) | refine G.nil ?_ | refine GC.seq ?_ | refine GC.region ?_ | refine GC.block ?_ | refine GC.skip ?_ | refine GE.then_normal ?_ | refine GC.cond_yes rfl (by first | assumption | omega) ?_ | refine GC.cond_no rfl (by first | assumption | omega) ?_)
            refine G.makeMapB rfl fun m => ?_
            repeat (first | (apply G.ex (hd := rfl); case h => (first | exact Ex.build rfl rfl)))
            refine G.box (cs := [.map (some m)]) rfl rfl rfl fun b => ?_
            repeat (first | (apply G.ex (hd := rfl); case h => (first | exact Ex.mkIface rfl)))
            refine G.conv (rs' := _) (fun w_ H_ => Holds.starIns (l := [.blk b 76 [.map (some m)], .own (MapB m [] [] 0)]) (H_.take (need := [.blk b 76 [.map (some m)], .own (MapB m [] [] 0)]) (by repeat first | exact tn_ | apply td_ rfl | apply tc_ | exact .here | apply Take1.there))) ?_
            try simp only [List.append_eq, List.nil_append, List.cons_append]
            first | refine G.call (caps := []) (make_sp T L bt k names (.vec 9 1 oa names.length oc (flat eO names)) oa names.length oc rfl hok (.dir []) (loc0 b m) (fun _ => .nilIface) (fun es h => (Nd.dir.inj h).symm)) rfl rfl rfl rfl (by repeat first | exact tn_ | apply td_ rfl | apply tc_ | exact .here | apply Take1.there) ?_ | refine G.callU (caps := []) (make_sp T L bt k names (.vec 9 1 oa names.length oc (flat eO names)) oa names.length oc rfl hok (.dir []) (loc0 b m) (fun _ => .nilIface) (fun es h => (Nd.dir.inj h).symm)) rfl rfl rfl (by repeat first | exact tn_ | apply td_ rfl | apply tc_ | exact .here | apply Take1.there) ?_
            rintro v_ give_ ⟨L', rfl, rfl⟩ rs_ hrs_
            simp only [List.cons_append, List.nil_append] at hrs_
            subst hrs_
            first | refine G.call (caps := []) (no_sp (makeF T names (.dir [])).1) rfl rfl rfl rfl (by repeat first | exact tn_ | apply td_ rfl | apply tc_ | exact .here | apply Take1.there) ?_ | refine G.callU (caps := []) (no_sp (makeF T names (.dir [])).1) rfl rfl rfl (by repeat first | exact tn_ | apply td_ rfl | apply tc_ | exact .here | apply Take1.there) ?_
            rintro v_ give_ ⟨rfl, rfl⟩ rs_ hrs_
            simp only [List.cons_append, List.nil_append] at hrs_
            subst hrs_
            repeat (first | refine G.storeBA rfl rfl rfl rfl rfl ?_ | refine G.nil ?_ | refine GC.ret ?_ | refine GE.then_normal ?_ | refine GE.then_ret ?_ | refine GE.block_ret ?_)
            refine GE.nilvec 5 1 ?_
            refine GE.nilvec 9 1 ?_
            subst hR
            refine GE.ret (by first | exact .inl rfl | exact .inr rfl) (resR1 Tryz.results24 (by first | exact RV.cell rfl (eP_len _) | exact RV.cell rfl rfl | exact RV.cell1 rfl)) ⟨L', none, 0, none, 0, rfl, rfl⟩ (by repeat first | exact tn_ | apply td_ rfl | apply tc_ | exact .here | apply Take1.there) (by repeat (first | exact Subs.refl | refine Subs.skip ?_))
          rw [if_neg k1] at hR
          by_cases k2 : a.kind = 2
          · rw [if_pos k2] at hR
            repeat (first | (apply G.ex (hd := rfl); case h => (first | exact Ex.move rfl | exact Ex.fieldB rfl | exact Ex.loadB rfl rfl | exact Ex.eqI rfl rfl | exact Ex.neI rfl rfl | exact Ex.extract rfl rfl | exact Ex.assign rfl | exact Ex.build rfl rfl)) | refine G.nil ?_ | refine GC.seq ?_ | refine GC.region ?_ | refine GC.block ?_ | refine GC.skip ?_ | refine GE.then_normal ?_ | refine GC.cond_yes rfl (by first | assumption | omega) ?_ | refine GC.cond_no rfl (by first | assumption | omega) ?_)
            refine G.box (cs := [.slice none 0 0]) rfl rfl rfl fun b => ?_
            first | refine G.nilvec 5 1 ?_ | refine GC.nilvec 5 1 ?_
            repeat (first | (apply G.ex (hd := rfl); case h => (first | exact Ex.mkIface rfl)))
            refine G.conv (rs' := _) (fun w_ H_ => Holds.starIns (l := [.blk b 93 [.slice none 0 0], .vec 5 1 none 0 0 []]) (H_.take (need := [.blk b 93 [.slice none 0 0], .vec 5 1 none 0 0 []]) (by repeat first | exact tn_ | apply td_ rfl | apply tc_ | exact .here | apply Take1.there))) ?_
            try simp only [List.append_eq, List.nil_append, List.cons_append]
            first | refine G.call (caps := []) (make_sp T L bt k names (.vec 9 1 oa names.length oc (flat eO names)) oa names.length oc rfl hok (.file []) (loc0 b 0) (fun _ => .nilIface) (fun es h => nomatch h)) rfl rfl rfl rfl (by repeat first | exact tn_ | apply td_ rfl | apply tc_ | exact .here | apply Take1.there) ?_ | refine G.callU (caps := []) (make_sp T L bt k names (.vec 9 1 oa names.length oc (flat eO names)) oa names.length oc rfl hok (.file []) (loc0 b 0) (fun _ => .nilIface) (fun es h => nomatch h)) rfl rfl rfl (by repeat first | exact tn_ | apply td_ rfl | apply tc_ | exact .here | apply Take1.there) ?_
            rintro v_ give_ ⟨L', rfl, rfl⟩ rs_ hrs_
            simp only [List.cons_append, List.nil_append] at hrs_
            subst hrs_
            first | refine G.call (caps := []) (no_sp (makeF T names (.file [])).1) rfl rfl rfl rfl (by repeat first | exact tn_ | apply td_ rfl | apply tc_ | exact .here | apply Take1.there) ?_ | refine G.callU (caps := []) (no_sp (makeF T names (.file [])).1) rfl rfl rfl (by repeat first | exact tn_ | apply td_ rfl | apply tc_ | exact .here | apply Take1.there) ?_
            rintro v_ give_ ⟨rfl, rfl⟩ rs_ hrs_
            simp only [List.cons_append, List.nil_append] at hrs_
            subst hrs_
            repeat (first | refine G.storeBA rfl rfl rfl rfl rfl ?_ | refine G.nil ?_ | refine GC.ret ?_ | refine GE.then_normal ?_ | refine GE.then_ret ?_ | refine GE.block_ret ?_)
            refine GE.nilvec 5 1 ?_
            refine GE.nilvec 9 1 ?_
            subst hR
            refine GE.ret (by first | exact .inl rfl | exact .inr rfl) (resR1 Tryz.results24 (by first | exact RV.cell rfl (eP_len _) | exact RV.cell rfl rfl | exact RV.cell1 rfl)) ⟨L', none, 0, none, 0, rfl, rfl⟩ (by repeat first | exact tn_ | apply td_ rfl | apply tc_ | exact .here | apply Take1.there) (by repeat (first | exact Subs.refl | refine Subs.skip ?_))
          rw [if_neg k2] at hR
          by_cases k10 : a.kind = 10
          · rw [if_pos k10] at hR
            repeat (first | (apply G.ex (hd := rfl); case h => (first | exact Ex.move rfl | exact Ex.fieldB rfl | exact Ex.loadB rfl rfl | exact Ex.eqI rfl rfl | exact Ex.neI rfl rfl | exact Ex.extract rfl rfl | exact Ex.assign rfl | exact Ex.build rfl rfl)) | refine G.nil ?_ | refine GC.seq ?_ | refine GC.region ?_ | refine GC.block ?_ | refine GC.skip ?_ | refine GE.then_normal ?_ | refine GC.cond_yes rfl (by first | assumption | omega) ?_ | refine GC.cond_no rfl (by first | assumption | omega) ?_)
            refine G.box (cs := [.string (sOf a.to)]) rfl rfl rfl fun b => ?_
            repeat (first | (apply G.ex (hd := rfl); case h => (first | exact Ex.mkIface rfl)))
            refine G.conv (rs' := _) (fun w_ H_ => Holds.starIns (l := [.blk b 96 [.string (sOf a.to)]]) (H_.take (need := [.blk b 96 [.string (sOf a.to)]]) (by repeat first | exact tn_ | apply td_ rfl | apply tc_ | exact .here | apply Take1.there))) ?_
            try simp only [List.append_eq, List.nil_append, List.cons_append]
            first | refine G.call (caps := []) (make_sp T L bt k names (.vec 9 1 oa names.length oc (flat eO names)) oa names.length oc rfl hok (.link a.to) (loc0 b 0) (fun _ => .nilIface) (fun es h => nomatch h)) rfl rfl rfl rfl (by repeat first | exact tn_ | apply td_ rfl | apply tc_ | exact .here | apply Take1.there) ?_ | refine G.callU (caps := []) (make_sp T L bt k names (.vec 9 1 oa names.length oc (flat eO names)) oa names.length oc rfl hok (.link a.to) (loc0 b 0) (fun _ => .nilIface) (fun es h => nomatch h)) rfl rfl rfl (by repeat first | exact tn_ | apply td_ rfl | apply tc_ | exact .here | apply Take1.there) ?_
            rintro v_ give_ ⟨L', rfl, rfl⟩ rs_ hrs_
            simp only [List.cons_append, List.nil_append] at hrs_
            subst hrs_
            first | refine G.call (caps := []) (no_sp (makeF T names (.link a.to)).1) rfl rfl rfl rfl (by repeat first | exact tn_ | apply td_ rfl | apply tc_ | exact .here | apply Take1.there) ?_ | refine G.callU (caps := []) (no_sp (makeF T names (.link a.to)).1) rfl rfl rfl (by repeat first | exact tn_ | apply td_ rfl | apply tc_ | exact .here | apply Take1.there) ?_
            rintro v_ give_ ⟨rfl, rfl⟩ rs_ hrs_
            simp only [List.cons_append, List.nil_append] at hrs_
            subst hrs_
            repeat (first | refine G.storeBA rfl rfl rfl rfl rfl ?_ | refine G.nil ?_ | refine GC.ret ?_ | refine GE.then_normal ?_ | refine GE.then_ret ?_ | refine GE.block_ret ?_)
            refine GE.nilvec 5 1 ?_
            refine GE.nilvec 9 1 ?_
            subst hR
            refine GE.ret (by first | exact .inl rfl | exact .inr rfl) (resR1 Tryz.results24 (by first | exact RV.cell rfl (eP_len _) | exact RV.cell rfl rfl | exact RV.cell1 rfl)) ⟨L', none, 0, none, 0, rfl, rfl⟩ (by repeat first | exact tn_ | apply td_ rfl | apply tc_ | exact .here | apply Take1.there) (by repeat (first | exact Subs.refl | refine Subs.skip ?_))
          rw [if_neg k10] at hR
          by_cases k8 : a.kind = 8
          · rw [if_pos k8] at hR
            repeat (first | (apply G.ex (hd := rfl); case h => (first | exact Ex.move rfl | exact Ex.fieldB rfl | exact Ex.loadB rfl rfl | exact Ex.eqI rfl rfl | exact Ex.neI rfl rfl | exact Ex.extract rfl rfl | exact Ex.assign rfl)) | refine G.nil ?_ | refine GC.seq ?_ | refine GC.region ?_ | refine GC.block ?_ | refine GC.skip ?_ | refine GE.then_normal ?_ | refine GC.cond_yes rfl (by first | assumption | omega) ?_ | refine GC.cond_no rfl (by first | assumption | omega) ?_)
            first | refine G.call (caps := []) (remove_sp T L bt k names (.vec 9 1 oa names.length oc (flat eO names)) oa names.length oc rfl hok) rfl rfl rfl rfl (by repeat first | exact tn_ | apply td_ rfl | apply tc_ | exact .here | apply Take1.there) ?_ | refine G.callU (caps := []) (remove_sp T L bt k names (.vec 9 1 oa names.length oc (flat eO names)) oa names.length oc rfl hok) rfl rfl rfl (by repeat first | exact tn_ | apply td_ rfl | apply tc_ | exact .here | apply Take1.there) ?_
            rintro v_ give_ ⟨L', rfl, rfl⟩ rs_ hrs_
            simp only [List.cons_append, List.nil_append] at hrs_
            subst hrs_
            first | refine G.call (caps := []) (no_sp (removeF T names).1) rfl rfl rfl rfl (by repeat first | exact tn_ | apply td_ rfl | apply tc_ | exact .here | apply Take1.there) ?_ | refine G.callU (caps := []) (no_sp (removeF T names).1) rfl rfl rfl (by repeat first | exact tn_ | apply td_ rfl | apply tc_ | exact .here | apply Take1.there) ?_
            rintro v_ give_ ⟨rfl, rfl⟩ rs_ hrs_
            simp only [List.cons_append, List.nil_append] at hrs_
            subst hrs_
            repeat (first | refine G.storeBA rfl rfl rfl rfl rfl ?_ | refine G.nil ?_ | refine GC.ret ?_ | refine GE.then_normal ?_ | refine GE.then_ret ?_ | refine GE.block_ret ?_)
            refine GE.nilvec 5 1 ?_
            refine GE.nilvec 9 1 ?_
            subst hR
            refine GE.ret (by first | exact .inl rfl | exact .inr rfl) (resR1 Tryz.results24 (by first | exact RV.cell rfl (eP_len _) | exact RV.cell rfl rfl | exact RV.cell1 rfl)) ⟨L', none, 0, none, 0, rfl, rfl⟩ (by repeat first | exact tn_ | apply td_ rfl | apply tc_ | exact .here | apply Take1.there) (by repeat (first | exact Subs.refl | refine Subs.skip ?_))
          rw [if_neg k8] at hR
          by_cases k9 : a.kind = 9
          · rw [if_pos k9] at hR
            repeat (first | (apply G.ex (hd := rfl); case h => (first | exact Ex.move rfl | exact Ex.fieldB rfl | exact Ex.loadB rfl rfl | exact Ex.eqI rfl rfl | exact Ex.neI rfl rfl | exact Ex.extract rfl rfl | exact Ex.assign rfl)) | refine G.nil ?_ | refine GC.seq ?_ | refine GC.region ?_ | refine GC.block ?_ | refine GC.skip ?_ | refine GE.then_normal ?_ | refine GC.cond_yes rfl (by first | assumption | omega) ?_ | refine GC.cond_no rfl (by first | assumption | omega) ?_)
            first | refine G.call (caps := []) (rename_sp T L bt k names (.vec 9 1 oa names.length oc (flat eO names)) oa names.length oc rfl hok a.to hto) rfl rfl rfl rfl (by repeat first | exact tn_ | apply td_ rfl | apply tc_ | exact .here | apply Take1.there) ?_ | refine G.callU (caps := []) (rename_sp T L bt k names (.vec 9 1 oa names.length oc (flat eO names)) oa names.length oc rfl hok a.to hto) rfl rfl rfl (by repeat first | exact tn_ | apply td_ rfl | apply tc_ | exact .here | apply Take1.there) ?_
            rintro v_ give_ ⟨L', rfl, rfl⟩ rs_ hrs_
            simp only [List.cons_append, List.nil_append] at hrs_
            subst hrs_
            first | refine G.call (caps := []) (no_sp (renameF T names a.to).1) rfl rfl rfl rfl (by repeat first | exact tn_ | apply td_ rfl | apply tc_ | exact .here | apply Take1.there) ?_ | refine G.callU (caps := []) (no_sp (renameF T names a.to).1) rfl rfl rfl (by repeat first | exact tn_ | apply td_ rfl | apply tc_ | exact .here | apply Take1.there) ?_
            rintro v_ give_ ⟨rfl, rfl⟩ rs_ hrs_
            simp only [List.cons_append, List.nil_append] at hrs_
            subst hrs_
            repeat (first | refine G.storeBA rfl rfl rfl rfl rfl ?_ | refine G.nil ?_ | refine GC.ret ?_ | refine GE.then_normal ?_ | refine GE.then_ret ?_ | refine GE.block_ret ?_)
            refine GE.nilvec 5 1 ?_
            refine GE.nilvec 9 1 ?_
            subst hR
            refine GE.ret (by first | exact .inl rfl | exact .inr rfl) (resR1 Tryz.results24 (by first | exact RV.cell rfl (eP_len _) | exact RV.cell rfl rfl | exact RV.cell1 rfl)) ⟨L', none, 0, none, 0, rfl, rfl⟩ (by repeat first | exact tn_ | apply td_ rfl | apply tc_ | exact .here | apply Take1.there) (by repeat (first | exact Subs.refl | refine Subs.skip ?_))
          rw [if_neg k9] at hR
          repeat (first | (apply G.ex (hd := rfl); case h => (first | exact Ex.move rfl | exact Ex.fieldB rfl | exact Ex.loadB rfl rfl | exact Ex.eqI rfl rfl | exact Ex.neI rfl rfl | exact Ex.extract rfl rfl | exact Ex.assign rfl)) | refine G.nil ?_ | refine GC.seq ?_ | refine GC.region ?_ | refine GC.block ?_ | refine GC.skip ?_ | refine GE.then_normal ?_ | refine GE.block_normal ?_ | refine GC.cond_no rfl (by first | assumption | omega) ?_)
          first | refine G.call (caps := []) (find_ow T L bt k names (.vec 9 1 oa names.length oc (flat eO names)) oa names.length oc rfl hok true) rfl rfl rfl rfl (by repeat first | exact tn_ | apply td_ rfl | apply tc_ | exact .here | apply Take1.there) ?_ | refine G.callU (caps := []) (find_ow T L bt k names (.vec 9 1 oa names.length oc (flat eO names)) oa names.length oc rfl hok true) rfl rfl rfl (by repeat first | exact tn_ | apply td_ rfl | apply tc_ | exact .here | apply Take1.there) ?_
          rintro v_ give_ ⟨rfl, rfl⟩ rs_ hrs_
          simp only [List.cons_append, List.nil_append] at hrs_
          subst hrs_
          by_cases hf : (T.find names true).1 = 0
          · rw [if_neg (fun h => h hf)] at hR
            have hF : T.find names true = (0, (T.find names true).2) := Prod.ext hf rfl
            have hlt := findF_lt k hF
            have hnl := findF_nolink k.root hF
            have e0 : fv T L (T.find names true) = val T L (T.find names true).2 := if_pos hf
            rw [e0, hf]
            generalize (T.find names true).2 = i at *
            repeat (first | (apply G.ex (hd := rfl); case h => (first | exact Ex.move rfl | exact Ex.neI rfl rfl | exact Ex.extract rfl rfl | exact Ex.assign rfl | exact Ex.loadBA rfl rfl rfl)) | refine G.nil ?_ | refine GC.seq ?_ | refine GC.region ?_ | refine GC.skip ?_ | refine GE.then_normal ?_ | refine GC.cond_no rfl (by first | assumption | omega) ?_)
            first | refine G.call (caps := []) (at_sp T L bt k cn i hlt hnl a q da dc hd (by omega)) rfl rfl rfl rfl (by repeat first | exact tn_ | apply td_ rfl | apply tc_ | exact .here | apply Take1.there) ?_ | refine G.callU (caps := []) (at_sp T L bt k cn i hlt hnl a q da dc hd (by omega)) rfl rfl rfl (by repeat first | exact tn_ | apply td_ rfl | apply tc_ | exact .here | apply Take1.there) ?_
            rintro v_ give_ ⟨L', sa, sc, na, nc, rfl, rfl⟩ rs_ hrs_
            simp only [List.cons_append, List.nil_append] at hrs_
            subst hrs_
            repeat (first | refine G.storeBA rfl rfl rfl rfl rfl ?_ | refine G.nil ?_ | refine GC.ret ?_ | refine GE.then_normal ?_)
            subst hR
            refine GE.ret (by first | exact .inl rfl | exact .inr rfl) (resR1 Tryz.results24 (by first | exact RV.cell rfl (eP_len _) | exact RV.cell rfl rfl | exact RV.cell1 rfl)) ⟨L', sa, sc, na, nc, rfl, rfl⟩ (by repeat first | exact tn_ | apply td_ rfl | apply tc_ | exact .here | apply Take1.there) (by repeat (first | exact Subs.refl | refine Subs.skip ?_))
          · rw [if_pos hf] at hR
            subst hR
            have e0 : fv T L (T.find names true) = .nilIface := if_neg hf
            rw [e0]
            repeat (first | (apply G.ex (hd := rfl); case h => (first | exact Ex.move rfl | exact Ex.neI rfl rfl | exact Ex.extract rfl rfl | exact Ex.assign rfl)) | refine G.nil ?_ | refine GC.seq ?_ | refine GC.region ?_ | refine GE.then_normal ?_ | refine GC.cond_yes rfl (by first | assumption | omega) ?_)
            first | refine G.call (caps := []) (no_sp (T.find names true).1) rfl rfl rfl rfl (by repeat first | exact tn_ | apply td_ rfl | apply tc_ | exact .here | apply Take1.there) ?_ | refine G.callU (caps := []) (no_sp (T.find names true).1) rfl rfl rfl (by repeat first | exact tn_ | apply td_ rfl | apply tc_ | exact .here | apply Take1.there) ?_
            rintro v_ give_ ⟨rfl, rfl⟩ rs_ hrs_
            simp only [List.cons_append, List.nil_append] at hrs_
            subst hrs_
            repeat (first | refine G.storeBA rfl rfl rfl rfl rfl ?_ | refine G.nil ?_ | refine GC.ret ?_ | refine GE.then_normal ?_ | refine GE.then_ret ?_)
            refine GE.nilvec 5 1 ?_
            refine GE.nilvec 9 1 ?_
            refine GE.ret (by first | exact .inl rfl | exact .inr rfl) (resR1 Tryz.results24 (by first | exact RV.cell rfl (eP_len _) | exact RV.cell rfl rfl | exact RV.cell1 rfl)) ⟨L, none, 0, none, 0, rfl, rfl⟩ (by repeat first | exact tn_ | apply td_ rfl | apply tc_ | exact .here | apply Take1.there) (by repeat (first | exact Subs.refl | refine Subs.skip ?_))
        · rw [if_pos he] at hR
          subst hR
          repeat (first | (apply G.ex (hd := rfl); case h => (first | exact Ex.move rfl | exact Ex.neI rfl rfl | exact Ex.extract rfl rfl | exact Ex.assign rfl)) | refine G.nil ?_ | refine GC.seq ?_ | refine GC.region ?_ | refine GE.then_normal ?_ | refine GC.cond_yes rfl (by first | assumption | omega) ?_)
          first | refine G.call (caps := []) (no_sp e) rfl rfl rfl rfl (by repeat first | exact tn_ | apply td_ rfl | apply tc_ | exact .here | apply Take1.there) ?_ | refine G.callU (caps := []) (no_sp e) rfl rfl rfl (by repeat first | exact tn_ | apply td_ rfl | apply tc_ | exact .here | apply Take1.there) ?_
          rintro v_ give_ ⟨rfl, rfl⟩ rs_ hrs_
          simp only [List.cons_append, List.nil_append] at hrs_
          subst hrs_
          repeat (first | refine G.storeBA rfl rfl rfl rfl rfl ?_ | refine G.nil ?_ | refine GC.ret ?_ | refine GE.then_normal ?_ | refine GE.then_ret ?_)
          refine GE.nilvec 5 1 ?_
          refine GE.nilvec 9 1 ?_
          refine GE.ret (by first | exact .inl rfl | exact .inr rfl) (resR1 Tryz.results24 (by first | exact RV.cell rfl (eP_len _) | exact RV.cell rfl rfl | exact RV.cell1 rfl)) ⟨L, none, 0, none, 0, rfl, rfl⟩ (by repeat first | exact tn_ | apply td_ rfl | apply tc_ | exact .here | apply Take1.there) (by repeat (first | exact Subs.refl | refine Subs.skip ?_))
end tree
end Go.Proofs.YtmceappjldcbmaaGreatDoor
/-
  RUNS OF ACTS, one behind the other. No program in sight.
-/
namespace Go.Proofs.YtmceappjldcbmaaGreatDoor
set_option linter.unusedVariables false
namespace tree
open path
def AcOk (a : Ac) : Prop := a.path.length ≤ 1000000 ∧ a.to.length ≤ 1000000 ∧ a.d.length ≤ 1000000
theorem getD_map {α β : Type} [Inhabited α] [Inhabited β] (f : α → β) (l : List α) (k : Nat) (hk : k < l.length) : (l.map f).getD k default = f (l.getD k default) := by
  rw [List.getD_eq_getElem?_getD, List.getElem?_map, List.getD_eq_getElem?_getD, List.getElem?_eq_getElem hk]; rfl
end tree
end Go.Proofs.YtmceappjldcbmaaGreatDoor
