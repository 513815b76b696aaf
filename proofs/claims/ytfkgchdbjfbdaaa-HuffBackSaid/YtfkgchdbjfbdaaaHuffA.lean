/-
  CONTRACTS of package container/heap over a forest, by the kit.
-/
import Derived.Test.YtfkgchdbjfbdaaaHuffR
namespace Go.Proofs.Ytfkgchdbjfbdaaa
open Go.RowKit
attribute [local irreducible] Ex G GC GE Gq FPost LPost
set_option linter.unusedVariables false
set_option linter.unusedSimpArgs false
namespace huff
abbrev FB (bf : Nat) (ao : Option Addr) (n c : Nat) : Res := .blk bf 49 [.slice ao n c]
abbrev FV (ao : Option Addr) (n c : Nat) (l : List El) : Res := .vec 50 1 ao n c (flat ePt l)
abbrev fI (bf : Nat) : Value := .iface 55 (ptr bf)
theorem fpop_sp (bf : Nat) (ao : Option Addr) (N c : Nat) (l : List El) (hl : l.length = N + 1) (hN : N ≤ 1000000) :
    Spec Try.prog 60 [ptr bf] [FB bf ao (N + 1) c, FV ao (N + 1) c l] fun v give => ∃ ao' c', v = .iface 50 (ptr (l.getD N default).b) ∧ give = [FB bf ao' N c', FV ao' N c' (l.take N)] := by
  have e1 : (((N + 1 : Nat) : Int) - 1).toNat = N := by omega
  have hxs : ((flat ePt l).drop (0 * 1)).take ((N - 0) * 1) = flat ePt (l.take N) := by
    rw [Nat.zero_mul, List.drop_zero, Nat.sub_zero]; exact flat_take (inferInstance : Enc ePt 1) l N
  refine Spec.intro Try.func60 rfl Try.ntmps60 rfl fun w0 rest rs_ hrs_ => ?_
  simp only [List.cons_append, List.nil_append] at hrs_
  subst hrs_
  repeat (first | (apply G.ex (hd := rfl); case h => (first | exact Ex.move rfl | exact Ex.nilCheck rfl | exact Ex.loadB rfl rfl | exact Ex.sub rfl rfl (by omega) | exact Ex.lenSl rfl | exact Ex.loadT0 rfl (by first | omega | (simp; done) | (simp; omega)) rfl | exact Ex.assign rfl | exact Ex.indexI rfl rfl (by omega))) | refine G.nil ?_ | refine GC.seq ?_ | refine GC.region ?_ | refine GE.then_normal ?_)
  refine G.subV (l := 0) (r := N) rfl (by first | exact .inl ⟨rfl, rfl⟩ | exact .inr ⟨_, _, rfl, ev_int rfl (by omega)⟩) (by first | exact .inl ⟨rfl, rfl⟩ | exact .inr ⟨_, _, rfl, ev_int rfl (by omega)⟩) (by omega) rfl (hxs) (fun a1 rs_ hrs_ => ?_)
  try simp only at hrs_
  subst hrs_
  repeat (first | refine G.storeB rfl rfl rfl rfl rfl ?_ | (apply G.ex (hd := rfl); case h => (first | exact Ex.move rfl | exact Ex.nilCheck rfl | exact Ex.assign rfl | exact Ex.mkIface rfl)) | refine G.nil ?_ | refine GC.seq ?_ | refine GC.region ?_ | refine GC.ret ?_ | refine GE.then_normal ?_)
  rw [e1]
  refine GE.ret (by first | exact .inl rfl | exact .inr rfl) (res1 Try.results60 rfl) ⟨a1, c - 0, rfl, rfl⟩ (by repeat first | exact tn_ | apply td_ rfl | apply tc_ | exact .here | apply Take1.there) (by repeat (first | exact Subs.refl | refine Subs.skip ?_))
theorem fpush_sp (bf : Nat) (ao : Option Addr) (n c : Nat) (l : List El) (x : El) (hl : l.length = n) (hn : n ≤ 1000000) :
    Spec Try.prog 61 [ptr bf, .iface 50 (ptr x.b)] [FB bf ao n c, FV ao n c l] fun v give => ∃ ao' c', give = [FB bf ao' (n + 1) c', FV ao' (n + 1) c' (l ++ [x])] := by
  have hcat : flat ePt l ++ flat ePt [x] = flat ePt (l ++ [x]) := (flat_append ..).symm
  refine Spec.intro Try.func61 rfl Try.ntmps61 rfl fun w0 rest rs_ hrs_ => ?_
  simp only [List.cons_append, List.nil_append] at hrs_
  subst hrs_
  repeat (first | fail)
  refine GC.drawA [9] [FB bf ao n c] (by repeat first | exact tn_ | apply td_ rfl | apply tc_ | exact .here | apply Take1.there) (by kernel_rfl) ?_
  first | (apply GA.take [] (hD := .inl rfl) (hsub := ⟨_, Takes.nil⟩) (i := 0) (hi := rfl) (hs := by kernel_rfl) (hfr := by kernel_rfl) (hr := by kernel_rfl) (hQ := np_) (hd := rfl); case hx => (first | exact Ex.move rfl))
  first | (apply GA.take [] (hD := .inl rfl) (hsub := ⟨_, Takes.nil⟩) (i := 1) (hi := rfl) (hs := by kernel_rfl) (hfr := by kernel_rfl) (hr := by kernel_rfl) (hQ := np_) (hd := rfl); case hx => (first | exact Ex.move rfl))
  first | (apply GA.take [] (hD := .inl rfl) (hsub := ⟨_, Takes.nil⟩) (i := 2) (hi := rfl) (hs := by kernel_rfl) (hfr := by kernel_rfl) (hr := by kernel_rfl) (hQ := np_) (hd := rfl); case hx => (first | exact Ex.nilCheck rfl))
  first | (apply GA.take _ (hD := .inr ⟨rfl, by kernel_rfl⟩) (hsub := ⟨_, (by repeat first | exact tn_ | apply td_ rfl | apply tc_ | exact .here | apply Take1.there)⟩) (i := 3) (hi := rfl) (hs := by kernel_rfl) (hfr := by kernel_rfl) (hr := by kernel_rfl) (hQ := np_) (hd := rfl); case hx => (first | exact Ex.loadB rfl rfl))
  first | (apply GA.take [] (hD := .inl rfl) (hsub := ⟨_, Takes.nil⟩) (i := 4) (hi := rfl) (hs := by kernel_rfl) (hfr := by kernel_rfl) (hr := by kernel_rfl) (hQ := np_) (hd := rfl); case hx => (first | exact Ex.move rfl))
  first | (apply GA.take [] (hD := .inl rfl) (hsub := ⟨_, Takes.nil⟩) (i := 5) (hi := rfl) (hs := by kernel_rfl) (hfr := by kernel_rfl) (hr := by kernel_rfl) (hQ := np_) (hd := rfl); case hx => (first | exact Ex.asOne rfl))
  refine GA.one (i := 6) (by kernel_rfl) rfl ?_
  refine G.lit (cells := flat ePt [x]) rfl (by rfl) (by rfl) (by rfl) (by rfl) (by rfl) (by rfl) rfl (fun q => ?_)
  try refine G.nil ?_
  refine GA.back (by first | exact .inl (by decide) | exact .inr ⟨_, (by repeat first | exact tn_ | apply td_ rfl | apply tc_ | exact .here | apply Take1.there)⟩) ?_
  refine GA.one (i := 7) (by kernel_rfl) rfl ?_
  refine G.app rfl rfl (by rfl) (by omega) rfl (hcat) (fun a2 c2 rs_ hrs_ => ?_)
  try simp only at hrs_
  subst hrs_
  try refine G.nil ?_
  refine GA.back (by first | exact .inl (by decide) | exact .inr ⟨_, (by repeat first | exact tn_ | apply td_ rfl | apply tc_ | exact .here | apply Take1.there)⟩) ?_
  first | (apply GA.take [] (hD := .inl rfl) (hsub := ⟨_, Takes.nil⟩) (i := 8) (hi := rfl) (hs := by kernel_rfl) (hfr := by kernel_rfl) (hr := by kernel_rfl) (hQ := np_) (hd := rfl); case hx => (first | exact Ex.nilCheck rfl))
  refine GA.one (i := 9) (by kernel_rfl) rfl ?_
  repeat (first | refine G.storeB rfl rfl rfl rfl rfl ?_ | refine G.nil ?_)
  try refine G.nil ?_
  refine GA.back (by first | exact .inl (by decide) | exact .inr ⟨_, (by repeat first | exact tn_ | apply td_ rfl | apply tc_ | exact .here | apply Take1.there)⟩) ?_
  refine GA.done (by kernel_rfl) ?_
  repeat (first | fail)
  refine GE.ret (by first | exact .inl rfl | exact .inr rfl) (res0 Try.results61) ⟨a2, c2, rfl⟩ (by repeat first | exact tn_ | apply td_ rfl | apply tc_ | exact .here | apply Take1.there) (by repeat (first | exact Subs.refl | refine Subs.skip ?_))
theorem perm_mem {l l' U : List El} (h : l'.Perm l) (hU : ∀ x ∈ l, x ∈ U) : ∀ x ∈ l', x ∈ U := fun x hx => hU x (h.mem_iff.1 hx)
structure Dst (l l' : List El) (lo m i : Nat) : Prop where
  perm : l'.Perm l
  tail : ∀ k, m ≤ k → l'.getD k default = l.getD k default
  dn : Dn leE l' lo m i
theorem Dst.len {l l' : List El} {lo m i : Nat} (h : Dst l l' lo m i) : l'.length = l.length := h.perm.length_eq
theorem Dst.swap {l l' : List El} {lo m i j : Nat} (h : Dst l l' lo m i) (hm : m ≤ l.length) (hlo : lo ≤ i) (h0 : 0 < j) (hj : j < m) (hp : (j - 1) / 2 = i) (hlt : lt (l'.getD j default).t (l'.getD i default).t) (hmin : ∀ k, 0 < k → k < m → (k - 1) / 2 = i → leE (l'.getD j default) (l'.getD k default)) : Dst l (swp l' i j) lo m j := by
  have hl := h.len
  refine ⟨(swp_perm l' i j (by omega) (by omega)).trans h.perm, fun k hk => ?_, h.dn.step leE hlo h0 hj (by omega) hp (leE_of hlt) hmin⟩
  rw [swp_at l' i j k (by omega) (by omega), if_neg (by omega), if_neg (by omega)]
  exact h.tail k hk
set_option maxHeartbeats 16000000 in
theorem down_sp (bf : Nat) (ao : Option Addr) (n c : Nat) (l U : List El) (hl : l.length = n) (hn : n ≤ 1000000) (hU : ∀ x ∈ l, x ∈ U) (i0 m : Nat) (hm : m ≤ n) (hi0 : i0 ≤ n) (hh : Heapy leE l (i0 + 1) m) :
    Spec Try.prog 29 [fI bf, .int .i64 (i0 : Int), .int .i64 (m : Int)] [FB bf ao n c, FV ao n c l, .per (Trees U)] fun v give => ∃ (l' : List El) (b : Bool), v = .bool b ∧ l'.Perm l ∧ (∀ k, m ≤ k → l'.getD k default = l.getD k default) ∧ Heapy leE l' i0 m ∧ give = [FB bf ao n c, FV ao n c l', .per (Trees U)] := by
  refine Spec.intro Try.func29 rfl Try.ntmps29 rfl fun w0 rest rs_ hrs_ => ?_
  simp only [List.cons_append, List.nil_append] at hrs_
  subst hrs_
  repeat (first | (apply G.ex (hd := rfl); case h => (first | exact Ex.move rfl | exact Ex.assign rfl)) | refine G.nil ?_ | refine GC.seq ?_ | refine GC.region ?_ | refine GC.block ?_ | refine GE.then_normal ?_)
  refine GC.loop (ι := Nat × List El) (fun x => i0 ≤ x.1 ∧ x.1 ≤ n ∧ Dst l x.2 i0 m x.1) (fun x => n + 1 - x.1) (fun x => [(0, fI bf), (1, .int .i64 (i0 : Int)), (2, .int .i64 (m : Int)), (7, .int .i64 (x.1 : Int))]) (fun x => [FB bf ao n c, FV ao n c x.2, .per (Trees U)]) (i0, l) ⟨Nat.le_refl _, hi0, .refl _, fun _ _ => rfl, Dn.start leE hh⟩ (by simp only [fits]; repeat (first | exact trivial | refine And.intro rfl ?_)) (by repeat first | exact tn_ | apply td_ rfl | apply tc_ | exact .here | apply Take1.there) ?_
  rintro ⟨i, l'⟩ ⟨hi, hin, hD⟩ fr_ rs_ hfr_ hrs_
  simp only [List.cons_append, List.nil_append] at hfr_ hrs_
  subst hfr_ hrs_
  simp only at hi hin hD
  have hl' : l'.length = n := by rw [hD.len]; exact hl
  have hU' := perm_mem hD.perm hU
  repeat (first | (apply G.ex (hd := rfl); case h => (first | exact Ex.move rfl | exact Ex.add rfl rfl (by omega) | exact Ex.geq rfl rfl | exact Ex.assign rfl | exact Ex.mul rfl rfl (by omega))) | refine G.nil ?_ | refine GC.seq ?_ | refine GC.region ?_ | refine GC.block ?_ | refine GE.then_normal ?_)
  rw [show 2 * (i : Int) + 1 = ((2 * i + 1 : Nat) : Int) by omega]
  by_cases c1 : m ≤ 2 * i + 1
  · have hend : Heapy leE l' i0 m := hD.dn.end_ leE fun j h0 hj hp => by omega
    have c1' : (m : Int) ≤ ((2 * i + 1 : Nat) : Int) := by omega
    repeat (first | (apply G.ex (hd := rfl); case h => (first | exact Ex.move rfl | exact Ex.gtr rfl rfl | exact Ex.assign rfl | exact Ex.pickT rfl (by first | assumption | omega) rfl)) | refine G.g_ft rfl rfl (by first | assumption | omega) rfl ?_ | refine G.nil ?_ | refine GC.seq ?_ | refine GC.region ?_ | refine GC.ret ?_ | refine GC.exit ?_ | refine GE.then_normal ?_ | refine GE.then_exit ?_ | refine GE.block_hit ?_ | refine GE.block_miss rfl ?_ | refine GC.cond_t rfl ?_)
    refine GE.ret (by first | exact .inl rfl | exact .inr rfl) (res1 Try.results29 rfl) ⟨l', _, rfl, hD.perm, hD.tail, hend, rfl⟩ (by repeat first | exact tn_ | apply td_ rfl | apply tc_ | exact .here | apply Take1.there) (by repeat (first | exact Subs.refl | refine Subs.skip ?_))
  · have c1' : ¬ (m : Int) ≤ ((2 * i + 1 : Nat) : Int) := by omega
    have c1'' : ¬ ((2 * i + 1 : Nat) : Int) < 0 := by omega
    repeat ((fail_if_success (refine GC.seq ?_; refine GC.region (id := 6) ?_)); first | (apply G.ex (hd := rfl); case h => (first | exact Ex.move rfl | exact Ex.add rfl rfl (by omega) | exact Ex.lss rfl rfl | exact Ex.assign rfl | exact Ex.pickF rfl (by first | assumption | omega) rfl)) | refine G.g_ff rfl rfl (by first | assumption | omega) ?_ | refine G.nil ?_ | refine GC.seq ?_ | refine GC.region ?_ | refine GC.skip ?_ | refine GE.then_normal ?_ | refine GC.cond_no rfl (by first | assumption | omega) ?_)
    rw [show ((2 * i + 1 : Nat) : Int) + 1 = ((2 * i + 2 : Nat) : Int) by omega]
    refine GC.meet (ι := Nat) (fun j => (j = 2 * i + 1 ∨ j = 2 * i + 2) ∧ j < m ∧ ∀ k, 0 < k → k < m → (k - 1) / 2 = i → leE (l'.getD j default) (l'.getD k default)) (fun j => [(0, fI bf), (1, .int .i64 (i0 : Int)), (2, .int .i64 (m : Int)), (7, .int .i64 (i : Int)), (9, .int .i64 (j : Int))]) (fun j => [FB bf ao n c, FV ao n c l', .per (Trees U)]) rest ?_ ?_
    · by_cases c2 : 2 * i + 2 < m
      · have c2' : ((2 * i + 2 : Nat) : Int) < (m : Int) := by omega
        repeat (first | (apply G.ex (hd := rfl); case h => (first | exact Ex.move rfl | exact Ex.lss rfl rfl)) | refine G.g_tt rfl rfl (by first | assumption | omega) ?_ | refine GC.seq ?_ | refine GC.region ?_)
        refine G.invoke (less_sp ao n c l' U hl' hU' (2 * i + 2) (2 * i + 1) (by omega) (by omega)) rfl rfl rfl rfl (by repeat first | exact tn_ | apply td_ rfl | apply tc_ | exact .here | apply Take1.there) (by first | exact mth_val rfl | exact mth_ptr) ?_
        rintro v_ give_ ⟨rfl, rfl⟩ rs_ hrs_
        simp only [List.cons_append, List.nil_append] at hrs_
        subst hrs_
        by_cases c3 : lt (l'.getD (2 * i + 2) default).t (l'.getD (2 * i + 1) default).t
        · have hq : ∀ k, 0 < k → k < m → (k - 1) / 2 = i → leE (l'.getD (2 * i + 2) default) (l'.getD k default) := fun k h0 hk hp => by
            have : k = 2 * i + 1 ∨ k = 2 * i + 2 := by omega
            rcases this with rfl | rfl
            · exact leE_of c3
            · exact leE_refl _
          rw [decide_eq_true c3]
          repeat (first | (apply G.ex (hd := rfl); case h => (first | exact Ex.move rfl | exact Ex.assign rfl | exact Ex.pickT rfl (by first | assumption | omega) rfl)) | refine G.nil ?_ | refine GC.region ?_ | refine GE.then_normal ?_ | refine GC.cond_t rfl ?_)
          refine GE.meet (2 * i + 2) ⟨.inr rfl, c2, hq⟩ (by simp only [fits]; repeat (first | exact trivial | refine And.intro rfl ?_)) (by repeat first | exact tn_ | apply td_ rfl | apply tc_ | exact .here | apply Take1.there) (by repeat (first | exact Subs.refl | refine Subs.skip ?_))
        · have hq : ∀ k, 0 < k → k < m → (k - 1) / 2 = i → leE (l'.getD (2 * i + 1) default) (l'.getD k default) := fun k h0 hk hp => by
            have : k = 2 * i + 1 ∨ k = 2 * i + 2 := by omega
            rcases this with rfl | rfl
            · exact leE_refl _
            · exact c3
          rw [decide_eq_false c3]
          repeat (first | (apply G.ex (hd := rfl); case h => (first | exact Ex.pickT rfl (by first | assumption | omega) rfl)) | refine G.nil ?_ | refine GC.skip ?_ | refine GE.then_normal ?_ | refine GC.cond_f rfl ?_)
          refine GE.meet (2 * i + 1) ⟨.inl rfl, by omega, hq⟩ (by simp only [fits]; repeat (first | exact trivial | refine And.intro rfl ?_)) (by repeat first | exact tn_ | apply td_ rfl | apply tc_ | exact .here | apply Take1.there) (by repeat (first | exact Subs.refl | refine Subs.skip ?_))
      · have c2' : ¬ ((2 * i + 2 : Nat) : Int) < (m : Int) := by omega
        have hq : ∀ k, 0 < k → k < m → (k - 1) / 2 = i → leE (l'.getD (2 * i + 1) default) (l'.getD k default) := fun k h0 hk hp => by
          have : k = 2 * i + 1 := by omega
          rw [this]; exact leE_refl _
        repeat (first | (apply G.ex (hd := rfl); case h => (first | exact Ex.move rfl | exact Ex.lss rfl rfl | exact Ex.pickF rfl (by first | assumption | omega) rfl)) | refine G.g_tf rfl rfl (by first | assumption | omega) rfl ?_ | refine G.nil ?_ | refine GC.seq ?_ | refine GC.region ?_ | refine GC.skip ?_ | refine GE.then_normal ?_ | refine GC.cond_f rfl ?_)
        refine GE.meet (2 * i + 1) ⟨.inl rfl, by omega, hq⟩ (by simp only [fits]; repeat (first | exact trivial | refine And.intro rfl ?_)) (by repeat first | exact tn_ | apply td_ rfl | apply tc_ | exact .here | apply Take1.there) (by repeat (first | exact Subs.refl | refine Subs.skip ?_))
    rintro j ⟨hj, hjm, hmin⟩ fr_ rs_ hfr_ hrs_
    simp only [List.cons_append, List.nil_append] at hfr_ hrs_
    subst hfr_ hrs_
    have hpar : (j - 1) / 2 = i := by omega
    repeat (first | (apply G.ex (hd := rfl); case h => (first | exact Ex.move rfl)) | refine GC.seq ?_ | refine GC.region ?_ | refine GE.then_normal ?_)
    refine G.invoke (less_sp ao n c l' U hl' hU' j i (by omega) (by omega)) rfl rfl rfl rfl (by repeat first | exact tn_ | apply td_ rfl | apply tc_ | exact .here | apply Take1.there) (by first | exact mth_val rfl | exact mth_ptr) ?_
    rintro v_ give_ ⟨rfl, rfl⟩ rs_ hrs_
    simp only [List.cons_append, List.nil_append] at hrs_
    subst hrs_
    by_cases c4 : lt (l'.getD j default).t (l'.getD i default).t
    · rw [decide_eq_true c4]
      repeat (first | (apply G.ex (hd := rfl); case h => (first | exact Ex.move rfl | exact Ex.notB rfl)) | refine G.nil ?_ | refine GC.seq ?_ | refine GC.region ?_ | refine GC.skip ?_ | refine GE.then_normal ?_ | refine GC.cond_f rfl ?_)
      refine G.invoke (swap_sp ao n c l' hl' i j (by omega) (by omega)) rfl rfl rfl rfl (by repeat first | exact tn_ | apply td_ rfl | apply tc_ | exact .here | apply Take1.there) (by first | exact mth_val rfl | exact mth_ptr) ?_
      rintro v_ give_ rfl rs_ hrs_
      simp only [List.cons_append, List.nil_append] at hrs_
      subst hrs_
      repeat (first | (apply G.ex (hd := rfl); case h => (first | exact Ex.move rfl | exact Ex.assign rfl)) | refine G.nil ?_ | refine GC.region ?_ | refine GE.then_normal ?_ | refine GE.block_normal ?_)
      refine GE.loop (j, swp l' i j) ⟨by simp only; omega, by simp only; omega, hD.swap (by omega) hi (by omega) hjm hpar c4 hmin⟩ (by simp only; omega) (by simp only [fits]; repeat (first | exact trivial | refine And.intro rfl ?_)) (by repeat first | exact tn_ | apply td_ rfl | apply tc_ | exact .here | apply Take1.there) (by repeat (first | exact Subs.refl | refine Subs.skip ?_))
    · rw [decide_eq_false c4]
      have hend : Heapy leE l' i0 m := hD.dn.end_ leE fun k h0 hk hp => leE_trans _ _ _ c4 (hmin k h0 hk hp)
      repeat (first | (apply G.ex (hd := rfl); case h => (first | exact Ex.move rfl | exact Ex.gtr rfl rfl | exact Ex.assign rfl | exact Ex.notB rfl)) | refine G.nil ?_ | refine GC.seq ?_ | refine GC.region ?_ | refine GC.ret ?_ | refine GC.exit ?_ | refine GE.then_normal ?_ | refine GE.then_exit ?_ | refine GE.block_hit ?_ | refine GE.block_miss rfl ?_ | refine GC.cond_t rfl ?_)
      refine GE.ret (by first | exact .inl rfl | exact .inr rfl) (res1 Try.results29 rfl) ⟨l', _, rfl, hD.perm, hD.tail, hend, rfl⟩ (by repeat first | exact tn_ | apply td_ rfl | apply tc_ | exact .here | apply Take1.there) (by repeat (first | exact Subs.refl | refine Subs.skip ?_))
set_option maxHeartbeats 16000000 in
theorem up_sp (bf : Nat) (ao : Option Addr) (n c : Nat) (l U : List El) (hl : l.length = n) (hn : n ≤ 1000000) (hU : ∀ x ∈ l, x ∈ U) (j0 : Nat) (hj0 : j0 < n) (hh : Up leE l n j0) :
    Spec Try.prog 30 [fI bf, .int .i64 (j0 : Int)] [FB bf ao n c, FV ao n c l, .per (Trees U)] fun v give => ∃ (l' : List El), l'.Perm l ∧ Heapy leE l' 0 n ∧ give = [FB bf ao n c, FV ao n c l', .per (Trees U)] := by
  refine Spec.intro Try.func30 rfl Try.ntmps30 rfl fun w0 rest rs_ hrs_ => ?_
  simp only [List.cons_append, List.nil_append] at hrs_
  subst hrs_
  repeat (first | refine GC.block ?_)
  refine GC.loop (ι := Nat × List El) (fun x => x.1 < n ∧ x.2.Perm l ∧ Up leE x.2 n x.1) (fun x => x.1) (fun x => [(0, fI bf), (1, .int .i64 (x.1 : Int))]) (fun x => [FB bf ao n c, FV ao n c x.2, .per (Trees U)]) (j0, l) ⟨hj0, .refl _, hh⟩ (by simp only [fits]; repeat (first | exact trivial | refine And.intro rfl ?_)) (by repeat first | exact tn_ | apply td_ rfl | apply tc_ | exact .here | apply Take1.there) ?_
  rintro ⟨j, l'⟩ ⟨hj, hp, hD⟩ fr_ rs_ hfr_ hrs_
  simp only [List.cons_append, List.nil_append] at hfr_ hrs_
  subst hfr_ hrs_
  simp only at hj hp hD
  have hl' : l'.length = n := by rw [hp.length_eq]; exact hl
  have hU' := perm_mem hp hU
  by_cases h0 : j = 0
  · subst h0
    have hend : Heapy leE l' 0 n := hD.end_ leE fun h => absurd h (by decide)
    repeat (first | (apply G.ex (hd := rfl); case h => (first | exact Ex.move rfl | exact Ex.sub rfl rfl (by omega) | exact Ex.eqI rfl rfl | exact Ex.assign rfl | exact Ex.quotB rfl rfl (by omega) | exact Ex.pickLT rfl rfl)) | refine G.l_ft rfl rfl rfl ?_ | refine G.nil ?_ | refine GC.seq ?_ | refine GC.region ?_ | refine GC.block ?_ | refine GC.exit ?_ | refine GE.then_normal ?_ | refine GE.then_exit ?_ | refine GE.block_hit ?_ | refine GE.block_miss rfl ?_ | refine GC.cond_t rfl ?_)
    refine GE.ret (by first | exact .inl rfl | exact .inr rfl) (res0 Try.results30) ⟨l', hp, hend, rfl⟩ (by repeat first | exact tn_ | apply td_ rfl | apply tc_ | exact .here | apply Take1.there) (by repeat (first | exact Subs.refl | refine Subs.skip ?_))
  · obtain ⟨p, hpar⟩ : ∃ p, (j - 1) / 2 = p := ⟨_, rfl⟩
    have hpn : p < n := by omega
    have hq : ((j : Int) - 1).tdiv 2 = (p : Int) := by
      rw [Int.tdiv_eq_ediv_of_nonneg (by omega)]; omega
    have hq' : ((j : Int) - 1) / 2 = (p : Int) := by omega
    have hne : ¬ (p : Int) = (j : Int) := by omega
    repeat ((fail_if_success (refine GC.seq ?_; refine GC.region (id := 1) ?_)); first | (apply G.ex (hd := rfl); case h => (first | exact Ex.move rfl | exact Ex.sub rfl rfl (by omega) | exact Ex.assign rfl | exact Ex.quo rfl rfl (by omega))) | refine G.nil ?_ | refine GC.seq ?_ | refine GC.region ?_ | refine GC.block ?_ | refine GE.then_normal ?_)
    first
      | rw [hq']
      | rw [hq]
    repeat (first | (apply G.ex (hd := rfl); case h => (first | exact Ex.move rfl | exact Ex.eqI rfl rfl)) | refine G.g_ff rfl rfl (by first | assumption | omega) ?_ | refine GC.seq ?_ | refine GC.region ?_)
    refine G.invoke (less_sp ao n c l' U hl' hU' j p hj hpn) rfl rfl rfl rfl (by repeat first | exact tn_ | apply td_ rfl | apply tc_ | exact .here | apply Take1.there) (by first | exact mth_val rfl | exact mth_ptr) ?_
    rintro v_ give_ ⟨rfl, rfl⟩ rs_ hrs_
    simp only [List.cons_append, List.nil_append] at hrs_
    subst hrs_
    by_cases c1 : lt (l'.getD j default).t (l'.getD p default).t
    · rw [decide_eq_true c1]
      repeat (first | (apply G.ex (hd := rfl); case h => (first | exact Ex.move rfl | exact Ex.notB rfl | exact Ex.pickF rfl (by first | assumption | omega) rfl)) | refine G.g_ff rfl rfl (by first | assumption | omega) ?_ | refine G.nil ?_ | refine GC.seq ?_ | refine GC.region ?_ | refine GC.skip ?_ | refine GE.then_normal ?_ | refine GC.cond_f rfl ?_)
      refine G.invoke (swap_sp ao n c l' hl' p j hpn hj) rfl rfl rfl rfl (by repeat first | exact tn_ | apply td_ rfl | apply tc_ | exact .here | apply Take1.there) (by first | exact mth_val rfl | exact mth_ptr) ?_
      rintro v_ give_ rfl rs_ hrs_
      simp only [List.cons_append, List.nil_append] at hrs_
      subst hrs_
      repeat (first | (apply G.ex (hd := rfl); case h => (first | exact Ex.move rfl | exact Ex.assign rfl)) | refine G.nil ?_ | refine GC.region ?_ | refine GE.then_normal ?_ | refine GE.block_normal ?_)
      have hst := hD.step leE leE_trans (by omega) hj (by omega) (by rw [hpar]; exact leE_of c1)
      rw [hpar] at hst
      refine GE.loop (p, swp l' p j) ⟨hpn, (swp_perm l' p j (by omega) (by omega)).trans hp, hst⟩ (by simp only; omega) (by simp only [fits]; repeat (first | exact trivial | refine And.intro rfl ?_)) (by repeat first | exact tn_ | apply td_ rfl | apply tc_ | exact .here | apply Take1.there) (by repeat (first | exact Subs.refl | refine Subs.skip ?_))
    · rw [decide_eq_false c1]
      have hend : Heapy leE l' 0 n := hD.end_ leE fun h => by rw [hpar]; exact c1
      repeat (first | (apply G.ex (hd := rfl); case h => (first | exact Ex.notB rfl | exact Ex.pickF rfl (by first | assumption | omega) rfl)) | refine G.g_ff rfl rfl (by first | assumption | omega) ?_ | refine G.nil ?_ | refine GC.exit ?_ | refine GE.then_normal ?_ | refine GE.then_exit ?_ | refine GE.block_hit ?_ | refine GE.block_miss rfl ?_ | refine GC.cond_t rfl ?_)
      refine GE.ret (by first | exact .inl rfl | exact .inr rfl) (res0 Try.results30) ⟨l', hp, hend, rfl⟩ (by repeat first | exact tn_ | apply td_ rfl | apply tc_ | exact .here | apply Take1.there) (by repeat (first | exact Subs.refl | refine Subs.skip ?_))
set_option maxHeartbeats 8000000 in
theorem init_sp (bf : Nat) (ao : Option Addr) (n c : Nat) (l U : List El) (hl : l.length = n) (hn : n ≤ 1000000) (hU : ∀ x ∈ l, x ∈ U) :
    Spec Try.prog 23 [fI bf] [FB bf ao n c, FV ao n c l, .per (Trees U)] fun v give => ∃ (l' : List El), l'.Perm l ∧ Heapy leE l' 0 n ∧ give = [FB bf ao n c, FV ao n c l', .per (Trees U)] := by
  have h2 : (n : Int) / 2 = ((n / 2 : Nat) : Int) := by omega
  have h2' : (n : Int).tdiv 2 = ((n / 2 : Nat) : Int) := by rw [Int.tdiv_eq_ediv_of_nonneg (by omega)]; omega
  refine Spec.intro Try.func23 rfl Try.ntmps23 rfl fun w0 rest rs_ hrs_ => ?_
  simp only [List.cons_append, List.nil_append] at hrs_
  subst hrs_
  repeat (first | (apply G.ex (hd := rfl); case h => (first | exact Ex.move rfl)) | refine GC.seq ?_ | refine GC.region ?_)
  refine G.invoke (flen_sp ao n c) rfl rfl rfl rfl (by repeat first | exact tn_ | apply td_ rfl | apply tc_ | exact .here | apply Take1.there) (by first | exact mth_val rfl | exact mth_ptr) ?_
  rintro v_ give_ ⟨rfl, rfl⟩ rs_ hrs_
  simp only [List.cons_append, List.nil_append] at hrs_
  subst hrs_
  repeat (first | (apply G.ex (hd := rfl); case h => (first | exact Ex.move rfl | exact Ex.sub rfl rfl (by omega) | exact Ex.assign rfl | exact Ex.quo rfl rfl (by omega))) | refine G.nil ?_ | refine GC.seq ?_ | refine GC.region ?_ | refine GC.block ?_ | refine GE.then_normal ?_)
  first
    | rw [h2]
    | rw [h2']
  rw [show ((n / 2 : Nat) : Int) - 1 = ((n / 2 : Nat) : Int) - 1 from rfl]
  refine GC.loop (ι := Nat × List El) (fun x => x.1 ≤ n / 2 ∧ x.2.Perm l ∧ Heapy leE x.2 x.1 n) (fun x => x.1) (fun x => [(0, fI bf), (2, .int .i64 (n : Int)), (3, .int .i64 ((x.1 : Int) - 1))]) (fun x => [FB bf ao n c, FV ao n c x.2, .per (Trees U)]) (n / 2, l) ⟨Nat.le_refl _, .refl _, fun j h0 hj hl => by omega⟩ (by simp only [fits]; repeat (first | exact trivial | refine And.intro rfl ?_)) (by repeat first | exact tn_ | apply td_ rfl | apply tc_ | exact .here | apply Take1.there) ?_
  rintro ⟨i, l'⟩ ⟨hi, hp, hD⟩ fr_ rs_ hfr_ hrs_
  simp only [List.cons_append, List.nil_append] at hfr_ hrs_
  subst hfr_ hrs_
  simp only at hi hp hD
  have hl' : l'.length = n := by rw [hp.length_eq]; exact hl
  have hU' := perm_mem hp hU
  cases i with
  | zero =>
    repeat (first | (apply G.ex (hd := rfl); case h => (first | exact Ex.move rfl | exact Ex.geq rfl rfl)) | refine G.nil ?_ | refine GC.seq ?_ | refine GC.region ?_ | refine GC.exit ?_ | refine GE.then_normal ?_ | refine GE.then_exit ?_ | refine GE.block_hit ?_ | refine GC.cond_no rfl (by first | assumption | omega) ?_)
    refine GE.ret (by first | exact .inl rfl | exact .inr rfl) (res0 Try.results23) ⟨l', hp, hD, rfl⟩ (by repeat first | exact tn_ | apply td_ rfl | apply tc_ | exact .here | apply Take1.there) (by repeat (first | exact Subs.refl | refine Subs.skip ?_))
  | succ k =>
    rw [show ((k + 1 : Nat) : Int) - 1 = (k : Int) by omega]
    repeat (first | (apply G.ex (hd := rfl); case h => (first | exact Ex.move rfl | exact Ex.geq rfl rfl)) | refine G.nil ?_ | refine GC.seq ?_ | refine GC.region ?_ | refine GC.block ?_ | refine GC.skip ?_ | refine GE.then_normal ?_ | refine GC.cond_yes rfl (by first | assumption | omega) ?_)
    first | refine G.call (caps := []) (down_sp bf ao n c l' U hl' hn hU' k n (Nat.le_refl _) (by omega) hD) rfl rfl rfl rfl (by repeat first | exact tn_ | apply td_ rfl | apply tc_ | exact .here | apply Take1.there) ?_ | refine G.callU (caps := []) (down_sp bf ao n c l' U hl' hn hU' k n (Nat.le_refl _) (by omega) hD) rfl rfl rfl (by repeat first | exact tn_ | apply td_ rfl | apply tc_ | exact .here | apply Take1.there) ?_
    rintro v_ give_ ⟨l2, b, rfl, p2, t2, h2, rfl⟩ rs_ hrs_
    simp only [List.cons_append, List.nil_append] at hrs_
    subst hrs_
    repeat (first | (apply G.ex (hd := rfl); case h => (first | exact Ex.move rfl | exact Ex.sub rfl rfl (by omega) | exact Ex.assign rfl)) | refine G.nil ?_ | refine GC.region ?_ | refine GE.then_normal ?_ | refine GE.block_normal ?_)
    refine GE.loop (k, l2) ⟨by simp only; omega, p2.trans hp, h2⟩ (by simp only; omega) (by simp only [fits]; repeat (first | exact trivial | refine And.intro rfl ?_)) (by repeat first | exact tn_ | apply td_ rfl | apply tc_ | exact .here | apply Take1.there) (by repeat (first | exact Subs.refl | refine Subs.skip ?_))
set_option maxHeartbeats 8000000 in
/-- the least is taken out -/
theorem hpop_sp (bf : Nat) (ao : Option Addr) (N c : Nat) (l U : List El) (hl : l.length = N + 1) (hN : N ≤ 900000) (hU : ∀ x ∈ l, x ∈ U) (hh : Heapy leE l 0 (N + 1)) :
    Spec Try.prog 24 [fI bf] [FB bf ao (N + 1) c, FV ao (N + 1) c l, .per (Trees U)] fun v give => ∃ (x : El) (l' : List El) (ao' : Option Addr) (c' : Nat), v = .iface 50 (ptr x.b) ∧ x ∈ U ∧ (x :: l').Perm l ∧ (∀ y ∈ l', leE x y) ∧ l'.length = N ∧ Heapy leE l' 0 N ∧ give = [FB bf ao' N c', FV ao' N c' l', .per (Trees U)] := by
  have hs := swp_perm l 0 N (by omega) (by omega)
  have hsl : (swp l 0 N).length = N + 1 := by rw [swp_len]; exact hl
  have hat := fun k => swp_at l 0 N k (by omega) (by omega)
  have hh1 : Heapy leE (swp l 0 N) (0 + 1) N := fun j h0 hj hp => by
    rw [hat, hat, if_neg (by omega), if_neg (by omega), if_neg (by omega), if_neg (by omega)]
    exact hh j h0 (by omega) (Nat.zero_le _)
  refine Spec.intro Try.func24 rfl Try.ntmps24 rfl fun w0 rest rs_ hrs_ => ?_
  simp only [List.cons_append, List.nil_append] at hrs_
  subst hrs_
  repeat (first | (apply G.ex (hd := rfl); case h => (first | exact Ex.move rfl | exact Ex.assign rfl)) | refine G.nil ?_ | refine GC.seq ?_ | refine GC.region ?_ | refine GE.then_normal ?_)
  refine G.invoke (flen_sp ao (N + 1) c) rfl rfl rfl rfl (by repeat first | exact tn_ | apply td_ rfl | apply tc_ | exact .here | apply Take1.there) (by first | exact mth_val rfl | exact mth_ptr) ?_
  rintro v_ give_ ⟨rfl, rfl⟩ rs_ hrs_
  simp only [List.cons_append, List.nil_append] at hrs_
  subst hrs_
  repeat (first | (apply G.ex (hd := rfl); case h => (first | exact Ex.move rfl | exact Ex.sub rfl rfl (by omega) | exact Ex.assign rfl)) | refine G.nil ?_ | refine GC.seq ?_ | refine GC.region ?_ | refine GE.then_normal ?_)
  rw [show (((N + 1 : Nat) : Int) - 1) = (N : Int) by omega]
  refine G.invoke (swap_sp ao (N + 1) c l hl 0 N (by omega) (by omega)) rfl rfl rfl rfl (by repeat first | exact tn_ | apply td_ rfl | apply tc_ | exact .here | apply Take1.there) (by first | exact mth_val rfl | exact mth_ptr) ?_
  rintro v_ give_ rfl rs_ hrs_
  simp only [List.cons_append, List.nil_append] at hrs_
  subst hrs_
  repeat (first | (apply G.ex (hd := rfl); case h => (first | exact Ex.move rfl)) | refine G.nil ?_ | refine GC.seq ?_ | refine GC.region ?_ | refine GE.then_normal ?_)
  first | refine G.call (caps := []) (down_sp bf ao (N + 1) c (swp l 0 N) U hsl (by omega) (perm_mem hs hU) 0 N (by omega) (by omega) hh1) rfl rfl rfl rfl (by repeat first | exact tn_ | apply td_ rfl | apply tc_ | exact .here | apply Take1.there) ?_ | refine G.callU (caps := []) (down_sp bf ao (N + 1) c (swp l 0 N) U hsl (by omega) (perm_mem hs hU) 0 N (by omega) (by omega) hh1) rfl rfl rfl (by repeat first | exact tn_ | apply td_ rfl | apply tc_ | exact .here | apply Take1.there) ?_
  rintro v_ give_ ⟨l2, b, rfl, p2, t2, h2, rfl⟩ rs_ hrs_
  simp only [List.cons_append, List.nil_append] at hrs_
  subst hrs_
  have hl2 : l2.length = N + 1 := by rw [p2.length_eq]; exact hsl
  have hlast : l2.getD N default = l.getD 0 default := by
    rw [t2 N (Nat.le_refl _), hat]
    by_cases c : N = 0
    · rw [if_pos c, c]
    · rw [if_neg c, if_pos rfl]
  have hsplit : l2.take N ++ [l2.getD N default] = l2 := by
    rw [List.getD_eq_getElem?_getD, List.getElem?_eq_getElem (by omega)]
    conv => rhs; rw [← List.take_append_drop N l2, List.drop_eq_getElem_cons (by omega), List.drop_of_length_le (by omega)]
    rfl
  have hperm : (l2.getD N default :: l2.take N).Perm l := by
    refine List.Perm.trans ?_ (p2.trans hs)
    conv => rhs; rw [← hsplit]
    exact (List.perm_append_singleton _ _).symm
  have hleast : ∀ y ∈ l2.take N, leE (l2.getD N default) y := fun y hy => by
    have hy' : y ∈ l := hperm.mem_iff.1 (List.mem_cons_of_mem _ hy)
    rw [hlast]
    obtain ⟨k, hk, e⟩ := List.mem_iff_getElem.1 hy'
    have := hh.least leE leE_refl leE_trans k (by omega)
    rw [List.getD_eq_getElem?_getD (l := l) (i := k), List.getElem?_eq_getElem hk] at this
    rw [← e]; exact this
  have hheap : Heapy leE (l2.take N) 0 N := fun j h0 hj hp => by
    have e : ∀ k, k < N → (l2.take N).getD k default = l2.getD k default := fun k hk => by
      rw [List.getD_eq_getElem?_getD, List.getD_eq_getElem?_getD, List.getElem?_take_of_lt hk]
    rw [e _ (by omega), e _ hj]
    exact h2 j h0 hj hp
  have hmem : l2.getD N default ∈ U := hU _ (hperm.mem_iff.1 (List.mem_cons_self ..))
  have htl : (l2.take N).length = N := by rw [List.length_take]; omega
  repeat (first | (apply G.ex (hd := rfl); case h => (first | exact Ex.move rfl)) | refine G.nil ?_ | refine GC.seq ?_ | refine GC.region ?_ | refine GE.then_normal ?_)
  refine G.invoke (fpop_sp bf ao N c l2 hl2 (by omega)) rfl rfl rfl rfl (by repeat first | exact tn_ | apply td_ rfl | apply tc_ | exact .here | apply Take1.there) (by first | exact mth_val rfl | exact mth_ptr) ?_
  rintro v_ give_ ⟨a3, c3, rfl, rfl⟩ rs_ hrs_
  simp only [List.cons_append, List.nil_append] at hrs_
  subst hrs_
  repeat (first | (apply G.ex (hd := rfl); case h => (first | exact Ex.assign rfl)) | refine G.nil ?_ | refine GC.ret ?_ | refine GE.then_normal ?_)
  refine GE.ret (by first | exact .inl rfl | exact .inr rfl) (res1 Try.results24 rfl) ⟨l2.getD N default, l2.take N, a3, c3, rfl, hmem, hperm, hleast, htl, hheap, rfl⟩ (by repeat first | exact tn_ | apply td_ rfl | apply tc_ | exact .here | apply Take1.there) (by repeat (first | exact Subs.refl | refine Subs.skip ?_))
set_option maxHeartbeats 8000000 in
/-- one is put in -/
theorem hpush_sp (bf : Nat) (ao : Option Addr) (n c : Nat) (l U : List El) (x : El) (hl : l.length = n) (hn : n ≤ 900000) (hU : ∀ x ∈ l, x ∈ U) (hx : x ∈ U) (hh : Heapy leE l 0 n) :
    Spec Try.prog 25 [fI bf, .iface 50 (ptr x.b)] [FB bf ao n c, FV ao n c l, .per (Trees U)] fun v give => ∃ (l' : List El) (ao' : Option Addr) (c' : Nat), l'.Perm (x :: l) ∧ Heapy leE l' 0 (n + 1) ∧ give = [FB bf ao' (n + 1) c', FV ao' (n + 1) c' l', .per (Trees U)] := by
  have hU2 : ∀ y ∈ l ++ [x], y ∈ U := fun y hy => by
    rcases List.mem_append.1 hy with h | h
    · exact hU y h
    · rw [List.mem_singleton.1 h]; exact hx
  refine Spec.intro Try.func25 rfl Try.ntmps25 rfl fun w0 rest rs_ hrs_ => ?_
  simp only [List.cons_append, List.nil_append] at hrs_
  subst hrs_
  repeat (first | (apply G.ex (hd := rfl); case h => (first | exact Ex.move rfl)) | refine GC.seq ?_ | refine GC.region ?_)
  refine G.invoke (fpush_sp bf ao n c l x hl (by omega)) rfl rfl rfl rfl (by repeat first | exact tn_ | apply td_ rfl | apply tc_ | exact .here | apply Take1.there) (by first | exact mth_val rfl | exact mth_ptr) ?_
  rintro v_ give_ ⟨a2, c2, rfl⟩ rs_ hrs_
  simp only [List.cons_append, List.nil_append] at hrs_
  subst hrs_
  repeat (first | (apply G.ex (hd := rfl); case h => (first | exact Ex.move rfl)) | refine G.nil ?_ | refine GC.region ?_ | refine GE.then_normal ?_)
  refine G.invoke (flen_sp a2 (n + 1) c2) rfl rfl rfl rfl (by repeat first | exact tn_ | apply td_ rfl | apply tc_ | exact .here | apply Take1.there) (by first | exact mth_val rfl | exact mth_ptr) ?_
  rintro v_ give_ ⟨rfl, rfl⟩ rs_ hrs_
  simp only [List.cons_append, List.nil_append] at hrs_
  subst hrs_
  repeat (first | (apply G.ex (hd := rfl); case h => (first | exact Ex.sub rfl rfl (by omega))))
  rw [show (((n + 1 : Nat) : Int) - 1) = (n : Int) by omega]
  first | refine G.call (caps := []) (up_sp bf a2 (n + 1) c2 (l ++ [x]) U (by rw [List.length_append, hl]; rfl) (by omega) hU2 n (by omega) (Up.start leE hh hl)) rfl rfl rfl rfl (by repeat first | exact tn_ | apply td_ rfl | apply tc_ | exact .here | apply Take1.there) ?_ | refine G.callU (caps := []) (up_sp bf a2 (n + 1) c2 (l ++ [x]) U (by rw [List.length_append, hl]; rfl) (by omega) hU2 n (by omega) (Up.start leE hh hl)) rfl rfl rfl (by repeat first | exact tn_ | apply td_ rfl | apply tc_ | exact .here | apply Take1.there) ?_
  rintro v_ give_ ⟨l2, p2, h2, rfl⟩ rs_ hrs_
  simp only [List.cons_append, List.nil_append] at hrs_
  subst hrs_
  repeat (first | refine G.nil ?_)
  refine GE.ret (by first | exact .inl rfl | exact .inr rfl) (res0 Try.results25) ⟨l2, a2, c2, p2.trans (List.perm_append_singleton _ _), h2, rfl⟩ (by repeat first | exact tn_ | apply td_ rfl | apply tc_ | exact .here | apply Take1.there) (by repeat (first | exact Subs.refl | refine Subs.skip ?_))
end huff
end Go.Proofs.Ytfkgchdbjfbdaaa
