/-
  CONTRACTS of huff.next and Decode, by the kit.
-/
import Derived.Test.YtfkgchdbjfbdaaaEncode
import Derived.Test.YtfkgchdbjfbdaaaKit40
namespace Go.Proofs.Ytfkgchdbjfbdaaa
open Go.RowKit
attribute [local irreducible] Ex G GC GE Gq FPost LPost
set_option linter.unusedVariables false
set_option linter.unusedSimpArgs false
instance zerInt : Zer Try.prog 3 (.int .i64 0) := ⟨by kernel_rfl⟩
namespace huff
open sort
theorem lookI_none_of {κ : Type} [DecidableEq κ] {k : κ} : ∀ (L : List (κ × Value)) (i : Nat), (∀ e ∈ L, k ≠ e.1) → lookI k L i = none
  | [], _, _ => rfl
  | e :: t, i, h => by
    unfold lookI
    rw [if_neg (h e (List.mem_cons_self ..))]
    exact lookI_none_of t (i + 1) fun x hx => h x (List.mem_cons_of_mem _ hx)
theorem lookI_mem {κ : Type} [DecidableEq κ] {k : κ} : ∀ (L : List (κ × Value)) (i : Nat), (∃ e ∈ L, e.1 = k) → ∃ j v, lookI k L i = some (j, v) ∧ (k, v) ∈ L
  | [], _, h => by obtain ⟨e, he, _⟩ := h; exact (nomatch he)
  | e :: t, i, h => by
    unfold lookI
    by_cases c : k = e.1
    · rw [if_pos c]
      exact ⟨i, e.2, rfl, by rw [c]; exact List.mem_cons_self ..⟩
    · rw [if_neg c]
      obtain ⟨x, hx, hk⟩ := h
      rcases List.mem_cons.1 hx with rfl | hx
      · exact absurd hk.symm c
      · obtain ⟨j, v, h1, h2⟩ := lookI_mem t (i + 1) ⟨x, hx, hk⟩
        exact ⟨j, v, h1, List.mem_cons_of_mem _ h2⟩
def entsF (L cs : Nat → Nat) (k : Nat) : List ((Nat × Nat) × Value) := (sup L k).map fun s => ((L s, cs s), Value.int .i64 (s : Int))
theorem ents_none {L cs : Nat → Nat} {N j c : Nat} (h : ∀ u, u < N → 0 < L u → ¬ (L u = j ∧ cs u = c)) : lookI (j, c) (entsF L cs N) 0 = none :=
  lookI_none_of _ 0 fun e he heq => by
    obtain ⟨s, hs, rfl⟩ := List.mem_map.1 he
    obtain ⟨h1, h2⟩ := mem_sup.1 hs
    simp only [Prod.mk.injEq] at heq
    exact h s h1 h2 ⟨heq.1.symm, heq.2.symm⟩
theorem ents_some {L cs : Nat → Nat} {N s : Nat} (hs : s < N) (h0 : 0 < L s) (hu : ∀ u, u < N → 0 < L u → L u = L s → cs u = cs s → u = s) : ∃ i, lookI (L s, cs s) (entsF L cs N) 0 = some (i, .int .i64 (s : Int)) := by
  obtain ⟨j, v, h1, h2⟩ := lookI_mem (k := (L s, cs s)) (entsF L cs N) 0 ⟨_, List.mem_map.2 ⟨s, mem_sup.2 ⟨hs, h0⟩, rfl⟩, rfl⟩
  obtain ⟨u, hu1, hu2⟩ := List.mem_map.1 h2
  obtain ⟨g1, g2⟩ := mem_sup.1 hu1
  simp only [Prod.mk.injEq] at hu2
  have := hu u g1 g2 hu2.1.1 hu2.1.2
  subst this
  exact ⟨j, by rw [h1, ← hu2.2]⟩
theorem coded_same {L cs cs' : Nat → Nat} {N : Nat} (h : Coded L cs N) (h' : Coded L cs' N) : ∀ s, s < N → cs s = cs' s := fun s hs => by
  rcases Nat.eq_zero_or_pos (L s) with c | c
  · rw [h.none s hs c, h'.none s hs c]
  · have := (h.some s hs c).trans (h'.some s hs c).symm
    exact Nat.eq_of_mul_eq_mul_right (Nat.pow_pos (by decide)) this
theorem allBits_same {L cs cs' : Nat → Nat} {S : List Nat} (h : ∀ s ∈ S, cs s = cs' s) : allBits L cs S = allBits L cs' S := by
  unfold allBits
  induction S with
  | nil => rfl
  | cons s S ih => rw [List.flatMap_cons, List.flatMap_cons, h s (List.mem_cons_self ..), ih fun x hx => h x (List.mem_cons_of_mem _ hx)]
set_option maxHeartbeats 16000000 in
theorem next_sp (mb : Nat) (E : List ((Nat × Nat) × Value)) (bo : Option Addr) (bn bc : Nat) (B : List UInt8) (hB : B.length = bn) (hbn : bn ≤ 140737488352000) (at_ s l : Nat) (h0 : 0 < l) (hl : l ≤ 40) (hr : at_ + l ≤ 8 * bn) (hat : at_ ≤ 1000000)
    (miss : ∀ j, 0 < j → j < l → lookI (j, pv (bitB B) at_ j) E 0 = none) (hit : ∃ i, lookI (l, pv (bitB B) at_ l) E 0 = some (i, .int .i64 (s : Int))) :
    Spec Try.prog 20 [.map (some mb), .slice bo bn bc, .int .i64 (at_ : Int)] [.own (MapR eK2 mb E), .sl bo bn bc 1 (flat eB B)] fun v give => v = .tuple #[.int .i64 (s : Int), .int .i64 (l : Int), .int .i64 0] ∧ give = [.own (MapR eK2 mb E)] := by
  have hpv : ∀ j, j ≤ 40 → pv (bitB B) at_ j ≤ 1099511627776 := fun j hj => Nat.le_trans (Nat.le_of_lt (pv_lt (bitB_lt B) at_ j)) (Nat.le_trans (Nat.pow_le_pow_right (by decide) hj) (by decide))
  refine Spec.intro Try.func20 rfl Try.ntmps20 rfl fun w0 rest rs_ hrs_ => ?_
  simp only [List.cons_append, List.nil_append] at hrs_
  subst hrs_
  repeat (first | (apply G.ex (hd := rfl); case h => (first | exact Ex.assign rfl)) | refine G.nil ?_ | refine GC.seq ?_ | refine GC.region ?_ | refine GE.then_normal ?_)
  refine G.alloc rfl (fun kb => ?_)
  repeat (first | refine G.nil ?_ | refine GC.seq ?_ | refine GC.block ?_ | refine GE.then_normal ?_)
  refine GC.loop (ι := Nat) (fun j => j < l) (fun j => l - j) (fun j => [(0, .map (some mb)), (1, .slice bo bn bc), (2, .int .i64 ((at_ + j : Nat) : Int)), (9, .pointer (some (badr kb 0)))]) (fun j => [.blk kb 43 [.int .i64 (j : Int), .int .i64 ((pv (bitB B) at_ j : Nat) : Int)], .own (MapR eK2 mb E), .sl bo bn bc 1 (flat eB B)]) 0 h0 (by simp only [fits]; repeat (first | exact trivial | refine And.intro rfl ?_)) (by repeat first | exact tn_ | apply td_ rfl | apply tc_ | exact .here | apply Take1.there) ?_
  rintro j hj fr_ rs_ hfr_ hrs_
  simp only [List.cons_append, List.nil_append] at hfr_ hrs_
  subst hfr_ hrs_
  have c1 : (j : Int) < 40 := by omega
  have c2 : ((at_ + j : Nat) : Int) < 8 * (bn : Int) := by omega
  obtain ⟨n, hn⟩ : ∃ n, at_ + j = n := ⟨_, rfl⟩
  obtain ⟨p, hp⟩ : ∃ p, pv (bitB B) at_ j = p := ⟨_, rfl⟩
  have hpb := hpv j (by omega)
  rw [hp] at hpb
  have hnext : 2 * p + bitB B n = pv (bitB B) at_ (j + 1) := by rw [← hp, ← hn]; rfl
  have hbit : (B.getD (n / 8) default).toNat / 2 ^ (7 - n % 8) % 2 = bitB B n := rfl
  have hb2 := bitB_lt B n
  have hq8 : n / 8 < bn := by omega
  have hgo : (flat eB B)[(n / 8) * 1 + 0]? = some (.int .u8 ((B.getD (n / 8) default).toNat : Int)) := flat_at (inferInstance : Enc eB 1) B (n / 8) 0 (by omega) (by decide)
  have hbd : (B.getD (n / 8) default).toNat / 2 ^ (7 - n % 8) ≤ 255 := by
    have := Nat.div_le_self (B.getD (n / 8) default).toNat (2 ^ (7 - n % 8))
    have := UInt8.toNat_lt (B.getD (n / 8) default)
    omega
  obtain ⟨D, hD⟩ : ∃ D, (B.getD (n / 8) default).toNat / 2 ^ (7 - n % 8) = D := ⟨_, rfl⟩
  rw [hD] at hbit hbd
  rw [hn] at c2
  rw [hn, hp]
  obtain ⟨u, hu⟩ : ∃ u, bitB B n = u := ⟨_, rfl⟩
  rw [hu] at hnext hbit hb2
  clear hpv
  repeat (first | (apply G.ex (hd := rfl); case h => (first | exact Ex.move rfl | exact Ex.fieldB rfl | exact Ex.loadB rfl rfl | exact Ex.lss rfl rfl | exact Ex.lenSl rfl | exact Ex.mul rfl rfl (by omega) | exact Ex.pickT rfl (by first | assumption | omega) rfl)) | refine G.g_tt rfl rfl (by first | assumption | omega) ?_ | refine G.nil ?_ | refine GC.seq ?_ | refine GC.region ?_ | refine GC.block ?_ | refine GC.skip ?_ | refine GE.then_normal ?_ | refine GC.cond_yes rfl (by first | assumption | omega) ?_)
  refine GC.drawA [16] [.blk kb 43 [.int .i64 (j : Int), .int .i64 (p : Int)], .sl bo bn bc 1 (flat eB B)] (by repeat first | exact tn_ | apply td_ rfl | apply tc_ | exact .here | apply Take1.there) (by kernel_rfl) ?_
  first | (apply GA.take [] (hD := .inl rfl) (hsub := ⟨_, Takes.nil⟩) (i := 0) (hi := rfl) (hs := by kernel_rfl) (hfr := by kernel_rfl) (hr := by kernel_rfl) (hQ := np_) (hd := rfl); case hx => (first | exact Ex.fieldB rfl))
  first | (apply GA.take _ (hD := .inr ⟨rfl, by kernel_rfl⟩) (hsub := ⟨_, (by repeat first | exact tn_ | apply td_ rfl | apply tc_ | exact .here | apply Take1.there)⟩) (i := 1) (hi := rfl) (hs := by kernel_rfl) (hfr := by kernel_rfl) (hr := by kernel_rfl) (hQ := np_) (hd := rfl); case hx => (first | exact Ex.loadB rfl rfl))
  apply GA.take [] (hD := .inl rfl) (hsub := ⟨_, Takes.nil⟩) (i := 2) (hi := rfl) (hs := by kernel_rfl) (hfr := by kernel_rfl) (hr := by kernel_rfl) (hQ := np_) (hd := rfl) (hx := (Ex.shlV (a := p) (k := 1) rfl rfl ⟨by decide, by omega⟩))
  first | (apply GA.take [] (hD := .inl rfl) (hsub := ⟨_, Takes.nil⟩) (i := 3) (hi := rfl) (hs := by kernel_rfl) (hfr := by kernel_rfl) (hr := by kernel_rfl) (hQ := np_) (hd := rfl); case hx => (first | exact Ex.move rfl))
  first | (apply GA.take [] (hD := .inl rfl) (hsub := ⟨_, Takes.nil⟩) (i := 4) (hi := rfl) (hs := by kernel_rfl) (hfr := by kernel_rfl) (hr := by kernel_rfl) (hQ := np_) (hd := rfl); case hx => (first | exact Ex.move rfl))
  first | (apply GA.take [] (hD := .inl rfl) (hsub := ⟨_, Takes.nil⟩) (i := 5) (hi := rfl) (hs := by kernel_rfl) (hfr := by kernel_rfl) (hr := by kernel_rfl) (hQ := np_) (hd := rfl); case hx => (first | exact Ex.quo rfl rfl (by omega)))
  rw [show (n : Int) / 8 = ((n / 8 : Nat) : Int) by omega]
  first | (apply GA.take _ (hD := .inr ⟨rfl, by kernel_rfl⟩) (hsub := ⟨_, (by repeat first | exact tn_ | apply td_ rfl | apply tc_ | exact .here | apply Take1.there)⟩) (i := 6) (hi := rfl) (hs := by kernel_rfl) (hfr := by kernel_rfl) (hr := by kernel_rfl) (hQ := np_) (hd := rfl); case hx => (first | exact Ex.indexN rfl rfl (by first | omega | (simp; done) | (simp; omega))))
  first | (apply GA.take _ (hD := .inr ⟨rfl, by kernel_rfl⟩) (hsub := ⟨_, (by repeat first | exact tn_ | apply td_ rfl | apply tc_ | exact .here | apply Take1.there)⟩) (i := 7) (hi := rfl) (hs := by kernel_rfl) (hfr := by kernel_rfl) (hr := by kernel_rfl) (hQ := np_) (hd := rfl); case hx => (first | exact Ex.loadT0 rfl (by first | omega | (simp; done) | (simp; omega)) rfl))
  first | (apply GA.take [] (hD := .inl rfl) (hsub := ⟨_, Takes.nil⟩) (i := 8) (hi := rfl) (hs := by kernel_rfl) (hfr := by kernel_rfl) (hr := by kernel_rfl) (hQ := np_) (hd := rfl); case hx => (first | exact Ex.move rfl))
  first | (apply GA.take [] (hD := .inl rfl) (hsub := ⟨_, Takes.nil⟩) (i := 9) (hi := rfl) (hs := by kernel_rfl) (hfr := by kernel_rfl) (hr := by kernel_rfl) (hQ := np_) (hd := rfl); case hx => (first | exact Ex.rem rfl rfl (by omega)))
  first | (apply GA.take [] (hD := .inl rfl) (hsub := ⟨_, Takes.nil⟩) (i := 10) (hi := rfl) (hs := by kernel_rfl) (hfr := by kernel_rfl) (hr := by kernel_rfl) (hQ := np_) (hd := rfl); case hx => (first | exact Ex.sub rfl rfl (by omega)))
  rw [show (7 : Int) - (n : Int) % 8 = ((7 - n % 8 : Nat) : Int) by omega]
  apply GA.take [] (hD := .inl rfl) (hsub := ⟨_, Takes.nil⟩) (i := 11) (hi := rfl) (hs := by kernel_rfl) (hfr := by kernel_rfl) (hr := by kernel_rfl) (hQ := np_) (hd := rfl) (hx := (Ex.shrU8 (b := B.getD (n / 8) default) (d := 7 - n % 8) rfl rfl (by omega)))
  rw [hD]
  apply GA.take [] (hD := .inl rfl) (hsub := ⟨_, Takes.nil⟩) (i := 12) (hi := rfl) (hs := by kernel_rfl) (hfr := by kernel_rfl) (hr := by kernel_rfl) (hQ := np_) (hd := rfl) (hx := (Ex.conv64 rfl (by omega)))
  apply GA.take [] (hD := .inl rfl) (hsub := ⟨_, Takes.nil⟩) (i := 13) (hi := rfl) (hs := by kernel_rfl) (hfr := by kernel_rfl) (hr := by kernel_rfl) (hQ := np_) (hd := rfl) (hx := (Ex.andBit rfl rfl (by omega)))
  rw [show (D : Int) % 2 = ((D % 2 : Nat) : Int) from (Int.natCast_emod ..).symm, hbit]
  apply GA.take [] (hD := .inl rfl) (hsub := ⟨_, Takes.nil⟩) (i := 14) (hi := rfl) (hs := by kernel_rfl) (hfr := by kernel_rfl) (hr := by kernel_rfl) (hQ := np_) (hd := rfl) (hx := (Ex.orLow (a := p) (v := u) rfl rfl (by omega)))
  rw [hnext]
  first | (apply GA.take [] (hD := .inl rfl) (hsub := ⟨_, Takes.nil⟩) (i := 15) (hi := rfl) (hs := by kernel_rfl) (hfr := by kernel_rfl) (hr := by kernel_rfl) (hQ := np_) (hd := rfl); case hx => (first | exact Ex.fieldB rfl))
  refine GA.one (i := 16) (by kernel_rfl) rfl ?_
  first | refine G.storeB rfl rfl rfl rfl rfl ?_
  try refine G.nil ?_
  refine GA.back (by first | exact .inl (by decide) | exact .inr ⟨_, (by repeat first | exact tn_ | apply td_ rfl | apply tc_ | exact .here | apply Take1.there)⟩) ?_
  refine GA.done (by kernel_rfl) ?_
  repeat (first | refine G.storeB rfl rfl rfl rfl rfl ?_ | (apply G.ex (hd := rfl); case h => (first | exact Ex.move rfl | exact Ex.fieldB rfl | exact Ex.loadB rfl rfl | exact Ex.add rfl rfl (by omega) | exact Ex.assign rfl | exact Ex.loadBA rfl rfl rfl)) | refine G.nil ?_ | refine GC.seq ?_ | refine GC.region ?_ | refine GE.then_normal ?_)
  rw [show (j : Int) + 1 = ((j + 1 : Nat) : Int) by omega, show (n : Int) + 1 = ((at_ + (j + 1) : Nat) : Int) by omega]
  refine G.ex (hd := rfl) (Ex.lookupOk (k := (j + 1, pv (bitB B) at_ (j + 1))) rfl rfl) ?_
  by_cases e : j + 1 = l
  · obtain ⟨i, hi⟩ := hit
    rw [← e] at hi
    rw [hi]
    simp only [Option.map_some, Option.getD_some, Option.isSome_some]
    clear hgo hbit hnext
    repeat (first | (apply G.ex (hd := rfl); case h => (first | exact Ex.move rfl | exact Ex.extract rfl rfl | exact Ex.assign rfl)) | refine G.nil ?_ | (apply Gq.ex (hd := rfl); case h => (first | exact Ex.move rfl | exact Ex.fieldB rfl | exact Ex.loadB rfl rfl | exact Ex.assign rfl)) | refine Gq.nil ?_ | refine GC.seq ?_ | refine GC.region ?_ | refine GC.draw (by kernel_rfl) (by kernel_rfl) ?_ | refine GC.ret ?_ | refine GE.then_normal ?_ | refine GE.then_ret ?_ | refine GE.block_ret ?_ | refine GC.cond_t rfl ?_)
    refine GE.ret (by first | exact .inl rfl | exact .inr rfl) (resR3 Try.results20 (RV.tmp rfl) (RV.tmp rfl) (RV.tmp rfl)) ⟨by rw [← e], rfl⟩ (by repeat first | exact tn_ | apply td_ rfl | apply tc_ | exact .here | apply Take1.there) (by repeat (first | exact Subs.refl | refine Subs.skip ?_))
  · rw [miss (j + 1) (by omega) (by omega)]
    simp only [Option.map_none, Option.getD_none, Option.isSome_none]
    clear hgo hbit hnext
    repeat (first | (apply G.ex (hd := rfl); case h => (first | exact Ex.move rfl | exact Ex.extract rfl rfl | exact Ex.assign rfl)) | refine G.nil ?_ | refine GC.seq ?_ | refine GC.region ?_ | refine GC.skip ?_ | refine GE.then_normal ?_ | refine GE.block_normal ?_ | refine GC.cond_f rfl ?_)
    refine GE.loop (j + 1) (by omega) (by omega) (by simp only [fits]; repeat (first | exact trivial | refine And.intro rfl ?_)) (by repeat first | exact tn_ | apply td_ rfl | apply tc_ | exact .here | apply Take1.there) (by repeat (first | exact Subs.refl | refine Subs.skip ?_))
set_option maxHeartbeats 32000000 in
theorem decode_sp (la : Option Addr) (ln lc : Nat) (Ls : List Int) (hl : Ls.length = ln) (hln : ln ≤ 64) (h0 : ∀ z ∈ Ls, 0 ≤ z) (m : May (cN Ls) ln) (bo : Option Addr) (bn bc : Nat) (B : List UInt8) (hB : B.length = bn) (hbn : bn ≤ 140737488352000) (S : List Nat) (sn : Nat) (hS : S.length = sn) (hsn : sn ≤ 4096) (hin : ∀ s ∈ S, s < ln ∧ 0 < cN Ls s)
    (hroom : allLen (cN Ls) S ≤ 8 * bn) (cs0 : Nat → Nat) (hc0 : Coded (cN Ls) cs0 ln) (hbits : ∀ i, i < allLen (cN Ls) S → bitB B i = bitL (allBits (cN Ls) cs0 S) i) :
    Spec Try.prog 15 [.slice la ln lc, .slice bo bn bc, .int .i64 (sn : Int)] [LS la ln lc Ls, .sl bo bn bc 1 (flat eB B)] fun v give => ∃ (ra : Option Addr) (rc : Nat), v = .tuple #[.slice ra sn rc, .int .i64 0] ∧ give = [.vec 3 1 ra sn rc (flat eN S)] := by
  have d1 : ¬ (sn : Int) < 0 := by omega
  have d2 : ¬ (sn : Int) > 4096 := by omega
  refine Spec.intro Try.func15 rfl Try.ntmps15 rfl fun w0 rest rs_ hrs_ => ?_
  simp only [List.cons_append, List.nil_append] at hrs_
  subst hrs_
  repeat (first | (apply G.ex (hd := rfl); case h => (first | exact Ex.move rfl | exact Ex.assign rfl)) | refine G.nil ?_ | refine GC.seq ?_ | refine GC.region ?_ | refine GC.block ?_ | refine GE.then_normal ?_)
  first | refine G.call (caps := []) (may_sp la ln lc Ls hl hln h0 m) rfl rfl rfl rfl (by repeat first | exact tn_ | apply td_ rfl | apply tc_ | exact .here | apply Take1.there) ?_ | refine G.callU (caps := []) (may_sp la ln lc Ls hl hln h0 m) rfl rfl rfl (by repeat first | exact tn_ | apply td_ rfl | apply tc_ | exact .here | apply Take1.there) ?_
  rintro v_ give_ ⟨rfl, rfl⟩ rs_ hrs_
  simp only [List.cons_append, List.nil_append] at hrs_
  subst hrs_
  repeat (first | (apply G.ex (hd := rfl); case h => (first | exact Ex.move rfl | exact Ex.lss rfl rfl | exact Ex.gtr rfl rfl | exact Ex.assign rfl | exact Ex.notB rfl | exact Ex.pickF rfl (by first | assumption | omega) rfl)) | refine G.g_ff rfl rfl (by first | assumption | omega) ?_ | refine G.nil ?_ | refine GC.seq ?_ | refine GC.region ?_ | refine GC.skip ?_ | refine GE.then_normal ?_ | refine GE.block_normal ?_ | refine GC.cond_no rfl (by first | assumption | omega) ?_ | refine GC.cond_f rfl ?_)
  refine G.makeMap eK2 rfl (fun mb => ?_)
  repeat (first | (apply G.ex (hd := rfl); case h => (first | exact Ex.move rfl | exact Ex.assign rfl)) | refine G.nil ?_ | refine GC.seq ?_ | refine GC.region ?_ | refine GE.then_normal ?_)
  first | refine G.call (caps := []) (codes_sp la ln lc Ls hl hln h0 m) rfl rfl rfl rfl (by repeat first | exact tn_ | apply td_ rfl | apply tc_ | exact .here | apply Take1.there) ?_ | refine G.callU (caps := []) (codes_sp la ln lc Ls hl hln h0 m) rfl rfl rfl (by repeat first | exact tn_ | apply td_ rfl | apply tc_ | exact .here | apply Take1.there) ?_
  rintro v_ give_ ⟨cl, ka, kc, hcl, hcl0, hcd, rfl, rfl⟩ rs_ hrs_
  simp only [List.cons_append, List.nil_append] at hrs_
  subst hrs_
  have vo : ∀ i, i < ln → Ls.getD i default = ((cN Ls i : Nat) : Int) := fun i hi => by
    have := h0 (Ls.getD i default) (getD_in (by omega))
    unfold cN; omega
  have vc : ∀ i, i < ln → cl.getD i default = ((cN cl i : Nat) : Int) := fun i hi => by
    have := hcl0 (cl.getD i default) (getD_in (by omega))
    unfold cN; omega
  clear h0 hcl0
  have hsame := coded_same hc0 hcd
  have hbits2 : ∀ i, i < allLen (cN Ls) S → bitB B i = bitL (allBits (cN Ls) (cN cl) S) i := fun i hi => by
    rw [hbits i hi, allBits_same fun s hs => hsame s (hin s hs).1]
  clear hbits hsame hc0
  have htot : ∀ i, allLen (cN Ls) (S.take i) ≤ 163840 := fun i => by
    have h1 := allLen_le (cN Ls) (S := S) i
    have h2 := allLen_bd (cN Ls) (S := S) (fun s hs => m.le s (hin s hs).1)
    omega
  repeat (first | (apply G.ex (hd := rfl); case h => (first | exact Ex.move rfl | exact Ex.lenSl rfl)) | refine G.nil ?_ | refine GC.block ?_ | refine GE.then_normal ?_)
  refine GC.loop (ι := Nat) (fun i => i ≤ ln) (fun i => ln - i) (fun i => [(0, .slice la ln lc), (1, .slice bo bn bc), (2, .int .i64 (sn : Int)), (8, .map (some mb)), (29, .slice ka ln kc), (30, .int .i64 (ln : Int)), (31, .int .i64 (i : Int))]) (fun i => [.own (MapR eK2 mb (entsF (cN Ls) (cN cl) i)), .vec 3 1 ka ln kc (flat (eI .i64) cl), LS la ln lc Ls, .sl bo bn bc 1 (flat eB B)]) 0 (Nat.zero_le _) (by simp only [fits]; repeat (first | exact trivial | refine And.intro rfl ?_)) (by repeat first | exact tn_ | apply td_ rfl | apply tc_ | exact .here | apply Take1.there) ?_
  rintro i hi fr_ rs_ hfr_ hrs_
  simp only [List.cons_append, List.nil_append] at hfr_ hrs_
  subst hfr_ hrs_
  by_cases c : i < ln
  · have hls := vo i c
    have hcs := vc i c
    by_cases p : 0 < cN Ls i
    · have p' : (cN Ls i : Int) > 0 := by omega
      have hE : entsF (cN Ls) (cN cl) (i + 1) = entsF (cN Ls) (cN cl) i ++ [((cN Ls i, cN cl i), Value.int .i64 (i : Int))] := by
        unfold entsF; rw [sup, if_neg (by omega), List.map_append]; rfl
      have hno : lookI (cN Ls i, cN cl i) (entsF (cN Ls) (cN cl) i) 0 = none := ents_none fun u hu hu0 ⟨e1, e2⟩ => by
        have := apart hcd m (i := u) (k := i) (by omega) c hu0 (Nat.le_of_eq e1) (by omega)
        rw [e1, Nat.sub_self, Nat.pow_zero, Nat.div_one] at this
        exact this e2.symm
      clear vo vc hbits2 htot hin hcd m hroom
      repeat (first | (apply G.ex (hd := rfl); case h => (first | exact Ex.move rfl | exact Ex.lss rfl rfl | exact Ex.gtr rfl rfl | exact Ex.indexN rfl rfl (by first | omega | (simp; done) | (simp; omega)) | exact Ex.loadT0 rfl (by first | omega | (simp; done) | (simp; omega)) rfl | exact Ex.assign rfl | exact Ex.build rfl rfl)) | refine G.nil ?_ | refine GC.seq ?_ | refine GC.region ?_ | refine GC.block ?_ | refine GC.skip ?_ | refine GE.then_normal ?_ | refine GC.cond_yes rfl (by first | assumption | omega) ?_)
      rw [hls, hcs]
      refine G.mapUpdate (k := (cN Ls i, cN cl i)) (u := .int .i64 (i : Int)) (L' := entsF (cN Ls) (cN cl) (i + 1)) rfl rfl rfl (.inr ⟨hno, hE⟩) (fun rs_ hrs_ => ?_)
      try simp only at hrs_
      subst hrs_
      repeat (first | (apply G.ex (hd := rfl); case h => (first | exact Ex.move rfl | exact Ex.add rfl rfl (by omega))) | refine G.nil ?_ | refine GC.region ?_ | refine GE.then_normal ?_ | refine GE.block_normal ?_)
      rw [show (i : Int) + 1 = ((i + 1 : Nat) : Int) by omega]
      refine GE.loop (i + 1) (by omega) (by omega) (by simp only [fits]; repeat (first | exact trivial | refine And.intro rfl ?_)) (by repeat first | exact tn_ | apply td_ rfl | apply tc_ | exact .here | apply Take1.there) (by repeat (first | exact Subs.refl | refine Subs.skip ?_))
    · have p' : ¬ (cN Ls i : Int) > 0 := by omega
      have hE : entsF (cN Ls) (cN cl) (i + 1) = entsF (cN Ls) (cN cl) i := by
        unfold entsF; rw [sup, if_pos (by omega)]
      clear vo vc hbits2 htot hin hcd m hroom
      repeat (first | (apply G.ex (hd := rfl); case h => (first | exact Ex.move rfl | exact Ex.add rfl rfl (by omega) | exact Ex.lss rfl rfl | exact Ex.gtr rfl rfl | exact Ex.indexN rfl rfl (by first | omega | (simp; done) | (simp; omega)) | exact Ex.loadT0 rfl (by first | omega | (simp; done) | (simp; omega)) rfl | exact Ex.assign rfl)) | refine G.nil ?_ | refine GC.seq ?_ | refine GC.region ?_ | refine GC.block ?_ | refine GC.skip ?_ | refine GE.then_normal ?_ | refine GE.block_normal ?_ | refine GC.cond_yes rfl (by first | assumption | omega) ?_ | refine GC.cond_no rfl (by first | assumption | omega) ?_)
      rw [show (i : Int) + 1 = ((i + 1 : Nat) : Int) by omega, ← hE]
      refine GE.loop (i + 1) (by omega) (by omega) (by simp only [fits]; repeat (first | exact trivial | refine And.intro rfl ?_)) (by repeat first | exact tn_ | apply td_ rfl | apply tc_ | exact .here | apply Take1.there) (by repeat (first | exact Subs.refl | refine Subs.skip ?_))
  · obtain rfl : i = ln := by omega
    clear vo vc
    repeat (first | (apply G.ex (hd := rfl); case h => (first | exact Ex.move rfl | exact Ex.lss rfl rfl | exact Ex.assign rfl)) | refine G.nil ?_ | refine GC.seq ?_ | refine GC.region ?_ | refine GC.block ?_ | refine GC.exit ?_ | refine GE.then_normal ?_ | refine GE.then_exit ?_ | refine GE.block_hit ?_ | refine GC.cond_no rfl (by first | assumption | omega) ?_)
    first | refine G.nilvec 3 1 ?_ | refine GC.nilvec 3 1 ?_
    repeat (first | fail)
    refine GC.loop (ι := Nat × Option Addr × Nat) (fun x => x.1 ≤ sn) (fun x => sn - x.1) (fun x => [(1, .slice bo bn bc), (8, .map (some mb)), (11, .slice x.2.1 x.1 x.2.2), (12, .int .i64 ((allLen (cN Ls) (S.take x.1) : Nat) : Int)), (50, .int .i64 (sn : Int)), (51, .int .i64 (x.1 : Int))]) (fun x => [.vec 3 1 x.2.1 x.1 x.2.2 (flat eN (S.take x.1)), .own (MapR eK2 mb (entsF (cN Ls) (cN cl) i)), .sl bo bn bc 1 (flat eB B)]) (0, none, 0) (Nat.zero_le _) (by simp only [fits]; repeat (first | exact trivial | refine And.intro rfl ?_)) (by repeat first | exact tn_ | apply td_ rfl | apply tc_ | exact .here | apply Take1.there) ?_
    rintro ⟨k, ra, rc⟩ hk fr_ rs_ hfr_ hrs_
    simp only [List.cons_append, List.nil_append] at hfr_ hrs_
    subst hfr_ hrs_
    simp only at hk
    by_cases c2 : k < sn
    · obtain ⟨s, hse⟩ : ∃ s, S.getD k default = s := ⟨_, rfl⟩
      have hs := hin s (by rw [← hse]; exact getD_mem' (by omega))
      have hlt := allLen_take (cN Ls) (S := S) (i := k) (by omega)
      have hle := allLen_le (cN Ls) (S := S) (k + 1)
      have hatb := htot k
      have htk : S.take (k + 1) = S.take k ++ [s] := by
        rw [List.take_succ_eq_append_getElem (by omega)]; congr 2
        rw [← hse, List.getD_eq_getElem?_getD, List.getElem?_eq_getElem (by omega)]; rfl
      have hpv : pv (bitB B) (allLen (cN Ls) (S.take k)) (cN Ls s) = cN cl s := by
        have hh := pv_code (f := bitB B) (at_ := allLen (cN Ls) (S.take k)) (c := cN cl s) (L := cN Ls s) (hcd.lt m hs.1) (fun j hj => by
          rw [hse] at hlt
          rw [hbits2 _ (by omega)]
          have := allBits_at (L := cN Ls) (cs := cN cl) (S := S) (i := k) (j := j) (by omega) (by rw [hse]; exact hj)
          rw [hse] at this
          exact this) (cN Ls s) (Nat.le_refl _)
        rw [hh, Nat.sub_self, Nat.pow_zero, Nat.div_one]
      obtain ⟨fd1, fd2⟩ := found hcd m (bitB_lt B) hs.1 hs.2 hpv
      have hnx := next_sp mb (entsF (cN Ls) (cN cl) i) bo bn bc B hB hbn (allLen (cN Ls) (S.take k)) s (cN Ls s) hs.2 (m.le s hs.1) (by rw [hse] at hlt; omega) (by omega) (fun j hj0 hj => ents_none (fd1 j hj)) (by rw [hpv]; exact ents_some hs.1 hs.2 fd2)
      rw [hse] at hlt
      have hcat : flat eN (S.take k) ++ flat eN [s] = flat eN (S.take (k + 1)) := by rw [htk]; exact (flat_append ..).symm
      have hl40 := m.le s hs.1
      have n2 : ((allLen (cN Ls) (S.take k) : Nat) : Int) + ((cN Ls s : Nat) : Int) = ((allLen (cN Ls) (S.take (k + 1)) : Nat) : Int) := by omega
      clear fd1 fd2 hpv htk hbits2 htot hin hcd hroom
      repeat (first | (apply G.ex (hd := rfl); case h => (first | exact Ex.move rfl | exact Ex.lss rfl rfl)) | refine G.nil ?_ | refine GC.seq ?_ | refine GC.region ?_ | refine GC.block ?_ | refine GC.skip ?_ | refine GE.then_normal ?_ | refine GC.cond_yes rfl (by first | assumption | omega) ?_)
      first | refine G.call (caps := []) (hnx) rfl rfl rfl rfl (by repeat first | exact tn_ | apply td_ rfl | apply tc_ | exact .here | apply Take1.there) ?_ | refine G.callU (caps := []) (hnx) rfl rfl rfl (by repeat first | exact tn_ | apply td_ rfl | apply tc_ | exact .here | apply Take1.there) ?_
      rintro v_ give_ ⟨rfl, rfl⟩ rs_ hrs_
      simp only [List.cons_append, List.nil_append] at hrs_
      subst hrs_
      repeat (first | (apply G.ex (hd := rfl); case h => (first | exact Ex.move rfl | exact Ex.neI rfl rfl | exact Ex.extract rfl rfl | exact Ex.assign rfl)) | refine G.nil ?_ | refine GC.seq ?_ | refine GC.region ?_ | refine GC.skip ?_ | refine GE.then_normal ?_ | refine GC.cond_no rfl (by first | assumption | omega) ?_)
      refine G.lit (cells := flat eN [s]) rfl (by rfl) (by rfl) (by rfl) (by rfl) (by rfl) (by rfl) rfl (fun q => ?_)
      refine G.app rfl rfl (by rfl) (by omega) rfl (hcat) (fun r2 rc2 rs_ hrs_ => ?_)
      try simp only at hrs_
      subst hrs_
      repeat (first | (apply G.ex (hd := rfl); case h => (first | exact Ex.move rfl | exact Ex.add rfl rfl (by omega) | exact Ex.assign rfl)) | refine G.nil ?_ | refine GC.region ?_ | refine GE.then_normal ?_ | refine GE.block_normal ?_)
      rw [n2, show (k : Int) + 1 = ((k + 1 : Nat) : Int) by omega]
      refine GE.loop (k + 1, r2, rc2) (by simp only; omega) (by simp only; omega) (by simp only [fits]; repeat (first | exact trivial | refine And.intro rfl ?_)) (by repeat first | exact tn_ | apply td_ rfl | apply tc_ | exact .here | apply Take1.there) (by repeat (first | exact Subs.refl | refine Subs.skip ?_))
    · obtain rfl : k = sn := by omega
      rw [List.take_of_length_le (l := S) (by omega)]
      repeat (first | (apply G.ex (hd := rfl); case h => (first | exact Ex.move rfl | exact Ex.lss rfl rfl | exact Ex.assign rfl)) | refine G.nil ?_ | refine GC.seq ?_ | refine GC.region ?_ | refine GC.ret ?_ | refine GC.exit ?_ | refine GE.then_normal ?_ | refine GE.then_exit ?_ | refine GE.block_hit ?_ | refine GC.cond_no rfl (by first | assumption | omega) ?_)
      refine GE.ret (by first | exact .inl rfl | exact .inr rfl) (res2 Try.results15 rfl rfl) ⟨ra, rc, rfl, rfl⟩ (by repeat first | exact tn_ | apply td_ rfl | apply tc_ | exact .here | apply Take1.there) (by repeat (first | exact Subs.refl | refine Subs.skip ?_))
end huff
end Go.Proofs.Ytfkgchdbjfbdaaa
