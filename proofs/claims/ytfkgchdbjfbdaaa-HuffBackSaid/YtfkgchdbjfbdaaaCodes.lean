/-
  CONTRACTS of huff.may, codes and Codes, by the kit.
-/
import Derived.Test.YtfkgchdbjfbdaaaSortE
import Derived.Test.YtfkgchdbjfbdaaaCodeQ
import Derived.Test.YtfkgchdbjfbdaaaHuffBest
namespace Go.Proofs.Ytfkgchdbjfbdaaa
open Go.RowKit
set_option linter.unusedVariables false
set_option linter.unusedSimpArgs false
theorem Ex.shlV {P : Program} {n : Nat} {w0 : World} {rs : List Res} {fr : Slots} {t t' ty : TypeId} {x y : Operand} {k a : Nat} {KK : IntKind} (hx : ev fr x = some (.int .i64 (a : Int))) (hy : ev fr y = some (.int KK (k : Int))) (h : k ≤ 62 ∧ a * 2 ^ k ≤ 4611686018427387904) : Ex P n w0 rs fr (.binOp .shl t x y t') ty (.int .i64 ((a * 2 ^ k : Nat) : Int)) :=
  fun _ w _ _ _ _ hf _ => by
    have h3 : ((a * 2 ^ k : Nat) : Int) ≤ 4611686018427387904 := by omega
    have e : IntKind.i64.wrap ((a * 2 ^ k : Nat) : Int) = ((a * 2 ^ k : Nat) : Int) := i64_in _ ⟨Int.le_trans (by decide) (Int.natCast_nonneg _), Int.le_trans h3 (by decide)⟩
    have h2 : Min.min k 64 = k := by omega
    simp [execOp, hf.ev hx, hf.ev hy, binOp, eqGuard, Op.shift, IntKind.bits, h2]
    rw [Int.natCast_mul, Int.natCast_pow] at e
    first | exact e | (simpa using e)
attribute [local irreducible] Ex G GC GE Gq FPost LPost
set_option linter.unusedVariables false
set_option linter.unusedSimpArgs false
namespace huff
open sort
theorem srt_ahead {Ls : List Int} (h0 : ∀ z ∈ Ls, 0 ≤ z) {O : List Nat} (h : Srt (key Ls) O) (hin : ∀ x ∈ O, x < Ls.length) : O.Pairwise (ahead (cN Ls)) := by
  refine List.Pairwise.imp_of_mem ?_ h
  intro a b ha hb hab
  have g : ∀ x, x < Ls.length → key Ls x = ((cN Ls x : Nat) : Int) := fun x hx => by
    have := h0 (Ls.getD x default) (by rw [List.getD_eq_getElem?_getD, List.getElem?_eq_getElem hx]; exact List.getElem_mem _)
    show Ls.getD x default = _
    unfold cN; omega
  have e1 := g a (hin a ha)
  have e2 := g b (hin b hb)
  unfold bf at hab
  unfold ahead
  omega
set_option maxHeartbeats 16000000 in
theorem may_sp (la : Option Addr) (ln lc : Nat) (Ls : List Int) (hl : Ls.length = ln) (hln : ln ≤ 64) (h0 : ∀ z ∈ Ls, 0 ≤ z) (m : May (cN Ls) ln) :
    Spec Try.prog 18 [.slice la ln lc] [LS la ln lc Ls] fun v give => v = .bool true ∧ give = [] := by
  obtain ⟨S, hS⟩ : ∃ S, S = sumTo (fun k => if cN Ls k = 0 then 0 else 2 ^ (40 - cN Ls k)) := ⟨_, rfl⟩
  have b3 : ∀ i, i ≤ ln → S i ≤ i * 1099511627776 := fun i hi => by
    rw [hS]; exact sumTo_bd fun j hj => by
      show (if cN Ls j = 0 then 0 else 2 ^ (40 - cN Ls j)) ≤ _
      split
      · omega
      · exact Nat.le_trans (Nat.pow_le_pow_right (by decide) (Nat.sub_le ..)) (by decide)
  have s3 : ∀ i, S (i + 1) = S i + if cN Ls i = 0 then 0 else 2 ^ (40 - cN Ls i) := fun i => by rw [hS]; rfl
  have e3 : S 0 = 0 := by rw [hS]; rfl
  have top : S ln ≤ 1099511627776 := by rw [hS]; exact Nat.le_trans m.kr (by decide)
  clear hS
  refine Spec.intro Try.func18 rfl Try.ntmps18 rfl fun w0 rest rs_ hrs_ => ?_
  simp only [List.cons_append, List.nil_append] at hrs_
  subst hrs_
  repeat (first | (apply G.ex (hd := rfl); case h => (first | exact Ex.move rfl | exact Ex.lenSl rfl | exact Ex.assign rfl)) | refine G.nil ?_ | refine GC.seq ?_ | refine GC.region ?_ | refine GC.block ?_ | refine GE.then_normal ?_)
  refine GC.loop (ι := Nat × Nat) (fun x => x.1 ≤ ln ∧ x.2 = S x.1) (fun x => ln - x.1) (fun x => [(0, .slice la ln lc), (3, .int .i64 (x.2 : Int)), (6, .slice la ln lc), (7, .int .i64 (ln : Int)), (8, .int .i64 (x.1 : Int))]) (fun x => [LS la ln lc Ls]) (0, 0) ⟨Nat.zero_le _, e3.symm⟩ (by simp only [fits]; repeat (first | exact trivial | refine And.intro rfl ?_)) (by repeat first | exact tn_ | apply td_ rfl | apply tc_ | exact .here | apply Take1.there) ?_
  rintro ⟨x, v⟩ ⟨hx, hv⟩ fr_ rs_ hfr_ hrs_
  simp only [List.cons_append, List.nil_append] at hfr_ hrs_
  subst hfr_ hrs_
  simp only at hx hv
  by_cases c : x < ln
  · have hz := h0 (Ls.getD x default) (by rw [List.getD_eq_getElem?_getD, List.getElem?_eq_getElem (by omega)]; exact List.getElem_mem _)
    have hc : cN Ls x = (Ls.getD x default).toNat := rfl
    have hm := m.le x c
    have s3x := s3 x
    have b3x := b3 x hx
    rw [← hv] at s3x b3x
    have l0 : ¬ Ls.getD x default < 0 := by omega
    have l40 : ¬ Ls.getD x default > 40 := by omega
    obtain ⟨T, hT⟩ : ∃ T : Nat, S (x + 1) = T := ⟨_, rfl⟩
    rw [hT] at s3x
    have hT' := hT.symm
    clear b3 s3
    by_cases hp : Ls.getD x default > 0
    · rw [if_neg (by omega)] at s3x
      obtain ⟨O, hO⟩ : ∃ O : Nat, Ls.getD x default = (O : Int) := ⟨(Ls.getD x default).toNat, by omega⟩
      rw [show cN Ls x = O by omega] at s3x
      obtain ⟨p, hpp⟩ : ∃ p : Nat, 2 ^ (40 - O) = p := ⟨_, rfl⟩
      have hp2 : p ≤ 1099511627776 := by rw [← hpp]; exact Nat.le_trans (Nat.pow_le_pow_right (by decide) (Nat.sub_le ..)) (by decide)
      rw [hpp] at s3x
      repeat (first | (apply G.ex (hd := rfl); case h => (first | exact Ex.move rfl | exact Ex.sub rfl rfl (by omega) | exact Ex.lss rfl rfl | exact Ex.gtr rfl rfl | exact Ex.indexN rfl rfl (by first | omega | (simp; done) | (simp; omega)) | exact Ex.loadT0 rfl (by first | omega | (simp; done) | (simp; omega)) rfl | exact Ex.assign rfl | exact Ex.pickF rfl (by first | assumption | omega) rfl)) | refine G.g_ff rfl rfl (by first | assumption | omega) ?_ | refine G.nil ?_ | refine GC.seq ?_ | refine GC.region ?_ | refine GC.block ?_ | refine GC.skip ?_ | refine GE.then_normal ?_ | refine GC.cond_yes rfl (by first | assumption | omega) ?_ | refine GC.cond_no rfl (by first | assumption | omega) ?_)
      rw [show (40 : Int) - Ls.getD x default = ((40 - O : Nat) : Int) by omega]
      refine G.ex (hd := rfl) (Ex.shl1 (k := 40 - O) rfl rfl (by omega)) ?_
      rw [hpp]
      repeat (first | (apply G.ex (hd := rfl); case h => (first | exact Ex.move rfl | exact Ex.add rfl rfl (by omega) | exact Ex.assign rfl)) | refine G.nil ?_ | refine GC.region ?_ | refine GE.then_normal ?_ | refine GE.block_normal ?_)
      rw [show (v : Int) + (p : Int) = (T : Int) by omega, show (x : Int) + 1 = ((x + 1 : Nat) : Int) by omega]
      refine GE.loop (x + 1, T) ⟨by simp only; omega, hT'⟩ (by simp only; omega) (by simp only [fits]; repeat (first | exact trivial | refine And.intro rfl ?_)) (by repeat first | exact tn_ | apply td_ rfl | apply tc_ | exact .here | apply Take1.there) (by repeat (first | exact Subs.refl | refine Subs.skip ?_))
    · rw [if_pos (by omega), Nat.add_zero] at s3x
      repeat (first | (apply G.ex (hd := rfl); case h => (first | exact Ex.move rfl | exact Ex.add rfl rfl (by omega) | exact Ex.lss rfl rfl | exact Ex.gtr rfl rfl | exact Ex.indexN rfl rfl (by first | omega | (simp; done) | (simp; omega)) | exact Ex.loadT0 rfl (by first | omega | (simp; done) | (simp; omega)) rfl | exact Ex.assign rfl | exact Ex.pickF rfl (by first | assumption | omega) rfl)) | refine G.g_ff rfl rfl (by first | assumption | omega) ?_ | refine G.nil ?_ | refine GC.seq ?_ | refine GC.region ?_ | refine GC.block ?_ | refine GC.skip ?_ | refine GE.then_normal ?_ | refine GE.block_normal ?_ | refine GC.cond_yes rfl (by first | assumption | omega) ?_ | refine GC.cond_no rfl (by first | assumption | omega) ?_)
      rw [show (x : Int) + 1 = ((x + 1 : Nat) : Int) by omega, show v = T by omega]
      refine GE.loop (x + 1, T) ⟨by simp only; omega, hT'⟩ (by simp only; omega) (by simp only [fits]; repeat (first | exact trivial | refine And.intro rfl ?_)) (by repeat first | exact tn_ | apply td_ rfl | apply tc_ | exact .here | apply Take1.there) (by repeat (first | exact Subs.refl | refine Subs.skip ?_))
  · obtain rfl : x = ln := by omega
    have c1 : (x : Int) ≤ 64 := by omega
    have c2 : (v : Int) ≤ 1099511627776 := by omega
    repeat (first | (apply G.ex (hd := rfl); case h => (first | exact Ex.move rfl | exact Ex.lss rfl rfl | exact Ex.leq rfl rfl | exact Ex.lenSl rfl | exact Ex.assign rfl | exact Ex.pickT rfl (by first | assumption | omega) rfl)) | refine G.g_tt rfl rfl (by first | assumption | omega) ?_ | refine G.nil ?_ | refine GC.seq ?_ | refine GC.region ?_ | refine GC.ret ?_ | refine GC.exit ?_ | refine GE.then_normal ?_ | refine GE.then_exit ?_ | refine GE.block_hit ?_ | refine GC.cond_no rfl (by first | assumption | omega) ?_)
    refine GE.ret (by first | exact .inl rfl | exact .inr rfl) (res1 Try.results18 rfl) ⟨by rw [decide_eq_true c2], rfl⟩ (by repeat first | exact tn_ | apply td_ rfl | apply tc_ | exact .here | apply Take1.there) (by repeat (first | exact Subs.refl | refine Subs.skip ?_))
set_option maxHeartbeats 16000000 in
theorem codes_sp (la : Option Addr) (ln lc : Nat) (Ls : List Int) (hl : Ls.length = ln) (hln : ln ≤ 64) (h0 : ∀ z ∈ Ls, 0 ≤ z) (m : May (cN Ls) ln) :
    Spec Try.prog 19 [.slice la ln lc] [LS la ln lc Ls] fun v give => ∃ (out : List Int) (oa : Option Addr) (oc : Nat), out.length = ln ∧ (∀ z ∈ out, 0 ≤ z) ∧ Coded (cN Ls) (cN out) ln ∧ v = .slice oa ln oc ∧ give = [.vec 3 1 oa ln oc (flat (eI .i64) out)] := by
  have hz0 : ∀ z ∈ List.replicate ln (0 : Int), (0 : Int) ≤ z := fun z hz => by rw [List.eq_of_mem_replicate hz]; exact Int.le_refl _
  have hzr : ∀ s, s < ln → (0 : Nat) = cN (List.replicate ln (0 : Int)) s := fun s hs => by
    unfold cN; rw [List.getD_eq_getElem?_getD, List.getElem?_replicate, if_pos hs]; rfl
  refine Spec.intro Try.func19 rfl Try.ntmps19 rfl fun w0 rest rs_ hrs_ => ?_
  simp only [List.cons_append, List.nil_append] at hrs_
  subst hrs_
  repeat (first | (apply G.ex (hd := rfl); case h => (first | exact Ex.move rfl | exact Ex.lenSl rfl | exact Ex.assign rfl)) | refine G.nil ?_ | refine GC.seq ?_ | refine GC.region ?_ | refine GE.then_normal ?_)
  refine G.make rfl rfl (by omega) rfl rfl (fun oa => ?_)
  rw [zrep_I]
  repeat (first | (apply G.ex (hd := rfl); case h => (first | exact Ex.move rfl | exact Ex.assign rfl)) | refine G.nil ?_ | refine GC.seq ?_ | refine GC.region ?_ | refine GE.then_normal ?_)
  first | refine G.call (caps := []) (order_sp la ln lc Ls hl (by omega) h0) rfl rfl rfl rfl (by repeat first | exact tn_ | apply td_ rfl | apply tc_ | exact .here | apply Take1.there) ?_ | refine G.callU (caps := []) (order_sp la ln lc Ls hl (by omega) h0) rfl rfl rfl (by repeat first | exact tn_ | apply td_ rfl | apply tc_ | exact .here | apply Take1.there) ?_
  rintro v_ give_ ⟨O, wa, wc, rfl, hp, hs, rfl⟩ rs_ hrs_
  simp only [List.cons_append, List.nil_append] at hrs_
  subst hrs_
  have hON : ∀ x ∈ O, x < ln := fun x hx => (mem_sup.1 (hp.mem_iff.1 hx)).1
  have hOk : ∀ k, k < O.length → O.getD k default < ln := fun k hk => hON _ (getD_mem' hk)
  have hOl : O.length ≤ ln := by rw [hp.length_eq]; exact sup_len
  have ha := srt_ahead h0 hs (by rw [hl]; exact hON)
  have hst := (Cds.start (cN Ls) ln O).congr hOk (Nat.zero_le _) hzr
  clear hs hzr
  repeat (first | (apply G.ex (hd := rfl); case h => (first | exact Ex.move rfl | exact Ex.lenSl rfl)) | refine G.nil ?_ | refine GC.block ?_ | refine GE.then_normal ?_)
  refine GC.loop (ι := Nat × Nat × Nat × List Int) (fun x => x.1 ≤ O.length ∧ x.2.2.1 ≤ 40 ∧ x.2.2.2.length = ln ∧ (∀ z ∈ x.2.2.2, 0 ≤ z) ∧ x.2.1 ≤ 1099511627777 ∧ Cds (cN Ls) ln O x.1 x.2.1 x.2.2.1 (cN x.2.2.2)) (fun x => O.length - x.1) (fun x => [(0, .slice la ln lc), (3, .slice oa ln ln), (4, .int .i64 (x.2.1 : Int)), (5, .int .i64 (x.2.2.1 : Int)), (12, .slice wa O.length wc), (13, .int .i64 (O.length : Int)), (14, .int .i64 (x.1 : Int))]) (fun x => [.vec 3 1 oa ln ln (flat (eI .i64) x.2.2.2), DR wa O.length wc O, LS la ln lc Ls]) (0, 0, 0, List.replicate ln 0) ⟨Nat.zero_le _, Nat.zero_le _, List.length_replicate, hz0, Nat.zero_le _, hst⟩ (by simp only [fits]; repeat (first | exact trivial | refine And.intro rfl ?_)) (by repeat first | exact tn_ | apply td_ rfl | apply tc_ | exact .here | apply Take1.there) ?_
  clear hst
  rintro ⟨i, nx, long, out⟩ ⟨hi, hlg, hol, ho0, hnb, hC⟩ fr_ rs_ hfr_ hrs_
  simp only [List.cons_append, List.nil_append] at hfr_ hrs_
  subst hfr_ hrs_
  simp only at hi hlg hol ho0 hnb hC
  by_cases c : i < O.length
  · obtain ⟨n1, n2, n3, n4⟩ := hC.next hp ha m c
    obtain ⟨s, hse⟩ : ∃ s, O.getD i default = s := ⟨_, rfl⟩
    have hsN := hOk i c
    rw [hse] at n1 n2 n3 n4 hsN
    obtain ⟨l, hle⟩ : ∃ l, cN Ls s = l := ⟨_, rfl⟩
    have hz := h0 (Ls.getD s default) (by rw [List.getD_eq_getElem?_getD, List.getElem?_eq_getElem (by omega)]; exact List.getElem_mem _)
    have hls : Ls.getD s default = (l : Int) := by rw [← hle]; unfold cN; omega
    rw [hle] at n1 n2 n3 n4
    obtain ⟨q, hq⟩ : ∃ q, nx * 2 ^ (l - long) = q := ⟨_, rfl⟩
    rw [hq] at n3 n4
    have hq4 : q ≤ 1099511627776 := n3
    have hnext : Cds (cN Ls) ln O (i + 1) (q + 1) l (cN (out.set s (q : Int))) := n4.congr hOk (by omega) fun k hk => by
      unfold cN
      rw [getD_set]
      by_cases e : k = s
      · rw [if_pos e, if_pos ⟨e.symm, by omega⟩]; rfl
      · rw [if_neg e, if_neg (fun h => e h.1.symm)]
    have ho0' : ∀ z ∈ out.set s (q : Int), 0 ≤ z := fun z hz => by
      rcases List.mem_or_eq_of_mem_set hz with h | h
      · exact ho0 z h
      · rw [h]; exact Int.natCast_nonneg _
    clear hC n4 ho0 hOk hON ha hp m h0 hz0
    repeat (first | (apply G.ex (hd := rfl); case h => (first | exact Ex.move rfl | exact Ex.lss rfl rfl | exact Ex.indexN rfl rfl (by first | omega | (simp; done) | (simp; omega)) | exact Ex.loadT0 rfl (by first | omega | (simp; done) | (simp; omega)) rfl | exact Ex.assign rfl)) | refine G.nil ?_ | refine GC.seq ?_ | refine GC.region ?_ | refine GC.block ?_ | refine GC.skip ?_ | refine GE.then_normal ?_ | refine GC.cond_yes rfl (by first | assumption | omega) ?_)
    rw [hse]
    repeat (first | (apply G.ex (hd := rfl); case h => (first | exact Ex.sub rfl rfl (by omega))))
    rw [hls, show (l : Int) - (long : Int) = ((l - long : Nat) : Int) by omega]
    refine G.ex (hd := rfl) (Ex.shlV (a := nx) (k := l - long) rfl rfl (by rw [hq]; omega)) ?_
    rw [hq]
    repeat (first | (apply G.ex (hd := rfl); case h => (first | exact Ex.move rfl | exact Ex.indexN rfl rfl (by first | omega | (simp; done) | (simp; omega)) | exact Ex.loadT0 rfl (by first | omega | (simp; done) | (simp; omega)) rfl | exact Ex.assign rfl)) | refine G.nil ?_ | refine GC.seq ?_ | refine GC.region ?_ | refine GE.then_normal ?_)
    rw [hls]
    repeat (first | fail)
    first | refine G.storeT0 rfl rfl rfl rfl (by first | omega | (simp; omega)) rfl ((q : Int)) (rfl) (fun rs_ hrs_ => ?_) | refine G.storeT rfl rfl rfl rfl (by first | omega | (simp; omega)) rfl ((q : Int)) (rfl) (fun rs_ hrs_ => ?_) | refine G.storeTA rfl rfl (by first | omega | (simp; omega)) rfl ((q : Int)) (rfl) (fun rs_ hrs_ => ?_)
    try simp only at hrs_
    subst hrs_
    repeat (first | (apply G.ex (hd := rfl); case h => (first | exact Ex.move rfl | exact Ex.add rfl rfl (by omega) | exact Ex.assign rfl)) | refine G.nil ?_ | refine GC.region ?_ | refine GE.then_normal ?_ | refine GE.block_normal ?_)
    rw [show (q : Int) + 1 = ((q + 1 : Nat) : Int) by omega, show (i : Int) + 1 = ((i + 1 : Nat) : Int) by omega]
    refine GE.loop (i + 1, q + 1, l, out.set s (q : Int)) ⟨by simp only; omega, n2, by simp only [List.length_set]; exact hol, ho0', by simp only; omega, hnext⟩ (by simp only; omega) (by simp only [fits]; repeat (first | exact trivial | refine And.intro rfl ?_)) (by repeat first | exact tn_ | apply td_ rfl | apply tc_ | exact .here | apply Take1.there) (by repeat (first | exact Subs.refl | refine Subs.skip ?_))
  · obtain rfl : i = O.length := by omega
    have hcd := hC.coded hp
    repeat (first | (apply G.ex (hd := rfl); case h => (first | exact Ex.move rfl | exact Ex.lss rfl rfl | exact Ex.assign rfl)) | refine G.nil ?_ | refine GC.seq ?_ | refine GC.region ?_ | refine GC.ret ?_ | refine GC.exit ?_ | refine GE.then_normal ?_ | refine GE.then_exit ?_ | refine GE.block_hit ?_ | refine GC.cond_no rfl (by first | assumption | omega) ?_)
    refine GE.ret (by first | exact .inl rfl | exact .inr rfl) (res1 Try.results19 rfl) ⟨out, oa, ln, hol, ho0, hcd, rfl, rfl⟩ (by repeat first | exact tn_ | apply td_ rfl | apply tc_ | exact .here | apply Take1.there) (by repeat (first | exact Subs.refl | refine Subs.skip ?_))
theorem hcodes_sp (la : Option Addr) (ln lc : Nat) (Ls : List Int) (hl : Ls.length = ln) (hln : ln ≤ 64) (h0 : ∀ z ∈ Ls, 0 ≤ z) (m : May (cN Ls) ln) :
    Spec Try.prog 13 [.slice la ln lc] [LS la ln lc Ls] fun v give => ∃ (out : List Int) (oa : Option Addr) (oc : Nat), out.length = ln ∧ (∀ z ∈ out, 0 ≤ z) ∧ Coded (cN Ls) (cN out) ln ∧ v = .tuple #[.slice oa ln oc, .int .i64 0] ∧ give = [.vec 3 1 oa ln oc (flat (eI .i64) out)] := by
  refine Spec.intro Try.func13 rfl Try.ntmps13 rfl fun w0 rest rs_ hrs_ => ?_
  simp only [List.cons_append, List.nil_append] at hrs_
  subst hrs_
  repeat (first | (apply G.ex (hd := rfl); case h => (first | exact Ex.move rfl | exact Ex.assign rfl)) | refine G.nil ?_ | refine GC.seq ?_ | refine GC.region ?_ | refine GE.then_normal ?_)
  first | refine G.call (caps := []) (may_sp la ln lc Ls hl hln h0 m) rfl rfl rfl rfl (by repeat first | exact tn_ | apply td_ rfl | apply tc_ | exact .here | apply Take1.there) ?_ | refine G.callU (caps := []) (may_sp la ln lc Ls hl hln h0 m) rfl rfl rfl (by repeat first | exact tn_ | apply td_ rfl | apply tc_ | exact .here | apply Take1.there) ?_
  rintro v_ give_ ⟨rfl, rfl⟩ rs_ hrs_
  simp only [List.cons_append, List.nil_append] at hrs_
  subst hrs_
  repeat (first | (apply G.ex (hd := rfl); case h => (first | exact Ex.move rfl | exact Ex.notB rfl)) | refine G.nil ?_ | refine GC.seq ?_ | refine GC.region ?_ | refine GC.skip ?_ | refine GE.then_normal ?_ | refine GC.cond_f rfl ?_)
  first | refine G.call (caps := []) (codes_sp la ln lc Ls hl hln h0 m) rfl rfl rfl rfl (by repeat first | exact tn_ | apply td_ rfl | apply tc_ | exact .here | apply Take1.there) ?_ | refine G.callU (caps := []) (codes_sp la ln lc Ls hl hln h0 m) rfl rfl rfl (by repeat first | exact tn_ | apply td_ rfl | apply tc_ | exact .here | apply Take1.there) ?_
  rintro v_ give_ ⟨out, oa, oc, h1, h2, h3, rfl, rfl⟩ rs_ hrs_
  simp only [List.cons_append, List.nil_append] at hrs_
  subst hrs_
  repeat (first | (apply G.ex (hd := rfl); case h => (first | exact Ex.assign rfl)) | refine G.nil ?_ | refine GC.ret ?_ | refine GE.then_normal ?_)
  refine GE.ret (by first | exact .inl rfl | exact .inr rfl) (res2 Try.results13 rfl rfl) ⟨out, oa, oc, h1, h2, h3, rfl, rfl⟩ (by repeat first | exact tn_ | apply td_ rfl | apply tc_ | exact .here | apply Take1.there) (by repeat (first | exact Subs.refl | refine Subs.skip ?_))
end huff
end Go.Proofs.Ytfkgchdbjfbdaaa
