/-
  CONTRACTS of package msg: Ask and Asked, by the kit.
-/
import Derived.Test.YthplilldkdehnaaAskE
namespace Go.Proofs.Ythplilldkdehnaa
open Go.RowKit
attribute [local irreducible] Ex G GC GE Gq FPost LPost
set_option linter.unusedVariables false
set_option linter.unusedSimpArgs false

namespace msg
open frame
theorem fit_two (r : Rq) (p : Pt) (h : fit r p = 0) : (bytesF r p).length ≤ 256 ∨ ∃ w k, p = .num w k := by
  cases p with
  | num w k => exact .inr ⟨w, k, rfl⟩
  | text k =>
    have := fit_text h
    left
    show (nb 2 _ ++ _).length ≤ _
    rw [List.length_append, nb_len]; omega
  | data =>
    have := fit_data h
    left
    show (nb 2 _ ++ _).length ≤ _
    rw [List.length_append, nb_len]; omega
theorem bytes_le (r : Rq) (p : Pt) (hw : PtW p) (h : fit r p = 0) : (bytesF r p).length ≤ 256 := by
  rcases fit_two r p h with h | ⟨w, k, rfl⟩
  · exact h
  · show (nb w _).length ≤ _
    rw [nb_len]
    have : w = 1 ∨ w = 2 ∨ w = 4 := hw
    omega
theorem flat_le (r : Rq) : ∀ l : List Pt, (∀ p ∈ l, PtW p) → (∀ p ∈ l, fit r p = 0) → (l.flatMap (bytesF r)).length ≤ 256 * l.length
  | [], _, _ => by simp
  | p :: t, hw, hf => by
    rw [List.flatMap_cons, List.length_append, List.length_cons]
    have h1 := bytes_le r p (hw p (by simp)) (hf p (by simp))
    have h2 := flat_le r t (fun q hq => hw q (List.mem_cons_of_mem _ hq)) (fun q hq => hf q (List.mem_cons_of_mem _ hq))
    omega
theorem flat_step (r : Rq) (l : List Pt) (k : Nat) (h : k < l.length) : ((l.take (k + 1)).flatMap (bytesF r)) = (l.take k).flatMap (bytesF r) ++ bytesF r (l.getD k default) := by
  rw [List.take_succ_eq_append_getElem h, List.flatMap_append, List.getD_eq_getElem?_getD, List.getElem?_eq_getElem h]
  simp
theorem all_okL (b : Nat) (kind : Int) : ∀ p ∈ allP kind, LOk (lRq b) p := by
  intro p hp
  rcases List.mem_append.1 hp with hp | hp
  · exact begun_ok b p hp
  · exact parts_ok' b kind p hp
theorem all_w (kind : Int) : ∀ p ∈ allP kind, PtW p := by
  intro p hp
  have h := all_okL 0 kind p hp
  cases p with
  | num w k => exact h.1
  | text k => trivial
  | data => trivial
/-- the loop that puts parts, at its end -/
theorem put_bound (r : Rq) (l : List Pt) (k : Nat) (hw : ∀ p ∈ l, PtW p) (hf : ∀ p ∈ l, fit r p = 0) (hl : l.length ≤ 10) : ((l.take k).flatMap (bytesF r)).length ≤ 2560 := by
  have := flat_le r (l.take k) (fun p hp => hw p (List.mem_of_mem_take hp)) (fun p hp => hf p (List.mem_of_mem_take hp))
  have h2 : (l.take k).length ≤ l.length := by rw [List.length_take]; omega
  omega
set_option maxHeartbeats 4000000 in
theorem ask_sp (m : Ms) (hm : m.r.data.length = m.n) : Spec Try.prog 7 [.agg (eRq m).toArray] [.sl m.ao m.n m.c 1 (flat eB m.r.data)] fun v give => ∃ oa oc, v = .tuple #[.slice oa (askF m.r).1.length oc, .int .i64 (askF m.r).2] ∧ (askF m.r).1.length ≤ 2560 ∧ give = [.vec 5 1 oa (askF m.r).1.length oc (flat eB (askF m.r).1)] := by
  have hpl := parts_le m.r.kind
  have hal := allP_len m.r.kind
  refine Spec.intro Try.func7 rfl Try.ntmps7 rfl fun w0 rest rs_ hrs_ => ?_
  simp only [List.cons_append, List.nil_append] at hrs_
  subst hrs_
  repeat (first | refine GC.seq ?_ | refine GC.region ?_)
  refine G.box rfl rfl rfl (fun b => ?_)
  repeat (first | (apply G.ex (hd := rfl); case h => (first | exact Ex.assign rfl)) | refine G.nil ?_ | refine GC.seq ?_ | refine GC.region ?_ | refine GE.then_normal ?_)
  first | refine G.call (caps := []) (begun_sp b) rfl rfl rfl rfl (by repeat (first | exact Takes.nil | apply Takes.dup rfl | apply Takes.cons | exact Take1.here | apply Take1.there)) ?_ | refine G.callU (caps := []) (begun_sp b) rfl rfl rfl (by repeat (first | exact Takes.nil | apply Takes.dup rfl | apply Takes.cons | exact Take1.here | apply Take1.there)) ?_
  rintro v_ give_ ⟨ba, rfl, rfl⟩ rs_ hrs_
  simp only [List.cons_append, List.nil_append] at hrs_
  subst hrs_
  repeat (first | fail)
  first | refine G.call (caps := []) (parts_sp b m) rfl rfl rfl rfl (by repeat (first | exact Takes.nil | apply Takes.dup rfl | apply Takes.cons | exact Take1.here | apply Take1.there)) ?_ | refine G.callU (caps := []) (parts_sp b m) rfl rfl rfl (by repeat (first | exact Takes.nil | apply Takes.dup rfl | apply Takes.cons | exact Take1.here | apply Take1.there)) ?_
  rintro v_ give_ (⟨hp, rfl, rfl⟩ | ⟨hp, pa, rfl, rfl⟩) rs_ hrs_ <;> simp only [List.cons_append, List.nil_append] at hrs_ <;> subst hrs_
  · have e : askF m.r = ([], 3) := by unfold askF; rw [if_pos hp]
    rw [e]
    repeat (first | fail)
    first | refine G.nilvec 56 4 ?_ | refine GC.nilvec 56 4 ?_
    refine G.app rfl rfl (by rfl) (by omega) rfl ((List.append_nil _)) (fun la lc rs_ hrs_ => ?_)
    try simp only at hrs_
    subst hrs_
    repeat (first | (apply G.ex (hd := rfl); case h => (first | exact Ex.move rfl | exact Ex.eqI rfl rfl | exact Ex.lenSl rfl | exact Ex.assign rfl)) | refine G.nil ?_ | refine GC.seq ?_ | refine GC.region ?_ | refine GC.block ?_ | refine GC.ret ?_ | refine GE.then_normal ?_ | refine GE.then_ret ?_ | refine GE.block_ret ?_ | refine GC.cond_yes rfl (by first | assumption | omega) ?_)
    refine GE.nilvec 5 1 ?_
    refine GE.ret (by first | exact .inl rfl | exact .inr rfl) (by first | exact res0 Try.results7 | exact res1 Try.results7 rfl | exact res2 Try.results7 rfl rfl | exact resR1 Try.results7 (by first | exact RV.tmp rfl | exact RV.cell rfl (eP_len _) | exact RV.cell rfl rfl | exact RV.cell1 rfl) | exact resR2 Try.results7 (by first | exact RV.tmp rfl | exact RV.cell rfl (eP_len _) | exact RV.cell rfl rfl | exact RV.cell1 rfl) (by first | exact RV.tmp rfl | exact RV.cell rfl (eP_len _) | exact RV.cell rfl rfl | exact RV.cell1 rfl) | exact resR3 Try.results7 (by first | exact RV.tmp rfl | exact RV.cell rfl (eP_len _) | exact RV.cell rfl rfl | exact RV.cell1 rfl) (by first | exact RV.tmp rfl | exact RV.cell rfl (eP_len _) | exact RV.cell rfl rfl | exact RV.cell1 rfl) (by first | exact RV.tmp rfl | exact RV.cell rfl (eP_len _) | exact RV.cell rfl rfl | exact RV.cell1 rfl)) ⟨_, _, rfl, by simp, rfl⟩ (by repeat (first | exact Takes.nil | apply Takes.dup rfl | apply Takes.cons | exact Take1.here | apply Take1.there)) (by repeat (first | exact Subs.refl | refine Subs.skip ?_))
  · have hcat : flat (ePl (lRq b)) begunF ++ flat (ePl (lRq b)) (partsF m.r.kind) = flat (ePl (lRq b)) (allP m.r.kind) := by rw [← flat_append]; rfl
    have hpp : 0 < (partsF m.r.kind).length := List.length_pos_iff.2 hp
    repeat (first | fail)
    refine G.app rfl rfl (by rfl) (by omega) rfl (hcat) (fun la lc rs_ hrs_ => ?_)
    try simp only at hrs_
    subst hrs_
    rw [← hal]
    repeat (first | (apply G.ex (hd := rfl); case h => (first | exact Ex.move rfl | exact Ex.eqI rfl rfl | exact Ex.lenSl rfl | exact Ex.assign rfl | exact Ex.loadBA rfl rfl rfl)) | refine G.nil ?_ | refine GC.seq ?_ | refine GC.region ?_ | refine GC.block ?_ | refine GE.then_normal ?_ | refine GC.cond_no rfl (by first | assumption | omega) ?_)
    first | refine G.call (caps := []) (bare_sp m hm hp) rfl rfl rfl rfl (by repeat (first | exact Takes.nil | apply Takes.dup rfl | apply Takes.cons | exact Take1.here | apply Take1.there)) ?_ | refine G.callU (caps := []) (bare_sp m hm hp) rfl rfl rfl (by repeat (first | exact Takes.nil | apply Takes.dup rfl | apply Takes.cons | exact Take1.here | apply Take1.there)) ?_
    rintro v_ give_ ⟨rfl, rfl⟩ rs_ hrs_
    simp only [List.cons_append, List.nil_append] at hrs_
    subst hrs_
    cases hb : bareF m.r with
    | false =>
      have e : askF m.r = ([], 4) := by unfold askF; rw [if_neg hp, if_pos hb]
      rw [e]
      repeat (first | (apply G.ex (hd := rfl); case h => (first | exact Ex.assign rfl | exact Ex.notB rfl)) | refine G.nil ?_ | refine GC.seq ?_ | refine GC.region ?_ | refine GC.ret ?_ | refine GE.then_normal ?_ | refine GE.then_ret ?_ | refine GE.block_ret ?_ | refine GC.cond_t rfl ?_)
      refine GE.nilvec 5 1 ?_
      refine GE.ret (by first | exact .inl rfl | exact .inr rfl) (by first | exact res0 Try.results7 | exact res1 Try.results7 rfl | exact res2 Try.results7 rfl rfl | exact resR1 Try.results7 (by first | exact RV.tmp rfl | exact RV.cell rfl (eP_len _) | exact RV.cell rfl rfl | exact RV.cell1 rfl) | exact resR2 Try.results7 (by first | exact RV.tmp rfl | exact RV.cell rfl (eP_len _) | exact RV.cell rfl rfl | exact RV.cell1 rfl) (by first | exact RV.tmp rfl | exact RV.cell rfl (eP_len _) | exact RV.cell rfl rfl | exact RV.cell1 rfl) | exact resR3 Try.results7 (by first | exact RV.tmp rfl | exact RV.cell rfl (eP_len _) | exact RV.cell rfl rfl | exact RV.cell1 rfl) (by first | exact RV.tmp rfl | exact RV.cell rfl (eP_len _) | exact RV.cell rfl rfl | exact RV.cell1 rfl) (by first | exact RV.tmp rfl | exact RV.cell rfl (eP_len _) | exact RV.cell rfl rfl | exact RV.cell1 rfl)) ⟨_, _, rfl, by simp, rfl⟩ (by repeat (first | exact Takes.nil | apply Takes.dup rfl | apply Takes.cons | exact Take1.here | apply Take1.there)) (by repeat (first | exact Subs.refl | refine Subs.skip ?_))
    | true =>
      repeat (first | (apply G.ex (hd := rfl); case h => (first | exact Ex.move rfl | exact Ex.assign rfl | exact Ex.notB rfl)) | refine G.nil ?_ | refine GC.seq ?_ | refine GC.region ?_ | refine GC.skip ?_ | refine GE.then_normal ?_ | refine GE.block_normal ?_ | refine GC.cond_f rfl ?_)
      first | refine G.frz la ?_ | refine GC.frz la ?_ | refine GE.frz la ?_
      refine G.conv (rs' := _) (fun w_ H_ => Holds.starIns (l := [.blk b 24 (eRq m)]) (H_.take (need := [.blk b 24 (eRq m)]) (by repeat (first | exact Takes.nil | apply Takes.dup rfl | apply Takes.cons | exact Take1.here | apply Take1.there)))) ?_
      first | refine G.call (caps := []) (all_sp (lRq b) (allP m.r.kind) (all_okL b m.r.kind) (by omega) m hm la (allP m.r.kind).length lc rfl) rfl rfl rfl rfl (by repeat (first | exact Takes.nil | apply Takes.dup rfl | apply Takes.cons | exact Take1.here | apply Take1.there)) ?_ | refine G.callU (caps := []) (all_sp (lRq b) (allP m.r.kind) (all_okL b m.r.kind) (by omega) m hm la (allP m.r.kind).length lc rfl) rfl rfl rfl (by repeat (first | exact Takes.nil | apply Takes.dup rfl | apply Takes.cons | exact Take1.here | apply Take1.there)) ?_
      rintro v_ give_ ⟨rfl, rfl⟩ rs_ hrs_
      simp only [List.cons_append, List.nil_append] at hrs_
      subst hrs_
      by_cases h0 : allF m.r (allP m.r.kind) 0 = 0
      · have hf := ((all_ok _ _ _).1 h0).2
        have e : askF m.r = ((allP m.r.kind).flatMap (bytesF m.r), 0) := by unfold askF; rw [if_neg hp, if_neg (by rw [hb]; decide), if_pos h0]
        rw [e]
        rw [h0]
        repeat (first | (apply G.ex (hd := rfl); case h => (first | exact Ex.move rfl | exact Ex.neI rfl rfl | exact Ex.lenSl rfl | exact Ex.assign rfl)) | refine G.nil ?_ | refine GC.seq ?_ | refine GC.region ?_ | refine GC.block ?_ | refine GC.skip ?_ | refine GE.then_normal ?_ | refine GC.cond_no rfl (by first | assumption | omega) ?_)
        first | refine G.nilvec 5 1 ?_ | refine GC.nilvec 5 1 ?_
        refine GC.loop (ι := Nat × Option Addr × Nat) (fun i => i.1 ≤ (allP m.r.kind).length) (fun i => (allP m.r.kind).length - i.1) (fun i => [(6, .slice i.2.1 (((allP m.r.kind).take i.1).flatMap (bytesF m.r)).length i.2.2), (25, .slice la (allP m.r.kind).length lc), (26, .int .i64 ((allP m.r.kind).length : Int)), (27, .int .i64 (i.1 : Int))]) (fun i => [.own (Star ((lRq b).bl m)), .sl m.ao m.n m.c 1 (flat eB m.r.data), .sl la (allP m.r.kind).length lc 4 (flat (ePl (lRq b)) (allP m.r.kind)), .vec 5 1 i.2.1 (((allP m.r.kind).take i.1).flatMap (bytesF m.r)).length i.2.2 (flat eB (((allP m.r.kind).take i.1).flatMap (bytesF m.r)))]) (0, none, 0) (Nat.zero_le _) (by simp only [fits]; repeat (first | exact trivial | refine And.intro rfl ?_)) (by repeat (first | exact Takes.nil | apply Takes.dup rfl | apply Takes.cons | exact Take1.here | apply Take1.there)) ?_
        rintro ⟨k, oa, oc⟩ hk fr_ rs_ hfr_ hrs_
        simp only [List.cons_append, List.nil_append] at hfr_ hrs_
        subst hfr_ hrs_
        simp only at hk
        have hbd := put_bound m.r (allP m.r.kind) k (all_w _) hf (by omega)
        repeat (first | (apply G.ex (hd := rfl); case h => (first | exact Ex.lss rfl rfl)) | refine G.nil ?_ | refine GC.seq ?_ | refine GC.region ?_ | refine GE.then_normal ?_)
        refine GC.cond_dec rfl (fun hlt => ?_) (fun hlt => ?_)
        · have hlt : k < (allP m.r.kind).length := by omega
          have hmem := getD_mem2 (allP m.r.kind) k hlt
          have hst := flat_step m.r (allP m.r.kind) k hlt
          obtain ⟨p, hpp2⟩ : ∃ p, (allP m.r.kind).getD k default = p := ⟨_, rfl⟩
          repeat (first | (apply G.ex (hd := rfl); case h => (first | exact Ex.indexN rfl rfl (by first | omega | (simp; done) | (simp; omega)) | exact Ex.loadTA rfl (by first | omega | (simp; done) | (simp; omega)))) | refine GC.seq ?_ | refine GC.region ?_ | refine GC.block ?_ | refine GC.skip ?_ | refine GE.then_normal ?_)
          rw [hpp2] at hmem hst ⊢
          refine G.alloc rfl (fun q => ?_)
          refine G.storeWh (enc := (ePl (lRq b))) (q := p) rfl rfl (by repeat (first | exact Upd.here | apply Upd.there)) (by rfl) ?_
          repeat (first | refine G.nil ?_ | refine GC.region ?_ | refine GE.then_normal ?_)
          refine G.ex (Ex.loadWh (enc := (ePl (lRq b))) (q := p) rfl) rfl ?_
          repeat (first | (apply G.ex (hd := rfl); case h => (first | exact Ex.move rfl)))
          first | refine G.call (caps := []) (putP_sp (lRq b) p (all_okL b _ p hmem) m hm (hf p hmem) oa (((allP m.r.kind).take k).flatMap (bytesF m.r)).length oc (((allP m.r.kind).take k).flatMap (bytesF m.r)) (by omega)) rfl rfl rfl rfl (by repeat (first | exact Takes.nil | apply Takes.dup rfl | apply Takes.cons | exact Take1.here | apply Take1.there)) ?_ | refine G.callU (caps := []) (putP_sp (lRq b) p (all_okL b _ p hmem) m hm (hf p hmem) oa (((allP m.r.kind).take k).flatMap (bytesF m.r)).length oc (((allP m.r.kind).take k).flatMap (bytesF m.r)) (by omega)) rfl rfl rfl (by repeat (first | exact Takes.nil | apply Takes.dup rfl | apply Takes.cons | exact Take1.here | apply Take1.there)) ?_
          rintro v_ give_ ⟨va, vc, rfl, rfl⟩ rs_ hrs_
          simp only [List.cons_append, List.nil_append] at hrs_
          subst hrs_
          rw [← List.length_append, ← hst]
          repeat (first | (apply G.ex (hd := rfl); case h => (first | exact Ex.move rfl | exact Ex.add rfl rfl (by omega) | exact Ex.assign rfl)) | refine G.nil ?_ | refine GC.region ?_ | refine GE.then_normal ?_ | refine GE.block_normal ?_)
          refine GE.loop (k + 1, va, vc) (by simp only; omega) (by simp only; omega) (by simp only [fits]; repeat (first | exact trivial | refine And.intro rfl ?_)) (by repeat (first | exact Takes.nil | apply Takes.dup rfl | apply Takes.cons | exact Take1.here | apply Take1.there)) (by repeat (first | exact Subs.refl | refine Subs.skip ?_))
        · have hk2 : k = (allP m.r.kind).length := by omega
          subst hk2
          rw [List.take_length] at hbd ⊢
          repeat (first | (apply G.ex (hd := rfl); case h => (first | exact Ex.move rfl | exact Ex.assign rfl)) | refine G.nil ?_ | refine GC.seq ?_ | refine GC.region ?_ | refine GC.ret ?_ | refine GC.exit ?_ | refine GE.then_normal ?_ | refine GE.then_exit ?_ | refine GE.block_hit ?_)
          refine GE.ret (by first | exact .inl rfl | exact .inr rfl) (by first | exact res0 Try.results7 | exact res1 Try.results7 rfl | exact res2 Try.results7 rfl rfl | exact resR1 Try.results7 (by first | exact RV.tmp rfl | exact RV.cell rfl (eP_len _) | exact RV.cell rfl rfl | exact RV.cell1 rfl) | exact resR2 Try.results7 (by first | exact RV.tmp rfl | exact RV.cell rfl (eP_len _) | exact RV.cell rfl rfl | exact RV.cell1 rfl) (by first | exact RV.tmp rfl | exact RV.cell rfl (eP_len _) | exact RV.cell rfl rfl | exact RV.cell1 rfl) | exact resR3 Try.results7 (by first | exact RV.tmp rfl | exact RV.cell rfl (eP_len _) | exact RV.cell rfl rfl | exact RV.cell1 rfl) (by first | exact RV.tmp rfl | exact RV.cell rfl (eP_len _) | exact RV.cell rfl rfl | exact RV.cell1 rfl) (by first | exact RV.tmp rfl | exact RV.cell rfl (eP_len _) | exact RV.cell rfl rfl | exact RV.cell1 rfl)) ⟨_, _, rfl, hbd, rfl⟩ (by repeat (first | exact Takes.nil | apply Takes.dup rfl | apply Takes.cons | exact Take1.here | apply Take1.there)) (by repeat (first | exact Subs.refl | refine Subs.skip ?_))
      · have e : askF m.r = ([], allF m.r (allP m.r.kind) 0) := by unfold askF; rw [if_neg hp, if_neg (by rw [hb]; decide), if_neg h0]
        rw [e]
        repeat (first | (apply G.ex (hd := rfl); case h => (first | exact Ex.move rfl | exact Ex.neI rfl rfl | exact Ex.assign rfl)) | refine G.nil ?_ | refine GC.seq ?_ | refine GC.region ?_ | refine GC.ret ?_ | refine GE.then_normal ?_ | refine GE.then_ret ?_ | refine GC.cond_yes rfl (by first | assumption | omega) ?_)
        refine GE.nilvec 5 1 ?_
        refine GE.ret (by first | exact .inl rfl | exact .inr rfl) (by first | exact res0 Try.results7 | exact res1 Try.results7 rfl | exact res2 Try.results7 rfl rfl | exact resR1 Try.results7 (by first | exact RV.tmp rfl | exact RV.cell rfl (eP_len _) | exact RV.cell rfl rfl | exact RV.cell1 rfl) | exact resR2 Try.results7 (by first | exact RV.tmp rfl | exact RV.cell rfl (eP_len _) | exact RV.cell rfl rfl | exact RV.cell1 rfl) (by first | exact RV.tmp rfl | exact RV.cell rfl (eP_len _) | exact RV.cell rfl rfl | exact RV.cell1 rfl) | exact resR3 Try.results7 (by first | exact RV.tmp rfl | exact RV.cell rfl (eP_len _) | exact RV.cell rfl rfl | exact RV.cell1 rfl) (by first | exact RV.tmp rfl | exact RV.cell rfl (eP_len _) | exact RV.cell rfl rfl | exact RV.cell1 rfl) (by first | exact RV.tmp rfl | exact RV.cell rfl (eP_len _) | exact RV.cell rfl rfl | exact RV.cell1 rfl)) ⟨_, _, rfl, by simp, rfl⟩ (by repeat (first | exact Takes.nil | apply Takes.dup rfl | apply Takes.cons | exact Take1.here | apply Take1.there)) (by repeat (first | exact Subs.refl | refine Subs.skip ?_))
def Ms.zero : Ms := ⟨Rq.zero, none, 0, 0⟩
set_option maxHeartbeats 4000000 in
theorem asked_sp (ao : Option Addr) (n c : Nat) (l : List UInt8) (hl : l.length = n) (hn : n ≤ 9223372036854775807) : Spec Try.prog 8 [.slice ao n c] [.sl ao n c 1 (flat eB l)]
    fun v give => ∃ m : Ms, m.r = (askedF l).1 ∧ m.r.data.length = m.n ∧ v = .tuple #[.agg (eRq m).toArray, .int .i64 (askedF l).2] ∧ give = [.sl m.ao m.n m.c 1 (flat eB m.r.data)] := by
  refine Spec.intro Try.func8 rfl Try.ntmps8 rfl fun w0 rest rs_ hrs_ => ?_
  simp only [List.cons_append, List.nil_append] at hrs_
  subst hrs_
  repeat (first | refine GC.seq ?_ | refine GC.region ?_)
  refine G.alloc rfl (fun q => ?_)
  repeat (first | (apply G.ex (hd := rfl); case h => (first | exact Ex.assign rfl)) | refine G.nil ?_ | refine GC.seq ?_ | refine GC.region ?_ | refine GE.then_normal ?_)
  refine G.alloc rfl (fun b => ?_)
  repeat (first | (apply G.ex (hd := rfl); case h => (first | exact Ex.move rfl)) | refine G.nil ?_ | refine GC.seq ?_ | refine GC.region ?_ | refine GE.then_normal ?_)
  first | refine G.call (caps := []) (begun_sp b) rfl rfl rfl rfl (by repeat (first | exact Takes.nil | apply Takes.dup rfl | apply Takes.cons | exact Take1.here | apply Take1.there)) ?_ | refine G.callU (caps := []) (begun_sp b) rfl rfl rfl (by repeat (first | exact Takes.nil | apply Takes.dup rfl | apply Takes.cons | exact Take1.here | apply Take1.there)) ?_
  rintro v_ give_ ⟨ba, rfl, rfl⟩ rs_ hrs_
  simp only [List.cons_append, List.nil_append] at hrs_
  subst hrs_
  first | refine G.frz ba ?_ | refine GC.frz ba ?_ | refine GE.frz ba ?_
  refine G.nilsl 1 ?_
  refine G.conv (rs' := _) (fun w_ H_ => Holds.starIns (l := [.blk b 24 (eRq Ms.zero)]) (H_.take (need := [.blk b 24 (eRq Ms.zero)]) (by repeat (first | exact Takes.nil | apply Takes.dup rfl | apply Takes.cons | exact Take1.here | apply Take1.there)))) ?_
  repeat (first | fail)
  first | refine G.call (caps := []) (take_sp (lRq b) begunF (begun_ok b) (by decide) Ms.zero rfl ba 2 2 rfl ao n c l hl hn) rfl rfl rfl rfl (by repeat (first | exact Takes.nil | apply Takes.dup rfl | apply Takes.cons | exact Take1.here | apply Take1.there)) ?_ | refine G.callU (caps := []) (take_sp (lRq b) begunF (begun_ok b) (by decide) Ms.zero rfl ba 2 2 rfl ao n c l hl hn) rfl rfl rfl (by repeat (first | exact Takes.nil | apply Takes.dup rfl | apply Takes.cons | exact Take1.here | apply Take1.there)) ?_
  rintro v_ give_ (⟨e1, m', hm', rfl, rfl⟩ | ⟨m1, b1, a1, c1, e1, hm1, hb1, rfl, rfl⟩) rs_ hrs_ <;> simp only [List.cons_append, List.nil_append] at hrs_ <;> subst hrs_
  · have e : askedF l = (Rq.zero, 5) := by
      have e1' : takeF Rq.zero l begunF = none := e1
      unfold askedF; rw [e1']
    rw [e]
    repeat (first | refine G.storeBA rfl rfl rfl rfl rfl ?_ | (apply G.ex (hd := rfl); case h => (first | exact Ex.move rfl | exact Ex.extract rfl rfl | exact Ex.assign rfl | exact Ex.notB rfl | exact Ex.build rfl rfl)) | refine G.nil ?_ | refine GC.seq ?_ | refine GC.region ?_ | refine GC.ret ?_ | refine GE.then_normal ?_ | refine GE.then_ret ?_ | refine GC.cond_t rfl ?_)
    refine GE.nilsl 1 ?_
    refine GE.ret (by first | exact .inl rfl | exact .inr rfl) (by first | exact res0 Try.results8 | exact res1 Try.results8 rfl | exact res2 Try.results8 rfl rfl | exact resR1 Try.results8 (by first | exact RV.tmp rfl | exact RV.cell rfl (eP_len _) | exact RV.cell rfl rfl | exact RV.cell1 rfl) | exact resR2 Try.results8 (by first | exact RV.tmp rfl | exact RV.cell rfl (eP_len _) | exact RV.cell rfl rfl | exact RV.cell1 rfl) (by first | exact RV.tmp rfl | exact RV.cell rfl (eP_len _) | exact RV.cell rfl rfl | exact RV.cell1 rfl) | exact resR3 Try.results8 (by first | exact RV.tmp rfl | exact RV.cell rfl (eP_len _) | exact RV.cell rfl rfl | exact RV.cell1 rfl) (by first | exact RV.tmp rfl | exact RV.cell rfl (eP_len _) | exact RV.cell rfl rfl | exact RV.cell1 rfl) (by first | exact RV.tmp rfl | exact RV.cell rfl (eP_len _) | exact RV.cell rfl rfl | exact RV.cell1 rfl)) ⟨Ms.zero, rfl, rfl, rfl, rfl⟩ (by repeat (first | exact Takes.nil | apply Takes.dup rfl | apply Takes.cons | exact Take1.here | apply Take1.there)) (by repeat (first | exact Subs.refl | refine Subs.skip ?_))
  · have e1' : takeF Rq.zero l begunF = some (m1.r, b1) := e1
    have hA : askedF l = if partsF m1.r.kind = [] then (Rq.zero, (3 : Int)) else match takeF m1.r b1 (partsF m1.r.kind) with
      | none => (Rq.zero, (5 : Int))
      | some (r2, b2) => if b2 = [] ∧ allF r2 (partsF m1.r.kind) 0 = 0 then (r2, (0 : Int)) else (Rq.zero, (4 : Int)) := by
      unfold askedF; rw [e1']; rfl
    rw [hA]
    have hpl := parts_le m1.r.kind
    repeat (first | (apply G.ex (hd := rfl); case h => (first | exact Ex.move rfl | exact Ex.extract rfl rfl | exact Ex.assign rfl | exact Ex.notB rfl)) | refine G.nil ?_ | refine GC.seq ?_ | refine GC.region ?_ | refine GC.skip ?_ | refine GE.then_normal ?_ | refine GC.cond_f rfl ?_)
    refine G.conv (rs' := _) (fun w_ H_ => Holds.starOuts (l := [.blk b 24 (eRq m1)]) (H_.take (need := [.own (Star ((lRq b).bl m1))]) (by repeat (first | exact Takes.nil | apply Takes.dup rfl | apply Takes.cons | exact Take1.here | apply Take1.there)))) ?_
    simp only [List.append_eq, List.cons_append, List.nil_append]
    first | refine G.call (caps := []) (parts_sp b m1) rfl rfl rfl rfl (by repeat (first | exact Takes.nil | apply Takes.dup rfl | apply Takes.cons | exact Take1.here | apply Take1.there)) ?_ | refine G.callU (caps := []) (parts_sp b m1) rfl rfl rfl (by repeat (first | exact Takes.nil | apply Takes.dup rfl | apply Takes.cons | exact Take1.here | apply Take1.there)) ?_
    rintro v_ give_ (⟨hp, rfl, rfl⟩ | ⟨hp, pa, rfl, rfl⟩) rs_ hrs_ <;> simp only [List.cons_append, List.nil_append] at hrs_ <;> subst hrs_
    · rw [if_pos hp]
      repeat (first | refine G.storeBA rfl rfl rfl rfl rfl ?_ | (apply G.ex (hd := rfl); case h => (first | exact Ex.move rfl | exact Ex.assign rfl | exact Ex.build rfl rfl | exact Ex.eqNil rfl rfl)) | refine G.nil ?_ | refine GC.seq ?_ | refine GC.region ?_ | refine GC.ret ?_ | refine GE.then_normal ?_ | refine GE.then_ret ?_ | refine GC.cond_t rfl ?_)
      refine GE.nilsl 1 ?_
      refine GE.ret (by first | exact .inl rfl | exact .inr rfl) (by first | exact res0 Try.results8 | exact res1 Try.results8 rfl | exact res2 Try.results8 rfl rfl | exact resR1 Try.results8 (by first | exact RV.tmp rfl | exact RV.cell rfl (eP_len _) | exact RV.cell rfl rfl | exact RV.cell1 rfl) | exact resR2 Try.results8 (by first | exact RV.tmp rfl | exact RV.cell rfl (eP_len _) | exact RV.cell rfl rfl | exact RV.cell1 rfl) (by first | exact RV.tmp rfl | exact RV.cell rfl (eP_len _) | exact RV.cell rfl rfl | exact RV.cell1 rfl) | exact resR3 Try.results8 (by first | exact RV.tmp rfl | exact RV.cell rfl (eP_len _) | exact RV.cell rfl rfl | exact RV.cell1 rfl) (by first | exact RV.tmp rfl | exact RV.cell rfl (eP_len _) | exact RV.cell rfl rfl | exact RV.cell1 rfl) (by first | exact RV.tmp rfl | exact RV.cell rfl (eP_len _) | exact RV.cell rfl rfl | exact RV.cell1 rfl)) ⟨Ms.zero, rfl, rfl, rfl, rfl⟩ (by repeat (first | exact Takes.nil | apply Takes.dup rfl | apply Takes.cons | exact Take1.here | apply Take1.there)) (by repeat (first | exact Subs.refl | refine Subs.skip ?_))
    · have hpp : 0 < (partsF m1.r.kind).length := List.length_pos_iff.2 hp
      rw [if_neg hp]
      refine G.someV (ao := pa) (List.mem_cons_of_mem _ (List.mem_cons_self ..)) hpp fun ⟨pq, hpq⟩ => ?_
      have hpn : ¬ pa = none := by rw [hpq]; exact fun h => nomatch h
      first | refine G.frz pa ?_ | refine GC.frz pa ?_ | refine GE.frz pa ?_
      refine G.conv (rs' := _) (fun w_ H_ => Holds.starIns (l := [.blk b 24 (eRq m1)]) (H_.take (need := [.blk b 24 (eRq m1)]) (by repeat (first | exact Takes.nil | apply Takes.dup rfl | apply Takes.cons | exact Take1.here | apply Take1.there)))) ?_
      repeat (first | (apply G.ex (hd := rfl); case h => (first | exact Ex.move rfl | exact Ex.assign rfl | exact Ex.eqNil rfl rfl)) | refine G.nil ?_ | refine GC.seq ?_ | refine GC.region ?_ | refine GC.skip ?_ | refine GE.then_normal ?_ | refine GC.cond_no rfl (by first | assumption | omega) ?_)
      first | refine G.call (caps := []) (take_sp (lRq b) (partsF m1.r.kind) (parts_ok' b _) (by omega) m1 hm1 pa (partsF m1.r.kind).length (partsF m1.r.kind).length rfl a1 b1.length c1 b1 rfl (by omega)) rfl rfl rfl rfl (by repeat (first | exact Takes.nil | apply Takes.dup rfl | apply Takes.cons | exact Take1.here | apply Take1.there)) ?_ | refine G.callU (caps := []) (take_sp (lRq b) (partsF m1.r.kind) (parts_ok' b _) (by omega) m1 hm1 pa (partsF m1.r.kind).length (partsF m1.r.kind).length rfl a1 b1.length c1 b1 rfl (by omega)) rfl rfl rfl (by repeat (first | exact Takes.nil | apply Takes.dup rfl | apply Takes.cons | exact Take1.here | apply Take1.there)) ?_
      rintro v_ give_ (⟨e2, m', hm', rfl, rfl⟩ | ⟨m2, b2, a2, c2, e2, hm2, hb2, rfl, rfl⟩) rs_ hrs_ <;> simp only [List.cons_append, List.nil_append] at hrs_ <;> subst hrs_
      · rw [e2]
        repeat (first | refine G.storeBA rfl rfl rfl rfl rfl ?_ | (apply G.ex (hd := rfl); case h => (first | exact Ex.move rfl | exact Ex.extract rfl rfl | exact Ex.assign rfl | exact Ex.notB rfl | exact Ex.build rfl rfl)) | refine G.nil ?_ | refine GC.seq ?_ | refine GC.region ?_ | refine GC.block ?_ | refine GC.ret ?_ | refine GE.then_normal ?_ | refine GE.then_ret ?_ | refine GE.block_ret ?_ | refine GC.cond_t rfl ?_)
        refine GE.nilsl 1 ?_
        refine GE.ret (by first | exact .inl rfl | exact .inr rfl) (by first | exact res0 Try.results8 | exact res1 Try.results8 rfl | exact res2 Try.results8 rfl rfl | exact resR1 Try.results8 (by first | exact RV.tmp rfl | exact RV.cell rfl (eP_len _) | exact RV.cell rfl rfl | exact RV.cell1 rfl) | exact resR2 Try.results8 (by first | exact RV.tmp rfl | exact RV.cell rfl (eP_len _) | exact RV.cell rfl rfl | exact RV.cell1 rfl) (by first | exact RV.tmp rfl | exact RV.cell rfl (eP_len _) | exact RV.cell rfl rfl | exact RV.cell1 rfl) | exact resR3 Try.results8 (by first | exact RV.tmp rfl | exact RV.cell rfl (eP_len _) | exact RV.cell rfl rfl | exact RV.cell1 rfl) (by first | exact RV.tmp rfl | exact RV.cell rfl (eP_len _) | exact RV.cell rfl rfl | exact RV.cell1 rfl) (by first | exact RV.tmp rfl | exact RV.cell rfl (eP_len _) | exact RV.cell rfl rfl | exact RV.cell1 rfl)) ⟨Ms.zero, rfl, rfl, rfl, rfl⟩ (by repeat (first | exact Takes.nil | apply Takes.dup rfl | apply Takes.cons | exact Take1.here | apply Take1.there)) (by repeat (first | exact Subs.refl | refine Subs.skip ?_))
      · rw [e2]
        simp only
        by_cases h1 : b2.length = 0
        · have h1' := List.eq_nil_of_length_eq_zero h1
          repeat (first | (apply G.ex (hd := rfl); case h => (first | exact Ex.move rfl | exact Ex.gtr rfl rfl | exact Ex.lenSl rfl | exact Ex.extract rfl rfl | exact Ex.assign rfl | exact Ex.notB rfl)) | refine G.g_ff rfl rfl (by first | assumption | omega) ?_ | refine G.nil ?_ | refine GC.seq ?_ | refine GC.region ?_ | refine GC.block ?_ | refine GE.then_normal ?_ | refine GC.cond_f rfl ?_)
          first | refine G.call (caps := []) (all_sp (lRq b) (partsF m1.r.kind) (parts_ok' b _) (by omega) m2 hm2 pa (partsF m1.r.kind).length (partsF m1.r.kind).length rfl) rfl rfl rfl rfl (by repeat (first | exact Takes.nil | apply Takes.dup rfl | apply Takes.cons | exact Take1.here | apply Take1.there)) ?_ | refine G.callU (caps := []) (all_sp (lRq b) (partsF m1.r.kind) (parts_ok' b _) (by omega) m2 hm2 pa (partsF m1.r.kind).length (partsF m1.r.kind).length rfl) rfl rfl rfl (by repeat (first | exact Takes.nil | apply Takes.dup rfl | apply Takes.cons | exact Take1.here | apply Take1.there)) ?_
          rintro v_ give_ ⟨rfl, rfl⟩ rs_ hrs_
          simp only [List.cons_append, List.nil_append] at hrs_
          subst hrs_
          refine G.conv (rs' := _) (fun w_ H_ => Holds.starOuts (l := [.blk b 24 (eRq m2)]) (H_.take (need := [.own (Star ((lRq b).bl m2))]) (by repeat (first | exact Takes.nil | apply Takes.dup rfl | apply Takes.cons | exact Take1.here | apply Take1.there)))) ?_
          simp only [List.append_eq, List.cons_append, List.nil_append]
          by_cases h2 : allF m2.r (partsF m1.r.kind) 0 = 0
          · rw [if_pos ⟨h1', h2⟩]
            repeat (first | refine G.storeBA rfl rfl rfl rfl rfl ?_ | (apply G.ex (hd := rfl); case h => (first | exact Ex.neI rfl rfl | exact Ex.assign rfl | exact Ex.pickF rfl (by first | assumption | omega) rfl | exact Ex.loadBA rfl rfl rfl)) | refine G.g_ff rfl rfl (by first | assumption | omega) ?_ | refine G.nil ?_ | refine GC.seq ?_ | refine GC.region ?_ | refine GC.skip ?_ | refine GC.ret ?_ | refine GE.then_normal ?_ | refine GE.block_normal ?_ | refine GC.cond_no rfl (by first | assumption | omega) ?_)
            refine GE.ret (by first | exact .inl rfl | exact .inr rfl) (by first | exact res0 Try.results8 | exact res1 Try.results8 rfl | exact res2 Try.results8 rfl rfl | exact resR1 Try.results8 (by first | exact RV.tmp rfl | exact RV.cell rfl (eP_len _) | exact RV.cell rfl rfl | exact RV.cell1 rfl) | exact resR2 Try.results8 (by first | exact RV.tmp rfl | exact RV.cell rfl (eP_len _) | exact RV.cell rfl rfl | exact RV.cell1 rfl) (by first | exact RV.tmp rfl | exact RV.cell rfl (eP_len _) | exact RV.cell rfl rfl | exact RV.cell1 rfl) | exact resR3 Try.results8 (by first | exact RV.tmp rfl | exact RV.cell rfl (eP_len _) | exact RV.cell rfl rfl | exact RV.cell1 rfl) (by first | exact RV.tmp rfl | exact RV.cell rfl (eP_len _) | exact RV.cell rfl rfl | exact RV.cell1 rfl) (by first | exact RV.tmp rfl | exact RV.cell rfl (eP_len _) | exact RV.cell rfl rfl | exact RV.cell1 rfl)) ⟨m2, rfl, hm2, rfl, rfl⟩ (by repeat (first | exact Takes.nil | apply Takes.dup rfl | apply Takes.cons | exact Take1.here | apply Take1.there)) (by repeat (first | exact Subs.refl | refine Subs.skip ?_))
          · rw [if_neg (fun h => h2 h.2)]
            repeat (first | refine G.storeBA rfl rfl rfl rfl rfl ?_ | (apply G.ex (hd := rfl); case h => (first | exact Ex.neI rfl rfl | exact Ex.assign rfl | exact Ex.pickF rfl (by first | assumption | omega) rfl | exact Ex.build rfl rfl)) | refine G.g_ff rfl rfl (by first | assumption | omega) ?_ | refine G.nil ?_ | refine GC.seq ?_ | refine GC.region ?_ | refine GC.ret ?_ | refine GE.then_normal ?_ | refine GE.then_ret ?_ | refine GE.block_ret ?_ | refine GC.cond_yes rfl (by first | assumption | omega) ?_)
            refine GE.nilsl 1 ?_
            refine GE.ret (by first | exact .inl rfl | exact .inr rfl) (by first | exact res0 Try.results8 | exact res1 Try.results8 rfl | exact res2 Try.results8 rfl rfl | exact resR1 Try.results8 (by first | exact RV.tmp rfl | exact RV.cell rfl (eP_len _) | exact RV.cell rfl rfl | exact RV.cell1 rfl) | exact resR2 Try.results8 (by first | exact RV.tmp rfl | exact RV.cell rfl (eP_len _) | exact RV.cell rfl rfl | exact RV.cell1 rfl) (by first | exact RV.tmp rfl | exact RV.cell rfl (eP_len _) | exact RV.cell rfl rfl | exact RV.cell1 rfl) | exact resR3 Try.results8 (by first | exact RV.tmp rfl | exact RV.cell rfl (eP_len _) | exact RV.cell rfl rfl | exact RV.cell1 rfl) (by first | exact RV.tmp rfl | exact RV.cell rfl (eP_len _) | exact RV.cell rfl rfl | exact RV.cell1 rfl) (by first | exact RV.tmp rfl | exact RV.cell rfl (eP_len _) | exact RV.cell rfl rfl | exact RV.cell1 rfl)) ⟨Ms.zero, rfl, rfl, rfl, rfl⟩ (by repeat (first | exact Takes.nil | apply Takes.dup rfl | apply Takes.cons | exact Take1.here | apply Take1.there)) (by repeat (first | exact Subs.refl | refine Subs.skip ?_))
        · rw [if_neg (fun h => h1 (by rw [h.1]; rfl))]
          repeat (first | refine G.storeBA rfl rfl rfl rfl rfl ?_ | (apply G.ex (hd := rfl); case h => (first | exact Ex.move rfl | exact Ex.gtr rfl rfl | exact Ex.lenSl rfl | exact Ex.extract rfl rfl | exact Ex.assign rfl | exact Ex.notB rfl | exact Ex.pickT rfl (by first | assumption | omega) rfl | exact Ex.build rfl rfl)) | refine G.g_ft rfl rfl (by first | assumption | omega) rfl ?_ | refine G.nil ?_ | refine GC.seq ?_ | refine GC.region ?_ | refine GC.block ?_ | refine GC.ret ?_ | refine GE.then_normal ?_ | refine GE.then_ret ?_ | refine GE.block_ret ?_ | refine GC.cond_t rfl ?_ | refine GC.cond_f rfl ?_)
          refine GE.nilsl 1 ?_
          refine GE.ret (by first | exact .inl rfl | exact .inr rfl) (by first | exact res0 Try.results8 | exact res1 Try.results8 rfl | exact res2 Try.results8 rfl rfl | exact resR1 Try.results8 (by first | exact RV.tmp rfl | exact RV.cell rfl (eP_len _) | exact RV.cell rfl rfl | exact RV.cell1 rfl) | exact resR2 Try.results8 (by first | exact RV.tmp rfl | exact RV.cell rfl (eP_len _) | exact RV.cell rfl rfl | exact RV.cell1 rfl) (by first | exact RV.tmp rfl | exact RV.cell rfl (eP_len _) | exact RV.cell rfl rfl | exact RV.cell1 rfl) | exact resR3 Try.results8 (by first | exact RV.tmp rfl | exact RV.cell rfl (eP_len _) | exact RV.cell rfl rfl | exact RV.cell1 rfl) (by first | exact RV.tmp rfl | exact RV.cell rfl (eP_len _) | exact RV.cell rfl rfl | exact RV.cell1 rfl) (by first | exact RV.tmp rfl | exact RV.cell rfl (eP_len _) | exact RV.cell rfl rfl | exact RV.cell1 rfl)) ⟨Ms.zero, rfl, rfl, rfl, rfl⟩ (by repeat (first | exact Takes.nil | apply Takes.dup rfl | apply Takes.cons | exact Take1.here | apply Take1.there)) (by repeat (first | exact Subs.refl | refine Subs.skip ?_))
end msg
end Go.Proofs.Ythplilldkdehnaa
