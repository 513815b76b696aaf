/-
  CONTRACTS of frame.Feed, wrapped, sameLists, by the kit.
-/
import Derived.Test.YtcabcpealkbekaaFrame
namespace Go.Proofs.Ytcabcpealkbekaa
open Go.RowKit
attribute [local irreducible] Ex G GC GE Gq FPost LPost
set_option linter.unusedVariables false
set_option linter.unusedSimpArgs false

namespace frame
def dats (A : List (SlD UInt8)) : List (List UInt8) := A.map (·.l)
theorem dats_snoc (A : List (SlD UInt8)) (x : SlD UInt8) : dats (A ++ [x]) = dats A ++ [x.l] := by simp [dats]
def Fit (m : Nat) (A : List (SlD UInt8)) : Prop := ∀ x ∈ A, x.l.length = x.n ∧ x.n ≤ m
theorem Fit.snoc {m : Nat} {A : List (SlD UInt8)} {x : SlD UInt8} (h : Fit m A) (h1 : x.l.length = x.n) (h2 : x.n ≤ m) : Fit m (A ++ [x]) := fun y hy => by
  rcases List.mem_append.1 hy with hy | hy
  · exact h y hy
  · simp at hy; subst hy; exact ⟨h1, h2⟩
theorem Fit.app {m : Nat} {A B : List (SlD UInt8)} (h : Fit m A) (h' : Fit m B) : Fit m (A ++ B) := fun y hy => (List.mem_append.1 hy).elim (h y) (h' y)
theorem Fit.dats {m k : Nat} {A : List (SlD UInt8)} (h : Fit m A) (hk : m ≤ k) : ∀ b ∈ dats A, b.length ≤ k := fun b hb => by
  obtain ⟨x, hx, rfl⟩ := List.mem_map.1 hb
  have := h x hx; omega
set_option maxHeartbeats 4000000 in
theorem feed_sp (ho : Option Addr) (hn hc : Nat) (held : List UInt8) (hh : held.length = hn) (hh2 : hn < 1028) (bo : Option Addr) (bn bc : Nat) (b : List UInt8) (hb : b.length = bn) (hb2 : bn ≤ 100000) :
    Spec Try.prog 22 [.slice ho hn hc, .slice bo bn bc] [.sl ho hn hc 1 (flat eB held), .sl bo bn bc 1 (flat eB b)]
      fun v give => ∃ (A : List (SlD UInt8)) (rest : List UInt8), held ++ b = wrap (dats A) ++ rest ∧ Fit 1024 A ∧ stop rest ∧
        ((big rest ∧ v = .tuple #[.slice none 0 0, .slice none 0 0, .int .i64 1] ∧ give = []) ∨
         (¬ big rest ∧ ∃ oa oc ra rc, v = .tuple #[.slice oa A.length oc, .slice ra rest.length rc, .int .i64 0] ∧ give = [.sl oa A.length oc 1 (flat eS A), .per (Rd eB 1 A), .vec 5 1 ra rest.length rc (flat eB rest)])) := by
  refine Spec.intro Try.func22 rfl Try.ntmps22 rfl fun w0 rest rs_ hrs_ => ?_
  simp only [List.cons_append, List.nil_append] at hrs_
  subst hrs_
  repeat (first | (apply G.ex (hd := rfl); case h => (first | exact Ex.move rfl | exact Ex.geq rfl rfl | exact Ex.lenSl rfl | exact Ex.assign rfl)) | refine G.nil ?_ | refine GC.seq ?_ | refine GC.region ?_ | refine GC.skip ?_ | refine GE.then_normal ?_ | refine GC.cond_no rfl (by first | assumption | omega) ?_)
  refine G.lit rfl (by rfl) (by rfl) (by rfl) (by rfl) (by rfl) (by rfl) rfl (fun q => ?_)
  first | refine G.frz q ?_ | refine GC.frz q ?_ | refine GE.frz q ?_
  refine G.conv (fun w_ H_ => H_.rdNil eB 1) ?_
  refine G.conv (fun w_ H_ => Holds.rdSnoc (x := ⟨ho, hn, hc, held⟩) (H_.take (need := [.sl ho hn hc 1 (flat eB held), .per (Rd eB 1 [])]) (by repeat (first | exact Takes.nil | apply Takes.dup rfl | apply Takes.cons | exact Take1.here | apply Take1.there)))) ?_
  try simp only [List.append_eq, List.nil_append, List.cons_append]
  refine G.conv (fun w_ H_ => Holds.rdSnoc (x := ⟨bo, bn, bc, b⟩) (H_.take (need := [.sl bo bn bc 1 (flat eB b), .per (Rd eB 1 ([] ++ [⟨ho, hn, hc, held⟩]))]) (by repeat (first | exact Takes.nil | apply Takes.dup rfl | apply Takes.cons | exact Take1.here | apply Take1.there)))) ?_
  try simp only [List.append_eq, List.nil_append, List.cons_append]
  have htot : tot [⟨ho, hn, hc, held⟩, ⟨bo, bn, bc, b⟩] = held ++ b := by simp [tot]
  have hlen : (held ++ b).length = hn + bn := by rw [List.length_append, hh, hb]
  first | refine G.call (caps := []) (concatB_sp q 2 2 [⟨ho, hn, hc, held⟩, ⟨bo, bn, bc, b⟩] rfl (by omega) (by intro x hx; simp at hx; rcases hx with rfl | rfl <;> assumption) (by rw [htot, hlen]; omega)) rfl rfl rfl rfl (by repeat (first | exact Takes.nil | apply Takes.dup rfl | apply Takes.cons | exact Take1.here | apply Take1.there)) ?_ | refine G.callU (caps := []) (concatB_sp q 2 2 [⟨ho, hn, hc, held⟩, ⟨bo, bn, bc, b⟩] rfl (by omega) (by intro x hx; simp at hx; rcases hx with rfl | rfl <;> assumption) (by rw [htot, hlen]; omega)) rfl rfl rfl (by repeat (first | exact Takes.nil | apply Takes.dup rfl | apply Takes.cons | exact Take1.here | apply Take1.there)) ?_
  rintro v_ give_ ⟨aa, ac, rfl, rfl⟩ rs_ hrs_
  simp only [List.cons_append, List.nil_append] at hrs_
  subst hrs_
  rw [htot]
  generalize hall : held ++ b = all at *
  have hal : all.length ≤ 101028 := by omega
  clear htot hlen
  first | refine G.frz aa ?_ | refine GC.frz aa ?_ | refine GE.frz aa ?_
  repeat (first | (apply G.ex (hd := rfl); case h => (first | exact Ex.assign rfl)) | refine G.nil ?_ | refine GC.seq ?_ | refine GC.region ?_ | refine GC.block ?_ | refine GE.then_normal ?_)
  first | refine G.nilvec 35 1 ?_ | refine GC.nilvec 35 1 ?_
  refine GC.conv (fun w_ H_ => H_.rdNil eB 1) ?_
  refine GC.loop (ι := List UInt8 × Option Addr × Nat × List (SlD UInt8) × Option Addr × Nat) (fun i => all = wrap (dats i.2.2.2.1) ++ i.1 ∧ Fit 1024 i.2.2.2.1 ∧ i.1.length ≤ 101028 ∧ i.2.2.2.1.length + i.1.length ≤ 101028) (fun i => i.1.length) (fun i => [(7, .slice i.2.1 i.1.length i.2.2.1), (8, .slice i.2.2.2.2.1 i.2.2.2.1.length i.2.2.2.2.2)]) (fun i => [.vec 35 1 i.2.2.2.2.1 i.2.2.2.1.length i.2.2.2.2.2 (flat eS i.2.2.2.1), .per (Rd eB 1 i.2.2.2.1), .sl i.2.1 i.1.length i.2.2.1 1 (flat eB i.1)]) (all, aa, ac, [], none, 0) ⟨by simp [wrap, dats], fun x hx => by simp at hx, hal, by simp only [List.length_nil]; omega⟩ (by simp only [fits]; repeat (first | exact trivial | refine And.intro rfl ?_)) (by repeat (first | exact Takes.nil | apply Takes.dup rfl | apply Takes.cons | exact Take1.here | apply Take1.there)) ?_
  rintro ⟨R, ra, rc, A, oa, oc⟩ ⟨h1, h2, h3, h4⟩ fr_ rs_ hfr_ hrs_
  simp only [List.cons_append, List.nil_append] at hfr_ hrs_
  subst hfr_ hrs_
  simp only at h1 h2 h3 h4
  by_cases hlt : 4 ≤ R.length
  · repeat (first | (apply G.ex (hd := rfl); case h => (first | exact Ex.move rfl | exact Ex.geq rfl rfl | exact Ex.lenSl rfl)) | refine G.nil ?_ | refine GC.seq ?_ | refine GC.region ?_ | refine GC.block ?_ | refine GC.skip ?_ | refine GE.then_normal ?_ | refine GC.cond_yes rfl (by first | assumption | omega) ?_)
    refine G.sub (l := 0) (r := 4) rfl rfl (by first | exact .inl ⟨rfl, rfl⟩ | exact .inr ⟨_, _, rfl, ev_int rfl (by omega)⟩) (by first | exact .inl ⟨rfl, rfl⟩ | exact .inr ⟨_, _, rfl, ev_int rfl (by omega)⟩) (by omega) rfl (rfl) (fun s1 => ?_)
    rw [flat_cut (enc := eB) (s := 1) inferInstance R 0 4, List.drop_zero, Nat.sub_zero]
    first | refine G.call (caps := []) (get_sp s1 4 (rc - 0) (R.take 4) (by rw [List.length_take]; omega) (by omega)) rfl rfl rfl rfl (by repeat (first | exact Takes.nil | apply Takes.dup rfl | apply Takes.cons | exact Take1.here | apply Take1.there)) ?_ | refine G.callU (caps := []) (get_sp s1 4 (rc - 0) (R.take 4) (by rw [List.length_take]; omega) (by omega)) rfl rfl rfl (by repeat (first | exact Takes.nil | apply Takes.dup rfl | apply Takes.cons | exact Take1.here | apply Take1.there)) ?_
    rintro v_ give_ ⟨rfl, rfl⟩ rs_ hrs_
    simp only [List.cons_append, List.nil_append] at hrs_
    subst hrs_
    have hnum := num_lt (R.take 4)
    have hp : 256 ^ (R.take 4).length ≤ 256 ^ 4 := Nat.pow_le_pow_right (by decide) (by rw [List.length_take]; omega)
    have hnum2 : num (R.take 4) < 4294967296 := by omega
    clear hnum hp
    have hbig : big R ↔ 1024 < num (R.take 4) := ⟨fun h => h.2, fun h => ⟨hlt, h⟩⟩
    have hstop : 1024 < num (R.take 4) ∨ R.length < 4 + num (R.take 4) → stop R := fun h => .inr h
    have hfr : ∀ k, num (R.take 4) = k → 4 + k ≤ R.length → k ≤ 1024 → R = fr ((R.drop 4).take k) ++ R.drop (4 + k) := fun k e1 e2 e3 => fr_of R k e1 e2 e3
    generalize hN : num (R.take 4) = N at *
    by_cases hgt : 1024 < N
    · repeat (first | (apply G.ex (hd := rfl); case h => (first | exact Ex.move rfl | exact Ex.gtr rfl rfl | exact Ex.assign rfl)) | refine G.nil ?_ | refine GC.seq ?_ | refine GC.region ?_ | refine GC.ret ?_ | refine GE.then_normal ?_ | refine GE.then_ret ?_ | refine GE.block_ret ?_ | refine GC.cond_yes rfl (by first | assumption | omega) ?_)
      refine GE.ret (by first | exact .inl rfl | exact .inr rfl) (by first | exact res0 Try.results22 | exact res1 Try.results22 rfl | exact res2 Try.results22 rfl rfl | exact resR1 Try.results22 (by first | exact RV.tmp rfl | exact RV.cell rfl rfl | exact RV.cell1 rfl) | exact resR2 Try.results22 (by first | exact RV.tmp rfl | exact RV.cell rfl rfl | exact RV.cell1 rfl) (by first | exact RV.tmp rfl | exact RV.cell rfl rfl | exact RV.cell1 rfl) | exact resR3 Try.results22 (by first | exact RV.tmp rfl | exact RV.cell rfl rfl | exact RV.cell1 rfl) (by first | exact RV.tmp rfl | exact RV.cell rfl rfl | exact RV.cell1 rfl) (by first | exact RV.tmp rfl | exact RV.cell rfl rfl | exact RV.cell1 rfl)) ⟨A, R, h1, h2, hstop (.inl hgt), .inl ⟨hbig.2 hgt, rfl, rfl⟩⟩ (by repeat (first | exact Takes.nil | apply Takes.dup rfl | apply Takes.cons | exact Take1.here | apply Take1.there)) (by repeat (first | exact Subs.refl | refine Subs.skip ?_))
    · by_cases hpart : R.length < 4 + N
      · repeat (first | (apply G.ex (hd := rfl); case h => (first | exact Ex.move rfl | exact Ex.add rfl rfl (by omega) | exact Ex.lss rfl rfl | exact Ex.gtr rfl rfl | exact Ex.lenSl rfl | exact Ex.assign rfl)) | refine G.nil ?_ | refine GC.seq ?_ | refine GC.region ?_ | refine GC.skip ?_ | refine GC.exit ?_ | refine GE.then_normal ?_ | refine GE.then_exit ?_ | refine GE.block_hit ?_ | refine GE.block_miss rfl ?_ | refine GC.cond_yes rfl (by first | assumption | omega) ?_ | refine GC.cond_no rfl (by first | assumption | omega) ?_)
        first | refine G.call (caps := []) (cloneB_sp (.sl ra R.length rc 1 (flat eB R)) ra R.length rc R rfl (by omega)) rfl rfl rfl rfl (by repeat (first | exact Takes.nil | apply Takes.dup rfl | apply Takes.cons | exact Take1.here | apply Take1.there)) ?_ | refine G.callU (caps := []) (cloneB_sp (.sl ra R.length rc 1 (flat eB R)) ra R.length rc R rfl (by omega)) rfl rfl rfl (by repeat (first | exact Takes.nil | apply Takes.dup rfl | apply Takes.cons | exact Take1.here | apply Take1.there)) ?_
        rintro v_ give_ ⟨ca, cc, rfl, rfl⟩ rs_ hrs_
        simp only [List.cons_append, List.nil_append] at hrs_
        subst hrs_
        first | refine G.frz oa ?_ | refine GC.frz oa ?_ | refine GE.frz oa ?_
        repeat (first | (apply G.ex (hd := rfl); case h => (first | exact Ex.assign rfl)) | refine G.nil ?_ | refine GC.ret ?_ | refine GE.then_normal ?_)
        refine GE.ret (by first | exact .inl rfl | exact .inr rfl) (by first | exact res0 Try.results22 | exact res1 Try.results22 rfl | exact res2 Try.results22 rfl rfl | exact resR1 Try.results22 (by first | exact RV.tmp rfl | exact RV.cell rfl rfl | exact RV.cell1 rfl) | exact resR2 Try.results22 (by first | exact RV.tmp rfl | exact RV.cell rfl rfl | exact RV.cell1 rfl) (by first | exact RV.tmp rfl | exact RV.cell rfl rfl | exact RV.cell1 rfl) | exact resR3 Try.results22 (by first | exact RV.tmp rfl | exact RV.cell rfl rfl | exact RV.cell1 rfl) (by first | exact RV.tmp rfl | exact RV.cell rfl rfl | exact RV.cell1 rfl) (by first | exact RV.tmp rfl | exact RV.cell rfl rfl | exact RV.cell1 rfl)) ⟨A, R, h1, h2, hstop (.inr hpart), .inr ⟨fun h => hgt (hbig.1 h), oa, oc, ca, cc, rfl, rfl⟩⟩ (by repeat (first | exact Takes.nil | apply Takes.dup rfl | apply Takes.cons | exact Take1.here | apply Take1.there)) (by repeat (first | exact Subs.refl | refine Subs.skip ?_))
      · have hR := hfr N rfl (by omega) (by omega)
        have e4 : (4 : Int) + (N : Int) = ((4 + N : Nat) : Int) := by omega
        repeat (first | (apply G.ex (hd := rfl); case h => (first | exact Ex.move rfl | exact Ex.add rfl rfl (by omega) | exact Ex.lss rfl rfl | exact Ex.gtr rfl rfl | exact Ex.lenSl rfl | exact Ex.assign rfl)) | refine G.nil ?_ | refine GC.seq ?_ | refine GC.region ?_ | refine GC.skip ?_ | refine GE.then_normal ?_ | refine GC.cond_no rfl (by first | assumption | omega) ?_)
        rw [e4]
        repeat (first | fail)
        refine G.sub (l := 4) (r := (4 + N)) rfl rfl (by first | exact .inl ⟨rfl, rfl⟩ | exact .inr ⟨_, _, rfl, ev_int rfl (by omega)⟩) (by first | exact .inl ⟨rfl, rfl⟩ | exact .inr ⟨_, _, rfl, ev_int rfl (by omega)⟩) (by omega) rfl (rfl) (fun s2 => ?_)
        rw [flat_cut (enc := eB) (s := 1) inferInstance R 4 (4 + N), show 4 + N - 4 = N by omega]
        have hdl : ((R.drop 4).take N).length = N := by rw [List.length_take, List.length_drop]; omega
        first | refine G.call (caps := []) (cloneB_sp (.sl s2 N (rc - 4) 1 (flat eB ((R.drop 4).take N))) s2 N (rc - 4) ((R.drop 4).take N) hdl (by omega)) rfl rfl rfl rfl (by repeat (first | exact Takes.nil | apply Takes.dup rfl | apply Takes.cons | exact Take1.here | apply Take1.there)) ?_ | refine G.callU (caps := []) (cloneB_sp (.sl s2 N (rc - 4) 1 (flat eB ((R.drop 4).take N))) s2 N (rc - 4) ((R.drop 4).take N) hdl (by omega)) rfl rfl rfl (by repeat (first | exact Takes.nil | apply Takes.dup rfl | apply Takes.cons | exact Take1.here | apply Take1.there)) ?_
        rintro v_ give_ ⟨ca, cc, rfl, rfl⟩ rs_ hrs_
        simp only [List.cons_append, List.nil_append] at hrs_
        subst hrs_
        first | refine G.frz ca ?_ | refine GC.frz ca ?_ | refine GE.frz ca ?_
        refine G.conv (fun w_ H_ => Holds.rdSnoc (x := ⟨ca, N, cc, (R.drop 4).take N⟩) (H_.take (need := [.sl ca N cc 1 (flat eB ((R.drop 4).take N)), .per (Rd eB 1 A)]) (by repeat (first | exact Takes.nil | apply Takes.dup rfl | apply Takes.cons | exact Take1.here | apply Take1.there)))) ?_
        try simp only [List.append_eq, List.nil_append, List.cons_append]
        repeat (first | fail)
        refine G.lit rfl (by rfl) (by rfl) (by rfl) (by rfl) (by rfl) (by rfl) rfl (fun y => ?_)
        have hcat : flat eS A ++ eS (⟨ca, N, cc, (R.drop 4).take N⟩ : SlD UInt8) = flat eS (A ++ [⟨ca, N, cc, (R.drop 4).take N⟩]) := flat_snoc ..
        refine G.app rfl rfl (by rfl) (by omega) rfl (hcat) (fun o2 c2 rs_ hrs_ => ?_)
        try simp only at hrs_
        subst hrs_
        rw [show A.length + 1 = (A ++ [(⟨ca, N, cc, (R.drop 4).take N⟩ : SlD UInt8)]).length by simp]
        refine G.drop ?_
        repeat (first | (apply G.ex (hd := rfl); case h => (first | exact Ex.move rfl | exact Ex.assign rfl)) | refine G.nil ?_ | refine GC.region ?_ | refine GE.then_normal ?_)
        refine G.sub (l := (4 + N)) (r := R.length) rfl rfl (by first | exact .inl ⟨rfl, rfl⟩ | exact .inr ⟨_, _, rfl, ev_int rfl (by omega)⟩) (by first | exact .inl ⟨rfl, rfl⟩ | exact .inr ⟨_, _, rfl, ev_int rfl (by omega)⟩) (by omega) rfl (rfl) (fun s3 => ?_)
        rw [flat_cut (enc := eB) (s := 1) inferInstance R (4 + N) R.length]
        have hd2 : (R.drop (4 + N)).take (R.length - (4 + N)) = R.drop (4 + N) := List.take_of_length_le (by rw [List.length_drop]; omega)
        have hd3 : R.length - (4 + N) = (R.drop (4 + N)).length := by rw [List.length_drop]
        have hd4 : (R.drop (4 + N)).length + 4 + N = R.length := by rw [List.length_drop]; omega
        rw [hd2, hd3]
        have h1' : all = wrap (dats (A ++ [⟨ca, N, cc, (R.drop 4).take N⟩])) ++ R.drop (4 + N) := by
          rw [dats_snoc, wrap_snoc, List.append_assoc, ← hR, h1]
        clear hR h1 hd2 hd3
        generalize R.drop (4 + N) = R' at *
        repeat (first | (apply G.ex (hd := rfl); case h => (first | exact Ex.assign rfl)) | refine G.nil ?_ | refine GE.block_normal ?_)
        refine GE.loop (R', s3, rc - (4 + N), A ++ [⟨ca, N, cc, (R.drop 4).take N⟩], o2, c2) ⟨h1', h2.snoc hdl (by simp only; omega), by simp only; omega, by simp only [List.length_append, List.length_cons, List.length_nil]; omega⟩ (by simp only; omega) (by simp only [fits]; repeat (first | exact trivial | refine And.intro rfl ?_)) (by repeat (first | exact Takes.nil | apply Takes.dup rfl | apply Takes.cons | exact Take1.here | apply Take1.there)) (by repeat (first | exact Subs.refl | refine Subs.skip ?_))
  · have hns : stop R := .inl (by omega)
    have hnb : ¬ big R := fun h => hlt h.1
    repeat (first | (apply G.ex (hd := rfl); case h => (first | exact Ex.move rfl | exact Ex.geq rfl rfl | exact Ex.lenSl rfl)) | refine G.nil ?_ | refine GC.seq ?_ | refine GC.region ?_ | refine GC.exit ?_ | refine GE.then_normal ?_ | refine GE.then_exit ?_ | refine GE.block_hit ?_ | refine GC.cond_no rfl (by first | assumption | omega) ?_)
    first | refine G.call (caps := []) (cloneB_sp (.sl ra R.length rc 1 (flat eB R)) ra R.length rc R rfl (by omega)) rfl rfl rfl rfl (by repeat (first | exact Takes.nil | apply Takes.dup rfl | apply Takes.cons | exact Take1.here | apply Take1.there)) ?_ | refine G.callU (caps := []) (cloneB_sp (.sl ra R.length rc 1 (flat eB R)) ra R.length rc R rfl (by omega)) rfl rfl rfl (by repeat (first | exact Takes.nil | apply Takes.dup rfl | apply Takes.cons | exact Take1.here | apply Take1.there)) ?_
    rintro v_ give_ ⟨ca, cc, rfl, rfl⟩ rs_ hrs_
    simp only [List.cons_append, List.nil_append] at hrs_
    subst hrs_
    first | refine G.frz oa ?_ | refine GC.frz oa ?_ | refine GE.frz oa ?_
    repeat (first | (apply G.ex (hd := rfl); case h => (first | exact Ex.assign rfl)) | refine G.nil ?_ | refine GC.ret ?_ | refine GE.then_normal ?_)
    refine GE.ret (by first | exact .inl rfl | exact .inr rfl) (by first | exact res0 Try.results22 | exact res1 Try.results22 rfl | exact res2 Try.results22 rfl rfl | exact resR1 Try.results22 (by first | exact RV.tmp rfl | exact RV.cell rfl rfl | exact RV.cell1 rfl) | exact resR2 Try.results22 (by first | exact RV.tmp rfl | exact RV.cell rfl rfl | exact RV.cell1 rfl) (by first | exact RV.tmp rfl | exact RV.cell rfl rfl | exact RV.cell1 rfl) | exact resR3 Try.results22 (by first | exact RV.tmp rfl | exact RV.cell rfl rfl | exact RV.cell1 rfl) (by first | exact RV.tmp rfl | exact RV.cell rfl rfl | exact RV.cell1 rfl) (by first | exact RV.tmp rfl | exact RV.cell rfl rfl | exact RV.cell1 rfl)) ⟨A, R, h1, h2, hns, .inr ⟨hnb, oa, oc, ca, cc, rfl, rfl⟩⟩ (by repeat (first | exact Takes.nil | apply Takes.dup rfl | apply Takes.cons | exact Take1.here | apply Take1.there)) (by repeat (first | exact Subs.refl | refine Subs.skip ?_))
theorem feed_ok_sp (ho : Option Addr) (hn hc : Nat) (held : List UInt8) (hh : held.length = hn) (hh2 : hn < 1028) (bo : Option Addr) (bn bc : Nat) (b : List UInt8) (hb : b.length = bn) (hb2 : bn ≤ 100000)
    (hnb : ∀ F r, (∀ x ∈ F, x.length ≤ 1024) → stop r → held ++ b = wrap F ++ r → ¬ big r) :
    Spec Try.prog 22 [.slice ho hn hc, .slice bo bn bc] [.sl ho hn hc 1 (flat eB held), .sl bo bn bc 1 (flat eB b)]
      fun v give => ∃ (A : List (SlD UInt8)) (rest : List UInt8) (oa : Option Addr) (oc : Nat) (ra : Option Addr) (rc : Nat), v = .tuple #[.slice oa A.length oc, .slice ra rest.length rc, .int .i64 0] ∧ held ++ b = wrap (dats A) ++ rest ∧ Fit 1024 A ∧ stop rest ∧ ¬ big rest ∧ give = [.sl oa A.length oc 1 (flat eS A), .per (Rd eB 1 A), .vec 5 1 ra rest.length rc (flat eB rest)] :=
  (feed_sp ho hn hc held hh hh2 bo bn bc b hb hb2).mono fun v give ⟨A, rest, e, hA, hs, h⟩ => by
    have hg := hnb _ _ (hA.dats (Nat.le_refl _)) hs e
    rcases h with ⟨h, _⟩ | ⟨_, oa, oc, ra, rc, h1, h2⟩
    · exact absurd h hg
    · exact ⟨A, rest, oa, oc, ra, rc, h1, e, hA, hs, hg, h2⟩
theorem feed_big_sp (ho : Option Addr) (hn hc : Nat) (held : List UInt8) (hh : held.length = hn) (hh2 : hn < 1028) (bo : Option Addr) (bn bc : Nat) (b : List UInt8) (hb : b.length = bn) (hb2 : bn ≤ 100000)
    (hnb : ∀ F r, (∀ x ∈ F, x.length ≤ 1024) → stop r → held ++ b = wrap F ++ r → big r) :
    Spec Try.prog 22 [.slice ho hn hc, .slice bo bn bc] [.sl ho hn hc 1 (flat eB held), .sl bo bn bc 1 (flat eB b)]
      fun v give => v = .tuple #[.slice none 0 0, .slice none 0 0, .int .i64 1] ∧ give = [] :=
  (feed_sp ho hn hc held hh hh2 bo bn bc b hb hb2).mono fun v give ⟨A, rest, e, hA, hs, h⟩ => by
    have hg := hnb _ _ (hA.dats (Nat.le_refl _)) hs e
    rcases h with ⟨_, h1, h2⟩ | ⟨h, _⟩
    · exact ⟨h1, h2⟩
    · exact absurd hg h
end frame
end Go.Proofs.Ytcabcpealkbekaa
