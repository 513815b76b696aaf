/-
  CONTRACT of msg.Answered, by the kit.
-/
import Derived.Test.YthplilldkdehnaaAnsB
namespace Go.Proofs.Ythplilldkdehnaa
open Go.RowKit
attribute [local irreducible] Ex G GC GE Gq FPost LPost
set_option linter.unusedVariables false
set_option linter.unusedSimpArgs false

namespace msg
open frame path
theorem rep_pt : (∀ p ∈ repF, PtOk p) ∧ repF.Pairwise (fun p q => cellOf p ≠ cellOf q) := by
  refine ⟨?_, by simp [repF, cellOf]⟩
  simp [repF, PtOk]
theorem rep_count {r0 r1 : Rq} {b b1 : List UInt8} (h : takeF r0 b repF = some (r1, b1)) : ∃ C : Nat, r1.count = (C : Int) ∧ C < 256 := by
  have h1 := (take_same repF r0 r1 b b1 rep_pt.1 rep_pt.2 h).2.2 1 7 (by simp [repF])
  have h2 : (if r1.count < 0 ∨ (256 : Int) ^ 1 ≤ r1.count then (2 : Int) else 0) = 0 := h1
  rw [show (256 : Int) ^ 1 = 256 from by decide] at h2
  split at h2
  · exact absurd h2 (by decide)
  · exact ⟨r1.count.toNat, by omega, by omega⟩
theorem txts_succ (k : Nat) (b : List UInt8) : txts (k + 1) b = match txt1 b with
    | none => none
    | some (s, b') => match txts k b' with
      | none => none
      | some (l, b'') => some (s :: l, b'') := rfl
def mapA (l0 : List (List UInt8)) (o : Option (List (List UInt8) × List UInt8)) : Option (List (List UInt8) × List UInt8) := o.map fun q => (l0 ++ q.1, q.2)
theorem mapA_nil (o : Option (List (List UInt8) × List UInt8)) : mapA [] o = o := by
  cases o <;> rfl
theorem mapA_none (l0 : List (List UInt8)) (k : Nat) (d : List UInt8) (h : txt1 d = none) : mapA l0 (txts (k + 1) d) = none := by
  rw [txts_succ, h]; rfl
theorem mapA_step (l0 : List (List UInt8)) (k : Nat) (d s d' : List UInt8) (h : txt1 d = some (s, d')) : mapA l0 (txts (k + 1) d) = mapA (l0 ++ [s]) (txts k d') := by
  rw [txts_succ, h]
  simp only
  cases txts k d' with
  | none => rfl
  | some q => obtain ⟨l, b⟩ := q; simp [mapA]
theorem eRp_code (m : Ms) (cv nv v : Value) : (eRp m cv nv).set 1 v = eRp m v nv := rfl
theorem eRp_names (m : Ms) (cv nv v : Value) : (eRp m cv nv).set 6 v = eRp m cv v := rfl
structure Ix where
  i : Nat
  l0 : List (List UInt8)
  na : Option Addr
  nc : Nat
  ok : Bool
  d : List UInt8
  ua : Option Addr
  uc : Nat
set_option maxHeartbeats 8000000 in
theorem answered_sp (ao : Option Addr) (n c : Nat) (l : List UInt8) (hl : l.length = n) (hn : n ≤ 9223372036854775807) : Spec Try.prog 14 [.slice ao n c] [.sl ao n c 1 (flat eB l)]
    fun v give => ∃ (m : Ms) (no : Option Addr) (nc : Nat) (names : List (List UInt8)), (m.r, names) = (answeredF l).1 ∧ m.r.data.length = m.n ∧ v = .tuple #[.agg (eRp m (.int .i64 m.r.kind) (.slice no names.length nc)).toArray, .int .i64 (answeredF l).2] ∧ give = [.sl m.ao m.n m.c 1 (flat eB m.r.data), .sl no names.length nc 1 (flat eO names)] := by
  refine Spec.intro Try.func14 rfl Try.ntmps14 rfl fun w0 rest rs_ hrs_ => ?_
  simp only [List.cons_append, List.nil_append] at hrs_
  subst hrs_
  repeat (first | refine GC.seq ?_ | refine GC.region ?_)
  refine G.alloc rfl (fun q => ?_)
  repeat (first | (apply G.ex (hd := rfl); case h => (first | exact Ex.assign rfl)) | refine G.nil ?_ | refine GC.seq ?_ | refine GC.region ?_ | refine GE.then_normal ?_)
  refine G.alloc rfl (fun b => ?_)
  repeat (first | refine G.nil ?_ | refine GC.seq ?_ | refine GC.region ?_ | refine GE.then_normal ?_)
  refine G.alloc rfl (fun cb => ?_)
  repeat (first | fail)
  refine G.alloc rfl (fun nb => ?_)
  repeat (first | (apply G.ex (hd := rfl); case h => (first | exact Ex.move rfl)) | refine G.nil ?_ | refine GC.seq ?_ | refine GC.region ?_ | refine GE.then_normal ?_)
  first | refine G.call (caps := []) (replied_sp b cb nb (.int .i64 0) (.slice none 0 0)) rfl rfl rfl rfl (by repeat (first | exact Takes.nil | apply Takes.dup rfl | apply Takes.cons | exact Take1.here | apply Take1.there)) ?_ | refine G.callU (caps := []) (replied_sp b cb nb (.int .i64 0) (.slice none 0 0)) rfl rfl rfl (by repeat (first | exact Takes.nil | apply Takes.dup rfl | apply Takes.cons | exact Take1.here | apply Take1.there)) ?_
  rintro v_ give_ ⟨pa, rfl, rfl⟩ rs_ hrs_
  simp only [List.cons_append, List.nil_append] at hrs_
  subst hrs_
  first | refine G.frz pa ?_ | refine GC.frz pa ?_ | refine GE.frz pa ?_
  refine G.nilsl 1 ?_
  refine G.conv (rs' := _) (fun w_ H_ => Holds.starIns (l := [.blk b 40 (eRp Ms.zero (.int .i64 0) (.slice none 0 0)), .blk cb 3 [.int .i64 0], .blk nb 3 [.int .i64 0]]) (H_.take (need := [.blk b 40 (eRp Ms.zero (.int .i64 0) (.slice none 0 0)), .blk cb 3 [.int .i64 0], .blk nb 3 [.int .i64 0]]) (by repeat (first | exact Takes.nil | apply Takes.dup rfl | apply Takes.cons | exact Take1.here | apply Take1.there)))) ?_
  try simp only [List.append_eq, List.nil_append, List.cons_append]
  first | refine G.call (caps := []) (take_sp (lRp b cb nb (.int .i64 0) (.slice none 0 0)) repF (rep_ok b cb nb _ _) (by decide) Ms.zero rfl pa 7 7 rfl ao n c l hl hn) rfl rfl rfl rfl (by repeat (first | exact Takes.nil | apply Takes.dup rfl | apply Takes.cons | exact Take1.here | apply Take1.there)) ?_ | refine G.callU (caps := []) (take_sp (lRp b cb nb (.int .i64 0) (.slice none 0 0)) repF (rep_ok b cb nb _ _) (by decide) Ms.zero rfl pa 7 7 rfl ao n c l hl hn) rfl rfl rfl (by repeat (first | exact Takes.nil | apply Takes.dup rfl | apply Takes.cons | exact Take1.here | apply Take1.there)) ?_
  rintro v_ give_ (⟨e1, m', hm', rfl, rfl⟩ | ⟨m1, b1, a1, c1, e1, hm1, hb1, rfl, rfl⟩) rs_ hrs_ <;> simp only [List.cons_append, List.nil_append] at hrs_ <;> subst hrs_
  · have e : answeredF l = ((Rq.zero, []), 5) := by
      have e1' : takeF Rq.zero l repF = none := e1
      unfold answeredF; rw [e1']
    rw [e]
    refine G.conv (rs' := _) (fun w_ H_ => Holds.starOuts (l := [.blk b 40 (eRp m' (.int .i64 0) (.slice none 0 0)), .blk cb 3 [.int .i64 m'.r.kind], .blk nb 3 [.int .i64 m'.r.count]]) (H_.take (need := [.own (Star ((lRp b cb nb (.int .i64 0) (.slice none 0 0)).bl m'))]) (.cons .here .nil))) ?_
    simp only [List.append_eq, List.nil_append, List.cons_append]
    repeat (first | refine G.storeB rfl rfl rfl rfl rfl ?_ | (apply G.ex (hd := rfl); case h => (first | exact Ex.move rfl | exact Ex.fieldB rfl | exact Ex.loadB rfl rfl | exact Ex.extract rfl rfl | exact Ex.assign rfl)) | refine G.nil ?_ | refine GC.seq ?_ | refine GC.region ?_ | refine GC.block ?_ | refine GE.then_normal ?_)
    refine GC.loop (ι := Unit) (fun _ => True) (fun _ => 0) (fun _ => [(2, .pointer (some (badr q 0))), (8, .bool false)]) (fun _ => [.blk q 40 [.int .i64 0, .int .i64 0, .int .i64 0, .int .i64 0, .int .i64 0, .slice none 0 0, .slice none 0 0]]) () trivial (by simp only [fits]; repeat (first | exact trivial | refine And.intro rfl ?_)) (by repeat (first | exact Takes.nil | apply Takes.dup rfl | apply Takes.cons | exact Take1.here | apply Take1.there)) ?_
    rintro ⟨⟩ hT fr_ rs_ hfr_ hrs_
    simp only [List.cons_append, List.nil_append] at hfr_ hrs_
    subst hfr_ hrs_
    repeat (first | refine G.storeBA rfl rfl rfl rfl rfl ?_ | (apply G.ex (hd := rfl); case h => (first | exact Ex.move rfl | exact Ex.assign rfl | exact Ex.notB rfl | exact Ex.build rfl rfl | exact Ex.pickLF rfl rfl)) | refine G.l_tf rfl rfl rfl ?_ | refine G.nil ?_ | refine GC.seq ?_ | refine GC.region ?_ | refine GC.block ?_ | refine GC.ret ?_ | refine GC.exit ?_ | refine GE.then_normal ?_ | refine GE.then_ret ?_ | refine GE.then_exit ?_ | refine GE.block_ret ?_ | refine GE.block_hit ?_ | refine GC.cond_t rfl ?_ | refine GC.cond_f rfl ?_)
    refine GE.nilsl 1 ?_
    refine GE.ret (by first | exact .inl rfl | exact .inr rfl) (by first | exact res0 Try.results14 | exact res1 Try.results14 rfl | exact res2 Try.results14 rfl rfl | exact resR1 Try.results14 (by first | exact RV.tmp rfl | exact RV.cell rfl (eP_len _) | exact RV.cell rfl rfl | exact RV.cell1 rfl) | exact resR2 Try.results14 (by first | exact RV.tmp rfl | exact RV.cell rfl (eP_len _) | exact RV.cell rfl rfl | exact RV.cell1 rfl) (by first | exact RV.tmp rfl | exact RV.cell rfl (eP_len _) | exact RV.cell rfl rfl | exact RV.cell1 rfl) | exact resR3 Try.results14 (by first | exact RV.tmp rfl | exact RV.cell rfl (eP_len _) | exact RV.cell rfl rfl | exact RV.cell1 rfl) (by first | exact RV.tmp rfl | exact RV.cell rfl (eP_len _) | exact RV.cell rfl rfl | exact RV.cell1 rfl) (by first | exact RV.tmp rfl | exact RV.cell rfl (eP_len _) | exact RV.cell rfl rfl | exact RV.cell1 rfl)) ⟨Ms.zero, none, 0, [], rfl, rfl, rfl, rfl⟩ (by repeat (first | exact Takes.nil | apply Takes.dup rfl | apply Takes.cons | exact Take1.here | apply Take1.there)) (by repeat (first | exact Subs.refl | refine Subs.skip ?_))
  · obtain ⟨C, hC, hC2⟩ := rep_count e1
    have e1' : takeF Rq.zero l repF = some (m1.r, b1) := e1
    have hA : answeredF l = match txts C b1 with
      | none => ((Rq.zero, []), (5 : Int))
      | some (l2, b2) => if b2 = [] ∧ faultF m1.r l2 = 0 then ((m1.r, l2), (0 : Int)) else ((Rq.zero, []), (4 : Int)) := by
      unfold answeredF; rw [e1']; simp only; rw [hC]; rfl
    rw [hA]
    refine G.conv (rs' := _) (fun w_ H_ => Holds.starOuts (l := [.blk b 40 (eRp m1 (.int .i64 0) (.slice none 0 0)), .blk cb 3 [.int .i64 m1.r.kind], .blk nb 3 [.int .i64 m1.r.count]]) (H_.take (need := [.own (Star ((lRp b cb nb (.int .i64 0) (.slice none 0 0)).bl m1))]) (.cons .here .nil))) ?_
    simp only [List.append_eq, List.nil_append, List.cons_append]
    rw [hC]
    repeat (first | refine G.storeB rfl rfl rfl rfl rfl ?_ | (apply G.ex (hd := rfl); case h => (first | exact Ex.move rfl | exact Ex.fieldB rfl | exact Ex.loadB rfl rfl | exact Ex.extract rfl rfl | exact Ex.assign rfl)) | refine G.nil ?_ | refine GC.seq ?_ | refine GC.region ?_ | refine GC.block ?_ | refine GE.then_normal ?_)
    first | refine G.nilvec 9 1 ?_ | refine GC.nilvec 9 1 ?_
    refine GC.loop (ι := Ix) (fun x => x.i ≤ C ∧ x.l0.length = x.i ∧ (∀ s ∈ x.l0, s.length ≤ 65536) ∧ x.d.length ≤ n ∧ (x.ok = true → mapA x.l0 (txts (C - x.i) x.d) = txts C b1) ∧ (x.ok = false → txts C b1 = none)) (fun x => C - x.i) (fun x => [(2, .pointer (some (badr q 0))), (4, .pointer (some (badr b 0))), (6, .pointer (some (badr nb 0))), (7, .slice x.ua x.d.length x.uc), (8, .bool x.ok), (9, .int .i64 (x.i : Int))]) (fun x => [.blk q 40 [.int .i64 0, .int .i64 0, .int .i64 0, .int .i64 0, .int .i64 0, .slice none 0 0, .slice none 0 0], .blk b 40 (eRp m1 (.int .i64 m1.r.kind) (.slice x.na x.i x.nc)), .blk nb 3 [.int .i64 (C : Int)], .sl x.ua x.d.length x.uc 1 (flat eB x.d), .vec 9 1 x.na x.i x.nc (flat eO x.l0), .sl m1.ao m1.n m1.c 1 (flat eB m1.r.data)]) ⟨0, [], none, 0, true, b1, a1, c1⟩ ⟨Nat.zero_le _, rfl, fun s hs => (nomatch hs), hb1, fun _ => mapA_nil _, fun h => (nomatch h)⟩ (by simp only [fits]; repeat (first | exact trivial | refine And.intro rfl ?_)) (by repeat (first | exact Takes.nil | apply Takes.dup rfl | apply Takes.cons | exact Take1.here | apply Take1.there)) ?_
    rintro ⟨i, l0, na, nc, ok, d, ua, uc⟩ ⟨hi, hl0, hls, hd, ht, hf⟩ fr_ rs_ hfr_ hrs_
    simp only [List.cons_append, List.nil_append] at hfr_ hrs_
    subst hfr_ hrs_
    simp only at hi hl0 hls hd ht hf
    cases ok with
    | false =>
      rw [hf rfl]
      repeat (first | refine G.storeBA rfl rfl rfl rfl rfl ?_ | (apply G.ex (hd := rfl); case h => (first | exact Ex.move rfl | exact Ex.assign rfl | exact Ex.notB rfl | exact Ex.build rfl rfl | exact Ex.pickLF rfl rfl)) | refine G.l_tf rfl rfl rfl ?_ | refine G.nil ?_ | refine GC.seq ?_ | refine GC.region ?_ | refine GC.block ?_ | refine GC.ret ?_ | refine GC.exit ?_ | refine GE.then_normal ?_ | refine GE.then_ret ?_ | refine GE.then_exit ?_ | refine GE.block_ret ?_ | refine GE.block_hit ?_ | refine GC.cond_t rfl ?_ | refine GC.cond_f rfl ?_)
      refine GE.nilsl 1 ?_
      refine GE.ret (by first | exact .inl rfl | exact .inr rfl) (by first | exact res0 Try.results14 | exact res1 Try.results14 rfl | exact res2 Try.results14 rfl rfl | exact resR1 Try.results14 (by first | exact RV.tmp rfl | exact RV.cell rfl (eP_len _) | exact RV.cell rfl rfl | exact RV.cell1 rfl) | exact resR2 Try.results14 (by first | exact RV.tmp rfl | exact RV.cell rfl (eP_len _) | exact RV.cell rfl rfl | exact RV.cell1 rfl) (by first | exact RV.tmp rfl | exact RV.cell rfl (eP_len _) | exact RV.cell rfl rfl | exact RV.cell1 rfl) | exact resR3 Try.results14 (by first | exact RV.tmp rfl | exact RV.cell rfl (eP_len _) | exact RV.cell rfl rfl | exact RV.cell1 rfl) (by first | exact RV.tmp rfl | exact RV.cell rfl (eP_len _) | exact RV.cell rfl rfl | exact RV.cell1 rfl) (by first | exact RV.tmp rfl | exact RV.cell rfl (eP_len _) | exact RV.cell rfl rfl | exact RV.cell1 rfl)) ⟨Ms.zero, none, 0, [], rfl, rfl, rfl, rfl⟩ (by repeat (first | exact Takes.nil | apply Takes.dup rfl | apply Takes.cons | exact Take1.here | apply Take1.there)) (by repeat (first | exact Subs.refl | refine Subs.skip ?_))
    | true =>
      have ht := ht rfl
      by_cases hlt : i < C
      · repeat (first | (apply G.ex (hd := rfl); case h => (first | exact Ex.move rfl | exact Ex.loadB rfl rfl | exact Ex.lss rfl rfl | exact Ex.pickLT rfl rfl)) | refine G.yes rfl rfl ?_ | refine G.nil ?_ | refine GC.seq ?_ | refine GC.region ?_ | refine GC.block ?_ | refine GC.skip ?_ | refine GE.then_normal ?_ | refine GC.cond_yes rfl (by first | assumption | omega) ?_)
        refine G.alloc rfl (fun g => ?_)
        repeat (first | refine G.nil ?_ | refine GC.seq ?_ | refine GC.region ?_ | refine GE.then_normal ?_)
        first | refine G.call (caps := []) (text_sp g 0) rfl rfl rfl rfl (by repeat (first | exact Takes.nil | apply Takes.dup rfl | apply Takes.cons | exact Take1.here | apply Take1.there)) ?_ | refine G.callU (caps := []) (text_sp g 0) rfl rfl rfl (by repeat (first | exact Takes.nil | apply Takes.dup rfl | apply Takes.cons | exact Take1.here | apply Take1.there)) ?_
        rintro v_ give_ ⟨rfl, rfl⟩ rs_ hrs_
        simp only [List.cons_append, List.nil_append] at hrs_
        subst hrs_
        repeat (first | (apply G.ex (hd := rfl); case h => (first | exact Ex.move rfl)))
        first | refine G.call (caps := []) (getT_sp g 0 (.string (sOf [])) 9 [.string (sOf [])] rfl ua d.length uc d rfl (by omega)) rfl rfl rfl rfl (by repeat (first | exact Takes.nil | apply Takes.dup rfl | apply Takes.cons | exact Take1.here | apply Take1.there)) ?_ | refine G.callU (caps := []) (getT_sp g 0 (.string (sOf [])) 9 [.string (sOf [])] rfl ua d.length uc d rfl (by omega)) rfl rfl rfl (by repeat (first | exact Takes.nil | apply Takes.dup rfl | apply Takes.cons | exact Take1.here | apply Take1.there)) ?_
        rintro v_ give_ (⟨hg, rfl, rfl⟩ | ⟨hg1, hg2, va, vc, rfl, rfl⟩) rs_ hrs_ <;> simp only [List.cons_append, List.nil_append] at hrs_ <;> subst hrs_
        · have h1 : txt1 d = none := by
            unfold txt1
            by_cases h2 : d.length < 2
            · rw [if_pos h2]
            · rw [if_neg h2, if_pos (by omega)]
          have hn : txts C b1 = none := by
            rw [← ht, show C - i = (C - i - 1) + 1 by omega]
            exact mapA_none _ _ _ h1
          have hcat : flat eO l0 ++ flat eO [[]] = flat eO (l0 ++ [[]]) := by rw [← flat_append]
          have hl1 : (l0 ++ [[]]).length = i + 1 := by rw [List.length_append, hl0]; rfl
          have hls1 : ∀ s ∈ l0 ++ [[]], s.length ≤ 65536 := fun s hs => by
            rcases List.mem_append.1 hs with h | h
            · exact hls s h
            · rw [List.mem_singleton] at h; rw [h]; exact Nat.zero_le _
          repeat (first | (apply G.ex (hd := rfl); case h => (first | exact Ex.move rfl | exact Ex.fieldB rfl | exact Ex.loadB rfl rfl | exact Ex.extract rfl rfl | exact Ex.assign rfl)) | refine G.nil ?_ | refine GC.region ?_ | refine GE.then_normal ?_)
          refine G.lit rfl (by rfl) (by rfl) (by rfl) (by rfl) (by rfl) (by rfl) rfl (fun y => ?_)
          refine G.app rfl rfl (by rfl) (by omega) rfl (hcat) (fun na2 nc2 rs_ hrs_ => ?_)
          try simp only at hrs_
          subst hrs_
          repeat (first | refine G.storeB rfl rfl rfl rfl rfl ?_ | (apply G.ex (hd := rfl); case h => (first | exact Ex.move rfl | exact Ex.fieldB rfl | exact Ex.add rfl rfl (by omega) | exact Ex.assign rfl)) | refine G.nil ?_ | refine GC.region ?_ | refine GE.then_normal ?_ | refine GE.block_normal ?_)
          refine GE.nilsl 1 ?_
          refine GE.loop ⟨i + 1, l0 ++ [[]], na2, nc2, false, [], none, 0⟩ ⟨by simp only; omega, hl1, hls1, Nat.zero_le _, fun h => (nomatch h), fun _ => hn⟩ (by simp only; omega) (by simp only [fits]; repeat (first | exact trivial | refine And.intro rfl ?_)) (by repeat (first | exact Takes.nil | apply Takes.dup rfl | apply Takes.cons | exact Take1.here | apply Take1.there)) (by repeat (first | exact Subs.refl | refine Subs.skip ?_))
        · obtain ⟨s, hs⟩ : ∃ s, (d.drop 2).take (num (d.take 2)) = s := ⟨_, rfl⟩
          obtain ⟨d2, hd2⟩ : ∃ d2, (d.drop 2).drop (num (d.take 2)) = d2 := ⟨_, rfl⟩
          have h1 : txt1 d = some (s, d2) := by
            unfold txt1
            rw [if_neg hg1, if_neg hg2, hs, hd2]
          have hdl : d2.length = d.length - 2 - num (d.take 2) := by rw [← hd2, List.length_drop, List.length_drop]
          have hsl : s.length ≤ 65536 := by
            have h3 := num_lt (d.take 2)
            have h4 : 256 ^ (d.take 2).length ≤ 256 ^ 2 := Nat.pow_le_pow_right (by decide) (by rw [List.length_take]; omega)
            rw [← hs, List.length_take]; omega
          have hn : mapA (l0 ++ [s]) (txts (C - (i + 1)) d2) = txts C b1 := by
            rw [← ht, show C - i = (C - (i + 1)) + 1 by omega]
            exact (mapA_step _ _ _ _ _ h1).symm
          rw [hs, hd2, ← hdl]
          have hcat : flat eO l0 ++ flat eO [s] = flat eO (l0 ++ [s]) := by rw [← flat_append]
          have hl1 : (l0 ++ [s]).length = i + 1 := by rw [List.length_append, hl0]; rfl
          have hls1 : ∀ x ∈ l0 ++ [s], x.length ≤ 65536 := fun x hx => by
            rcases List.mem_append.1 hx with h | h
            · exact hls x h
            · rw [List.mem_singleton] at h; rw [h]; exact hsl
          repeat (first | (apply G.ex (hd := rfl); case h => (first | exact Ex.move rfl | exact Ex.fieldB rfl | exact Ex.loadB rfl rfl | exact Ex.extract rfl rfl | exact Ex.assign rfl)) | refine G.nil ?_ | refine GC.region ?_ | refine GE.then_normal ?_)
          refine G.lit rfl (by rfl) (by rfl) (by rfl) (by rfl) (by rfl) (by rfl) rfl (fun y => ?_)
          refine G.app rfl rfl (by rfl) (by omega) rfl (hcat) (fun na2 nc2 rs_ hrs_ => ?_)
          try simp only at hrs_
          subst hrs_
          repeat (first | refine G.storeB rfl rfl rfl rfl rfl ?_ | (apply G.ex (hd := rfl); case h => (first | exact Ex.move rfl | exact Ex.fieldB rfl | exact Ex.add rfl rfl (by omega) | exact Ex.assign rfl)) | refine G.nil ?_ | refine GC.region ?_ | refine GE.then_normal ?_ | refine GE.block_normal ?_)
          refine GE.loop ⟨i + 1, l0 ++ [s], na2, nc2, true, d2, va, vc⟩ ⟨by simp only; omega, hl1, hls1, by simp only; omega, fun _ => hn, fun h => (nomatch h)⟩ (by simp only; omega) (by simp only [fits]; repeat (first | exact trivial | refine And.intro rfl ?_)) (by repeat (first | exact Takes.nil | apply Takes.dup rfl | apply Takes.cons | exact Take1.here | apply Take1.there)) (by repeat (first | exact Subs.refl | refine Subs.skip ?_))
      · have hiC : i = C := by omega
        have hres : txts C b1 = some (l0, d) := by
          rw [← ht, hiC, Nat.sub_self]
          show some (l0 ++ [], d) = _
          rw [List.append_nil]
        rw [hres]
        simp only
        subst hl0
        by_cases h1 : d.length = 0
        · have h1' := List.eq_nil_of_length_eq_zero h1
          repeat (first | (apply G.ex (hd := rfl); case h => (first | exact Ex.move rfl | exact Ex.loadB rfl rfl | exact Ex.lss rfl rfl | exact Ex.gtr rfl rfl | exact Ex.lenSl rfl | exact Ex.assign rfl | exact Ex.notB rfl | exact Ex.loadBA rfl rfl rfl | exact Ex.pickLT rfl rfl)) | refine G.g_ff rfl rfl (by first | assumption | omega) ?_ | refine G.yes rfl rfl ?_ | refine G.nil ?_ | refine GC.seq ?_ | refine GC.region ?_ | refine GC.block ?_ | refine GC.exit ?_ | refine GE.then_normal ?_ | refine GE.then_exit ?_ | refine GE.block_hit ?_ | refine GC.cond_no rfl (by first | assumption | omega) ?_ | refine GC.cond_f rfl ?_)
          first | refine G.call (caps := []) (fault_sp (.vec 9 1 na l0.length nc (flat eO l0)) m1 hm1 na l0.length nc l0 rfl (by omega) (fun s hs => by have := hls s hs; omega)) rfl rfl rfl rfl (by repeat (first | exact Takes.nil | apply Takes.dup rfl | apply Takes.cons | exact Take1.here | apply Take1.there)) ?_ | refine G.callU (caps := []) (fault_sp (.vec 9 1 na l0.length nc (flat eO l0)) m1 hm1 na l0.length nc l0 rfl (by omega) (fun s hs => by have := hls s hs; omega)) rfl rfl rfl (by repeat (first | exact Takes.nil | apply Takes.dup rfl | apply Takes.cons | exact Take1.here | apply Take1.there)) ?_
          rintro v_ give_ ⟨rfl, rfl⟩ rs_ hrs_
          simp only [List.cons_append, List.nil_append] at hrs_
          subst hrs_
          by_cases h2 : faultF m1.r l0 = 0
          · rw [if_pos ⟨h1', h2⟩]
            repeat (first | refine G.storeBA rfl rfl rfl rfl rfl ?_ | (apply G.ex (hd := rfl); case h => (first | exact Ex.neI rfl rfl | exact Ex.assign rfl | exact Ex.pickF rfl (by first | assumption | omega) rfl | exact Ex.loadBA rfl rfl rfl)) | refine G.g_ff rfl rfl (by first | assumption | omega) ?_ | refine G.nil ?_ | refine GC.seq ?_ | refine GC.region ?_ | refine GC.skip ?_ | refine GC.ret ?_ | refine GE.then_normal ?_ | refine GE.block_normal ?_ | refine GC.cond_no rfl (by first | assumption | omega) ?_)
            first | refine G.frz na ?_ | refine GC.frz na ?_ | refine GE.frz na ?_
            refine GE.ret (by first | exact .inl rfl | exact .inr rfl) (by first | exact res0 Try.results14 | exact res1 Try.results14 rfl | exact res2 Try.results14 rfl rfl | exact resR1 Try.results14 (by first | exact RV.tmp rfl | exact RV.cell rfl (eP_len _) | exact RV.cell rfl rfl | exact RV.cell1 rfl) | exact resR2 Try.results14 (by first | exact RV.tmp rfl | exact RV.cell rfl (eP_len _) | exact RV.cell rfl rfl | exact RV.cell1 rfl) (by first | exact RV.tmp rfl | exact RV.cell rfl (eP_len _) | exact RV.cell rfl rfl | exact RV.cell1 rfl) | exact resR3 Try.results14 (by first | exact RV.tmp rfl | exact RV.cell rfl (eP_len _) | exact RV.cell rfl rfl | exact RV.cell1 rfl) (by first | exact RV.tmp rfl | exact RV.cell rfl (eP_len _) | exact RV.cell rfl rfl | exact RV.cell1 rfl) (by first | exact RV.tmp rfl | exact RV.cell rfl (eP_len _) | exact RV.cell rfl rfl | exact RV.cell1 rfl)) ⟨m1, na, nc, l0, rfl, hm1, rfl, rfl⟩ (by repeat (first | exact Takes.nil | apply Takes.dup rfl | apply Takes.cons | exact Take1.here | apply Take1.there)) (by repeat (first | exact Subs.refl | refine Subs.skip ?_))
          · rw [if_neg (fun h => h2 h.2)]
            repeat (first | refine G.storeBA rfl rfl rfl rfl rfl ?_ | (apply G.ex (hd := rfl); case h => (first | exact Ex.neI rfl rfl | exact Ex.assign rfl | exact Ex.pickF rfl (by first | assumption | omega) rfl | exact Ex.build rfl rfl)) | refine G.g_ff rfl rfl (by first | assumption | omega) ?_ | refine G.nil ?_ | refine GC.seq ?_ | refine GC.region ?_ | refine GC.ret ?_ | refine GE.then_normal ?_ | refine GE.then_ret ?_ | refine GE.block_ret ?_ | refine GC.cond_yes rfl (by first | assumption | omega) ?_)
            refine GE.nilsl 1 ?_
            refine GE.ret (by first | exact .inl rfl | exact .inr rfl) (by first | exact res0 Try.results14 | exact res1 Try.results14 rfl | exact res2 Try.results14 rfl rfl | exact resR1 Try.results14 (by first | exact RV.tmp rfl | exact RV.cell rfl (eP_len _) | exact RV.cell rfl rfl | exact RV.cell1 rfl) | exact resR2 Try.results14 (by first | exact RV.tmp rfl | exact RV.cell rfl (eP_len _) | exact RV.cell rfl rfl | exact RV.cell1 rfl) (by first | exact RV.tmp rfl | exact RV.cell rfl (eP_len _) | exact RV.cell rfl rfl | exact RV.cell1 rfl) | exact resR3 Try.results14 (by first | exact RV.tmp rfl | exact RV.cell rfl (eP_len _) | exact RV.cell rfl rfl | exact RV.cell1 rfl) (by first | exact RV.tmp rfl | exact RV.cell rfl (eP_len _) | exact RV.cell rfl rfl | exact RV.cell1 rfl) (by first | exact RV.tmp rfl | exact RV.cell rfl (eP_len _) | exact RV.cell rfl rfl | exact RV.cell1 rfl)) ⟨Ms.zero, none, 0, [], rfl, rfl, rfl, rfl⟩ (by repeat (first | exact Takes.nil | apply Takes.dup rfl | apply Takes.cons | exact Take1.here | apply Take1.there)) (by repeat (first | exact Subs.refl | refine Subs.skip ?_))
        · rw [if_neg (fun h => h1 (by rw [h.1]; rfl))]
          repeat (first | refine G.storeBA rfl rfl rfl rfl rfl ?_ | (apply G.ex (hd := rfl); case h => (first | exact Ex.move rfl | exact Ex.loadB rfl rfl | exact Ex.lss rfl rfl | exact Ex.gtr rfl rfl | exact Ex.lenSl rfl | exact Ex.assign rfl | exact Ex.notB rfl | exact Ex.pickT rfl (by first | assumption | omega) rfl | exact Ex.build rfl rfl | exact Ex.pickLT rfl rfl)) | refine G.g_ft rfl rfl (by first | assumption | omega) rfl ?_ | refine G.yes rfl rfl ?_ | refine G.nil ?_ | refine GC.seq ?_ | refine GC.region ?_ | refine GC.block ?_ | refine GC.ret ?_ | refine GC.exit ?_ | refine GE.then_normal ?_ | refine GE.then_ret ?_ | refine GE.then_exit ?_ | refine GE.block_ret ?_ | refine GE.block_hit ?_ | refine GC.cond_no rfl (by first | assumption | omega) ?_ | refine GC.cond_t rfl ?_ | refine GC.cond_f rfl ?_)
          refine GE.nilsl 1 ?_
          refine GE.ret (by first | exact .inl rfl | exact .inr rfl) (by first | exact res0 Try.results14 | exact res1 Try.results14 rfl | exact res2 Try.results14 rfl rfl | exact resR1 Try.results14 (by first | exact RV.tmp rfl | exact RV.cell rfl (eP_len _) | exact RV.cell rfl rfl | exact RV.cell1 rfl) | exact resR2 Try.results14 (by first | exact RV.tmp rfl | exact RV.cell rfl (eP_len _) | exact RV.cell rfl rfl | exact RV.cell1 rfl) (by first | exact RV.tmp rfl | exact RV.cell rfl (eP_len _) | exact RV.cell rfl rfl | exact RV.cell1 rfl) | exact resR3 Try.results14 (by first | exact RV.tmp rfl | exact RV.cell rfl (eP_len _) | exact RV.cell rfl rfl | exact RV.cell1 rfl) (by first | exact RV.tmp rfl | exact RV.cell rfl (eP_len _) | exact RV.cell rfl rfl | exact RV.cell1 rfl) (by first | exact RV.tmp rfl | exact RV.cell rfl (eP_len _) | exact RV.cell rfl rfl | exact RV.cell1 rfl)) ⟨Ms.zero, none, 0, [], rfl, rfl, rfl, rfl⟩ (by repeat (first | exact Takes.nil | apply Takes.dup rfl | apply Takes.cons | exact Take1.here | apply Take1.there)) (by repeat (first | exact Subs.refl | refine Subs.skip ?_))
end msg
end Go.Proofs.Ythplilldkdehnaa
