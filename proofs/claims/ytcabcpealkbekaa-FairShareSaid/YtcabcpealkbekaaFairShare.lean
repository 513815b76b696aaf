/-
  CONTRACT of packthreadkeep.FairShare: it returns true. By the kit.
-/
import Derived.Test.YtcabcpealkbekaaFairS
import Derived.Test.YtcabcpealkbekaaFairAll
namespace Go.Proofs.Ytcabcpealkbekaa
open Go.RowKit
attribute [local irreducible] Ex G GC GE Gq FPost LPost
set_option linter.unusedVariables false
set_option linter.unusedSimpArgs false

namespace fair
theorem mul_bd (x y A B : Int) (h1 : 0 ≤ x) (h2 : x ≤ A) (h3 : 0 ≤ y) (h4 : y ≤ B) : 0 ≤ x * y ∧ x * y ≤ A * B := ⟨Int.mul_nonneg h1 h3, Int.mul_le_mul h2 h4 h3 (by omega)⟩
theorem getD_len {α : Type} [Inhabited α] {P : α → Prop} {l : List α} (h : ∀ x ∈ l, P x) {k : Nat} (hk : k < l.length) : P (l.getD k default) := by
  rw [List.getD_eq_getElem?_getD, List.getElem?_eq_getElem hk]; exact h _ (List.getElem_mem hk)
set_option maxHeartbeats 4000000 in
set_option maxRecDepth 100000 in
theorem fairShare_sp (a0 : Option Addr) (len0 cap0 : Nat) (z0 : List Int) (hl0 : z0.length = len0) (hb0 : len0 ≤ 9223372036854775807) (hw0 : ∀ z ∈ z0, -9223372036854775808 ≤ z ∧ z ≤ 9223372036854775807) (a1 : Option Addr) (len1 cap1 : Nat) (z1 : List Int) (hl1 : z1.length = len1) (hb1 : len1 ≤ 9223372036854775807) (hw1 : ∀ z ∈ z1, -9223372036854775808 ≤ z ∧ z ≤ 9223372036854775807) (a2 : Int) (ha2 : -9223372036854775808 ≤ a2 ∧ a2 ≤ 9223372036854775807) :
    Spec Try.prog 8 [.slice a0 len0 cap0, .slice a1 len1 cap1, .int .i64 a2] [.sl a0 len0 cap0 1 (flat (eI .i64) z0), .sl a1 len1 cap1 1 (flat (eI .i64) z1)] fun v give => v = .bool true ∧ give = [] := by
  refine Spec.intro Try.func8 rfl Try.ntmps8 rfl fun w0 rest rs_ hrs_ => ?_
  simp only [List.cons_append, List.nil_append] at hrs_
  subst hrs_
  repeat (first | (apply G.ex (hd := rfl); case h => (first | exact Ex.move rfl | exact Ex.assign rfl)) | refine G.nil ?_ | refine GC.seq ?_ | refine GC.region ?_ | refine GE.then_normal ?_)
  first | refine G.call (caps := []) (quanta_sp a0 len0 cap0 z0 hl0 (by omega) hw0) rfl rfl rfl rfl (by repeat (first | exact Takes.nil | apply Takes.dup rfl | apply Takes.cons | exact Take1.here | apply Take1.there)) ?_ | refine G.callU (caps := []) (quanta_sp a0 len0 cap0 z0 hl0 (by omega) hw0) rfl rfl rfl (by repeat (first | exact Takes.nil | apply Takes.dup rfl | apply Takes.cons | exact Take1.here | apply Take1.there)) ?_
  rintro v_ give_ ⟨qa, Q, rfl, hQl, hQ, rfl⟩ rs_ hrs_
  simp only [List.cons_append, List.nil_append] at hrs_
  subst hrs_
  have hQ1 : ∀ k, k < 3 → 1 ≤ Q.getD k default ∧ Q.getD k default ≤ 200 := fun k hk => getD_len hQ (by omega)
  first | refine G.nilvec 57 2 ?_ | refine GC.nilvec 57 2 ?_
  repeat (first | (apply G.ex (hd := rfl); case h => (first | exact Ex.assign rfl)) | refine G.nil ?_ | refine GC.seq ?_ | refine GC.region ?_ | refine GC.block ?_ | refine GE.then_normal ?_)
  refine GC.loop (ι := Nat × Option Addr × Nat) (fun x => x.1 ≤ 39) (fun x => 39 - x.1) (fun x => [(1, .slice a1 len1 cap1), (2, .int .i64 a2), (7, .slice qa 3 3), (8, .slice x.2.1 (3 * x.1) x.2.2), (9, .int .i64 (mst z1 (3 * x.1))), (10, .int .i64 (x.1 : Int))]) (fun x => [.vec 57 2 x.2.1 (3 * x.1) x.2.2 (flat eFd (shA z1 (3 * x.1))), .vec 3 1 qa 3 3 (flat (eI .i64) Q), .sl a1 len1 cap1 1 (flat (eI .i64) z1)]) (0, none, 0) (Nat.zero_le _) (by simp only [fits]; repeat (first | exact trivial | refine And.intro rfl ?_)) (by repeat (first | exact Takes.nil | apply Takes.dup rfl | apply Takes.cons | exact Take1.here | apply Take1.there)) ?_
  · rintro ⟨i, fa, fc⟩ hi fr_ rs_ hfr_ hrs_
    simp only [List.cons_append, List.nil_append] at hfr_ hrs_
    subst hfr_ hrs_
    simp only at hi
    repeat (first | (apply G.ex (hd := rfl); case h => (first | exact Ex.move rfl | exact Ex.lss rfl rfl)) | refine G.nil ?_ | refine GC.seq ?_ | refine GC.region ?_ | refine GE.then_normal ?_)
    refine GC.cond_dec rfl (fun hlt => ?_) (fun hlt => ?_)
    · have hlt : i < 39 := by omega
      repeat (first | (apply G.ex (hd := rfl); case h => (first | exact Ex.assign rfl)) | refine G.nil ?_ | refine GC.seq ?_ | refine GC.region ?_ | refine GC.block ?_ | refine GC.skip ?_ | refine GE.then_normal ?_)
      refine GC.loop (ι := Nat × Option Addr × Nat) (fun x => x.1 ≤ 3) (fun x => 3 - x.1) (fun x => [(1, .slice a1 len1 cap1), (2, .int .i64 a2), (7, .slice qa 3 3), (8, .slice x.2.1 (3 * i + x.1) x.2.2), (9, .int .i64 (mst z1 (3 * i + x.1))), (10, .int .i64 (i : Int)), (11, .int .i64 (x.1 : Int))]) (fun x => [.vec 57 2 x.2.1 (3 * i + x.1) x.2.2 (flat eFd (shA z1 (3 * i + x.1))), .vec 3 1 qa 3 3 (flat (eI .i64) Q), .sl a1 len1 cap1 1 (flat (eI .i64) z1)]) (0, fa, fc) (Nat.zero_le _) (by simp only [fits]; repeat (first | exact trivial | refine And.intro rfl ?_)) (by repeat (first | exact Takes.nil | apply Takes.dup rfl | apply Takes.cons | exact Take1.here | apply Take1.there)) ?_
      · rintro ⟨f, ga, gc⟩ hf fr_ rs_ hfr_ hrs_
        simp only [List.cons_append, List.nil_append] at hfr_ hrs_
        subst hfr_ hrs_
        simp only at hf
        have hms := mst_ok z1 (3 * i + f)
        have hsz := szs_ok z1 (3 * i + f)
        repeat (first | (apply G.ex (hd := rfl); case h => (first | exact Ex.move rfl | exact Ex.lss rfl rfl)) | refine G.nil ?_ | refine GC.seq ?_ | refine GC.region ?_ | refine GE.then_normal ?_)
        refine GC.cond_dec rfl (fun hltf => ?_) (fun hltf => ?_)
        · have hltf : f < 3 := by omega
          have hcast : 3 * (i : Int) + (f : Int) = ((3 * i + f : Nat) : Int) := by omega
          repeat (first | (apply G.ex (hd := rfl); case h => (first | exact Ex.move rfl | exact Ex.add rfl rfl (by omega) | exact Ex.lss rfl rfl | exact Ex.lenSl rfl | exact Ex.assign rfl | exact Ex.mul rfl rfl (by omega))) | refine G.nil ?_ | refine GC.seq ?_ | refine GC.region ?_ | refine GC.block ?_ | refine GC.skip ?_ | refine GE.then_normal ?_)
          rw [hcast]
          refine GC.meet (ι := Unit) (fun _ => True) (fun _ => [(1, .slice a1 len1 cap1), (2, .int .i64 a2), (7, .slice qa 3 3), (8, .slice ga (3 * i + f) gc), (9, .int .i64 (mst z1 (3 * i + f))), (10, .int .i64 (i : Int)), (11, .int .i64 (f : Int)), (12, .int .i64 (szs z1 (3 * i + f)))]) (fun _ => [.vec 57 2 ga (3 * i + f) gc (flat eFd (shA z1 (3 * i + f))), .vec 3 1 qa 3 3 (flat (eI .i64) Q), .sl a1 len1 cap1 1 (flat (eI .i64) z1)]) (.sl a1 len1 cap1 1 (flat (eI .i64) z1) :: .sl a0 len0 cap0 1 (flat (eI .i64) z0) :: .sl a0 len0 cap0 1 (flat (eI .i64) z0) :: .sl a1 len1 cap1 1 (flat (eI .i64) z1) :: rest) ?_ ?_
          · by_cases h4 : 3 * i + f < len1
            · have hs : szs z1 (3 * i + f) = 1 + z1.getD (3 * i + f) default % 150 := by unfold szs; rw [if_pos (by omega)]
              repeat (first | (apply G.ex (hd := rfl); case h => (first | exact Ex.move rfl | exact Ex.add rfl rfl (by omega) | exact Ex.indexN rfl rfl (by first | omega | (simp; done) | (simp; omega)) | exact Ex.loadT0 rfl (by first | omega | (simp; done) | (simp; omega)) rfl | exact Ex.mul rfl rfl (by omega))) | refine GC.region ?_ | refine GC.cond_yes rfl (by first | assumption | omega) ?_)
              rw [hcast]
              repeat (first | fail)
              first | refine G.call (caps := []) (picked_sp (z1.getD (3 * i + f) default) 150 (by omega) (by omega)) rfl rfl rfl rfl (by repeat (first | exact Takes.nil | apply Takes.dup rfl | apply Takes.cons | exact Take1.here | apply Take1.there)) ?_ | refine G.callU (caps := []) (picked_sp (z1.getD (3 * i + f) default) 150 (by omega) (by omega)) rfl rfl rfl (by repeat (first | exact Takes.nil | apply Takes.dup rfl | apply Takes.cons | exact Take1.here | apply Take1.there)) ?_
              rintro v_ give_ ⟨rfl, rfl⟩ rs_ hrs_
              simp only [List.cons_append, List.nil_append] at hrs_
              subst hrs_
              repeat (first | (apply G.ex (hd := rfl); case h => (first | exact Ex.add rfl rfl (by omega) | exact Ex.assign rfl)) | refine G.nil ?_)
              rw [← hs]
              refine GE.meet () trivial (by simp only [fits]; repeat (first | exact trivial | refine And.intro rfl ?_)) (by repeat (first | exact Takes.nil | apply Takes.dup rfl | apply Takes.cons | exact Take1.here | apply Take1.there)) (by repeat (first | exact Subs.refl | refine Subs.skip ?_))
            · have hs : szs z1 (3 * i + f) = 40 := by unfold szs; rw [if_neg (by omega)]
              repeat (first | refine GC.skip ?_ | refine GC.cond_no rfl (by first | assumption | omega) ?_)
              rw [← hs]
              refine GE.meet () trivial (by simp only [fits]; repeat (first | exact trivial | refine And.intro rfl ?_)) (by repeat (first | exact Takes.nil | apply Takes.dup rfl | apply Takes.cons | exact Take1.here | apply Take1.there)) (by repeat (first | exact Subs.refl | refine Subs.skip ?_))
          · rintro _ _ fr_ rs_ hfr_ hrs_
            simp only [List.cons_append, List.nil_append] at hfr_ hrs_
            subst hfr_ hrs_
            have hmx : max (mst z1 (3 * i + f)) (szs z1 (3 * i + f)) = mst z1 (3 * i + (f + 1)) := rfl
            have hsh : shf z1 (3 * i + f) = (f, szs z1 (3 * i + f)) := by unfold shf; rw [show (3 * i + f) % 3 = f by omega]
            have hcat : flat eFd (shA z1 (3 * i + f)) ++ flat eFd [((f : Nat), szs z1 (3 * i + f))] = flat eFd (shA z1 (3 * i + (f + 1))) := by rw [← flat_append, ← hsh, shA_snoc]; rfl
            repeat (first | (apply G.ex (hd := rfl); case h => (first | exact Ex.move rfl | exact Ex.assign rfl | exact Ex.max rfl rfl | exact Ex.build rfl rfl)) | refine G.nil ?_ | refine GC.seq ?_ | refine GC.region ?_ | refine GE.then_normal ?_)
            refine G.lit rfl (by rfl) (by rfl) (by rfl) (by rfl) (by rfl) (by rfl) rfl (fun y => ?_)
            repeat (first | fail)
            refine G.app rfl rfl (by rfl) (by omega) rfl (hcat) (fun o2 c2 rs_ hrs_ => ?_)
            try simp only at hrs_
            subst hrs_
            repeat (first | (apply G.ex (hd := rfl); case h => (first | exact Ex.move rfl | exact Ex.add rfl rfl (by omega) | exact Ex.assign rfl)) | refine G.nil ?_ | refine GC.region ?_ | refine GE.then_normal ?_ | refine GE.block_normal ?_)
            rw [hmx]
            refine GE.loop (f + 1, o2, c2) (by simp only; omega) (by simp only; omega) (by simp only [fits]; repeat (first | exact trivial | refine And.intro rfl ?_)) (by repeat (first | exact Takes.nil | apply Takes.dup rfl | apply Takes.cons | exact Take1.here | apply Take1.there)) (by repeat (first | exact Subs.refl | refine Subs.skip ?_))
        · have hf3 : f = 3 := by omega
          subst hf3
          repeat (first | (apply G.ex (hd := rfl); case h => (first | exact Ex.move rfl | exact Ex.add rfl rfl (by omega) | exact Ex.assign rfl)) | refine G.nil ?_ | refine GC.region ?_ | refine GC.exit ?_ | refine GE.then_normal ?_ | refine GE.then_exit ?_ | refine GE.block_normal ?_ | refine GE.block_hit ?_)
          refine GE.loop (i + 1, ga, gc) (by simp only; omega) (by simp only; omega) (by simp only [fits]; repeat (first | exact trivial | refine And.intro rfl ?_)) (by repeat (first | exact Takes.nil | apply Takes.dup rfl | apply Takes.cons | exact Take1.here | apply Take1.there)) (by repeat (first | exact Subs.refl | refine Subs.skip ?_))
    · have hi39 : i = 39 := by omega
      subst hi39
      obtain ⟨m, hm⟩ : ∃ m, m = mst z1 (3 * 39) := ⟨_, rfl⟩
      have hmo := mst_ok z1 (3 * 39)
      rw [← hm] at hmo ⊢
      have hr := Int.emod_nonneg a2 (show (100 : Int) ≠ 0 by decide)
      have hr2 := Int.emod_lt_of_pos a2 (show (0 : Int) < 100 by decide)
      obtain ⟨n, hn⟩ : ∃ n : Nat, a2 % 100 = (n : Int) := ⟨(a2 % 100).toNat, by omega⟩
      repeat (first | (apply G.ex (hd := rfl); case h => (first | exact Ex.move rfl)) | refine GC.seq ?_ | refine GC.region ?_ | refine GC.exit ?_ | refine GE.then_normal ?_ | refine GE.then_exit ?_ | refine GE.block_hit ?_)
      first | refine G.call (caps := []) (picked_sp a2 100 (by omega) (by omega)) rfl rfl rfl rfl (by repeat (first | exact Takes.nil | apply Takes.dup rfl | apply Takes.cons | exact Take1.here | apply Take1.there)) ?_ | refine G.callU (caps := []) (picked_sp a2 100 (by omega) (by omega)) rfl rfl rfl (by repeat (first | exact Takes.nil | apply Takes.dup rfl | apply Takes.cons | exact Take1.here | apply Take1.there)) ?_
      rintro v_ give_ ⟨rfl, rfl⟩ rs_ hrs_
      simp only [List.cons_append, List.nil_append] at hrs_
      subst hrs_
      rw [hn]
      repeat (first | (apply G.ex (hd := rfl); case h => (first | exact Ex.assign rfl)) | refine G.nil ?_ | refine GC.seq ?_ | refine GC.region ?_ | refine GC.block ?_ | refine GE.then_normal ?_)
      rw [show flat eFd (shA z1 (3 * 39)) = flat eFd (shA z1 117 ++ List.replicate 0 ((0 : Nat), (0 : Int))) by rw [List.replicate_zero, List.append_nil]]
      refine GC.loop (ι := Nat × Option Addr × Nat) (fun x => x.1 ≤ n) (fun x => n - x.1) (fun x => [(7, .slice qa 3 3), (8, .slice x.2.1 (117 + x.1) x.2.2), (9, .int .i64 m), (13, .int .i64 (n : Int)), (14, .int .i64 (x.1 : Int))]) (fun x => [.vec 57 2 x.2.1 (117 + x.1) x.2.2 (flat eFd (shA z1 117 ++ List.replicate x.1 (0, 0))), .vec 3 1 qa 3 3 (flat (eI .i64) Q)]) (0, fa, fc) (Nat.zero_le _) (by simp only [fits]; repeat (first | exact trivial | refine And.intro rfl ?_)) (by repeat (first | exact Takes.nil | apply Takes.dup rfl | apply Takes.cons | exact Take1.here | apply Take1.there)) ?_
      · rintro ⟨k, ga, gc⟩ hk fr_ rs_ hfr_ hrs_
        simp only [List.cons_append, List.nil_append] at hfr_ hrs_
        subst hfr_ hrs_
        simp only at hk
        repeat (first | (apply G.ex (hd := rfl); case h => (first | exact Ex.move rfl | exact Ex.lss rfl rfl)) | refine G.nil ?_ | refine GC.seq ?_ | refine GC.region ?_ | refine GE.then_normal ?_)
        refine GC.cond_dec rfl (fun hltk => ?_) (fun hltk => ?_)
        · have hltk : k < n := by omega
          have hcat : flat eFd (shA z1 117 ++ List.replicate k ((0 : Nat), (0 : Int))) ++ flat eFd [((0 : Nat), (0 : Int))] = flat eFd (shA z1 117 ++ List.replicate (k + 1) (0, 0)) := by rw [← flat_append, List.append_assoc, ← List.replicate_succ']
          repeat (first | (apply G.ex (hd := rfl); case h => (first | exact Ex.move rfl | exact Ex.build rfl rfl)) | refine GC.seq ?_ | refine GC.region ?_ | refine GC.block ?_ | refine GC.skip ?_ | refine GE.then_normal ?_)
          refine G.lit rfl (by rfl) (by rfl) (by rfl) (by rfl) (by rfl) (by rfl) rfl (fun y => ?_)
          repeat (first | fail)
          refine G.app rfl rfl (by rfl) (by omega) rfl (hcat) (fun o2 c2 rs_ hrs_ => ?_)
          try simp only at hrs_
          subst hrs_
          repeat (first | (apply G.ex (hd := rfl); case h => (first | exact Ex.move rfl | exact Ex.add rfl rfl (by omega) | exact Ex.assign rfl)) | refine G.nil ?_ | refine GC.region ?_ | refine GE.then_normal ?_ | refine GE.block_normal ?_)
          refine GE.loop (k + 1, o2, c2) (by simp only; omega) (by simp only; omega) (by simp only [fits]; repeat (first | exact trivial | refine And.intro rfl ?_)) (by repeat (first | exact Takes.nil | apply Takes.dup rfl | apply Takes.cons | exact Take1.here | apply Take1.there)) (by repeat (first | exact Subs.refl | refine Subs.skip ?_))
        · have hkn : k = n := by omega
          subst hkn
          obtain ⟨F, hF⟩ : ∃ F, F = shA z1 117 ++ List.replicate k ((0 : Nat), (0 : Int)) := ⟨_, rfl⟩
          obtain ⟨M, hM⟩ : ∃ M, M = 117 + k := ⟨_, rfl⟩
          rw [← hF, ← hM]
          have hFl : F.length = M := by rw [hF, hM, List.length_append, List.length_replicate, shA_len]
          have hFo : ∀ f ∈ F, f.1 < 3 ∧ 0 ≤ f.2 ∧ f.2 ≤ 150 := fun f hf => by
            rw [hF] at hf
            rcases List.mem_append.1 hf with hf | hf
            · obtain ⟨t, _, rfl⟩ := List.mem_map.1 hf
              have := szs_ok z1 t
              simp only [shf]; omega
            · have := List.eq_of_mem_replicate hf; subst this; simp
          repeat (first | (apply G.ex (hd := rfl); case h => (first | exact Ex.move rfl)) | refine GC.seq ?_ | refine GC.region ?_ | refine GC.exit ?_ | refine GE.then_normal ?_ | refine GE.then_exit ?_ | refine GE.block_hit ?_)
          first | refine G.call (caps := []) (lined_sp (.vec 3 1 qa 3 3 (flat (eI .i64) Q)) qa 3 3 Q inferInstance hQl (by decide) (by decide) (fun q hq => by have := hQ q hq; omega) (.vec 57 2 ga M gc (flat eFd F)) ga M gc F inferInstance hFl (by omega) (fun f hf => by have := hFo f hf; omega)) rfl rfl rfl rfl (by repeat (first | exact Takes.nil | apply Takes.dup rfl | apply Takes.cons | exact Take1.here | apply Take1.there)) ?_ | refine G.callU (caps := []) (lined_sp (.vec 3 1 qa 3 3 (flat (eI .i64) Q)) qa 3 3 Q inferInstance hQl (by decide) (by decide) (fun q hq => by have := hQ q hq; omega) (.vec 57 2 ga M gc (flat eFd F)) ga M gc F inferInstance hFl (by omega) (fun f hf => by have := hFo f hf; omega)) rfl rfl rfl (by repeat (first | exact Takes.nil | apply Takes.dup rfl | apply Takes.cons | exact Take1.here | apply Take1.there)) ?_
          rintro v_ give_ ⟨oa, oc, os, s, hp, hos, rfl, rfl⟩ rs_ hrs_
          simp only [List.cons_append, List.nil_append] at hrs_
          subst hrs_
          have hw3 : Wf (fresh Q) := fresh_wf (by omega) (fun q hq => by have := hQ q hq; omega)
          have hl3 : (fresh Q).1.length = 3 := by simp [fresh, hQl]
          obtain ⟨s1, p1, p2⟩ : ∃ s1, Plays (fresh Q) (shA z1 117) (os.take 117) s1 ∧ Plays s1 (F.drop 117) (os.drop 117) s := by
            have hp' := hp
            rw [hF] at hp'
            obtain ⟨s1, p1, p2⟩ := hp'.split
            rw [shA_len] at p1 p2
            refine ⟨s1, p1, ?_⟩
            rw [hF, List.drop_left' (shA_len z1 117)]; exact p2
          obtain ⟨x1, x2, _⟩ := plays_cnt p1 hw3 hl3 (fun f hf => by have := hFo f (by rw [hF]; exact List.mem_append_left _ hf); omega)
          have hfill : Fill Q m 117 s1 := by
            have := Fill.all (Q := Q) (m := m) p1 0 (fill0 Q m hQl) (by rw [shA_len]; omega) (fun t ht => by
              rw [shA_len] at ht
              rw [shA_at z1 ht]
              exact ⟨by simp [shf], (szs_ok z1 t).1, hmo.2.2 t (by omega)⟩)
            rw [shA_len] at this
            exact this
          have hS0 := hfill.shr hmo.1 (fun k hk => (hQ1 k hk).1)
          repeat (first | (apply G.ex (hd := rfl); case h => (first | exact Ex.move rfl | exact Ex.extract rfl rfl | exact Ex.assign rfl | exact Ex.notB rfl)) | refine G.nil ?_ | refine GC.seq ?_ | refine GC.region ?_ | refine GC.skip ?_ | refine GE.then_normal ?_ | refine GC.cond_f rfl ?_)
          refine G.make (m := 3) rfl rfl (by omega) rfl rfl (fun sa => ?_)
          change @G _ _ _ _ _ _ _ (.vec _ 1 _ 3 3 (flat (eI .i64) ([0, 0, 0] : List Int)) :: _)
          repeat (first | (apply G.ex (hd := rfl); case h => (first | exact Ex.assign rfl)) | refine G.nil ?_ | refine GC.seq ?_ | refine GC.region ?_ | refine GE.then_normal ?_)
          refine G.make (m := 3) rfl rfl (by omega) rfl rfl (fun ka => ?_)
          change @G _ _ _ _ _ _ _ (.vec _ 1 _ 3 3 (flat (eI .i64) ([0, 0, 0] : List Int)) :: _)
          repeat (first | (apply G.ex (hd := rfl); case h => (first | exact Ex.assign rfl)) | refine G.nil ?_ | refine GC.seq ?_ | refine GC.region ?_ | refine GC.block ?_ | refine GE.then_normal ?_)
          have hc0 : ∀ k, k < 3 → ([0, 0, 0] : List Int).getD k default + (at_ s1.1 k).w.length = 39 ∧ 0 ≤ ([0, 0, 0] : List Int).getD k default ∧ ([0, 0, 0] : List Int).getD k default ≤ 38 ∧ 0 ≤ ([0, 0, 0] : List Int).getD k default ∧ ([0, 0, 0] : List Int).getD k default ≤ 150 * ([0, 0, 0] : List Int).getD k default := fun k hk => by
            obtain ⟨a, _⟩ := hfill.fl k hk
            rw [a]
            match k, hk with
            | 0, _ => exact ⟨rfl, by decide, by decide, by decide, by decide⟩
            | 1, _ => exact ⟨rfl, by decide, by decide, by decide, by decide⟩
            | 2, _ => exact ⟨rfl, by decide, by decide, by decide, by decide⟩
          refine GC.loop (ι := Nat × List Int × List Int × St) (fun x => 117 ≤ x.1 ∧ x.1 ≤ M ∧ Shr Q m x.2.1 x.2.2.2 ∧ Wf x.2.2.2 ∧ Plays x.2.2.2 (F.drop x.1) (os.drop x.1) s ∧ x.2.2.1.length = 3 ∧ ∀ k, k < 3 → x.2.2.1.getD k default + (at_ x.2.2.2.1 k).w.length = 39 ∧ 0 ≤ x.2.2.1.getD k default ∧ x.2.2.1.getD k default ≤ 38 ∧ 0 ≤ x.2.1.getD k default ∧ x.2.1.getD k default ≤ 150 * x.2.2.1.getD k default) (fun x => M - x.1) (fun x => [(7, .slice qa 3 3), (9, .int .i64 m), (15, .slice oa M oc), (17, .slice sa 3 3), (18, .slice ka 3 3), (19, .int .i64 (x.1 : Int))]) (fun x => [.vec 3 1 sa 3 3 (flat (eI .i64) x.2.1), .vec 3 1 ka 3 3 (flat (eI .i64) x.2.2.1), .vec 59 3 oa M oc (flat eO os), .vec 3 1 qa 3 3 (flat (eI .i64) Q)]) (117, [0, 0, 0], [0, 0, 0], s1) ⟨Nat.le_refl _, by simp only; omega, hS0, x1, p2, rfl, hc0⟩ (by simp only [fits]; repeat (first | exact trivial | refine And.intro rfl ?_)) (by repeat (first | exact Takes.nil | apply Takes.dup rfl | apply Takes.cons | exact Take1.here | apply Take1.there)) ?_
          · rintro ⟨i, S, K, st⟩ ⟨hi1_, hi_, hS_, hw_, hp_, hK_, hc_⟩ fr_ rs_ hfr_ hrs_
            simp only [List.cons_append, List.nil_append] at hfr_ hrs_
            subst hfr_ hrs_
            obtain ⟨hi1, hi, hS, hw, hpl, hK, hc⟩ : 117 ≤ i ∧ i ≤ M ∧ Shr Q m S st ∧ Wf st ∧ Plays st (F.drop i) (os.drop i) s ∧ K.length = 3 ∧ ∀ k, k < 3 → K.getD k default + (at_ st.1 k).w.length = 39 ∧ 0 ≤ K.getD k default ∧ K.getD k default ≤ 38 ∧ 0 ≤ S.getD k default ∧ S.getD k default ≤ 150 * K.getD k default := ⟨hi1_, hi_, hS_, hw_, hp_, hK_, hc_⟩
            clear hi1_ hi_ hS_ hw_ hp_ hK_ hc_
            have hS3 := hS.1
            have hl := hS.2.1
            have hne : ∀ k, k < 3 → (at_ st.1 k).w ≠ [] := fun k hk e => by
              have := hc k hk
              rw [e] at this
              simp only [List.length_nil] at this; omega
            repeat (first | (apply G.ex (hd := rfl); case h => (first | exact Ex.move rfl | exact Ex.lss rfl rfl | exact Ex.lenSl rfl)) | refine G.nil ?_ | refine GC.seq ?_ | refine GC.region ?_ | refine GE.then_normal ?_)
            refine GC.cond_dec rfl (fun hlti => ?_) (fun hlti => ?_)
            · have hlti : i < M := by omega
              obtain ⟨hio, s2, hst, hp1⟩ := hpl.next (by omega)
              have hFi : F.getD i default = (0, 0) := by
                rw [hF, List.getD_eq_getElem?_getD, List.getElem?_append_right (by rw [shA_len]; omega), shA_len, List.getElem?_replicate, if_pos (by omega)]; rfl
              rw [hFi] at hst
              obtain ⟨hw1', hl1'⟩ := step_wf hst hw (by simp only; omega) (by simp)
              generalize hO : os.getD i default = O at hst
              cases hst with
              | comes j z hz => omega
              | none j z hz hT =>
                obtain ⟨_, _, r, x, y, z, ht, _⟩ := hS
                rw [hT] at ht; cases ht
              | sends _ j z o hz hSs =>
                have O1 : (os.getD i default).1 = 0 := by rw [hO]
                have O2 : (os.getD i default).2 = o := by rw [hO]
                clear hO
                obtain rfl := O2
                obtain ⟨b1, b2, b3, b4, b5, b6⟩ := sends_w hSs hw
                have ho : (os.getD i default).2.1 < 3 := by omega
                have hn0 : ¬ ((os.getD i default).2.1 : Int) < 0 := by omega
                have hn2 : ¬ (2 : Int) < ((os.getD i default).2.1 : Int) := by omega
                have hno : ¬ ¬ (os.getD i default).1 = 0 := fun k => k O1
                have hlen := congrArg List.length b4
                simp only [List.length_cons] at hlen
                obtain ⟨c1, c2, c3, c4, c5⟩ := hc _ ho
                have hsz : 1 ≤ (os.getD i default).2.2 ∧ (os.getD i default).2.2 ≤ m := by
                  obtain ⟨_, _, r, x, y, z, ht, _, hk, _⟩ := hS
                  exact (hk _ ho).2 _ (by rw [b4]; simp)
                repeat (first | (apply G.ex (hd := rfl); case h => (first | exact Ex.move rfl | exact Ex.fieldE rfl | exact Ex.lss rfl rfl | exact Ex.gtr rfl rfl | exact Ex.neI rfl rfl | exact Ex.indexN rfl rfl (by first | omega | (simp; done) | (simp; omega)) | exact Ex.loadT0 rfl (by first | omega | (simp; done) | (simp; omega)) rfl | exact Ex.loadT rfl (by first | omega | (simp; done) | (simp; omega)) rfl | exact Ex.pickF rfl (by first | assumption | omega) rfl)) | refine G.g_ff rfl rfl (by first | assumption | omega) ?_ | refine G.nil ?_ | refine GC.seq ?_ | refine GC.region ?_ | refine GC.block ?_ | refine GC.skip ?_ | refine GE.then_normal ?_ | refine GC.cond_no rfl (by first | assumption | omega) ?_)
                refine GC.drawA [15] [.vec 3 1 sa 3 3 (flat (eI .i64) S), .vec 59 3 oa M oc (flat eO os)] (by repeat (first | exact Takes.nil | apply Takes.dup rfl | apply Takes.cons | exact Take1.here | apply Take1.there)) (by kernel_rfl) ?_
                first | (apply GA.take [] (hD := .inl rfl) (hsub := ⟨_, Takes.nil⟩) (i := 0) (hi := rfl) (hs := by kernel_rfl) (hfr := by kernel_rfl) (hr := by kernel_rfl) (hQ := (by repeat (first | exact NoPanic.fpost | apply NoPanic.then_ | apply NoPanic.block))) (hd := rfl); case hx => (first | exact Ex.move rfl))
                first | (apply GA.take [] (hD := .inl rfl) (hsub := ⟨_, Takes.nil⟩) (i := 1) (hi := rfl) (hs := by kernel_rfl) (hfr := by kernel_rfl) (hr := by kernel_rfl) (hQ := (by repeat (first | exact NoPanic.fpost | apply NoPanic.then_ | apply NoPanic.block))) (hd := rfl); case hx => (first | exact Ex.move rfl))
                first | (apply GA.take [] (hD := .inl rfl) (hsub := ⟨_, Takes.nil⟩) (i := 2) (hi := rfl) (hs := by kernel_rfl) (hfr := by kernel_rfl) (hr := by kernel_rfl) (hQ := (by repeat (first | exact NoPanic.fpost | apply NoPanic.then_ | apply NoPanic.block))) (hd := rfl); case hx => (first | exact Ex.move rfl))
                first | (apply GA.take _ (hD := .inr ⟨rfl, by kernel_rfl⟩) (hsub := ⟨_, (by repeat (first | exact Takes.nil | apply Takes.dup rfl | apply Takes.cons | exact Take1.here | apply Take1.there))⟩) (i := 3) (hi := rfl) (hs := by kernel_rfl) (hfr := by kernel_rfl) (hr := by kernel_rfl) (hQ := (by repeat (first | exact NoPanic.fpost | apply NoPanic.then_ | apply NoPanic.block))) (hd := rfl); case hx => (first | exact Ex.indexN rfl rfl (by first | omega | (simp; done) | (simp; omega))))
                first | (apply GA.take [] (hD := .inl rfl) (hsub := ⟨_, Takes.nil⟩) (i := 4) (hi := rfl) (hs := by kernel_rfl) (hfr := by kernel_rfl) (hr := by kernel_rfl) (hQ := (by repeat (first | exact NoPanic.fpost | apply NoPanic.then_ | apply NoPanic.block))) (hd := rfl); case hx => (first | exact Ex.fieldE rfl))
                first | (apply GA.take _ (hD := .inr ⟨rfl, by kernel_rfl⟩) (hsub := ⟨_, (by repeat (first | exact Takes.nil | apply Takes.dup rfl | apply Takes.cons | exact Take1.here | apply Take1.there))⟩) (i := 5) (hi := rfl) (hs := by kernel_rfl) (hfr := by kernel_rfl) (hr := by kernel_rfl) (hQ := (by repeat (first | exact NoPanic.fpost | apply NoPanic.then_ | apply NoPanic.block))) (hd := rfl); case hx => (first | exact Ex.loadT rfl (by first | omega | (simp; done) | (simp; omega)) rfl))
                first | (apply GA.take _ (hD := .inr ⟨rfl, by kernel_rfl⟩) (hsub := ⟨_, (by repeat (first | exact Takes.nil | apply Takes.dup rfl | apply Takes.cons | exact Take1.here | apply Take1.there))⟩) (i := 6) (hi := rfl) (hs := by kernel_rfl) (hfr := by kernel_rfl) (hr := by kernel_rfl) (hQ := (by repeat (first | exact NoPanic.fpost | apply NoPanic.then_ | apply NoPanic.block))) (hd := rfl); case hx => (first | exact Ex.indexN rfl rfl (by first | omega | (simp; done) | (simp; omega))))
                first | (apply GA.take _ (hD := .inr ⟨rfl, by kernel_rfl⟩) (hsub := ⟨_, (by repeat (first | exact Takes.nil | apply Takes.dup rfl | apply Takes.cons | exact Take1.here | apply Take1.there))⟩) (i := 7) (hi := rfl) (hs := by kernel_rfl) (hfr := by kernel_rfl) (hr := by kernel_rfl) (hQ := (by repeat (first | exact NoPanic.fpost | apply NoPanic.then_ | apply NoPanic.block))) (hd := rfl); case hx => (first | exact Ex.loadT0 rfl (by first | omega | (simp; done) | (simp; omega)) rfl))
                first | (apply GA.take [] (hD := .inl rfl) (hsub := ⟨_, Takes.nil⟩) (i := 8) (hi := rfl) (hs := by kernel_rfl) (hfr := by kernel_rfl) (hr := by kernel_rfl) (hQ := (by repeat (first | exact NoPanic.fpost | apply NoPanic.then_ | apply NoPanic.block))) (hd := rfl); case hx => (first | exact Ex.move rfl))
                first | (apply GA.take [] (hD := .inl rfl) (hsub := ⟨_, Takes.nil⟩) (i := 9) (hi := rfl) (hs := by kernel_rfl) (hfr := by kernel_rfl) (hr := by kernel_rfl) (hQ := (by repeat (first | exact NoPanic.fpost | apply NoPanic.then_ | apply NoPanic.block))) (hd := rfl); case hx => (first | exact Ex.move rfl))
                first | (apply GA.take _ (hD := .inr ⟨rfl, by kernel_rfl⟩) (hsub := ⟨_, (by repeat (first | exact Takes.nil | apply Takes.dup rfl | apply Takes.cons | exact Take1.here | apply Take1.there))⟩) (i := 10) (hi := rfl) (hs := by kernel_rfl) (hfr := by kernel_rfl) (hr := by kernel_rfl) (hQ := (by repeat (first | exact NoPanic.fpost | apply NoPanic.then_ | apply NoPanic.block))) (hd := rfl); case hx => (first | exact Ex.indexN rfl rfl (by first | omega | (simp; done) | (simp; omega))))
                first | (apply GA.take [] (hD := .inl rfl) (hsub := ⟨_, Takes.nil⟩) (i := 11) (hi := rfl) (hs := by kernel_rfl) (hfr := by kernel_rfl) (hr := by kernel_rfl) (hQ := (by repeat (first | exact NoPanic.fpost | apply NoPanic.then_ | apply NoPanic.block))) (hd := rfl); case hx => (first | exact Ex.fieldE rfl))
                first | (apply GA.take _ (hD := .inr ⟨rfl, by kernel_rfl⟩) (hsub := ⟨_, (by repeat (first | exact Takes.nil | apply Takes.dup rfl | apply Takes.cons | exact Take1.here | apply Take1.there))⟩) (i := 12) (hi := rfl) (hs := by kernel_rfl) (hfr := by kernel_rfl) (hr := by kernel_rfl) (hQ := (by repeat (first | exact NoPanic.fpost | apply NoPanic.then_ | apply NoPanic.block))) (hd := rfl); case hx => (first | exact Ex.loadT rfl (by first | omega | (simp; done) | (simp; omega)) rfl))
                first | (apply GA.take [] (hD := .inl rfl) (hsub := ⟨_, Takes.nil⟩) (i := 13) (hi := rfl) (hs := by kernel_rfl) (hfr := by kernel_rfl) (hr := by kernel_rfl) (hQ := (by repeat (first | exact NoPanic.fpost | apply NoPanic.then_ | apply NoPanic.block))) (hd := rfl); case hx => (first | exact Ex.add rfl rfl (by omega)))
                first | (apply GA.take _ (hD := .inr ⟨rfl, by kernel_rfl⟩) (hsub := ⟨_, (by repeat (first | exact Takes.nil | apply Takes.dup rfl | apply Takes.cons | exact Take1.here | apply Take1.there))⟩) (i := 14) (hi := rfl) (hs := by kernel_rfl) (hfr := by kernel_rfl) (hr := by kernel_rfl) (hQ := (by repeat (first | exact NoPanic.fpost | apply NoPanic.then_ | apply NoPanic.block))) (hd := rfl); case hx => (first | exact Ex.indexN rfl rfl (by first | omega | (simp; done) | (simp; omega))))
                refine GA.one (i := 15) (by kernel_rfl) rfl ?_
                first | refine G.storeT0 rfl rfl rfl rfl (by first | omega | (simp; omega)) rfl ((S.getD (os.getD i default).2.1 default + (os.getD i default).2.2)) (rfl) (fun rs_ hrs_ => ?_) | refine G.storeT rfl rfl rfl rfl (by first | omega | (simp; omega)) rfl ((S.getD (os.getD i default).2.1 default + (os.getD i default).2.2)) (rfl) (fun rs_ hrs_ => ?_) | refine G.storeTA rfl rfl (by first | omega | (simp; omega)) rfl ((S.getD (os.getD i default).2.1 default + (os.getD i default).2.2)) (rfl) (fun rs_ hrs_ => ?_)
                try simp only at hrs_
                subst hrs_
                try refine G.nil ?_
                refine GA.back (by first | exact .inl (by decide) | exact .inr ⟨_, (by repeat (first | exact Takes.nil | apply Takes.dup rfl | apply Takes.cons | exact Take1.here | apply Take1.there))⟩) ?_
                refine GA.done (by kernel_rfl) ?_
                repeat (first | (apply G.ex (hd := rfl); case h => (first | exact Ex.move rfl | exact Ex.fieldE rfl | exact Ex.add rfl rfl (by omega) | exact Ex.indexN rfl rfl (by first | omega | (simp; done) | (simp; omega)) | exact Ex.loadT0 rfl (by first | omega | (simp; done) | (simp; omega)) rfl | exact Ex.loadT rfl (by first | omega | (simp; done) | (simp; omega)) rfl)) | refine GC.seq ?_ | refine GC.region ?_ | refine GE.then_normal ?_)
                first | refine G.storeT0 rfl rfl rfl rfl (by first | omega | (simp; omega)) rfl ((K.getD (os.getD i default).2.1 default + 1)) (rfl) (fun rs_ hrs_ => ?_) | refine G.storeT rfl rfl rfl rfl (by first | omega | (simp; omega)) rfl ((K.getD (os.getD i default).2.1 default + 1)) (rfl) (fun rs_ hrs_ => ?_) | refine G.storeTA rfl rfl (by first | omega | (simp; omega)) rfl ((K.getD (os.getD i default).2.1 default + 1)) (rfl) (fun rs_ hrs_ => ?_)
                try simp only at hrs_
                subst hrs_
                have hKs : (K.set (os.getD i default).2.1 (K.getD (os.getD i default).2.1 default + 1)).length = 3 := by simpa using hK
                have hset : (K.set (os.getD i default).2.1 (K.getD (os.getD i default).2.1 default + 1)).getD (os.getD i default).2.1 default = K.getD (os.getD i default).2.1 default + 1 := by rw [getD_set' K _ _ _ (by omega), if_pos rfl]
                by_cases h39 : (K.set (os.getD i default).2.1 (K.getD (os.getD i default).2.1 default + 1)).getD (os.getD i default).2.1 default = 39
                · repeat (first | (apply G.ex (hd := rfl); case h => (first | exact Ex.move rfl | exact Ex.fieldE rfl | exact Ex.eqI rfl rfl | exact Ex.indexN rfl rfl (by first | omega | (simp; done) | (simp; omega)) | exact Ex.loadT0 rfl (by first | omega | (simp; done) | (simp; omega)) rfl | exact Ex.loadT rfl (by first | omega | (simp; done) | (simp; omega)) rfl | exact Ex.assign rfl)) | refine G.nil ?_ | refine GC.seq ?_ | refine GC.region ?_ | refine GC.ret ?_ | refine GE.then_normal ?_ | refine GE.then_ret ?_ | refine GE.block_ret ?_ | refine GC.cond_yes rfl (by first | assumption | omega) ?_)
                  refine GE.ret (by first | exact .inl rfl | exact .inr rfl) (by first | exact res0 Try.results8 | exact res1 Try.results8 rfl | exact res2 Try.results8 rfl rfl | exact resR1 Try.results8 (by first | exact RV.tmp rfl | exact RV.cell rfl rfl | exact RV.cell1 rfl) | exact resR2 Try.results8 (by first | exact RV.tmp rfl | exact RV.cell rfl rfl | exact RV.cell1 rfl) (by first | exact RV.tmp rfl | exact RV.cell rfl rfl | exact RV.cell1 rfl) | exact resR3 Try.results8 (by first | exact RV.tmp rfl | exact RV.cell rfl rfl | exact RV.cell1 rfl) (by first | exact RV.tmp rfl | exact RV.cell rfl rfl | exact RV.cell1 rfl) (by first | exact RV.tmp rfl | exact RV.cell rfl rfl | exact RV.cell1 rfl)) ⟨rfl, rfl⟩ (by repeat (first | exact Takes.nil | apply Takes.dup rfl | apply Takes.cons | exact Take1.here | apply Take1.there)) (by repeat (first | exact Subs.refl | refine Subs.skip ?_))
                · have hS' := hS.sends (fun k hk => (hQ1 k hk).1) hSs hne (fun e => by rw [e] at hlen; simp only [List.length_nil] at hlen; omega)
                  have hc1 : ∀ k, k < 3 → (K.set (os.getD i default).2.1 (K.getD (os.getD i default).2.1 default + 1)).getD k default + (at_ s2.1 k).w.length = 39 ∧ 0 ≤ (K.set (os.getD i default).2.1 (K.getD (os.getD i default).2.1 default + 1)).getD k default ∧ (K.set (os.getD i default).2.1 (K.getD (os.getD i default).2.1 default + 1)).getD k default ≤ 38 ∧ 0 ≤ (S.set (os.getD i default).2.1 (S.getD (os.getD i default).2.1 default + (os.getD i default).2.2)).getD k default ∧ (S.set (os.getD i default).2.1 (S.getD (os.getD i default).2.1 default + (os.getD i default).2.2)).getD k default ≤ 150 * (K.set (os.getD i default).2.1 (K.getD (os.getD i default).2.1 default + 1)).getD k default := fun k hk => by
                    obtain ⟨d1, d2, d3, d4, d5⟩ := hc k hk
                    rw [getD_set' K _ _ _ (by omega), getD_set' S _ _ _ (by omega)]
                    by_cases e : k = (os.getD i default).2.1
                    · subst e
                      rw [if_pos rfl, if_pos rfl]
                      omega
                    · rw [if_neg e, if_neg e, b5 k e]
                      exact ⟨d1, d2, d3, d4, d5⟩
                  repeat (first | (apply G.ex (hd := rfl); case h => (first | exact Ex.move rfl | exact Ex.fieldE rfl | exact Ex.add rfl rfl (by omega) | exact Ex.eqI rfl rfl | exact Ex.indexN rfl rfl (by first | omega | (simp; done) | (simp; omega)) | exact Ex.loadT0 rfl (by first | omega | (simp; done) | (simp; omega)) rfl | exact Ex.loadT rfl (by first | omega | (simp; done) | (simp; omega)) rfl | exact Ex.assign rfl)) | refine G.nil ?_ | refine GC.seq ?_ | refine GC.region ?_ | refine GC.skip ?_ | refine GE.then_normal ?_ | refine GE.block_normal ?_ | refine GC.cond_no rfl (by first | assumption | omega) ?_)
                  refine GE.loop (i + 1, S.set (os.getD i default).2.1 (S.getD (os.getD i default).2.1 default + (os.getD i default).2.2), K.set (os.getD i default).2.1 (K.getD (os.getD i default).2.1 default + 1), s2) ⟨by simp only; omega, by simp only; omega, hS', hw1', hp1, by simpa using hK, hc1⟩ (by simp only; omega) (by simp only [fits]; repeat (first | exact trivial | refine And.intro rfl ?_)) (by repeat (first | exact Takes.nil | apply Takes.dup rfl | apply Takes.cons | exact Take1.here | apply Take1.there)) (by repeat (first | exact Subs.refl | refine Subs.skip ?_))
            · repeat (first | (apply G.ex (hd := rfl); case h => (first | exact Ex.assign rfl)) | refine G.nil ?_ | refine GC.seq ?_ | refine GC.region ?_ | refine GC.block ?_ | refine GC.exit ?_ | refine GE.then_normal ?_ | refine GE.then_exit ?_ | refine GE.block_hit ?_)
              refine GC.loop (ι := Nat) (fun a => a ≤ 3) (fun a => 3 - a) (fun a => [(7, .slice qa 3 3), (9, .int .i64 m), (17, .slice sa 3 3), (20, .int .i64 (a : Int))]) (fun a => [.vec 3 1 sa 3 3 (flat (eI .i64) S), .vec 3 1 qa 3 3 (flat (eI .i64) Q)]) 0 (Nat.zero_le _) (by simp only [fits]; repeat (first | exact trivial | refine And.intro rfl ?_)) (by repeat (first | exact Takes.nil | apply Takes.dup rfl | apply Takes.cons | exact Take1.here | apply Take1.there)) ?_
              · rintro a ha fr_ rs_ hfr_ hrs_
                simp only [List.cons_append, List.nil_append] at hfr_ hrs_
                subst hfr_ hrs_
                repeat (first | (apply G.ex (hd := rfl); case h => (first | exact Ex.move rfl | exact Ex.lss rfl rfl)) | refine G.nil ?_ | refine GC.seq ?_ | refine GC.region ?_ | refine GE.then_normal ?_)
                refine GC.cond_dec rfl (fun hlta => ?_) (fun hlta => ?_)
                · have hlta : a < 3 := by omega
                  repeat (first | (apply G.ex (hd := rfl); case h => (first | exact Ex.assign rfl)) | refine G.nil ?_ | refine GC.seq ?_ | refine GC.region ?_ | refine GC.block ?_ | refine GC.skip ?_ | refine GE.then_normal ?_)
                  refine GC.loop (ι := Nat) (fun b => b ≤ 3) (fun b => 3 - b) (fun b => [(7, .slice qa 3 3), (9, .int .i64 m), (17, .slice sa 3 3), (20, .int .i64 (a : Int)), (21, .int .i64 (b : Int))]) (fun b => [.vec 3 1 sa 3 3 (flat (eI .i64) S), .vec 3 1 qa 3 3 (flat (eI .i64) Q)]) 0 (Nat.zero_le _) (by simp only [fits]; repeat (first | exact trivial | refine And.intro rfl ?_)) (by repeat (first | exact Takes.nil | apply Takes.dup rfl | apply Takes.cons | exact Take1.here | apply Take1.there)) ?_
                  · rintro b hb fr_ rs_ hfr_ hrs_
                    simp only [List.cons_append, List.nil_append] at hfr_ hrs_
                    subst hfr_ hrs_
                    repeat (first | (apply G.ex (hd := rfl); case h => (first | exact Ex.move rfl | exact Ex.lss rfl rfl)) | refine G.nil ?_ | refine GC.seq ?_ | refine GC.region ?_ | refine GE.then_normal ?_)
                    refine GC.cond_dec rfl (fun hltb => ?_) (fun hltb => ?_)
                    · have hltb : b < 3 := by omega
                      have hfin := hS.fair (fun k hk => (hQ1 k hk).1) hmo.1 hlta hltb
                      obtain ⟨a1, a2, a3, a4, a5⟩ := hc a hlta
                      obtain ⟨b1, b2, b3, b4, b5⟩ := hc b hltb
                      obtain ⟨qa1, qa2⟩ := hQ1 a hlta
                      obtain ⟨qb1, qb2⟩ := hQ1 b hltb
                      have m1 := mul_bd (S.getD a default) (Q.getD b default) 5700 200 a4 (by omega) (by omega) qb2
                      have m2 := mul_bd (S.getD b default) (Q.getD a default) 5700 200 b4 (by omega) (by omega) qa2
                      have m3 := mul_bd (Q.getD a default) (Q.getD b default) 200 200 (by omega) (by omega) (by omega) qb2
                      have m4 := mul_bd m (Q.getD b default) 150 200 hmo.1 (by omega) (by omega) qb2
                      have m5 := mul_bd m (Q.getD a default) 150 200 hmo.1 (by omega) (by omega) qa2
                      repeat (first | (apply G.ex (hd := rfl); case h => (first | exact Ex.move rfl | exact Ex.add rfl rfl (by omega) | exact Ex.assign rfl)) | refine G.nil ?_ | (apply Gq.ex (hd := rfl); case h => (first | exact Ex.move rfl | exact Ex.add rfl rfl (by omega) | exact Ex.sub rfl rfl (by omega) | exact Ex.gtr rfl rfl | exact Ex.indexN rfl rfl (by first | omega | (simp; done) | (simp; omega)) | exact Ex.loadT0 rfl (by first | omega | (simp; done) | (simp; omega)) rfl | exact Ex.mul rfl rfl (by omega))) | refine Gq.nil ?_ | refine GC.seq ?_ | refine GC.region ?_ | refine GC.draw (by kernel_rfl) (by kernel_rfl) ?_ | refine GC.block ?_ | refine GC.skip ?_ | refine GE.then_normal ?_ | refine GE.block_normal ?_ | refine GC.cond_no rfl (by first | assumption | omega) ?_)
                      refine GE.loop (b + 1) (by omega) (by omega) (by simp only [fits]; repeat (first | exact trivial | refine And.intro rfl ?_)) (by repeat (first | exact Takes.nil | apply Takes.dup rfl | apply Takes.cons | exact Take1.here | apply Take1.there)) (by repeat (first | exact Subs.refl | refine Subs.skip ?_))
                    · repeat (first | (apply G.ex (hd := rfl); case h => (first | exact Ex.move rfl | exact Ex.add rfl rfl (by omega) | exact Ex.assign rfl)) | refine G.nil ?_ | refine GC.region ?_ | refine GC.exit ?_ | refine GE.then_normal ?_ | refine GE.then_exit ?_ | refine GE.block_normal ?_ | refine GE.block_hit ?_)
                      refine GE.loop (a + 1) (by omega) (by omega) (by simp only [fits]; repeat (first | exact trivial | refine And.intro rfl ?_)) (by repeat (first | exact Takes.nil | apply Takes.dup rfl | apply Takes.cons | exact Take1.here | apply Take1.there)) (by repeat (first | exact Subs.refl | refine Subs.skip ?_))
                · repeat (first | (apply G.ex (hd := rfl); case h => (first | exact Ex.assign rfl)) | refine G.nil ?_ | refine GC.seq ?_ | refine GC.region ?_ | refine GC.ret ?_ | refine GC.exit ?_ | refine GE.then_normal ?_ | refine GE.then_exit ?_ | refine GE.block_hit ?_)
                  refine GE.ret (by first | exact .inl rfl | exact .inr rfl) (by first | exact res0 Try.results8 | exact res1 Try.results8 rfl | exact res2 Try.results8 rfl rfl | exact resR1 Try.results8 (by first | exact RV.tmp rfl | exact RV.cell rfl rfl | exact RV.cell1 rfl) | exact resR2 Try.results8 (by first | exact RV.tmp rfl | exact RV.cell rfl rfl | exact RV.cell1 rfl) (by first | exact RV.tmp rfl | exact RV.cell rfl rfl | exact RV.cell1 rfl) | exact resR3 Try.results8 (by first | exact RV.tmp rfl | exact RV.cell rfl rfl | exact RV.cell1 rfl) (by first | exact RV.tmp rfl | exact RV.cell rfl rfl | exact RV.cell1 rfl) (by first | exact RV.tmp rfl | exact RV.cell rfl rfl | exact RV.cell1 rfl)) ⟨rfl, rfl⟩ (by repeat (first | exact Takes.nil | apply Takes.dup rfl | apply Takes.cons | exact Take1.here | apply Take1.there)) (by repeat (first | exact Subs.refl | refine Subs.skip ?_))
end fair
end Go.Proofs.Ytcabcpealkbekaa
