/-
  CONTRACT of packthreadkeep.FairAlone: it returns true. By the kit.
-/
import Derived.Test.YtcabcpealkbekaaFairR
namespace Go.Proofs.Ytcabcpealkbekaa
open Go.RowKit
attribute [local irreducible] Ex G GC GE Gq FPost LPost
set_option linter.unusedVariables false
set_option linter.unusedSimpArgs false

namespace fair
theorem alone_send {s s1 : St} {o : Nat × Int} (h : Sends s s1 o) : ∀ f, s.2 = [f] → f < s.1.length → o = (f, (at_ s.1 f).w.getD 0 default) ∧ (at_ s1.1 f).w = (at_ s.1 f).w.tail ∧ s1.2 = (if (at_ s.1 f).w.tail = [] then [] else [f]) ∧ s1.1.length = s.1.length := by
  induction h with
  | now fs i T h =>
    intro f hf hl
    obtain ⟨rfl, rfl⟩ : i = f ∧ T = [] := by simpa using hf
    refine ⟨rfl, ?_, rfl, by simp [sent]⟩
    simp only [sent, at_set (show i < fs.length from hl), if_true]
    unfold less; split
    · rename_i e; exact e.symm
    · rfl
  | later fs i T s o h k ih =>
    intro f hf hl
    obtain ⟨rfl, rfl⟩ : i = f ∧ T = [] := by simpa using hf
    have := ih i rfl (by simpa [rot] using hl)
    have e : (at_ (rot fs i []).1 i).w = (at_ fs i).w := by simp only [rot, at_set (show i < fs.length from hl), if_true]; rfl
    rw [e] at this
    exact ⟨this.1, this.2.1, this.2.2.1, by rw [this.2.2.2]; simp [rot]⟩
theorem alone_ok {f N : Nat} {A : List (Nat × Int)} (hf : f < 3) (hA : ∀ a ∈ A, a.1 = f ∧ 1 ≤ a.2 ∧ a.2 ≤ 1500) : ∀ x ∈ A ++ List.replicate (N + 1) ((0 : Nat), (0 : Int)), x.1 < 3 ∧ 0 ≤ x.2 ∧ x.2 ≤ 1500 := fun x hx => by
  rcases List.mem_append.1 hx with h | h
  · have := hA x h; omega
  · have := List.eq_of_mem_replicate h; subst this; simp
theorem alone_in (f : Nat) (Z : List (Nat × Int)) (e : St) : ∀ (A : List (Nat × Int)) (s : St) (os : List (Int × Nat × Int)), (∀ a ∈ A, a.1 = f ∧ 1 ≤ a.2) → f < s.1.length → (at_ s.1 f).w.length + A.length ≤ 40 → s.2 = (if (at_ s.1 f).w = [] then [] else [f]) →
    Plays s (A ++ Z) os e → ∃ s1, Plays s1 Z (os.drop A.length) e ∧ (at_ s1.1 f).w = (at_ s.1 f).w ++ A.map (·.2) ∧ s1.2 = (if (at_ s1.1 f).w = [] then [] else [f]) ∧ s1.1.length = s.1.length
  | [], s, os, _, _, _, ht, hp => ⟨s, by simpa using hp, by simp, ht, rfl⟩
  | a :: A, s, os, hA, hf, hl, ht, hp => by
    cases hp with
    | cons h k =>
      rename_i s1 o os'
      obtain ⟨h1, h2⟩ := hA a (by simp)
      obtain ⟨a1, a2⟩ := a
      simp only at h1 h2
      subst h1
      cases h with
      | none _ _ hz _ => omega
      | sends _ _ _ _ hz _ => omega
      | comes _ _ _ =>
        have e40 : ¬ (at_ s.1 a1).w.length = 40 := by simp only [List.length_cons] at hl; omega
        have hw1 : (at_ (comes s a1 a2).1.1 a1).w = (at_ s.1 a1).w ++ [a2] := by
          unfold comes; rw [if_neg e40]; simp only [at_set hf, if_true]
        have ht1 : (comes s a1 a2).1.2 = [a1] := by
          unfold comes; rw [if_neg e40]; simp only [ht]
          by_cases h0 : (at_ s.1 a1).w = []
          · simp [h0]
          · simp [h0]
        have hl1 : (comes s a1 a2).1.1.length = s.1.length := by unfold comes; rw [if_neg e40]; simp
        obtain ⟨s2, g1, g2, g3, g4⟩ := alone_in a1 Z e A _ _ (fun x hx => hA x (by simp [hx])) (by rw [hl1]; exact hf) (by rw [hw1]; simp only [List.length_append, List.length_cons, List.length_nil] at hl ⊢; omega) (by rw [hw1, ht1]; simp) k
        exact ⟨s2, g1, by rw [g2, hw1]; simp, g3, by rw [g4, hl1]⟩
set_option maxHeartbeats 4000000 in
set_option maxRecDepth 100000 in
theorem fairAlone_sp (a0 : Option Addr) (len0 cap0 : Nat) (z0 : List Int) (hl0 : z0.length = len0) (hb0 : len0 ≤ 9223372036854775807) (hw0 : ∀ z ∈ z0, -9223372036854775808 ≤ z ∧ z ≤ 9223372036854775807) (a1 : Int) (hw1 : -9223372036854775808 ≤ a1 ∧ a1 ≤ 9223372036854775807) (a2 : Option Addr) (len2 cap2 : Nat) (z2 : List Int) (hl2 : z2.length = len2) (hb2 : len2 ≤ 9223372036854775807) (hw2 : ∀ z ∈ z2, -9223372036854775808 ≤ z ∧ z ≤ 9223372036854775807) :
    Spec Try.prog 9 [.slice a0 len0 cap0, .int .i64 a1, .slice a2 len2 cap2] [.sl a0 len0 cap0 1 (flat (eI .i64) z0), .sl a2 len2 cap2 1 (flat (eI .i64) z2)] fun v give => v = .bool true ∧ give = [] := by
  obtain ⟨f, hf⟩ : ∃ f : Nat, (f : Int) = a1 % 3 := ⟨(a1 % 3).toNat, by omega⟩
  have hf3 : f < 3 := by omega
  obtain ⟨N, hN⟩ : ∃ N, N = min len2 40 := ⟨_, rfl⟩
  obtain ⟨A, hA⟩ : ∃ A : List (Nat × Int), A = (z2.take N).map fun z => (f, 1 + z % 1500) := ⟨_, rfl⟩
  have hAl : A.length = N := by rw [hA, List.length_map, List.length_take]; omega
  have hAo : ∀ a ∈ A, a.1 = f ∧ 1 ≤ a.2 ∧ a.2 ≤ 1500 := fun a ha => by
    rw [hA] at ha
    obtain ⟨z, _, rfl⟩ := List.mem_map.1 ha
    have h1 : 0 ≤ z % 1500 ∧ z % 1500 < 1500 := by omega
    exact ⟨rfl, by show 1 ≤ 1 + z % 1500; omega, by show 1 + z % 1500 ≤ 1500; omega⟩
  refine Spec.intro Try.func9 rfl Try.ntmps9 rfl fun w0 rest rs_ hrs_ => ?_
  simp only [List.cons_append, List.nil_append] at hrs_
  subst hrs_
  repeat (first | (apply G.ex (hd := rfl); case h => (first | exact Ex.move rfl | exact Ex.assign rfl)) | refine G.nil ?_ | refine GC.seq ?_ | refine GC.region ?_ | refine GE.then_normal ?_)
  first | refine G.call (caps := []) (picked_sp a1 3 (by omega) (by omega)) rfl rfl rfl rfl (by repeat (first | exact Takes.nil | apply Takes.dup rfl | apply Takes.cons | exact Take1.here | apply Take1.there)) ?_ | refine G.callU (caps := []) (picked_sp a1 3 (by omega) (by omega)) rfl rfl rfl (by repeat (first | exact Takes.nil | apply Takes.dup rfl | apply Takes.cons | exact Take1.here | apply Take1.there)) ?_
  rintro v_ give_ ⟨rfl, rfl⟩ rs_ hrs_
  simp only [List.cons_append, List.nil_append] at hrs_
  subst hrs_
  rw [← hf]
  first | refine G.nilvec 57 2 ?_ | refine GC.nilvec 57 2 ?_
  repeat (first | (apply G.ex (hd := rfl); case h => (first | exact Ex.assign rfl)) | refine G.nil ?_ | refine GC.seq ?_ | refine GC.region ?_ | refine GC.block ?_ | refine GE.then_normal ?_)
  refine GC.loop (ι := Nat × Option Addr × Nat) (fun x => x.1 ≤ N) (fun x => N - x.1) (fun x => [(0, .slice a0 len0 cap0), (2, .slice a2 len2 cap2), (7, .int .i64 (f : Int)), (8, .slice x.2.1 x.1 x.2.2), (9, .int .i64 (x.1 : Int))]) (fun x => [.vec 57 2 x.2.1 x.1 x.2.2 (flat eFd ((z2.take x.1).map fun z => (f, 1 + z % 1500))), .sl a0 len0 cap0 1 (flat (eI .i64) z0), .sl a2 len2 cap2 1 (flat (eI .i64) z2)]) (0, none, 0) (Nat.zero_le _) (by simp only [fits]; repeat (first | exact trivial | refine And.intro rfl ?_)) (by repeat (first | exact Takes.nil | apply Takes.dup rfl | apply Takes.cons | exact Take1.here | apply Take1.there)) ?_
  rintro ⟨k, fa, fc⟩ hk fr_ rs_ hfr_ hrs_
  simp only [List.cons_append, List.nil_append] at hfr_ hrs_
  subst hfr_ hrs_
  simp only at hk
  by_cases hlt : k < N
  · have hk2 : k < len2 := by omega
    have hk40 : k < 40 := by omega
    have hcat : flat eFd ((z2.take k).map fun z => (f, 1 + z % 1500)) ++ flat eFd [(f, 1 + z2.getD k default % 1500)] = flat eFd ((z2.take (k + 1)).map fun z => (f, 1 + z % 1500)) := by rw [← flat_append, map_snoc (fun z : Int => (f, 1 + z % 1500)) z2 k (by omega)]
    repeat (first | (apply G.ex (hd := rfl); case h => (first | exact Ex.move rfl | exact Ex.lss rfl rfl | exact Ex.lenSl rfl | exact Ex.indexN rfl rfl (by first | omega | (simp; done) | (simp; omega)) | exact Ex.loadT0 rfl (by first | omega | (simp; done) | (simp; omega)) rfl | exact Ex.pickT rfl (by first | assumption | omega) rfl)) | refine G.g_tt rfl rfl (by first | assumption | omega) ?_ | refine G.nil ?_ | refine GC.seq ?_ | refine GC.region ?_ | refine GC.block ?_ | refine GC.skip ?_ | refine GE.then_normal ?_ | refine GC.cond_yes rfl (by first | assumption | omega) ?_)
    first | refine G.call (caps := []) (picked_sp (z2.getD k default) 1500 (by omega) (by omega)) rfl rfl rfl rfl (by repeat (first | exact Takes.nil | apply Takes.dup rfl | apply Takes.cons | exact Take1.here | apply Take1.there)) ?_ | refine G.callU (caps := []) (picked_sp (z2.getD k default) 1500 (by omega) (by omega)) rfl rfl rfl (by repeat (first | exact Takes.nil | apply Takes.dup rfl | apply Takes.cons | exact Take1.here | apply Take1.there)) ?_
    rintro v_ give_ ⟨rfl, rfl⟩ rs_ hrs_
    simp only [List.cons_append, List.nil_append] at hrs_
    subst hrs_
    repeat (first | (apply G.ex (hd := rfl); case h => (first | exact Ex.add rfl rfl (by omega) | exact Ex.build rfl rfl)))
    refine G.lit rfl (by rfl) (by rfl) (by rfl) (by rfl) (by rfl) (by rfl) rfl (fun y => ?_)
    repeat (first | fail)
    refine G.app rfl rfl (by rfl) (by omega) rfl (hcat) (fun o2 c2 rs_ hrs_ => ?_)
    try simp only at hrs_
    subst hrs_
    repeat (first | (apply G.ex (hd := rfl); case h => (first | exact Ex.move rfl | exact Ex.add rfl rfl (by omega) | exact Ex.assign rfl)) | refine G.nil ?_ | refine GC.region ?_ | refine GE.then_normal ?_ | refine GE.block_normal ?_)
    refine GE.loop (k + 1, o2, c2) (by simp only; omega) (by simp only; omega) (by simp only [fits]; repeat (first | exact trivial | refine And.intro rfl ?_)) (by repeat (first | exact Takes.nil | apply Takes.dup rfl | apply Takes.cons | exact Take1.here | apply Take1.there)) (by repeat (first | exact Subs.refl | refine Subs.skip ?_))
  · have hkN : k = N := by omega
    have ht : z2.take k = z2.take N := by rw [hkN]
    by_cases h2 : k < len2
    · have h40 : ¬ k < 40 := by omega
      repeat (first | (apply G.ex (hd := rfl); case h => (first | exact Ex.move rfl | exact Ex.lss rfl rfl | exact Ex.lenSl rfl | exact Ex.assign rfl | exact Ex.pickT rfl (by first | assumption | omega) rfl)) | refine G.g_tt rfl rfl (by first | assumption | omega) ?_ | refine G.nil ?_ | refine GC.seq ?_ | refine GC.region ?_ | refine GC.block ?_ | refine GC.exit ?_ | refine GE.then_normal ?_ | refine GE.then_exit ?_ | refine GE.block_hit ?_ | refine GC.cond_no rfl (by first | assumption | omega) ?_)
      rw [ht, ← hA, hkN]
      repeat (first | fail)
      rw [show flat eFd A = flat eFd (A ++ List.replicate 0 (0, 0)) by simp]
      refine GC.loop (ι := Nat × Option Addr × Nat) (fun x => x.1 ≤ N + 1) (fun x => N + 1 - x.1) (fun x => [(0, .slice a0 len0 cap0), (7, .int .i64 (f : Int)), (8, .slice x.2.1 (N + x.1) x.2.2), (10, .int .i64 (N : Int)), (11, .int .i64 (x.1 : Int))]) (fun x => [.vec 57 2 x.2.1 (N + x.1) x.2.2 (flat eFd (A ++ List.replicate x.1 (0, 0))), .sl a0 len0 cap0 1 (flat (eI .i64) z0)]) (0, fa, fc) (Nat.zero_le _) (by simp only [fits]; repeat (first | exact trivial | refine And.intro rfl ?_)) (by repeat (first | exact Takes.nil | apply Takes.dup rfl | apply Takes.cons | exact Take1.here | apply Take1.there)) ?_
      rintro ⟨i, fa, fc⟩ hi fr_ rs_ hfr_ hrs_
      simp only [List.cons_append, List.nil_append] at hfr_ hrs_
      subst hfr_ hrs_
      simp only at hi
      repeat (first | (apply G.ex (hd := rfl); case h => (first | exact Ex.move rfl | exact Ex.leq rfl rfl)) | refine G.nil ?_ | refine GC.seq ?_ | refine GC.region ?_ | refine GE.then_normal ?_)
      refine GC.cond_dec rfl (fun hlt2 => ?_) (fun hlt2 => ?_)
      · have hlt2 : i < N + 1 := by omega
        have hcat : flat eFd (A ++ List.replicate i (0, 0)) ++ flat eFd [((0 : Nat), (0 : Int))] = flat eFd (A ++ List.replicate (i + 1) (0, 0)) := by
          rw [← flat_append, List.append_assoc, ← List.replicate_succ']
        repeat (first | (apply G.ex (hd := rfl); case h => (first | exact Ex.move rfl | exact Ex.build rfl rfl)) | refine GC.seq ?_ | refine GC.region ?_ | refine GC.block ?_ | refine GC.skip ?_ | refine GE.then_normal ?_)
        refine G.lit rfl (by rfl) (by rfl) (by rfl) (by rfl) (by rfl) (by rfl) rfl (fun y => ?_)
        repeat (first | fail)
        refine G.app rfl rfl (by rfl) (by omega) rfl (hcat) (fun o2 c2 rs_ hrs_ => ?_)
        try simp only at hrs_
        subst hrs_
        repeat (first | (apply G.ex (hd := rfl); case h => (first | exact Ex.move rfl | exact Ex.add rfl rfl (by omega) | exact Ex.assign rfl)) | refine G.nil ?_ | refine GC.region ?_ | refine GE.then_normal ?_ | refine GE.block_normal ?_)
        refine GE.loop (i + 1, o2, c2) (by simp only; omega) (by simp only; omega) (by simp only [fits]; repeat (first | exact trivial | refine And.intro rfl ?_)) (by repeat (first | exact Takes.nil | apply Takes.dup rfl | apply Takes.cons | exact Take1.here | apply Take1.there)) (by repeat (first | exact Subs.refl | refine Subs.skip ?_))
      · have hiN : i = N + 1 := by omega
        subst hiN
        repeat (first | (apply G.ex (hd := rfl); case h => (first | exact Ex.move rfl)) | refine GC.seq ?_ | refine GC.region ?_ | refine GC.exit ?_ | refine GE.then_normal ?_ | refine GE.then_exit ?_ | refine GE.block_hit ?_)
        first | refine G.call (caps := []) (quanta_sp a0 len0 cap0 z0 hl0 (by omega) hw0) rfl rfl rfl rfl (by repeat (first | exact Takes.nil | apply Takes.dup rfl | apply Takes.cons | exact Take1.here | apply Take1.there)) ?_ | refine G.callU (caps := []) (quanta_sp a0 len0 cap0 z0 hl0 (by omega) hw0) rfl rfl rfl (by repeat (first | exact Takes.nil | apply Takes.dup rfl | apply Takes.cons | exact Take1.here | apply Take1.there)) ?_
        rintro v_ give_ ⟨qa, Q, rfl, hQl, hQ, rfl⟩ rs_ hrs_
        simp only [List.cons_append, List.nil_append] at hrs_
        subst hrs_
        repeat (first | (apply G.ex (hd := rfl); case h => (first | exact Ex.move rfl)))
        have hLl : (A ++ List.replicate (N + 1) ((0 : Nat), (0 : Int))).length = N + (N + 1) := by simp [hAl]
        first | refine G.call (caps := []) (lined_sp (.vec 3 1 qa 3 3 (flat (eI .i64) Q)) qa 3 3 Q inferInstance hQl (by decide) (by decide) (fun q hq => by have := hQ q hq; omega) (.vec 57 2 fa (N + (N + 1)) fc (flat eFd (A ++ List.replicate (N + 1) (0, 0)))) fa (N + (N + 1)) fc (A ++ List.replicate (N + 1) (0, 0)) inferInstance hLl (by omega) (alone_ok hf3 hAo)) rfl rfl rfl rfl (by repeat (first | exact Takes.nil | apply Takes.dup rfl | apply Takes.cons | exact Take1.here | apply Take1.there)) ?_ | refine G.callU (caps := []) (lined_sp (.vec 3 1 qa 3 3 (flat (eI .i64) Q)) qa 3 3 Q inferInstance hQl (by decide) (by decide) (fun q hq => by have := hQ q hq; omega) (.vec 57 2 fa (N + (N + 1)) fc (flat eFd (A ++ List.replicate (N + 1) (0, 0)))) fa (N + (N + 1)) fc (A ++ List.replicate (N + 1) (0, 0)) inferInstance hLl (by omega) (alone_ok hf3 hAo)) rfl rfl rfl (by repeat (first | exact Takes.nil | apply Takes.dup rfl | apply Takes.cons | exact Take1.here | apply Take1.there)) ?_
        rintro v_ give_ ⟨oa, oc, os, s, hp, hos, rfl, rfl⟩ rs_ hrs_
        simp only [List.cons_append, List.nil_append] at hrs_
        subst hrs_
        obtain ⟨s1, hp1, g1, g2, g3⟩ := alone_in f (List.replicate (N + 1) (0, 0)) s A (fresh Q) os (fun a ha => ⟨(hAo a ha).1, (hAo a ha).2.1⟩) (by simp [fresh, hQl, hf3]) (by rw [(fresh_at Q f).1]; simp [hAl]; omega) (by rw [(fresh_at Q f).1]; rfl) hp
        rw [(fresh_at Q f).1, List.nil_append] at g1
        have g3' : s1.1.length = 3 := by rw [g3]; simp [fresh, hQl]
        have hmap : (A.map (·.2)).length = N := by simp [hAl]
        rw [hAl] at hp1
        repeat (first | (apply G.ex (hd := rfl); case h => (first | exact Ex.move rfl | exact Ex.extract rfl rfl | exact Ex.assign rfl | exact Ex.notB rfl)) | refine G.nil ?_ | refine GC.seq ?_ | refine GC.region ?_ | refine GC.block ?_ | refine GC.skip ?_ | refine GE.then_normal ?_ | refine GC.cond_f rfl ?_)
        refine GC.loop (ι := Nat × St) (fun x => x.1 ≤ N ∧ (at_ x.2.1 f).w = (A.map (·.2)).drop x.1 ∧ x.2.2 = (if (at_ x.2.1 f).w = [] then [] else [f]) ∧ x.2.1.length = 3 ∧ Plays x.2 ((List.replicate (N + 1) (0, 0)).drop x.1) ((os.drop N).drop x.1) s) (fun x => N - x.1) (fun x => [(7, .int .i64 (f : Int)), (8, .slice fa (N + (N + 1)) fc), (10, .int .i64 (N : Int)), (12, .slice oa (N + (N + 1)) oc), (14, .int .i64 (x.1 : Int))]) (fun x => [.vec 59 3 oa (N + (N + 1)) oc (flat eO os), .vec 57 2 fa (N + (N + 1)) fc (flat eFd (A ++ List.replicate (N + 1) (0, 0)))]) (0, s1) ⟨Nat.zero_le _, by simpa using g1, g2, g3', by simpa using hp1⟩ (by simp only [fits]; repeat (first | exact trivial | refine And.intro rfl ?_)) (by repeat (first | exact Takes.nil | apply Takes.dup rfl | apply Takes.cons | exact Take1.here | apply Take1.there)) ?_
        rintro ⟨i, st⟩ ⟨hi_, h1_, h2_, h3_, h4_⟩ fr_ rs_ hfr_ hrs_
        simp only [List.cons_append, List.nil_append] at hfr_ hrs_
        subst hfr_ hrs_
        obtain ⟨hi, h1, h2, h3, h4⟩ : i ≤ N ∧ (at_ st.1 f).w = (A.map (·.2)).drop i ∧ st.2 = (if (at_ st.1 f).w = [] then [] else [f]) ∧ st.1.length = 3 ∧ Plays st ((List.replicate (N + 1) (0, 0)).drop i) ((os.drop N).drop i) s := ⟨hi_, h1_, h2_, h3_, h4_⟩
        clear hi_ h1_ h2_ h3_ h4_
        obtain ⟨hio, st2, hst, hp2⟩ := h4.next (by rw [List.length_replicate]; omega)
        have hO : (os.drop N).getD i default = os.getD (N + i) default := by simp [List.getD_eq_getElem?_getD]
        have hF : (List.replicate (N + 1) ((0 : Nat), (0 : Int))).getD i default = (0, 0) := by
          rw [List.getD_eq_getElem?_getD, List.getElem?_replicate, if_pos (by omega)]; rfl
        rw [hO, hF] at hst
        repeat (first | (apply G.ex (hd := rfl); case h => (first | exact Ex.move rfl | exact Ex.lss rfl rfl)) | refine G.nil ?_ | refine GC.seq ?_ | refine GC.region ?_ | refine GE.then_normal ?_)
        refine GC.cond_dec rfl (fun hlt3 => ?_) (fun hlt3 => ?_)
        · have hlt3 : i < N := by omega
          have hne : (at_ st.1 f).w ≠ [] := by
            rw [h1]; intro e; have := congrArg List.length e; simp only [List.length_drop, hmap, List.length_nil] at this; omega
          rw [if_neg hne] at h2
          have hgA : (at_ st.1 f).w.getD 0 default = (A.getD i default).2 := by
            rw [h1, List.getD_eq_getElem?_getD, List.getD_eq_getElem?_getD, List.getElem?_drop, List.getElem?_map, Nat.add_zero, List.getElem?_eq_getElem (by omega)]; rfl
          have hgL : (A ++ List.replicate (N + 1) ((0 : Nat), (0 : Int))).getD i default = A.getD i default := by
            rw [List.getD_eq_getElem?_getD, List.getD_eq_getElem?_getD, List.getElem?_append_left (by omega)]
          generalize hOO : os.getD (N + i) default = O at hst
          cases hst with
          | comes _ _ hz => omega
          | none _ _ _ hn => rw [h2] at hn; cases hn
          | sends _ _ _ o _ hS =>
            obtain ⟨k1, k2, k3, k4⟩ := alone_send hS f h2 (by omega)
            have c1 : ¬ ¬ (os.getD (N + i) default).1 = 0 := by rw [hOO]; exact fun k => k rfl
            have c2 : ¬ ¬ ((os.getD (N + i) default).2.1 : Int) = (f : Int) := by rw [hOO, k1]; exact fun k => k rfl
            have c3 : ¬ ¬ (os.getD (N + i) default).2.2 = ((A ++ List.replicate (N + 1) ((0 : Nat), (0 : Int))).getD i default).2 := by rw [hOO, k1, hgL, ← hgA]; exact fun k => k rfl
            have hcast : (N : Int) + (i : Int) = ((N + i : Nat) : Int) := by omega
            repeat (first | refine GC.seq ?_ | refine GC.block ?_ | refine GC.skip ?_ | refine GE.then_normal ?_)
            repeat (first | (apply G.ex (hd := rfl); case h => (first | exact Ex.move rfl | exact Ex.add rfl rfl (by omega) | exact Ex.assign rfl)) | refine G.nil ?_ | (apply Gq.ex (hd := rfl); case h => (first | exact Ex.move rfl | exact Ex.fieldE rfl | exact Ex.add rfl rfl (by omega) | exact Ex.neI rfl rfl | exact Ex.indexN rfl rfl (by first | omega | (simp; done) | (simp; omega)) | exact Ex.loadT0 rfl (by first | omega | (simp; done) | (simp; omega)) rfl | exact Ex.loadT rfl (by first | omega | (simp; done) | (simp; omega)) rfl | exact Ex.pickF rfl (by first | assumption | omega) rfl)) | refine Gq.g_ff rfl rfl (by first | assumption | omega) ?_ | refine Gq.nil ?_ | refine GC.region ?_ | refine GC.draw (by kernel_rfl) (by kernel_rfl) ?_ | refine GC.skip ?_ | refine GE.then_normal ?_ | refine GE.block_normal ?_ | refine GC.cond_no rfl (by first | assumption | omega) ?_)
            refine GE.loop (i + 1, st2) ⟨by simp only; omega, by simp only; rw [k2, h1, List.tail_drop], by simp only; rw [k3, k2], by simp only; rw [k4]; exact h3, hp2⟩ (by simp only; omega) (by simp only [fits]; repeat (first | exact trivial | refine And.intro rfl ?_)) (by repeat (first | exact Takes.nil | apply Takes.dup rfl | apply Takes.cons | exact Take1.here | apply Take1.there)) (by repeat (first | exact Subs.refl | refine Subs.skip ?_))
        · have hiN : i = N := by omega
          subst hiN
          have hw0' : (at_ st.1 f).w = [] := by rw [h1]; exact List.drop_of_length_le (by omega)
          rw [if_pos hw0'] at h2
          generalize hOO : os.getD (i + i) default = O at hst
          have hO7 : O.1 = 7 := by
            cases hst with
            | comes _ _ hz => omega
            | none _ _ _ hn => rfl
            | sends _ _ _ o _ hS => cases st; simp only at h2; subst h2; cases hS
          have hcast : 2 * (i : Int) = ((i + i : Nat) : Int) := by omega
          repeat (first | (apply G.ex (hd := rfl); case h => (first | exact Ex.move rfl | exact Ex.fieldE rfl | exact Ex.eqI rfl rfl | exact Ex.indexN rfl rfl (by first | omega | (simp; done) | (simp; omega)) | exact Ex.loadT0 rfl (by first | omega | (simp; done) | (simp; omega)) rfl | exact Ex.assign rfl | exact Ex.mul rfl rfl (by omega))) | refine G.nil ?_ | refine GC.seq ?_ | refine GC.region ?_ | refine GC.ret ?_ | refine GC.exit ?_ | refine GE.then_normal ?_ | refine GE.then_exit ?_ | refine GE.block_hit ?_)
          rw [hcast]
          repeat (first | fail)
          rw [show 2 * i = i + i by omega, hOO, hO7]
          refine GE.ret (by first | exact .inl rfl | exact .inr rfl) (by first | exact res0 Try.results9 | exact res1 Try.results9 rfl | exact res2 Try.results9 rfl rfl | exact resR1 Try.results9 (by first | exact RV.tmp rfl | exact RV.cell rfl rfl | exact RV.cell1 rfl) | exact resR2 Try.results9 (by first | exact RV.tmp rfl | exact RV.cell rfl rfl | exact RV.cell1 rfl) (by first | exact RV.tmp rfl | exact RV.cell rfl rfl | exact RV.cell1 rfl) | exact resR3 Try.results9 (by first | exact RV.tmp rfl | exact RV.cell rfl rfl | exact RV.cell1 rfl) (by first | exact RV.tmp rfl | exact RV.cell rfl rfl | exact RV.cell1 rfl) (by first | exact RV.tmp rfl | exact RV.cell rfl rfl | exact RV.cell1 rfl)) ⟨rfl, rfl⟩ (by repeat (first | exact Takes.nil | apply Takes.dup rfl | apply Takes.cons | exact Take1.here | apply Take1.there)) (by repeat (first | exact Subs.refl | refine Subs.skip ?_))
    · repeat (first | (apply G.ex (hd := rfl); case h => (first | exact Ex.move rfl | exact Ex.lss rfl rfl | exact Ex.lenSl rfl | exact Ex.assign rfl | exact Ex.pickF rfl (by first | assumption | omega) rfl)) | refine G.g_tf rfl rfl (by first | assumption | omega) rfl ?_ | refine G.nil ?_ | refine GC.seq ?_ | refine GC.region ?_ | refine GC.block ?_ | refine GC.exit ?_ | refine GE.then_normal ?_ | refine GE.then_exit ?_ | refine GE.block_hit ?_ | refine GC.cond_f rfl ?_)
      rw [ht, ← hA, hkN]
      repeat (first | fail)
      rw [show flat eFd A = flat eFd (A ++ List.replicate 0 (0, 0)) by simp]
      refine GC.loop (ι := Nat × Option Addr × Nat) (fun x => x.1 ≤ N + 1) (fun x => N + 1 - x.1) (fun x => [(0, .slice a0 len0 cap0), (7, .int .i64 (f : Int)), (8, .slice x.2.1 (N + x.1) x.2.2), (10, .int .i64 (N : Int)), (11, .int .i64 (x.1 : Int))]) (fun x => [.vec 57 2 x.2.1 (N + x.1) x.2.2 (flat eFd (A ++ List.replicate x.1 (0, 0))), .sl a0 len0 cap0 1 (flat (eI .i64) z0)]) (0, fa, fc) (Nat.zero_le _) (by simp only [fits]; repeat (first | exact trivial | refine And.intro rfl ?_)) (by repeat (first | exact Takes.nil | apply Takes.dup rfl | apply Takes.cons | exact Take1.here | apply Take1.there)) ?_
      rintro ⟨i, fa, fc⟩ hi fr_ rs_ hfr_ hrs_
      simp only [List.cons_append, List.nil_append] at hfr_ hrs_
      subst hfr_ hrs_
      simp only at hi
      repeat (first | (apply G.ex (hd := rfl); case h => (first | exact Ex.move rfl | exact Ex.leq rfl rfl)) | refine G.nil ?_ | refine GC.seq ?_ | refine GC.region ?_ | refine GE.then_normal ?_)
      refine GC.cond_dec rfl (fun hlt2 => ?_) (fun hlt2 => ?_)
      · have hlt2 : i < N + 1 := by omega
        have hcat : flat eFd (A ++ List.replicate i (0, 0)) ++ flat eFd [((0 : Nat), (0 : Int))] = flat eFd (A ++ List.replicate (i + 1) (0, 0)) := by
          rw [← flat_append, List.append_assoc, ← List.replicate_succ']
        repeat (first | (apply G.ex (hd := rfl); case h => (first | exact Ex.move rfl | exact Ex.build rfl rfl)) | refine GC.seq ?_ | refine GC.region ?_ | refine GC.block ?_ | refine GC.skip ?_ | refine GE.then_normal ?_)
        refine G.lit rfl (by rfl) (by rfl) (by rfl) (by rfl) (by rfl) (by rfl) rfl (fun y => ?_)
        repeat (first | fail)
        refine G.app rfl rfl (by rfl) (by omega) rfl (hcat) (fun o2 c2 rs_ hrs_ => ?_)
        try simp only at hrs_
        subst hrs_
        repeat (first | (apply G.ex (hd := rfl); case h => (first | exact Ex.move rfl | exact Ex.add rfl rfl (by omega) | exact Ex.assign rfl)) | refine G.nil ?_ | refine GC.region ?_ | refine GE.then_normal ?_ | refine GE.block_normal ?_)
        refine GE.loop (i + 1, o2, c2) (by simp only; omega) (by simp only; omega) (by simp only [fits]; repeat (first | exact trivial | refine And.intro rfl ?_)) (by repeat (first | exact Takes.nil | apply Takes.dup rfl | apply Takes.cons | exact Take1.here | apply Take1.there)) (by repeat (first | exact Subs.refl | refine Subs.skip ?_))
      · have hiN : i = N + 1 := by omega
        subst hiN
        repeat (first | (apply G.ex (hd := rfl); case h => (first | exact Ex.move rfl)) | refine GC.seq ?_ | refine GC.region ?_ | refine GC.exit ?_ | refine GE.then_normal ?_ | refine GE.then_exit ?_ | refine GE.block_hit ?_)
        first | refine G.call (caps := []) (quanta_sp a0 len0 cap0 z0 hl0 (by omega) hw0) rfl rfl rfl rfl (by repeat (first | exact Takes.nil | apply Takes.dup rfl | apply Takes.cons | exact Take1.here | apply Take1.there)) ?_ | refine G.callU (caps := []) (quanta_sp a0 len0 cap0 z0 hl0 (by omega) hw0) rfl rfl rfl (by repeat (first | exact Takes.nil | apply Takes.dup rfl | apply Takes.cons | exact Take1.here | apply Take1.there)) ?_
        rintro v_ give_ ⟨qa, Q, rfl, hQl, hQ, rfl⟩ rs_ hrs_
        simp only [List.cons_append, List.nil_append] at hrs_
        subst hrs_
        repeat (first | (apply G.ex (hd := rfl); case h => (first | exact Ex.move rfl)))
        have hLl : (A ++ List.replicate (N + 1) ((0 : Nat), (0 : Int))).length = N + (N + 1) := by simp [hAl]
        first | refine G.call (caps := []) (lined_sp (.vec 3 1 qa 3 3 (flat (eI .i64) Q)) qa 3 3 Q inferInstance hQl (by decide) (by decide) (fun q hq => by have := hQ q hq; omega) (.vec 57 2 fa (N + (N + 1)) fc (flat eFd (A ++ List.replicate (N + 1) (0, 0)))) fa (N + (N + 1)) fc (A ++ List.replicate (N + 1) (0, 0)) inferInstance hLl (by omega) (alone_ok hf3 hAo)) rfl rfl rfl rfl (by repeat (first | exact Takes.nil | apply Takes.dup rfl | apply Takes.cons | exact Take1.here | apply Take1.there)) ?_ | refine G.callU (caps := []) (lined_sp (.vec 3 1 qa 3 3 (flat (eI .i64) Q)) qa 3 3 Q inferInstance hQl (by decide) (by decide) (fun q hq => by have := hQ q hq; omega) (.vec 57 2 fa (N + (N + 1)) fc (flat eFd (A ++ List.replicate (N + 1) (0, 0)))) fa (N + (N + 1)) fc (A ++ List.replicate (N + 1) (0, 0)) inferInstance hLl (by omega) (alone_ok hf3 hAo)) rfl rfl rfl (by repeat (first | exact Takes.nil | apply Takes.dup rfl | apply Takes.cons | exact Take1.here | apply Take1.there)) ?_
        rintro v_ give_ ⟨oa, oc, os, s, hp, hos, rfl, rfl⟩ rs_ hrs_
        simp only [List.cons_append, List.nil_append] at hrs_
        subst hrs_
        obtain ⟨s1, hp1, g1, g2, g3⟩ := alone_in f (List.replicate (N + 1) (0, 0)) s A (fresh Q) os (fun a ha => ⟨(hAo a ha).1, (hAo a ha).2.1⟩) (by simp [fresh, hQl, hf3]) (by rw [(fresh_at Q f).1]; simp [hAl]; omega) (by rw [(fresh_at Q f).1]; rfl) hp
        rw [(fresh_at Q f).1, List.nil_append] at g1
        have g3' : s1.1.length = 3 := by rw [g3]; simp [fresh, hQl]
        have hmap : (A.map (·.2)).length = N := by simp [hAl]
        rw [hAl] at hp1
        repeat (first | (apply G.ex (hd := rfl); case h => (first | exact Ex.move rfl | exact Ex.extract rfl rfl | exact Ex.assign rfl | exact Ex.notB rfl)) | refine G.nil ?_ | refine GC.seq ?_ | refine GC.region ?_ | refine GC.block ?_ | refine GC.skip ?_ | refine GE.then_normal ?_ | refine GC.cond_f rfl ?_)
        refine GC.loop (ι := Nat × St) (fun x => x.1 ≤ N ∧ (at_ x.2.1 f).w = (A.map (·.2)).drop x.1 ∧ x.2.2 = (if (at_ x.2.1 f).w = [] then [] else [f]) ∧ x.2.1.length = 3 ∧ Plays x.2 ((List.replicate (N + 1) (0, 0)).drop x.1) ((os.drop N).drop x.1) s) (fun x => N - x.1) (fun x => [(7, .int .i64 (f : Int)), (8, .slice fa (N + (N + 1)) fc), (10, .int .i64 (N : Int)), (12, .slice oa (N + (N + 1)) oc), (14, .int .i64 (x.1 : Int))]) (fun x => [.vec 59 3 oa (N + (N + 1)) oc (flat eO os), .vec 57 2 fa (N + (N + 1)) fc (flat eFd (A ++ List.replicate (N + 1) (0, 0)))]) (0, s1) ⟨Nat.zero_le _, by simpa using g1, g2, g3', by simpa using hp1⟩ (by simp only [fits]; repeat (first | exact trivial | refine And.intro rfl ?_)) (by repeat (first | exact Takes.nil | apply Takes.dup rfl | apply Takes.cons | exact Take1.here | apply Take1.there)) ?_
        rintro ⟨i, st⟩ ⟨hi_, h1_, h2_, h3_, h4_⟩ fr_ rs_ hfr_ hrs_
        simp only [List.cons_append, List.nil_append] at hfr_ hrs_
        subst hfr_ hrs_
        obtain ⟨hi, h1, h2, h3, h4⟩ : i ≤ N ∧ (at_ st.1 f).w = (A.map (·.2)).drop i ∧ st.2 = (if (at_ st.1 f).w = [] then [] else [f]) ∧ st.1.length = 3 ∧ Plays st ((List.replicate (N + 1) (0, 0)).drop i) ((os.drop N).drop i) s := ⟨hi_, h1_, h2_, h3_, h4_⟩
        clear hi_ h1_ h2_ h3_ h4_
        obtain ⟨hio, st2, hst, hp2⟩ := h4.next (by rw [List.length_replicate]; omega)
        have hO : (os.drop N).getD i default = os.getD (N + i) default := by simp [List.getD_eq_getElem?_getD]
        have hF : (List.replicate (N + 1) ((0 : Nat), (0 : Int))).getD i default = (0, 0) := by
          rw [List.getD_eq_getElem?_getD, List.getElem?_replicate, if_pos (by omega)]; rfl
        rw [hO, hF] at hst
        repeat (first | (apply G.ex (hd := rfl); case h => (first | exact Ex.move rfl | exact Ex.lss rfl rfl)) | refine G.nil ?_ | refine GC.seq ?_ | refine GC.region ?_ | refine GE.then_normal ?_)
        refine GC.cond_dec rfl (fun hlt3 => ?_) (fun hlt3 => ?_)
        · have hlt3 : i < N := by omega
          have hne : (at_ st.1 f).w ≠ [] := by
            rw [h1]; intro e; have := congrArg List.length e; simp only [List.length_drop, hmap, List.length_nil] at this; omega
          rw [if_neg hne] at h2
          have hgA : (at_ st.1 f).w.getD 0 default = (A.getD i default).2 := by
            rw [h1, List.getD_eq_getElem?_getD, List.getD_eq_getElem?_getD, List.getElem?_drop, List.getElem?_map, Nat.add_zero, List.getElem?_eq_getElem (by omega)]; rfl
          have hgL : (A ++ List.replicate (N + 1) ((0 : Nat), (0 : Int))).getD i default = A.getD i default := by
            rw [List.getD_eq_getElem?_getD, List.getD_eq_getElem?_getD, List.getElem?_append_left (by omega)]
          generalize hOO : os.getD (N + i) default = O at hst
          cases hst with
          | comes _ _ hz => omega
          | none _ _ _ hn => rw [h2] at hn; cases hn
          | sends _ _ _ o _ hS =>
            obtain ⟨k1, k2, k3, k4⟩ := alone_send hS f h2 (by omega)
            have c1 : ¬ ¬ (os.getD (N + i) default).1 = 0 := by rw [hOO]; exact fun k => k rfl
            have c2 : ¬ ¬ ((os.getD (N + i) default).2.1 : Int) = (f : Int) := by rw [hOO, k1]; exact fun k => k rfl
            have c3 : ¬ ¬ (os.getD (N + i) default).2.2 = ((A ++ List.replicate (N + 1) ((0 : Nat), (0 : Int))).getD i default).2 := by rw [hOO, k1, hgL, ← hgA]; exact fun k => k rfl
            have hcast : (N : Int) + (i : Int) = ((N + i : Nat) : Int) := by omega
            repeat (first | refine GC.seq ?_ | refine GC.block ?_ | refine GC.skip ?_ | refine GE.then_normal ?_)
            repeat (first | (apply G.ex (hd := rfl); case h => (first | exact Ex.move rfl | exact Ex.add rfl rfl (by omega) | exact Ex.assign rfl)) | refine G.nil ?_ | (apply Gq.ex (hd := rfl); case h => (first | exact Ex.move rfl | exact Ex.fieldE rfl | exact Ex.add rfl rfl (by omega) | exact Ex.neI rfl rfl | exact Ex.indexN rfl rfl (by first | omega | (simp; done) | (simp; omega)) | exact Ex.loadT0 rfl (by first | omega | (simp; done) | (simp; omega)) rfl | exact Ex.loadT rfl (by first | omega | (simp; done) | (simp; omega)) rfl | exact Ex.pickF rfl (by first | assumption | omega) rfl)) | refine Gq.g_ff rfl rfl (by first | assumption | omega) ?_ | refine Gq.nil ?_ | refine GC.region ?_ | refine GC.draw (by kernel_rfl) (by kernel_rfl) ?_ | refine GC.skip ?_ | refine GE.then_normal ?_ | refine GE.block_normal ?_ | refine GC.cond_no rfl (by first | assumption | omega) ?_)
            refine GE.loop (i + 1, st2) ⟨by simp only; omega, by simp only; rw [k2, h1, List.tail_drop], by simp only; rw [k3, k2], by simp only; rw [k4]; exact h3, hp2⟩ (by simp only; omega) (by simp only [fits]; repeat (first | exact trivial | refine And.intro rfl ?_)) (by repeat (first | exact Takes.nil | apply Takes.dup rfl | apply Takes.cons | exact Take1.here | apply Take1.there)) (by repeat (first | exact Subs.refl | refine Subs.skip ?_))
        · have hiN : i = N := by omega
          subst hiN
          have hw0' : (at_ st.1 f).w = [] := by rw [h1]; exact List.drop_of_length_le (by omega)
          rw [if_pos hw0'] at h2
          generalize hOO : os.getD (i + i) default = O at hst
          have hO7 : O.1 = 7 := by
            cases hst with
            | comes _ _ hz => omega
            | none _ _ _ hn => rfl
            | sends _ _ _ o _ hS => cases st; simp only at h2; subst h2; cases hS
          have hcast : 2 * (i : Int) = ((i + i : Nat) : Int) := by omega
          repeat (first | (apply G.ex (hd := rfl); case h => (first | exact Ex.move rfl | exact Ex.fieldE rfl | exact Ex.eqI rfl rfl | exact Ex.indexN rfl rfl (by first | omega | (simp; done) | (simp; omega)) | exact Ex.loadT0 rfl (by first | omega | (simp; done) | (simp; omega)) rfl | exact Ex.assign rfl | exact Ex.mul rfl rfl (by omega))) | refine G.nil ?_ | refine GC.seq ?_ | refine GC.region ?_ | refine GC.ret ?_ | refine GC.exit ?_ | refine GE.then_normal ?_ | refine GE.then_exit ?_ | refine GE.block_hit ?_)
          rw [hcast]
          repeat (first | fail)
          rw [show 2 * i = i + i by omega, hOO, hO7]
          refine GE.ret (by first | exact .inl rfl | exact .inr rfl) (by first | exact res0 Try.results9 | exact res1 Try.results9 rfl | exact res2 Try.results9 rfl rfl | exact resR1 Try.results9 (by first | exact RV.tmp rfl | exact RV.cell rfl rfl | exact RV.cell1 rfl) | exact resR2 Try.results9 (by first | exact RV.tmp rfl | exact RV.cell rfl rfl | exact RV.cell1 rfl) (by first | exact RV.tmp rfl | exact RV.cell rfl rfl | exact RV.cell1 rfl) | exact resR3 Try.results9 (by first | exact RV.tmp rfl | exact RV.cell rfl rfl | exact RV.cell1 rfl) (by first | exact RV.tmp rfl | exact RV.cell rfl rfl | exact RV.cell1 rfl) (by first | exact RV.tmp rfl | exact RV.cell rfl rfl | exact RV.cell1 rfl)) ⟨rfl, rfl⟩ (by repeat (first | exact Takes.nil | apply Takes.dup rfl | apply Takes.cons | exact Take1.here | apply Take1.there)) (by repeat (first | exact Subs.refl | refine Subs.skip ?_))
end fair
end Go.Proofs.Ytcabcpealkbekaa
