/-
  CONTRACT of packthreadkeep.FairAll: it returns true. By the kit.
-/
import Derived.Test.YtcabcpealkbekaaFairR
namespace Go.Proofs.Ytcabcpealkbekaa
open Go.RowKit
attribute [local irreducible] Ex G GC GE Gq FPost LPost
set_option linter.unusedVariables false
set_option linter.unusedSimpArgs false

namespace fair
instance : NoEqG Try.prog 63 := ⟨by kernel_rfl⟩
def cnt (s : St) : Nat := (at_ s.1 0).w.length + (at_ s.1 1).w.length + (at_ s.1 2).w.length
theorem sends_cnt {s s1 : St} {o : Nat × Int} (h : Sends s s1 o) (hw : Wf s) (hl : s.1.length = 3) : cnt s = cnt s1 + 1 := by
  obtain ⟨a1, a2, a3, a4, a5, a6⟩ := sends_w h hw
  have h4 := congrArg List.length a4
  simp only [List.length_cons] at h4
  unfold cnt
  rcases (show o.1 = 0 ∨ o.1 = 1 ∨ o.1 = 2 by omega) with e | e | e
  · rw [a5 1 (by omega), a5 2 (by omega)]; rw [e] at h4; omega
  · rw [a5 0 (by omega), a5 2 (by omega)]; rw [e] at h4; omega
  · rw [a5 0 (by omega), a5 1 (by omega)]; rw [e] at h4; omega
theorem none_cnt {s : St} (h : s.2 = []) (hw : Wf s) (hl : s.1.length = 3) : cnt s = 0 := by
  have : ∀ k, k < 3 → (at_ s.1 k).w.length = 0 := fun k hk => by
    have h1 := hw.act k
    rw [h] at h1
    have h2 : (at_ s.1 k).w = [] := Decidable.byContradiction fun hc => by
      have := h1.2 ⟨by omega, hc⟩
      cases this
    rw [h2]; rfl
  unfold cnt
  rw [this 0 (by decide), this 1 (by decide), this 2 (by decide)]
theorem comes_at (s : St) (i : Nat) (z : Int) (k : Nat) (hi : i < s.1.length) : (at_ (comes s i z).1.1 k).w = if k = i ∧ (at_ s.1 i).w.length ≠ 40 then (at_ s.1 k).w ++ [z] else (at_ s.1 k).w := by
  unfold comes
  by_cases h : (at_ s.1 i).w.length = 40
  · rw [if_pos h, if_neg (by simp [h])]
  · rw [if_neg h]
    simp only
    rw [at_set hi]
    by_cases e : k = i
    · subst e; rw [if_pos rfl, if_pos ⟨rfl, h⟩]
    · rw [if_neg e, if_neg (by simp [e])]
theorem step_cnt {s s1 : St} {f : Nat × Int} {o : Int × Nat × Int} (h : Step s f o s1) (hw : Wf s) (hl : s.1.length = 3) (hf : f.1 < 3) : cnt s1 ≤ cnt s + 1 ∧ (f.2 = 0 → cnt s1 = cnt s - 1 ∧ (cnt s = 0 → o.1 = 7)) := by
  cases h with
  | comes i z hz =>
    refine ⟨?_, fun h => by simp only at h; omega⟩
    unfold cnt
    have key : ∀ k, (at_ (comes s i z).1.1 k).w.length ≤ (at_ s.1 k).w.length + (if k = i then 1 else 0) := fun k => by
      rw [comes_at s i z k (by simp only at hf; omega)]
      by_cases e : k = i
      · rw [if_pos e]; split
        · simp
        · omega
      · rw [if_neg (by simp [e]), if_neg e]; omega
    have k0 := key 0; have k1 := key 1; have k2 := key 2
    have : (if (0 : Nat) = i then (1 : Nat) else 0) + (if 1 = i then 1 else 0) + (if 2 = i then 1 else 0) ≤ 1 := by
      split <;> split <;> split <;> omega
    omega
  | none i z hz hn =>
    have := none_cnt hn hw hl
    exact ⟨by omega, fun _ => ⟨by omega, fun _ => rfl⟩⟩
  | sends _ i z o hz hs =>
    have := sends_cnt hs hw hl
    exact ⟨by omega, fun _ => ⟨by omega, fun h => by omega⟩⟩
theorem plays_cnt {s s1 : St} {fs : List (Nat × Int)} {os : List (Int × Nat × Int)} (h : Plays s fs os s1) : Wf s → s.1.length = 3 → (∀ f ∈ fs, f.1 < 3 ∧ f.2 ≤ 1500) → Wf s1 ∧ s1.1.length = 3 ∧ cnt s1 ≤ cnt s + fs.length := by
  induction h with
  | nil s => intro a b _; exact ⟨a, b, by simp⟩
  | @cons s s1 s2 f o fs os h _ ih =>
    intro a b c
    have hf := c f (by simp)
    obtain ⟨a', b'⟩ := step_wf h a (by omega) hf.2
    obtain ⟨d, _⟩ := step_cnt h a b hf.1
    obtain ⟨x, y, z⟩ := ih a' (by omega) (fun f hf => c f (by simp [hf]))
    exact ⟨x, y, by simp only [List.length_cons]; omega⟩
theorem plays_dry {s s1 : St} {fs : List (Nat × Int)} {os : List (Int × Nat × Int)} (h : Plays s fs os s1) : Wf s → s.1.length = 3 → (∀ f ∈ fs, f = (0, 0)) → cnt s < fs.length → cnt s1 = 0 ∧ (os.getD (fs.length - 1) default).1 = 7 := by
  induction h with
  | nil s => intro _ _ _ h; simp at h
  | @cons s s1 s2 f o fs os h k ih =>
    intro a b c d
    have hf := c f (by simp)
    subst hf
    obtain ⟨a', b'⟩ := step_wf h a (by simp only; omega) (by simp)
    obtain ⟨_, e⟩ := step_cnt h a b (by simp)
    obtain ⟨e1, e2⟩ := e rfl
    simp only [List.length_cons] at d
    by_cases hn : fs.length = 0
    · have : fs = [] := List.length_eq_zero_iff.1 hn
      subst this
      cases k
      exact ⟨by omega, by simpa using e2 (by omega)⟩
    · obtain ⟨x, y⟩ := ih a' (by omega) (fun f hf => c f (by simp [hf])) (by omega)
      refine ⟨x, ?_⟩
      simp only [List.length_cons, Nat.add_sub_cancel]
      rw [show fs.length = (fs.length - 1) + 1 by omega]
      simpa using y
theorem Plays.split {s s2 : St} {A B : List (Nat × Int)} {os : List (Int × Nat × Int)} (h : Plays s (A ++ B) os s2) : ∃ s1, Plays s A (os.take A.length) s1 ∧ Plays s1 B (os.drop A.length) s2 := by
  induction A generalizing s os with
  | nil => exact ⟨s, .nil _, h⟩
  | cons a A ih =>
    cases h with
    | cons h k =>
      obtain ⟨s1, x, y⟩ := ih k
      exact ⟨s1, .cons h x, y⟩
def Bal (C E : List Int) (s : St) (i : Nat) : Prop := C.length = 3 ∧ E.length = 3 ∧ ∀ k, k < 3 → C.getD k default = E.getD k default + (at_ s.1 k).w.sum ∧ 0 ≤ E.getD k default ∧ C.getD k default ≤ 150 * (i : Int)
theorem sum_nonneg : ∀ (l : List Int), (∀ z ∈ l, 0 ≤ z) → 0 ≤ l.sum
  | [], _ => by simp
  | a :: l, h => by
    have := sum_nonneg l fun z hz => h z (by simp [hz])
    have := h a (by simp)
    simp only [List.sum_cons]; omega
theorem wf_sum {s : St} (h : Wf s) (k : Nat) : 0 ≤ (at_ s.1 k).w.sum := by
  by_cases hk : k < s.1.length
  · exact sum_nonneg _ fun z hz => by have := (h.fl _ (at_mem hk)).w z hz; omega
  · have : at_ s.1 k = default := by unfold at_; rw [List.getD_eq_getElem?_getD, List.getElem?_eq_none (by omega)]; rfl
    rw [this]; exact Int.le_refl 0
theorem Bal.more {C E : List Int} {s : St} {i : Nat} (h : Bal C E s i) : Bal C E s (i + 1) := ⟨h.1, h.2.1, fun k hk => by have := h.2.2 k hk; refine ⟨this.1, this.2.1, by omega⟩⟩
theorem Bal.comes {C E : List Int} {s : St} {i j : Nat} {z : Int} (h : Bal C E s i) (hj : j < 3) (hl : s.1.length = 3) (hz : 0 ≤ z ∧ z ≤ 150) (h40 : (at_ s.1 j).w.length ≠ 40) : Bal (C.set j (C.getD j default + z)) E (fair.comes s j z).1 (i + 1) := by
  obtain ⟨h1, h2, h3⟩ := h
  refine ⟨by simpa using h1, h2, fun k hk => ?_⟩
  obtain ⟨a, b, c⟩ := h3 k hk
  rw [getD_set' C j k _ (by omega), comes_at s j z k (by omega)]
  by_cases e : k = j
  · subst e
    rw [if_pos rfl, if_pos ⟨rfl, h40⟩, List.sum_append]
    simp only [List.sum_cons, List.sum_nil]
    exact ⟨by omega, b, by omega⟩
  · rw [if_neg e, if_neg (by simp [e])]
    exact ⟨a, b, by omega⟩
theorem Bal.sends {C E : List Int} {s s1 : St} {o : Nat × Int} {i : Nat} (h : Bal C E s i) (hw : Wf s) (hl : s.1.length = 3) (hs : Sends s s1 o) : o.1 < 3 ∧ 0 ≤ o.2 ∧ o.2 ≤ 1500 ∧ Bal C (E.set o.1 (E.getD o.1 default + o.2)) s1 (i + 1) := by
  obtain ⟨a1, a2, a3, a4, a5, a6⟩ := sends_w hs hw
  have ho : o.1 < 3 := by omega
  have hz := (hw.fl _ (at_mem (fs := s.1) (i := o.1) (by omega))).w o.2 (by rw [a4]; simp)
  obtain ⟨h1, h2, h3⟩ := h
  refine ⟨ho, by omega, by omega, h1, by simpa using h2, fun k hk => ?_⟩
  obtain ⟨a, b, c⟩ := h3 k hk
  rw [getD_set' E o.1 k _ (by omega)]
  by_cases e : k = o.1
  · subst e
    rw [if_pos rfl]
    rw [a4] at a
    simp only [List.sum_cons] at a
    exact ⟨by omega, by omega, by omega⟩
  · rw [if_neg e, a5 k e]
    exact ⟨a, b, by omega⟩
theorem Bal.dry {C E : List Int} {s : St} {i : Nat} (h : Bal C E s i) (hc : cnt s = 0) : C = E := by
  obtain ⟨h1, h2, h3⟩ := h
  unfold cnt at hc
  apply List.ext_getElem (by omega)
  intro k a b
  have e : (at_ s.1 k).w.length = 0 := by
    rcases (show k = 0 ∨ k = 1 ∨ k = 2 by omega) with e | e | e <;> subst e <;> omega
  have := (h3 k (by omega)).1
  rw [List.length_eq_zero_iff.1 e] at this
  simpa [List.getD_eq_getElem?_getD, List.getElem?_eq_getElem a, List.getElem?_eq_getElem b] using this
set_option maxHeartbeats 4000000 in
set_option maxRecDepth 100000 in
theorem fairAll_sp (a0 : Option Addr) (len0 cap0 : Nat) (z0 : List Int) (hl0 : z0.length = len0) (hb0 : len0 ≤ 9223372036854775807) (hw0 : ∀ z ∈ z0, -9223372036854775808 ≤ z ∧ z ≤ 9223372036854775807) (a1 : Option Addr) (len1 cap1 : Nat) (z1 : List Int) (hl1 : z1.length = len1) (hb1 : len1 ≤ 9223372036854775807) (hw1 : ∀ z ∈ z1, -9223372036854775808 ≤ z ∧ z ≤ 9223372036854775807) :
    Spec Try.prog 11 [.slice a0 len0 cap0, .slice a1 len1 cap1] [.sl a0 len0 cap0 1 (flat (eI .i64) z0), .sl a1 len1 cap1 1 (flat (eI .i64) z1)] fun v give => v = .bool true ∧ give = [] := by
  refine Spec.intro Try.func11 rfl Try.ntmps11 rfl fun w0 rest rs_ hrs_ => ?_
  simp only [List.cons_append, List.nil_append] at hrs_
  subst hrs_
  repeat (first | (apply G.ex (hd := rfl); case h => (first | exact Ex.move rfl | exact Ex.assign rfl)) | refine G.nil ?_ | refine GC.seq ?_ | refine GC.region ?_ | refine GE.then_normal ?_)
  first | refine G.call (caps := []) (feeds_sp a1 len1 cap1 z1 hl1 (by omega) hw1 120 (by decide)) rfl rfl rfl rfl (by repeat (first | exact Takes.nil | apply Takes.dup rfl | apply Takes.cons | exact Take1.here | apply Take1.there)) ?_ | refine G.callU (caps := []) (feeds_sp a1 len1 cap1 z1 hl1 (by omega) hw1 120 (by decide)) rfl rfl rfl (by repeat (first | exact Takes.nil | apply Takes.dup rfl | apply Takes.cons | exact Take1.here | apply Take1.there)) ?_
  rintro v_ give_ ⟨fa, fc, rfl, rfl⟩ rs_ hrs_
  simp only [List.cons_append, List.nil_append] at hrs_
  subst hrs_
  obtain ⟨N, hN⟩ : ∃ N, N = min len1 120 := ⟨_, rfl⟩
  obtain ⟨L, hL⟩ : ∃ L, L = feeds (z1.take N) := ⟨_, rfl⟩
  rw [← hN, ← hL]
  have hLl : L.length = N := by rw [hL, feeds, List.length_map, List.length_take]; omega
  have hLo : ∀ f ∈ L, f.1 < 3 ∧ 0 ≤ f.2 ∧ f.2 ≤ 150 := by rw [hL]; exact feeds_ok _
  repeat (first | (apply G.ex (hd := rfl); case h => (first | exact Ex.assign rfl)) | refine G.nil ?_ | refine GC.seq ?_ | refine GC.region ?_ | refine GC.block ?_ | refine GE.then_normal ?_)
  rw [show flat eFd L = flat eFd (L ++ List.replicate 0 ((0 : Nat), (0 : Int))) by rw [List.replicate_zero, List.append_nil]]
  refine GC.loop (ι := Nat × Option Addr × Nat) (fun x => x.1 ≤ 121) (fun x => 121 - x.1) (fun x => [(0, .slice a0 len0 cap0), (5, .slice x.2.1 (N + x.1) x.2.2), (6, .int .i64 (x.1 : Int))]) (fun x => [.vec 57 2 x.2.1 (N + x.1) x.2.2 (flat eFd (L ++ List.replicate x.1 (0, 0))), .sl a0 len0 cap0 1 (flat (eI .i64) z0)]) (0, fa, fc) (Nat.zero_le _) (by simp only [fits]; repeat (first | exact trivial | refine And.intro rfl ?_)) (by repeat (first | exact Takes.nil | apply Takes.dup rfl | apply Takes.cons | exact Take1.here | apply Take1.there)) ?_
  · rintro ⟨k, ga, gc⟩ hk fr_ rs_ hfr_ hrs_
    simp only [List.cons_append, List.nil_append] at hfr_ hrs_
    subst hfr_ hrs_
    simp only at hk
    repeat (first | (apply G.ex (hd := rfl); case h => (first | exact Ex.move rfl | exact Ex.lss rfl rfl)) | refine G.nil ?_ | refine GC.seq ?_ | refine GC.region ?_ | refine GE.then_normal ?_)
    refine GC.cond_dec rfl (fun hlt => ?_) (fun hlt => ?_)
    · have hlt : k < 121 := by omega
      have hcat : flat eFd (L ++ List.replicate k ((0 : Nat), (0 : Int))) ++ flat eFd [((0 : Nat), (0 : Int))] = flat eFd (L ++ List.replicate (k + 1) (0, 0)) := by rw [← flat_append, List.append_assoc, ← List.replicate_succ']
      repeat (first | (apply G.ex (hd := rfl); case h => (first | exact Ex.move rfl | exact Ex.build rfl rfl)) | refine GC.seq ?_ | refine GC.region ?_ | refine GC.block ?_ | refine GC.skip ?_ | refine GE.then_normal ?_)
      refine G.lit rfl (by rfl) (by rfl) (by rfl) (by rfl) (by rfl) (by rfl) rfl (fun y => ?_)
      repeat (first | fail)
      refine G.app rfl rfl (by rfl) (by omega) rfl (hcat) (fun o2 c2 rs_ hrs_ => ?_)
      try simp only at hrs_
      subst hrs_
      repeat (first | (apply G.ex (hd := rfl); case h => (first | exact Ex.move rfl | exact Ex.add rfl rfl (by omega) | exact Ex.assign rfl)) | refine G.nil ?_ | refine GC.region ?_ | refine GE.then_normal ?_ | refine GE.block_normal ?_)
      refine GE.loop (k + 1, o2, c2) (by simp only; omega) (by simp only; omega) (by simp only [fits]; repeat (first | exact trivial | refine And.intro rfl ?_)) (by repeat (first | exact Takes.nil | apply Takes.dup rfl | apply Takes.cons | exact Take1.here | apply Take1.there)) (by repeat (first | exact Subs.refl | refine Subs.skip ?_))
    · have hk1 : k = 121 := by omega
      subst hk1
      obtain ⟨F, hF⟩ : ∃ F, F = L ++ List.replicate 121 ((0 : Nat), (0 : Int)) := ⟨_, rfl⟩
      obtain ⟨M, hM⟩ : ∃ M, M = N + 121 := ⟨_, rfl⟩
      rw [← hF, ← hM]
      have hFl : F.length = M := by rw [hF, hM, List.length_append, List.length_replicate, hLl]
      have hFo : ∀ f ∈ F, f.1 < 3 ∧ 0 ≤ f.2 ∧ f.2 ≤ 150 := fun f hf => by
        rw [hF] at hf
        rcases List.mem_append.1 hf with hf | hf
        · exact hLo f hf
        · have := List.eq_of_mem_replicate hf; subst this; simp
      repeat (first | (apply G.ex (hd := rfl); case h => (first | exact Ex.move rfl)) | refine GC.seq ?_ | refine GC.region ?_ | refine GC.exit ?_ | refine GE.then_normal ?_ | refine GE.then_exit ?_ | refine GE.block_hit ?_)
      first | refine G.call (caps := []) (quanta_sp a0 len0 cap0 z0 hl0 (by omega) hw0) rfl rfl rfl rfl (by repeat (first | exact Takes.nil | apply Takes.dup rfl | apply Takes.cons | exact Take1.here | apply Take1.there)) ?_ | refine G.callU (caps := []) (quanta_sp a0 len0 cap0 z0 hl0 (by omega) hw0) rfl rfl rfl (by repeat (first | exact Takes.nil | apply Takes.dup rfl | apply Takes.cons | exact Take1.here | apply Take1.there)) ?_
      rintro v_ give_ ⟨qa, Q, rfl, hQl, hQ, rfl⟩ rs_ hrs_
      simp only [List.cons_append, List.nil_append] at hrs_
      subst hrs_
      repeat (first | (apply G.ex (hd := rfl); case h => (first | exact Ex.move rfl)))
      first | refine G.call (caps := []) (lined_sp (.vec 3 1 qa 3 3 (flat (eI .i64) Q)) qa 3 3 Q inferInstance hQl (by decide) (by decide) (fun q hq => by have := hQ q hq; omega) (.vec 57 2 ga M gc (flat eFd F)) ga M gc F inferInstance hFl (by omega) (fun f hf => by have := hFo f hf; omega)) rfl rfl rfl rfl (by repeat (first | exact Takes.nil | apply Takes.dup rfl | apply Takes.cons | exact Take1.here | apply Take1.there)) ?_ | refine G.callU (caps := []) (lined_sp (.vec 3 1 qa 3 3 (flat (eI .i64) Q)) qa 3 3 Q inferInstance hQl (by decide) (by decide) (fun q hq => by have := hQ q hq; omega) (.vec 57 2 ga M gc (flat eFd F)) ga M gc F inferInstance hFl (by omega) (fun f hf => by have := hFo f hf; omega)) rfl rfl rfl (by repeat (first | exact Takes.nil | apply Takes.dup rfl | apply Takes.cons | exact Take1.here | apply Take1.there)) ?_
      rintro v_ give_ ⟨oa, oc, os, s, hp, hos, rfl, rfl⟩ rs_ hrs_
      simp only [List.cons_append, List.nil_append] at hrs_
      subst hrs_
      have hw3 : Wf (fresh Q) := fresh_wf (by omega) (fun q hq => by have := hQ q hq; omega)
      have hl3 : (fresh Q).1.length = 3 := by simp [fresh, hQl]
      have hend : cnt s = 0 ∧ (os.getD (M - 1) default).1 = 7 := by
        have hp' := hp
        rw [hF] at hp'
        obtain ⟨s1, p1, p2⟩ := hp'.split
        obtain ⟨x1, x2, x3⟩ := plays_cnt p1 hw3 hl3 (fun f hf => by have := hLo f hf; omega)
        have h0 : cnt (fresh Q) = 0 := by unfold cnt; rw [(fresh_at Q 0).1, (fresh_at Q 1).1, (fresh_at Q 2).1]; rfl
        obtain ⟨y1, y2⟩ := plays_dry p2 x1 x2 (fun f hf => List.eq_of_mem_replicate hf) (by rw [List.length_replicate]; omega)
        refine ⟨y1, ?_⟩
        rw [← y2, List.getD_eq_getElem?_getD, List.getD_eq_getElem?_getD, List.getElem?_drop, List.length_replicate, hLl]
        congr 3
        omega
      obtain ⟨hend0, hend7⟩ := hend
      repeat (first | (apply G.ex (hd := rfl); case h => (first | exact Ex.move rfl | exact Ex.extract rfl rfl | exact Ex.assign rfl | exact Ex.notB rfl)) | refine G.nil ?_ | refine GC.seq ?_ | refine GC.region ?_ | refine GC.skip ?_ | refine GE.then_normal ?_ | refine GC.cond_f rfl ?_)
      refine G.alloc rfl (fun cb => ?_)
      refine G.conv (fun w_ H_ => Holds.blkVec (m := 3) (s := 1) H_ rfl (by simp [Value.oneCell']) (by decide)) ?_
      rw [show ([.int .i64 0, .int .i64 0, .int .i64 0] : List Value) = flat (eI .i64) ([0, 0, 0] : List Int) from rfl]
      repeat (first | refine G.nil ?_ | refine GC.seq ?_ | refine GC.region ?_ | refine GE.then_normal ?_)
      refine G.alloc rfl (fun eb => ?_)
      refine G.conv (fun w_ H_ => Holds.blkVec (m := 3) (s := 1) H_ rfl (by simp [Value.oneCell']) (by decide)) ?_
      change @G _ _ _ _ _ _ _ (.vec _ 1 _ 3 3 (flat (eI .i64) ([0, 0, 0] : List Int)) :: _)
      have hB0 : Bal [0, 0, 0] [0, 0, 0] (fresh Q) 0 := ⟨rfl, rfl, fun k hk => by
        rw [(fresh_at Q k).1]
        match k, hk with
        | 0, _ => exact ⟨rfl, by decide, by decide⟩
        | 1, _ => exact ⟨rfl, by decide, by decide⟩
        | 2, _ => exact ⟨rfl, by decide, by decide⟩⟩
      repeat (first | (apply G.ex (hd := rfl); case h => (first | exact Ex.assign rfl)) | refine G.nil ?_ | refine GC.seq ?_ | refine GC.region ?_ | refine GC.block ?_ | refine GE.then_normal ?_)
      refine GC.loop (ι := Nat × List Int × List Int × St) (fun x => x.1 ≤ M ∧ Bal x.2.1 x.2.2.1 x.2.2.2 x.1 ∧ Wf x.2.2.2 ∧ x.2.2.2.1.length = 3 ∧ Plays x.2.2.2 (F.drop x.1) (os.drop x.1) s) (fun x => M - x.1) (fun x => [(5, .slice ga M gc), (7, .slice oa M oc), (9, .pointer (some (badr cb 0))), (10, .pointer (some (badr eb 0))), (11, .int .i64 (x.1 : Int))]) (fun x => [.vec 63 1 (some (badr cb 0)) 3 3 (flat (eI .i64) x.2.1), .vec 63 1 (some (badr eb 0)) 3 3 (flat (eI .i64) x.2.2.1), .vec 59 3 oa M oc (flat eO os), .vec 57 2 ga M gc (flat eFd F)]) (0, [0, 0, 0], [0, 0, 0], fresh Q) ⟨Nat.zero_le _, hB0, hw3, hl3, by simpa using hp⟩ (by simp only [fits]; repeat (first | exact trivial | refine And.intro rfl ?_)) (by repeat (first | exact Takes.nil | apply Takes.dup rfl | apply Takes.cons | exact Take1.here | apply Take1.there)) ?_
      · rintro ⟨i, C, E, st⟩ ⟨hi_, hB_, hw_, hl_, hp_⟩ fr_ rs_ hfr_ hrs_
        simp only [List.cons_append, List.nil_append] at hfr_ hrs_
        subst hfr_ hrs_
        obtain ⟨hi, hB, hw, hl, hpl⟩ : i ≤ M ∧ Bal C E st i ∧ Wf st ∧ st.1.length = 3 ∧ Plays st (F.drop i) (os.drop i) s := ⟨hi_, hB_, hw_, hl_, hp_⟩
        clear hi_ hB_ hw_ hl_ hp_
        have hC3 := hB.1
        have hE3 := hB.2.1
        repeat (first | (apply G.ex (hd := rfl); case h => (first | exact Ex.move rfl | exact Ex.lss rfl rfl | exact Ex.lenSl rfl)) | refine G.nil ?_ | refine GC.seq ?_ | refine GC.region ?_ | refine GE.then_normal ?_)
        refine GC.cond_dec rfl (fun hlt => ?_) (fun hlt => ?_)
        · have hlt : i < M := by omega
          obtain ⟨hio, s1, hst, hp1⟩ := hpl.next (by omega)
          have hFi := hFo (F.getD i default) (by rw [List.getD_eq_getElem?_getD, List.getElem?_eq_getElem (by omega)]; exact List.getElem_mem _)
          obtain ⟨hw1', hl1'⟩ := step_wf hst hw (by omega) (by omega)
          generalize hFF : F.getD i default = FF at hst hFi
          generalize hO : os.getD i default = O at hst
          cases hst with
          | comes j z hz =>
            have F1 : (F.getD i default).1 = j := by rw [hFF]
            have F2 : (F.getD i default).2 = z := by rw [hFF]
            have O1 : (os.getD i default).1 = (comes st j z).2 := by rw [hO]
            have hj : j < 3 := hFi.1
            have hz2 : z ≤ 150 := hFi.2.2
            clear hFF hO
            obtain rfl := F1
            obtain rfl := F2
            have hpos : 0 < (F.getD i default).2 := by omega
            have hne0 : ¬ (F.getD i default).2 = 0 := by omega
            by_cases h40 : (at_ st.1 (F.getD i default).1).w.length = 40
            · have c9 : (comes st (F.getD i default).1 (F.getD i default).2) = (st, 9) := by unfold comes; rw [if_pos h40]
              rw [c9] at O1 hw1' hl1' hp1
              have hno : ¬ (os.getD i default).1 = 0 := by rw [O1]; exact (by decide : ¬ (9 : Int) = 0)
              repeat (first | (apply G.ex (hd := rfl); case h => (first | exact Ex.move rfl | exact Ex.fieldE rfl | exact Ex.add rfl rfl (by omega) | exact Ex.gtr rfl rfl | exact Ex.eqI rfl rfl | exact Ex.indexN rfl rfl (by first | omega | (simp; done) | (simp; omega)) | exact Ex.loadT0 rfl (by first | omega | (simp; done) | (simp; omega)) rfl | exact Ex.loadT rfl (by first | omega | (simp; done) | (simp; omega)) rfl | exact Ex.assign rfl | exact Ex.pickT rfl (by first | assumption | omega) rfl | exact Ex.pickF rfl (by first | assumption | omega) rfl)) | refine G.g_tt rfl rfl (by first | assumption | omega) ?_ | refine G.g_tf rfl rfl (by first | assumption | omega) rfl ?_ | refine G.nil ?_ | refine GC.seq ?_ | refine GC.region ?_ | refine GC.block ?_ | refine GC.skip ?_ | refine GE.then_normal ?_ | refine GE.block_normal ?_ | refine GC.cond_no rfl (by first | assumption | omega) ?_ | refine GC.cond_f rfl ?_)
              refine GE.loop (i + 1, C, E, st) ⟨by simp only; omega, hB.more, hw, hl, hp1⟩ (by simp only; omega) (by simp only [fits]; repeat (first | exact trivial | refine And.intro rfl ?_)) (by repeat (first | exact Takes.nil | apply Takes.dup rfl | apply Takes.cons | exact Take1.here | apply Take1.there)) (by repeat (first | exact Subs.refl | refine Subs.skip ?_))
            · have c0 : (comes st (F.getD i default).1 (F.getD i default).2).2 = 0 := by unfold comes; rw [if_neg h40]
              rw [c0] at O1
              have hB' := hB.comes hj hl (z := (F.getD i default).2) ⟨by omega, hz2⟩ h40
              have hb3 := hB.2.2 _ hj
              have hsn := wf_sum hw (F.getD i default).1
              repeat (first | (apply G.ex (hd := rfl); case h => (first | exact Ex.move rfl | exact Ex.fieldE rfl | exact Ex.gtr rfl rfl | exact Ex.eqI rfl rfl | exact Ex.indexN rfl rfl (by first | omega | (simp; done) | (simp; omega)) | exact Ex.loadT0 rfl (by first | omega | (simp; done) | (simp; omega)) rfl | exact Ex.loadT rfl (by first | omega | (simp; done) | (simp; omega)) rfl | exact Ex.assign rfl | exact Ex.pickT rfl (by first | assumption | omega) rfl)) | refine G.g_tt rfl rfl (by first | assumption | omega) ?_ | refine G.nil ?_ | refine GC.seq ?_ | refine GC.region ?_ | refine GC.block ?_ | refine GC.skip ?_ | refine GE.then_normal ?_ | refine GC.cond_yes rfl (by first | assumption | omega) ?_)
              refine GC.drawA [14] [.vec 63 1 (some (badr cb 0)) 3 3 (flat (eI .i64) C), .vec 57 2 ga M gc (flat eFd F)] (by repeat (first | exact Takes.nil | apply Takes.dup rfl | apply Takes.cons | exact Take1.here | apply Take1.there)) (by kernel_rfl) ?_
              first | (apply GA.take [] (hD := .inl rfl) (hsub := ⟨_, Takes.nil⟩) (i := 0) (hi := rfl) (hs := by kernel_rfl) (hfr := by kernel_rfl) (hr := by kernel_rfl) (hQ := (by repeat (first | exact NoPanic.fpost | apply NoPanic.then_ | apply NoPanic.block))) (hd := rfl); case hx => (first | exact Ex.move rfl))
              first | (apply GA.take [] (hD := .inl rfl) (hsub := ⟨_, Takes.nil⟩) (i := 1) (hi := rfl) (hs := by kernel_rfl) (hfr := by kernel_rfl) (hr := by kernel_rfl) (hQ := (by repeat (first | exact NoPanic.fpost | apply NoPanic.then_ | apply NoPanic.block))) (hd := rfl); case hx => (first | exact Ex.move rfl))
              first | (apply GA.take _ (hD := .inr ⟨rfl, by kernel_rfl⟩) (hsub := ⟨_, (by repeat (first | exact Takes.nil | apply Takes.dup rfl | apply Takes.cons | exact Take1.here | apply Take1.there))⟩) (i := 2) (hi := rfl) (hs := by kernel_rfl) (hfr := by kernel_rfl) (hr := by kernel_rfl) (hQ := (by repeat (first | exact NoPanic.fpost | apply NoPanic.then_ | apply NoPanic.block))) (hd := rfl); case hx => (first | exact Ex.indexN rfl rfl (by first | omega | (simp; done) | (simp; omega))))
              first | (apply GA.take [] (hD := .inl rfl) (hsub := ⟨_, Takes.nil⟩) (i := 3) (hi := rfl) (hs := by kernel_rfl) (hfr := by kernel_rfl) (hr := by kernel_rfl) (hQ := (by repeat (first | exact NoPanic.fpost | apply NoPanic.then_ | apply NoPanic.block))) (hd := rfl); case hx => (first | exact Ex.fieldE rfl))
              first | (apply GA.take _ (hD := .inr ⟨rfl, by kernel_rfl⟩) (hsub := ⟨_, (by repeat (first | exact Takes.nil | apply Takes.dup rfl | apply Takes.cons | exact Take1.here | apply Take1.there))⟩) (i := 4) (hi := rfl) (hs := by kernel_rfl) (hfr := by kernel_rfl) (hr := by kernel_rfl) (hQ := (by repeat (first | exact NoPanic.fpost | apply NoPanic.then_ | apply NoPanic.block))) (hd := rfl); case hx => (first | exact Ex.loadT0 rfl (by first | omega | (simp; done) | (simp; omega)) rfl))
              first | (apply GA.take [] (hD := .inl rfl) (hsub := ⟨_, Takes.nil⟩) (i := 5) (hi := rfl) (hs := by kernel_rfl) (hfr := by kernel_rfl) (hr := by kernel_rfl) (hQ := (by repeat (first | exact NoPanic.fpost | apply NoPanic.then_ | apply NoPanic.block))) (hd := rfl); case hx => (first | exact Ex.indexArr rfl rfl (by first | omega | (simp; done) | (simp; omega))))
              first | (apply GA.take _ (hD := .inr ⟨rfl, by kernel_rfl⟩) (hsub := ⟨_, (by repeat (first | exact Takes.nil | apply Takes.dup rfl | apply Takes.cons | exact Take1.here | apply Take1.there))⟩) (i := 6) (hi := rfl) (hs := by kernel_rfl) (hfr := by kernel_rfl) (hr := by kernel_rfl) (hQ := (by repeat (first | exact NoPanic.fpost | apply NoPanic.then_ | apply NoPanic.block))) (hd := rfl); case hx => (first | exact Ex.loadT0 rfl (by first | omega | (simp; done) | (simp; omega)) rfl))
              first | (apply GA.take [] (hD := .inl rfl) (hsub := ⟨_, Takes.nil⟩) (i := 7) (hi := rfl) (hs := by kernel_rfl) (hfr := by kernel_rfl) (hr := by kernel_rfl) (hQ := (by repeat (first | exact NoPanic.fpost | apply NoPanic.then_ | apply NoPanic.block))) (hd := rfl); case hx => (first | exact Ex.move rfl))
              first | (apply GA.take [] (hD := .inl rfl) (hsub := ⟨_, Takes.nil⟩) (i := 8) (hi := rfl) (hs := by kernel_rfl) (hfr := by kernel_rfl) (hr := by kernel_rfl) (hQ := (by repeat (first | exact NoPanic.fpost | apply NoPanic.then_ | apply NoPanic.block))) (hd := rfl); case hx => (first | exact Ex.move rfl))
              first | (apply GA.take _ (hD := .inr ⟨rfl, by kernel_rfl⟩) (hsub := ⟨_, (by repeat (first | exact Takes.nil | apply Takes.dup rfl | apply Takes.cons | exact Take1.here | apply Take1.there))⟩) (i := 9) (hi := rfl) (hs := by kernel_rfl) (hfr := by kernel_rfl) (hr := by kernel_rfl) (hQ := (by repeat (first | exact NoPanic.fpost | apply NoPanic.then_ | apply NoPanic.block))) (hd := rfl); case hx => (first | exact Ex.indexN rfl rfl (by first | omega | (simp; done) | (simp; omega))))
              first | (apply GA.take [] (hD := .inl rfl) (hsub := ⟨_, Takes.nil⟩) (i := 10) (hi := rfl) (hs := by kernel_rfl) (hfr := by kernel_rfl) (hr := by kernel_rfl) (hQ := (by repeat (first | exact NoPanic.fpost | apply NoPanic.then_ | apply NoPanic.block))) (hd := rfl); case hx => (first | exact Ex.fieldE rfl))
              first | (apply GA.take _ (hD := .inr ⟨rfl, by kernel_rfl⟩) (hsub := ⟨_, (by repeat (first | exact Takes.nil | apply Takes.dup rfl | apply Takes.cons | exact Take1.here | apply Take1.there))⟩) (i := 11) (hi := rfl) (hs := by kernel_rfl) (hfr := by kernel_rfl) (hr := by kernel_rfl) (hQ := (by repeat (first | exact NoPanic.fpost | apply NoPanic.then_ | apply NoPanic.block))) (hd := rfl); case hx => (first | exact Ex.loadT rfl (by first | omega | (simp; done) | (simp; omega)) rfl))
              first | (apply GA.take [] (hD := .inl rfl) (hsub := ⟨_, Takes.nil⟩) (i := 12) (hi := rfl) (hs := by kernel_rfl) (hfr := by kernel_rfl) (hr := by kernel_rfl) (hQ := (by repeat (first | exact NoPanic.fpost | apply NoPanic.then_ | apply NoPanic.block))) (hd := rfl); case hx => (first | exact Ex.add rfl rfl (by omega)))
              first | (apply GA.take [] (hD := .inl rfl) (hsub := ⟨_, Takes.nil⟩) (i := 13) (hi := rfl) (hs := by kernel_rfl) (hfr := by kernel_rfl) (hr := by kernel_rfl) (hQ := (by repeat (first | exact NoPanic.fpost | apply NoPanic.then_ | apply NoPanic.block))) (hd := rfl); case hx => (first | exact Ex.indexArr rfl rfl (by first | omega | (simp; done) | (simp; omega))))
              refine GA.one (i := 14) (by kernel_rfl) rfl ?_
              first | refine G.storeT0 rfl rfl rfl rfl (by first | omega | (simp; omega)) rfl ((C.getD (F.getD i default).1 default + (F.getD i default).2)) (rfl) (fun rs_ hrs_ => ?_) | refine G.storeT rfl rfl rfl rfl (by first | omega | (simp; omega)) rfl ((C.getD (F.getD i default).1 default + (F.getD i default).2)) (rfl) (fun rs_ hrs_ => ?_) | refine G.storeTA rfl rfl (by first | omega | (simp; omega)) rfl ((C.getD (F.getD i default).1 default + (F.getD i default).2)) (rfl) (fun rs_ hrs_ => ?_)
              try simp only at hrs_
              subst hrs_
              try refine G.nil ?_
              refine GA.back (by first | exact .inl (by decide) | exact .inr ⟨_, (by repeat (first | exact Takes.nil | apply Takes.dup rfl | apply Takes.cons | exact Take1.here | apply Take1.there))⟩) ?_
              refine GA.done (by kernel_rfl) ?_
              repeat (first | (apply G.ex (hd := rfl); case h => (first | exact Ex.move rfl | exact Ex.add rfl rfl (by omega) | exact Ex.assign rfl)) | refine G.nil ?_ | refine GC.region ?_ | refine GE.then_normal ?_ | refine GE.block_normal ?_)
              refine GE.loop (i + 1, C.set (F.getD i default).1 (C.getD (F.getD i default).1 default + (F.getD i default).2), E, _) ⟨by simp only; omega, hB', hw1', by rw [hl1']; exact hl, hp1⟩ (by simp only; omega) (by simp only [fits]; repeat (first | exact trivial | refine And.intro rfl ?_)) (by repeat (first | exact Takes.nil | apply Takes.dup rfl | apply Takes.cons | exact Take1.here | apply Take1.there)) (by repeat (first | exact Subs.refl | refine Subs.skip ?_))
          | none j z hz hT =>
            have F2 : (F.getD i default).2 = 0 := by rw [hFF]; exact hz
            have O1 : (os.getD i default).1 = 7 := by rw [hO]
            have hno : ¬ (os.getD i default).1 = 0 := by rw [O1]; decide
            have hnp : ¬ 0 < (F.getD i default).2 := by omega
            repeat (first | (apply G.ex (hd := rfl); case h => (first | exact Ex.move rfl | exact Ex.fieldE rfl | exact Ex.add rfl rfl (by omega) | exact Ex.gtr rfl rfl | exact Ex.eqI rfl rfl | exact Ex.indexN rfl rfl (by first | omega | (simp; done) | (simp; omega)) | exact Ex.loadT0 rfl (by first | omega | (simp; done) | (simp; omega)) rfl | exact Ex.loadT rfl (by first | omega | (simp; done) | (simp; omega)) rfl | exact Ex.assign rfl | exact Ex.pickT rfl (by first | assumption | omega) rfl | exact Ex.pickF rfl (by first | assumption | omega) rfl)) | refine G.g_tt rfl rfl (by first | assumption | omega) ?_ | refine G.g_tf rfl rfl (by first | assumption | omega) rfl ?_ | refine G.nil ?_ | refine GC.seq ?_ | refine GC.region ?_ | refine GC.block ?_ | refine GC.skip ?_ | refine GE.then_normal ?_ | refine GE.block_normal ?_ | refine GC.cond_no rfl (by first | assumption | omega) ?_ | refine GC.cond_f rfl ?_)
            refine GE.loop (i + 1, C, E, st) ⟨by simp only; omega, hB.more, hw, hl, hp1⟩ (by simp only; omega) (by simp only [fits]; repeat (first | exact trivial | refine And.intro rfl ?_)) (by repeat (first | exact Takes.nil | apply Takes.dup rfl | apply Takes.cons | exact Take1.here | apply Take1.there)) (by repeat (first | exact Subs.refl | refine Subs.skip ?_))
          | sends _ j z o hz hS =>
            have F2 : (F.getD i default).2 = 0 := by rw [hFF]; exact hz
            have O1 : (os.getD i default).1 = 0 := by rw [hO]
            have O2 : (os.getD i default).2 = o := by rw [hO]
            have hnp : ¬ 0 < (F.getD i default).2 := by omega
            clear hFF hO
            obtain rfl := O2
            obtain ⟨ho, hs0, hs1, hB'⟩ := hB.sends hw hl hS
            have hb3 := hB.2.2 _ ho
            have hsn := wf_sum hw (os.getD i default).2.1
            have hn0 : ¬ ((os.getD i default).2.1 : Int) < 0 := by omega
            have hn2 : ¬ (2 : Int) < ((os.getD i default).2.1 : Int) := by omega
            repeat (first | (apply G.ex (hd := rfl); case h => (first | exact Ex.move rfl | exact Ex.fieldE rfl | exact Ex.lss rfl rfl | exact Ex.gtr rfl rfl | exact Ex.eqI rfl rfl | exact Ex.indexN rfl rfl (by first | omega | (simp; done) | (simp; omega)) | exact Ex.loadT0 rfl (by first | omega | (simp; done) | (simp; omega)) rfl | exact Ex.loadT rfl (by first | omega | (simp; done) | (simp; omega)) rfl | exact Ex.assign rfl | exact Ex.pickT rfl (by first | assumption | omega) rfl | exact Ex.pickF rfl (by first | assumption | omega) rfl)) | refine G.g_tt rfl rfl (by first | assumption | omega) ?_ | refine G.g_tf rfl rfl (by first | assumption | omega) rfl ?_ | refine G.g_ff rfl rfl (by first | assumption | omega) ?_ | refine G.nil ?_ | refine GC.seq ?_ | refine GC.region ?_ | refine GC.block ?_ | refine GC.skip ?_ | refine GE.then_normal ?_ | refine GC.cond_yes rfl (by first | assumption | omega) ?_ | refine GC.cond_no rfl (by first | assumption | omega) ?_ | refine GC.cond_f rfl ?_)
            refine GC.drawA [14] [.vec 63 1 (some (badr eb 0)) 3 3 (flat (eI .i64) E), .vec 59 3 oa M oc (flat eO os)] (by repeat (first | exact Takes.nil | apply Takes.dup rfl | apply Takes.cons | exact Take1.here | apply Take1.there)) (by kernel_rfl) ?_
            first | (apply GA.take [] (hD := .inl rfl) (hsub := ⟨_, Takes.nil⟩) (i := 0) (hi := rfl) (hs := by kernel_rfl) (hfr := by kernel_rfl) (hr := by kernel_rfl) (hQ := (by repeat (first | exact NoPanic.fpost | apply NoPanic.then_ | apply NoPanic.block))) (hd := rfl); case hx => (first | exact Ex.move rfl))
            first | (apply GA.take [] (hD := .inl rfl) (hsub := ⟨_, Takes.nil⟩) (i := 1) (hi := rfl) (hs := by kernel_rfl) (hfr := by kernel_rfl) (hr := by kernel_rfl) (hQ := (by repeat (first | exact NoPanic.fpost | apply NoPanic.then_ | apply NoPanic.block))) (hd := rfl); case hx => (first | exact Ex.move rfl))
            first | (apply GA.take _ (hD := .inr ⟨rfl, by kernel_rfl⟩) (hsub := ⟨_, (by repeat (first | exact Takes.nil | apply Takes.dup rfl | apply Takes.cons | exact Take1.here | apply Take1.there))⟩) (i := 2) (hi := rfl) (hs := by kernel_rfl) (hfr := by kernel_rfl) (hr := by kernel_rfl) (hQ := (by repeat (first | exact NoPanic.fpost | apply NoPanic.then_ | apply NoPanic.block))) (hd := rfl); case hx => (first | exact Ex.indexN rfl rfl (by first | omega | (simp; done) | (simp; omega))))
            first | (apply GA.take [] (hD := .inl rfl) (hsub := ⟨_, Takes.nil⟩) (i := 3) (hi := rfl) (hs := by kernel_rfl) (hfr := by kernel_rfl) (hr := by kernel_rfl) (hQ := (by repeat (first | exact NoPanic.fpost | apply NoPanic.then_ | apply NoPanic.block))) (hd := rfl); case hx => (first | exact Ex.fieldE rfl))
            first | (apply GA.take _ (hD := .inr ⟨rfl, by kernel_rfl⟩) (hsub := ⟨_, (by repeat (first | exact Takes.nil | apply Takes.dup rfl | apply Takes.cons | exact Take1.here | apply Take1.there))⟩) (i := 4) (hi := rfl) (hs := by kernel_rfl) (hfr := by kernel_rfl) (hr := by kernel_rfl) (hQ := (by repeat (first | exact NoPanic.fpost | apply NoPanic.then_ | apply NoPanic.block))) (hd := rfl); case hx => (first | exact Ex.loadT rfl (by first | omega | (simp; done) | (simp; omega)) rfl))
            first | (apply GA.take [] (hD := .inl rfl) (hsub := ⟨_, Takes.nil⟩) (i := 5) (hi := rfl) (hs := by kernel_rfl) (hfr := by kernel_rfl) (hr := by kernel_rfl) (hQ := (by repeat (first | exact NoPanic.fpost | apply NoPanic.then_ | apply NoPanic.block))) (hd := rfl); case hx => (first | exact Ex.indexArr rfl rfl (by first | omega | (simp; done) | (simp; omega))))
            first | (apply GA.take _ (hD := .inr ⟨rfl, by kernel_rfl⟩) (hsub := ⟨_, (by repeat (first | exact Takes.nil | apply Takes.dup rfl | apply Takes.cons | exact Take1.here | apply Take1.there))⟩) (i := 6) (hi := rfl) (hs := by kernel_rfl) (hfr := by kernel_rfl) (hr := by kernel_rfl) (hQ := (by repeat (first | exact NoPanic.fpost | apply NoPanic.then_ | apply NoPanic.block))) (hd := rfl); case hx => (first | exact Ex.loadT0 rfl (by first | omega | (simp; done) | (simp; omega)) rfl))
            first | (apply GA.take [] (hD := .inl rfl) (hsub := ⟨_, Takes.nil⟩) (i := 7) (hi := rfl) (hs := by kernel_rfl) (hfr := by kernel_rfl) (hr := by kernel_rfl) (hQ := (by repeat (first | exact NoPanic.fpost | apply NoPanic.then_ | apply NoPanic.block))) (hd := rfl); case hx => (first | exact Ex.move rfl))
            first | (apply GA.take [] (hD := .inl rfl) (hsub := ⟨_, Takes.nil⟩) (i := 8) (hi := rfl) (hs := by kernel_rfl) (hfr := by kernel_rfl) (hr := by kernel_rfl) (hQ := (by repeat (first | exact NoPanic.fpost | apply NoPanic.then_ | apply NoPanic.block))) (hd := rfl); case hx => (first | exact Ex.move rfl))
            first | (apply GA.take _ (hD := .inr ⟨rfl, by kernel_rfl⟩) (hsub := ⟨_, (by repeat (first | exact Takes.nil | apply Takes.dup rfl | apply Takes.cons | exact Take1.here | apply Take1.there))⟩) (i := 9) (hi := rfl) (hs := by kernel_rfl) (hfr := by kernel_rfl) (hr := by kernel_rfl) (hQ := (by repeat (first | exact NoPanic.fpost | apply NoPanic.then_ | apply NoPanic.block))) (hd := rfl); case hx => (first | exact Ex.indexN rfl rfl (by first | omega | (simp; done) | (simp; omega))))
            first | (apply GA.take [] (hD := .inl rfl) (hsub := ⟨_, Takes.nil⟩) (i := 10) (hi := rfl) (hs := by kernel_rfl) (hfr := by kernel_rfl) (hr := by kernel_rfl) (hQ := (by repeat (first | exact NoPanic.fpost | apply NoPanic.then_ | apply NoPanic.block))) (hd := rfl); case hx => (first | exact Ex.fieldE rfl))
            first | (apply GA.take _ (hD := .inr ⟨rfl, by kernel_rfl⟩) (hsub := ⟨_, (by repeat (first | exact Takes.nil | apply Takes.dup rfl | apply Takes.cons | exact Take1.here | apply Take1.there))⟩) (i := 11) (hi := rfl) (hs := by kernel_rfl) (hfr := by kernel_rfl) (hr := by kernel_rfl) (hQ := (by repeat (first | exact NoPanic.fpost | apply NoPanic.then_ | apply NoPanic.block))) (hd := rfl); case hx => (first | exact Ex.loadT rfl (by first | omega | (simp; done) | (simp; omega)) rfl))
            first | (apply GA.take [] (hD := .inl rfl) (hsub := ⟨_, Takes.nil⟩) (i := 12) (hi := rfl) (hs := by kernel_rfl) (hfr := by kernel_rfl) (hr := by kernel_rfl) (hQ := (by repeat (first | exact NoPanic.fpost | apply NoPanic.then_ | apply NoPanic.block))) (hd := rfl); case hx => (first | exact Ex.add rfl rfl (by omega)))
            first | (apply GA.take [] (hD := .inl rfl) (hsub := ⟨_, Takes.nil⟩) (i := 13) (hi := rfl) (hs := by kernel_rfl) (hfr := by kernel_rfl) (hr := by kernel_rfl) (hQ := (by repeat (first | exact NoPanic.fpost | apply NoPanic.then_ | apply NoPanic.block))) (hd := rfl); case hx => (first | exact Ex.indexArr rfl rfl (by first | omega | (simp; done) | (simp; omega))))
            refine GA.one (i := 14) (by kernel_rfl) rfl ?_
            first | refine G.storeT0 rfl rfl rfl rfl (by first | omega | (simp; omega)) rfl ((E.getD (os.getD i default).2.1 default + (os.getD i default).2.2)) (rfl) (fun rs_ hrs_ => ?_) | refine G.storeT rfl rfl rfl rfl (by first | omega | (simp; omega)) rfl ((E.getD (os.getD i default).2.1 default + (os.getD i default).2.2)) (rfl) (fun rs_ hrs_ => ?_) | refine G.storeTA rfl rfl (by first | omega | (simp; omega)) rfl ((E.getD (os.getD i default).2.1 default + (os.getD i default).2.2)) (rfl) (fun rs_ hrs_ => ?_)
            try simp only at hrs_
            subst hrs_
            try refine G.nil ?_
            refine GA.back (by first | exact .inl (by decide) | exact .inr ⟨_, (by repeat (first | exact Takes.nil | apply Takes.dup rfl | apply Takes.cons | exact Take1.here | apply Take1.there))⟩) ?_
            refine GA.done (by kernel_rfl) ?_
            repeat (first | (apply G.ex (hd := rfl); case h => (first | exact Ex.move rfl | exact Ex.add rfl rfl (by omega) | exact Ex.assign rfl)) | refine G.nil ?_ | refine GC.region ?_ | refine GE.then_normal ?_ | refine GE.block_normal ?_)
            refine GE.loop (i + 1, C, E.set (os.getD i default).2.1 (E.getD (os.getD i default).2.1 default + (os.getD i default).2.2), s1) ⟨by simp only; omega, hB', hw1', by rw [hl1']; exact hl, hp1⟩ (by simp only; omega) (by simp only [fits]; repeat (first | exact trivial | refine And.intro rfl ?_)) (by repeat (first | exact Takes.nil | apply Takes.dup rfl | apply Takes.cons | exact Take1.here | apply Take1.there)) (by repeat (first | exact Subs.refl | refine Subs.skip ?_))
        · have hiM : i = M := by omega
          subst hiM
          have hst : st = s := by
            rw [List.drop_of_length_le (Nat.le_of_eq hFl), List.drop_of_length_le (by omega)] at hpl
            cases hpl; rfl
          subst hst
          have hCE := hB.dry hend0
          subst hCE
          have hcast : (i : Int) - 1 = ((i - 1 : Nat) : Int) := by omega
          have hcc : C = C := rfl
          repeat (first | (apply G.ex (hd := rfl); case h => (first | exact Ex.move rfl | exact Ex.fieldE rfl | exact Ex.sub rfl rfl (by omega) | exact Ex.eqI rfl rfl | exact Ex.lenSl rfl | exact Ex.loadT0 rfl (by first | omega | (simp; done) | (simp; omega)) rfl | exact Ex.assign rfl | exact Ex.pickT rfl (by first | assumption | omega) rfl | exact Ex.indexI rfl rfl (by omega) | exact Ex.loadArI rfl (by assumption) rfl | exact Ex.eqArrI rfl rfl (by assumption) (by assumption))) | refine G.g_tt rfl rfl (by first | assumption | omega) ?_ | refine G.nil ?_ | refine GC.seq ?_ | refine GC.region ?_ | refine GC.ret ?_ | refine GC.exit ?_ | refine GE.then_normal ?_ | refine GE.then_exit ?_ | refine GE.block_hit ?_)
          rw [hcast]
          repeat (first | fail)
          refine GE.ret (by first | exact .inl rfl | exact .inr rfl) (by first | exact res0 Try.results11 | exact res1 Try.results11 rfl | exact res2 Try.results11 rfl rfl | exact resR1 Try.results11 (by first | exact RV.tmp rfl | exact RV.cell rfl rfl | exact RV.cell1 rfl) | exact resR2 Try.results11 (by first | exact RV.tmp rfl | exact RV.cell rfl rfl | exact RV.cell1 rfl) (by first | exact RV.tmp rfl | exact RV.cell rfl rfl | exact RV.cell1 rfl) | exact resR3 Try.results11 (by first | exact RV.tmp rfl | exact RV.cell rfl rfl | exact RV.cell1 rfl) (by first | exact RV.tmp rfl | exact RV.cell rfl rfl | exact RV.cell1 rfl) (by first | exact RV.tmp rfl | exact RV.cell rfl rfl | exact RV.cell1 rfl)) ⟨by rw [Int.toNat_natCast, decide_eq_true hend7], rfl⟩ (by repeat (first | exact Takes.nil | apply Takes.dup rfl | apply Takes.cons | exact Take1.here | apply Take1.there)) (by repeat (first | exact Subs.refl | refine Subs.skip ?_))
end fair
end Go.Proofs.Ytcabcpealkbekaa
