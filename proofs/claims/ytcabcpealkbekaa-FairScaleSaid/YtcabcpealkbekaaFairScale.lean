/-
  CONTRACT of packthreadkeep.FairScale: it returns true. By the kit.
-/
import Derived.Test.YtcabcpealkbekaaFairR
namespace Go.Proofs.Ytcabcpealkbekaa
open Go.RowKit
attribute [local irreducible] Ex G GC GE Gq FPost LPost
set_option linter.unusedVariables false
set_option linter.unusedSimpArgs false

namespace fair
def dbl (x : AF) : AF := ⟨2 * x.q, x.w.map (2 * ·), 2 * x.d, x.fed⟩
def dblS (s : St) : St := (s.1.map dbl, s.2)
def dblO (o : Int × Nat × Int) : Int × Nat × Int := (o.1, o.2.1, 2 * o.2.2)
def dblF (f : Nat × Int) : Nat × Int := (f.1, 2 * f.2)
theorem at_dbl (fs : List AF) (i : Nat) : at_ (fs.map dbl) i = dbl (at_ fs i) := by
  unfold at_
  rw [List.getD_eq_getElem?_getD, List.getD_eq_getElem?_getD, List.getElem?_map]
  cases fs[i]? <;> rfl
theorem fed_dbl (x : AF) : fed (dbl x) = dbl (fed x) := by
  unfold fed
  by_cases h : x.fed = true
  · rw [if_pos h, if_pos (show (dbl x).fed = true from h)]
  · rw [if_neg h, if_neg (show ¬ (dbl x).fed = true from h)]
    unfold dbl; simp only [AF.mk.injEq, true_and, and_true]; omega
theorem head_dbl (l : List Int) : (l.map (2 * ·)).getD 0 default = 2 * l.getD 0 default := by cases l <;> rfl
theorem ready_dbl (x : AF) : Ready (dbl x) ↔ Ready x := by
  unfold Ready
  rw [fed_dbl, show (dbl x).w = x.w.map (2 * ·) from rfl, head_dbl, show (dbl (fed x)).d = 2 * (fed x).d from rfl]; omega
theorem rot_dbl (fs : List AF) (i : Nat) (T : List Nat) : rot (fs.map dbl) i T = dblS (rot fs i T) := by
  unfold rot dblS
  rw [at_dbl, List.map_set]
  unfold late
  rw [fed_dbl]; rfl
theorem less_dbl (x : AF) : less (dbl x) = dbl (less x) := by
  have e : (dbl x).w.tail = [] ↔ x.w.tail = [] := by
    show (x.w.map (2 * ·)).tail = [] ↔ _
    cases x.w <;> simp
  unfold less
  by_cases h : x.w.tail = []
  · rw [if_pos h, if_pos (e.2 h)]; rfl
  · rw [if_neg h, if_neg (fun k => h (e.1 k)), fed_dbl]
    unfold dbl
    simp only [AF.mk.injEq, true_and, and_true, List.map_tail, head_dbl]; omega
theorem sent_dbl (fs : List AF) (i : Nat) (T : List Nat) : sent (fs.map dbl) i T = dblS (sent fs i T) := by
  unfold sent dblS
  rw [at_dbl, List.map_set, less_dbl]
  have e : (dbl (at_ fs i)).w.tail = [] ↔ (at_ fs i).w.tail = [] := by
    show ((at_ fs i).w.map (2 * ·)).tail = [] ↔ _
    cases (at_ fs i).w <;> simp
  by_cases h : (at_ fs i).w.tail = []
  · rw [if_pos h, if_pos (e.2 h)]
  · rw [if_neg h, if_neg (fun k => h (e.1 k))]
theorem sends_dbl {s s1 : St} {o : Nat × Int} (h : Sends s s1 o) : Sends (dblS s) (dblS s1) (o.1, 2 * o.2) := by
  induction h with
  | now fs i T h =>
    have := Sends.now (fs.map dbl) i T (by rw [at_dbl]; exact (ready_dbl _).2 h)
    rw [sent_dbl, at_dbl, show (dbl (at_ fs i)).w = (at_ fs i).w.map (2 * ·) from rfl, head_dbl] at this
    exact this
  | later fs i T s o h k ih =>
    refine Sends.later (fs.map dbl) i T _ _ (by rw [at_dbl]; exact fun k => h ((ready_dbl _).1 k)) ?_
    rw [rot_dbl]; exact ih
theorem comes_dbl (s : St) (i : Nat) (z : Int) : comes (dblS s) i (2 * z) = (dblS (comes s i z).1, (comes s i z).2) := by
  unfold comes
  have e : at_ (dblS s).1 i = dbl (at_ s.1 i) := at_dbl s.1 i
  rw [e, show (dbl (at_ s.1 i)).w = (at_ s.1 i).w.map (2 * ·) from rfl, List.length_map]
  by_cases h : (at_ s.1 i).w.length = 40
  · rw [if_pos h, if_pos h]
  · rw [if_neg h, if_neg h]
    unfold dblS
    simp only [List.map_set, List.map_eq_nil_iff]
    congr 3
    unfold dbl; simp
theorem step_dbl {s s1 : St} {f : Nat × Int} {o : Int × Nat × Int} (h : Step s f o s1) : Step (dblS s) (dblF f) (dblO o) (dblS s1) := by
  cases h with
  | comes i z hz =>
    have := Step.comes (dblS s) i (2 * z) (by omega)
    rw [comes_dbl] at this
    exact this
  | none i z hz hn => exact Step.none (dblS s) i (2 * z) (by omega) hn
  | sends _ i z o hz hs => exact Step.sends (dblS s) (dblS s1) i (2 * z) (o.1, 2 * o.2) (by omega) (sends_dbl hs)
theorem plays_dbl {s s1 : St} {fs : List (Nat × Int)} {os : List (Int × Nat × Int)} (h : Plays s fs os s1) : Plays (dblS s) (fs.map dblF) (os.map dblO) (dblS s1) := by
  induction h with
  | nil s => exact .nil _
  | cons h _ ih => exact .cons (step_dbl h) ih
def Small (s : St) : Prop := ∀ i, ∀ z ∈ (at_ s.1 i).w, 0 ≤ z ∧ z ≤ 1500
theorem fresh_small (Q : List Int) (hQ : ∀ q ∈ Q, 1 ≤ q ∧ q ≤ 200) : Small (fresh Q) := fun i z hz => by rw [(fresh_at Q i).1] at hz; cases hz
theorem at_out {fs : List AF} {i : Nat} (h : ¬ i < fs.length) (x : AF) : fs.set i x = fs := List.set_eq_of_length_le (by omega)
theorem sends_small {s s1 : St} {o : Nat × Int} (h : Sends s s1 o) : Small s → Small s1 ∧ 0 ≤ o.2 ∧ o.2 ≤ 1500 := by
  induction h with
  | now fs i T h =>
    intro hs
    refine ⟨fun j z hz => ?_, ?_⟩
    · by_cases hi : i < fs.length
      · simp only [sent, at_set hi] at hz
        split at hz
        · rename_i e; subst e
          refine hs j z (List.mem_of_mem_tail (l := (at_ fs j).w) ?_)
          unfold less at hz
          split at hz
          · cases hz
          · exact hz
        · exact hs j z hz
      · simp only [sent, at_out hi] at hz; exact hs j z hz
    · cases hw : (at_ fs i).w with
      | nil => simp only [List.getD_nil]; exact ⟨Int.le_refl 0, by decide⟩
      | cons a t => have := hs i a (by show a ∈ (at_ fs i).w; rw [hw]; simp); simpa using this
  | later fs i T s o h k ih =>
    intro hs
    refine ih fun j z hz => ?_
    by_cases hi : i < fs.length
    · simp only [rot, at_set hi] at hz
      split at hz
      · rename_i e; subst e; exact hs j z hz
      · exact hs j z hz
    · simp only [rot, at_out hi] at hz; exact hs j z hz
theorem step_small {s s1 : St} {f : Nat × Int} {o : Int × Nat × Int} (h : Step s f o s1) (hf : f.2 ≤ 1500) (hs : Small s) : Small s1 ∧ 0 ≤ o.2.2 ∧ o.2.2 ≤ 1500 := by
  cases h with
  | comes i z hz =>
    refine ⟨fun j y hy => ?_, by simp, by simp⟩
    unfold comes at hy
    split at hy
    · exact hs j y hy
    · simp only at hy
      by_cases hi : i < s.1.length
      · rw [at_set hi] at hy
        split at hy
        · rename_i e; subst e
          rcases List.mem_append.1 hy with hy | hy
          · exact hs j y hy
          · simp at hy; subst hy; simp only at hf; omega
        · exact hs j y hy
      · rw [at_out hi] at hy; exact hs j y hy
  | none i z hz hn => exact ⟨hs, by simp, by simp⟩
  | sends _ i z o hz h => exact sends_small h hs
theorem plays_small {s s1 : St} {fs : List (Nat × Int)} {os : List (Int × Nat × Int)} (h : Plays s fs os s1) : Small s → (∀ f ∈ fs, f.2 ≤ 1500) → ∀ o ∈ os, 0 ≤ o.2.2 ∧ o.2.2 ≤ 1500 := by
  induction h with
  | nil s => intro _ _ o ho; cases ho
  | cons h _ ih =>
    intro hs hf o ho
    have h1 := step_small h (hf _ (by simp)) hs
    rcases List.mem_cons.1 ho with rfl | ho
    · exact h1.2
    · exact ih h1.1 (fun f hf' => hf f (by simp [hf'])) o ho
theorem fresh_dbl (Q : List Int) : fresh (Q.map (2 * ·)) = dblS (fresh Q) := by
  unfold fresh dblS
  simp only [List.map_map]
  rfl
theorem getD_map' {α β : Type} [Inhabited α] [Inhabited β] (f : α → β) (l : List α) (k : Nat) (h : k < l.length) : (l.map f).getD k default = f (l.getD k default) := by
  rw [List.getD_eq_getElem?_getD, List.getD_eq_getElem?_getD, List.getElem?_map, List.getElem?_eq_getElem h]; rfl
set_option maxHeartbeats 4000000 in
set_option maxRecDepth 100000 in
theorem fairScale_sp (a0 : Option Addr) (len0 cap0 : Nat) (z0 : List Int) (hl0 : z0.length = len0) (hb0 : len0 ≤ 9223372036854775807) (hw0 : ∀ z ∈ z0, -9223372036854775808 ≤ z ∧ z ≤ 9223372036854775807) (a1 : Option Addr) (len1 cap1 : Nat) (z1 : List Int) (hl1 : z1.length = len1) (hb1 : len1 ≤ 9223372036854775807) (hw1 : ∀ z ∈ z1, -9223372036854775808 ≤ z ∧ z ≤ 9223372036854775807) :
    Spec Try.prog 10 [.slice a0 len0 cap0, .slice a1 len1 cap1] [.sl a0 len0 cap0 1 (flat (eI .i64) z0), .sl a1 len1 cap1 1 (flat (eI .i64) z1)] fun v give => v = .bool true ∧ give = [] := by
  refine Spec.intro Try.func10 rfl Try.ntmps10 rfl fun w0 rest rs_ hrs_ => ?_
  simp only [List.cons_append, List.nil_append] at hrs_
  subst hrs_
  repeat (first | (apply G.ex (hd := rfl); case h => (first | exact Ex.move rfl | exact Ex.assign rfl)) | refine G.nil ?_ | refine GC.seq ?_ | refine GC.region ?_ | refine GE.then_normal ?_)
  first | refine G.call (caps := []) (quanta_sp a0 len0 cap0 z0 hl0 (by omega) hw0) rfl rfl rfl rfl (by repeat (first | exact Takes.nil | apply Takes.dup rfl | apply Takes.cons | exact Take1.here | apply Take1.there)) ?_ | refine G.callU (caps := []) (quanta_sp a0 len0 cap0 z0 hl0 (by omega) hw0) rfl rfl rfl (by repeat (first | exact Takes.nil | apply Takes.dup rfl | apply Takes.cons | exact Take1.here | apply Take1.there)) ?_
  rintro v_ give_ ⟨qa, Q, rfl, hQl, hQ, rfl⟩ rs_ hrs_
  simp only [List.cons_append, List.nil_append] at hrs_
  subst hrs_
  repeat (first | (apply G.ex (hd := rfl); case h => (first | exact Ex.move rfl | exact Ex.assign rfl)) | refine G.nil ?_ | refine GC.seq ?_ | refine GC.region ?_ | refine GE.then_normal ?_)
  first | refine G.call (caps := []) (feeds_sp a1 len1 cap1 z1 hl1 (by omega) hw1 200 (by decide)) rfl rfl rfl rfl (by repeat (first | exact Takes.nil | apply Takes.dup rfl | apply Takes.cons | exact Take1.here | apply Take1.there)) ?_ | refine G.callU (caps := []) (feeds_sp a1 len1 cap1 z1 hl1 (by omega) hw1 200 (by decide)) rfl rfl rfl (by repeat (first | exact Takes.nil | apply Takes.dup rfl | apply Takes.cons | exact Take1.here | apply Take1.there)) ?_
  rintro v_ give_ ⟨fa, fc, rfl, rfl⟩ rs_ hrs_
  simp only [List.cons_append, List.nil_append] at hrs_
  subst hrs_
  obtain ⟨N, hN⟩ : ∃ N, N = min len1 200 := ⟨_, rfl⟩
  obtain ⟨L, hL⟩ : ∃ L, L = feeds (z1.take N) := ⟨_, rfl⟩
  rw [← hN, ← hL]
  have hLl : L.length = N := by rw [hL, feeds, List.length_map, List.length_take]; omega
  have hLo : ∀ f ∈ L, f.1 < 3 ∧ 0 ≤ f.2 ∧ f.2 ≤ 150 := by rw [hL]; exact feeds_ok _
  first | refine G.nilvec 3 1 ?_ | refine GC.nilvec 3 1 ?_
  repeat (first | (apply G.ex (hd := rfl); case h => (first | exact Ex.assign rfl)) | refine G.nil ?_ | refine GC.seq ?_ | refine GC.region ?_ | refine GC.block ?_ | refine GE.then_normal ?_)
  refine GC.loop (ι := Nat × Option Addr × Nat) (fun x => x.1 ≤ 3) (fun x => 3 - x.1) (fun x => [(5, .slice qa 3 3), (6, .slice fa N fc), (7, .slice x.2.1 x.1 x.2.2), (8, .int .i64 (x.1 : Int))]) (fun x => [.vec 3 1 x.2.1 x.1 x.2.2 (flat (eI .i64) ((Q.take x.1).map (2 * ·))), .vec 3 1 qa 3 3 (flat (eI .i64) Q), .vec 57 2 fa N fc (flat eFd L)]) (0, none, 0) (Nat.zero_le _) (by simp only [fits]; repeat (first | exact trivial | refine And.intro rfl ?_)) (by repeat (first | exact Takes.nil | apply Takes.dup rfl | apply Takes.cons | exact Take1.here | apply Take1.there)) ?_
  rintro ⟨k, ta, tc⟩ hk fr_ rs_ hfr_ hrs_
  simp only [List.cons_append, List.nil_append] at hfr_ hrs_
  subst hfr_ hrs_
  simp only at hk
  repeat (first | (apply G.ex (hd := rfl); case h => (first | exact Ex.move rfl | exact Ex.lss rfl rfl)) | refine G.nil ?_ | refine GC.seq ?_ | refine GC.region ?_ | refine GE.then_normal ?_)
  refine GC.cond_dec rfl (fun hlt => ?_) (fun hlt => ?_)
  · have hlt : k < 3 := by omega
    have hq := hQ (Q.getD k default) (by rw [List.getD_eq_getElem?_getD, List.getElem?_eq_getElem (by omega)]; exact List.getElem_mem _)
    have hcat : flat (eI .i64) ((Q.take k).map (2 * ·)) ++ flat (eI .i64) [2 * Q.getD k default] = flat (eI .i64) ((Q.take (k + 1)).map (2 * ·)) := by rw [← flat_append, map_snoc (fun x : Int => 2 * x) Q k (by omega)]
    repeat (first | (apply G.ex (hd := rfl); case h => (first | exact Ex.move rfl | exact Ex.indexN rfl rfl (by first | omega | (simp; done) | (simp; omega)) | exact Ex.loadT0 rfl (by first | omega | (simp; done) | (simp; omega)) rfl | exact Ex.mul rfl rfl (by omega))) | refine GC.seq ?_ | refine GC.region ?_ | refine GC.block ?_ | refine GC.skip ?_ | refine GE.then_normal ?_)
    refine G.lit rfl (by rfl) (by rfl) (by rfl) (by rfl) (by rfl) (by rfl) rfl (fun y => ?_)
    repeat (first | fail)
    refine G.app rfl rfl (by rfl) (by omega) rfl (hcat) (fun o2 c2 rs_ hrs_ => ?_)
    try simp only at hrs_
    subst hrs_
    repeat (first | (apply G.ex (hd := rfl); case h => (first | exact Ex.move rfl | exact Ex.add rfl rfl (by omega) | exact Ex.assign rfl)) | refine G.nil ?_ | refine GC.region ?_ | refine GE.then_normal ?_ | refine GE.block_normal ?_)
    refine GE.loop (k + 1, o2, c2) (by simp only; omega) (by simp only; omega) (by simp only [fits]; repeat (first | exact trivial | refine And.intro rfl ?_)) (by repeat (first | exact Takes.nil | apply Takes.dup rfl | apply Takes.cons | exact Take1.here | apply Take1.there)) (by repeat (first | exact Subs.refl | refine Subs.skip ?_))
  · have hk3 : k = 3 := by omega
    subst hk3
    rw [List.take_of_length_le (Nat.le_of_eq hQl)]
    first | refine G.nilvec 57 2 ?_ | refine GC.nilvec 57 2 ?_
    repeat (first | (apply G.ex (hd := rfl); case h => (first | exact Ex.assign rfl)) | refine G.nil ?_ | refine GC.seq ?_ | refine GC.region ?_ | refine GC.block ?_ | refine GC.exit ?_ | refine GE.then_normal ?_ | refine GE.then_exit ?_ | refine GE.block_hit ?_)
    refine GC.loop (ι := Nat × Option Addr × Nat) (fun x => x.1 ≤ N) (fun x => N - x.1) (fun x => [(5, .slice qa 3 3), (6, .slice fa N fc), (7, .slice ta 3 tc), (9, .slice x.2.1 x.1 x.2.2), (10, .int .i64 (x.1 : Int))]) (fun x => [.vec 57 2 x.2.1 x.1 x.2.2 (flat eFd ((L.take x.1).map dblF)), .vec 3 1 ta 3 tc (flat (eI .i64) (Q.map (2 * ·))), .vec 3 1 qa 3 3 (flat (eI .i64) Q), .vec 57 2 fa N fc (flat eFd L)]) (0, none, 0) (Nat.zero_le _) (by simp only [fits]; repeat (first | exact trivial | refine And.intro rfl ?_)) (by repeat (first | exact Takes.nil | apply Takes.dup rfl | apply Takes.cons | exact Take1.here | apply Take1.there)) ?_
    rintro ⟨k, ga, gc⟩ hk fr_ rs_ hfr_ hrs_
    simp only [List.cons_append, List.nil_append] at hfr_ hrs_
    subst hfr_ hrs_
    simp only at hk
    repeat (first | (apply G.ex (hd := rfl); case h => (first | exact Ex.move rfl | exact Ex.lss rfl rfl | exact Ex.lenSl rfl)) | refine G.nil ?_ | refine GC.seq ?_ | refine GC.region ?_ | refine GE.then_normal ?_)
    refine GC.cond_dec rfl (fun hlt => ?_) (fun hlt => ?_)
    · have hlt : k < N := by omega
      have hf := hLo (L.getD k default) (by rw [List.getD_eq_getElem?_getD, List.getElem?_eq_getElem (by omega)]; exact List.getElem_mem _)
      have hcat : flat eFd ((L.take k).map dblF) ++ flat eFd [dblF (L.getD k default)] = flat eFd ((L.take (k + 1)).map dblF) := by rw [← flat_append, map_snoc dblF L k (by omega)]
      repeat (first | refine GC.seq ?_ | refine GC.block ?_ | refine GC.skip ?_ | refine GE.then_normal ?_)
      refine GC.drawA [] [.vec 57 2 fa N fc (flat eFd L)] (by repeat (first | exact Takes.nil | apply Takes.dup rfl | apply Takes.cons | exact Take1.here | apply Take1.there)) (by kernel_rfl) ?_
      first | (apply GA.take [] (hD := .inl rfl) (hsub := ⟨_, Takes.nil⟩) (i := 0) (hi := rfl) (hs := by kernel_rfl) (hfr := by kernel_rfl) (hr := by kernel_rfl) (hQ := (by repeat (first | exact NoPanic.fpost | apply NoPanic.then_ | apply NoPanic.block))) (hd := rfl); case hx => (first | exact Ex.move rfl))
      first | (apply GA.take [] (hD := .inl rfl) (hsub := ⟨_, Takes.nil⟩) (i := 1) (hi := rfl) (hs := by kernel_rfl) (hfr := by kernel_rfl) (hr := by kernel_rfl) (hQ := (by repeat (first | exact NoPanic.fpost | apply NoPanic.then_ | apply NoPanic.block))) (hd := rfl); case hx => (first | exact Ex.move rfl))
      first | (apply GA.take [] (hD := .inl rfl) (hsub := ⟨_, Takes.nil⟩) (i := 2) (hi := rfl) (hs := by kernel_rfl) (hfr := by kernel_rfl) (hr := by kernel_rfl) (hQ := (by repeat (first | exact NoPanic.fpost | apply NoPanic.then_ | apply NoPanic.block))) (hd := rfl); case hx => (first | exact Ex.move rfl))
      first | (apply GA.take _ (hD := .inr ⟨rfl, by kernel_rfl⟩) (hsub := ⟨_, (by repeat (first | exact Takes.nil | apply Takes.dup rfl | apply Takes.cons | exact Take1.here | apply Take1.there))⟩) (i := 3) (hi := rfl) (hs := by kernel_rfl) (hfr := by kernel_rfl) (hr := by kernel_rfl) (hQ := (by repeat (first | exact NoPanic.fpost | apply NoPanic.then_ | apply NoPanic.block))) (hd := rfl); case hx => (first | exact Ex.indexN rfl rfl (by first | omega | (simp; done) | (simp; omega))))
      first | (apply GA.take [] (hD := .inl rfl) (hsub := ⟨_, Takes.nil⟩) (i := 4) (hi := rfl) (hs := by kernel_rfl) (hfr := by kernel_rfl) (hr := by kernel_rfl) (hQ := (by repeat (first | exact NoPanic.fpost | apply NoPanic.then_ | apply NoPanic.block))) (hd := rfl); case hx => (first | exact Ex.fieldE rfl))
      first | (apply GA.take _ (hD := .inr ⟨rfl, by kernel_rfl⟩) (hsub := ⟨_, (by repeat (first | exact Takes.nil | apply Takes.dup rfl | apply Takes.cons | exact Take1.here | apply Take1.there))⟩) (i := 5) (hi := rfl) (hs := by kernel_rfl) (hfr := by kernel_rfl) (hr := by kernel_rfl) (hQ := (by repeat (first | exact NoPanic.fpost | apply NoPanic.then_ | apply NoPanic.block))) (hd := rfl); case hx => (first | exact Ex.loadT0 rfl (by first | omega | (simp; done) | (simp; omega)) rfl))
      first | (apply GA.take [] (hD := .inl rfl) (hsub := ⟨_, Takes.nil⟩) (i := 6) (hi := rfl) (hs := by kernel_rfl) (hfr := by kernel_rfl) (hr := by kernel_rfl) (hQ := (by repeat (first | exact NoPanic.fpost | apply NoPanic.then_ | apply NoPanic.block))) (hd := rfl); case hx => (first | exact Ex.move rfl))
      first | (apply GA.take [] (hD := .inl rfl) (hsub := ⟨_, Takes.nil⟩) (i := 7) (hi := rfl) (hs := by kernel_rfl) (hfr := by kernel_rfl) (hr := by kernel_rfl) (hQ := (by repeat (first | exact NoPanic.fpost | apply NoPanic.then_ | apply NoPanic.block))) (hd := rfl); case hx => (first | exact Ex.move rfl))
      first | (apply GA.take _ (hD := .inr ⟨rfl, by kernel_rfl⟩) (hsub := ⟨_, (by repeat (first | exact Takes.nil | apply Takes.dup rfl | apply Takes.cons | exact Take1.here | apply Take1.there))⟩) (i := 8) (hi := rfl) (hs := by kernel_rfl) (hfr := by kernel_rfl) (hr := by kernel_rfl) (hQ := (by repeat (first | exact NoPanic.fpost | apply NoPanic.then_ | apply NoPanic.block))) (hd := rfl); case hx => (first | exact Ex.indexN rfl rfl (by first | omega | (simp; done) | (simp; omega))))
      first | (apply GA.take [] (hD := .inl rfl) (hsub := ⟨_, Takes.nil⟩) (i := 9) (hi := rfl) (hs := by kernel_rfl) (hfr := by kernel_rfl) (hr := by kernel_rfl) (hQ := (by repeat (first | exact NoPanic.fpost | apply NoPanic.then_ | apply NoPanic.block))) (hd := rfl); case hx => (first | exact Ex.fieldE rfl))
      first | (apply GA.take _ (hD := .inr ⟨rfl, by kernel_rfl⟩) (hsub := ⟨_, (by repeat (first | exact Takes.nil | apply Takes.dup rfl | apply Takes.cons | exact Take1.here | apply Take1.there))⟩) (i := 10) (hi := rfl) (hs := by kernel_rfl) (hfr := by kernel_rfl) (hr := by kernel_rfl) (hQ := (by repeat (first | exact NoPanic.fpost | apply NoPanic.then_ | apply NoPanic.block))) (hd := rfl); case hx => (first | exact Ex.loadT rfl (by first | omega | (simp; done) | (simp; omega)) rfl))
      first | (apply GA.take [] (hD := .inl rfl) (hsub := ⟨_, Takes.nil⟩) (i := 11) (hi := rfl) (hs := by kernel_rfl) (hfr := by kernel_rfl) (hr := by kernel_rfl) (hQ := (by repeat (first | exact NoPanic.fpost | apply NoPanic.then_ | apply NoPanic.block))) (hd := rfl); case hx => (first | exact Ex.mul rfl rfl (by omega)))
      first | (apply GA.take [] (hD := .inl rfl) (hsub := ⟨_, Takes.nil⟩) (i := 12) (hi := rfl) (hs := by kernel_rfl) (hfr := by kernel_rfl) (hr := by kernel_rfl) (hQ := (by repeat (first | exact NoPanic.fpost | apply NoPanic.then_ | apply NoPanic.block))) (hd := rfl); case hx => (first | exact Ex.build rfl rfl))
      refine GA.one (i := 13) (by kernel_rfl) rfl ?_
      refine G.lit rfl (by rfl) (by rfl) (by rfl) (by rfl) (by rfl) (by rfl) rfl (fun y => ?_)
      try refine G.nil ?_
      refine GA.back (by first | exact .inl (by decide) | exact .inr ⟨_, (by repeat (first | exact Takes.nil | apply Takes.dup rfl | apply Takes.cons | exact Take1.here | apply Take1.there))⟩) ?_
      refine GA.one (i := 14) (by kernel_rfl) rfl ?_
      refine G.app rfl rfl (by rfl) (by omega) rfl (hcat) (fun o2 c2 rs_ hrs_ => ?_)
      try simp only at hrs_
      subst hrs_
      try refine G.nil ?_
      refine GA.back (by first | exact .inl (by decide) | exact .inr ⟨_, (by repeat (first | exact Takes.nil | apply Takes.dup rfl | apply Takes.cons | exact Take1.here | apply Take1.there))⟩) ?_
      first | (apply GA.take [] (hD := .inl rfl) (hsub := ⟨_, Takes.nil⟩) (i := 15) (hi := rfl) (hs := by kernel_rfl) (hfr := by kernel_rfl) (hr := by kernel_rfl) (hQ := (by repeat (first | exact NoPanic.fpost | apply NoPanic.then_ | apply NoPanic.block))) (hd := rfl); case hx => (first | exact Ex.assign rfl))
      refine GA.done (by kernel_rfl) ?_
      repeat (first | (apply G.ex (hd := rfl); case h => (first | exact Ex.move rfl | exact Ex.add rfl rfl (by omega) | exact Ex.assign rfl)) | refine G.nil ?_ | refine GC.region ?_ | refine GE.then_normal ?_ | refine GE.block_normal ?_)
      refine GE.loop (k + 1, o2, c2) (by simp only; omega) (by simp only; omega) (by simp only [fits]; repeat (first | exact trivial | refine And.intro rfl ?_)) (by repeat (first | exact Takes.nil | apply Takes.dup rfl | apply Takes.cons | exact Take1.here | apply Take1.there)) (by repeat (first | exact Subs.refl | refine Subs.skip ?_))
    · have hkN : k = N := by omega
      subst hkN
      rw [List.take_of_length_le (Nat.le_of_eq hLl)]
      repeat (first | (apply G.ex (hd := rfl); case h => (first | exact Ex.move rfl)) | refine GC.seq ?_ | refine GC.region ?_ | refine GC.exit ?_ | refine GE.then_normal ?_ | refine GE.then_exit ?_ | refine GE.block_hit ?_)
      first | refine G.call (caps := []) (lined_sp (.vec 3 1 qa 3 3 (flat (eI .i64) Q)) qa 3 3 Q inferInstance hQl (by decide) (by decide) (fun q hq => by have := hQ q hq; omega) (.vec 57 2 fa k fc (flat eFd L)) fa k fc L inferInstance hLl (by omega) (fun f hf => by have := hLo f hf; omega)) rfl rfl rfl rfl (by repeat (first | exact Takes.nil | apply Takes.dup rfl | apply Takes.cons | exact Take1.here | apply Take1.there)) ?_ | refine G.callU (caps := []) (lined_sp (.vec 3 1 qa 3 3 (flat (eI .i64) Q)) qa 3 3 Q inferInstance hQl (by decide) (by decide) (fun q hq => by have := hQ q hq; omega) (.vec 57 2 fa k fc (flat eFd L)) fa k fc L inferInstance hLl (by omega) (fun f hf => by have := hLo f hf; omega)) rfl rfl rfl (by repeat (first | exact Takes.nil | apply Takes.dup rfl | apply Takes.cons | exact Take1.here | apply Take1.there)) ?_
      rintro v_ give_ ⟨oa, oc, os, s, hp, hos, rfl, rfl⟩ rs_ hrs_
      simp only [List.cons_append, List.nil_append] at hrs_
      subst hrs_
      repeat (first | (apply G.ex (hd := rfl); case h => (first | exact Ex.move rfl | exact Ex.extract rfl rfl | exact Ex.assign rfl)) | refine G.nil ?_ | refine GC.seq ?_ | refine GC.region ?_ | refine GE.then_normal ?_)
      first | refine G.call (caps := []) (lined_sp (.vec 3 1 ta 3 tc (flat (eI .i64) (Q.map (2 * ·)))) ta 3 tc (Q.map (2 * ·)) inferInstance (by simpa using hQl) (by decide) (by decide) (fun q hq => by obtain ⟨p, hp, rfl⟩ := List.mem_map.1 hq; have := hQ p hp; omega) (.vec 57 2 ga k gc (flat eFd (L.map dblF))) ga k gc (L.map dblF) inferInstance (by simpa using hLl) (by omega) (fun f hf => by obtain ⟨p, hp, rfl⟩ := List.mem_map.1 hf; have := hLo p hp; simp only [dblF]; omega)) rfl rfl rfl rfl (by repeat (first | exact Takes.nil | apply Takes.dup rfl | apply Takes.cons | exact Take1.here | apply Take1.there)) ?_ | refine G.callU (caps := []) (lined_sp (.vec 3 1 ta 3 tc (flat (eI .i64) (Q.map (2 * ·)))) ta 3 tc (Q.map (2 * ·)) inferInstance (by simpa using hQl) (by decide) (by decide) (fun q hq => by obtain ⟨p, hp, rfl⟩ := List.mem_map.1 hq; have := hQ p hp; omega) (.vec 57 2 ga k gc (flat eFd (L.map dblF))) ga k gc (L.map dblF) inferInstance (by simpa using hLl) (by omega) (fun f hf => by obtain ⟨p, hp, rfl⟩ := List.mem_map.1 hf; have := hLo p hp; simp only [dblF]; omega)) rfl rfl rfl (by repeat (first | exact Takes.nil | apply Takes.dup rfl | apply Takes.cons | exact Take1.here | apply Take1.there)) ?_
      rintro v_ give_ ⟨ob, oc2, os2, s2, hp2, hos2, rfl, rfl⟩ rs_ hrs_
      simp only [List.cons_append, List.nil_append] at hrs_
      subst hrs_
      have he2 : os2 = os.map dblO := by
        rw [fresh_dbl] at hp2
        exact (hp2.det (plays_dbl hp)).1
      repeat (first | (apply G.ex (hd := rfl); case h => (first | exact Ex.move rfl | exact Ex.extract rfl rfl | exact Ex.assign rfl | exact Ex.notB rfl | exact Ex.pickLF rfl rfl)) | refine G.yes rfl rfl ?_ | refine G.nil ?_ | refine GC.seq ?_ | refine GC.region ?_ | refine GC.block ?_ | refine GC.skip ?_ | refine GE.then_normal ?_ | refine GC.cond_f rfl ?_)
      refine GC.loop (ι := Nat) (fun i => i ≤ k) (fun i => k - i) (fun i => [(11, .slice oa k oc), (13, .slice ob k oc2), (15, .int .i64 (i : Int))]) (fun i => [.vec 59 3 oa k oc (flat eO os), .vec 59 3 ob k oc2 (flat eO os2)]) 0 (Nat.zero_le _) (by simp only [fits]; repeat (first | exact trivial | refine And.intro rfl ?_)) (by repeat (first | exact Takes.nil | apply Takes.dup rfl | apply Takes.cons | exact Take1.here | apply Take1.there)) ?_
      rintro i hi fr_ rs_ hfr_ hrs_
      simp only [List.cons_append, List.nil_append] at hfr_ hrs_
      subst hfr_ hrs_
      repeat (first | (apply G.ex (hd := rfl); case h => (first | exact Ex.move rfl | exact Ex.lss rfl rfl | exact Ex.lenSl rfl)) | refine G.nil ?_ | refine GC.seq ?_ | refine GC.region ?_ | refine GE.then_normal ?_)
      refine GC.cond_dec rfl (fun hlt2 => ?_) (fun hlt2 => ?_)
      · have hlt2 : i < k := by omega
        have hg : os2.getD i default = dblO (os.getD i default) := by rw [he2]; exact getD_map' dblO os i (by omega)
        have e1 : (os2.getD i default).1 = (os.getD i default).1 := by rw [hg]; rfl
        have e2 : (os2.getD i default).2.1 = (os.getD i default).2.1 := by rw [hg]; rfl
        have e3 : (os2.getD i default).2.2 = 2 * (os.getD i default).2.2 := by rw [hg]; rfl
        have c1 : ¬ ¬ (os.getD i default).1 = (os2.getD i default).1 := by rw [e1]; exact fun k => k rfl
        have c2 : ¬ ¬ ((os.getD i default).2.1 : Int) = ((os2.getD i default).2.1 : Int) := by rw [e2]; exact fun k => k rfl
        have c3 : ¬ ¬ 2 * (os.getD i default).2.2 = (os2.getD i default).2.2 := by rw [e3]; exact fun k => k rfl
        have hb := plays_small hp (fresh_small Q hQ) (fun f hf => by have := hLo f hf; omega) (os.getD i default) (by rw [List.getD_eq_getElem?_getD, List.getElem?_eq_getElem (by omega)]; exact List.getElem_mem _)
        repeat (first | (apply G.ex (hd := rfl); case h => (first | exact Ex.move rfl | exact Ex.add rfl rfl (by omega) | exact Ex.assign rfl)) | refine G.nil ?_ | (apply Gq.ex (hd := rfl); case h => (first | exact Ex.move rfl | exact Ex.fieldE rfl | exact Ex.neI rfl rfl | exact Ex.indexN rfl rfl (by first | omega | (simp; done) | (simp; omega)) | exact Ex.loadT0 rfl (by first | omega | (simp; done) | (simp; omega)) rfl | exact Ex.loadT rfl (by first | omega | (simp; done) | (simp; omega)) rfl | exact Ex.mul rfl rfl (by omega) | exact Ex.pickF rfl (by first | assumption | omega) rfl)) | refine Gq.g_ff rfl rfl (by first | assumption | omega) ?_ | refine Gq.nil ?_ | refine GC.seq ?_ | refine GC.region ?_ | refine GC.draw (by kernel_rfl) (by kernel_rfl) ?_ | refine GC.block ?_ | refine GC.skip ?_ | refine GE.then_normal ?_ | refine GE.block_normal ?_ | refine GC.cond_no rfl (by first | assumption | omega) ?_)
        refine GE.loop (i + 1) (by omega) (by omega) (by simp only [fits]; repeat (first | exact trivial | refine And.intro rfl ?_)) (by repeat (first | exact Takes.nil | apply Takes.dup rfl | apply Takes.cons | exact Take1.here | apply Take1.there)) (by repeat (first | exact Subs.refl | refine Subs.skip ?_))
      · repeat (first | (apply G.ex (hd := rfl); case h => (first | exact Ex.assign rfl)) | refine G.nil ?_ | refine GC.seq ?_ | refine GC.region ?_ | refine GC.ret ?_ | refine GC.exit ?_ | refine GE.then_normal ?_ | refine GE.then_exit ?_ | refine GE.block_hit ?_)
        refine GE.ret (by first | exact .inl rfl | exact .inr rfl) (by first | exact res0 Try.results10 | exact res1 Try.results10 rfl | exact res2 Try.results10 rfl rfl | exact resR1 Try.results10 (by first | exact RV.tmp rfl | exact RV.cell rfl rfl | exact RV.cell1 rfl) | exact resR2 Try.results10 (by first | exact RV.tmp rfl | exact RV.cell rfl rfl | exact RV.cell1 rfl) (by first | exact RV.tmp rfl | exact RV.cell rfl rfl | exact RV.cell1 rfl) | exact resR3 Try.results10 (by first | exact RV.tmp rfl | exact RV.cell rfl rfl | exact RV.cell1 rfl) (by first | exact RV.tmp rfl | exact RV.cell rfl rfl | exact RV.cell1 rfl) (by first | exact RV.tmp rfl | exact RV.cell rfl rfl | exact RV.cell1 rfl)) ⟨rfl, rfl⟩ (by repeat (first | exact Takes.nil | apply Takes.dup rfl | apply Takes.cons | exact Take1.here | apply Take1.there)) (by repeat (first | exact Subs.refl | refine Subs.skip ?_))
end fair
end Go.Proofs.Ytcabcpealkbekaa
