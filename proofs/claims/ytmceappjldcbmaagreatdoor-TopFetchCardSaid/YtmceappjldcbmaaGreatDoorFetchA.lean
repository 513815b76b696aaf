/-
  CONTRACTS of who fetches: its small functions, by the kit.
-/
import Derived.Test.YtmceappjldcbmaaGreatDoorFetchP
import Derived.Test.YtmceappjldcbmaaGreatDoorKitN2
import Derived.Test.YtmceappjldcbmaaGreatDoorCom
namespace Go.Proofs.YtmceappjldcbmaaGreatDoor
open Go.RowKit
attribute [local irreducible] Ex G GC GE Gq FPost LPost
set_option linter.unusedVariables false
set_option linter.unusedSimpArgs false
namespace fetch
def eW (x : Wa) : List Value := [.int .i64 x.1, .int .i64 x.2]
instance : Enc eW 2 := ⟨fun _ => rfl, fun x u hu => by simp [eW] at hu; rcases hu with rfl | rfl <;> rfl⟩
theorem cloneB_sp (r : Res) (ao : Option Addr) (n c : Nat) (l : List UInt8) [hr : RdR r ao n c 1 (flat eB l)] (hl : l.length = n) (hn : n ≤ 140737488351232) :
    Spec Tryz.prog 17 [.slice ao n c] [r] fun v give => ∃ ao' c', v = .slice ao' n c' ∧ give = [.vec 5 1 ao' n c' (flat eB l), r] := by
  refine Spec.intro Tryz.func17 rfl Tryz.ntmps17 rfl fun w0 rest rs_ hrs_ => ?_
  simp only [List.cons_append, List.nil_append] at hrs_
  subst hrs_
  repeat (first | (apply G.ex (hd := rfl); case h => (first | exact Ex.move rfl | exact Ex.assign rfl | exact Ex.eqNil rfl rfl)) | refine G.nil ?_ | refine GC.seq ?_ | refine GC.region ?_ | refine GE.then_normal ?_)
  refine GC.cond_dec rfl (fun h => ?_) (fun h => ?_)
  · subst h
    refine GC.nilLen (m := n) (c := c) fun h1 h2 h3 => ?_
    subst h1 h2
    rw [h3]
    first | refine G.nilvec 5 1 ?_ | refine GC.nilvec 5 1 ?_
    repeat (first | (apply G.ex (hd := rfl); case h => (first | exact Ex.assign rfl)) | refine G.nil ?_ | refine GC.seq ?_ | refine GC.region ?_ | refine GC.ret ?_ | refine GE.then_normal ?_ | refine GE.then_ret ?_)
    refine GE.ret (by first | exact .inl rfl | exact .inr rfl) (res1 Tryz.results17 rfl) ⟨_, _, rfl, rfl⟩ (by repeat first | exact tn_ | apply td_ rfl | apply tc_ | exact .here | apply Take1.there) (by repeat (first | exact Subs.refl | refine Subs.skip ?_))
  · repeat (first | refine GC.seq ?_ | refine GC.region ?_ | refine GC.skip ?_ | refine GE.then_normal ?_)
    refine G.lit rfl (by rfl) (by rfl) (by rfl) (by rfl) (by rfl) (by rfl) rfl (fun q => ?_)
    repeat (first | (apply G.ex (hd := rfl); case h => (first | exact Ex.move rfl)))
    refine G.app rfl rfl (by rfl) (by omega) rfl (rfl) (fun a2 c2 rs_ hrs_ => ?_)
    try simp only at hrs_
    subst hrs_
    simp only [Nat.zero_add, List.nil_append]
    repeat (first | (apply G.ex (hd := rfl); case h => (first | exact Ex.assign rfl)) | refine G.nil ?_ | refine GC.ret ?_ | refine GE.then_normal ?_)
    refine GE.ret (by first | exact .inl rfl | exact .inr rfl) (res1 Tryz.results17 rfl) ⟨_, _, rfl, rfl⟩ (by repeat first | exact tn_ | apply td_ rfl | apply tc_ | exact .here | apply Take1.there) (by repeat (first | exact Subs.refl | refine Subs.skip ?_))
theorem getD_eqW (l : List Wa) (i : Nat) (h : i < l.length) : l.getD i default = l[i] := by
  rw [List.getD_eq_getElem?_getD, List.getElem?_eq_getElem h]; rfl
theorem idx_ge {l : List Wa} {w : Wa} {k : Nat} (hk : k ≤ l.length) (h : ∀ j, j < k → ¬ w = l.getD j default) : k ≤ idx l w := by
  unfold idx
  apply Classical.byContradiction
  intro hc
  have hlt : l.findIdx (fun x => decide (w = x)) < l.length := by omega
  have h1 := h _ (Nat.lt_of_not_le hc)
  have h2 := List.findIdx_getElem (w := hlt)
  rw [getD_eqW _ _ hlt] at h1
  exact h1 (of_decide_eq_true h2)
theorem idx_at {l : List Wa} {w : Wa} {k : Nat} (hk : k < l.length) (h : ∀ j, j < k → ¬ w = l.getD j default) (he : w = l.getD k default) : idx l w = k := by
  have h1 := idx_ge (Nat.le_of_lt hk) h
  refine Nat.le_antisymm ?_ h1
  unfold idx
  apply Classical.byContradiction
  intro hc
  have := List.not_of_lt_findIdx (Nat.lt_of_not_le hc)
  rw [← getD_eqW _ _ hk] at this
  simp [he] at this
theorem index_sp (r : Res) (ao : Option Addr) (n c : Nat) (l : List Wa) [hr : RdR r ao n c 2 (flat eW l)] (hl : l.length = n) (hn : n ≤ 1000000) (w : Wa) :
    Spec Tryz.prog 18 [.slice ao n c, .agg (eW w).toArray] [r] fun v give => v = .int .i64 (if idx l w < n then (idx l w : Int) else -1) ∧ give = [r] := by
  refine Spec.intro Tryz.func18 rfl Tryz.ntmps18 rfl fun w0 rest rs_ hrs_ => ?_
  simp only [List.cons_append, List.nil_append] at hrs_
  subst hrs_
  repeat (first | refine GC.seq ?_ | refine GC.region ?_)
  refine G.box rfl rfl rfl (fun wb => ?_)
  rw [show (Value.agg (eW w).toArray).cells.toList = [.int .i64 w.1, .int .i64 w.2] from rfl]
  repeat (first | (apply G.ex (hd := rfl); case h => (first | exact Ex.move rfl | exact Ex.lenSl rfl | exact Ex.assign rfl)) | refine G.nil ?_ | refine GC.seq ?_ | refine GC.region ?_ | refine GC.block ?_ | refine GE.then_normal ?_)
  refine GC.loop (ι := Nat) (fun k => k ≤ n ∧ ∀ j, j < k → ¬ w = l.getD j default) (fun k => n - k) (fun k => [(0, .slice ao n c), (3, .pointer (some (badr wb 0))), (7, .int .i64 (n : Int)), (8, .int .i64 (k : Int))]) (fun _ => [r, .blk wb 37 [.int .i64 w.1, .int .i64 w.2]]) 0 ⟨Nat.zero_le _, fun j hj => absurd hj (Nat.not_lt_zero _)⟩ (by simp only [fits]; repeat (first | exact trivial | refine And.intro rfl ?_)) (by repeat first | exact tn_ | apply td_ rfl | apply tc_ | exact .here | apply Take1.there) ?_
  rintro k ⟨hk, hno⟩ fr_ rs_ hfr_ hrs_
  simp only [List.cons_append, List.nil_append] at hfr_ hrs_
  subst hfr_ hrs_
  repeat (first | (apply G.ex (hd := rfl); case h => (first | exact Ex.lss rfl rfl)) | refine G.nil ?_ | refine GC.seq ?_ | refine GC.region ?_ | refine GE.then_normal ?_)
  refine GC.cond_dec rfl (fun hlt => ?_) (fun hlt => ?_)
  · have hlt : k < n := by omega
    repeat (first | (apply G.ex (hd := rfl); case h => (first | exact Ex.move rfl | exact Ex.assign rfl)) | refine G.nil ?_ | (apply Gq.ex (hd := rfl); case h => (first | exact Ex.move rfl | exact Ex.indexN rfl rfl (by first | omega | (simp; done) | (simp; omega)) | exact Ex.loadBA rfl rfl rfl | exact Ex.loadTA rfl (by first | omega | (simp; done) | (simp; omega)) | exact Ex.eqA rfl rfl rfl)) | refine Gq.nil ?_ | refine GC.seq ?_ | refine GC.region ?_ | refine GC.draw (by kernel_rfl) (by kernel_rfl) ?_ | refine GC.block ?_ | refine GC.skip ?_ | refine GE.then_normal ?_)
    refine GC.cond_bool rfl (fun he => ?_) (fun he => ?_)
    · have he' : w = l.getD k default := by
        simp only [Bool.and_eq_true, decide_eq_true_eq, and_true] at he
        exact Prod.ext he.1 he.2
      have hix := idx_at (by omega) hno he'
      repeat (first | (apply G.ex (hd := rfl); case h => (first | exact Ex.move rfl | exact Ex.assign rfl)) | refine G.nil ?_ | refine GC.seq ?_ | refine GC.region ?_ | refine GC.ret ?_ | refine GE.then_normal ?_ | refine GE.then_ret ?_ | refine GE.block_ret ?_)
      refine GE.ret (by first | exact .inl rfl | exact .inr rfl) (res1 Tryz.results18 rfl) ⟨by rw [hix, if_pos hlt], rfl⟩ (by repeat first | exact tn_ | apply td_ rfl | apply tc_ | exact .here | apply Take1.there) (by repeat (first | exact Subs.refl | refine Subs.skip ?_))
    · have he' : ¬ w = l.getD k default := fun e => by
        rw [← e] at he
        simp at he
      have hno2 : ∀ j, j < k + 1 → ¬ w = l.getD j default := fun j hj => by
        by_cases e : j = k
        · subst e; exact he'
        · exact hno j (by omega)
      repeat (first | (apply G.ex (hd := rfl); case h => (first | exact Ex.move rfl | exact Ex.add rfl rfl (by omega))) | refine G.nil ?_ | refine GC.region ?_ | refine GC.skip ?_ | refine GE.then_normal ?_ | refine GE.block_normal ?_)
      rw [show (k : Int) + 1 = ((k + 1 : Nat) : Int) by omega]
      refine GE.loop (k + 1) ⟨by omega, hno2⟩ (by omega) (by simp only [fits]; repeat (first | exact trivial | refine And.intro rfl ?_)) (by repeat first | exact tn_ | apply td_ rfl | apply tc_ | exact .here | apply Take1.there) (by repeat (first | exact Subs.refl | refine Subs.skip ?_))
  · obtain rfl : k = n := by omega
    have hge := idx_ge (by omega) hno
    repeat (first | (apply G.ex (hd := rfl); case h => (first | exact Ex.assign rfl)) | refine G.nil ?_ | refine GC.seq ?_ | refine GC.region ?_ | refine GC.ret ?_ | refine GC.exit ?_ | refine GE.then_normal ?_ | refine GE.then_exit ?_ | refine GE.block_hit ?_)
    refine GE.ret (by first | exact .inl rfl | exact .inr rfl) (res1 Tryz.results18 rfl) ⟨by rw [if_neg (by omega)], rfl⟩ (by repeat first | exact tn_ | apply td_ rfl | apply tc_ | exact .here | apply Take1.there) (by repeat (first | exact Subs.refl | refine Subs.skip ?_))
theorem subA_zero (ao : Option Addr) (c s : Nat) : subA ao c 0 s = ao := by
  unfold subA
  split
  · rfl
  · cases ao with
    | none => rfl
    | some a => simp [Addr.add]
theorem del_cells (l : List Wa) (i : Nat) (hi : i < l.length) (z : List Value) : (laid (laid (flat eW l) (i * 2) ((flat eW l).drop ((i + 1) * 2))) ((l.length - 1) * 2) z).take ((l.length - 1) * 2) = flat eW (l.eraseIdx i) := by
  have hE : Enc eW 2 := inferInstance
  have hfl := flat_len hE l
  have h1 : (laid (flat eW l) (i * 2) ((flat eW l).drop ((i + 1) * 2))).length = l.length * 2 := by
    rw [laid_len _ _ _ (by rw [List.length_drop, hfl]; omega), hfl]
  unfold laid at h1 ⊢
  rw [List.append_assoc ((List.take (i * 2) (flat eW l) ++ List.drop ((i + 1) * 2) (flat eW l) ++ List.drop (i * 2 + (List.drop ((i + 1) * 2) (flat eW l)).length) (flat eW l)).take ((l.length - 1) * 2)), List.take_append_of_le_length (by rw [List.length_take, h1]; omega), List.take_take, Nat.min_self]
  rw [List.take_append_of_le_length (by simp only [List.length_append, List.length_take, List.length_drop, hfl]; omega)]
  rw [flat_take hE, flat_drop hE, ← flat_append, List.take_of_length_le (by rw [flat_len hE, List.length_append, List.length_take, List.length_drop]; omega), List.eraseIdx_eq_take_drop_succ]
set_option maxHeartbeats 1000000 in
theorem delete_sp (ao : Option Addr) (c : Nat) (l : List Wa) (i : Nat) (hi : i < l.length) (hn : l.length ≤ 1000000) :
    Spec Tryz.prog 19 [.slice ao l.length c, .int .i64 (i : Int), .int .i64 ((i + 1 : Nat) : Int)] [.vec 37 2 ao l.length c (flat eW l)] fun v give => v = .slice ao (l.length - 1) c ∧ give = [.vec 37 2 ao (l.length - 1) c (flat eW (l.eraseIdx i))] := by
  have hne : ¬ (i : Int) = ((i + 1 : Nat) : Int) := by omega
  have hnl : l.length = l.length - 1 + 1 := by omega
  refine Spec.intro Tryz.func19 rfl Tryz.ntmps19 rfl fun w0 rest rs_ hrs_ => ?_
  simp only [List.cons_append, List.nil_append] at hrs_
  subst hrs_
  refine GC.len (m := l.length) (c := c) ao fun ⟨hq1, hq2, hq3⟩ => ?_
  repeat (first | (apply G.ex (hd := rfl); case h => (first | exact Ex.move rfl | exact Ex.eqI rfl rfl | exact Ex.lenSl rfl | exact Ex.assign rfl | exact Ex.sl3 rfl rfl rfl rfl (by omega))) | refine G.nil ?_ | refine GC.seq ?_ | refine GC.region ?_ | refine GC.skip ?_ | refine GE.then_normal ?_ | refine GC.cond_no rfl (by first | assumption | omega) ?_)
  refine GC.drawA [] [] (by repeat first | exact tn_ | apply td_ rfl | apply tc_ | exact .here | apply Take1.there) (by kernel_rfl) ?_
  first | (apply GA.take [] (hD := .inl rfl) (hsub := ⟨_, Takes.nil⟩) (i := 0) (hi := rfl) (hs := by kernel_rfl) (hfr := by kernel_rfl) (hr := by kernel_rfl) (hQ := np_) (hd := rfl); case hx => (first | exact Ex.move rfl))
  first | (apply GA.take [] (hD := .inl rfl) (hsub := ⟨_, Takes.nil⟩) (i := 1) (hi := rfl) (hs := by kernel_rfl) (hfr := by kernel_rfl) (hr := by kernel_rfl) (hQ := np_) (hd := rfl); case hx => (first | exact Ex.move rfl))
  first | (apply GA.take [] (hD := .inl rfl) (hsub := ⟨_, Takes.nil⟩) (i := 2) (hi := rfl) (hs := by kernel_rfl) (hfr := by kernel_rfl) (hr := by kernel_rfl) (hQ := np_) (hd := rfl); case hx => (first | exact Ex.slHi rfl rfl (by omega)))
  first | (apply GA.take [] (hD := .inl rfl) (hsub := ⟨_, Takes.nil⟩) (i := 3) (hi := rfl) (hs := by kernel_rfl) (hfr := by kernel_rfl) (hr := by kernel_rfl) (hQ := np_) (hd := rfl); case hx => (first | exact Ex.move rfl))
  first | (apply GA.take [] (hD := .inl rfl) (hsub := ⟨_, Takes.nil⟩) (i := 4) (hi := rfl) (hs := by kernel_rfl) (hfr := by kernel_rfl) (hr := by kernel_rfl) (hQ := np_) (hd := rfl); case hx => (first | exact Ex.move rfl))
  first | (apply GA.take [] (hD := .inl rfl) (hsub := ⟨_, Takes.nil⟩) (i := 5) (hi := rfl) (hs := by kernel_rfl) (hfr := by kernel_rfl) (hr := by kernel_rfl) (hQ := np_) (hd := rfl); case hx => (first | exact Ex.slLo rfl rfl (by omega)))
  rw [subA_zero]
  refine GA.one (i := 6) (by kernel_rfl) rfl ?_
  refine G.appIn (i := i) (j := i + 1) (m := l.length) (c := c) ⟨by omega, by omega, by omega⟩ rfl rfl rfl (fun rs_ hrs_ => ?_)
  try simp only at hrs_
  subst hrs_
  try refine G.nil ?_
  refine GA.back (by first | exact .inl (by decide) | exact .inr ⟨_, (by repeat first | exact tn_ | apply td_ rfl | apply tc_ | exact .here | apply Take1.there)⟩) ?_
  first | (apply GA.take [] (hD := .inl rfl) (hsub := ⟨_, Takes.nil⟩) (i := 7) (hi := rfl) (hs := by kernel_rfl) (hfr := by kernel_rfl) (hr := by kernel_rfl) (hQ := np_) (hd := rfl); case hx => (first | exact Ex.assign rfl))
  refine GA.done (by kernel_rfl) ?_
  rw [show i + (l.length - (i + 1)) = l.length - 1 by omega]
  repeat (first | (apply G.ex (hd := rfl); case h => (first | exact Ex.move rfl | exact Ex.lenSl rfl | exact Ex.slLH rfl rfl rfl (by omega))) | refine GC.seq ?_ | refine GC.region ?_ | refine GE.then_normal ?_)
  refine G.clearIn (i := l.length - 1) (m := l.length) (c := c) (by omega) rfl (fun rs_ hrs_ => ?_) (by rfl) rfl (by omega)
  try simp only at hrs_
  subst hrs_
  refine G.conv (fun w_ H_ => Holds.cutRow (l.length - 1) (by omega) H_) ?_
  rw [del_cells l i hi]
  repeat (first | (apply G.ex (hd := rfl); case h => (first | exact Ex.move rfl | exact Ex.assign rfl)) | refine G.nil ?_ | refine GC.seq ?_ | refine GC.region ?_ | refine GC.ret ?_ | refine GE.then_normal ?_)
  refine GE.ret (by first | exact .inl rfl | exact .inr rfl) (res1 Tryz.results19 rfl) ⟨rfl, rfl⟩ (by repeat first | exact tn_ | apply td_ rfl | apply tc_ | exact .here | apply Take1.there) (by repeat (first | exact Subs.refl | refine Subs.skip ?_))
set_option maxHeartbeats 1000000 in
theorem ask_sp (fb nb : Nat) (f : Fe) (l : List Wa) (w : Wa) (hf : f.out.length ≤ 1000) (hl : l.length ≤ 1000) (oo : Option Addr) (oc : Nat) (da : Option Addr) (dc : Nat) (wo : Option Addr) (wc : Nat) :
    Spec Tryz.prog 14 [.pointer (some (badr fb 0)), .pointer (some (badr nb 0)), .agg (eW w).toArray] [.blk fb 52 [.slice oo (f).out.length oc, .int .i64 (f).front, .int .i64 (f).end_, .slice da (f).data.length dc], .vec 37 2 oo (f).out.length oc (flat eW (f).out), .blk nb 34 [.int .i64 0, .slice wo (l).length wc, .bool false, .slice none 0 0], .vec 37 2 wo (l).length wc (flat eW (l))] fun v give => ∃ oo' oc' wo' wc', v = .tuple #[] ∧ give = [.blk fb 52 [.slice oo' ({ f with out := f.out ++ [w] }).out.length oc', .int .i64 ({ f with out := f.out ++ [w] }).front, .int .i64 ({ f with out := f.out ++ [w] }).end_, .slice da ({ f with out := f.out ++ [w] }).data.length dc], .vec 37 2 oo' ({ f with out := f.out ++ [w] }).out.length oc' (flat eW ({ f with out := f.out ++ [w] }).out), .blk nb 34 [.int .i64 0, .slice wo' (l ++ [w]).length wc', .bool false, .slice none 0 0], .vec 37 2 wo' (l ++ [w]).length wc' (flat eW (l ++ [w]))] := by
  have hcat1 : flat eW f.out ++ flat eW [w] = flat eW (f.out ++ [w]) := (flat_append ..).symm
  have hcat2 : flat eW l ++ flat eW [w] = flat eW (l ++ [w]) := (flat_append ..).symm
  refine Spec.intro Tryz.func14 rfl Tryz.ntmps14 rfl fun w0 rest rs_ hrs_ => ?_
  simp only [List.cons_append, List.nil_append] at hrs_
  subst hrs_
  repeat (first | refine GC.seq ?_ | refine GC.region ?_)
  refine G.box rfl rfl rfl (fun wb => ?_)
  rw [show (Value.agg (eW w).toArray).cells.toList = [.int .i64 w.1, .int .i64 w.2] from rfl]
  repeat (first | refine G.nil ?_ | refine GC.seq ?_ | refine GE.then_normal ?_)
  refine GC.drawA [10] [.blk fb 52 [.slice oo (f).out.length oc, .int .i64 (f).front, .int .i64 (f).end_, .slice da (f).data.length dc], .blk wb 37 [.int .i64 w.1, .int .i64 w.2]] (by repeat first | exact tn_ | apply td_ rfl | apply tc_ | exact .here | apply Take1.there) (by kernel_rfl) ?_
  first | (apply GA.take [] (hD := .inl rfl) (hsub := ⟨_, Takes.nil⟩) (i := 0) (hi := rfl) (hs := by kernel_rfl) (hfr := by kernel_rfl) (hr := by kernel_rfl) (hQ := np_) (hd := rfl); case hx => (first | exact Ex.move rfl))
  first | (apply GA.take [] (hD := .inl rfl) (hsub := ⟨_, Takes.nil⟩) (i := 1) (hi := rfl) (hs := by kernel_rfl) (hfr := by kernel_rfl) (hr := by kernel_rfl) (hQ := np_) (hd := rfl); case hx => (first | exact Ex.move rfl))
  first | (apply GA.take [] (hD := .inl rfl) (hsub := ⟨_, Takes.nil⟩) (i := 2) (hi := rfl) (hs := by kernel_rfl) (hfr := by kernel_rfl) (hr := by kernel_rfl) (hQ := np_) (hd := rfl); case hx => (first | exact Ex.nilCheck rfl))
  first | (apply GA.take [] (hD := .inl rfl) (hsub := ⟨_, Takes.nil⟩) (i := 3) (hi := rfl) (hs := by kernel_rfl) (hfr := by kernel_rfl) (hr := by kernel_rfl) (hQ := np_) (hd := rfl); case hx => (first | exact Ex.fieldB rfl))
  first | (apply GA.take _ (hD := .inr ⟨rfl, by kernel_rfl⟩) (hsub := ⟨_, (by repeat first | exact tn_ | apply td_ rfl | apply tc_ | exact .here | apply Take1.there)⟩) (i := 4) (hi := rfl) (hs := by kernel_rfl) (hfr := by kernel_rfl) (hr := by kernel_rfl) (hQ := np_) (hd := rfl); case hx => (first | exact Ex.loadB rfl rfl))
  first | (apply GA.take _ (hD := .inr ⟨rfl, by kernel_rfl⟩) (hsub := ⟨_, (by repeat first | exact tn_ | apply td_ rfl | apply tc_ | exact .here | apply Take1.there)⟩) (i := 5) (hi := rfl) (hs := by kernel_rfl) (hfr := by kernel_rfl) (hr := by kernel_rfl) (hQ := np_) (hd := rfl); case hx => (first | exact Ex.loadBA rfl rfl rfl))
  refine GA.one (i := 6) (by kernel_rfl) rfl ?_
  refine G.lit (cells := flat eW [w]) rfl (by rfl) (by rfl) (by rfl) (by rfl) (by rfl) (by rfl) rfl (fun q1 => ?_)
  try refine G.nil ?_
  refine GA.back (by first | exact .inl (by decide) | exact .inr ⟨_, (by repeat first | exact tn_ | apply td_ rfl | apply tc_ | exact .here | apply Take1.there)⟩) ?_
  refine GA.one (i := 7) (by kernel_rfl) rfl ?_
  refine G.app rfl rfl (by rfl) (by omega) rfl (hcat1) (fun o2 c2 rs_ hrs_ => ?_)
  try simp only at hrs_
  subst hrs_
  try refine G.nil ?_
  refine GA.back (by first | exact .inl (by decide) | exact .inr ⟨_, (by repeat first | exact tn_ | apply td_ rfl | apply tc_ | exact .here | apply Take1.there)⟩) ?_
  first | (apply GA.take [] (hD := .inl rfl) (hsub := ⟨_, Takes.nil⟩) (i := 8) (hi := rfl) (hs := by kernel_rfl) (hfr := by kernel_rfl) (hr := by kernel_rfl) (hQ := np_) (hd := rfl); case hx => (first | exact Ex.nilCheck rfl))
  first | (apply GA.take [] (hD := .inl rfl) (hsub := ⟨_, Takes.nil⟩) (i := 9) (hi := rfl) (hs := by kernel_rfl) (hfr := by kernel_rfl) (hr := by kernel_rfl) (hQ := np_) (hd := rfl); case hx => (first | exact Ex.fieldB rfl))
  refine GA.one (i := 10) (by kernel_rfl) rfl ?_
  first | refine G.storeB rfl rfl rfl rfl rfl ?_
  try refine G.nil ?_
  refine GA.back (by first | exact .inl (by decide) | exact .inr ⟨_, (by repeat first | exact tn_ | apply td_ rfl | apply tc_ | exact .here | apply Take1.there)⟩) ?_
  refine GA.done (by kernel_rfl) ?_
  refine GE.then_normal ?_
  refine GC.drawA [10] [.blk nb 34 [.int .i64 0, .slice wo (l).length wc, .bool false, .slice none 0 0], .blk wb 37 [.int .i64 w.1, .int .i64 w.2]] (by repeat first | exact tn_ | apply td_ rfl | apply tc_ | exact .here | apply Take1.there) (by kernel_rfl) ?_
  first | (apply GA.take [] (hD := .inl rfl) (hsub := ⟨_, Takes.nil⟩) (i := 0) (hi := rfl) (hs := by kernel_rfl) (hfr := by kernel_rfl) (hr := by kernel_rfl) (hQ := np_) (hd := rfl); case hx => (first | exact Ex.move rfl))
  first | (apply GA.take [] (hD := .inl rfl) (hsub := ⟨_, Takes.nil⟩) (i := 1) (hi := rfl) (hs := by kernel_rfl) (hfr := by kernel_rfl) (hr := by kernel_rfl) (hQ := np_) (hd := rfl); case hx => (first | exact Ex.move rfl))
  first | (apply GA.take [] (hD := .inl rfl) (hsub := ⟨_, Takes.nil⟩) (i := 2) (hi := rfl) (hs := by kernel_rfl) (hfr := by kernel_rfl) (hr := by kernel_rfl) (hQ := np_) (hd := rfl); case hx => (first | exact Ex.nilCheck rfl))
  first | (apply GA.take [] (hD := .inl rfl) (hsub := ⟨_, Takes.nil⟩) (i := 3) (hi := rfl) (hs := by kernel_rfl) (hfr := by kernel_rfl) (hr := by kernel_rfl) (hQ := np_) (hd := rfl); case hx => (first | exact Ex.fieldB rfl))
  first | (apply GA.take _ (hD := .inr ⟨rfl, by kernel_rfl⟩) (hsub := ⟨_, (by repeat first | exact tn_ | apply td_ rfl | apply tc_ | exact .here | apply Take1.there)⟩) (i := 4) (hi := rfl) (hs := by kernel_rfl) (hfr := by kernel_rfl) (hr := by kernel_rfl) (hQ := np_) (hd := rfl); case hx => (first | exact Ex.loadB rfl rfl))
  first | (apply GA.take _ (hD := .inr ⟨rfl, by kernel_rfl⟩) (hsub := ⟨_, (by repeat first | exact tn_ | apply td_ rfl | apply tc_ | exact .here | apply Take1.there)⟩) (i := 5) (hi := rfl) (hs := by kernel_rfl) (hfr := by kernel_rfl) (hr := by kernel_rfl) (hQ := np_) (hd := rfl); case hx => (first | exact Ex.loadBA rfl rfl rfl))
  refine GA.one (i := 6) (by kernel_rfl) rfl ?_
  refine G.lit (cells := flat eW [w]) rfl (by rfl) (by rfl) (by rfl) (by rfl) (by rfl) (by rfl) rfl (fun q2 => ?_)
  try refine G.nil ?_
  refine GA.back (by first | exact .inl (by decide) | exact .inr ⟨_, (by repeat first | exact tn_ | apply td_ rfl | apply tc_ | exact .here | apply Take1.there)⟩) ?_
  refine GA.one (i := 7) (by kernel_rfl) rfl ?_
  refine G.app rfl rfl (by rfl) (by omega) rfl (hcat2) (fun o3 c3 rs_ hrs_ => ?_)
  try simp only at hrs_
  subst hrs_
  try refine G.nil ?_
  refine GA.back (by first | exact .inl (by decide) | exact .inr ⟨_, (by repeat first | exact tn_ | apply td_ rfl | apply tc_ | exact .here | apply Take1.there)⟩) ?_
  first | (apply GA.take [] (hD := .inl rfl) (hsub := ⟨_, Takes.nil⟩) (i := 8) (hi := rfl) (hs := by kernel_rfl) (hfr := by kernel_rfl) (hr := by kernel_rfl) (hQ := np_) (hd := rfl); case hx => (first | exact Ex.nilCheck rfl))
  first | (apply GA.take [] (hD := .inl rfl) (hsub := ⟨_, Takes.nil⟩) (i := 9) (hi := rfl) (hs := by kernel_rfl) (hfr := by kernel_rfl) (hr := by kernel_rfl) (hQ := np_) (hd := rfl); case hx => (first | exact Ex.fieldB rfl))
  refine GA.one (i := 10) (by kernel_rfl) rfl ?_
  first | refine G.storeB rfl rfl rfl rfl rfl ?_
  try refine G.nil ?_
  refine GA.back (by first | exact .inl (by decide) | exact .inr ⟨_, (by repeat first | exact tn_ | apply td_ rfl | apply tc_ | exact .here | apply Take1.there)⟩) ?_
  refine GA.done (by kernel_rfl) ?_
  rw [show f.out.length + 1 = (f.out ++ [w]).length by rw [List.length_append]; rfl, show l.length + 1 = (l ++ [w]).length by rw [List.length_append]; rfl]
  repeat (first | refine G.storeB rfl rfl rfl rfl rfl ?_ | refine G.storeBA rfl rfl rfl rfl rfl ?_ | (apply G.ex (hd := rfl); case h => (first | exact Ex.move rfl | exact Ex.nilCheck rfl | exact Ex.lenO rfl | exact Ex.indexO rfl rfl (by omega) | exact Ex.eqO rfl rfl | exact Ex.neO rfl rfl | exact Ex.subLo rfl rfl (by omega) | exact Ex.subHi rfl rfl (by omega) | exact Ex.subMid rfl rfl rfl (by omega) | exact Ex.addO rfl rfl (by omega) | exact Ex.indexPE rfl rfl (by first | omega | (simp; done) | (simp; omega)) | exact Ex.indexPB rfl rfl (by first | omega | (simp; done) | (simp; omega)) | exact Ex.loadP rfl (by omega) | exact Ex.loadPW rfl | exact Ex.loadRP rfl (by first | omega | (simp; done) | (simp; omega)) (by omega) | exact Ex.bld0 | exact Ex.bldR | exact Ex.fieldE rfl | exact Ex.fieldB rfl | exact Ex.loadB rfl rfl | exact Ex.add rfl rfl (by omega) | exact Ex.sub rfl rfl (by omega) | exact Ex.lss rfl rfl | exact Ex.leq rfl rfl | exact Ex.gtr rfl rfl | exact Ex.geq rfl rfl | exact Ex.eqBy rfl rfl | exact Ex.neBy rfl rfl | exact Ex.eqI rfl rfl | exact Ex.neI rfl rfl | exact Ex.lenSl rfl | exact Ex.indexN rfl rfl (by first | omega | (simp; done) | (simp; omega)) | exact Ex.loadT0 rfl (by first | omega | (simp; done) | (simp; omega)) rfl | exact Ex.loadT rfl (by first | omega | (simp; done) | (simp; omega)) rfl | exact Ex.extract rfl rfl | exact Ex.field rfl rfl | exact Ex.assign rfl | exact Ex.min rfl rfl | exact Ex.min3 rfl rfl rfl | exact Ex.max rfl rfl | exact Ex.quo rfl rfl (by omega) | exact Ex.quotB rfl rfl (by omega) | exact Ex.rem rfl rfl (by omega) | exact Ex.mul rfl rfl (by omega) | exact Ex.remt rfl rfl (by omega) | exact Ex.notD rfl | exact Ex.notB rfl | exact Ex.eqS rfl rfl | exact Ex.neS rfl rfl | exact Ex.eqB rfl rfl | exact Ex.neB rfl rfl | exact Ex.lenS rfl | exact Ex.indexS rfl rfl (by first | omega | (simp; done) | (simp; omega)) | exact Ex.neg rfl (by omega) | exact Ex.convS rfl | exact Ex.pickT rfl (by first | assumption | omega) rfl | exact Ex.pickF rfl (by first | assumption | omega) rfl | exact Ex.loadBA rfl rfl rfl | exact Ex.loadTA rfl (by first | omega | (simp; done) | (simp; omega)) | exact Ex.build rfl rfl | exact Ex.pickLT rfl rfl | exact Ex.pickLF rfl rfl | exact Ex.eqA rfl rfl rfl | exact Ex.neA rfl rfl rfl | exact Ex.pick rfl rfl rfl | exact Ex.indexI rfl rfl (by omega) | exact Ex.conv64b rfl | exact Ex.conv64 rfl (by omega) | exact Ex.conv8 rfl | exact Ex.conv16 rfl | exact Ex.shr8 rfl rfl | exact Ex.shr16 rfl rfl | exact Ex.shr24 rfl rfl | exact Ex.shl8b rfl rfl | exact Ex.shl8 rfl rfl (by omega) | exact Ex.orBbb rfl rfl | exact Ex.orBb rfl rfl (by omega) | exact Ex.orB rfl rfl (by omega) | exact Ex.and16 rfl rfl (by omega) | exact Ex.eqNil rfl rfl | exact Ex.neNil rfl rfl | exact Ex.mkFunc rfl | exact Ex.capSl rfl | exact Ex.arrPtr rfl (by omega) | exact Ex.loadArI rfl (by assumption) rfl | exact Ex.eqArrI rfl rfl (by assumption) (by assumption) | exact Ex.loadAr rfl rfl rfl rfl | exact Ex.indexArr rfl rfl (by first | omega | (simp; done) | (simp; omega)) | exact Ex.buildArr rfl rfl | exact Ex.indexV rfl rfl rfl rfl (by omega) | exact Ex.shlK rfl rfl (by omega) | exact Ex.orK rfl rfl (by omega) | exact Ex.shrK rfl rfl (by omega) | exact Ex.andS rfl rfl | exact Ex.andS (k := 0) rfl rfl | exact Ex.andK rfl rfl (by omega) | exact Ex.xorB rfl rfl | exact Ex.and rfl rfl | exact Ex.slHi rfl rfl (by omega) | exact Ex.slLo rfl rfl (by omega) | exact Ex.slLH rfl rfl rfl (by omega) | exact Ex.sl3 rfl rfl rfl rfl (by omega) | exact Ex.convBO rfl (by omega) | exact Ex.loadB rfl (by assumption) | exact Ex.eqP0 rfl rfl | exact Ex.neP0 rfl rfl | exact Ex.nePB rfl rfl | exact Ex.mkIface rfl | exact Ex.asYes rfl | exact Ex.asNo rfl rfl | exact Ex.asOne rfl)) | refine G.g_tt rfl rfl (by first | assumption | omega) ?_ | refine G.g_tf rfl rfl (by first | assumption | omega) rfl ?_ | refine G.g_ft rfl rfl (by first | assumption | omega) rfl ?_ | refine G.g_ff rfl rfl (by first | assumption | omega) ?_ | refine G.g_un rfl rfl rfl ?_ | refine G.yes rfl rfl ?_ | refine G.l_tf rfl rfl rfl ?_ | refine G.l_ft rfl rfl rfl ?_ | refine G.nil ?_ | (apply Gq.ex (hd := rfl); case h => (first | exact Ex.move rfl | exact Ex.nilCheck rfl | exact Ex.lenO rfl | exact Ex.indexO rfl rfl (by omega) | exact Ex.eqO rfl rfl | exact Ex.neO rfl rfl | exact Ex.subLo rfl rfl (by omega) | exact Ex.subHi rfl rfl (by omega) | exact Ex.subMid rfl rfl rfl (by omega) | exact Ex.addO rfl rfl (by omega) | exact Ex.indexPE rfl rfl (by first | omega | (simp; done) | (simp; omega)) | exact Ex.indexPB rfl rfl (by first | omega | (simp; done) | (simp; omega)) | exact Ex.loadP rfl (by omega) | exact Ex.loadPW rfl | exact Ex.loadRP rfl (by first | omega | (simp; done) | (simp; omega)) (by omega) | exact Ex.bld0 | exact Ex.bldR | exact Ex.fieldE rfl | exact Ex.fieldB rfl | exact Ex.loadB rfl rfl | exact Ex.add rfl rfl (by omega) | exact Ex.sub rfl rfl (by omega) | exact Ex.lss rfl rfl | exact Ex.leq rfl rfl | exact Ex.gtr rfl rfl | exact Ex.geq rfl rfl | exact Ex.eqBy rfl rfl | exact Ex.neBy rfl rfl | exact Ex.eqI rfl rfl | exact Ex.neI rfl rfl | exact Ex.lenSl rfl | exact Ex.indexN rfl rfl (by first | omega | (simp; done) | (simp; omega)) | exact Ex.loadT0 rfl (by first | omega | (simp; done) | (simp; omega)) rfl | exact Ex.loadT rfl (by first | omega | (simp; done) | (simp; omega)) rfl | exact Ex.extract rfl rfl | exact Ex.field rfl rfl | exact Ex.assign rfl | exact Ex.min rfl rfl | exact Ex.min3 rfl rfl rfl | exact Ex.max rfl rfl | exact Ex.quo rfl rfl (by omega) | exact Ex.quotB rfl rfl (by omega) | exact Ex.rem rfl rfl (by omega) | exact Ex.mul rfl rfl (by omega) | exact Ex.remt rfl rfl (by omega) | exact Ex.notD rfl | exact Ex.notB rfl | exact Ex.eqS rfl rfl | exact Ex.neS rfl rfl | exact Ex.eqB rfl rfl | exact Ex.neB rfl rfl | exact Ex.lenS rfl | exact Ex.indexS rfl rfl (by first | omega | (simp; done) | (simp; omega)) | exact Ex.neg rfl (by omega) | exact Ex.convS rfl | exact Ex.pickT rfl (by first | assumption | omega) rfl | exact Ex.pickF rfl (by first | assumption | omega) rfl | exact Ex.loadBA rfl rfl rfl | exact Ex.loadTA rfl (by first | omega | (simp; done) | (simp; omega)) | exact Ex.build rfl rfl | exact Ex.pickLT rfl rfl | exact Ex.pickLF rfl rfl | exact Ex.eqA rfl rfl rfl | exact Ex.neA rfl rfl rfl | exact Ex.pick rfl rfl rfl | exact Ex.indexI rfl rfl (by omega) | exact Ex.conv64b rfl | exact Ex.conv64 rfl (by omega) | exact Ex.conv8 rfl | exact Ex.conv16 rfl | exact Ex.shr8 rfl rfl | exact Ex.shr16 rfl rfl | exact Ex.shr24 rfl rfl | exact Ex.shl8b rfl rfl | exact Ex.shl8 rfl rfl (by omega) | exact Ex.orBbb rfl rfl | exact Ex.orBb rfl rfl (by omega) | exact Ex.orB rfl rfl (by omega) | exact Ex.and16 rfl rfl (by omega) | exact Ex.eqNil rfl rfl | exact Ex.neNil rfl rfl | exact Ex.mkFunc rfl | exact Ex.capSl rfl | exact Ex.arrPtr rfl (by omega) | exact Ex.loadArI rfl (by assumption) rfl | exact Ex.eqArrI rfl rfl (by assumption) (by assumption) | exact Ex.loadAr rfl rfl rfl rfl | exact Ex.indexArr rfl rfl (by first | omega | (simp; done) | (simp; omega)) | exact Ex.buildArr rfl rfl | exact Ex.indexV rfl rfl rfl rfl (by omega) | exact Ex.shlK rfl rfl (by omega) | exact Ex.orK rfl rfl (by omega) | exact Ex.shrK rfl rfl (by omega) | exact Ex.andS rfl rfl | exact Ex.andS (k := 0) rfl rfl | exact Ex.andK rfl rfl (by omega) | exact Ex.xorB rfl rfl | exact Ex.and rfl rfl | exact Ex.slHi rfl rfl (by omega) | exact Ex.slLo rfl rfl (by omega) | exact Ex.slLH rfl rfl rfl (by omega) | exact Ex.sl3 rfl rfl rfl rfl (by omega) | exact Ex.convBO rfl (by omega) | exact Ex.loadB rfl (by assumption) | exact Ex.eqP0 rfl rfl | exact Ex.neP0 rfl rfl | exact Ex.nePB rfl rfl | exact Ex.mkIface rfl | exact Ex.asYes rfl | exact Ex.asNo rfl rfl | exact Ex.asOne rfl)) | refine Gq.g_tt rfl rfl (by first | assumption | omega) ?_ | refine Gq.g_tf rfl rfl (by first | assumption | omega) rfl ?_ | refine Gq.g_ft rfl rfl (by first | assumption | omega) rfl ?_ | refine Gq.g_ff rfl rfl (by first | assumption | omega) ?_ | refine Gq.g_un rfl rfl rfl ?_ | refine Gq.yes rfl rfl ?_ | refine Gq.l_tf rfl rfl rfl ?_ | refine Gq.l_ft rfl rfl rfl ?_ | refine Gq.nil ?_ | refine GC.seq ?_ | refine GC.region ?_ | refine GC.block ?_ | refine GC.skip ?_ | refine GC.ret ?_ | refine GC.exit ?_ | refine GE.then_normal ?_ | refine GE.then_ret ?_ | refine GE.then_exit ?_ | refine GE.block_normal ?_ | refine GE.block_ret ?_ | refine GE.block_hit ?_ | refine GE.block_miss rfl ?_ | refine GC.cond_yes rfl (by first | assumption | omega) ?_ | refine GC.cond_no rfl (by first | assumption | omega) ?_ | refine GC.cond_t rfl ?_ | refine GC.cond_f rfl ?_ | refine GC.scope ?_ | refine GE.ng_normal ?_ | refine GE.ng_ret ?_ | refine GE.ng_exit ?_ | refine GC.label ?_)
  refine GE.ret (by first | exact .inl rfl | exact .inr rfl) (res0 Tryz.results14) ⟨o2, c2, o3, c3, rfl, rfl⟩ (by repeat first | exact tn_ | apply td_ rfl | apply tc_ | exact .here | apply Take1.there) (by repeat (first | exact Subs.refl | refine Subs.skip ?_))
theorem open1_sp (fb pb : Nat) (f : Fe) (oo : Option Addr) (oc : Nat) (da : Option Addr) (dc : Nat) (y : Wa) : Spec Tryz.prog 15 [.agg (eW y).toArray, .pointer (some (badr pb 0))] [.blk pb 50 [.pointer (some (badr fb 0))], .blk fb 52 [.slice oo (f).out.length oc, .int .i64 (f).front, .int .i64 (f).end_, .slice da (f).data.length dc]] fun v give => v = .bool (opn f y) ∧ give = [.blk pb 50 [.pointer (some (badr fb 0))], .blk fb 52 [.slice oo (f).out.length oc, .int .i64 (f).front, .int .i64 (f).end_, .slice da (f).data.length dc]] := by
  refine Spec.intro Tryz.func15 rfl Tryz.ntmps15 rfl fun w0 rest rs_ hrs_ => ?_
  simp only [List.cons_append, List.nil_append] at hrs_
  subst hrs_
  repeat (first | refine GC.seq ?_ | refine GC.region ?_)
  refine G.box rfl rfl rfl (fun rb => ?_)
  rw [show (Value.agg (eW y).toArray).cells.toList = [.int .i64 y.1, .int .i64 y.2] from rfl]
  repeat (first | (apply G.ex (hd := rfl); case h => (first | exact Ex.assign rfl)) | refine G.nil ?_ | (apply Gq.ex (hd := rfl); case h => (first | exact Ex.nilCheck rfl | exact Ex.fieldB rfl | exact Ex.loadB rfl rfl | exact Ex.lss rfl rfl | exact Ex.assign rfl)) | refine Gq.nil ?_ | refine GC.seq ?_ | refine GC.draw (by kernel_rfl) (by kernel_rfl) ?_ | refine GC.ret ?_ | refine GE.then_normal ?_)
  refine GE.ret (by first | exact .inl rfl | exact .inr rfl) (res1 Tryz.results15 rfl) ⟨rfl, rfl⟩ (by repeat first | exact tn_ | apply td_ rfl | apply tc_ | exact .here | apply Take1.there) (by repeat (first | exact Subs.refl | refine Subs.skip ?_))
set_option maxHeartbeats 1000000 in
theorem indexF_sp (fb pb : Nat) (f : Fe) (oo : Option Addr) (oc : Nat) (da : Option Addr) (dc : Nat) (ao : Option Addr) (n c : Nat) (l : List Wa) (hl : l.length = n) (hn : n ≤ 1000000) :
    Spec Tryz.prog 22 [.slice ao n c, .func (.func 15) #[] #[.pointer (some (badr pb 0))]] [.vec 37 2 ao n c (flat eW l), .blk pb 50 [.pointer (some (badr fb 0))], .blk fb 52 [.slice oo (f).out.length oc, .int .i64 (f).front, .int .i64 (f).end_, .slice da (f).data.length dc]] fun v give => ∃ j : Int, (0 ≤ j ↔ l.any (opn f) = true) ∧ v = .int .i64 j ∧ give = [.vec 37 2 ao n c (flat eW l), .blk pb 50 [.pointer (some (badr fb 0))], .blk fb 52 [.slice oo (f).out.length oc, .int .i64 (f).front, .int .i64 (f).end_, .slice da (f).data.length dc]] := by
  refine Spec.intro Tryz.func22 rfl Tryz.ntmps22 rfl fun w0 rest rs_ hrs_ => ?_
  simp only [List.cons_append, List.nil_append] at hrs_
  subst hrs_
  repeat (first | (apply G.ex (hd := rfl); case h => (first | exact Ex.move rfl | exact Ex.lenSl rfl | exact Ex.assign rfl)) | refine G.nil ?_ | refine GC.seq ?_ | refine GC.region ?_ | refine GC.block ?_ | refine GE.then_normal ?_)
  refine GC.loop (ι := Nat) (fun k => k ≤ n ∧ (l.take k).any (opn f) = false) (fun k => n - k) (fun k => [(0, .slice ao n c), (1, .func (.func 15) #[] #[.pointer (some (badr pb 0))]), (7, .int .i64 (n : Int)), (8, .int .i64 (k : Int))]) (fun _ => [.vec 37 2 ao n c (flat eW l), .blk pb 50 [.pointer (some (badr fb 0))], .blk fb 52 [.slice oo (f).out.length oc, .int .i64 (f).front, .int .i64 (f).end_, .slice da (f).data.length dc]]) 0 ⟨Nat.zero_le _, rfl⟩ (by simp only [fits]; repeat (first | exact trivial | refine And.intro rfl ?_)) (by repeat first | exact tn_ | apply td_ rfl | apply tc_ | exact .here | apply Take1.there) ?_
  rintro k ⟨hk, hno⟩ fr_ rs_ hfr_ hrs_
  simp only [List.cons_append, List.nil_append] at hfr_ hrs_
  subst hfr_ hrs_
  repeat (first | (apply G.ex (hd := rfl); case h => (first | exact Ex.lss rfl rfl)) | refine G.nil ?_ | refine GC.seq ?_ | refine GC.region ?_ | refine GE.then_normal ?_)
  refine GC.cond_dec rfl (fun hlt => ?_) (fun hlt => ?_)
  · have hlt : k < n := by omega
    have htk : (l.take (k + 1)).any (opn f) = opn f (l.getD k default) := by
      rw [List.take_succ_eq_append_getElem (by omega), List.any_append, hno, Bool.false_or, getD_eqW l k (by omega)]
      simp
    repeat (first | (apply G.ex (hd := rfl); case h => (first | exact Ex.move rfl | exact Ex.indexN rfl rfl (by first | omega | (simp; done) | (simp; omega)) | exact Ex.assign rfl | exact Ex.loadTA rfl (by first | omega | (simp; done) | (simp; omega)))) | refine G.nil ?_ | refine GC.seq ?_ | refine GC.region ?_ | refine GC.block ?_ | refine GC.skip ?_ | refine GE.then_normal ?_)
    first | refine G.call (open1_sp fb pb f oo oc da dc (l.getD k default)) rfl rfl rfl rfl (by repeat first | exact tn_ | apply td_ rfl | apply tc_ | exact .here | apply Take1.there) ?_ | refine G.callU (open1_sp fb pb f oo oc da dc (l.getD k default)) rfl rfl rfl (by repeat first | exact tn_ | apply td_ rfl | apply tc_ | exact .here | apply Take1.there) ?_
    rintro v_ give_ ⟨rfl, rfl⟩ rs_ hrs_
    simp only [List.cons_append, List.nil_append] at hrs_
    subst hrs_
    cases hx : opn f (l.getD k default) with
    | true =>
      repeat (first | (apply G.ex (hd := rfl); case h => (first | exact Ex.move rfl | exact Ex.assign rfl)) | refine G.nil ?_ | refine GC.seq ?_ | refine GC.region ?_ | refine GC.ret ?_ | refine GE.then_normal ?_ | refine GE.then_ret ?_ | refine GE.block_ret ?_ | refine GC.cond_t rfl ?_)
      refine GE.ret (by first | exact .inl rfl | exact .inr rfl) (res1 Tryz.results22 rfl) ⟨(k : Int), ⟨fun _ => by rw [List.any_eq_true]; exact ⟨l.getD k default, by rw [getD_eqW l k (by omega)]; exact List.getElem_mem _, hx⟩, fun _ => by omega⟩, rfl, rfl⟩ (by repeat first | exact tn_ | apply td_ rfl | apply tc_ | exact .here | apply Take1.there) (by repeat (first | exact Subs.refl | refine Subs.skip ?_))
    | false =>
      repeat (first | (apply G.ex (hd := rfl); case h => (first | exact Ex.move rfl | exact Ex.add rfl rfl (by omega))) | refine G.nil ?_ | refine GC.region ?_ | refine GC.skip ?_ | refine GE.then_normal ?_ | refine GE.block_normal ?_ | refine GC.cond_f rfl ?_)
      rw [show (k : Int) + 1 = ((k + 1 : Nat) : Int) by omega]
      refine GE.loop (k + 1) ⟨by omega, by rw [htk, hx]⟩ (by omega) (by simp only [fits]; repeat (first | exact trivial | refine And.intro rfl ?_)) (by repeat first | exact tn_ | apply td_ rfl | apply tc_ | exact .here | apply Take1.there) (by repeat (first | exact Subs.refl | refine Subs.skip ?_))
  · obtain rfl : k = n := by omega
    rw [List.take_of_length_le (by omega)] at hno
    repeat (first | (apply G.ex (hd := rfl); case h => (first | exact Ex.assign rfl)) | refine G.nil ?_ | refine GC.seq ?_ | refine GC.region ?_ | refine GC.ret ?_ | refine GC.exit ?_ | refine GE.then_normal ?_ | refine GE.then_exit ?_ | refine GE.block_hit ?_)
    refine GE.ret (by first | exact .inl rfl | exact .inr rfl) (res1 Tryz.results22 rfl) ⟨-1, ⟨fun h => by omega, fun h => by rw [hno] at h; exact nomatch h⟩, rfl, rfl⟩ (by repeat first | exact tn_ | apply td_ rfl | apply tc_ | exact .here | apply Take1.there) (by repeat (first | exact Subs.refl | refine Subs.skip ?_))
theorem contains_sp (fb pb : Nat) (f : Fe) (oo : Option Addr) (oc : Nat) (da : Option Addr) (dc : Nat) (ao : Option Addr) (n c : Nat) (l : List Wa) (hl : l.length = n) (hn : n ≤ 1000000) :
    Spec Tryz.prog 16 [.slice ao n c, .func (.func 15) #[] #[.pointer (some (badr pb 0))]] [.vec 37 2 ao n c (flat eW l), .blk pb 50 [.pointer (some (badr fb 0))], .blk fb 52 [.slice oo (f).out.length oc, .int .i64 (f).front, .int .i64 (f).end_, .slice da (f).data.length dc]] fun v give => v = .bool (l.any (opn f)) ∧ give = [.vec 37 2 ao n c (flat eW l), .blk pb 50 [.pointer (some (badr fb 0))], .blk fb 52 [.slice oo (f).out.length oc, .int .i64 (f).front, .int .i64 (f).end_, .slice da (f).data.length dc]] := by
  refine Spec.intro Tryz.func16 rfl Tryz.ntmps16 rfl fun w0 rest rs_ hrs_ => ?_
  simp only [List.cons_append, List.nil_append] at hrs_
  subst hrs_
  repeat (first | (apply G.ex (hd := rfl); case h => (first | exact Ex.move rfl | exact Ex.assign rfl)) | refine G.nil ?_ | refine GC.seq ?_ | refine GC.region ?_ | refine GE.then_normal ?_)
  first | refine G.call (caps := []) (indexF_sp fb pb f oo oc da dc ao n c l hl hn) rfl rfl rfl rfl (by repeat first | exact tn_ | apply td_ rfl | apply tc_ | exact .here | apply Take1.there) ?_ | refine G.callU (caps := []) (indexF_sp fb pb f oo oc da dc ao n c l hl hn) rfl rfl rfl (by repeat first | exact tn_ | apply td_ rfl | apply tc_ | exact .here | apply Take1.there) ?_
  rintro v_ give_ ⟨j, hj, rfl, rfl⟩ rs_ hrs_
  simp only [List.cons_append, List.nil_append] at hrs_
  subst hrs_
  repeat (first | (apply G.ex (hd := rfl); case h => (first | exact Ex.geq rfl rfl | exact Ex.assign rfl)) | refine G.nil ?_ | refine GC.ret ?_ | refine GE.then_normal ?_)
  refine GE.ret (by first | exact .inl rfl | exact .inr rfl) (res1 Tryz.results16 rfl) ⟨by congr 1; rw [Bool.eq_iff_iff, decide_eq_true_iff]; exact hj, rfl⟩ (by repeat first | exact tn_ | apply td_ rfl | apply tc_ | exact .here | apply Take1.there) (by repeat (first | exact Subs.refl | refine Subs.skip ?_))
end fetch
end Go.Proofs.YtmceappjldcbmaaGreatDoor
