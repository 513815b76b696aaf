/-
  WHO SERVES, IN MEMORY; contracts of serve.no, told, may, free, by the kit.
-/
import Derived.Test.YtmceappjldcbmaaGreatDoorServeP
import Derived.Test.YtmceappjldcbmaaGreatDoorTreeN3
import Derived.Test.YtmceappjldcbmaaGreatDoorKitN2
namespace Go.Proofs.YtmceappjldcbmaaGreatDoor
open Go.RowKit
attribute [local irreducible] Ex G GC GE Gq FPost LPost
set_option linter.unusedVariables false
set_option linter.unusedSimpArgs false
theorem Laid.start {w : World} {g : Nat} {vs : List Value} (h : ∀ i v, vs[i]? = some v → w.cell? ⟨g, i, none⟩ = some v) : Holds w w [.per (Laid g vs)] :=
  Holds.frozen fun r hr => by
    obtain rfl := List.mem_singleton.1 hr
    intro i v hv
    have := h i v hv
    unfold World.cell? at this
    simp only at this
    cases e : w.heap[g]? with
    | none => rw [e] at this; simp at this
    | some o =>
      rw [e] at this
      cases o with
      | cells cur t z => exact ⟨cur, t, z, e, by simpa using this⟩
      | _ => simp at this
namespace serve
open tree path msg
def ePl (p : Pl) : List Value := [.int .i64 (p.freed : Int), .bool p.op, .string (sOf p.path), .int .i64 p.how]
instance : Enc ePl 4 := ⟨fun _ => rfl, fun x u hu => by simp [ePl] at hu; rcases hu with rfl | rfl | rfl | rfl <;> rfl⟩
/-- the server's cells -/
abbrev svC (bt : Nat) (ps : List Pl) : List Value := tree.ptr bt :: flat ePl ps
abbrev SvB (bs bt : Nat) (ps : List Pl) : Res := .blk bs 71 (svC bt ps)
theorem svC_at {bt : Nat} {ps : List Pl} {k j : Nat} {v : Value} (hk : k < ps.length) (hj : j < 4) (hv : (ePl (ps.getD k default))[j]? = some v) : (svC bt ps)[0 + 1 + k * 4 + j]? = some v := by
  rw [show 0 + 1 + k * 4 + j = (k * 4 + j) + 1 by omega]
  show (flat ePl ps)[k * 4 + j]? = _
  rw [flat_at (inferInstance : Enc ePl 4) ps k j hk hj, hv]
theorem svC_at' {bt : Nat} {ps : List Pl} {k j : Nat} {v : Value} (hk : k < ps.length) (hj : j < 4) (hv : (ePl (ps.getD k default))[j]? = some v) : (svC bt ps)[0 + 1 + (k * 4 + j)]? = some v := by
  rw [← Nat.add_assoc]; exact svC_at hk hj hv
theorem svC_len (bt : Nat) (ps : List Pl) : (svC bt ps).length = 1 + ps.length * 4 := by
  show (flat ePl ps).length + 1 = _
  rw [flat_len (inferInstance : Enc ePl 4)]; omega
theorem blt_of {a b : Nat} (h : a < b) : Nat.blt a b = true := by rw [Nat.blt_eq]; exact h
theorem svC_split {bt : Nat} {ps : List Pl} {k : Nat} (hk : k < ps.length) : svC bt ps = tree.ptr bt :: (flat ePl (ps.take k) ++ (ePl (ps.getD k default) ++ flat ePl (ps.drop (k + 1)))) := by
  have e : ps = ps.take k ++ (ps.getD k default :: ps.drop (k + 1)) := by
    rw [List.getD_eq_getElem?_getD, List.getElem?_eq_getElem hk]
    conv => lhs; rw [← List.take_append_drop k ps, List.drop_eq_getElem_cons hk]
    rfl
  show tree.ptr bt :: flat ePl ps = _
  conv => lhs; rw [e, flat_append]
  rfl
theorem svC_put {bt : Nat} {ps : List Pl} {k : Nat} (hk : k < ps.length) (q : Pl) : svC bt (ps.set k q) = tree.ptr bt :: (flat ePl (ps.take k) ++ (ePl q ++ flat ePl (ps.drop (k + 1)))) := by
  rw [svC_split (k := k) (by rw [List.length_set]; exact hk)]
  rw [List.take_set_of_le (Nat.le_refl _), List.drop_set_of_lt (Nat.lt_succ_self _), getD_set', if_pos ⟨rfl, hk⟩]
theorem take_len {ps : List Pl} {k : Nat} (hk : k < ps.length) : (flat ePl (ps.take k)).length = k * 4 := by
  rw [flat_len (inferInstance : Enc ePl 4), List.length_take, Nat.min_eq_left (by omega)]
theorem set_mid (x : Value) (A M B : List Value) {n j : Nat} (hn : A.length = n) (hj : j < M.length) (v : Value) : (x :: (A ++ (M ++ B))).set (0 + 1 + n + j) v = x :: (A ++ (M.set j v ++ B)) := by
  rw [show 0 + 1 + n + j = (n + j) + 1 by omega, List.set_cons_succ, List.set_append, if_neg (by omega), hn, Nat.add_sub_cancel_left, List.set_append, if_pos hj]
/-- a place is opened -/
theorem svC_open {bt : Nat} {ps : List Pl} {k : Nat} (hk : k < ps.length) (p : Nm) (how : Int) :
    (((svC bt ps).set (0 + 1 + k * 4 + 1) (.bool true)).set (0 + 1 + k * 4 + 2) (.string (sOf p))).set (0 + 1 + k * 4 + 3) (.int .i64 how) = svC bt (ps.set k ⟨(ps.getD k default).freed, true, p, how⟩) := by
  rw [svC_put hk, svC_split hk, set_mid _ _ _ _ (take_len hk) (by show 1 < 4; decide), set_mid _ _ _ _ (take_len hk) (by rw [List.length_set]; show 2 < 4; decide), set_mid _ _ _ _ (take_len hk) (by rw [List.length_set, List.length_set]; show 3 < 4; decide)]
  rfl
/-- a place is written whole -/
theorem svC_whole {bt : Nat} {ps : List Pl} {k : Nat} (hk : k < ps.length) (q : Pl) : (svC bt ps).take (0 + 1 + k * 4) ++ ePl q ++ (svC bt ps).drop (0 + 1 + k * 4 + (ePl q).length) = svC bt (ps.set k q) := by
  rw [svC_put hk, svC_split hk]
  have hl := take_len hk
  have e4 : (ePl q).length = 4 := rfl
  have e4' : (ePl (ps.getD k default)).length = 4 := rfl
  rw [show 0 + 1 + k * 4 = k * 4 + 1 by omega, e4, show k * 4 + 1 + 4 = (k * 4 + 4) + 1 by omega, List.take_succ_cons, List.drop_succ_cons, List.take_append_of_le_length (by omega), List.take_of_length_le (by omega), List.drop_append, List.drop_of_length_le (by omega), List.nil_append, hl, Nat.add_sub_cancel_left, List.drop_append, List.drop_of_length_le (by omega), List.nil_append, e4', Nat.sub_self, List.drop_zero, List.append_assoc]
  rfl
theorem bit_has : ∀ n : Nat, n < 32 → ∀ k ∈ [1, 2, 4, 8, 16], decide ((0 : Int) < bits .and .i64 (n : Int) ((k : Nat) : Int)) = decide ((n / k) % 2 = 1) := by decide
theorem bit_of {h : Int} (h0 : 0 ≤ h) (h1 : h ≤ 31) {k : Nat} (hk : k ∈ [1, 2, 4, 8, 16]) : decide ((0 : Int) < bits .and .i64 h (k : Int)) = decide (has h k) := by
  obtain ⟨m, rfl⟩ : ∃ m : Nat, h = m := ⟨h.toNat, by omega⟩
  have := bit_has m (by omega) k hk
  rw [this]; rfl
theorem bit_pos {h : Int} (h0 : 0 ≤ h) (h1 : h ≤ 31) {k : Nat} (hk : k ∈ [1, 2, 4, 8, 16]) (hh : has h k) : (0 : Int) < bits .and .i64 h (k : Int) :=
  of_decide_eq_true ((bit_of h0 h1 hk).trans (decide_eq_true hh))
theorem bit_neg {h : Int} (h0 : 0 ≤ h) (h1 : h ≤ 31) {k : Nat} (hk : k ∈ [1, 2, 4, 8, 16]) (hh : ¬ has h k) : ¬ (0 : Int) < bits .and .i64 h (k : Int) :=
  of_decide_eq_false ((bit_of h0 h1 hk).trans (decide_eq_false hh))
theorem bit_nil : ∀ n : Nat, n < 32 → ∀ k ∈ [1, 2, 4, 8, 16], 0 ≤ bits .and .i64 (n : Int) ((k : Nat) : Int) := by decide
theorem bit_zero {h : Int} (h0 : 0 ≤ h) (h1 : h ≤ 31) {k : Nat} (hk : k ∈ [1, 2, 4, 8, 16]) : (has h k → ¬ bits .and .i64 h (k : Int) = 0) ∧ (¬ has h k → bits .and .i64 h (k : Int) = 0) := by
  refine ⟨fun hh => ?_, fun hh => ?_⟩
  · have := bit_pos h0 h1 hk hh; omega
  · have := bit_neg h0 h1 hk hh
    obtain ⟨m, rfl⟩ : ∃ m : Nat, h = m := ⟨h.toNat, by omega⟩
    have := bit_nil m (by omega) k hk
    omega
/-- a reply in memory -/
def eRp (x : Rp) (da : Option Addr) (dc : Nat) (na : Option Addr) (nc : Nat) : List Value := [.int .i64 x.mark, .int .i64 x.code, .int .i64 x.handle, .int .i64 x.kind, .int .i64 x.size, .slice da x.d.length dc, .slice na x.names.length nc]
def RpP (x : Rp) (rs : List Res) (v : Value) (give : List Res) : Prop := ∃ da dc na nc, v = .agg (eRp x da dc na nc).toArray ∧ give = .vec 5 1 da x.d.length dc (flat eB x.d) :: .vec 9 1 na x.names.length nc (flat eO x.names) :: rs
theorem no_sp (e : Int) : Spec Tryz.prog 27 [.int .i64 e] [] fun v give => v = .agg (eRp (rp e) none 0 none 0).toArray ∧ give = [] := by
  refine Spec.intro Tryz.func27 rfl Tryz.ntmps27 rfl fun w0 rest rs_ hrs_ => ?_
  simp only [List.cons_append, List.nil_append] at hrs_
  subst hrs_
  repeat (first | refine GC.seq ?_ | refine GC.region ?_)
  refine G.alloc rfl (fun b => ?_)
  repeat (first | refine G.storeBA rfl rfl rfl rfl rfl ?_ | (apply G.ex (hd := rfl); case h => (first | exact Ex.move rfl | exact Ex.build rfl rfl)) | refine G.nil ?_ | refine GC.seq ?_ | refine GC.region ?_ | refine GC.ret ?_ | refine GE.then_normal ?_)
  refine GE.ret (by first | exact .inl rfl | exact .inr rfl) (resR1 Tryz.results27 (by first | exact RV.cell rfl (eP_len _) | exact RV.cell rfl rfl | exact RV.cell1 rfl)) ⟨rfl, rfl⟩ (by repeat first | exact tn_ | apply td_ rfl | apply tc_ | exact .here | apply Take1.there) (by repeat (first | exact Subs.refl | refine Subs.skip ?_))
theorem told_sp (s : Sn) (da : Option Addr) (dc : Nat) (na : Option Addr) (nc : Nat) : Spec Tryz.prog 23 [.agg (eSn s da dc na nc).toArray] [] fun v give => v = .agg (eRp (told s) da dc na nc).toArray ∧ give = [] := by
  refine Spec.intro Tryz.func23 rfl Tryz.ntmps23 rfl fun w0 rest rs_ hrs_ => ?_
  simp only [List.cons_append, List.nil_append] at hrs_
  subst hrs_
  repeat (first | refine GC.seq ?_ | refine GC.region ?_)
  refine G.box (cs := eSn s da dc na nc) rfl rfl rfl fun b => ?_
  repeat (first | fail)
  refine G.alloc rfl (fun r => ?_)
  repeat (first | refine G.storeBA rfl rfl rfl rfl rfl ?_ | (apply G.ex (hd := rfl); case h => (first | exact Ex.fieldB rfl | exact Ex.loadB rfl rfl | exact Ex.build rfl rfl)) | refine G.nil ?_ | refine GC.seq ?_ | refine GC.region ?_ | refine GC.ret ?_ | refine GE.then_normal ?_)
  refine GE.ret (by first | exact .inl rfl | exact .inr rfl) (resR1 Tryz.results23 (by first | exact RV.cell rfl (eP_len _) | exact RV.cell rfl rfl | exact RV.cell1 rfl)) ⟨rfl, rfl⟩ (by repeat first | exact tn_ | apply td_ rfl | apply tc_ | exact .here | apply Take1.there) (by repeat (first | exact Subs.refl | refine Subs.skip ?_))
theorem may1_sp (h : Int) (h0 : 0 ≤ h) (h1 : h ≤ 31) (k : Nat) (hk : k ∈ [1, 2, 4, 8, 16]) (b : Nat) : Spec Tryz.prog 45 [.int .i64 (k : Int), .pointer (some (badr b 0))] [.blk b 3 [.int .i64 h]] fun v give => v = .bool (decide (has h k)) ∧ give = [.blk b 3 [.int .i64 h]] := by
  refine Spec.intro Tryz.func45 rfl Tryz.ntmps45 rfl fun w0 rest rs_ hrs_ => ?_
  simp only [List.cons_append, List.nil_append] at hrs_
  subst hrs_
  repeat (first | (apply G.ex (hd := rfl); case h => (first | exact Ex.move rfl | exact Ex.loadB rfl rfl | exact Ex.gtr rfl rfl | exact Ex.assign rfl | exact Ex.and rfl rfl)) | refine G.nil ?_ | refine GC.seq ?_ | refine GC.region ?_ | refine GC.ret ?_ | refine GE.then_normal ?_)
  rw [bit_of h0 h1 hk]
  refine GE.ret (by first | exact .inl rfl | exact .inr rfl) (res1 Tryz.results45 rfl) ⟨rfl, rfl⟩ (by repeat first | exact tn_ | apply td_ rfl | apply tc_ | exact .here | apply Take1.there) (by repeat (first | exact Subs.refl | refine Subs.skip ?_))
set_option maxHeartbeats 8000000 in
theorem may_sp (h : Int) (h0 : 0 ≤ h) (h1 : h ≤ 31) : Spec Tryz.prog 36 [.int .i64 h] [] fun v give => v = .bool (decide (mayF h)) ∧ give = [] := by
  refine Spec.intro Tryz.func36 rfl Tryz.ntmps36 rfl fun w0 rest rs_ hrs_ => ?_
  simp only [List.cons_append, List.nil_append] at hrs_
  subst hrs_
  repeat (first | refine GC.seq ?_ | refine GC.region ?_)
  refine G.box (cs := [.int .i64 h]) rfl rfl rfl fun b => ?_
  repeat (first | (apply G.ex (hd := rfl); case h => (first | exact Ex.move rfl | exact Ex.loadB rfl rfl | exact Ex.leq rfl rfl | exact Ex.geq rfl rfl | exact Ex.assign rfl | exact Ex.pickT rfl (by first | assumption | omega) rfl | exact Ex.mkFunc rfl)) | refine G.g_tt rfl rfl (by first | assumption | omega) ?_ | refine G.nil ?_ | refine GC.seq ?_ | refine GC.region ?_ | refine GE.then_normal ?_)
  first | refine G.call (may1_sp h h0 h1 1 (by decide) b) rfl rfl rfl rfl (by repeat first | exact tn_ | apply td_ rfl | apply tc_ | exact .here | apply Take1.there) ?_ | refine G.callU (may1_sp h h0 h1 1 (by decide) b) rfl rfl rfl (by repeat first | exact tn_ | apply td_ rfl | apply tc_ | exact .here | apply Take1.there) ?_
  rintro v_ give_ ⟨rfl, rfl⟩ rs_ hrs_
  simp only [List.cons_append, List.nil_append] at hrs_
  subst hrs_
  by_cases c1 : has h 1
  · rw [decide_eq_true c1]
    repeat (first | (apply G.ex (hd := rfl); case h => (first | exact Ex.move rfl | exact Ex.pickT rfl (by first | assumption | omega) rfl | exact Ex.pickLT rfl rfl)) | refine G.g_tt rfl rfl (by first | assumption | omega) ?_ | refine G.yes rfl rfl ?_ | refine G.l_ft rfl rfl rfl ?_)
    first | refine G.call (may1_sp h h0 h1 4 (by decide) b) rfl rfl rfl rfl (by repeat first | exact tn_ | apply td_ rfl | apply tc_ | exact .here | apply Take1.there) ?_ | refine G.callU (may1_sp h h0 h1 4 (by decide) b) rfl rfl rfl (by repeat first | exact tn_ | apply td_ rfl | apply tc_ | exact .here | apply Take1.there) ?_
    rintro v_ give_ ⟨rfl, rfl⟩ rs_ hrs_
    simp only [List.cons_append, List.nil_append] at hrs_
    subst hrs_
    by_cases c2 : has h 4
    · rw [decide_eq_true c2]
      repeat (first | (apply G.ex (hd := rfl); case h => (first | exact Ex.move rfl | exact Ex.pickLT rfl rfl)) | refine G.yes rfl rfl ?_ | refine G.l_ft rfl rfl rfl ?_)
      first | refine G.call (may1_sp h h0 h1 2 (by decide) b) rfl rfl rfl rfl (by repeat first | exact tn_ | apply td_ rfl | apply tc_ | exact .here | apply Take1.there) ?_ | refine G.callU (may1_sp h h0 h1 2 (by decide) b) rfl rfl rfl (by repeat first | exact tn_ | apply td_ rfl | apply tc_ | exact .here | apply Take1.there) ?_
      rintro v_ give_ ⟨rfl, rfl⟩ rs_ hrs_
      simp only [List.cons_append, List.nil_append] at hrs_
      subst hrs_
      by_cases c3 : has h 2
      · rw [decide_eq_true c3]
        repeat (first | (apply G.ex (hd := rfl); case h => (first | exact Ex.move rfl | exact Ex.assign rfl | exact Ex.pickLT rfl rfl)) | refine G.yes rfl rfl ?_ | refine G.l_ft rfl rfl rfl ?_ | refine G.nil ?_ | refine GC.ret ?_ | refine GE.then_normal ?_)
        repeat (first | fail)
        have hm : mayF h := by unfold mayF has; omega
        refine GE.ret (by first | exact .inl rfl | exact .inr rfl) (res1 Tryz.results36 rfl) ⟨congrArg Value.bool (by rw [decide_eq_true hm] <;> rfl), rfl⟩ (by repeat first | exact tn_ | apply td_ rfl | apply tc_ | exact .here | apply Take1.there) (by repeat (first | exact Subs.refl | refine Subs.skip ?_))
      · rw [decide_eq_false c3]
        repeat (first | (apply G.ex (hd := rfl); case h => (first | exact Ex.move rfl)) | refine G.yes rfl rfl ?_)
        first | refine G.call (may1_sp h h0 h1 16 (by decide) b) rfl rfl rfl rfl (by repeat first | exact tn_ | apply td_ rfl | apply tc_ | exact .here | apply Take1.there) ?_ | refine G.callU (may1_sp h h0 h1 16 (by decide) b) rfl rfl rfl (by repeat first | exact tn_ | apply td_ rfl | apply tc_ | exact .here | apply Take1.there) ?_
        rintro v_ give_ ⟨rfl, rfl⟩ rs_ hrs_
        simp only [List.cons_append, List.nil_append] at hrs_
        subst hrs_
        by_cases c4 : has h 16
        · rw [decide_eq_true c4]
          repeat (first | (apply G.ex (hd := rfl); case h => (first | exact Ex.assign rfl | exact Ex.notB rfl | exact Ex.pickLT rfl rfl | exact Ex.pickLF rfl rfl)) | refine G.yes rfl rfl ?_ | refine G.nil ?_ | refine GC.ret ?_ | refine GE.then_normal ?_)
          repeat (first | fail)
          have hm : ¬ mayF h := by unfold mayF has; omega
          refine GE.ret (by first | exact .inl rfl | exact .inr rfl) (res1 Tryz.results36 rfl) ⟨congrArg Value.bool (by rw [decide_eq_false hm] <;> rfl), rfl⟩ (by repeat first | exact tn_ | apply td_ rfl | apply tc_ | exact .here | apply Take1.there) (by repeat (first | exact Subs.refl | refine Subs.skip ?_))
        · rw [decide_eq_false c4]
          repeat (first | (apply G.ex (hd := rfl); case h => (first | exact Ex.assign rfl | exact Ex.notB rfl | exact Ex.pickLT rfl rfl | exact Ex.pickLF rfl rfl)) | refine G.yes rfl rfl ?_ | refine G.nil ?_ | refine GC.ret ?_ | refine GE.then_normal ?_)
          repeat (first | fail)
          have hm : mayF h := by unfold mayF has; omega
          refine GE.ret (by first | exact .inl rfl | exact .inr rfl) (res1 Tryz.results36 rfl) ⟨congrArg Value.bool (by rw [decide_eq_true hm] <;> rfl), rfl⟩ (by repeat first | exact tn_ | apply td_ rfl | apply tc_ | exact .here | apply Take1.there) (by repeat (first | exact Subs.refl | refine Subs.skip ?_))
    · rw [decide_eq_false c2]
      repeat (first | (apply G.ex (hd := rfl); case h => (first | exact Ex.move rfl)) | refine G.yes rfl rfl ?_)
      first | refine G.call (may1_sp h h0 h1 8 (by decide) b) rfl rfl rfl rfl (by repeat first | exact tn_ | apply td_ rfl | apply tc_ | exact .here | apply Take1.there) ?_ | refine G.callU (may1_sp h h0 h1 8 (by decide) b) rfl rfl rfl (by repeat first | exact tn_ | apply td_ rfl | apply tc_ | exact .here | apply Take1.there) ?_
      rintro v_ give_ ⟨rfl, rfl⟩ rs_ hrs_
      simp only [List.cons_append, List.nil_append] at hrs_
      subst hrs_
      by_cases c5 : has h 8
      · rw [decide_eq_true c5]
        repeat (first | (apply G.ex (hd := rfl); case h => (first | exact Ex.move rfl | exact Ex.assign rfl | exact Ex.notB rfl | exact Ex.pickLT rfl rfl | exact Ex.pickLF rfl rfl)) | refine G.g_un rfl rfl rfl ?_ | refine G.yes rfl rfl ?_ | refine G.l_tf rfl rfl rfl ?_ | refine G.nil ?_ | refine GC.ret ?_ | refine GE.then_normal ?_)
        repeat (first | fail)
        have hm : ¬ mayF h := by unfold mayF has; omega
        refine GE.ret (by first | exact .inl rfl | exact .inr rfl) (res1 Tryz.results36 rfl) ⟨congrArg Value.bool (by rw [decide_eq_false hm] <;> rfl), rfl⟩ (by repeat first | exact tn_ | apply td_ rfl | apply tc_ | exact .here | apply Take1.there) (by repeat (first | exact Subs.refl | refine Subs.skip ?_))
      · rw [decide_eq_false c5]
        repeat (first | (apply G.ex (hd := rfl); case h => (first | exact Ex.move rfl | exact Ex.notB rfl | exact Ex.pickLT rfl rfl | exact Ex.pickLF rfl rfl)) | refine G.yes rfl rfl ?_)
        first | refine G.call (may1_sp h h0 h1 2 (by decide) b) rfl rfl rfl rfl (by repeat first | exact tn_ | apply td_ rfl | apply tc_ | exact .here | apply Take1.there) ?_ | refine G.callU (may1_sp h h0 h1 2 (by decide) b) rfl rfl rfl (by repeat first | exact tn_ | apply td_ rfl | apply tc_ | exact .here | apply Take1.there) ?_
        rintro v_ give_ ⟨rfl, rfl⟩ rs_ hrs_
        simp only [List.cons_append, List.nil_append] at hrs_
        subst hrs_
        by_cases c6 : has h 2
        · rw [decide_eq_true c6]
          repeat (first | (apply G.ex (hd := rfl); case h => (first | exact Ex.move rfl | exact Ex.assign rfl | exact Ex.pickLT rfl rfl)) | refine G.yes rfl rfl ?_ | refine G.l_ft rfl rfl rfl ?_ | refine G.nil ?_ | refine GC.ret ?_ | refine GE.then_normal ?_)
          repeat (first | fail)
          have hm : mayF h := by unfold mayF has; omega
          refine GE.ret (by first | exact .inl rfl | exact .inr rfl) (res1 Tryz.results36 rfl) ⟨congrArg Value.bool (by rw [decide_eq_true hm] <;> rfl), rfl⟩ (by repeat first | exact tn_ | apply td_ rfl | apply tc_ | exact .here | apply Take1.there) (by repeat (first | exact Subs.refl | refine Subs.skip ?_))
        · rw [decide_eq_false c6]
          repeat (first | (apply G.ex (hd := rfl); case h => (first | exact Ex.move rfl)) | refine G.yes rfl rfl ?_)
          first | refine G.call (may1_sp h h0 h1 16 (by decide) b) rfl rfl rfl rfl (by repeat first | exact tn_ | apply td_ rfl | apply tc_ | exact .here | apply Take1.there) ?_ | refine G.callU (may1_sp h h0 h1 16 (by decide) b) rfl rfl rfl (by repeat first | exact tn_ | apply td_ rfl | apply tc_ | exact .here | apply Take1.there) ?_
          rintro v_ give_ ⟨rfl, rfl⟩ rs_ hrs_
          simp only [List.cons_append, List.nil_append] at hrs_
          subst hrs_
          by_cases c7 : has h 16
          · rw [decide_eq_true c7]
            repeat (first | (apply G.ex (hd := rfl); case h => (first | exact Ex.assign rfl | exact Ex.notB rfl | exact Ex.pickLT rfl rfl | exact Ex.pickLF rfl rfl)) | refine G.yes rfl rfl ?_ | refine G.nil ?_ | refine GC.ret ?_ | refine GE.then_normal ?_)
            repeat (first | fail)
            have hm : ¬ mayF h := by unfold mayF has; omega
            refine GE.ret (by first | exact .inl rfl | exact .inr rfl) (res1 Tryz.results36 rfl) ⟨congrArg Value.bool (by rw [decide_eq_false hm] <;> rfl), rfl⟩ (by repeat first | exact tn_ | apply td_ rfl | apply tc_ | exact .here | apply Take1.there) (by repeat (first | exact Subs.refl | refine Subs.skip ?_))
          · rw [decide_eq_false c7]
            repeat (first | (apply G.ex (hd := rfl); case h => (first | exact Ex.assign rfl | exact Ex.notB rfl | exact Ex.pickLT rfl rfl | exact Ex.pickLF rfl rfl)) | refine G.yes rfl rfl ?_ | refine G.nil ?_ | refine GC.ret ?_ | refine GE.then_normal ?_)
            repeat (first | fail)
            have hm : mayF h := by unfold mayF has; omega
            refine GE.ret (by first | exact .inl rfl | exact .inr rfl) (res1 Tryz.results36 rfl) ⟨congrArg Value.bool (by rw [decide_eq_true hm] <;> rfl), rfl⟩ (by repeat first | exact tn_ | apply td_ rfl | apply tc_ | exact .here | apply Take1.there) (by repeat (first | exact Subs.refl | refine Subs.skip ?_))
  · rw [decide_eq_false c1]
    repeat (first | (apply G.ex (hd := rfl); case h => (first | exact Ex.move rfl)) | refine G.g_tt rfl rfl (by first | assumption | omega) ?_ | refine G.yes rfl rfl ?_)
    first | refine G.call (may1_sp h h0 h1 2 (by decide) b) rfl rfl rfl rfl (by repeat first | exact tn_ | apply td_ rfl | apply tc_ | exact .here | apply Take1.there) ?_ | refine G.callU (may1_sp h h0 h1 2 (by decide) b) rfl rfl rfl (by repeat first | exact tn_ | apply td_ rfl | apply tc_ | exact .here | apply Take1.there) ?_
    rintro v_ give_ ⟨rfl, rfl⟩ rs_ hrs_
    simp only [List.cons_append, List.nil_append] at hrs_
    subst hrs_
    by_cases c8 : has h 2
    · rw [decide_eq_true c8]
      repeat (first | (apply G.ex (hd := rfl); case h => (first | exact Ex.move rfl | exact Ex.pickT rfl (by first | assumption | omega) rfl | exact Ex.pickLF rfl rfl)) | refine G.g_tt rfl rfl (by first | assumption | omega) ?_ | refine G.yes rfl rfl ?_)
      first | refine G.call (may1_sp h h0 h1 4 (by decide) b) rfl rfl rfl rfl (by repeat first | exact tn_ | apply td_ rfl | apply tc_ | exact .here | apply Take1.there) ?_ | refine G.callU (may1_sp h h0 h1 4 (by decide) b) rfl rfl rfl (by repeat first | exact tn_ | apply td_ rfl | apply tc_ | exact .here | apply Take1.there) ?_
      rintro v_ give_ ⟨rfl, rfl⟩ rs_ hrs_
      simp only [List.cons_append, List.nil_append] at hrs_
      subst hrs_
      by_cases c9 : has h 4
      · rw [decide_eq_true c9]
        repeat (first | (apply G.ex (hd := rfl); case h => (first | exact Ex.move rfl | exact Ex.pickLT rfl rfl)) | refine G.yes rfl rfl ?_ | refine G.l_ft rfl rfl rfl ?_)
        first | refine G.call (may1_sp h h0 h1 2 (by decide) b) rfl rfl rfl rfl (by repeat first | exact tn_ | apply td_ rfl | apply tc_ | exact .here | apply Take1.there) ?_ | refine G.callU (may1_sp h h0 h1 2 (by decide) b) rfl rfl rfl (by repeat first | exact tn_ | apply td_ rfl | apply tc_ | exact .here | apply Take1.there) ?_
        rintro v_ give_ ⟨rfl, rfl⟩ rs_ hrs_
        simp only [List.cons_append, List.nil_append] at hrs_
        subst hrs_
        by_cases c10 : has h 2
        · rw [decide_eq_true c10]
          repeat (first | (apply G.ex (hd := rfl); case h => (first | exact Ex.move rfl | exact Ex.assign rfl | exact Ex.pickLT rfl rfl)) | refine G.yes rfl rfl ?_ | refine G.l_ft rfl rfl rfl ?_ | refine G.nil ?_ | refine GC.ret ?_ | refine GE.then_normal ?_)
          repeat (first | fail)
          have hm : mayF h := by unfold mayF has; omega
          refine GE.ret (by first | exact .inl rfl | exact .inr rfl) (res1 Tryz.results36 rfl) ⟨congrArg Value.bool (by rw [decide_eq_true hm] <;> rfl), rfl⟩ (by repeat first | exact tn_ | apply td_ rfl | apply tc_ | exact .here | apply Take1.there) (by repeat (first | exact Subs.refl | refine Subs.skip ?_))
        · rw [decide_eq_false c10]
          repeat (first | (apply G.ex (hd := rfl); case h => (first | exact Ex.move rfl)) | refine G.yes rfl rfl ?_)
          first | refine G.call (may1_sp h h0 h1 16 (by decide) b) rfl rfl rfl rfl (by repeat first | exact tn_ | apply td_ rfl | apply tc_ | exact .here | apply Take1.there) ?_ | refine G.callU (may1_sp h h0 h1 16 (by decide) b) rfl rfl rfl (by repeat first | exact tn_ | apply td_ rfl | apply tc_ | exact .here | apply Take1.there) ?_
          rintro v_ give_ ⟨rfl, rfl⟩ rs_ hrs_
          simp only [List.cons_append, List.nil_append] at hrs_
          subst hrs_
          by_cases c11 : has h 16
          · rw [decide_eq_true c11]
            repeat (first | (apply G.ex (hd := rfl); case h => (first | exact Ex.assign rfl | exact Ex.notB rfl | exact Ex.pickLT rfl rfl | exact Ex.pickLF rfl rfl)) | refine G.yes rfl rfl ?_ | refine G.nil ?_ | refine GC.ret ?_ | refine GE.then_normal ?_)
            repeat (first | fail)
            have hm : ¬ mayF h := by unfold mayF has; omega
            refine GE.ret (by first | exact .inl rfl | exact .inr rfl) (res1 Tryz.results36 rfl) ⟨congrArg Value.bool (by rw [decide_eq_false hm] <;> rfl), rfl⟩ (by repeat first | exact tn_ | apply td_ rfl | apply tc_ | exact .here | apply Take1.there) (by repeat (first | exact Subs.refl | refine Subs.skip ?_))
          · rw [decide_eq_false c11]
            repeat (first | (apply G.ex (hd := rfl); case h => (first | exact Ex.assign rfl | exact Ex.notB rfl | exact Ex.pickLT rfl rfl | exact Ex.pickLF rfl rfl)) | refine G.yes rfl rfl ?_ | refine G.nil ?_ | refine GC.ret ?_ | refine GE.then_normal ?_)
            repeat (first | fail)
            have hm : mayF h := by unfold mayF has; omega
            refine GE.ret (by first | exact .inl rfl | exact .inr rfl) (res1 Tryz.results36 rfl) ⟨congrArg Value.bool (by rw [decide_eq_true hm] <;> rfl), rfl⟩ (by repeat first | exact tn_ | apply td_ rfl | apply tc_ | exact .here | apply Take1.there) (by repeat (first | exact Subs.refl | refine Subs.skip ?_))
      · rw [decide_eq_false c9]
        repeat (first | (apply G.ex (hd := rfl); case h => (first | exact Ex.move rfl)) | refine G.yes rfl rfl ?_)
        first | refine G.call (may1_sp h h0 h1 8 (by decide) b) rfl rfl rfl rfl (by repeat first | exact tn_ | apply td_ rfl | apply tc_ | exact .here | apply Take1.there) ?_ | refine G.callU (may1_sp h h0 h1 8 (by decide) b) rfl rfl rfl (by repeat first | exact tn_ | apply td_ rfl | apply tc_ | exact .here | apply Take1.there) ?_
        rintro v_ give_ ⟨rfl, rfl⟩ rs_ hrs_
        simp only [List.cons_append, List.nil_append] at hrs_
        subst hrs_
        by_cases c12 : has h 8
        · rw [decide_eq_true c12]
          repeat (first | (apply G.ex (hd := rfl); case h => (first | exact Ex.move rfl | exact Ex.assign rfl | exact Ex.notB rfl | exact Ex.pickLT rfl rfl | exact Ex.pickLF rfl rfl)) | refine G.g_un rfl rfl rfl ?_ | refine G.yes rfl rfl ?_ | refine G.l_tf rfl rfl rfl ?_ | refine G.nil ?_ | refine GC.ret ?_ | refine GE.then_normal ?_)
          repeat (first | fail)
          have hm : ¬ mayF h := by unfold mayF has; omega
          refine GE.ret (by first | exact .inl rfl | exact .inr rfl) (res1 Tryz.results36 rfl) ⟨congrArg Value.bool (by rw [decide_eq_false hm] <;> rfl), rfl⟩ (by repeat first | exact tn_ | apply td_ rfl | apply tc_ | exact .here | apply Take1.there) (by repeat (first | exact Subs.refl | refine Subs.skip ?_))
        · rw [decide_eq_false c12]
          repeat (first | (apply G.ex (hd := rfl); case h => (first | exact Ex.move rfl | exact Ex.notB rfl | exact Ex.pickLT rfl rfl | exact Ex.pickLF rfl rfl)) | refine G.yes rfl rfl ?_)
          first | refine G.call (may1_sp h h0 h1 2 (by decide) b) rfl rfl rfl rfl (by repeat first | exact tn_ | apply td_ rfl | apply tc_ | exact .here | apply Take1.there) ?_ | refine G.callU (may1_sp h h0 h1 2 (by decide) b) rfl rfl rfl (by repeat first | exact tn_ | apply td_ rfl | apply tc_ | exact .here | apply Take1.there) ?_
          rintro v_ give_ ⟨rfl, rfl⟩ rs_ hrs_
          simp only [List.cons_append, List.nil_append] at hrs_
          subst hrs_
          by_cases c13 : has h 2
          · rw [decide_eq_true c13]
            repeat (first | (apply G.ex (hd := rfl); case h => (first | exact Ex.move rfl | exact Ex.assign rfl | exact Ex.pickLT rfl rfl)) | refine G.yes rfl rfl ?_ | refine G.l_ft rfl rfl rfl ?_ | refine G.nil ?_ | refine GC.ret ?_ | refine GE.then_normal ?_)
            repeat (first | fail)
            have hm : mayF h := by unfold mayF has; omega
            refine GE.ret (by first | exact .inl rfl | exact .inr rfl) (res1 Tryz.results36 rfl) ⟨congrArg Value.bool (by rw [decide_eq_true hm] <;> rfl), rfl⟩ (by repeat first | exact tn_ | apply td_ rfl | apply tc_ | exact .here | apply Take1.there) (by repeat (first | exact Subs.refl | refine Subs.skip ?_))
          · rw [decide_eq_false c13]
            repeat (first | (apply G.ex (hd := rfl); case h => (first | exact Ex.move rfl)) | refine G.g_tt rfl rfl (by first | assumption | omega) ?_ | refine G.yes rfl rfl ?_)
            first | refine G.call (may1_sp h h0 h1 16 (by decide) b) rfl rfl rfl rfl (by repeat first | exact tn_ | apply td_ rfl | apply tc_ | exact .here | apply Take1.there) ?_ | refine G.callU (may1_sp h h0 h1 16 (by decide) b) rfl rfl rfl (by repeat first | exact tn_ | apply td_ rfl | apply tc_ | exact .here | apply Take1.there) ?_
            rintro v_ give_ ⟨rfl, rfl⟩ rs_ hrs_
            simp only [List.cons_append, List.nil_append] at hrs_
            subst hrs_
            by_cases c14 : has h 16
            · rw [decide_eq_true c14]
              repeat (first | (apply G.ex (hd := rfl); case h => (first | exact Ex.assign rfl | exact Ex.notB rfl | exact Ex.pickT rfl (by first | assumption | omega) rfl | exact Ex.pickLF rfl rfl)) | refine G.g_tt rfl rfl (by first | assumption | omega) ?_ | refine G.yes rfl rfl ?_ | refine G.nil ?_ | refine GC.ret ?_ | refine GE.then_normal ?_)
              repeat (first | fail)
              have hm : ¬ mayF h := by unfold mayF has; omega
              refine GE.ret (by first | exact .inl rfl | exact .inr rfl) (res1 Tryz.results36 rfl) ⟨congrArg Value.bool (by rw [decide_eq_false hm] <;> rfl), rfl⟩ (by repeat first | exact tn_ | apply td_ rfl | apply tc_ | exact .here | apply Take1.there) (by repeat (first | exact Subs.refl | refine Subs.skip ?_))
            · rw [decide_eq_false c14]
              repeat (first | (apply G.ex (hd := rfl); case h => (first | exact Ex.assign rfl | exact Ex.notB rfl | exact Ex.pickT rfl (by first | assumption | omega) rfl | exact Ex.pickLF rfl rfl)) | refine G.g_tt rfl rfl (by first | assumption | omega) ?_ | refine G.yes rfl rfl ?_ | refine G.nil ?_ | refine GC.ret ?_ | refine GE.then_normal ?_)
              repeat (first | fail)
              have hm : mayF h := by unfold mayF has; omega
              refine GE.ret (by first | exact .inl rfl | exact .inr rfl) (res1 Tryz.results36 rfl) ⟨congrArg Value.bool (by rw [decide_eq_true hm] <;> rfl), rfl⟩ (by repeat first | exact tn_ | apply td_ rfl | apply tc_ | exact .here | apply Take1.there) (by repeat (first | exact Subs.refl | refine Subs.skip ?_))
    · rw [decide_eq_false c8]
      repeat (first | (apply G.ex (hd := rfl); case h => (first | exact Ex.move rfl | exact Ex.assign rfl | exact Ex.pickT rfl (by first | assumption | omega) rfl | exact Ex.pickLF rfl rfl)) | refine G.g_tt rfl rfl (by first | assumption | omega) ?_ | refine G.g_un rfl rfl rfl ?_ | refine G.l_tf rfl rfl rfl ?_ | refine G.nil ?_ | refine GC.ret ?_ | refine GE.then_normal ?_)
      repeat (first | fail)
      have hm : ¬ mayF h := by unfold mayF has; omega
      refine GE.ret (by first | exact .inl rfl | exact .inr rfl) (res1 Tryz.results36 rfl) ⟨congrArg Value.bool (by rw [decide_eq_false hm] <;> rfl), rfl⟩ (by repeat first | exact tn_ | apply td_ rfl | apply tc_ | exact .here | apply Take1.there) (by repeat (first | exact Subs.refl | refine Subs.skip ?_))
theorem free_sp (bs bt : Nat) (ps : List Pl) (hl : ps.length = 8) : Spec Tryz.prog 35 [tree.ptr bs] [SvB bs bt ps] fun v give => v = .int .i64 (match vac 0 ps with | none => -1 | some k => (k : Int)) ∧ give = [SvB bs bt ps] := by
  refine Spec.intro Tryz.func35 rfl Tryz.ntmps35 rfl fun w0 rest rs_ hrs_ => ?_
  simp only [List.cons_append, List.nil_append] at hrs_
  subst hrs_
  repeat (first | (apply G.ex (hd := rfl); case h => (first | exact Ex.move rfl | exact Ex.assign rfl)) | refine G.nil ?_ | refine GC.seq ?_ | refine GC.region ?_ | refine GC.block ?_ | refine GE.then_normal ?_)
  refine GC.loop (ι := Nat) (fun i => i ≤ 8 ∧ ∀ j, j < i → (ps.getD j default).op = true) (fun i => 8 - i) (fun i => [(0, tree.ptr bs), (4, .int .i64 (i : Int))]) (fun i => [SvB bs bt ps]) 0 ⟨Nat.zero_le _, fun j h => absurd h (Nat.not_lt_zero _)⟩ (by simp only [fits]; repeat (first | exact trivial | refine And.intro rfl ?_)) (by repeat first | exact tn_ | apply td_ rfl | apply tc_ | exact .here | apply Take1.there) ?_
  rintro i ⟨hi, ho⟩ fr_ rs_ hfr_ hrs_
  simp only [List.cons_append, List.nil_append] at hfr_ hrs_
  subst hfr_ hrs_
  repeat (first | (apply G.ex (hd := rfl); case h => (first | exact Ex.lss rfl rfl)) | refine G.nil ?_ | refine GC.seq ?_ | refine GC.region ?_ | refine GE.then_normal ?_)
  refine GC.cond_dec rfl (fun hlt => ?_) (fun hlt => ?_)
  · have hlt' : i < 8 := by omega
    repeat (first | (apply G.ex (hd := rfl); case h => (first | exact Ex.move rfl | exact Ex.nilCheck rfl | exact Ex.fieldE rfl | exact Ex.fieldB rfl | exact Ex.assign rfl | exact Ex.indexArr rfl rfl (by first | omega | (simp; done) | (simp; omega)))) | refine G.nil ?_ | refine GC.seq ?_ | refine GC.region ?_ | refine GC.block ?_ | refine GC.skip ?_ | refine GE.then_normal ?_)
    refine G.ex (Ex.loadB (b := bs) (j := 0 + 1 + (i * 4 + 1)) rfl (svC_at' (k := i) (j := 1) (by omega) (by decide) rfl)) rfl ?_
    repeat (first | (apply G.ex (hd := rfl); case h => (first | exact Ex.notB rfl)) | refine G.nil ?_ | refine GE.then_normal ?_)
    refine GC.cond_bool rfl (fun hb => ?_) (fun hb => ?_)
    · have hb' : (ps.getD i default).op = false := by simpa using hb
      rw [vac_at (i := 0) (by omega) ho hb', Nat.zero_add]
      repeat (first | (apply G.ex (hd := rfl); case h => (first | exact Ex.move rfl | exact Ex.assign rfl)) | refine G.nil ?_ | refine GC.seq ?_ | refine GC.region ?_ | refine GC.ret ?_ | refine GE.then_normal ?_ | refine GE.then_ret ?_ | refine GE.block_ret ?_)
      refine GE.ret (by first | exact .inl rfl | exact .inr rfl) (res1 Tryz.results35 rfl) ⟨rfl, rfl⟩ (by repeat first | exact tn_ | apply td_ rfl | apply tc_ | exact .here | apply Take1.there) (by repeat (first | exact Subs.refl | refine Subs.skip ?_))
    · have hb' : (ps.getD i default).op = true := by simpa using hb
      repeat (first | (apply G.ex (hd := rfl); case h => (first | exact Ex.move rfl | exact Ex.add rfl rfl (by omega))) | refine G.nil ?_ | refine GC.region ?_ | refine GC.skip ?_ | refine GE.then_normal ?_ | refine GE.block_normal ?_)
      rw [show (i : Int) + 1 = ((i + 1 : Nat) : Int) by omega]
      refine GE.loop (i + 1) ⟨by omega, fun j hj => by rcases Nat.lt_or_ge j i with c | c; exact ho j c; rw [show j = i by omega]; exact hb'⟩ (by omega) (by simp only [fits]; repeat (first | exact trivial | refine And.intro rfl ?_)) (by repeat first | exact tn_ | apply td_ rfl | apply tc_ | exact .here | apply Take1.there) (by repeat (first | exact Subs.refl | refine Subs.skip ?_))
  · have e : vac 0 ps = none := vac_none fun j hj => ho j (by omega)
    rw [e]
    repeat (first | (apply G.ex (hd := rfl); case h => (first | exact Ex.assign rfl)) | refine G.nil ?_ | refine GC.seq ?_ | refine GC.region ?_ | refine GC.ret ?_ | refine GC.exit ?_ | refine GE.then_normal ?_ | refine GE.then_exit ?_ | refine GE.block_hit ?_)
    refine GE.ret (by first | exact .inl rfl | exact .inr rfl) (res1 Tryz.results35 rfl) ⟨rfl, rfl⟩ (by repeat first | exact tn_ | apply td_ rfl | apply tc_ | exact .here | apply Take1.there) (by repeat (first | exact Subs.refl | refine Subs.skip ?_))
end serve
end Go.Proofs.YtmceappjldcbmaaGreatDoor
