/-
  A FOREST IN MEMORY; contracts of cmp.Compare, cmp.Or and of the forest's methods, by the kit.
-/
import Derived.Test.YtfkgchdbjfbdaaaHuffQ
import Derived.Test.YtfkgchdbjfbdaaaHeapP
import Derived.Test.YtfkgchdbjfbdaaaKit39
import Derived.Test.YtfkgchdbjfbdaaaKitN2
import Derived.Test.YtfkgchdbjfbdaaaCom3
namespace Go.Proofs.Ytfkgchdbjfbdaaa
open Go.RowKit
attribute [local irreducible] Ex G GC GE Gq FPost LPost
set_option linter.unusedVariables false
set_option linter.unusedSimpArgs false
/-- a block that is only read -/
def BlkP (b : Nat) (t : TypeId) (cs : List Value) : Pers where
  sat f := f b = some (.cells cs.toArray t (0, 0))
  mono := fun h hs => h _ _ hs
theorem Holds.frzB {w0 w : World} {rs : List Res} {b : Nat} {t : TypeId} {cs : List Value} (H : Holds w0 w (.blk b t cs :: rs)) : Holds w0 w (.per (BlkP b t cs) :: rs) :=
  H.freeze (.per (BlkP b t cs)) fun f o o' hr hd => by
    have h1 : o b = some (.cells cs.toArray t (0, 0)) := hr
    show f.or o b = _
    rcases hd b with h | h
    · simp [Hp.or, h, h1]
    · rw [h] at h1; exact nomatch h1
theorem per_join {w0 w : World} {rs : List Res} {p q t : Pers} (h : ∀ f, p.sat f → q.sat f → t.sat f) (H : Holds w0 w (.per p :: .per q :: rs)) : Holds w0 w (.per t :: rs) :=
  H.join fun f a b ha hb _ => h f ha hb
instance : Mth Try.prog 55 "Len" 56 false 49 := ⟨by kernel_rfl, by kernel_rfl⟩
instance : Mth Try.prog 55 "Less" 57 false 49 := ⟨by kernel_rfl, by kernel_rfl⟩
instance : Mth Try.prog 55 "Swap" 58 false 49 := ⟨by kernel_rfl, by kernel_rfl⟩
instance : Mth Try.prog 55 "Pop" 60 true 49 := ⟨by kernel_rfl, by kernel_rfl⟩
instance : Mth Try.prog 55 "Push" 61 true 49 := ⟨by kernel_rfl, by kernel_rfl⟩
namespace huff
abbrev ptr (b : Nat) : Value := .pointer (some (badr b 0))
/-- a tree and where it lies -/
structure El where
  b : Nat
  t : HT
instance : Inhabited El := ⟨⟨0, default⟩⟩
def ePt (x : El) : List Value := [ptr x.b]
instance : Enc ePt 1 := ⟨fun _ => rfl, fun x u hu => by simp [ePt] at hu; subst hu; rfl⟩
def tcells (t : HT) (p q : Value) : List Value := match t with
  | .leaf c s => [.int .i64 (c : Int), .int .i64 (s : Int), .pointer none, .pointer none, .int .i64 0]
  | .node a b => [.int .i64 ((a.w + b.w : Nat) : Int), .int .i64 0, p, q, .int .i64 ((max a.deep b.deep + 1 : Nat) : Int)]
/-- a tree in a part of a heap -/
def TA (f : Hp) : HT → Nat → Prop
  | .leaf c s, b => f b = some (.cells (tcells (.leaf c s) .nilIface .nilIface).toArray 53 (0, 0))
  | .node x y, b => ∃ bx by_, f b = some (.cells (tcells (.node x y) (ptr bx) (ptr by_)).toArray 53 (0, 0)) ∧ TA f x bx ∧ TA f y by_
theorem TA.mono {f g : Hp} (h : f.le g) : ∀ {t : HT} {b : Nat}, TA f t b → TA g t b
  | .leaf c s, b, H => h _ _ H
  | .node x y, b, ⟨bx, by_, h1, h2, h3⟩ => ⟨bx, by_, h _ _ h1, TA.mono h h2, TA.mono h h3⟩
def Trees (U : List El) : Pers where
  sat f := ∀ x ∈ U, TA f x.t x.b
  mono := fun h hs x hx => TA.mono h (hs x hx)
/-- cells of a tree that is read -/
theorem TA.cells {f : Hp} {t : HT} {b : Nat} (h : TA f t b) : ∃ cs : List Value, f b = some (.cells cs.toArray 53 (0, 0)) ∧ cs[0]? = some (.int .i64 (t.w : Int)) ∧ cs[4]? = some (.int .i64 (t.deep : Int)) := by
  cases t with
  | leaf c s => exact ⟨_, h, rfl, rfl⟩
  | node x y =>
    obtain ⟨bx, by_, h1, h2, h3⟩ := h
    exact ⟨_, h1, rfl, rfl⟩
section
variable {w0 : World} {rs : List Res} {U : List El} {x : El}
theorem tr_w (hm : .per (Trees U) ∈ rs) (hx : x ∈ U) : ∀ w, Holds w0 w rs → w.cell? (badr x.b 0) = some (.int .i64 (x.t.w : Int)) := fun w H => by
  have h : (Trees U).sat (hp w) := H.at hm
  obtain ⟨cs, h1, h2, h3⟩ := (h x hx).cells
  exact cell_of_blk h1 h2
theorem tr_deep (hm : .per (Trees U) ∈ rs) (hx : x ∈ U) : ∀ w, Holds w0 w rs → w.cell? (badr x.b (0 + 4)) = some (.int .i64 (x.t.deep : Int)) := fun w H => by
  have h : (Trees U).sat (hp w) := H.at hm
  obtain ⟨cs, h1, h2, h3⟩ := (h x hx).cells
  exact cell_of_blk h1 h3
end
/-- of the lesser count; of the same the one less deep -/
abbrev lt (x y : HT) : Prop := x.w < y.w ∨ (x.w = y.w ∧ x.deep < y.deep)
def leE (x y : El) : Prop := ¬ lt y.t x.t
theorem leE_refl (x : El) : leE x x := fun h => by unfold lt at h; omega
theorem leE_trans (x y z : El) (h1 : leE x y) (h2 : leE y z) : leE x z := fun h => by unfold leE lt at *; omega
theorem leE_of {x y : El} (h : lt x.t y.t) : leE x y := fun h' => by unfold lt at *; omega
theorem leE_w {x y : El} (h : leE x y) : x.t.w ≤ y.t.w := by
  rcases Nat.lt_or_ge y.t.w x.t.w with c | c
  · exact absurd (.inl c) h
  · exact c
theorem isNaN_sp (a : Int) : Spec Try.prog 35 [.int .i64 a] [] fun v give => v = .bool false ∧ give = [] := by
  refine Spec.intro Try.func35 rfl Try.ntmps35 rfl fun w0 rest rs_ hrs_ => ?_
  simp only [List.cons_append, List.nil_append] at hrs_
  subst hrs_
  have h : ¬ ¬ a = a := fun h => h rfl
  repeat (first | (apply G.ex (hd := rfl); case h => (first | exact Ex.move rfl | exact Ex.neI rfl rfl | exact Ex.assign rfl)) | refine G.nil ?_ | refine GC.seq ?_ | refine GC.region ?_ | refine GC.ret ?_ | refine GE.then_normal ?_)
  refine GE.ret (by first | exact .inl rfl | exact .inr rfl) (res1 Try.results35 rfl) ⟨congrArg Value.bool (decide_eq_false h), rfl⟩ (by repeat first | exact tn_ | apply td_ rfl | apply tc_ | exact .here | apply Take1.there) (by repeat (first | exact Subs.refl | refine Subs.skip ?_))
theorem compare_sp (a b : Int) : Spec Try.prog 33 [.int .i64 a, .int .i64 b] [] fun v give => v = .int .i64 (if a < b then -1 else if b < a then 1 else 0) ∧ give = [] := by
  refine Spec.intro Try.func33 rfl Try.ntmps33 rfl fun w0 rest rs_ hrs_ => ?_
  simp only [List.cons_append, List.nil_append] at hrs_
  subst hrs_
  repeat (first | (apply G.ex (hd := rfl); case h => (first | exact Ex.move rfl | exact Ex.assign rfl)) | refine G.nil ?_ | refine GC.seq ?_ | refine GC.region ?_ | refine GE.then_normal ?_)
  first | refine G.call (caps := []) (isNaN_sp a) rfl rfl rfl rfl (by repeat first | exact tn_ | apply td_ rfl | apply tc_ | exact .here | apply Take1.there) ?_ | refine G.callU (caps := []) (isNaN_sp a) rfl rfl rfl (by repeat first | exact tn_ | apply td_ rfl | apply tc_ | exact .here | apply Take1.there) ?_
  rintro v_ give_ ⟨rfl, rfl⟩ rs_ hrs_
  simp only [List.cons_append, List.nil_append] at hrs_
  subst hrs_
  repeat (first | (apply G.ex (hd := rfl); case h => (first | exact Ex.move rfl | exact Ex.assign rfl)) | refine G.nil ?_ | refine GC.seq ?_ | refine GC.region ?_ | refine GE.then_normal ?_)
  first | refine G.call (caps := []) (isNaN_sp b) rfl rfl rfl rfl (by repeat first | exact tn_ | apply td_ rfl | apply tc_ | exact .here | apply Take1.there) ?_ | refine G.callU (caps := []) (isNaN_sp b) rfl rfl rfl (by repeat first | exact tn_ | apply td_ rfl | apply tc_ | exact .here | apply Take1.there) ?_
  rintro v_ give_ ⟨rfl, rfl⟩ rs_ hrs_
  simp only [List.cons_append, List.nil_append] at hrs_
  subst hrs_
  by_cases h1 : a < b
  · rw [if_pos h1]
    repeat (first | (apply G.ex (hd := rfl); case h => (first | exact Ex.move rfl | exact Ex.lss rfl rfl | exact Ex.assign rfl)) | refine G.nil ?_ | refine GC.seq ?_ | refine GC.region ?_ | refine GC.skip ?_ | refine GC.ret ?_ | refine GE.then_normal ?_ | refine GE.then_ret ?_ | refine GC.cond_yes rfl (by first | assumption | omega) ?_ | refine GC.cond_f rfl ?_)
    refine GE.ret (by first | exact .inl rfl | exact .inr rfl) (res1 Try.results33 rfl) ⟨rfl, rfl⟩ (by repeat first | exact tn_ | apply td_ rfl | apply tc_ | exact .here | apply Take1.there) (by repeat (first | exact Subs.refl | refine Subs.skip ?_))
  · rw [if_neg h1]
    by_cases h2 : b < a
    · rw [if_pos h2]
      repeat (first | (apply G.ex (hd := rfl); case h => (first | exact Ex.move rfl | exact Ex.lss rfl rfl | exact Ex.gtr rfl rfl | exact Ex.assign rfl)) | refine G.nil ?_ | refine GC.seq ?_ | refine GC.region ?_ | refine GC.skip ?_ | refine GC.ret ?_ | refine GE.then_normal ?_ | refine GE.then_ret ?_ | refine GC.cond_yes rfl (by first | assumption | omega) ?_ | refine GC.cond_no rfl (by first | assumption | omega) ?_ | refine GC.cond_f rfl ?_)
      refine GE.ret (by first | exact .inl rfl | exact .inr rfl) (res1 Try.results33 rfl) ⟨rfl, rfl⟩ (by repeat first | exact tn_ | apply td_ rfl | apply tc_ | exact .here | apply Take1.there) (by repeat (first | exact Subs.refl | refine Subs.skip ?_))
    · rw [if_neg h2]
      repeat (first | (apply G.ex (hd := rfl); case h => (first | exact Ex.move rfl | exact Ex.lss rfl rfl | exact Ex.gtr rfl rfl | exact Ex.assign rfl)) | refine G.nil ?_ | refine GC.seq ?_ | refine GC.region ?_ | refine GC.skip ?_ | refine GC.ret ?_ | refine GE.then_normal ?_ | refine GC.cond_no rfl (by first | assumption | omega) ?_ | refine GC.cond_f rfl ?_)
      refine GE.ret (by first | exact .inl rfl | exact .inr rfl) (res1 Try.results33 rfl) ⟨rfl, rfl⟩ (by repeat first | exact tn_ | apply td_ rfl | apply tc_ | exact .here | apply Take1.there) (by repeat (first | exact Subs.refl | refine Subs.skip ?_))
set_option maxHeartbeats 8000000 in
theorem or_sp (ao : Option Addr) (c : Nat) (x y : Int) : Spec Try.prog 59 [.slice ao 2 c] [.vec 3 1 ao 2 c (flat (eI .i64) [x, y])] fun v give => v = .int .i64 (if x = 0 then y else x) ∧ give = [] := by
  refine Spec.intro Try.func59 rfl Try.ntmps59 rfl fun w0 rest rs_ hrs_ => ?_
  simp only [List.cons_append, List.nil_append] at hrs_
  subst hrs_
  repeat (first | (apply G.ex (hd := rfl); case h => (first | exact Ex.move rfl | exact Ex.lenSl rfl | exact Ex.assign rfl)) | refine G.nil ?_ | refine GC.seq ?_ | refine GC.region ?_ | refine GC.block ?_ | refine GE.then_normal ?_)
  refine GC.loop (ι := Nat) (fun i => i ≤ 2 ∧ (0 < i → x = 0) ∧ (1 < i → y = 0)) (fun i => 2 - i) (fun i => [(3, .int .i64 0), (6, .slice ao 2 c), (7, .int .i64 (2 : Int)), (8, .int .i64 (i : Int))]) (fun i => [.vec 3 1 ao 2 c (flat (eI .i64) [x, y])]) 0 ⟨by decide, fun h => absurd h (by decide), fun h => absurd h (by decide)⟩ (by simp only [fits]; repeat (first | exact trivial | refine And.intro rfl ?_)) (by repeat first | exact tn_ | apply td_ rfl | apply tc_ | exact .here | apply Take1.there) ?_
  rintro i ⟨hi, h1, h2⟩ fr_ rs_ hfr_ hrs_
  simp only [List.cons_append, List.nil_append] at hfr_ hrs_
  subst hfr_ hrs_
  have hc : i = 0 ∨ i = 1 ∨ i = 2 := by omega
  rcases hc with rfl | rfl | rfl
  · by_cases hx : x = 0
    · have hxx : ¬ ¬ [x, y].getD 0 default = 0 := fun h => h hx
      repeat (first | (apply G.ex (hd := rfl); case h => (first | exact Ex.move rfl | exact Ex.add rfl rfl (by omega) | exact Ex.lss rfl rfl | exact Ex.neI rfl rfl | exact Ex.indexN rfl rfl (by first | omega | (simp; done) | (simp; omega)) | exact Ex.loadT0 rfl (by first | omega | (simp; done) | (simp; omega)) rfl | exact Ex.assign rfl)) | refine G.nil ?_ | refine GC.seq ?_ | refine GC.region ?_ | refine GC.block ?_ | refine GC.skip ?_ | refine GE.then_normal ?_ | refine GE.block_normal ?_ | refine GC.cond_yes rfl (by first | assumption | omega) ?_ | refine GC.cond_no rfl (by first | assumption | omega) ?_)
      refine GE.loop 1 ⟨by decide, fun _ => hx, fun h => absurd h (by decide)⟩ (by decide) (by simp only [fits]; repeat (first | exact trivial | refine And.intro rfl ?_)) (by repeat first | exact tn_ | apply td_ rfl | apply tc_ | exact .here | apply Take1.there) (by repeat (first | exact Subs.refl | refine Subs.skip ?_))
    · have hxx : ¬ [x, y].getD 0 default = 0 := hx
      rw [if_neg hx]
      repeat (first | (apply G.ex (hd := rfl); case h => (first | exact Ex.move rfl | exact Ex.lss rfl rfl | exact Ex.neI rfl rfl | exact Ex.indexN rfl rfl (by first | omega | (simp; done) | (simp; omega)) | exact Ex.loadT0 rfl (by first | omega | (simp; done) | (simp; omega)) rfl | exact Ex.assign rfl)) | refine G.nil ?_ | refine GC.seq ?_ | refine GC.region ?_ | refine GC.block ?_ | refine GC.skip ?_ | refine GC.ret ?_ | refine GE.then_normal ?_ | refine GE.then_ret ?_ | refine GE.block_ret ?_ | refine GC.cond_yes rfl (by first | assumption | omega) ?_)
      refine GE.ret (by first | exact .inl rfl | exact .inr rfl) (res1 Try.results59 rfl) ⟨rfl, rfl⟩ (by repeat first | exact tn_ | apply td_ rfl | apply tc_ | exact .here | apply Take1.there) (by repeat (first | exact Subs.refl | refine Subs.skip ?_))
  · have hx := h1 (by decide)
    rw [if_pos hx]
    by_cases hy : y = 0
    · have hyy : ¬ ¬ [x, y].getD 1 default = 0 := fun h => h hy
      repeat (first | (apply G.ex (hd := rfl); case h => (first | exact Ex.move rfl | exact Ex.add rfl rfl (by omega) | exact Ex.lss rfl rfl | exact Ex.neI rfl rfl | exact Ex.indexN rfl rfl (by first | omega | (simp; done) | (simp; omega)) | exact Ex.loadT0 rfl (by first | omega | (simp; done) | (simp; omega)) rfl | exact Ex.assign rfl)) | refine G.nil ?_ | refine GC.seq ?_ | refine GC.region ?_ | refine GC.block ?_ | refine GC.skip ?_ | refine GE.then_normal ?_ | refine GE.block_normal ?_ | refine GC.cond_yes rfl (by first | assumption | omega) ?_ | refine GC.cond_no rfl (by first | assumption | omega) ?_)
      refine GE.loop 2 ⟨by decide, fun _ => hx, fun _ => hy⟩ (by decide) (by simp only [fits]; repeat (first | exact trivial | refine And.intro rfl ?_)) (by repeat first | exact tn_ | apply td_ rfl | apply tc_ | exact .here | apply Take1.there) (by repeat (first | exact Subs.refl | refine Subs.skip ?_))
    · have hyy : ¬ [x, y].getD 1 default = 0 := hy
      repeat (first | (apply G.ex (hd := rfl); case h => (first | exact Ex.move rfl | exact Ex.lss rfl rfl | exact Ex.neI rfl rfl | exact Ex.indexN rfl rfl (by first | omega | (simp; done) | (simp; omega)) | exact Ex.loadT0 rfl (by first | omega | (simp; done) | (simp; omega)) rfl | exact Ex.assign rfl)) | refine G.nil ?_ | refine GC.seq ?_ | refine GC.region ?_ | refine GC.block ?_ | refine GC.skip ?_ | refine GC.ret ?_ | refine GE.then_normal ?_ | refine GE.then_ret ?_ | refine GE.block_ret ?_ | refine GC.cond_yes rfl (by first | assumption | omega) ?_)
      refine GE.ret (by first | exact .inl rfl | exact .inr rfl) (res1 Try.results59 rfl) ⟨rfl, rfl⟩ (by repeat first | exact tn_ | apply td_ rfl | apply tc_ | exact .here | apply Take1.there) (by repeat (first | exact Subs.refl | refine Subs.skip ?_))
  · have hx := h1 (by decide)
    have hy := h2 (by decide)
    rw [if_pos hx, hy]
    repeat (first | (apply G.ex (hd := rfl); case h => (first | exact Ex.move rfl | exact Ex.lss rfl rfl | exact Ex.assign rfl)) | refine G.nil ?_ | refine GC.seq ?_ | refine GC.region ?_ | refine GC.ret ?_ | refine GC.exit ?_ | refine GE.then_normal ?_ | refine GE.then_exit ?_ | refine GE.block_hit ?_ | refine GC.cond_no rfl (by first | assumption | omega) ?_)
    refine GE.ret (by first | exact .inl rfl | exact .inr rfl) (res1 Try.results59 rfl) ⟨rfl, rfl⟩ (by repeat first | exact tn_ | apply td_ rfl | apply tc_ | exact .here | apply Take1.there) (by repeat (first | exact Subs.refl | refine Subs.skip ?_))
theorem flen_sp (ao : Option Addr) (n c : Nat) : Spec Try.prog 56 [.slice ao n c] [] fun v give => v = .int .i64 (n : Int) ∧ give = [] := by
  refine Spec.intro Try.func56 rfl Try.ntmps56 rfl fun w0 rest rs_ hrs_ => ?_
  simp only [List.cons_append, List.nil_append] at hrs_
  subst hrs_
  repeat (first | (apply G.ex (hd := rfl); case h => (first | exact Ex.move rfl | exact Ex.lenSl rfl | exact Ex.assign rfl)) | refine G.nil ?_ | refine GC.seq ?_ | refine GC.region ?_ | refine GC.ret ?_ | refine GE.then_normal ?_)
  refine GE.ret (by first | exact .inl rfl | exact .inr rfl) (res1 Try.results56 rfl) ⟨rfl, rfl⟩ (by repeat first | exact tn_ | apply td_ rfl | apply tc_ | exact .here | apply Take1.there) (by repeat (first | exact Subs.refl | refine Subs.skip ?_))
/-- what is compared -/
def sgn (a b : Nat) : Int := if (a : Int) < b then -1 else if (b : Int) < a then 1 else 0
theorem sgn_lt (x y : HT) : decide ((if sgn x.w y.w = 0 then sgn x.deep y.deep else sgn x.w y.w) < 0) = decide (lt x y) := by
  have key : ∀ a b : Nat, (a < b → sgn a b = -1) ∧ (a = b → sgn a b = 0) ∧ (b < a → sgn a b = 1) := fun a b => by
    unfold sgn
    refine ⟨fun h => if_pos (by omega), fun h => ?_, fun h => ?_⟩
    · rw [if_neg (by omega), if_neg (by omega)]
    · rw [if_neg (by omega), if_pos (by omega)]
  obtain ⟨k1, k2, k3⟩ := key x.w y.w
  obtain ⟨d1, d2, d3⟩ := key x.deep y.deep
  refine decide_eq_decide.2 ?_
  unfold lt
  rcases Nat.lt_trichotomy x.w y.w with h | h | h
  · rw [k1 h, if_neg (by decide)]
    exact ⟨fun _ => .inl h, fun _ => by decide⟩
  · rw [k2 h, if_pos rfl]
    rcases Nat.lt_trichotomy x.deep y.deep with h' | h' | h'
    · rw [d1 h']; exact ⟨fun _ => .inr ⟨h, h'⟩, fun _ => by decide⟩
    · rw [d2 h']; exact ⟨fun c => absurd c (by decide), fun c => by omega⟩
    · rw [d3 h']; exact ⟨fun c => absurd c (by decide), fun c => by omega⟩
  · rw [k3 h, if_neg (by decide)]
    exact ⟨fun c => absurd c (by decide), fun c => by omega⟩
set_option maxHeartbeats 8000000 in
theorem less_sp (ao : Option Addr) (n c : Nat) (l U : List El) (hl : l.length = n) (hU : ∀ x ∈ l, x ∈ U) (i j : Nat) (hi : i < n) (hj : j < n) :
    Spec Try.prog 57 [.slice ao n c, .int .i64 (i : Int), .int .i64 (j : Int)] [.vec 50 1 ao n c (flat ePt l), .per (Trees U)] fun v give => v = .bool (decide (lt (l.getD i default).t (l.getD j default).t)) ∧ give = [.vec 50 1 ao n c (flat ePt l)] := by
  have hmi : l.getD i default ∈ U := hU _ (by rw [List.getD_eq_getElem?_getD, List.getElem?_eq_getElem (by omega)]; exact List.getElem_mem _)
  have hmj : l.getD j default ∈ U := hU _ (by rw [List.getD_eq_getElem?_getD, List.getElem?_eq_getElem (by omega)]; exact List.getElem_mem _)
  have hgi : (flat ePt l)[i * 1 + 0]? = some (ptr (l.getD i default).b) := flat_at (inferInstance : Enc ePt 1) l i 0 (by omega) (by decide)
  have hgj : (flat ePt l)[j * 1 + 0]? = some (ptr (l.getD j default).b) := flat_at (inferInstance : Enc ePt 1) l j 0 (by omega) (by decide)
  refine Spec.intro Try.func57 rfl Try.ntmps57 rfl fun w0 rest rs_ hrs_ => ?_
  simp only [List.cons_append, List.nil_append] at hrs_
  subst hrs_
  repeat (first | (apply G.ex (hd := rfl); case h => (first | exact Ex.assign rfl)) | refine G.nil ?_ | refine GC.seq ?_ | refine GC.region ?_ | refine GE.then_normal ?_)
  generalize l.getD i default = x at *
  generalize l.getD j default = y at *
  refine GC.drawA [] [.vec 50 1 ao n c (flat ePt l), .per (Trees U)] (by repeat first | exact tn_ | apply td_ rfl | apply tc_ | exact .here | apply Take1.there) (by kernel_rfl) ?_
  first | (apply GA.take [] (hD := .inl rfl) (hsub := ⟨_, Takes.nil⟩) (i := 0) (hi := rfl) (hs := by kernel_rfl) (hfr := by kernel_rfl) (hr := by kernel_rfl) (hQ := np_) (hd := rfl); case hx => (first | exact Ex.move rfl))
  first | (apply GA.take [] (hD := .inl rfl) (hsub := ⟨_, Takes.nil⟩) (i := 1) (hi := rfl) (hs := by kernel_rfl) (hfr := by kernel_rfl) (hr := by kernel_rfl) (hQ := np_) (hd := rfl); case hx => (first | exact Ex.move rfl))
  first | (apply GA.take _ (hD := .inr ⟨rfl, by kernel_rfl⟩) (hsub := ⟨_, (by repeat first | exact tn_ | apply td_ rfl | apply tc_ | exact .here | apply Take1.there)⟩) (i := 2) (hi := rfl) (hs := by kernel_rfl) (hfr := by kernel_rfl) (hr := by kernel_rfl) (hQ := np_) (hd := rfl); case hx => (first | exact Ex.indexN rfl rfl (by first | omega | (simp; done) | (simp; omega))))
  apply GA.take _ (hD := .inr ⟨rfl, by kernel_rfl⟩) (hsub := ⟨_, (by repeat first | exact tn_ | apply td_ rfl | apply tc_ | exact .here | apply Take1.there)⟩) (i := 3) (hi := rfl) (hs := by kernel_rfl) (hfr := by kernel_rfl) (hr := by kernel_rfl) (hQ := np_) (hd := rfl) (hx := (Ex.loadE (k := i * 1 + 0) rfl hgi))
  first | (apply GA.take [] (hD := .inl rfl) (hsub := ⟨_, Takes.nil⟩) (i := 4) (hi := rfl) (hs := by kernel_rfl) (hfr := by kernel_rfl) (hr := by kernel_rfl) (hQ := np_) (hd := rfl); case hx => (first | exact Ex.nilCheck rfl))
  first | (apply GA.take [] (hD := .inl rfl) (hsub := ⟨_, Takes.nil⟩) (i := 5) (hi := rfl) (hs := by kernel_rfl) (hfr := by kernel_rfl) (hr := by kernel_rfl) (hQ := np_) (hd := rfl); case hx => (first | exact Ex.fieldB rfl))
  apply GA.take _ (hD := .inr ⟨rfl, by kernel_rfl⟩) (hsub := ⟨_, (by repeat first | exact tn_ | apply td_ rfl | apply tc_ | exact .here | apply Take1.there)⟩) (i := 6) (hi := rfl) (hs := by kernel_rfl) (hfr := by kernel_rfl) (hr := by kernel_rfl) (hQ := np_) (hd := rfl) (hx := (Ex.loadH rfl (tr_w (List.mem_cons_of_mem _ (List.mem_cons_self ..)) hmi)))
  first | (apply GA.take [] (hD := .inl rfl) (hsub := ⟨_, Takes.nil⟩) (i := 7) (hi := rfl) (hs := by kernel_rfl) (hfr := by kernel_rfl) (hr := by kernel_rfl) (hQ := np_) (hd := rfl); case hx => (first | exact Ex.move rfl))
  first | (apply GA.take [] (hD := .inl rfl) (hsub := ⟨_, Takes.nil⟩) (i := 8) (hi := rfl) (hs := by kernel_rfl) (hfr := by kernel_rfl) (hr := by kernel_rfl) (hQ := np_) (hd := rfl); case hx => (first | exact Ex.move rfl))
  first | (apply GA.take _ (hD := .inr ⟨rfl, by kernel_rfl⟩) (hsub := ⟨_, (by repeat first | exact tn_ | apply td_ rfl | apply tc_ | exact .here | apply Take1.there)⟩) (i := 9) (hi := rfl) (hs := by kernel_rfl) (hfr := by kernel_rfl) (hr := by kernel_rfl) (hQ := np_) (hd := rfl); case hx => (first | exact Ex.indexN rfl rfl (by first | omega | (simp; done) | (simp; omega))))
  apply GA.take _ (hD := .inr ⟨rfl, by kernel_rfl⟩) (hsub := ⟨_, (by repeat first | exact tn_ | apply td_ rfl | apply tc_ | exact .here | apply Take1.there)⟩) (i := 10) (hi := rfl) (hs := by kernel_rfl) (hfr := by kernel_rfl) (hr := by kernel_rfl) (hQ := np_) (hd := rfl) (hx := (Ex.loadE (k := j * 1 + 0) rfl hgj))
  first | (apply GA.take [] (hD := .inl rfl) (hsub := ⟨_, Takes.nil⟩) (i := 11) (hi := rfl) (hs := by kernel_rfl) (hfr := by kernel_rfl) (hr := by kernel_rfl) (hQ := np_) (hd := rfl); case hx => (first | exact Ex.nilCheck rfl))
  first | (apply GA.take [] (hD := .inl rfl) (hsub := ⟨_, Takes.nil⟩) (i := 12) (hi := rfl) (hs := by kernel_rfl) (hfr := by kernel_rfl) (hr := by kernel_rfl) (hQ := np_) (hd := rfl); case hx => (first | exact Ex.fieldB rfl))
  apply GA.take _ (hD := .inr ⟨rfl, by kernel_rfl⟩) (hsub := ⟨_, (by repeat first | exact tn_ | apply td_ rfl | apply tc_ | exact .here | apply Take1.there)⟩) (i := 13) (hi := rfl) (hs := by kernel_rfl) (hfr := by kernel_rfl) (hr := by kernel_rfl) (hQ := np_) (hd := rfl) (hx := (Ex.loadH rfl (tr_w (List.mem_cons_of_mem _ (List.mem_cons_self ..)) hmj)))
  first | (apply GA.take [] (hD := .inl rfl) (hsub := ⟨_, Takes.nil⟩) (i := 15) (hi := rfl) (hs := by kernel_rfl) (hfr := by kernel_rfl) (hr := by kernel_rfl) (hQ := np_) (hd := rfl); case hx => (first | exact Ex.move rfl))
  first | (apply GA.take [] (hD := .inl rfl) (hsub := ⟨_, Takes.nil⟩) (i := 16) (hi := rfl) (hs := by kernel_rfl) (hfr := by kernel_rfl) (hr := by kernel_rfl) (hQ := np_) (hd := rfl); case hx => (first | exact Ex.move rfl))
  first | (apply GA.take _ (hD := .inr ⟨rfl, by kernel_rfl⟩) (hsub := ⟨_, (by repeat first | exact tn_ | apply td_ rfl | apply tc_ | exact .here | apply Take1.there)⟩) (i := 17) (hi := rfl) (hs := by kernel_rfl) (hfr := by kernel_rfl) (hr := by kernel_rfl) (hQ := np_) (hd := rfl); case hx => (first | exact Ex.indexN rfl rfl (by first | omega | (simp; done) | (simp; omega))))
  apply GA.take _ (hD := .inr ⟨rfl, by kernel_rfl⟩) (hsub := ⟨_, (by repeat first | exact tn_ | apply td_ rfl | apply tc_ | exact .here | apply Take1.there)⟩) (i := 18) (hi := rfl) (hs := by kernel_rfl) (hfr := by kernel_rfl) (hr := by kernel_rfl) (hQ := np_) (hd := rfl) (hx := (Ex.loadE (k := i * 1 + 0) rfl hgi))
  first | (apply GA.take [] (hD := .inl rfl) (hsub := ⟨_, Takes.nil⟩) (i := 19) (hi := rfl) (hs := by kernel_rfl) (hfr := by kernel_rfl) (hr := by kernel_rfl) (hQ := np_) (hd := rfl); case hx => (first | exact Ex.nilCheck rfl))
  first | (apply GA.take [] (hD := .inl rfl) (hsub := ⟨_, Takes.nil⟩) (i := 20) (hi := rfl) (hs := by kernel_rfl) (hfr := by kernel_rfl) (hr := by kernel_rfl) (hQ := np_) (hd := rfl); case hx => (first | exact Ex.fieldB rfl))
  apply GA.take _ (hD := .inr ⟨rfl, by kernel_rfl⟩) (hsub := ⟨_, (by repeat first | exact tn_ | apply td_ rfl | apply tc_ | exact .here | apply Take1.there)⟩) (i := 21) (hi := rfl) (hs := by kernel_rfl) (hfr := by kernel_rfl) (hr := by kernel_rfl) (hQ := np_) (hd := rfl) (hx := (Ex.loadH rfl (tr_deep (List.mem_cons_of_mem _ (List.mem_cons_self ..)) hmi)))
  first | (apply GA.take [] (hD := .inl rfl) (hsub := ⟨_, Takes.nil⟩) (i := 22) (hi := rfl) (hs := by kernel_rfl) (hfr := by kernel_rfl) (hr := by kernel_rfl) (hQ := np_) (hd := rfl); case hx => (first | exact Ex.move rfl))
  first | (apply GA.take [] (hD := .inl rfl) (hsub := ⟨_, Takes.nil⟩) (i := 23) (hi := rfl) (hs := by kernel_rfl) (hfr := by kernel_rfl) (hr := by kernel_rfl) (hQ := np_) (hd := rfl); case hx => (first | exact Ex.move rfl))
  first | (apply GA.take _ (hD := .inr ⟨rfl, by kernel_rfl⟩) (hsub := ⟨_, (by repeat first | exact tn_ | apply td_ rfl | apply tc_ | exact .here | apply Take1.there)⟩) (i := 24) (hi := rfl) (hs := by kernel_rfl) (hfr := by kernel_rfl) (hr := by kernel_rfl) (hQ := np_) (hd := rfl); case hx => (first | exact Ex.indexN rfl rfl (by first | omega | (simp; done) | (simp; omega))))
  apply GA.take _ (hD := .inr ⟨rfl, by kernel_rfl⟩) (hsub := ⟨_, (by repeat first | exact tn_ | apply td_ rfl | apply tc_ | exact .here | apply Take1.there)⟩) (i := 25) (hi := rfl) (hs := by kernel_rfl) (hfr := by kernel_rfl) (hr := by kernel_rfl) (hQ := np_) (hd := rfl) (hx := (Ex.loadE (k := j * 1 + 0) rfl hgj))
  first | (apply GA.take [] (hD := .inl rfl) (hsub := ⟨_, Takes.nil⟩) (i := 26) (hi := rfl) (hs := by kernel_rfl) (hfr := by kernel_rfl) (hr := by kernel_rfl) (hQ := np_) (hd := rfl); case hx => (first | exact Ex.nilCheck rfl))
  first | (apply GA.take [] (hD := .inl rfl) (hsub := ⟨_, Takes.nil⟩) (i := 27) (hi := rfl) (hs := by kernel_rfl) (hfr := by kernel_rfl) (hr := by kernel_rfl) (hQ := np_) (hd := rfl); case hx => (first | exact Ex.fieldB rfl))
  apply GA.take _ (hD := .inr ⟨rfl, by kernel_rfl⟩) (hsub := ⟨_, (by repeat first | exact tn_ | apply td_ rfl | apply tc_ | exact .here | apply Take1.there)⟩) (i := 28) (hi := rfl) (hs := by kernel_rfl) (hfr := by kernel_rfl) (hr := by kernel_rfl) (hQ := np_) (hd := rfl) (hx := (Ex.loadH rfl (tr_deep (List.mem_cons_of_mem _ (List.mem_cons_self ..)) hmj)))
  refine GA.one (i := 14) (by kernel_rfl) rfl ?_
  first | refine G.call (caps := []) (compare_sp (x.t.w : Int) (y.t.w : Int)) rfl rfl rfl rfl (by repeat first | exact tn_ | apply td_ rfl | apply tc_ | exact .here | apply Take1.there) ?_ | refine G.callU (caps := []) (compare_sp (x.t.w : Int) (y.t.w : Int)) rfl rfl rfl (by repeat first | exact tn_ | apply td_ rfl | apply tc_ | exact .here | apply Take1.there) ?_
  rintro v_ give_ ⟨rfl, rfl⟩ rs_ hrs_
  simp only [List.cons_append, List.nil_append] at hrs_
  subst hrs_
  try refine G.nil ?_
  refine GA.back (by first | exact .inl (by decide) | exact .inr ⟨_, (by repeat first | exact tn_ | apply td_ rfl | apply tc_ | exact .here | apply Take1.there)⟩) ?_
  refine GA.one (i := 29) (by kernel_rfl) rfl ?_
  first | refine G.call (caps := []) (compare_sp (x.t.deep : Int) (y.t.deep : Int)) rfl rfl rfl rfl (by repeat first | exact tn_ | apply td_ rfl | apply tc_ | exact .here | apply Take1.there) ?_ | refine G.callU (caps := []) (compare_sp (x.t.deep : Int) (y.t.deep : Int)) rfl rfl rfl (by repeat first | exact tn_ | apply td_ rfl | apply tc_ | exact .here | apply Take1.there) ?_
  rintro v_ give_ ⟨rfl, rfl⟩ rs_ hrs_
  simp only [List.cons_append, List.nil_append] at hrs_
  subst hrs_
  try refine G.nil ?_
  refine GA.back (by first | exact .inl (by decide) | exact .inr ⟨_, (by repeat first | exact tn_ | apply td_ rfl | apply tc_ | exact .here | apply Take1.there)⟩) ?_
  refine GA.one (i := 30) (by kernel_rfl) rfl ?_
  refine G.lit (cells := flat (eI .i64) [sgn x.t.w y.t.w, sgn x.t.deep y.t.deep]) rfl (by rfl) (by rfl) (by rfl) (by rfl) (by rfl) (by rfl) rfl (fun q => ?_)
  try refine G.nil ?_
  refine GA.back (by first | exact .inl (by decide) | exact .inr ⟨_, (by repeat first | exact tn_ | apply td_ rfl | apply tc_ | exact .here | apply Take1.there)⟩) ?_
  refine GA.one (i := 31) (by kernel_rfl) rfl ?_
  first | refine G.call (caps := []) (or_sp q 2 (sgn x.t.w y.t.w) (sgn x.t.deep y.t.deep)) rfl rfl rfl rfl (by repeat first | exact tn_ | apply td_ rfl | apply tc_ | exact .here | apply Take1.there) ?_ | refine G.callU (caps := []) (or_sp q 2 (sgn x.t.w y.t.w) (sgn x.t.deep y.t.deep)) rfl rfl rfl (by repeat first | exact tn_ | apply td_ rfl | apply tc_ | exact .here | apply Take1.there) ?_
  rintro v_ give_ ⟨rfl, rfl⟩ rs_ hrs_
  simp only [List.cons_append, List.nil_append] at hrs_
  subst hrs_
  try refine G.nil ?_
  refine GA.back (by first | exact .inl (by decide) | exact .inr ⟨_, (by repeat first | exact tn_ | apply td_ rfl | apply tc_ | exact .here | apply Take1.there)⟩) ?_
  first | (apply GA.take [] (hD := .inl rfl) (hsub := ⟨_, Takes.nil⟩) (i := 32) (hi := rfl) (hs := by kernel_rfl) (hfr := by kernel_rfl) (hr := by kernel_rfl) (hQ := np_) (hd := rfl); case hx => (first | exact Ex.lss rfl rfl))
  first | (apply GA.take [] (hD := .inl rfl) (hsub := ⟨_, Takes.nil⟩) (i := 33) (hi := rfl) (hs := by kernel_rfl) (hfr := by kernel_rfl) (hr := by kernel_rfl) (hQ := np_) (hd := rfl); case hx => (first | exact Ex.assign rfl))
  refine GA.done (by kernel_rfl) ?_
  rw [sgn_lt]
  repeat (first | refine GC.ret ?_ | refine GE.then_normal ?_)
  refine GE.ret (by first | exact .inl rfl | exact .inr rfl) (res1 Try.results57 rfl) ⟨rfl, rfl⟩ (by repeat first | exact tn_ | apply td_ rfl | apply tc_ | exact .here | apply Take1.there) (by repeat (first | exact Subs.refl | refine Subs.skip ?_))
theorem flat_set (l : List El) (i : Nat) (x : El) : (flat ePt l).set i (ptr x.b) = flat ePt (l.set i x) := by
  induction l generalizing i with
  | nil => rfl
  | cons y l ih =>
    cases i with
    | zero => rfl
    | succ i => show (ePt y ++ flat ePt l).set (i + 1) _ = ePt y ++ flat ePt (l.set i x); rw [← ih]; rfl
set_option maxHeartbeats 8000000 in
theorem swap_sp (ao : Option Addr) (n c : Nat) (l : List El) (hl : l.length = n) (i j : Nat) (hi : i < n) (hj : j < n) :
    Spec Try.prog 58 [.slice ao n c, .int .i64 (i : Int), .int .i64 (j : Int)] [.vec 50 1 ao n c (flat ePt l)] fun v give => give = [.vec 50 1 ao n c (flat ePt (swp l i j))] := by
  have hgi : (flat ePt l)[i * 1 + 0]? = some (ptr (l.getD i default).b) := flat_at (inferInstance : Enc ePt 1) l i 0 (by omega) (by decide)
  have hgj : (flat ePt l)[j * 1 + 0]? = some (ptr (l.getD j default).b) := flat_at (inferInstance : Enc ePt 1) l j 0 (by omega) (by decide)
  refine Spec.intro Try.func58 rfl Try.ntmps58 rfl fun w0 rest rs_ hrs_ => ?_
  simp only [List.cons_append, List.nil_append] at hrs_
  subst hrs_
  repeat (first | fail)
  refine GC.vecSome (List.mem_cons_self ..) (by omega) fun a ha => ?_
  subst ha
  refine GC.drawA [13, 15] [.vec 50 1 (some a) n c (flat ePt l)] (by repeat first | exact tn_ | apply td_ rfl | apply tc_ | exact .here | apply Take1.there) (by kernel_rfl) ?_
  first | (apply GA.take [] (hD := .inl rfl) (hsub := ⟨_, Takes.nil⟩) (i := 0) (hi := rfl) (hs := by kernel_rfl) (hfr := by kernel_rfl) (hr := by kernel_rfl) (hQ := np_) (hd := rfl); case hx => (first | exact Ex.move rfl))
  first | (apply GA.take [] (hD := .inl rfl) (hsub := ⟨_, Takes.nil⟩) (i := 1) (hi := rfl) (hs := by kernel_rfl) (hfr := by kernel_rfl) (hr := by kernel_rfl) (hQ := np_) (hd := rfl); case hx => (first | exact Ex.move rfl))
  first | (apply GA.take [] (hD := .inl rfl) (hsub := ⟨_, Takes.nil⟩) (i := 2) (hi := rfl) (hs := by kernel_rfl) (hfr := by kernel_rfl) (hr := by kernel_rfl) (hQ := np_) (hd := rfl); case hx => (first | exact Ex.move rfl))
  first | (apply GA.take [] (hD := .inl rfl) (hsub := ⟨_, Takes.nil⟩) (i := 3) (hi := rfl) (hs := by kernel_rfl) (hfr := by kernel_rfl) (hr := by kernel_rfl) (hQ := np_) (hd := rfl); case hx => (first | exact Ex.move rfl))
  first | (apply GA.take [] (hD := .inl rfl) (hsub := ⟨_, Takes.nil⟩) (i := 4) (hi := rfl) (hs := by kernel_rfl) (hfr := by kernel_rfl) (hr := by kernel_rfl) (hQ := np_) (hd := rfl); case hx => (first | exact Ex.move rfl))
  first | (apply GA.take [] (hD := .inl rfl) (hsub := ⟨_, Takes.nil⟩) (i := 5) (hi := rfl) (hs := by kernel_rfl) (hfr := by kernel_rfl) (hr := by kernel_rfl) (hQ := np_) (hd := rfl); case hx => (first | exact Ex.move rfl))
  apply GA.take [] (hD := .inl rfl) (hsub := ⟨_, Takes.nil⟩) (i := 6) (hi := rfl) (hs := by kernel_rfl) (hfr := by kernel_rfl) (hr := by kernel_rfl) (hQ := np_) (hd := rfl) (hx := (Ex.indexSome (k := j) rfl rfl hj))
  apply GA.take _ (hD := .inr ⟨rfl, by kernel_rfl⟩) (hsub := ⟨_, (by repeat first | exact tn_ | apply td_ rfl | apply tc_ | exact .here | apply Take1.there)⟩) (i := 7) (hi := rfl) (hs := by kernel_rfl) (hfr := by kernel_rfl) (hr := by kernel_rfl) (hQ := np_) (hd := rfl) (hx := (Ex.loadE (k := j * 1) rfl hgj))
  first | (apply GA.take [] (hD := .inl rfl) (hsub := ⟨_, Takes.nil⟩) (i := 8) (hi := rfl) (hs := by kernel_rfl) (hfr := by kernel_rfl) (hr := by kernel_rfl) (hQ := np_) (hd := rfl); case hx => (first | exact Ex.move rfl))
  first | (apply GA.take [] (hD := .inl rfl) (hsub := ⟨_, Takes.nil⟩) (i := 9) (hi := rfl) (hs := by kernel_rfl) (hfr := by kernel_rfl) (hr := by kernel_rfl) (hQ := np_) (hd := rfl); case hx => (first | exact Ex.move rfl))
  apply GA.take [] (hD := .inl rfl) (hsub := ⟨_, Takes.nil⟩) (i := 10) (hi := rfl) (hs := by kernel_rfl) (hfr := by kernel_rfl) (hr := by kernel_rfl) (hQ := np_) (hd := rfl) (hx := (Ex.indexSome (k := i) rfl rfl hi))
  apply GA.take _ (hD := .inr ⟨rfl, by kernel_rfl⟩) (hsub := ⟨_, (by repeat first | exact tn_ | apply td_ rfl | apply tc_ | exact .here | apply Take1.there)⟩) (i := 11) (hi := rfl) (hs := by kernel_rfl) (hfr := by kernel_rfl) (hr := by kernel_rfl) (hQ := np_) (hd := rfl) (hx := (Ex.loadE (k := i * 1) rfl hgi))
  apply GA.take [] (hD := .inl rfl) (hsub := ⟨_, Takes.nil⟩) (i := 12) (hi := rfl) (hs := by kernel_rfl) (hfr := by kernel_rfl) (hr := by kernel_rfl) (hQ := np_) (hd := rfl) (hx := (Ex.indexSome (k := i) rfl rfl hi))
  refine GA.one (i := 13) (by kernel_rfl) rfl ?_
  first | refine G.storeT0 rfl rfl rfl rfl (by first | omega | (simp; omega)) rfl ((l.getD j default)) (rfl) (fun rs_ hrs_ => ?_) | refine G.storeT rfl rfl rfl rfl (by first | omega | (simp; omega)) rfl ((l.getD j default)) (rfl) (fun rs_ hrs_ => ?_) | refine G.storeTA rfl rfl (by first | omega | (simp; omega)) rfl ((l.getD j default)) (rfl) (fun rs_ hrs_ => ?_)
  try simp only at hrs_
  subst hrs_
  try refine G.nil ?_
  refine GA.back (by first | exact .inl (by decide) | exact .inr ⟨_, (by repeat first | exact tn_ | apply td_ rfl | apply tc_ | exact .here | apply Take1.there)⟩) ?_
  apply GA.take [] (hD := .inl rfl) (hsub := ⟨_, Takes.nil⟩) (i := 14) (hi := rfl) (hs := by kernel_rfl) (hfr := by kernel_rfl) (hr := by kernel_rfl) (hQ := np_) (hd := rfl) (hx := (Ex.indexSome (k := j) rfl rfl hj))
  refine GA.one (i := 15) (by kernel_rfl) rfl ?_
  first | refine G.storeT0 rfl rfl rfl rfl (by first | omega | (simp; omega)) rfl ((l.getD i default)) (rfl) (fun rs_ hrs_ => ?_) | refine G.storeT rfl rfl rfl rfl (by first | omega | (simp; omega)) rfl ((l.getD i default)) (rfl) (fun rs_ hrs_ => ?_) | refine G.storeTA rfl rfl (by first | omega | (simp; omega)) rfl ((l.getD i default)) (rfl) (fun rs_ hrs_ => ?_)
  try simp only at hrs_
  subst hrs_
  try refine G.nil ?_
  refine GA.back (by first | exact .inl (by decide) | exact .inr ⟨_, (by repeat first | exact tn_ | apply td_ rfl | apply tc_ | exact .here | apply Take1.there)⟩) ?_
  refine GA.done (by kernel_rfl) ?_
  repeat (first | fail)
  refine GE.ret (by first | exact .inl rfl | exact .inr rfl) (res0 Try.results58) rfl (by repeat first | exact tn_ | apply td_ rfl | apply tc_ | exact .here | apply Take1.there) (by repeat (first | exact Subs.refl | refine Subs.skip ?_))
end huff
end Go.Proofs.Ytfkgchdbjfbdaaa
