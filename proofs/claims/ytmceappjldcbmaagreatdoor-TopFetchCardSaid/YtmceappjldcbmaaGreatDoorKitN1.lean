/-
  THE KIT OF MY OWN, TENTH PART: a region that draws its order and writes or makes memory: what only reads is taken first; the rest in every order. Over any program; no condition.
-/
import Derived.Test.YtmceappjldcbmaaGreatDoorKit9
import Derived.Deep.OwnRows
import Derived.Lib.AppendZeros
import Derived.MapKept
import Derived.Stop.BytesEq
import Derived.RangeFuncIn
import Derived.RangeFuncLeaves
import Derived.RangeFuncCalls
import Derived.Laws.BytesString
import Derived.Lib.AppendZerosOnto
namespace Go.Proofs.YtmceappjldcbmaaGreatDoor
open Go.RowKit Go.Sort
set_option linter.unusedVariables false
set_option linter.unusedSimpArgs false

/-- operation j waits for operation i -/
def waits (ops : Array Oper) (j i : Nat) : Bool := match ops[j]? with
  | some o => o.after.any fun e => Region.binds .any e && e.on == i
  | none => true
/-- each of T waits for each of H -/
def tails (ops : Array Oper) (H T : List Nat) : Bool := T.all fun j => H.all fun i => waits ops j i
/-- the game over all orders; behind an operation that is none of T the world is in the class C -/
def wpAnyC (P : Program) (ops : Array Oper) (T : List Nat) (B C : World → Prop) (Q : Exit → Act → World → Prop) : Nat → Array Bool → Act → World → Prop
  | 0, listed, a, w => Region.ready .any ops listed = [] ∧ Q .normal a w
  | fuel + 1, listed, a, w => (Region.ready .any ops listed = [] → Q .normal a w) ∧
    ∀ i ∈ Region.ready .any ops listed, wpOp P ops Q i (fun a' w' => ((B w → B w') ∧ (i ∈ T ∨ (C w → C w'))) ∧ wpAnyC P ops T B C Q fuel (listed.setIfInBounds i true) a' w') a w
def YieldsC (P : Program) (ops : Array Oper) (C : World → Prop) (o : Oper) (v : Value) (a : Act) : Prop :=
  (Region.wanted o (yielded ops a.tmps) = true ∧ ∀ w, C w → (execOp a.eval o).run P w = .ok (.value v) w) ∨
  (Region.wanted o (yielded ops a.tmps) = false ∧ v = undef)
section
variable {P : Program} {ops : Array Oper} {H T : List Nat} {B C : World → Prop} {Q : Exit → Act → World → Prop}
theorem wpAny_of_C : ∀ (fuel : Nat) (listed : Array Bool) (a : Act) (w : World), wpAnyC P ops T B C Q fuel listed a w → wpAny P .any ops Q fuel listed a w
  | 0, _, _, _, h => h
  | fuel + 1, _, _, _, h => ⟨h.1, fun i hi => wpOp_mono (fun a' w' hh => wpAny_of_C fuel _ a' w' hh.2) (h.2 i hi)⟩
theorem YieldsC.wpOp {i : Nat} {o : Oper} {v : Value} {a : Act} (hi : ops[i]? = some o) (hy : YieldsC P ops C o v a) {K : Act → World → Prop} {w : World} (hC : C w) (h : K (a.put o.dst v) w) : wpOp P ops Q i K a w := by
  unfold Go.wpOp
  simp only [hi]
  rcases hy with ⟨hw, hv⟩ | ⟨hw, rfl⟩
  · simp only [hw, if_true, Oper.wp, hv w hC, Oper.upon]; exact .inl h
  · simp only [hw, Bool.false_eq_true, if_false]; exact h
theorem YieldsC.of_same {o : Oper} {v : Value} {a a' : Act} (hy : YieldsC P ops C o v a) (he : execOp a'.eval o = execOp a.eval o) (hw : Region.wanted o (yielded ops a'.tmps) = Region.wanted o (yielded ops a.tmps)) : YieldsC P ops C o v a' := by
  unfold YieldsC at *
  rw [he, hw]
  exact hy
theorem wpOp_putC {j : Nat} {oi oj : Oper} {v : Value} (hj : ops[j]? = some oj) (hap : oi.apart ops oj = true)
    (hsi : ∀ cs b, oi.op ≠ .select cs b) (hsj : ∀ cs b, oj.op ≠ .select cs b)
    (hQ : ∀ c a w, Q (.panic c) (a.put oi.dst v) w → Q (.panic c) a w) {K : Act → World → Prop} {a : Act} {w : World}
    (hy : YieldsC P ops C oi v a) (h : wpOp P ops Q j K (a.put oi.dst v) w) :
    wpOp P ops Q j (fun a' w' => YieldsC P ops C oi v a' ∧ K (a'.put oi.dst v) w') a w := by
  obtain ⟨h1, h2, h3⟩ := Oper.apart_spec hap
  have keep : ∀ (a : Act), YieldsC P ops C oi v a → ∀ u, YieldsC P ops C oi v (a.put oj.dst u) := fun a hy u =>
    hy.of_same (execOp_put oi hsi a oj.dst u h3) (wanted_put oi a oj.dst u h3)
  have keepD : ∀ d, YieldsC P ops C oi v { a with defers := d :: a.defers } := fun d => hy.of_same rfl rfl
  unfold wpOp at *
  simp only [hj] at *
  rw [wanted_put oj a oi.dst v h1] at h
  split
  · rename_i hw
    simp only [hw, if_true] at h
    rcases h with h | ⟨hasks, hlets⟩
    case inr => exact .inr ⟨by unfold Oper.asks at *; rw [execOp_put oj hsj a oi.dst v h1] at hasks; exact hasks, hlets⟩
    refine .inl ?_
    unfold Oper.wp at *
    rw [execOp_put oj hsj a oi.dst v h1] at h
    generalize (execOp a.eval oj).run P w = r at *
    cases r with
    | ok n w' =>
      cases n <;> simp only [Oper.upon] at h ⊢
      case value u => exact ⟨keep a hy u, by rw [← Act.put_comm a v u h2]; exact h⟩
      case skip => exact ⟨keep a hy _, by rw [← Act.put_comm a v undef h2]; exact h⟩
      case defer d =>
        refine ⟨keep _ (keepD d) _, ?_⟩
        rw [← Act.put_comm _ v undef h2, ← Act.put_defers]
        exact h
      case enter f args =>
        refine Calls.mono h fun e w'' he => ?_
        cases e with
        | returned u => exact ⟨keep a hy u, by rw [← Act.put_comm a v u h2]; exact he⟩
        | panicked c => exact hQ _ _ _ he
        | outgrown => exact he
      case row row args => exact Rows.mono h fun u w'' he => ⟨keep a hy u, by rw [← Act.put_comm a v u h2]; exact he⟩
    | halt x w' =>
      cases x <;> simp only [Oper.upon] at h ⊢
      case panic u => exact hQ _ _ _ h
  · rename_i hw
    simp only [hw] at h
    exact ⟨keep a hy _, by rw [← Act.put_comm a v undef h2]; exact h⟩
theorem wpAnyC_first {D : World → Prop} {i : Nat} {oi : Oper} {v : Value} (hi : ops[i]? = some oi) (hD : D = B ∨ (D = C ∧ ∀ j ∈ T, waits ops j i = true)) (hsel : ∀ (j : Nat) (o : Oper) cs b, ops[j]? = some o → o.op ≠ .select cs b)
    (hQ : ∀ c a w, Q (.panic c) (a.put oi.dst v) w → Q (.panic c) a w) :
    ∀ (fuel : Nat) (listed : Array Bool) (a : Act) (w : World),
      (∀ j oj, ops[j]? = some oj → j ≠ i → listed.getD j true = false → (∀ e ∈ oj.after, Region.binds .any e = true → e.on ≠ i) → oi.apart ops oj = true) →
      i ∈ Region.ready .any ops listed → YieldsC P ops D oi v a → D w →
      wpAnyC P ops T B C Q fuel (listed.setIfInBounds i true) (a.put oi.dst v) w → wpAnyC P ops T B C Q (fuel + 1) listed a w := by
  intro fuel
  induction fuel with
  | zero =>
    intro listed a w _ hr hy hC HH
    refine ⟨fun h => (by rw [h] at hr; cases hr), fun j hj => ?_⟩
    by_cases hji : j = i
    · subst hji; exact hy.wpOp hi hC ⟨⟨id, .inr id⟩, HH⟩
    · have := ready_mono hj hji
      rw [HH.1] at this
      cases this
  | succ fuel ih =>
    intro listed a w hfree hr hy hC HH
    refine ⟨fun h => (by rw [h] at hr; cases hr), fun j hj => ?_⟩
    by_cases hji : j = i
    · subst hji; exact hy.wpOp hi hC ⟨⟨id, .inr id⟩, HH⟩
    · have h1 := HH.2 j (ready_mono hj hji)
      obtain ⟨hjun, oj, hoj, hall⟩ := mem_ready.1 hj
      have hin := (mem_ready.1 hr).1
      have hnot : ∀ e ∈ oj.after, Region.binds .any e = true → e.on ≠ i := fun e he hb heq => by
        have h1 := hall e he hb
        rw [heq] at h1
        rcases Nat.lt_or_ge i listed.size with h' | h'
        · simp [h'] at hin h1; rw [hin] at h1; cases h1
        · simp [Array.getElem?_eq_none h'] at h1
      have h2 := wpOp_putC hoj (hfree j oj hoj hji hjun hnot) (fun cs b => hsel i oi cs b hi) (fun cs b => hsel j oj cs b hoj) hQ hy h1
      have hfree' : ∀ k ok, ops[k]? = some ok → k ≠ i → (listed.setIfInBounds j true).getD k true = false →
          (∀ e ∈ ok.after, Region.binds .any e = true → e.on ≠ i) → oi.apart ops ok = true := fun k ok hk hki hun hno => by
        refine hfree k ok hk hki ?_ hno
        by_cases hjk : j = k
        · subst hjk; exact hjun
        · rw [getD_set_ne true hjk] at hun; exact hun
      refine wpOp_mono (fun a' w' h3 => ?_) h2
      have hD' : D w' := by
        rcases hD with rfl | ⟨rfl, hT⟩
        · exact h3.2.1.1 hC
        · have hjT : j ∉ T := fun hjT => by
            have hw := hT j hjT
            unfold waits at hw
            simp only [hoj] at hw
            obtain ⟨e, he, hb⟩ := Array.any_eq_true'.1 hw
            simp only [Bool.and_eq_true, beq_iff_eq] at hb
            exact hnot e he hb.1 hb.2
          exact h3.2.1.2.resolve_left hjT hC
      refine ⟨h3.2.1, ih (listed.setIfInBounds j true) a' w' hfree' (ready_mono hr (Ne.symm hji)) h3.1 hD' ?_⟩
      rw [Array.setIfInBounds_comm _ _ hji]
      exact h3.2.2
end

/-- the game in slots and resources -/
def GA {P : Program} {ops : Array Oper} {T : List Nat} {rc : List Res} {Q : Exit → Act → World → Prop} {n : Nat} {ds : List Deferred} {w0 : World} {fuel : Nat} (listed : Array Bool) (fr : Slots) (rs : List Res) : Prop :=
  ∀ a w, Fr ds a n fr → Holds w0 w rs → wpAnyC P ops T (fun w => Holds w0 w []) (fun w => Holds w0 w rc) Q fuel listed a w
section
variable {P : Program} {ops : Array Oper} {T : List Nat} {Q : Exit → Act → World → Prop} {n : Nat} {ds : List Deferred} {w0 : World} {fuel : Nat} {listed : Array Bool} {fr : Slots} {rs rc : List Res}
/-- a post that does not speak of panics but forbids them -/
def NoPanic (Q : Exit → Act → World → Prop) : Prop := ∀ c a w, ¬ Q (.panic c) a w
theorem GC.drawA {id : Nat} {l : List Oper} (T : List Nat) (rc : List Res) {left : List Res} (ht : Takes rs rc left) (hm : P.follows .mixedOrders = true) (h : @GA P l.toArray T rc Q n ds w0 l.length (Array.replicate l.length false) fr rs) : @GC P (.region id l.toArray true) Q n ds w0 fr rs :=
  fun a w hf hw => wp_region_any hm (wpAny_of_C _ _ _ _ (by
    have := h a { w with drawn := w.drawn + 1 } hf (hw.same rfl rfl rfl rfl)
    rw [List.size_toArray]; exact this))
theorem GA.done (hr : Region.ready .any ops listed = []) (h : @GE Q .normal n ds w0 fr rs) : @GA P ops T rc Q n ds w0 fuel listed fr rs := by
  intro a w hf hw
  cases fuel with
  | zero => exact ⟨hr, h a w hf hw⟩
  | succ k => exact ⟨fun _ => h a w hf hw, by rw [hr]; simp⟩
/-- what only reads is taken first -/
theorem GA.take {i d : Nat} {op : Op} {ty : TypeId} {pos : String} {after : Array Edge} {v : Value} (rd : List Res) (hi : ops[i]? = some ⟨some d, op, ty, pos, after, none⟩) (hs : Region.noSelect ops = true) (hfr : Region.free .any ops listed i = true) (hr : (Region.ready .any ops listed).contains i = true)
    (hQ : NoPanic Q) (hD : rd = [] ∨ (rd = rc ∧ tails ops [i] T = true)) (hsub : ∃ left, Takes rs rd left) (hx : Ex P n w0 rd fr op ty v) (hd : Nat.blt d n = true)
    (k : @GA P ops T rc Q n ds w0 fuel (listed.setIfInBounds i true) ((d, v) :: fr) rs) : @GA P ops T rc Q n ds w0 (fuel + 1) listed fr rs := by
  intro a w hf hw
  have hsat : ∀ {l m : List Res} {w' : World}, Holds w0 w' (l ++ m) → Holds w0 w' l := fun {l m w'} h => by
    have h' : Holds w0 w' (m ++ l) := h.perm List.perm_append_comm
    clear h
    induction m with
    | nil => exact h'
    | cons x m ih => exact ih h'.tail
  obtain ⟨left, hl⟩ := hsub
  have hrd : Holds w0 w rd := hsat (hw.take hl)
  have hyw : Region.wanted (⟨some d, op, ty, pos, after, none⟩ : Oper) (yielded ops a.tmps) = true := rfl
  rcases hD with rfl | ⟨rfl, hT⟩
  · exact wpAnyC_first (D := fun w => Holds w0 w []) hi (.inl rfl) (Region.noSelect_spec hs) (fun c a' w' h => absurd h (hQ c _ _)) fuel listed a w (Region.free_spec hi hfr) (by simpa using hr) (.inl ⟨hyw, fun w' hw' => hx a w' _ _ _ _ hf hw'⟩) hrd (k _ w (hf.put hd v) hw)
  · refine wpAnyC_first (D := fun w => Holds w0 w rd) hi (.inr ⟨rfl, fun j hj => ?_⟩) (Region.noSelect_spec hs) (fun c a' w' h => absurd h (hQ c _ _)) fuel listed a w (Region.free_spec hi hfr) (by simpa using hr) (.inl ⟨hyw, fun w' hw' => hx a w' _ _ _ _ hf hw'⟩) hrd (k _ w (hf.put hd v) hw)
    have := List.all_eq_true.1 hT j hj
    simpa using this
theorem NoPanic.fpost {fn : Func} {rest : List Res} {post : Value → List Res → Prop} : NoPanic (FPost P fn w0 rest post) := by
  rintro c a w ⟨_, v, give, _, h, _⟩
  cases h
theorem NoPanic.then_ {K : Act → World → Prop} (h : NoPanic Q) : NoPanic (Exit.then K Q) := fun c a w hh => h c a w hh
theorem NoPanic.block {id : Nat} (h : NoPanic Q) : NoPanic (Exit.inBlock id Q) := fun c a w hh => h c a w hh
class NPI (Q : Exit → Act → World → Prop) : Prop where
  h : NoPanic Q
instance {fn : Func} {rest : List Res} {post : Value → List Res → Prop} : NPI (FPost P fn w0 rest post) := ⟨NoPanic.fpost⟩
instance {K : Act → World → Prop} [h : NPI Q] : NPI (Exit.then K Q) := ⟨NoPanic.then_ h.h⟩
instance {id : Nat} [h : NPI Q] : NPI (Exit.inBlock id Q) := ⟨NoPanic.block h.h⟩
theorem np_ [h : NPI Q] : NoPanic Q := h.h
/-- what is to be shown behind an operation i that was carried out -/
def GAk (P : Program) (ops : Array Oper) (T : List Nat) (rc : List Res) (Q : Exit → Act → World → Prop) (w0 : World) (fuel : Nat) (listed : Array Bool) (i : Nat) : Act → World → Prop :=
  fun a w => (∃ rs', Holds w0 w rs' ∧ (i ∈ T ∨ ∃ left, Takes rs' rc left)) ∧ wpAnyC P ops T (fun w => Holds w0 w []) (fun w => Holds w0 w rc) Q fuel (listed.setIfInBounds i true) a w
theorem GA.op {i : Nat} {o : Oper} (ho : ops[i]? = some o) (k : @G P ops (Exit.then (GAk P ops T rc Q w0 fuel listed i) Q) n ds w0 [o] fr rs) {a : Act} {w : World} (hf : Fr ds a n fr) (hw : Holds w0 w rs) :
    wpOp P ops Q i (fun a' w' => ((Holds w0 w [] → Holds w0 w' []) ∧ (i ∈ T ∨ (Holds w0 w rc → Holds w0 w' rc))) ∧ wpAnyC P ops T (fun w => Holds w0 w []) (fun w => Holds w0 w rc) Q fuel (listed.setIfInBounds i true) a' w') a w := by
  have h := k a w hf hw
  have hsat : ∀ {l m : List Res} {w' : World}, Holds w0 w' (l ++ m) → Holds w0 w' l := fun {l m w'} h => by
    have h' : Holds w0 w' (m ++ l) := h.perm List.perm_append_comm
    clear h
    induction m with
    | nil => exact h'
    | cons x m ih => exact ih h'.tail
  have conv : ∀ a' w', GAk P ops T rc Q w0 fuel listed i a' w' →
      ((Holds w0 w [] → Holds w0 w' []) ∧ (i ∈ T ∨ (Holds w0 w rc → Holds w0 w' rc))) ∧ wpAnyC P ops T (fun w => Holds w0 w []) (fun w => Holds w0 w rc) Q fuel (listed.setIfInBounds i true) a' w' := by
    rintro a' w' ⟨⟨rs', h1, h2⟩, h3⟩
    refine ⟨⟨fun _ => hsat (l := []) (m := rs') (by simpa using h1), h2.imp id fun ⟨left, hl⟩ _ => hsat (h1.take hl)⟩, h3⟩
  unfold wpOp
  simp only [ho]
  simp only [wpList] at h
  split
  · rename_i hw'
    rw [if_pos hw'] at h
    refine h.imp (fun h => ?_) id
    unfold Oper.wp at h ⊢
    generalize (execOp a.eval o).run P w = r at h ⊢
    cases r with
    | ok nx w' =>
      cases nx <;> simp only [Oper.upon] at h ⊢
      case enter f args =>
        refine Calls.mono h fun e w'' he => ?_
        cases e with
        | returned u => exact conv _ _ he
        | panicked c => exact he
        | outgrown => exact he
      case row row args => exact Rows.mono h fun _ _ he => conv _ _ he
      all_goals exact conv _ _ h
    | halt x w' => cases x <;> simp only [Oper.upon] at h ⊢ <;> exact h
  · rename_i hw'
    rw [if_neg hw'] at h
    exact conv _ _ h
/-- the one operation that may come up is carried out -/
theorem GA.one {i : Nat} {o : Oper} (hr : Region.ready .any ops listed = [i]) (ho : ops[i]? = some o) (k : @G P ops (Exit.then (GAk P ops T rc Q w0 fuel listed i) Q) n ds w0 [o] fr rs) : @GA P ops T rc Q n ds w0 (fuel + 1) listed fr rs := by
  intro a w hf hw
  refine ⟨fun h0 => (by rw [hr] at h0; cases h0), fun j hj => ?_⟩
  rw [hr] at hj
  obtain rfl : j = i := by simpa using hj
  exact GA.op ho k hf hw
/-- two may come up -/
theorem GA.two {i j : Nat} {o o' : Oper} (hr : Region.ready .any ops listed = [i, j]) (ho : ops[i]? = some o) (ho' : ops[j]? = some o') (k : @G P ops (Exit.then (GAk P ops T rc Q w0 fuel listed i) Q) n ds w0 [o] fr rs) (k' : @G P ops (Exit.then (GAk P ops T rc Q w0 fuel listed j) Q) n ds w0 [o'] fr rs) : @GA P ops T rc Q n ds w0 (fuel + 1) listed fr rs := by
  intro a w hf hw
  refine ⟨fun h0 => (by rw [hr] at h0; cases h0), fun m hm => ?_⟩
  rw [hr] at hm
  rcases List.mem_cons.1 hm with rfl | hm
  · exact GA.op ho k hf hw
  · obtain rfl : m = j := by simpa using hm
    exact GA.op ho' k' hf hw
theorem GA.back {i : Nat} {fr' : Slots} {rs' : List Res} (h : i ∈ T ∨ ∃ left, Takes rs' rc left) (k : @GA P ops T rc Q n ds w0 fuel (listed.setIfInBounds i true) fr' rs') : @GE (Exit.then (GAk P ops T rc Q w0 fuel listed i) Q) .normal n ds w0 fr' rs' :=
  fun a w hf hw => ⟨⟨rs', hw, h⟩, k a w hf hw⟩
end
/-- what holds behind a piece of code, whatever way was gone -/
def PPost {ι : Type} (φ : ι → Prop) (frI : ι → Slots) (rsI : ι → List Res) (rl : List Res) (n : Nat) (ds : List Deferred) (w0 : World) : Act → World → Prop := fun a w => ∃ j, φ j ∧ Fr ds a n (frI j) ∧ Holds w0 w (rsI j ++ rl)
section
variable {P : Program} {Q : Exit → Act → World → Prop} {n : Nat} {ds : List Deferred} {w0 : World} {fr : Slots} {rs : List Res}
/-- one piece of code by itself: its ways meet behind it -/
theorem GC.meet {c : Code} {ι : Type} (φ : ι → Prop) (frI : ι → Slots) (rsI : ι → List Res) (rl : List Res) (h : @GC P c (Exit.then (PPost φ frI rsI rl n ds w0) Q) n ds w0 fr rs)
    (k : ∀ i, φ i → ∀ fr' rs', fr' = frI i → rs' = rsI i ++ rl → @GE Q .normal n ds w0 fr' rs') : @GC P c Q n ds w0 fr rs := by
  intro a w hf hw
  refine wp_mono (h a w hf hw) fun e a' w' hq => ?_
  cases e with
  | normal =>
    obtain ⟨i, h1, h2, h3⟩ := hq
    exact k i h1 _ _ rfl rfl a' w' h2 h3
  | _ => exact hq
theorem GE.meet {ι : Type} {φ : ι → Prop} {frI : ι → Slots} {rsI : ι → List Res} {rl r2 : List Res} (j : ι) (hj : φ j) (hf : fits (frI j) fr) (ht : Takes rs (rsI j) r2) (hs : Subs rl r2) : @GE (Exit.then (PPost φ frI rsI rl n ds w0) Q) .normal n ds w0 fr rs := by
  intro a w hf' hw
  refine ⟨j, hj, hf'.sub hf, ?_⟩
  have h1 := hw.take ht
  clear hw ht
  induction hs with
  | refl => exact h1
  | @skip x r1 r3 _ ih =>
    have : (rsI j ++ x :: r3).Perm (x :: (rsI j ++ r3)) := List.perm_middle
    exact ih (h1.perm this).tail
end
end Go.Proofs.YtmceappjldcbmaaGreatDoor
/-
  THE KIT OF MY OWN, ELEVENTH PART: rows written in their place; pieces of rows that stay one's own; conversions, shifts, closures; many resources as one. Over any program; no condition.
-/
namespace Go.Proofs.YtmceappjldcbmaaGreatDoor
open Go.RowKit Go.Sort
set_option linter.unusedVariables false
set_option linter.unusedSimpArgs false



section
variable {P : Program} {ops : Array Oper} {Q : Exit → Act → World → Prop} {K : Act → Prop} {n : Nat} {ds : List Deferred} {w0 : World} {rest : List Oper} {fr : Slots} {rs rs' : List Res} {ty t tx t' : TypeId} {x y : Operand} {pos : String} {after : Array Edge}

/-- which row of one's own lies at an address -/
class VecUpd (rs : List Res) (ao : Option Addr) (e size n c : outParam Nat) (xs : outParam (List Value)) (f : outParam (List Value → List Res)) : Prop where
  upd : ∀ xs', Upd rs (.vec e size ao n c xs) (.vec e size ao n c xs') (f xs')
instance VecUpd.here {ao : Option Addr} {n c e size : Nat} {xs : List Value} {rs : List Res} : VecUpd (.vec e size ao n c xs :: rs) ao e size n c xs (fun xs' => .vec e size ao n c xs' :: rs) := ⟨fun _ => .here⟩
instance (priority := low) VecUpd.there {ao : Option Addr} {n c e size : Nat} {xs : List Value} {r : Res} {rs : List Res} {f : List Value → List Res} [h : VecUpd rs ao e size n c xs f] : VecUpd (r :: rs) ao e size n c xs (fun xs' => r :: f xs') := ⟨fun a => .there (h.upd a)⟩
end
end Go.Proofs.YtmceappjldcbmaaGreatDoor
/-
  THE KIT OF MY OWN, TWELFTH PART: pieces of rows that stay one's own; conversions, shifts, closures; many resources as one; rows made. Over any program; no condition.
-/
namespace Go.Proofs.YtmceappjldcbmaaGreatDoor
open Go.RowKit Go.Sort
set_option linter.unusedVariables false
set_option linter.unusedSimpArgs false


section
variable {P : Program} {ops : Array Oper} {Q : Exit → Act → World → Prop} {K : Act → Prop} {n : Nat} {ds : List Deferred} {w0 : World} {rest : List Oper} {fr : Slots} {rs rs' : List Res} {ty t tx t' : TypeId} {x y : Operand} {pos : String} {after : Array Edge}

theorem Holds.conv {w : World} {r r' : Res} (H : Holds w0 w (r :: rs)) (h : ∀ f o, r.sat f o → r'.sat f o) : Holds w0 w (r' :: rs) :=
  H.step rfl rfl rfl (Nat.le_refl _) fun f o hr _ ho => ⟨o, h f o hr, ho, fun _ _ hn => ⟨hn, rfl⟩⟩
theorem G.conv (h : ∀ w, Holds w0 w rs → Holds w0 w rs') (k : @G P ops Q n ds w0 rest fr rs') : @G P ops Q n ds w0 rest fr rs := fun a w hf hw => k a w hf (h w hw)
theorem GC.conv {c : Code} (h : ∀ w, Holds w0 w rs → Holds w0 w rs') (k : @GC P c Q n ds w0 fr rs') : @GC P c Q n ds w0 fr rs := fun a w hf hw => k a w hf (h w hw)
theorem GE.conv {e : Exit} (h : ∀ w, Holds w0 w rs → Holds w0 w rs') (k : @GE Q e n ds w0 fr rs') : @GE Q e n ds w0 fr rs := fun a w hf hw => k a w hf (h w hw)

theorem ev_int {o : Option Value} {k : IntKind} {a b : Int} (h : o = some (.int k a)) (e : a = b) : o = some (.int k b) := by rw [h, e]

theorem Ex.conv8 {src dst : TypeId} {k kk : IntKind} {a : Int} [hU : Und P src (.int kk)] [hV : Und P dst (.int .u8)] (hx : ev fr x = some (.int k a)) : Ex P n w0 rs fr (.convert src dst x) ty (.int .u8 (a % 256)) := by
  have := Ex.conv (P := P) (n := n) (w0 := w0) (rs := rs) (ty := ty) (src := src) (dst := dst) hx
  rwa [IntKind.wrap_u8] at this
theorem Ex.eqBy {a b : UInt8} {k : IntKind} (hx : ev fr x = some (.int k (a.toNat : Int))) (hy : ev fr y = some (.int k (b.toNat : Int))) : Ex P n w0 rs fr (.binOp .eql t x y t') ty (.bool (decide (a = b))) := by
  have := Ex.eqI (P := P) (n := n) (w0 := w0) (rs := rs) (ty := ty) (t := t) (t' := t') hx hy
  rwa [show decide ((a.toNat : Int) = (b.toNat : Int)) = decide (a = b) from decide_eq_decide.2 ⟨fun h => UInt8.toNat_inj.1 (by omega), fun h => by rw [h]⟩] at this
theorem Ex.neBy {a b : UInt8} {k : IntKind} (hx : ev fr x = some (.int k (a.toNat : Int))) (hy : ev fr y = some (.int k (b.toNat : Int))) : Ex P n w0 rs fr (.binOp .neq t x y t') ty (.bool (decide (¬ a = b))) := by
  have := Ex.neI (P := P) (n := n) (w0 := w0) (rs := rs) (ty := ty) (t := t) (t' := t') hx hy
  rwa [show decide (¬ (a.toNat : Int) = (b.toNat : Int)) = decide (¬ a = b) from decide_eq_decide.2 ⟨fun h e => h (by rw [e]), fun h e => h (UInt8.toNat_inj.1 (by omega))⟩] at this
/-- a closure -/
theorem Ex.mkFunc {fn : Fn} {xs : List Operand} {vs : List Value} (hx : evs fr xs = some vs) : Ex P n w0 rs fr (.makeFunc fn #[] xs.toArray) ty (.func fn #[] vs.toArray) :=
  fun a w _ _ _ _ hf _ => by
    have := hf.evs hx
    simp [execOp, Instr.makeFunc, ← this]

theorem erase_perm {α : Type} : ∀ (l : List α) (i : Nat) (h : i < l.length), (l[i] :: l.eraseIdx i).Perm l
  | a :: t, 0, _ => .refl _
  | a :: t, i + 1, h => by
    have h' : i < t.length := by simpa using h
    exact (List.Perm.swap a (t[i]'h') _).trans ((erase_perm t i h').cons a)
theorem set_perm {α : Type} : ∀ (l : List α) (i : Nat) (h : i < l.length) (r : α), (l.set i r).Perm (r :: l.eraseIdx i)
  | a :: t, 0, _, r => .refl _
  | a :: t, i + 1, h, r => ((set_perm t i (by simpa using h) r).cons a).trans (List.Perm.swap r a _)
/-- many resources as one -/
def Star (l : List Res) : Own2 where
  sat f o := ∃ m : List (Res × Hp), m.map Prod.fst = l ∧ (∀ x ∈ m, x.1.sat f x.2 ∧ x.2.le o) ∧ m.Pairwise (fun (x y : Res × Hp) => x.2.dj y.2)
  mono := by
    rintro f f' o o' hf ho ⟨m, h1, h2, h3⟩
    exact ⟨m, h1, fun x hx => ⟨Res.mono hf (.refl _) (h2 x hx).1, (h2 x hx).2.trans ho⟩, h3⟩
theorem Holds.starNil {w : World} (H : Holds w0 w rs) : Holds w0 w (.own (Star []) :: rs) :=
  H.add rfl rfl rfl (Nat.le_refl _) (fun _ _ => rfl) Hp.nil (fun k o e => by cases e) (fun _ _ => rfl) fun f _ => ⟨[], rfl, by simp, .nil⟩
theorem Holds.starOut {w : World} {r : Res} {l : List Res} (H : Holds w0 w (.own (Star (r :: l)) :: rs)) : Holds w0 w (r :: .own (Star l) :: rs) := by
  refine H.part fun f o h => ?_
  obtain ⟨m, h1, h2, h3⟩ := h
  match m, h1 with
  | x :: m, h1 =>
    simp only [List.map_cons, List.cons.injEq] at h1
    obtain ⟨rfl, rfl⟩ := h1
    obtain ⟨p1, p2⟩ := List.pairwise_cons.1 h3
    obtain ⟨q1, q2⟩ := h2 x (List.mem_cons_self ..)
    refine ⟨x.2, fun k => if (x.2 k).isNone then o k else none, q1, ⟨m, rfl, fun y hy => ⟨(h2 y (List.mem_cons_of_mem _ hy)).1, fun k v e => ?_⟩, p2⟩, fun k => ?_, q2, fun k v e => ?_⟩
    · have := (h2 y (List.mem_cons_of_mem _ hy)).2 k v e
      rcases p1 y hy k with hn | hn
      · simp [hn, this]
      · rw [hn] at e; cases e
    · cases e : x.2 k with
      | none => exact .inl rfl
      | some v => right; simp [e]
    · simp only at e
      split at e
      · exact e
      · cases e
theorem Holds.starIn {w : World} {r : Res} {l : List Res} (H : Holds w0 w (r :: .own (Star l) :: rs)) : Holds w0 w (.own (Star (r :: l)) :: rs) := by
  refine H.join fun f a b ha hb hd => ?_
  obtain ⟨m, h1, h2, h3⟩ := hb
  refine ⟨(r, a) :: m, by simp [h1], fun x hx => ?_, List.pairwise_cons.2 ⟨fun y hy => (hd.symm.left (h2 y hy).2).symm, h3⟩⟩
  rcases List.mem_cons.1 hx with rfl | hx
  · exact ⟨ha, Hp.le_or_left _ _⟩
  · exact ⟨(h2 x hx).1, (h2 x hx).2.trans (Hp.le_or_right hd)⟩
theorem Holds.starPerm {w : World} {l l' : List Res} (h : l.Perm l') (H : Holds w0 w (.own (Star l) :: rs)) : Holds w0 w (.own (Star l') :: rs) :=
  H.conv fun f o ⟨m, h1, h2, h3⟩ => by
    obtain ⟨m', p1, p2⟩ := perm_lift (l := m) h h1
    exact ⟨m', p2, fun x hx => h2 x (p1.mem_iff.1 hx), (p1.pairwise_iff (fun h => h.symm)).2 h3⟩
theorem Holds.starAt {w : World} {l : List Res} {i : Nat} (hi : i < l.length) (H : Holds w0 w (.own (Star l) :: rs)) : Holds w0 w (l[i] :: .own (Star (l.eraseIdx i)) :: rs) :=
  (H.starPerm (erase_perm l i hi).symm).starOut
theorem Holds.starBack {w : World} {l : List Res} {i : Nat} {r : Res} (hi : i < l.length) (H : Holds w0 w (r :: .own (Star (l.eraseIdx i)) :: rs)) : Holds w0 w (.own (Star (l.set i r)) :: rs) :=
  H.starIn.starPerm (set_perm l i hi r).symm
end
end Go.Proofs.YtmceappjldcbmaaGreatDoor
/-
  THE KIT OF MY OWN, THIRTEENTH PART: slices held against nil; results that lie in a cell; rows of slices; make. Over any program; no condition.
-/
namespace Go.Proofs.YtmceappjldcbmaaGreatDoor
open Go.RowKit Go.Sort
set_option linter.unusedVariables false
set_option linter.unusedSimpArgs false

section
variable {P : Program} {ops : Array Oper} {Q : Exit → Act → World → Prop} {K : Act → Prop} {n : Nat} {ds : List Deferred} {w0 : World} {rest : List Oper} {fr : Slots} {rs rs' : List Res} {ty t tx t' : TypeId} {x y : Operand} {pos : String} {after : Array Edge}

theorem equal_nil {e m c : Nat} {ao : Option Addr} (hU : Und P t (.slice e)) (w : World) : (Op.equal t (.slice ao m c) (.slice none 0 0)).run P w = .ok (decide (ao = none)) w := by
  unfold Op.equal
  rw [show Op.maxDepth = 9999 + 1 from rfl]
  unfold Op.equalIn
  simp only [Sem.run_bind, run_underlying hU.und, Result.andThen_ok]
  cases ao <;> simp
theorem Ex.eqNil {e m c : Nat} {ao : Option Addr} [hU : Und P t (.slice e)] (hx : ev fr x = some (.slice ao m c)) (hy : ev fr y = some (.slice none 0 0)) : Ex P n w0 rs fr (.binOp .eql t x y t') ty (.bool (decide (ao = none))) :=
  fun _ w _ _ _ _ hf _ => by
    have := equal_nil (ao := ao) (m := m) (c := c) hU w
    simp [execOp, hf.ev hx, hf.ev hy, binOp, eqGuard, this]
theorem GC.nilLen {cd : Code} {m c size : Nat} {xs : List Value} [h : SlAt rs none m c size xs] (k : m = 0 → c = 0 → xs = [] → @GC P cd Q n ds w0 fr rs) : @GC P cd Q n ds w0 fr rs := fun a w hf hw => by
  have hs := h.get hw
  have h1 := hs.nil rfl
  have h2 := hs.le
  have h3 := hs.len
  have hm : m = 0 := by omega
  exact k hm h1 (List.length_eq_zero_iff.1 (by rw [h3, hm]; omega)) a w hf hw

/-- a result, in a slot or in a cell -/
def resF (tmps : Array Value) : ResultVar → Sem Value
  | .tmp t => pure (tmps.getD t undef)
  | .cell b t => do loadVar t (← asAddr (tmps.getD b undef))
theorem results_eq (fn : Func) (tmps : Array Value) : results fn tmps = (do let vs ← fn.results.mapM (resF tmps); pure (if h : vs.size = 1 then vs[0] else .tuple vs)) := rfl
def RV (P : Program) (n : Nat) (w0 : World) (fr : Slots) (rs : List Res) (r : ResultVar) (v : Value) : Prop :=
  ∀ a w, FrE a n fr → Holds w0 w rs → (resF a.tmps r).run P w = .ok v w
theorem RV.tmp {t : Nat} {v : Value} (h : look fr t = some v) : RV P n w0 fr rs (.tmp t) v := fun a w hf hw => by
  have e : a.tmps.getD t undef = v := hf.ev (x := .tmp t) h
  simp only [resF, e, Sem.run_pure]
theorem RV.cell {b c T T' size bytes : Nat} {zs cs : List Value} [hA : Agg P T] [hI : Inf P T size bytes zs] (h : look fr c = some (.pointer (some (badr b 0)))) [hB : BlkAt rs b T' cs] (hl : cs.length = size) : RV P n w0 fr rs (.cell c T) (.agg cs.toArray) := fun a w hf hw => by
  have e : a.tmps.getD c undef = .pointer (some (badr b 0)) := hf.ev (x := .tmp c) h
  have := loadAgg_run hA hI (p := badr b 0) (w := w) (cs := cs) hl (fun i v hv => by rw [badr_add]; exact blk_cell hB hw (by simpa using hv))
  simp [Instr.loadAt, Instr.sureAddr] at this
  simp only [resF, e]
  simp [asAddr, this]
theorem RV.cell1 {b c T T' : Nat} {v : Value} [hS : Sca P T] (h : look fr c = some (.pointer (some (badr b 0)))) [hB : BlkAt rs b T' [v]] : RV P n w0 fr rs (.cell c T) v := fun a w hf hw => by
  have e : a.tmps.getD c undef = .pointer (some (badr b 0)) := hf.ev (x := .tmp c) h
  have := load_run (P := P) hS (p := badr b 0) (w := w) (blk_cell hB hw (j := 0) rfl)
  simp [Instr.loadAt, Instr.sureAddr] at this
  simp only [resF, e]
  simp [asAddr, this]
theorem resR1 {fn : Func} {r : ResultVar} {v : Value} (h : fn.results = #[r]) (hv : RV P n w0 fr rs r v) : ∀ a w, Fr ds a n fr → Holds w0 w rs → (results fn a.tmps).run P w = .ok v w := fun a w hf hw => by
  have := hv a w hf hw
  rw [results_eq, h]
  simp [this]
theorem resR2 {fn : Func} {r r' : ResultVar} {v v' : Value} (h : fn.results = #[r, r']) (hv : RV P n w0 fr rs r v) (hv' : RV P n w0 fr rs r' v') : ∀ a w, Fr ds a n fr → Holds w0 w rs → (results fn a.tmps).run P w = .ok (.tuple #[v, v']) w := fun a w hf hw => by
  have h1 := hv a w hf hw
  have h2 := hv' a w hf hw
  rw [results_eq, h]
  simp [h1, h2]
theorem resR3 {fn : Func} {r r' r'' : ResultVar} {v v' v'' : Value} (h : fn.results = #[r, r', r'']) (hv : RV P n w0 fr rs r v) (hv' : RV P n w0 fr rs r' v') (hv'' : RV P n w0 fr rs r'' v'') : ∀ a w, Fr ds a n fr → Holds w0 w rs → (results fn a.tmps).run P w = .ok (.tuple #[v, v', v'']) w := fun a w hf hw => by
  have h1 := hv a w hf hw
  have h2 := hv' a w hf hw
  have h3 := hv'' a w hf hw
  rw [results_eq, h]
  simp [h1, h2, h3]

/-- a slice as a datum: its address, length, capacity and its data -/
structure SlD (α : Type) where
  ao : Option Addr
  n : Nat
  c : Nat
  l : List α
instance {α : Type} : Inhabited (SlD α) := ⟨⟨none, 0, 0, []⟩⟩
def eS {α : Type} (x : SlD α) : List Value := [.slice x.ao x.n x.c]
instance {α : Type} : Enc (eS (α := α)) 1 := ⟨fun _ => rfl, fun x u hu => by simp [eS] at hu; subst hu; rfl⟩
/-- all of them may be read -/
def Rd {α : Type} (enc : α → List Value) (s : Nat) (l : List (SlD α)) : Pers where
  sat f := ∀ x ∈ l, slIn f x.ao x.n x.c s (flat enc x.l)
  mono := fun hf h x hx => slIn.mono hf (h x hx)
theorem Holds.rdAt {w : World} {α : Type} [Inhabited α] {enc : α → List Value} {s : Nat} {l : List (SlD α)} (H : Holds w0 w rs) (hm : Res.per (Rd enc s l) ∈ rs) (k : Nat) (hk : k < l.length) :
    Holds w0 w (.sl (l.getD k default).ao (l.getD k default).n (l.getD k default).c s (flat enc (l.getD k default).l) :: rs) :=
  H.derive hm _ fun f o o' hs => hs _ (by rw [List.getD_eq_getElem?_getD, List.getElem?_eq_getElem hk]; exact List.getElem_mem hk)
theorem Holds.rdNil {w : World} {α : Type} (enc : α → List Value) (s : Nat) (H : Holds w0 w rs) : Holds w0 w (.per (Rd enc s ([] : List (SlD α))) :: rs) :=
  H.add rfl rfl rfl (Nat.le_refl _) (fun _ _ => rfl) Hp.nil (fun k o e => by cases e) (fun _ _ => rfl) fun f _ x hx => by simp at hx
theorem Holds.rdSnoc {w : World} {α : Type} {enc : α → List Value} {s : Nat} {l : List (SlD α)} {x : SlD α} (H : Holds w0 w (.sl x.ao x.n x.c s (flat enc x.l) :: .per (Rd enc s l) :: rs)) : Holds w0 w (.per (Rd enc s (l ++ [x])) :: rs) :=
  H.join fun f a b ha hb _ y hy => by
    rcases List.mem_append.1 hy with h | h
    · exact hb y h
    · simp at h; subst h; exact ha

/-- make -/
theorem flat_rep {α : Type} (enc : α → List Value) (z : α) : ∀ m : Nat, flat enc (List.replicate m z) = zrep (enc z) m
  | 0 => rfl
  | m + 1 => by
    show enc z ++ flat enc (List.replicate m z) = enc z ++ zrep (enc z) m
    rw [flat_rep enc z m]
theorem zrep_one {v : Value} (h1 : v.oneCell' = true) : ∀ m, ∀ u ∈ zrep [v] m, u.oneCell' = true
  | 0, u, hu => by simp [zrep] at hu
  | m + 1, u, hu => by
    rcases List.mem_append.1 hu with h | h
    · simp at h; subst h; exact h1
    · exact zrep_one h1 m u h
theorem G.make {d e bytes m : Nat} {v : Value} {k k' : IntKind} [hU : Und P t (.slice e)] [hI : Inf P e 1 bytes [v]] (hx : ev fr x = some (.int k (m : Int))) (hy : ev fr y = some (.int k' (m : Int))) (hb : bytes * m ≤ 281474976710656 ∧ m ≤ 1000000000000) (h1 : v.oneCell' = true) (hd : Nat.blt d n = true)
    (kk : ∀ ao, @G P ops Q n ds w0 rest ((d, .slice ao m m) :: fr) (.vec e 1 ao m m (zrep [v] m) :: rs)) : @G P ops Q n ds w0 (⟨some d, .makeSlice t x y, ty, pos, after, none⟩ :: rest) fr rs := by
  obtain ⟨i, z, g1, g2, g3, g4, g5⟩ := hI.get
  have hz1 : z.cells = #[v] := by rw [← Array.toList_inj]; simpa using g3
  have hz : madeCells #[v] m = (zrep [v] m).toArray := by
    have := zrep_eq [v] (by simp) m
    simp only [List.length_cons, List.length_nil, Nat.zero_add, Nat.mul_one] at this
    exact this
  have hlen : (zrep [v] m).length = m := by
    have := congrArg Array.size hz
    rw [size_madeCells] at this
    simpa using this.symm
  refine G.act hd fun a w pos after hf hw => ?_
  have hinfo : (P.info? e).map (fun i => (i.zero, i.size, i.bytes)) = some (some z, 1, bytes) := by rw [g1]; simp [g2, g4, g5]
  have hrun := run_make (P := P) w t e i z hU.und g1 g2 k k' m m (by omega) (Int.le_refl _) (by
    have h : ((i.bytes * m : Nat) : Int) ≤ 281474976710656 := by rw [g5]; omega
    rwa [Int.natCast_mul] at h) (by omega)
  simp only [Int.toNat_natCast, g4, Nat.mul_one, hz1, hz] at hrun
  refine ⟨_, _, ?_, _, hw.allocRow (zrep [v] m) e m 1 (by omega) (by unfold maxLen; omega) ?_, kk _⟩
  · simp [execOp, hf.ev hx, hf.ev hy, hrun]
  · exact zrep_one h1 m
end
end Go.Proofs.YtmceappjldcbmaaGreatDoor
/-
  THE KIT OF MY OWN, FOURTEENTH PART: rows of slices joined; quotients of numbers below zero. Over any program; no condition.
-/
namespace Go.Proofs.YtmceappjldcbmaaGreatDoor
open Go.RowKit Go.Sort
set_option linter.unusedVariables false
set_option linter.unusedSimpArgs false

section
variable {P : Program} {ops : Array Oper} {Q : Exit → Act → World → Prop} {K : Act → Prop} {n : Nat} {ds : List Deferred} {w0 : World} {rest : List Oper} {fr : Slots} {rs rs' : List Res} {ty t tx t' : TypeId} {x y : Operand} {pos : String} {after : Array Edge}

end
end Go.Proofs.YtmceappjldcbmaaGreatDoor
/-
  THE KIT OF MY OWN, FIFTEENTH PART: cap; append of a make onto nil. Over any program; no condition.
-/
namespace Go.Proofs.YtmceappjldcbmaaGreatDoor
open Go.RowKit Go.Sort
set_option linter.unusedVariables false
set_option linter.unusedSimpArgs false

section
variable {P : Program} {ops : Array Oper} {Q : Exit → Act → World → Prop} {K : Act → Prop} {n : Nat} {ds : List Deferred} {w0 : World} {rest : List Oper} {fr : Slots} {rs rs' : List Res} {ty t tx t' : TypeId} {x y : Operand} {pos : String} {after : Array Edge}

theorem zrep_len (zs : List Value) : ∀ m, (zrep zs m).length = m * zs.length
  | 0 => by simp [zrep]
  | m + 1 => by show (zs ++ zrep zs m).length = _; rw [List.length_append, zrep_len zs m, Nat.add_mul]; omega
theorem zrep_one' {zs : List Value} (h1 : ∀ v ∈ zs, v.oneCell' = true) : ∀ m, ∀ u ∈ zrep zs m, u.oneCell' = true
  | 0, u, hu => by simp [zrep] at hu
  | m + 1, u, hu => by
    rcases List.mem_append.1 hu with h | h
    · exact h1 u h
    · exact zrep_one' h1 m u h
theorem G.appMake0 {d e size bytes m : Nat} {zs : List Value} {k kn : IntKind} [hU : Und P t (.slice e)] [hI : Inf P e size bytes zs] [hV : Und P tx (.int kn)] (hx : ev fr x = some (.slice none 0 0)) (hy : ev fr y = some (.int k (m : Int))) (h0 : 0 < m) (hz : zs.length = size) (hs : Nat.blt 0 size = true) (hb : m * bytes ≤ 140737488355328 ∧ m ≤ 1000000000000) (h1 : zs.all (·.oneCell') = true) (hd : Nat.blt d n = true)
    (kk : ∀ ao c, @G P ops Q n ds w0 rest ((d, .slice ao m c) :: fr) (.vec e size ao m c (zrep zs m) :: rs)) : @G P ops Q n ds w0 (⟨some d, .call ⟨.builtin .append, #[x, y], #[t, tx]⟩, ty, pos, after, none⟩ :: rest) fr rs := by
  obtain ⟨i, z, g1, g2, g3, g4, g5⟩ := hI.get
  have hs' : 0 < size := by simpa [Nat.blt_eq] using hs
  have hzc : z.cells = zs.toArray := by rw [← Array.toList_inj]; simpa using g3
  have hze : ∀ q, Builtin.zeroCells z.cells q = (zrep zs q).toArray := fun q => by
    have := zrep_eq zs (by omega) q
    rw [hzc]
    unfold Builtin.zeroCells
    simpa using this
  have hone := List.all_eq_true.1 h1
  refine G.act hd fun a w pos after hf hw => ?_
  have hr := Lib.run_append_nil_zeros (P := P) w t tx ty e i z k kn hU.und hV.und g1 g2 m h0 (by omega) (by omega) (by rw [g5]; omega)
  have hge := grownCap_ge w m 0 e
  have hcm : grownCap w m 0 e ≤ maxLen := grownCap_le_maxLen w m 0 e (by unfold maxLen; omega)
  refine ⟨_, _, append_run hf.toFrE hx hy hr, _, ?_, kk _ (grownCap w m 0 e)⟩
  refine Holds.add (w := w) hw rfl rfl rfl (by simp) (fun k hk => Below.heap_alloc w.drew _ k hk) (Hp.one w.heap.size _) (Hp.one_le (heap_alloc_new w.drew _)) (fun k hk => Hp.one_ne _ (by omega)) (fun f _ => ?_)
  have hlen : (zrep zs m).length = m * size := by rw [zrep_len, hz]
  refine ⟨hlen, zrep_one' hone m, .inr ⟨w.heap.size, 0, _, rfl, Hp.one_self _ _, hge, hcm, ?_, ?_⟩⟩
  · rw [hze, hze]
    simp only [Nat.zero_add, Array.size_append, List.size_toArray, zrep_len, hz, ← Nat.add_mul]
    exact Nat.mul_le_mul_right _ (by omega)
  · rw [hze, hze]
    simp only [List.drop_zero, Array.toList_append]
    rw [← hlen]
    exact List.take_left
end

end Go.Proofs.YtmceappjldcbmaaGreatDoor
/-
  THE KIT OF MY OWN, SIXTEENTH PART: maps that the call makes; arrays of bytes as keys. Over any program; no condition.
-/
namespace Go.Proofs.YtmceappjldcbmaaGreatDoor
open Go.RowKit Go.Sort
set_option linter.unusedVariables false
set_option linter.unusedSimpArgs false

/-- a map's entries: keys and values, the n-th one born at n -/
def ents {κ : Type} (ek : κ → Value) : List (κ × Value) → Nat → List MapEntry
  | [], _ => []
  | e :: t, i => ⟨ek e.1, e.2, i⟩ :: ents ek t (i + 1)
def lookI {κ : Type} [DecidableEq κ] (k : κ) : List (κ × Value) → Nat → Option (Nat × Value)
  | [], _ => none
  | e :: t, i => if k = e.1 then some (i, e.2) else lookI k t (i + 1)
class KeyK (P : Program) (kt : TypeId) {κ : Type} [DecidableEq κ] (ek : κ → Value) : Prop where
  chk : ∀ em k w, (Instr.checkKey em 10000 kt (ek k)).run P w = .ok () w
  same : ∀ k, Instr.sameBits 10000 (ek k) (ek k) = true
  find : ∀ k (L : List (κ × Value)) w, (Instr.findKey kt (ek k) (ents ek L 0)).run P w = .ok (lookI k L 0) w
theorem lookI_some {κ : Type} [DecidableEq κ] {k : κ} : ∀ {L : List (κ × Value)} {i j : Nat} {v : Value}, lookI k L i = some (j, v) → i ≤ j ∧ L[j - i]? = some (k, v)
  | e :: t, i, j, v, h => by
    unfold lookI at h
    split at h
    · rename_i hk
      simp only [Option.some.injEq, Prod.mk.injEq] at h
      obtain ⟨rfl, rfl⟩ := h
      simp [hk]
    · obtain ⟨h1, h2⟩ := lookI_some h
      refine ⟨by omega, ?_⟩
      rw [show j - i = (j - (i + 1)) + 1 by omega]; simpa using h2

/-- a map's block -/
def MapR {κ : Type} (ek : κ → Value) (b : Nat) (L : List (κ × Value)) : Own2 where
  sat _ o := o b = some (.map (ents ek L 0).toArray L.length)
  mono := fun _ ho h => ho _ _ h
section
variable {P : Program} {ops : Array Oper} {Q : Exit → Act → World → Prop} {K : Act → Prop} {n : Nat} {ds : List Deferred} {w0 : World} {rest : List Oper} {fr : Slots} {rs rs' : List Res} {ty t tx t' : TypeId} {x y z : Operand} {pos : String} {after : Array Edge}
variable {κ : Type} {ek : κ → Value}

theorem G.makeMap {d : Nat} (ek : κ → Value) (hd : Nat.blt d n = true) (k : ∀ b, @G P ops Q n ds w0 rest ((d, .map (some b)) :: fr) (.own (MapR ek b []) :: rs)) :
    @G P ops Q n ds w0 (⟨some d, .makeMap t none, ty, pos, after, none⟩ :: rest) fr rs := by
  refine G.act hd fun a w pos after hf hw => ⟨.map (some w.heap.size), w.alloc (.map #[] 0), ?_, _, ?_, k w.heap.size⟩
  · simp [execOp, Instr.makeMap]
  · exact hw.add rfl rfl rfl (by simp) (fun k hk => Below.heap_alloc _ _ _ hk) (Hp.one w.heap.size (.map #[] 0)) (Hp.one_le (heap_alloc_new w _)) (fun k hk => Hp.one_ne _ (by omega)) (fun f _ => Hp.one_self _ _)
class MapAt (rs : List Res) (b : Nat) {κ : outParam Type} (ek : outParam (κ → Value)) (L : outParam (List (κ × Value))) (f : outParam (List (κ × Value) → List Res)) : Prop where
  upd : ∀ L', Upd rs (.own (MapR ek b L)) (.own (MapR ek b L')) (f L')
instance MapAt.here {b : Nat} {κ : Type} {ek : κ → Value} {L : List (κ × Value)} {rs : List Res} : MapAt (.own (MapR ek b L) :: rs) b ek L (fun L' => .own (MapR ek b L') :: rs) := ⟨fun _ => .here⟩
instance (priority := low) MapAt.there {b : Nat} {κ : Type} {ek : κ → Value} {L : List (κ × Value)} {r : Res} {rs : List Res} {f : List (κ × Value) → List Res} [h : MapAt rs b ek L f] : MapAt (r :: rs) b ek L (fun L' => r :: f L') := ⟨fun a => .there (h.upd a)⟩
/-- a type's zero value -/
class Zer (P : Program) (t : TypeId) (zv : outParam Value) : Prop where
  zer : (P.info? t).map (·.zero) = some (some zv)
theorem zeroValue_run {t : TypeId} {zv : Value} (h : Zer P t zv) (w : World) : (zeroValue t).run P w = .ok zv w := by
  have := h.zer
  cases e : P.info? t with
  | none => rw [e] at this; simp at this
  | some i =>
    rw [e] at this
    simp only [Option.map_some, Option.some.injEq] at this
    simp [zeroValue, typeInfo, e, this]
theorem getObj_run {w : World} {b : Nat} {es : Array MapEntry} {c : Nat} (hb : w.heap[b]? = some (.map es c)) : (getObj b).run P w = .ok (.map es c) w := by simp [getObj, Sem.run, hb]
theorem setObj_run {w : World} {b : Nat} {es : Array MapEntry} {c : Nat} (o : Obj) (hb : w.heap[b]? = some (.map es c)) : (setObj b o).run P w = .ok () { w with heap := w.heap.setIfInBounds b o } := by simp [setObj, Sem.run, hb]
end
/-- three bytes as a key -/
abbrev K3 := UInt8 × UInt8 × UInt8
def eK (x : K3) : Value := .agg (flat eB [x.1, x.2.1, x.2.2]).toArray
end Go.Proofs.YtmceappjldcbmaaGreatDoor
/-
  THE KIT OF MY OWN, SEVENTEENTH PART: a slice as an array's address; numbers as data. Over any program; no condition.
-/
namespace Go.Proofs.YtmceappjldcbmaaGreatDoor
open Go.RowKit Go.Sort
set_option linter.unusedVariables false
set_option linter.unusedSimpArgs false

section
variable {P : Program} {ops : Array Oper} {Q : Exit → Act → World → Prop} {K : Act → Prop} {n : Nat} {ds : List Deferred} {w0 : World} {rest : List Oper} {fr : Slots} {rs rs' : List Res} {ty t tx t' : TypeId} {x y z : Operand} {pos : String} {after : Array Edge}

end
/-- a number that is not below zero -/
def eN (x : Nat) : List Value := [.int .i64 (x : Int)]
instance : Enc eN 1 := ⟨fun _ => rfl, fun x u hu => by simp [eN] at hu; subst hu; rfl⟩
end Go.Proofs.YtmceappjldcbmaaGreatDoor
/-
  THE KIT OF MY OWN, TWENTIETH PART: variables that are arrays, as rows. Over any program; no condition.
-/
namespace Go.Proofs.YtmceappjldcbmaaGreatDoor
open Go.RowKit Go.Sort
set_option linter.unusedVariables false
set_option linter.unusedSimpArgs false

section
variable {P : Program} {ops : Array Oper} {Q : Exit → Act → World → Prop} {K : Act → Prop} {n : Nat} {ds : List Deferred} {w0 : World} {rest : List Oper} {fr : Slots} {rs rs' : List Res} {ty t tx t' : TypeId} {x y z : Operand} {pos : String} {after : Array Edge}

theorem Ex.indexArr {m e size bytes k : Nat} {KK : IntKind} {zs : List Value} {a0 : Addr} [hU : Und P t (.array m e)] [hI : Inf P e size bytes zs] (hx : ev fr x = some (.pointer (some a0))) (hy : ev fr y = some (.int KK (k : Int))) (hk : k < m) : Ex P n w0 rs fr (.indexAddr t x y) ty (.pointer (some (eadr (some a0) (k * size)))) :=
  fun _ w _ _ _ _ hf hw => by
    have h2 : (0 : Int) ≤ (k : Int) := by omega
    have h3 : (k : Int) < (m : Int) := by omega
    simp [execOp, hf.ev hx, hf.ev hy, Instr.indexAt, asIntOf, run_underlying hU.und, Sem.run_bind, sizeOf_run hI, h2, eadr, Instr.sureAddr]
    intro hh
    omega
class NoEqG (P : Program) (t : TypeId) : Prop where
  guard : P.eqGuardType P.depth t = false
end
end Go.Proofs.YtmceappjldcbmaaGreatDoor
/-
  THE KIT OF MY OWN, TWENTY-FOURTH PART: ranges over functions: the loop's record, a round (its body walked in a round's frame), the iterator's call of yield, the statement itself, a function that leaves with a mark. Over any program; no condition.
-/
namespace Go.Proofs.YtmceappjldcbmaaGreatDoor
open Go.RowKit Go.Sort
set_option linter.unusedVariables false
set_option linter.unusedSimpArgs false

def LoopR (l : Nat) (r : Loop) : Own2 where
  sat _ o := o l = some (.loop r)
  mono := fun _ ho h => ho _ _ h
def DefR (d : Nat) : Own2 where
  sat _ o := o d = some (.deferred (some []))
  mono := fun _ ho h => ho _ _ h
def Any2 : Own2 where
  sat _ _ := True
  mono := fun _ _ h => h
section
variable {P : Program} {w0 w : World} {rs : List Res} {l D : Nat} {r r' : Loop}
theorem loop_blk (H : Holds w0 w (.own (LoopR l r) :: rs)) : w.heap[l]? = some (.loop r) := H.at (List.mem_cons_self ..)
theorem def_blk (H : Holds w0 w (.own (DefR D) :: rs)) : w.heap[D]? = some (.deferred (some [])) := H.at (List.mem_cons_self ..)
theorem Holds.setLoop (H : Holds w0 w (.own (LoopR l r) :: rs)) : Holds w0 { w with heap := w.heap.setIfInBounds l (.loop r') } (.own (LoopR l r') :: rs) := by
  refine H.step rfl rfl rfl (by simp) fun f o hr hf ho => ?_
  have hr' : o l = some (.loop r) := hr
  have hb : w.heap[l]? = some (.loop r) := ho _ _ hr'
  have hlt := (Array.getElem?_eq_some_iff.1 hb).1
  refine ⟨Hp.one l (.loop r'), Hp.one_self _ _, Hp.one_le ?_, fun i hi hno => ?_⟩
  · show (w.heap.setIfInBounds l _)[l]? = _
    simp [hlt]
  · have hib : i ≠ l := fun e => by rw [e, hr'] at hno; cases hno
    refine ⟨Hp.one_ne _ hib, ?_⟩
    show (w.heap.setIfInBounds l _)[i]? = w.heap[i]?
    rw [Array.getElem?_setIfInBounds_ne (Ne.symm hib)]
theorem Holds.shutDef (H : Holds w0 w (.own (DefR D) :: rs)) : Holds w0 { w with heap := w.heap.setIfInBounds D (.deferred none) } rs := by
  refine Holds.tail (r := .own Any2) (H.step rfl rfl rfl (by simp) fun f o hr hf ho => ?_)
  have hr' : o D = some (.deferred (some [])) := hr
  refine ⟨Hp.nil, trivial, fun k o e => (by cases e), fun i hi hno => ?_⟩
  have hib : i ≠ D := fun e => by rw [e, hr'] at hno; cases hno
  refine ⟨rfl, ?_⟩
  show (w.heap.setIfInBounds D _)[i]? = w.heap[i]?
  rw [Array.getElem?_setIfInBounds_ne (Ne.symm hib)]
theorem getLoop_run (h : w.heap[l]? = some (.loop r)) : (Instr.getLoop l).run P w = .ok r w := by simp [Instr.getLoop, getObj, Sem.run, h]
theorem setL_run {o' : Obj} (h : w.heap[l]? = some (.loop r)) : (setObj l o').run P w = .ok () { w with heap := w.heap.setIfInBounds l o' } := by simp [setObj, Sem.run, h]
theorem begin_run (h : w.heap[l]? = some (.loop r)) (hs : r.state = .ready) : (Instr.beginRound l).run P w = .ok () { w with heap := w.heap.setIfInBounds l (.loop { r with state := .busy }) } := by
  simp [Instr.beginRound, Sem.run_bind, getLoop_run h, setL_run h, hs]
theorem end_run (h : w.heap[l]? = some (.loop r)) : (Instr.endRound l none).run P w = .ok (.bool true) { w with heap := w.heap.setIfInBounds l (.loop { r with state := .ready, pending := none }) } := by
  simp [Instr.endRound, Sem.run_bind, getLoop_run h, setL_run h]
theorem endLoop_run (h : w.heap[l]? = some (.loop r)) (hs : r.state = .ready) : (Instr.endLoop l).run P w = .ok r.pending { w with heap := w.heap.setIfInBounds l (.loop { r with state := .exhausted }) } := by
  simp [Instr.endLoop, Sem.run_bind, getLoop_run h, setL_run h, hs]
theorem take_run (h : w.heap[D]? = some (.deferred (some []))) : (Instr.takeDeferred D).run P w = .ok [] { w with heap := w.heap.setIfInBounds D (.deferred none) } := by
  simp [Instr.takeDeferred, Sem.run_bind, getObj, setObj, Sem.run, h]
end

/-! lists of operations, walked in whatever frame -/
def noDef (l : List Oper) : Bool := l.all fun o => match o.op with | .defer _ => false | _ => true
theorem noDef_cons {o : Oper} {l : List Oper} (h : noDef (o :: l) = true) : (∀ c, o.op ≠ .defer c) ∧ noDef l = true := by
  simp only [noDef, List.all_cons, Bool.and_eq_true] at h
  exact ⟨fun c e => by rw [e] at h; exact absurd h.1 Bool.false_ne_true, h.2⟩
/-- what follows a list of operations that ends as it should -/
def Nrm (K : Act → World → Prop) : Exit → Act → World → Prop := fun e a w => e = .normal ∧ K a w
/-- the plain frame, or a round's -/
def fen : Option Nat → Fence
  | none => Fence.wide
  | some l => Fence.wide.inRound l
theorem fen_calls {ro : Option Nat} {k : Nat} {P : Program} {f : FuncId} {args : Array Value} {w : World} {R : Ending → World → Prop} (h : Calls P f args w R) : CallsIn (fen ro) k P f args w R := by
  cases ro with
  | none => exact callsIn_wide.2 h
  | some l => exact CallsIn.inRound l (callsIn_wide.2 h)
theorem fen_rows {ro : Option Nat} {k : Nat} {P : Program} {row : String} {args : Array Value} {w : World} {R : Value → World → Prop} (h : Rows P row args w R) : RowsIn (fen ro) k P row args w R := by
  have h' : RowsIn Fence.wide k P row args w R := fun c cs _ => by
    obtain ⟨v, w', r, s⟩ := h c cs
    exact ⟨v, w', r, stepsIn_wide.2 s⟩
  cases ro with
  | none => exact h'
  | some l => exact h'
theorem fen_fn (ro : Option Nat) (f : FuncId) : (fen ro).fn f := by
  cases ro <;> exact trivial
theorem fen_depth (ro : Option Nat) : (fen ro).depth = none := by
  cases ro <;> rfl
theorem fen_sem {ro : Option Nat} {ρ : Operand → Value} {o : Oper} (h : ∀ c, o.op ≠ .defer c) : Oper.semAt (fen ro).round ρ o = execOp ρ o := by
  cases ro with
  | none => rfl
  | some l => exact Oper.semAt_some l ρ o h
theorem list_in {ro : Option Nat} {P : Program} {ops : Array Oper} {Q : Exit → Act → World → Prop} {l2 : List Oper} : ∀ {l1 : List Oper} {a : Act} {w : World}, noDef l1 = true →
    wpList P ops (Nrm (wpListIn (fen ro) 0 P ops Q l2)) l1 a w → wpListIn (fen ro) 0 P ops Q (l1 ++ l2) a w := by
  intro l1
  induction l1 with
  | nil => exact fun _ h => h.2
  | cons o rest ih =>
    intro a w hd h
    obtain ⟨hd1, hd2⟩ := noDef_cons hd
    have hlo : ¬ LetsOut (Nrm (wpListIn (fen ro) 0 P ops Q l2)) := fun ⟨_, _, h, _⟩ => nomatch h
    rw [List.cons_append]
    unfold wpList at h
    unfold wpListIn
    by_cases hw : Region.wanted o (yielded ops a.tmps) = true
    · rw [if_pos hw] at h ⊢
      rcases h with h | ⟨_, h⟩
      · refine ⟨fun f _ => fen_fn ro f, ?_⟩
        rw [fen_sem hd1]
        unfold Oper.wp at h
        cases hr : (execOp a.eval o).run P w with
        | ok nx w' =>
          rw [hr] at h
          cases nx with
          | value v => exact ih hd2 h
          | skip => exact ih hd2 h
          | defer d => exact ih hd2 h
          | enter f args =>
            refine ⟨fun k => absurd k (by rw [fen_depth]; decide), fen_calls (Calls.mono h ?_)⟩
            intro e w'' he
            cases e with
            | returned v => exact ih hd2 he
            | panicked c => exact nomatch he.1
            | outgrown => exact absurd he hlo
          | row row args =>
            refine ⟨fun k => absurd k (by rw [fen_depth]; decide), fen_rows ?_⟩
            intro c cs
            obtain ⟨v, w'', r, s⟩ := h c cs
            exact ⟨v, w'', ih hd2 r, s⟩
          | _ => exact h.elim
        | halt x w' =>
          rw [hr] at h
          cases x with
          | panic v => exact nomatch h.1
          | _ => exact h.elim
      · exact absurd h hlo
    · have hw' : Region.wanted o (yielded ops a.tmps) = false := by simpa using hw
      rw [if_neg (by rw [hw']; exact fun h => nomatch h)] at h ⊢
      exact ⟨fun f _ => fen_fn ro f, ih hd2 h⟩

/-! a round -/
/-- code of a round of the loop l -/
def GRC {l : Nat} {P : Program} (c : Code) {Q : Exit → Act → World → Prop} {n : Nat} {ds : List Deferred} {w0 : World} (fr : Slots) (rs : List Res) : Prop :=
  ∀ a w, Fr ds a n fr → Holds w0 w rs → c.wpIn (Fence.wide.inRound l) 0 P Q a w
section
variable {P : Program} {ops : Array Oper} {Q : Exit → Act → World → Prop} {n : Nat} {ds : List Deferred} {w0 : World} {rest : List Oper} {fr : Slots} {rs rs' : List Res} {l : Nat}
theorem GRC.seq {x y : Code} (h : @GRC l P x (Exit.then (y.wpIn (Fence.wide.inRound l) 0 P Q) Q) n ds w0 fr rs) : @GRC l P (.seq x y) Q n ds w0 fr rs := fun a w hf hw => wpIn_seq (h a w hf hw)
theorem GRC.block {id : Nat} {c : Code} (h : @GRC l P c (Exit.inBlock id Q) n ds w0 fr rs) : @GRC l P (.block id c) Q n ds w0 fr rs := fun a w hf hw => wpIn_block (h a w hf hw)
theorem GRC.skip (h : @GE Q .normal n ds w0 fr rs) : @GRC l P .skip Q n ds w0 fr rs := fun a w hf hw => wpIn_skip (h a w hf hw)
theorem GRC.region {id : Nat} {ls : List Oper} (hd : noDef ls = true) (h : @G P ls.toArray (Nrm (Q .normal)) n ds w0 ls fr rs) : @GRC l P (.region id ls.toArray false) Q n ds w0 fr rs := fun a w hf hw => by
  have h1 := list_in (ro := some l) (P := P) (ops := ls.toArray) (Q := Q) (l2 := []) hd (h a w hf hw)
  rw [List.append_nil] at h1
  exact wpIn_region_lit h1
theorem GRC.cond_dec {c : Operand} {x y : Code} {p : Prop} {_ : Decidable p} (hc : ev fr c = some (.bool (decide p))) (ht : p → @GRC l P x Q n ds w0 fr rs) (hf : ¬p → @GRC l P y Q n ds w0 fr rs) : @GRC l P (.cond c x y) Q n ds w0 fr rs :=
  fun a w hfr hw => wpIn_cond_split (hfr.ev hc) (fun h => ht (of_decide_eq_true h) a w hfr hw) (fun h => hf (of_decide_eq_false h) a w hfr hw)
theorem GRC.cond_bool {c : Operand} {x y : Code} {b : Bool} (hc : ev fr c = some (.bool b)) (ht : b = true → @GRC l P x Q n ds w0 fr rs) (hf : b = false → @GRC l P y Q n ds w0 fr rs) : @GRC l P (.cond c x y) Q n ds w0 fr rs :=
  fun a w hfr hw => wpIn_cond_split (hfr.ev hc) (fun h => ht h a w hfr hw) (fun h => hf h a w hfr hw)
theorem GRC.cond_yes {c : Operand} {x y : Code} {p : Prop} {_ : Decidable p} (hc : ev fr c = some (.bool (decide p))) (hp : p) (ht : @GRC l P x Q n ds w0 fr rs) : @GRC l P (.cond c x y) Q n ds w0 fr rs :=
  .cond_dec hc (fun _ => ht) (fun h => absurd hp h)
theorem GRC.cond_no {c : Operand} {x y : Code} {p : Prop} {_ : Decidable p} (hc : ev fr c = some (.bool (decide p))) (hp : ¬p) (hf : @GRC l P y Q n ds w0 fr rs) : @GRC l P (.cond c x y) Q n ds w0 fr rs :=
  .cond_dec hc (fun h => absurd h hp) (fun _ => hf)
theorem GRC.cond_t {c : Operand} {x y : Code} (hc : ev fr c = some (.bool true)) (k : @GRC l P x Q n ds w0 fr rs) : @GRC l P (.cond c x y) Q n ds w0 fr rs := GRC.cond_bool hc (fun _ => k) (fun h => by cases h)
theorem GE.nrm (h : @GE Q .normal n ds w0 fr rs) : @GE (Nrm (Q .normal)) .normal n ds w0 fr rs := fun a w hf hw => ⟨rfl, h a w hf hw⟩
theorem GE.thenR {y : Code} (h : @GRC l P y Q n ds w0 fr rs) : @GE (Exit.then (y.wpIn (Fence.wide.inRound l) 0 P Q) Q) .normal n ds w0 fr rs := fun a w hf hw => h a w hf hw

/-- a contract of yield: one round of the loop l -/
def YSpec (P : Program) (l : Nat) (args : List Value) (need : List Res) (post : Value → List Res → Prop) : Prop :=
  ∀ w0 rest w, Holds w0 w (need ++ rest) → ∃ fn tmps assign body, (Instr.yield l args.toArray).run P w = .ok (.round l fn tmps assign body) w ∧
    RoundIn Fence.wide 0 P l fn tmps assign body w fun e w' => ∃ v give, post v give ∧ e = .returned v ∧ Holds w0 w' (give ++ rest)
/-- what the end of a round owes -/
def RP (l : Nat) (rec : Loop) (w0 : World) (rest : List Res) (post : List Res → Prop) : Ending → World → Prop :=
  fun e w' => ∃ v give, (v = .bool true ∧ ∃ g, post g ∧ give = .own (LoopR l rec) :: g) ∧ e = .returned v ∧ Holds w0 w' (give ++ rest)
/-- what the assignment to the loop's variables owes -/
def Beg (P : Program) (l : Nat) (body : Code) (R : Ending → World → Prop) : Exit → Act → World → Prop :=
  Exit.then (fun a1 w1 => ∃ w2, (Instr.beginRound l).run P w1 = .ok () w2 ∧ body.wpIn (Fence.wide.inRound l) 0 P (roundPost P l R) a1 w2) (fun _ _ _ => False)
theorem GE.begin {rec : Loop} {body : Code} {R : Ending → World → Prop} {rl : List Res} (hs : rec.state = .ready) (ht : Takes rs [.own (LoopR l rec)] rl) (k : @GRC l P body (roundPost P l R) n ds w0 fr (.own (LoopR l { rec with state := .busy }) :: rl)) :
    @GE (Beg P l body R) .normal n ds w0 fr rs := fun a w hf hw => by
  have h1 : Holds w0 w (.own (LoopR l rec) :: rl) := hw.take ht
  exact ⟨_, begin_run (loop_blk h1) hs, k a _ hf h1.setLoop⟩

/-! the iterator -/
theorem GC.regionY {id : Nat} {ls l1 l3 : List Oper} {yop : Oper} (hl : ls = l1 ++ yop :: l3) (hd : noDef l1 = true) (h : @G P ls.toArray (Nrm (wpListIn Fence.wide 0 P ls.toArray Q (yop :: l3))) n ds w0 l1 fr rs) : @GC P (.region id ls.toArray false) Q n ds w0 fr rs :=
  fun a w hf hw => (wpIn_wide (n := 0)).1 (wpIn_region_lit (by
    have h1 := list_in (ro := none) (P := P) (ops := ls.toArray) (Q := Q) hd (h a w hf hw)
    rwa [← hl] at h1))
def cutAt : Nat → List Oper → Option (List Oper × Oper × List Oper)
  | _, [] => none
  | 0, y :: t => some ([], y, t)
  | k + 1, x :: t => match cutAt k t with
    | some (a, y, b) => some (x :: a, y, b)
    | none => none
theorem cutAt_eq : ∀ (k : Nat) (ls l1 l3 : List Oper) (y : Oper), cutAt k ls = some (l1, y, l3) → ls = l1 ++ y :: l3
  | _, [], _, _, _, h => by simp [cutAt] at h
  | 0, x :: t, l1, l3, y, h => by
    simp only [cutAt, Option.some.injEq, Prod.mk.injEq] at h
    obtain ⟨rfl, rfl, rfl⟩ := h; rfl
  | k + 1, x :: t, l1, l3, y, h => by
    simp only [cutAt] at h
    cases e : cutAt k t with
    | none => rw [e] at h; simp at h
    | some q =>
      obtain ⟨a, y', b⟩ := q
      rw [e] at h
      simp only [Option.some.injEq, Prod.mk.injEq] at h
      obtain ⟨rfl, rfl, rfl⟩ := h
      rw [cutAt_eq k t a b y' e]; rfl
theorem GC.regionYk {id : Nat} {ls l1 l3 : List Oper} {yop : Oper} (k : Nat) (hl : cutAt k ls = some (l1, yop, l3)) (hd : noDef l1 = true) (h : @G P ls.toArray (Nrm (wpListIn Fence.wide 0 P ls.toArray Q (yop :: l3))) n ds w0 l1 fr rs) : @GC P (.region id ls.toArray false) Q n ds w0 fr rs :=
  GC.regionY (cutAt_eq k ls l1 l3 yop hl) hd h
theorem GE.yield {d : Nat} {c : Operand} {xs : List Operand} {ts : Array TypeId} {ty : TypeId} {pos : String} {after : Array Edge} {args : List Value} {need rl : List Res} {post : Value → List Res → Prop} {l3 : List Oper} (S : YSpec P l args need post)
    (hc : ev fr c = some (.func (.yield l) #[] #[])) (hx : evs fr xs = some args) (hd : Nat.blt d n = true) (ht : Takes rs need rl)
    (k : ∀ v give, post v give → ∀ rs', rs' = give ++ rl → @GE (Nrm (wpListIn Fence.wide 0 P ops Q l3)) .normal n ds w0 ((d, v) :: fr) rs') :
    @GE (Nrm (wpListIn Fence.wide 0 P ops Q (⟨some d, .call ⟨.value c, xs.toArray, ts⟩, ty, pos, after, none⟩ :: l3))) .normal n ds w0 fr rs := by
  intro a w hf hw
  refine ⟨rfl, wpListIn_plain rfl fun K hK => ?_⟩
  obtain ⟨fn, tmps, assign, body, hy, hR⟩ := S w0 rl w (hw.take ht)
  have hm := hf.evs hx
  have hc' := hf.ev hc
  have hrun : (execOp a.eval ⟨some d, .call ⟨.value c, xs.toArray, ts⟩, ty, pos, after, none⟩).run P w = .ok (.round l fn tmps assign body) w := by
    have : (execOp a.eval ⟨some d, .call ⟨.value c, xs.toArray, ts⟩, ty, pos, after, none⟩).run P w = (Instr.yield l args.toArray).run P w := by
      subst hm
      simp [execOp, resolve, hc', Deferred.ofValue, invoke, List.map_toArray]
    rw [this, hy]
  refine ⟨fun f _ => trivial, ?_⟩
  show Oper.uponIn _ _ _ _ _ _ _ ((Oper.semAt none _ _).run P w)
  rw [Oper.semAt_none, hrun]
  refine ⟨(fun h => nomatch h), hR.mono ?_⟩
  rintro e w' ⟨v, give, hp, rfl, hh⟩
  exact hK _ _ (k v give hp _ rfl _ w' (hf.put hd v) hh).2
theorem GE.on {l3 : List Oper} (hd : noDef l3 = true) (h : @G P ops (Nrm (Q .normal)) n ds w0 l3 fr rs) : @GE (Nrm (wpListIn Fence.wide 0 P ops Q l3)) .normal n ds w0 fr rs := fun a w hf hw => by
  refine ⟨rfl, ?_⟩
  have h1 := list_in (ro := none) (P := P) (ops := ops) (Q := Q) (l2 := []) hd (h a w hf hw)
  rwa [List.append_nil] at h1

/-! the statement -/
theorem GC.rangeFunc {g : Operand} {ps : Array Tmp} {assign body : Code} {f : FuncId} {caps : List Value} {need rl : List Res} {post : Value → List Res → Prop} [hF : Fun P f] (hg : ev fr g = some (.func (.func f) #[] caps.toArray))
    (S : ∀ l rec, rec.state = .ready → rec.pending = none → rec.params = ps → rec.assign = assign → rec.body = body → Fr [] ⟨rec.tmps, []⟩ n fr → Spec P f (.func (.yield l) #[] #[] :: caps) (.own (LoopR l rec) :: need) (fun v give => ∃ g, post v g ∧ give = .own (LoopR l rec) :: g))
    (ht : Takes rs need rl)
    (k : ∀ D v g, post v g → ∀ rs', rs' = .own (DefR D) :: (g ++ rl) → @GE Q .normal n [⟨.collected D, #[]⟩] w0 fr rs') : @GC P (.rangeFunc g ps assign body) Q n [] w0 fr rs := by
  intro a w hf hw
  refine (wpIn_wide (n := 0)).1 (wpIn_rangeFunc fun fn _ => ?_)
  obtain ⟨fu, h1, h2, h3⟩ := hF.fn
  have h2' : ¬ (fu.name = "runtime.NumGoroutine") := by simpa using h2
  have h3' : fu.body ≠ none := by intro e; rw [e] at h3; simp at h3
  have hg' := hf.ev hg
  let A := w.alloc (.deferred (some []))
  let rec_ : Loop := { state := .ready, pending := none, fn, tmps := a.tmps, params := ps, assign, body, defers := w.heap.size }
  let B := A.alloc (.loop rec_)
  have hA : Holds w0 A (.own (DefR w.heap.size) :: rs) := hw.add rfl rfl rfl (by simp [A]) (fun k hk => Below.heap_alloc _ _ _ hk) (Hp.one w.heap.size (.deferred (some []))) (Hp.one_le (heap_alloc_new w _)) (fun k hk => Hp.one_ne _ (by omega)) (fun f _ => Hp.one_self _ _)
  have hB : Holds w0 B (.own (LoopR A.heap.size rec_) :: .own (DefR w.heap.size) :: rs) := hA.add rfl rfl rfl (by simp [B]) (fun k hk => Below.heap_alloc _ _ _ hk) (Hp.one A.heap.size (.loop rec_)) (Hp.one_le (heap_alloc_new A _)) (fun k hk => Hp.one_ne _ (by omega)) (fun f _ => Hp.one_self _ _)
  refine ⟨A.heap.size, [⟨.collected w.heap.size, #[]⟩], B, ⟨.fn (.func f) caps.toArray, #[.func (.yield A.heap.size) #[] #[]]⟩, B, f, (.func (.yield A.heap.size) #[] #[] :: caps).toArray, B, ?_, ?_, fun _ _ => trivial, ?_, fun h => (nomatch h), callsIn_wide.2 ?_⟩
  · rfl
  · simp only [resolve, rangeCall, hg', Deferred.ofValue]
    have e : (#[] : Array Value) ++ Array.map a.eval #[.const (.func (.yield A.heap.size) #[] #[])] = #[.func (.yield A.heap.size) #[] #[]] := by simp [Act.eval]
    rw [e]; rfl
  · simp [invoke, callFunc, h1, h2', h3']
  · have hfr : Fr [] ⟨rec_.tmps, []⟩ n fr := ⟨⟨hf.size, hf.has⟩, rfl⟩
    have hp : Holds w0 B ((.own (LoopR A.heap.size rec_) :: need) ++ (.own (DefR w.heap.size) :: rl)) := by
      have h5 : Holds w0 B (.own (LoopR A.heap.size rec_) :: .own (DefR w.heap.size) :: (need ++ rl)) := Holds.take' ht [_, _] hB
      exact h5.perm (List.Perm.cons _ (List.perm_middle.symm))
    refine (S A.heap.size rec_ rfl rfl rfl rfl rfl hfr w0 _ B hp).mono ?_
    rintro e w' ⟨v, give, ⟨g, hpost, rfl⟩, rfl, hh⟩
    refine ⟨none, _, endLoop_run (loop_blk hh) rfl, ?_⟩
    have h6 := hh.setLoop (r' := { rec_ with state := .exhausted })
    have h7 := Holds.perm (rs' := .own (DefR w.heap.size) :: (g ++ rl)) h6.tail List.perm_middle
    refine k w.heap.size v g hpost _ rfl _ _ ⟨⟨hf.size, hf.has⟩, ?_⟩ h7
    show _ ++ a.defers = _
    rw [hf.defers]; rfl

/-! a function that leaves with a mark -/
def FPostM (P : Program) (fn : Func) (w0 : World) (rest : List Res) (post : Value → List Res → Prop) : Exit → Act → World → Prop :=
  bodyPostM Fence.wide 0 P fn fun e w' => ∃ v give, post v give ∧ e = .returned v ∧ Holds w0 w' (give ++ rest)
theorem Spec.introM {f : FuncId} {fn : Func} {c : Code} {args : List Value} {need : List Res} {post : Value → List Res → Prop}
    (hf : P.funcs[f]? = some fn) (hb : fn.body = some c) (hn : fn.ntmps = n) (hl : Nat.ble args.length n = true)
    (h : ∀ w0 rest rs, rs = need ++ rest → @GC P c (FPostM P fn w0 rest post) n [] w0 (argSlots args 0) rs) : Spec P f args need post := by
  intro w0 rest w H
  refine (callsIn_wide (n := 0)).1 (callsIn_of_wp_marks hf hb trivial ((wpIn_wide (n := 0)).2 (h w0 rest _ rfl _ _ ⟨⟨?_, fun i v e => ?_⟩, rfl⟩ H)))
  · have := Nat.le_of_ble_eq_true hl
    simp [hn]; omega
  · obtain ⟨_, h2⟩ := look_argSlots args 0 i v e
    simp only [Nat.sub_zero] at h2
    have hlt := (List.getElem?_eq_some_iff.1 h2).1
    rw [Array.getElem?_append_left (by simpa using hlt)]
    simpa using h2
theorem Takes.app : ∀ {l rl : List Res}, Takes (l ++ rl) l rl
  | [], _ => .nil
  | _ :: _, _ => .cons .here Takes.app
theorem Takes.deep {x : Res} : ∀ {rs need rl : List Res}, Takes rs need rl → Takes (x :: rs) need (x :: rl) := by
  intro rs need rl h
  induction h with
  | nil => exact .nil
  | cons h1 h2 ih => exact .cons (.there h1) ih
  | dup hp h1 h2 ih => exact .dup hp (.there h1) ih
theorem Take1.mid : ∀ {l t : List Res} {x : Res}, Take1 (l ++ x :: t) x (l ++ t)
  | [], _, _ => .here
  | _ :: _, _, _ => .there Take1.mid
theorem subs_app {w0 w : World} {give rest rl : List Res} (hs : Subs rest rl) (h : Holds w0 w (give ++ rl)) : Holds w0 w (give ++ rest) := by
  induction hs with
  | refl => exact h
  | @skip x r1 r2 _ ih =>
    have : (give ++ x :: r2).Perm (x :: (give ++ r2)) := List.perm_middle
    exact ih (h.perm this).tail
theorem GE.retM0 {fn : Func} {rest : List Res} {post : Value → List Res → Prop} {e : Exit} {v : Value} {give rl : List Res} (he : e = .ret ∨ e = .normal) (hres : ∀ a w, Fr [] a n fr → Holds w0 w rs → (results fn a.tmps).run P w = .ok v w)
    (hp : post v give) (ht : Takes rs give rl) (hs : Subs rest rl) : @GE (FPostM P fn w0 rest post) e n [] w0 fr rs := by
  intro a w hf hw
  have hh := subs_app hs (hw.take ht)
  have : LeavesInM Fence.wide 0 P fn a.tmps (fun e w' => ∃ v give, post v give ∧ e = .returned v ∧ Holds w0 w' (give ++ rest)) a.defers .returning w := by
    rw [hf.defers]
    exact ⟨v, hres a w hf hw, v, give, hp, rfl, hh⟩
  rcases he with rfl | rfl <;> exact this
theorem GE.retM {fn : Func} {rest : List Res} {post : Value → List Res → Prop} {e : Exit} {v : Value} {give rl rs1 : List Res} {D : Nat} (he : e = .ret ∨ e = .normal) (hD : Takes rs [.own (DefR D)] rs1) (hres : ∀ a w, Fr [⟨.collected D, #[]⟩] a n fr → Holds w0 w rs1 → (results fn a.tmps).run P w = .ok v w)
    (hp : post v give) (ht : Takes rs1 give rl) (hs : Subs rest rl) : @GE (FPostM P fn w0 rest post) e n [⟨.collected D, #[]⟩] w0 fr rs := by
  intro a w hf hw
  have h1 : Holds w0 w (.own (DefR D) :: rs1) := hw.take hD
  have h2 := h1.shutDef
  have hh := subs_app hs (h2.take ht)
  have : LeavesInM Fence.wide 0 P fn a.tmps (fun e w' => ∃ v give, post v give ∧ e = .returned v ∧ Holds w0 w' (give ++ rest)) a.defers .returning w := by
    rw [hf.defers]
    exact ⟨by simp, .inl ⟨D, _, rfl, take_run (def_blk h1), v, hres a _ hf h2, v, give, hp, rfl, hh⟩⟩
  rcases he with rfl | rfl <;> exact this
end
end Go.Proofs.YtmceappjldcbmaaGreatDoor
/-
  THE KIT OF MY OWN, THIRTY-FOURTH PART: ranges over functions whose body may return. Over any program; no condition.
-/
namespace Go.Proofs.YtmceappjldcbmaaGreatDoor
open Go.RowKit Go.Sort
set_option linter.unusedVariables false
set_option linter.unusedSimpArgs false
/-- the loop's record when its body has returned -/
def outOf (rec : Loop) : Loop := { rec with state := .done, pending := some .ret }
section
variable {P : Program} {ops : Array Oper} {Q : Exit → Act → World → Prop} {n : Nat} {ds : List Deferred} {w0 : World} {rest : List Oper} {fr : Slots} {rs rs' : List Res} {l : Nat}
def RPost (l : Nat) (rec : Loop) (post stop : List Res → Prop) (v : Value) (give : List Res) : Prop :=
  (v = .bool true ∧ ∃ g, post g ∧ give = .own (LoopR l rec) :: g) ∨ (v = .bool false ∧ ∃ g, stop g ∧ give = .own (LoopR l (outOf rec)) :: g)
def RP2 (l : Nat) (rec : Loop) (w0 : World) (rest : List Res) (post stop : List Res → Prop) : Ending → World → Prop :=
  fun e w' => ∃ v give, RPost l rec post stop v give ∧ e = .returned v ∧ Holds w0 w' (give ++ rest)
theorem YSpec.one {rec : Loop} {p : Tmp} {u : Value} {need : List Res} {post stop : List Res → Prop} (hps : rec.params = #[p]) (hfr : Fr [] ⟨rec.tmps, []⟩ n fr) (hp : Nat.blt p n = true)
    (h : ∀ w0 rest rs, rs = need ++ rest → @GRC l P rec.assign (Beg P l rec.body (RP2 l rec w0 rest post stop)) n [] w0 ((p, u) :: fr) (.own (LoopR l rec) :: rs)) :
    YSpec P l [u] (.own (LoopR l rec) :: need) (RPost l rec post stop) := by
  intro w0 rest w H
  have hb := loop_blk H
  have hf2 := hfr.put hp u
  refine ⟨rec.fn, rec.tmps.setIfInBounds p u, rec.assign, rec.body, ?_, ?_⟩
  · simp [Instr.yield, Sem.run_bind, getLoop_run hb, hps]
  · exact roundIn_of_wpIn (F := Fence.wide) (n := 0) trivial (h w0 rest _ rfl _ w hf2 H)
theorem hold_subs {w w0 : World} {give rest rl : List Res} (h : Holds w0 w (give ++ rl)) (hsub : Subs rest rl) : Holds w0 w (give ++ rest) := subs_app hsub h
theorem GE.endR2 {rec : Loop} {rest : List Res} {post stop : List Res → Prop} {g rl : List Res} (hs : rec.state = .ready) (hpn : rec.pending = none) (hg : post g) (ht : Takes rs (.own (LoopR l { rec with state := .busy }) :: g) rl) (hsub : Subs rest rl) :
    @GE (roundPost P l (RP2 l rec w0 rest post stop)) .normal n ds w0 fr rs := fun a w hf hw => by
  have h1 := hw.take ht
  have hb := loop_blk h1
  refine ⟨_, _, end_run hb, .bool true, .own (LoopR l rec) :: g, .inl ⟨rfl, g, hg, rfl⟩, rfl, ?_⟩
  have h2 := h1.setLoop (r' := { rec with state := .ready, pending := none })
  have e : ({ rec with state := .ready, pending := none } : Loop) = rec := by cases rec; simp at hs hpn; simp [hs, hpn]
  simp only at h2 ⊢
  rw [e] at h2 ⊢
  exact hold_subs (give := .own (LoopR l rec) :: g) h2 hsub
theorem endRet_run {w : World} {r : Loop} (h : w.heap[l]? = some (.loop r)) : (Instr.endRound l (some .ret)).run P w = .ok (.bool false) { w with heap := w.heap.setIfInBounds l (.loop { r with state := .done, pending := some .ret }) } := by
  simp [Instr.endRound, Sem.run_bind, getLoop_run h, setL_run h]
theorem GE.endRet {rec : Loop} {rest : List Res} {post stop : List Res → Prop} {g rl : List Res} (hg : stop g) (ht : Takes rs (.own (LoopR l { rec with state := .busy }) :: g) rl) (hsub : Subs rest rl) :
    @GE (roundPost P l (RP2 l rec w0 rest post stop)) .ret n ds w0 fr rs := fun a w hf hw => by
  have h1 := hw.take ht
  have hb := loop_blk h1
  refine ⟨_, _, endRet_run hb, .bool false, .own (LoopR l (outOf rec)) :: g, .inr ⟨rfl, g, hg, rfl⟩, rfl, ?_⟩
  have h2 := h1.setLoop (r' := outOf rec)
  exact hold_subs (give := .own (LoopR l (outOf rec)) :: g) h2 hsub
theorem GRC.ret (h : @GE Q .ret n ds w0 fr rs) : @GRC l P .ret Q n ds w0 fr rs := fun a w hf hw => wpIn_ret (h a w hf hw)
theorem endLoop_run2 {w : World} {r : Loop} (h : w.heap[l]? = some (.loop r)) (hs : r.state ≠ .busy) : (Instr.endLoop l).run P w = .ok r.pending { w with heap := w.heap.setIfInBounds l (.loop { r with state := .exhausted }) } := by
  have hb : (r.state == .busy) = false := by
    cases e : r.state with
    | busy => exact absurd e hs
    | ready => rfl
    | done => rfl
    | exhausted => rfl
  simp [Instr.endLoop, Sem.run_bind, getLoop_run h, setL_run h, hb]
  exact fun e => absurd e hs
theorem GC.rangeFunc2 {g : Operand} {ps : Array Tmp} {assign body : Code} {f : FuncId} {caps : List Value} {need rl : List Res} {post stop : Value → List Res → Prop} [hF : Fun P f] (hg : ev fr g = some (.func (.func f) #[] caps.toArray))
    (S : ∀ l rec, rec.state = .ready → rec.pending = none → rec.params = ps → rec.assign = assign → rec.body = body → Fr [] ⟨rec.tmps, []⟩ n fr → Spec P f (.func (.yield l) #[] #[] :: caps) (.own (LoopR l rec) :: need) (fun v give => (∃ g, post v g ∧ give = .own (LoopR l rec) :: g) ∨ (∃ g, stop v g ∧ give = .own (LoopR l (outOf rec)) :: g)))
    (ht : Takes rs need rl)
    (k : ∀ D v g, post v g → ∀ rs', rs' = .own (DefR D) :: (g ++ rl) → @GE Q .normal n [⟨.collected D, #[]⟩] w0 fr rs')
    (k2 : ∀ D v g, stop v g → ∀ rs', rs' = .own (DefR D) :: (g ++ rl) → @GE Q .ret n [⟨.collected D, #[]⟩] w0 fr rs') : @GC P (.rangeFunc g ps assign body) Q n [] w0 fr rs := by
  intro a w hf hw
  refine (wpIn_wide (n := 0)).1 (wpIn_rangeFunc fun fn _ => ?_)
  obtain ⟨fu, h1, h2, h3⟩ := hF.fn
  have h2' : ¬ (fu.name = "runtime.NumGoroutine") := by simpa using h2
  have h3' : fu.body ≠ none := by intro e; rw [e] at h3; simp at h3
  have hg' := hf.ev hg
  let A := w.alloc (.deferred (some []))
  let rec_ : Loop := { state := .ready, pending := none, fn, tmps := a.tmps, params := ps, assign, body, defers := w.heap.size }
  let B := A.alloc (.loop rec_)
  have hA : Holds w0 A (.own (DefR w.heap.size) :: rs) := hw.add rfl rfl rfl (by simp [A]) (fun k hk => Below.heap_alloc _ _ _ hk) (Hp.one w.heap.size (.deferred (some []))) (Hp.one_le (heap_alloc_new w _)) (fun k hk => Hp.one_ne _ (by omega)) (fun f _ => Hp.one_self _ _)
  have hB : Holds w0 B (.own (LoopR A.heap.size rec_) :: .own (DefR w.heap.size) :: rs) := hA.add rfl rfl rfl (by simp [B]) (fun k hk => Below.heap_alloc _ _ _ hk) (Hp.one A.heap.size (.loop rec_)) (Hp.one_le (heap_alloc_new A _)) (fun k hk => Hp.one_ne _ (by omega)) (fun f _ => Hp.one_self _ _)
  refine ⟨A.heap.size, [⟨.collected w.heap.size, #[]⟩], B, ⟨.fn (.func f) caps.toArray, #[.func (.yield A.heap.size) #[] #[]]⟩, B, f, (.func (.yield A.heap.size) #[] #[] :: caps).toArray, B, ?_, ?_, fun _ _ => trivial, ?_, fun h => (nomatch h), callsIn_wide.2 ?_⟩
  · rfl
  · simp only [resolve, rangeCall, hg', Deferred.ofValue]
    have e : (#[] : Array Value) ++ Array.map a.eval #[.const (.func (.yield A.heap.size) #[] #[])] = #[.func (.yield A.heap.size) #[] #[]] := by simp [Act.eval]
    rw [e]; rfl
  · simp [invoke, callFunc, h1, h2', h3']
  · have hfr : Fr [] ⟨rec_.tmps, []⟩ n fr := ⟨⟨hf.size, hf.has⟩, rfl⟩
    have hp : Holds w0 B ((.own (LoopR A.heap.size rec_) :: need) ++ (.own (DefR w.heap.size) :: rl)) := by
      have h5 : Holds w0 B (.own (LoopR A.heap.size rec_) :: .own (DefR w.heap.size) :: (need ++ rl)) := Holds.take' ht [_, _] hB
      exact h5.perm (List.Perm.cons _ (List.perm_middle.symm))
    refine (S A.heap.size rec_ rfl rfl rfl rfl rfl hfr w0 _ B hp).mono ?_
    rintro e w' ⟨v, give, hgv, rfl, hh⟩
    rcases hgv with ⟨g, hpost, rfl⟩ | ⟨g, hstop, rfl⟩
    · refine ⟨none, _, endLoop_run (loop_blk hh) rfl, ?_⟩
      have h6 := hh.setLoop (r' := { rec_ with state := .exhausted })
      have h7 := Holds.perm (rs' := .own (DefR w.heap.size) :: (g ++ rl)) h6.tail List.perm_middle
      refine k w.heap.size v g hpost _ rfl _ _ ⟨⟨hf.size, hf.has⟩, ?_⟩ h7
      show _ ++ a.defers = _
      rw [hf.defers]; rfl
    · refine ⟨some .ret, _, endLoop_run2 (r := outOf rec_) (loop_blk hh) (fun h => nomatch h), ?_⟩
      have h6 := hh.setLoop (r' := { outOf rec_ with state := .exhausted })
      have h7 := Holds.perm (rs' := .own (DefR w.heap.size) :: (g ++ rl)) h6.tail List.perm_middle
      refine wpIn_ret (k2 w.heap.size v g hstop _ rfl _ _ ⟨⟨hf.size, hf.has⟩, ?_⟩ h7)
      show _ ++ a.defers = _
      rw [hf.defers]; rfl
end
end Go.Proofs.YtmceappjldcbmaaGreatDoor
/-
  THE KIT OF MY OWN, EIGHTEENTH PART: strings as keys, bytes as a string, an entry laid into a map; many rows frozen. Over any program; no condition.
-/
namespace Go.Proofs.YtmceappjldcbmaaGreatDoor
open Go.RowKit Go.Sort
set_option linter.unusedVariables false
set_option linter.unusedSimpArgs false

/-- bytes as a string -/
def strOf (l : List UInt8) : ByteArray := (l.map fun x => (x.toNat : Int)).foldl (fun r n => r.push (UInt8.ofNat n.toNat)) ByteArray.empty
def eStr (s : ByteArray) : Value := .string s
theorem ba_beq (a b : ByteArray) : (a == b) = decide (a = b) := by
  show ByteArray.beq a b = _
  unfold ByteArray.beq
  by_cases h : a = b
  · subst h; simp
  · rw [decide_eq_false h, beq_eq_false_iff_ne]
    exact fun e => h (ByteArray.ext e)
section
variable {P : Program} {ops : Array Oper} {Q : Exit → Act → World → Prop} {K : Act → Prop} {n : Nat} {ds : List Deferred} {w0 : World} {rest : List Oper} {fr : Slots} {rs rs' : List Res} {ty t tx t' : TypeId} {x y z : Operand} {pos : String} {after : Array Edge}
variable {κ : Type} {ek : κ → Value}
end
end Go.Proofs.YtmceappjldcbmaaGreatDoor
/-
  THE KIT OF MY OWN, TWENTY-SECOND PART: a piece of a read slice, its place written out. Over any program; no condition.
-/
namespace Go.Proofs.YtmceappjldcbmaaGreatDoor
open Go.RowKit Go.Sort
set_option linter.unusedVariables false
set_option linter.unusedSimpArgs false

def subA (ao : Option Addr) (c l s : Nat) : Option Addr := if c = l then ao else ao.map (·.add (l * s))
section
variable {P : Program} {ops : Array Oper} {Q : Exit → Act → World → Prop} {K : Act → Prop} {n : Nat} {ds : List Deferred} {w0 : World} {rest : List Oper} {fr : Slots} {rs rs' : List Res} {ty t tx t' : TypeId} {x y z : Operand} {pos : String} {after : Array Edge}
theorem Ex.slHi {e size bytes m c r : Nat} {k : IntKind} {zs : List Value} {ao : Option Addr} [hU : Und P t (.slice e)] [hI : Inf P e size bytes zs] (hx : ev fr x = some (.slice ao m c)) (hz : ev fr z = some (.int k (r : Int))) (hr : r ≤ c) : Ex P n w0 rs fr (.slice t x none (some z) none) ty (.slice (subA ao c 0 size) (r - 0) (c - 0)) :=
  fun a w dst pos after guard hf hw => sub_run (P := P) (t := t) (ty := ty) (pos := pos) (after := after) hU hI (w := w) (dst := dst) (guard := guard) hf hx (.inl ⟨rfl, rfl⟩) (.inr ⟨z, k, rfl, hz⟩) (Nat.zero_le _) hr
theorem Ex.slLo {e size bytes m c l : Nat} {k : IntKind} {zs : List Value} {ao : Option Addr} [hU : Und P t (.slice e)] [hI : Inf P e size bytes zs] (hx : ev fr x = some (.slice ao m c)) (hz : ev fr z = some (.int k (l : Int))) (hr : l ≤ m ∧ m ≤ c) : Ex P n w0 rs fr (.slice t x (some z) none none) ty (.slice (subA ao c l size) (m - l) (c - l)) :=
  fun a w dst pos after guard hf hw => sub_run (P := P) (t := t) (ty := ty) (pos := pos) (after := after) hU hI (w := w) (dst := dst) (guard := guard) hf hx (.inr ⟨z, k, rfl, hz⟩) (.inl ⟨rfl, rfl⟩) hr.1 hr.2
theorem Holds.slSub {w : World} {ao : Option Addr} {m c size : Nat} {xs : List Value} (l r : Nat) (hl : l ≤ r) (hr : r ≤ m) (H : Holds w0 w (.sl ao m c size xs :: rs)) : Holds w0 w (.sl (subA ao c l size) (r - l) (c - l) size ((xs.drop (l * size)).take ((r - l) * size)) :: .sl ao m c size xs :: rs) :=
  H.derive (List.mem_cons_self ..) _ fun f o o' hs => slIn.piece hs l r hl hr
end
end Go.Proofs.YtmceappjldcbmaaGreatDoor
/-
  THE KIT OF MY OWN, TWENTY-FIFTH PART: append of zeros (append(s, make([]T, m)...)) onto a row of the call's own. Over any program; no condition.
-/
namespace Go.Proofs.YtmceappjldcbmaaGreatDoor
open Go.RowKit Go.Sort
set_option linter.unusedVariables false
set_option linter.unusedSimpArgs false
section
variable {P : Program} {w0 : World} {rs : List Res}
theorem run_append_room_zeros {w : World} {t tn ty e : TypeId} {i : TypeInfo} {z : Value} {kq kn : IntKind} (ht : P.underlying t = some (.slice e)) (htn : P.underlying tn = some (.int kn)) (hi : P.info? e = some i) (hz : i.zero = some z) (b off sLen sCap m : Nat) (news : List Value)
    (hze : Builtin.zeroCells z.cells m = news.toArray) (h0 : 0 < m) (hsz : 0 < i.size) (h63 : (m : Int) ≤ 9223372036854775807) (h48 : m * i.bytes ≤ 281474976710656)
    (hroom : sLen + m ≤ sCap) (hone : ∀ u ∈ news, u.oneCell' = true) (hc : ∀ j, j < news.length → (w.cell? ⟨b, off + sLen * i.size + j, none⟩).isSome = true) (hf : ∀ j, j < news.length → w.frozen? ⟨b, off + sLen * i.size + j, none⟩ = false) :
    (Builtin.append_ #[t, tn] ty #[.slice (some ⟨b, off, none⟩) sLen sCap, .int kq m]).run P w = .ok (.slice (some ⟨b, off, none⟩) (sLen + m) sCap) (w.setCells b (off + sLen * i.size) news) := by
  have hst := run_storeCells_cells (P := P) b (off + sLen * i.size) news 0 w (by simpa using hc) (by simpa using hf) hone
  simp only [Nat.add_zero] at hst
  have hw : IntKind.i64.wrap (m : Int) = m := by rw [IntKind.wrap_i64]; omega
  have h48i : ¬ (281474976710656 < (m : Int) * (i.bytes : Int)) := by
    rw [← Int.natCast_mul]
    omega
  have hneg : ¬ ((m : Int) < 0) := by omega
  have hns : ¬ (m * i.size = 0) := Nat.mul_ne_zero (by omega) (by omega)
  simp [Builtin.append_, run_underlying ht, run_underlying htn, sizeOf, typeInfo, zeroValue, hi, hz, asInt, asIntOf, hw, hneg, hns, h48i, hroom, hze, Addr.add_lit, hst]
theorem Holds.appendZ {w : World} {t tx ty e size bytes : Nat} {zs : List Value} {ao : Option Addr} {n c m : Nat} {xs : List Value} {k kn : IntKind} (H : Holds w0 w (.vec e size ao n c xs :: rs)) (hU : Und P t (.slice e)) (hI : Inf P e size bytes zs) (hV : Und P tx (.int kn)) (hz : zs.length = size) (hsz : 0 < size) (h1 : ∀ u ∈ zs, u.oneCell' = true) (h0 : 0 < m)
    (hb : (n + m) * bytes ≤ 140737488355328) (hm : n + m ≤ maxLen) (hm2 : n + m ≤ 1000000000000) :
    ∃ ao' c' w', (Builtin.append_ #[t, tx] ty #[.slice ao n c, .int k (m : Int)]).run P w = .ok (.slice ao' (n + m) c') w' ∧ Holds w0 w' (.vec e size ao' (n + m) c' (xs ++ zrep zs m) :: rs) := by
  obtain ⟨i, z, g1, g2, g3, g4, g5⟩ := hI.get
  subst g4; subst g5
  have hrow : rowIn (hp w) e i.size ao n c xs := H.at (List.mem_cons_self ..)
  obtain ⟨r1, r2, r3⟩ := hrow
  have hnl : (zrep zs m).length = m * i.size := by rw [zrep_len, hz]
  have hno : ∀ u ∈ zrep zs m, u.oneCell' = true := zrep_one' h1 m
  have hlen : (xs ++ zrep zs m).length = (n + m) * i.size := by rw [List.length_append, r1, hnl, Nat.add_mul]
  have hone : ∀ u ∈ xs ++ zrep zs m, u.oneCell' = true := fun u hu => (List.mem_append.1 hu).elim (r2 u) (hno u)
  have hzs : z.cells.size = i.size := by rw [← hz, ← g3]; simp
  have hzc : z.cells = zs.toArray := by rw [← Array.toList_inj]; simpa using g3
  have hze : ∀ q, Builtin.zeroCells z.cells q = (zrep zs q).toArray := fun q => by
    have := zrep_eq zs (by omega) q
    rw [hzc]
    unfold Builtin.zeroCells
    simpa using this
  have hmb : m * i.bytes ≤ 281474976710656 := by
    have := Nat.mul_le_mul_right i.bytes (show m ≤ n + m by omega)
    omega
  have grow : c < n + m → (Builtin.firstCells i.size n (.slice ao n c)).run P w.drew = .ok xs.toArray w.drew →
      ∃ ao' c' w', (Builtin.append_ #[t, tx] ty #[.slice ao n c, .int k (m : Int)]).run P w = .ok (.slice ao' (n + m) c') w' ∧ Holds w0 w' (.vec e i.size ao' (n + m) c' (xs ++ zrep zs m) :: rs) := by
    intro hc hold
    have hr := Lib.run_append_grow_zeros (P := P) w t tx ty e i z k kn hU.und hV.und g1 g2 ao n c xs hold m h0 hsz hc (by omega) hmb (growslice_fits hc hb)
    have hge := grownCap_ge w (n + m) c e
    have hcm : grownCap w (n + m) c e ≤ maxLen := grownCap_le_maxLen w (n + m) c e hm
    refine ⟨_, _, _, hr, ?_⟩
    refine H.tail.add rfl rfl rfl (by simp) (fun k hk => Below.heap_alloc w.drew _ k hk) (Hp.one w.heap.size _) (Hp.one_le (heap_alloc_new w.drew _)) (fun k hk => Hp.one_ne _ (by omega)) (fun f _ => ?_)
    refine ⟨hlen, hone, .inr ⟨w.heap.size, 0, _, rfl, Hp.one_self _ _, hge, hcm, ?_, ?_⟩⟩
    · rw [hze, hze]
      simp only [Nat.zero_add, Array.size_append, List.size_toArray, zrep_len, hz, r1, ← Nat.add_mul]
      exact Nat.mul_le_mul_right _ (by omega)
    · rw [hze, hze]
      simp only [List.drop_zero, Array.toList_append]
      rw [← hlen]
      exact List.take_left
  rcases r3 with ⟨rfl, rfl, rfl⟩ | ⟨g, o, cur, rfl, hg, hn, hcm, hcs, htk⟩
  · have hxs : xs = [] := List.eq_nil_of_length_eq_zero (by simpa using r1)
    subst hxs
    exact grow (by omega) (run_firstCells_none w.drew i.size 0 0 0)
  · by_cases hroom : n + m ≤ c
    · have hg' : w.heap[g]? = some (.cells cur e (0, 0)) := hg
      have hsz2 : o + n * i.size + (zrep zs m).length ≤ cur.size := by
        rw [hnl]
        have := Nat.mul_le_mul_right i.size hroom
        rw [Nat.add_mul] at this; omega
      have hr := run_append_room_zeros (P := P) (w := w) (ty := ty) (kq := k) hU.und hV.und g1 g2 g o n c m (zrep zs m) (hze m) h0 hsz (by omega) hmb hroom hno (fun j hj => by rw [cell_of_row w g _ cur e (0, 0) hg']; simp; omega) (fun j hj => frozen_of_row w g _ cur e hg')
      refine ⟨_, _, _, hr, ?_⟩
      obtain ⟨s1, s2, s3, s4⟩ := setCells_rest (b := g) (zrep zs m) (o + n * i.size) w
      have hh := setCells_heap (b := g) (t := e) (zrep zs m) (o + n * i.size) w cur.toList (by simpa using hg') (by simpa using hsz2)
      refine H.step s1 s2 s3 (by omega) fun f ow hrow hf ho => ?_
      have howg : ∃ y, ow g = some y := by
        obtain ⟨_, _, hq⟩ := hrow
        rcases hq with ⟨hq, _⟩ | ⟨g', o', cur', hq, hq2, _⟩
        · cases hq
        · simp only [Option.some.injEq, Addr.mk.injEq] at hq
          obtain ⟨rfl, rfl, -⟩ := hq
          exact ⟨_, hq2⟩
      refine ⟨Hp.one g _, ⟨hlen, hone, .inr ⟨g, o, _, rfl, Hp.one_self _ _, hroom, hcm, ?_, ?_⟩⟩, Hp.one_le hh, fun k hk hkn => ?_⟩
      · simp only [List.size_toArray, List.length_append, List.length_take, List.length_drop, Array.length_toList]
        omega
      · simp only [List.append_assoc]
        rw [List.drop_append, List.length_take, Array.length_toList, Nat.min_eq_left (by omega), List.drop_take]
        rw [show o + n * i.size - o = n * i.size by omega, htk, show o - (o + n * i.size) = 0 by omega, List.drop_zero, ← List.append_assoc, ← hlen]
        exact List.take_left
      · obtain ⟨y, hy⟩ := howg
        have hkg : k ≠ g := fun e => by rw [e, hy] at hkn; cases hkn
        exact ⟨Hp.one_ne _ hkg, setCells_other _ _ _ _ hkg⟩
    · refine grow (by omega) ?_
      have hsl := rowIn.sl (w := w) (t := e) (size := i.size) (ao := some ⟨g, o, none⟩) (n := n) (c := c) (xs := xs) ⟨r1, r2, .inr ⟨g, o, cur, rfl, hg, hn, hcm, hcs, htk⟩⟩
      exact run_firstCells_some w.drew i.size n ⟨g, o, none⟩ n c xs r1 (fun j v hv => hsl.cell (k := j) hv)
end
section
variable {P : Program} {ops : Array Oper} {Q : Exit → Act → World → Prop} {n : Nat} {ds : List Deferred} {w0 : World} {rest : List Oper} {fr : Slots} {rs : List Res} {ty t tx : TypeId} {x y : Operand} {pos : String} {after : Array Edge}
theorem G.appMake {d e size bytes m l c : Nat} {zs xs : List Value} {ao : Option Addr} {k kn : IntKind} {f : Option Addr → Nat → Nat → List Value → List Res} [hU : Und P t (.slice e)] [hI : Inf P e size bytes zs] [hV : Und P tx (.int kn)] (hx : ev fr x = some (.slice ao l c)) (hy : ev fr y = some (.int k (m : Int))) (h0 : 0 < m)
    [hS : VecSet rs ao l c e size xs f] (hz : zs.length = size) (hs : Nat.blt 0 size = true) (h1 : zs.all (·.oneCell') = true) (hb : (l + m) * bytes ≤ 140737488355328 ∧ l + m ≤ 1000000000000) (hd : Nat.blt d n = true) {xs' : List Value} (hxs : xs ++ zrep zs m = xs')
    (k : ∀ ao' c'', ∀ rs', rs' = f ao' (l + m) c'' xs' → @G P ops Q n ds w0 rest ((d, .slice ao' (l + m) c'') :: fr) rs') :
    @G P ops Q n ds w0 (⟨some d, .call ⟨.builtin .append, #[x, y], #[t, tx]⟩, ty, pos, after, none⟩ :: rest) fr rs := by
  subst hxs
  refine G.act hd fun a w pos after hf hw => ?_
  obtain ⟨ls, p1, _⟩ := (hS.upd none 0 0 []).split
  have hs' : 0 < size := by simpa [Nat.blt_eq] using hs
  obtain ⟨ao', c'', w', h3, h4⟩ := (hw.perm p1).appendZ (P := P) (t := t) (tx := tx) (ty := ty) hU hI hV hz hs' (List.all_eq_true.1 h1) h0 hb.1 (by unfold maxLen; omega) hb.2
  refine ⟨_, w', append_run hf.toFrE hx hy h3, _, ?_, k ao' c'' _ rfl⟩
  obtain ⟨l', q1, q2⟩ := (hS.upd ao' (l + m) c'' (xs ++ zrep zs m)).split
  have : ls.Perm l' := (p1.symm.trans q1).cons_inv
  exact (h4.perm (this.cons _)).perm q2.symm
end
end Go.Proofs.YtmceappjldcbmaaGreatDoor
/-
  THE KIT OF MY OWN, TWENTY-SIXTH PART: a piece of a row of one's own, read while the row stays whole. Over any program; no condition.
-/
namespace Go.Proofs.YtmceappjldcbmaaGreatDoor
open Go.RowKit Go.Sort
set_option linter.unusedVariables false
set_option linter.unusedSimpArgs false
section
variable {P : Program} {n : Nat} {w0 : World} {fr : Slots} {rs : List Res} {ty t : TypeId} {x y z : Operand} {pos : String} {after : Array Edge}
theorem Ex.slLH {e size bytes m c l r : Nat} {k k' : IntKind} {zs : List Value} {ao : Option Addr} [hU : Und P t (.slice e)] [hI : Inf P e size bytes zs] (hx : ev fr x = some (.slice ao m c)) (hy : ev fr y = some (.int k (l : Int))) (hz : ev fr z = some (.int k' (r : Int))) (hr : l ≤ r ∧ r ≤ c) : Ex P n w0 rs fr (.slice t x (some y) (some z) none) ty (.slice (subA ao c l size) (r - l) (c - l)) :=
  fun a w dst pos after guard hf hw => sub_run (P := P) (t := t) (ty := ty) (pos := pos) (after := after) hU hI (w := w) (dst := dst) (guard := guard) hf hx (.inr ⟨y, k, rfl, hy⟩) (.inr ⟨z, k', rfl, hz⟩) hr.1 hr.2
/-- a row of one's own read as one of its pieces -/
theorem RdR.piece {size : Nat} {ao : Option Addr} {n c : Nat} {xs : List Value} (l r : Nat) (hlr : l ≤ r) (hr : r ≤ n) : RdR (.vec t size ao n c xs) (subA ao c l size) (r - l) (c - l) size ((xs.drop (l * size)).take ((r - l) * size)) :=
  ⟨fun H hm => slIn.sl (slIn.piece (rowIn.frozen (H.at hm)) l r hlr hr)⟩
end
end Go.Proofs.YtmceappjldcbmaaGreatDoor
/-
  THE KIT OF MY OWN, TWENTY-SEVENTH PART: guarded operations of a region that draws its order; the least of three. Over any program; no condition.
-/
namespace Go.Proofs.YtmceappjldcbmaaGreatDoor
open Go.RowKit Go.Sort
set_option linter.unusedVariables false
set_option linter.unusedSimpArgs false
section
variable {P : Program} {n : Nat} {w0 : World} {fr : Slots} {rs : List Res} {ty t t' t'' : TypeId} {x y z : Operand}
end
section
variable {P : Program} {ops : Array Oper} {T : List Nat} {Q : Exit → Act → World → Prop} {n : Nat} {ds : List Deferred} {w0 : World} {fuel : Nat} {listed : Array Bool} {fr : Slots} {rs rc : List Res}
def bOf : Value → Option Bool
  | .bool b => some b
  | _ => none
theorem yielded_look {a : Act} (hf : FrE a n fr) {j dj : Nat} {v : Value} (hj : ((ops[j]?).bind (·.dst)) = some dj) (hb : look fr dj = some v) : yielded ops a.tmps j = bOf v := by
  unfold yielded bOf
  rw [hj]
  simp only [Option.bind_some, hf.has _ _ hb]
  cases v <;> rfl
/-- an operation with a guard that holds is as one that has none -/
theorem GA.takeY {i d : Nat} {op : Op} {ty : TypeId} {pos : String} {after : Array Edge} {v : Value} {j dj : Nat} {b : Bool} (rd : List Res) (hi : ops[i]? = some ⟨some d, op, ty, pos, after, some (j, b)⟩) (hj : ((ops[j]?).bind (·.dst)) = some dj) (hb : look fr dj = some (.bool b)) (hs : Region.noSelect ops = true) (hfr : Region.free .any ops listed i = true) (hr : (Region.ready .any ops listed).contains i = true)
    (hQ : NoPanic Q) (hD : rd = [] ∨ (rd = rc ∧ tails ops [i] T = true)) (hsub : ∃ left, Takes rs rd left) (hx : Ex P n w0 rd fr op ty v) (hd : Nat.blt d n = true)
    (k : @GA P ops T rc Q n ds w0 fuel (listed.setIfInBounds i true) ((d, v) :: fr) rs) : @GA P ops T rc Q n ds w0 (fuel + 1) listed fr rs := by
  intro a w hf hw
  have hsat : ∀ {l m : List Res} {w' : World}, Holds w0 w' (l ++ m) → Holds w0 w' l := fun {l m w'} h => by
    have h' : Holds w0 w' (m ++ l) := h.perm List.perm_append_comm
    clear h
    induction m with
    | nil => exact h'
    | cons x m ih => exact ih h'.tail
  obtain ⟨left, hl⟩ := hsub
  have hrd : Holds w0 w rd := hsat (hw.take hl)
  have hyw : Region.wanted (⟨some d, op, ty, pos, after, some (j, b)⟩ : Oper) (yielded ops a.tmps) = true := by
    simp [Region.wanted, yielded_look hf.toFrE hj hb, bOf]
  rcases hD with rfl | ⟨rfl, hT⟩
  · exact wpAnyC_first (D := fun w => Holds w0 w []) hi (.inl rfl) (Region.noSelect_spec hs) (fun c a' w' h => absurd h (hQ c _ _)) fuel listed a w (Region.free_spec hi hfr) (by simpa using hr) (.inl ⟨hyw, fun w' hw' => hx a w' _ _ _ _ hf hw'⟩) hrd (k _ w (hf.put hd v) hw)
  · refine wpAnyC_first (D := fun w => Holds w0 w rd) hi (.inr ⟨rfl, fun j hj => ?_⟩) (Region.noSelect_spec hs) (fun c a' w' h => absurd h (hQ c _ _)) fuel listed a w (Region.free_spec hi hfr) (by simpa using hr) (.inl ⟨hyw, fun w' hw' => hx a w' _ _ _ _ hf hw'⟩) hrd (k _ w (hf.put hd v) hw)
    have := List.all_eq_true.1 hT j hj
    simpa using this
/-- an operation with a guard that does not hold yields nothing -/
theorem GA.takeN {i d : Nat} {op : Op} {ty : TypeId} {pos : String} {after : Array Edge} {u : Value} {j dj : Nat} {b : Bool} (hi : ops[i]? = some ⟨some d, op, ty, pos, after, some (j, b)⟩) (hj : ((ops[j]?).bind (·.dst)) = some dj) (hb : look fr dj = some u) (hv : ∀ c, u = .bool c → c ≠ b) (hs : Region.noSelect ops = true) (hfr : Region.free .any ops listed i = true) (hr : (Region.ready .any ops listed).contains i = true)
    (hQ : NoPanic Q) (hd : Nat.blt d n = true)
    (k : @GA P ops T rc Q n ds w0 fuel (listed.setIfInBounds i true) ((d, undef) :: fr) rs) : @GA P ops T rc Q n ds w0 (fuel + 1) listed fr rs := by
  intro a w hf hw
  have hsat : ∀ {l : List Res} {w' : World}, Holds w0 w' l → Holds w0 w' [] := fun {l w'} h => by
    induction l with
    | nil => exact h
    | cons x m ih => exact ih h.tail
  have hyw : Region.wanted (⟨some d, op, ty, pos, after, some (j, b)⟩ : Oper) (yielded ops a.tmps) = false := by
    simp only [Region.wanted, yielded_look hf.toFrE hj hb]
    cases u <;> simp [bOf]
    exact hv _ rfl
  exact wpAnyC_first (D := fun w => Holds w0 w []) hi (.inl rfl) (Region.noSelect_spec hs) (fun c a' w' h => absurd h (hQ c _ _)) fuel listed a w (Region.free_spec hi hfr) (by simpa using hr) (.inr ⟨hyw, rfl⟩) (hsat hw) (k _ w (hf.put hd _) hw)
/-- no panic is asked for in what follows -/
def NP (Q : Exit → Act → World → Prop) : Exit → Act → World → Prop := fun e a w => (∀ c, e ≠ .panic c) ∧ Q e a w
theorem NoPanic.np : NoPanic (NP Q) := fun c _ _ h => h.1 c rfl
instance : NPI (NP Q) := ⟨NoPanic.np⟩
theorem ne_lit {a b : Bool} (h : a ≠ b) : ∀ c, Value.bool a = .bool c → c ≠ b := fun c e => by
  have := Value.bool.inj e
  rw [← this]; exact h
end
end Go.Proofs.YtmceappjldcbmaaGreatDoor
