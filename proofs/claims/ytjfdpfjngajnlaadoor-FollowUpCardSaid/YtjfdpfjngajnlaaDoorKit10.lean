/-
  THE KIT OF MY OWN, TENTH PART: a region that draws its order and writes or makes memory: what only reads is taken first; the rest in every order. Over any program; no condition.
-/
import Derived.Test.YtjfdpfjngajnlaaDoorKit9
namespace Go.Proofs.YtjfdpfjngajnlaaDoor
open Go.RowKit Go.Sort
set_option linter.unusedVariables false
set_option linter.unusedSimpArgs false

/-- operation j waits for operation i -/
def waits (ops : Array Oper) (j i : Nat) : Bool := match ops[j]? with
  | some o => o.after.any fun e => Region.binds .any e && e.on == i
  | none => true
/-- each of T waits for each of H -/
def tails (ops : Array Oper) (H T : List Nat) : Bool := T.all fun j => H.all fun i => waits ops j i
/-- the game over all orders; behind an operation that is none of T the world is in the class C -/
def wpAnyC (P : Program) (ops : Array Oper) (T : List Nat) (B C : World → Prop) (Q : Exit → Act → World → Prop) : Nat → Array Bool → Act → World → Prop
  | 0, listed, a, w => Region.ready .any ops listed = [] ∧ Q .normal a w
  | fuel + 1, listed, a, w => (Region.ready .any ops listed = [] → Q .normal a w) ∧
    ∀ i ∈ Region.ready .any ops listed, wpOp P ops Q i (fun a' w' => ((B w → B w') ∧ (i ∈ T ∨ (C w → C w'))) ∧ wpAnyC P ops T B C Q fuel (listed.setIfInBounds i true) a' w') a w
def YieldsC (P : Program) (ops : Array Oper) (C : World → Prop) (o : Oper) (v : Value) (a : Act) : Prop :=
  (Region.wanted o (yielded ops a.tmps) = true ∧ ∀ w, C w → (execOp a.eval o).run P w = .ok (.value v) w) ∨
  (Region.wanted o (yielded ops a.tmps) = false ∧ v = undef)
section
variable {P : Program} {ops : Array Oper} {H T : List Nat} {B C : World → Prop} {Q : Exit → Act → World → Prop}
theorem wpAny_of_C : ∀ (fuel : Nat) (listed : Array Bool) (a : Act) (w : World), wpAnyC P ops T B C Q fuel listed a w → wpAny P .any ops Q fuel listed a w
  | 0, _, _, _, h => h
  | fuel + 1, _, _, _, h => ⟨h.1, fun i hi => wpOp_mono (fun a' w' hh => wpAny_of_C fuel _ a' w' hh.2) (h.2 i hi)⟩
theorem YieldsC.wpOp {i : Nat} {o : Oper} {v : Value} {a : Act} (hi : ops[i]? = some o) (hy : YieldsC P ops C o v a) {K : Act → World → Prop} {w : World} (hC : C w) (h : K (a.put o.dst v) w) : wpOp P ops Q i K a w := by
  unfold Go.wpOp
  simp only [hi]
  rcases hy with ⟨hw, hv⟩ | ⟨hw, rfl⟩
  · simp only [hw, if_true, Oper.wp, hv w hC, Oper.upon]; exact .inl h
  · simp only [hw, Bool.false_eq_true, if_false]; exact h
theorem YieldsC.of_same {o : Oper} {v : Value} {a a' : Act} (hy : YieldsC P ops C o v a) (he : execOp a'.eval o = execOp a.eval o) (hw : Region.wanted o (yielded ops a'.tmps) = Region.wanted o (yielded ops a.tmps)) : YieldsC P ops C o v a' := by
  unfold YieldsC at *
  rw [he, hw]
  exact hy
theorem wpOp_putC {j : Nat} {oi oj : Oper} {v : Value} (hj : ops[j]? = some oj) (hap : oi.apart ops oj = true)
    (hsi : ∀ cs b, oi.op ≠ .select cs b) (hsj : ∀ cs b, oj.op ≠ .select cs b)
    (hQ : ∀ c a w, Q (.panic c) (a.put oi.dst v) w → Q (.panic c) a w) {K : Act → World → Prop} {a : Act} {w : World}
    (hy : YieldsC P ops C oi v a) (h : wpOp P ops Q j K (a.put oi.dst v) w) :
    wpOp P ops Q j (fun a' w' => YieldsC P ops C oi v a' ∧ K (a'.put oi.dst v) w') a w := by
  obtain ⟨h1, h2, h3⟩ := Oper.apart_spec hap
  have keep : ∀ (a : Act), YieldsC P ops C oi v a → ∀ u, YieldsC P ops C oi v (a.put oj.dst u) := fun a hy u =>
    hy.of_same (execOp_put oi hsi a oj.dst u h3) (wanted_put oi a oj.dst u h3)
  have keepD : ∀ d, YieldsC P ops C oi v { a with defers := d :: a.defers } := fun d => hy.of_same rfl rfl
  unfold wpOp at *
  simp only [hj] at *
  rw [wanted_put oj a oi.dst v h1] at h
  split
  · rename_i hw
    simp only [hw, if_true] at h
    rcases h with h | ⟨hasks, hlets⟩
    case inr => exact .inr ⟨by unfold Oper.asks at *; rw [execOp_put oj hsj a oi.dst v h1] at hasks; exact hasks, hlets⟩
    refine .inl ?_
    unfold Oper.wp at *
    rw [execOp_put oj hsj a oi.dst v h1] at h
    generalize (execOp a.eval oj).run P w = r at *
    cases r with
    | ok n w' =>
      cases n <;> simp only [Oper.upon] at h ⊢
      case value u => exact ⟨keep a hy u, by rw [← Act.put_comm a v u h2]; exact h⟩
      case skip => exact ⟨keep a hy _, by rw [← Act.put_comm a v undef h2]; exact h⟩
      case defer d =>
        refine ⟨keep _ (keepD d) _, ?_⟩
        rw [← Act.put_comm _ v undef h2, ← Act.put_defers]
        exact h
      case enter f args =>
        refine Calls.mono h fun e w'' he => ?_
        cases e with
        | returned u => exact ⟨keep a hy u, by rw [← Act.put_comm a v u h2]; exact he⟩
        | panicked c => exact hQ _ _ _ he
        | outgrown => exact he
      case row row args => exact Rows.mono h fun u w'' he => ⟨keep a hy u, by rw [← Act.put_comm a v u h2]; exact he⟩
    | halt x w' =>
      cases x <;> simp only [Oper.upon] at h ⊢
      case panic u => exact hQ _ _ _ h
  · rename_i hw
    simp only [hw] at h
    exact ⟨keep a hy _, by rw [← Act.put_comm a v undef h2]; exact h⟩
theorem wpAnyC_first {D : World → Prop} {i : Nat} {oi : Oper} {v : Value} (hi : ops[i]? = some oi) (hD : D = B ∨ (D = C ∧ ∀ j ∈ T, waits ops j i = true)) (hsel : ∀ (j : Nat) (o : Oper) cs b, ops[j]? = some o → o.op ≠ .select cs b)
    (hQ : ∀ c a w, Q (.panic c) (a.put oi.dst v) w → Q (.panic c) a w) :
    ∀ (fuel : Nat) (listed : Array Bool) (a : Act) (w : World),
      (∀ j oj, ops[j]? = some oj → j ≠ i → listed.getD j true = false → (∀ e ∈ oj.after, Region.binds .any e = true → e.on ≠ i) → oi.apart ops oj = true) →
      i ∈ Region.ready .any ops listed → YieldsC P ops D oi v a → D w →
      wpAnyC P ops T B C Q fuel (listed.setIfInBounds i true) (a.put oi.dst v) w → wpAnyC P ops T B C Q (fuel + 1) listed a w := by
  intro fuel
  induction fuel with
  | zero =>
    intro listed a w _ hr hy hC HH
    refine ⟨fun h => (by rw [h] at hr; cases hr), fun j hj => ?_⟩
    by_cases hji : j = i
    · subst hji; exact hy.wpOp hi hC ⟨⟨id, .inr id⟩, HH⟩
    · have := ready_mono hj hji
      rw [HH.1] at this
      cases this
  | succ fuel ih =>
    intro listed a w hfree hr hy hC HH
    refine ⟨fun h => (by rw [h] at hr; cases hr), fun j hj => ?_⟩
    by_cases hji : j = i
    · subst hji; exact hy.wpOp hi hC ⟨⟨id, .inr id⟩, HH⟩
    · have h1 := HH.2 j (ready_mono hj hji)
      obtain ⟨hjun, oj, hoj, hall⟩ := mem_ready.1 hj
      have hin := (mem_ready.1 hr).1
      have hnot : ∀ e ∈ oj.after, Region.binds .any e = true → e.on ≠ i := fun e he hb heq => by
        have h1 := hall e he hb
        rw [heq] at h1
        rcases Nat.lt_or_ge i listed.size with h' | h'
        · simp [h'] at hin h1; rw [hin] at h1; cases h1
        · simp [Array.getElem?_eq_none h'] at h1
      have h2 := wpOp_putC hoj (hfree j oj hoj hji hjun hnot) (fun cs b => hsel i oi cs b hi) (fun cs b => hsel j oj cs b hoj) hQ hy h1
      have hfree' : ∀ k ok, ops[k]? = some ok → k ≠ i → (listed.setIfInBounds j true).getD k true = false →
          (∀ e ∈ ok.after, Region.binds .any e = true → e.on ≠ i) → oi.apart ops ok = true := fun k ok hk hki hun hno => by
        refine hfree k ok hk hki ?_ hno
        by_cases hjk : j = k
        · subst hjk; exact hjun
        · rw [getD_set_ne true hjk] at hun; exact hun
      refine wpOp_mono (fun a' w' h3 => ?_) h2
      have hD' : D w' := by
        rcases hD with rfl | ⟨rfl, hT⟩
        · exact h3.2.1.1 hC
        · have hjT : j ∉ T := fun hjT => by
            have hw := hT j hjT
            unfold waits at hw
            simp only [hoj] at hw
            obtain ⟨e, he, hb⟩ := Array.any_eq_true'.1 hw
            simp only [Bool.and_eq_true, beq_iff_eq] at hb
            exact hnot e he hb.1 hb.2
          exact h3.2.1.2.resolve_left hjT hC
      refine ⟨h3.2.1, ih (listed.setIfInBounds j true) a' w' hfree' (ready_mono hr (Ne.symm hji)) h3.1 hD' ?_⟩
      rw [Array.setIfInBounds_comm _ _ hji]
      exact h3.2.2
end

/-- the game in slots and resources -/
def GA {P : Program} {ops : Array Oper} {T : List Nat} {rc : List Res} {Q : Exit → Act → World → Prop} {n : Nat} {ds : List Deferred} {w0 : World} {fuel : Nat} (listed : Array Bool) (fr : Slots) (rs : List Res) : Prop :=
  ∀ a w, Fr ds a n fr → Holds w0 w rs → wpAnyC P ops T (fun w => Holds w0 w []) (fun w => Holds w0 w rc) Q fuel listed a w
section
variable {P : Program} {ops : Array Oper} {T : List Nat} {Q : Exit → Act → World → Prop} {n : Nat} {ds : List Deferred} {w0 : World} {fuel : Nat} {listed : Array Bool} {fr : Slots} {rs rc : List Res}
/-- a post that does not speak of panics but forbids them -/
def NoPanic (Q : Exit → Act → World → Prop) : Prop := ∀ c a w, ¬ Q (.panic c) a w
theorem GC.drawA {id : Nat} {l : List Oper} (T : List Nat) (rc : List Res) {left : List Res} (ht : Takes rs rc left) (hm : P.follows .mixedOrders = true) (h : @GA P l.toArray T rc Q n ds w0 l.length (Array.replicate l.length false) fr rs) : @GC P (.region id l.toArray true) Q n ds w0 fr rs :=
  fun a w hf hw => wp_region_any hm (wpAny_of_C _ _ _ _ (by
    have := h a { w with drawn := w.drawn + 1 } hf (hw.same rfl rfl rfl rfl)
    rw [List.size_toArray]; exact this))
theorem GA.done (hr : Region.ready .any ops listed = []) (h : @GE Q .normal n ds w0 fr rs) : @GA P ops T rc Q n ds w0 fuel listed fr rs := by
  intro a w hf hw
  cases fuel with
  | zero => exact ⟨hr, h a w hf hw⟩
  | succ k => exact ⟨fun _ => h a w hf hw, by rw [hr]; simp⟩
/-- what only reads is taken first -/
theorem GA.take {i d : Nat} {op : Op} {ty : TypeId} {pos : String} {after : Array Edge} {v : Value} (rd : List Res) (hi : ops[i]? = some ⟨some d, op, ty, pos, after, none⟩) (hs : Region.noSelect ops = true) (hfr : Region.free .any ops listed i = true) (hr : (Region.ready .any ops listed).contains i = true)
    (hQ : NoPanic Q) (hD : rd = [] ∨ (rd = rc ∧ tails ops [i] T = true)) (hsub : ∃ left, Takes rs rd left) (hx : Ex P n w0 rd fr op ty v) (hd : Nat.blt d n = true)
    (k : @GA P ops T rc Q n ds w0 fuel (listed.setIfInBounds i true) ((d, v) :: fr) rs) : @GA P ops T rc Q n ds w0 (fuel + 1) listed fr rs := by
  intro a w hf hw
  have hsat : ∀ {l m : List Res} {w' : World}, Holds w0 w' (l ++ m) → Holds w0 w' l := fun {l m w'} h => by
    have h' : Holds w0 w' (m ++ l) := h.perm List.perm_append_comm
    clear h
    induction m with
    | nil => exact h'
    | cons x m ih => exact ih h'.tail
  obtain ⟨left, hl⟩ := hsub
  have hrd : Holds w0 w rd := hsat (hw.take hl)
  have hyw : Region.wanted (⟨some d, op, ty, pos, after, none⟩ : Oper) (yielded ops a.tmps) = true := rfl
  rcases hD with rfl | ⟨rfl, hT⟩
  · exact wpAnyC_first (D := fun w => Holds w0 w []) hi (.inl rfl) (Region.noSelect_spec hs) (fun c a' w' h => absurd h (hQ c _ _)) fuel listed a w (Region.free_spec hi hfr) (by simpa using hr) (.inl ⟨hyw, fun w' hw' => hx a w' _ _ _ _ hf hw'⟩) hrd (k _ w (hf.put hd v) hw)
  · refine wpAnyC_first (D := fun w => Holds w0 w rd) hi (.inr ⟨rfl, fun j hj => ?_⟩) (Region.noSelect_spec hs) (fun c a' w' h => absurd h (hQ c _ _)) fuel listed a w (Region.free_spec hi hfr) (by simpa using hr) (.inl ⟨hyw, fun w' hw' => hx a w' _ _ _ _ hf hw'⟩) hrd (k _ w (hf.put hd v) hw)
    have := List.all_eq_true.1 hT j hj
    simpa using this
theorem NoPanic.fpost {fn : Func} {rest : List Res} {post : Value → List Res → Prop} : NoPanic (FPost P fn w0 rest post) := by
  rintro c a w ⟨_, v, give, _, h, _⟩
  cases h
theorem NoPanic.then_ {K : Act → World → Prop} (h : NoPanic Q) : NoPanic (Exit.then K Q) := fun c a w hh => h c a w hh
theorem NoPanic.block {id : Nat} (h : NoPanic Q) : NoPanic (Exit.inBlock id Q) := fun c a w hh => h c a w hh
/-- what is to be shown behind an operation i that was carried out -/
def GAk (P : Program) (ops : Array Oper) (T : List Nat) (rc : List Res) (Q : Exit → Act → World → Prop) (w0 : World) (fuel : Nat) (listed : Array Bool) (i : Nat) : Act → World → Prop :=
  fun a w => (∃ rs', Holds w0 w rs' ∧ (i ∈ T ∨ ∃ left, Takes rs' rc left)) ∧ wpAnyC P ops T (fun w => Holds w0 w []) (fun w => Holds w0 w rc) Q fuel (listed.setIfInBounds i true) a w
theorem GA.op {i : Nat} {o : Oper} (ho : ops[i]? = some o) (k : @G P ops (Exit.then (GAk P ops T rc Q w0 fuel listed i) Q) n ds w0 [o] fr rs) {a : Act} {w : World} (hf : Fr ds a n fr) (hw : Holds w0 w rs) :
    wpOp P ops Q i (fun a' w' => ((Holds w0 w [] → Holds w0 w' []) ∧ (i ∈ T ∨ (Holds w0 w rc → Holds w0 w' rc))) ∧ wpAnyC P ops T (fun w => Holds w0 w []) (fun w => Holds w0 w rc) Q fuel (listed.setIfInBounds i true) a' w') a w := by
  have h := k a w hf hw
  have hsat : ∀ {l m : List Res} {w' : World}, Holds w0 w' (l ++ m) → Holds w0 w' l := fun {l m w'} h => by
    have h' : Holds w0 w' (m ++ l) := h.perm List.perm_append_comm
    clear h
    induction m with
    | nil => exact h'
    | cons x m ih => exact ih h'.tail
  have conv : ∀ a' w', GAk P ops T rc Q w0 fuel listed i a' w' →
      ((Holds w0 w [] → Holds w0 w' []) ∧ (i ∈ T ∨ (Holds w0 w rc → Holds w0 w' rc))) ∧ wpAnyC P ops T (fun w => Holds w0 w []) (fun w => Holds w0 w rc) Q fuel (listed.setIfInBounds i true) a' w' := by
    rintro a' w' ⟨⟨rs', h1, h2⟩, h3⟩
    refine ⟨⟨fun _ => hsat (l := []) (m := rs') (by simpa using h1), h2.imp id fun ⟨left, hl⟩ _ => hsat (h1.take hl)⟩, h3⟩
  unfold wpOp
  simp only [ho]
  simp only [wpList] at h
  split
  · rename_i hw'
    rw [if_pos hw'] at h
    refine h.imp (fun h => ?_) id
    unfold Oper.wp at h ⊢
    generalize (execOp a.eval o).run P w = r at h ⊢
    cases r with
    | ok nx w' =>
      cases nx <;> simp only [Oper.upon] at h ⊢
      case enter f args =>
        refine Calls.mono h fun e w'' he => ?_
        cases e with
        | returned u => exact conv _ _ he
        | panicked c => exact he
        | outgrown => exact he
      case row row args => exact Rows.mono h fun _ _ he => conv _ _ he
      all_goals exact conv _ _ h
    | halt x w' => cases x <;> simp only [Oper.upon] at h ⊢ <;> exact h
  · rename_i hw'
    rw [if_neg hw'] at h
    exact conv _ _ h
/-- the one operation that may come up is carried out -/
theorem GA.one {i : Nat} {o : Oper} (hr : Region.ready .any ops listed = [i]) (ho : ops[i]? = some o) (k : @G P ops (Exit.then (GAk P ops T rc Q w0 fuel listed i) Q) n ds w0 [o] fr rs) : @GA P ops T rc Q n ds w0 (fuel + 1) listed fr rs := by
  intro a w hf hw
  refine ⟨fun h0 => (by rw [hr] at h0; cases h0), fun j hj => ?_⟩
  rw [hr] at hj
  obtain rfl : j = i := by simpa using hj
  exact GA.op ho k hf hw
/-- two may come up -/
theorem GA.two {i j : Nat} {o o' : Oper} (hr : Region.ready .any ops listed = [i, j]) (ho : ops[i]? = some o) (ho' : ops[j]? = some o') (k : @G P ops (Exit.then (GAk P ops T rc Q w0 fuel listed i) Q) n ds w0 [o] fr rs) (k' : @G P ops (Exit.then (GAk P ops T rc Q w0 fuel listed j) Q) n ds w0 [o'] fr rs) : @GA P ops T rc Q n ds w0 (fuel + 1) listed fr rs := by
  intro a w hf hw
  refine ⟨fun h0 => (by rw [hr] at h0; cases h0), fun m hm => ?_⟩
  rw [hr] at hm
  rcases List.mem_cons.1 hm with rfl | hm
  · exact GA.op ho k hf hw
  · obtain rfl : m = j := by simpa using hm
    exact GA.op ho' k' hf hw
theorem GA.back {i : Nat} {fr' : Slots} {rs' : List Res} (h : i ∈ T ∨ ∃ left, Takes rs' rc left) (k : @GA P ops T rc Q n ds w0 fuel (listed.setIfInBounds i true) fr' rs') : @GE (Exit.then (GAk P ops T rc Q w0 fuel listed i) Q) .normal n ds w0 fr' rs' :=
  fun a w hf hw => ⟨⟨rs', hw, h⟩, k a w hf hw⟩
end
/-- what holds behind a piece of code, whatever way was gone -/
def PPost {ι : Type} (φ : ι → Prop) (frI : ι → Slots) (rsI : ι → List Res) (rl : List Res) (n : Nat) (ds : List Deferred) (w0 : World) : Act → World → Prop := fun a w => ∃ j, φ j ∧ Fr ds a n (frI j) ∧ Holds w0 w (rsI j ++ rl)
section
variable {P : Program} {Q : Exit → Act → World → Prop} {n : Nat} {ds : List Deferred} {w0 : World} {fr : Slots} {rs : List Res}
/-- one piece of code by itself: its ways meet behind it -/
theorem GC.meet {c : Code} {ι : Type} (φ : ι → Prop) (frI : ι → Slots) (rsI : ι → List Res) (rl : List Res) (h : @GC P c (Exit.then (PPost φ frI rsI rl n ds w0) Q) n ds w0 fr rs)
    (k : ∀ i, φ i → ∀ fr' rs', fr' = frI i → rs' = rsI i ++ rl → @GE Q .normal n ds w0 fr' rs') : @GC P c Q n ds w0 fr rs := by
  intro a w hf hw
  refine wp_mono (h a w hf hw) fun e a' w' hq => ?_
  cases e with
  | normal =>
    obtain ⟨i, h1, h2, h3⟩ := hq
    exact k i h1 _ _ rfl rfl a' w' h2 h3
  | _ => exact hq
theorem GE.meet {ι : Type} {φ : ι → Prop} {frI : ι → Slots} {rsI : ι → List Res} {rl r2 : List Res} (j : ι) (hj : φ j) (hf : fits (frI j) fr) (ht : Takes rs (rsI j) r2) (hs : Subs rl r2) : @GE (Exit.then (PPost φ frI rsI rl n ds w0) Q) .normal n ds w0 fr rs := by
  intro a w hf' hw
  refine ⟨j, hj, hf'.sub hf, ?_⟩
  have h1 := hw.take ht
  clear hw ht
  induction hs with
  | refl => exact h1
  | @skip x r1 r3 _ ih =>
    have : (rsI j ++ x :: r3).Perm (x :: (rsI j ++ r3)) := List.perm_middle
    exact ih (h1.perm this).tail
end
end Go.Proofs.YtjfdpfjngajnlaaDoor
