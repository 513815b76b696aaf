/-
  THE KIT OF MY OWN, SECOND PART: slots and resources in one judgement ('G', 'GC', 'GE'); contracts ('Spec'). Over any program; no condition.
-/
import Derived.Test.YtmceappjldcbmaaGreatDoorKit
namespace Go.Proofs.YtmceappjldcbmaaGreatDoor
open Go.RowKit Go.Sort
set_option linter.unusedVariables false
set_option linter.unusedSimpArgs false

/-- slots and what they hold, the newest first -/
abbrev Slots := List (Nat × Value)
def look : Slots → Nat → Option Value
  | [], _ => none
  | (j, v) :: t, i => bif Nat.beq j i then some v else look t i
def ev (fr : Slots) : Operand → Option Value
  | .tmp t => look fr t
  | .const v => some v
  | .global g => some (.pointer (some ⟨g, 0, none⟩))
  | .func f => some (.func (.func f) #[] #[])
structure FrE (a : Act) (n : Nat) (fr : Slots) : Prop where
  size : a.tmps.size = n
  has : ∀ i v, look fr i = some v → a.tmps[i]? = some v
structure Fr (ds : List Deferred) (a : Act) (n : Nat) (fr : Slots) : Prop extends FrE a n fr where
  defers : a.defers = ds
instance {ds : List Deferred} {a : Act} {n : Nat} {fr : Slots} : CoeOut (Fr ds a n fr) (FrE a n fr) := ⟨fun h => h.toFrE⟩

section
variable {a : Act} {n : Nat} {ds : List Deferred} {fr : Slots}
theorem FrE.ev (h : FrE a n fr) {x : Operand} {v : Value} (e : ev fr x = some v) : a.eval x = v := by
  cases x with
  | tmp t =>
    have := h.has t v e
    show a.tmps.getD t undef = v
    rw [Array.getD_eq_getD_getElem?, this]; rfl
  | const u => exact Option.some.inj e
  | global g => exact Option.some.inj e
  | func f => exact Option.some.inj e
theorem Fr.put (h : Fr ds a n fr) {d : Nat} (hd : Nat.blt d n = true) (v : Value) : Fr ds (a.put (some d) v) n ((d, v) :: fr) := by
  have hd' : d < n := by simpa [Nat.blt_eq] using hd
  refine ⟨⟨by simp [Act.put, h.size], fun i u e => ?_⟩, h.defers⟩
  simp only [look] at e
  simp only [Act.put, Array.getElem?_setIfInBounds, h.size]
  by_cases hi : d = i
  · subst hi
    simp only [Nat.beq_refl, cond_true, Option.some.injEq] at e
    rw [if_pos rfl, if_pos hd', e]
  · have hb : Nat.beq d i = false := by
      cases hb : Nat.beq d i with
      | false => rfl
      | true => exact absurd (Nat.eq_of_beq_eq_true hb) hi
    rw [hb] at e
    rw [if_neg hi]
    exact h.has i u e
theorem Fr.put_none (h : Fr ds a n fr) (v : Value) : Fr ds (a.put none v) n fr := h
/-- fewer slots: each that is named is found -/
def fits : Slots → Slots → Prop
  | [], _ => True
  | (i, v) :: t, fr => look fr i = some v ∧ fits t fr
theorem fits.look : ∀ {t fr : Slots}, fits t fr → ∀ i v, look t i = some v → look fr i = some v
  | [], _, _, i, v, e => by simp [_root_.Go.Proofs.YtmceappjldcbmaaGreatDoor.look] at e
  | (j, u) :: t, fr, h, i, v, e => by
    simp only [_root_.Go.Proofs.YtmceappjldcbmaaGreatDoor.look] at e
    cases hb : Nat.beq j i with
    | true =>
      rw [hb] at e
      have := Nat.eq_of_beq_eq_true hb
      subst this
      have e' : u = v := by simpa using e
      subst e'
      exact h.1
    | false =>
      rw [hb] at e
      exact fits.look h.2 i v (by simpa using e)
theorem Fr.sub (h : Fr ds a n fr) {fr' : Slots} (hf : fits fr' fr) : Fr ds a n fr' := ⟨⟨h.size, fun i v e => h.has i v (hf.look i v e)⟩, h.defers⟩
end

/-- from here on: whatever frame has these slots, whatever world has these resources -/
def G {P : Program} {ops : Array Oper} {Q : Exit → Act → World → Prop} {n : Nat} {ds : List Deferred} {w0 : World} (rest : List Oper) (fr : Slots) (rs : List Res) : Prop :=
  ∀ a w, Fr ds a n fr → Holds w0 w rs → wpList P ops Q rest a w
def GC {P : Program} (c : Code) {Q : Exit → Act → World → Prop} {n : Nat} {ds : List Deferred} {w0 : World} (fr : Slots) (rs : List Res) : Prop :=
  ∀ a w, Fr ds a n fr → Holds w0 w rs → c.wp P Q a w
def GE {Q : Exit → Act → World → Prop} (e : Exit) {n : Nat} {ds : List Deferred} {w0 : World} (fr : Slots) (rs : List Res) : Prop :=
  ∀ a w, Fr ds a n fr → Holds w0 w rs → Q e a w
/-- the same in a region that draws its order -/
def Gq {P : Program} {ops : Array Oper} {K : Act → Prop} {n : Nat} {ds : List Deferred} {w0 : World} (rs : List Res) (rest : List Oper) (fr : Slots) : Prop :=
  ∀ a, Fr ds a n fr → wpQuiet P ops (fun w => Holds w0 w rs) K rest a
/-- an operation that yields v and leaves the world alone -/
def Ex (P : Program) (n : Nat) (w0 : World) (rs : List Res) (fr : Slots) (op : Op) (ty : TypeId) (v : Value) : Prop :=
  ∀ a w dst pos after guard, FrE a n fr → Holds w0 w rs → (execOp a.eval ⟨dst, op, ty, pos, after, guard⟩).run P w = .ok (.value v) w

/-- what may be had twice -/
def Res.isPer : Res → Bool
  | .sl .. => true
  | .per _ => true
  | _ => false
theorem Res.isPer_sat {r : Res} (h : r.isPer = true) {f o o' : Hp} (hs : r.sat f o) : r.sat f o' := by
  cases r <;> first | exact hs | simp [Res.isPer] at h
/-- which resources come first -/
inductive Take1 : List Res → Res → List Res → Prop where
  | here {r rs} : Take1 (r :: rs) r rs
  | there {x r rs rs'} : Take1 rs r rs' → Take1 (x :: rs) r (x :: rs')
inductive Takes : List Res → List Res → List Res → Prop where
  | nil {rs} : Takes rs [] rs
  | cons {r need rs rs' rs''} : Take1 rs r rs' → Takes rs' need rs'' → Takes rs (r :: need) rs''
  | dup {r need rs rs' rs''} : r.isPer = true → Take1 rs r rs' → Takes rs need rs'' → Takes rs (r :: need) rs''
inductive Subs : List Res → List Res → Prop where
  | refl {rs} : Subs rs rs
  | skip {x rs rs'} : Subs rs rs' → Subs rs (x :: rs')
theorem tn_ {rs : List Res} : Takes rs [] rs := .nil
theorem tc_ {r : Res} {need rs rs' rs'' : List Res} (h : Take1 rs r rs') (k : Takes rs' need rs'') : Takes rs (r :: need) rs'' := .cons h k
theorem td_ {r : Res} {need rs rs' rs'' : List Res} (p : r.isPer = true) (h : Take1 rs r rs') (k : Takes rs need rs'') : Takes rs (r :: need) rs'' := .dup p h k
theorem Take1.perm {rs rs' : List Res} {r : Res} (h : Take1 rs r rs') : rs.Perm (r :: rs') := by
  induction h with
  | here => exact .refl _
  | there h ih => exact (ih.cons _).trans (.swap ..)
theorem Holds.take' {w0 w : World} {rs need rs' : List Res} (h : Takes rs need rs') : ∀ pre : List Res, Holds w0 w (pre ++ rs) → Holds w0 w (pre ++ (need ++ rs')) := by
  induction h with
  | nil => exact fun pre H => H
  | @cons r need rs rs' rs'' h1 h2 ih =>
    intro pre H
    have := ih (pre ++ [r]) (by rw [List.append_assoc]; exact H.perm (h1.perm.append_left pre))
    simpa using this
  | @dup r need rs rs' rs'' hp h1 h2 ih =>
    intro pre H
    have hd : Holds w0 w (r :: (pre ++ rs)) := H.derive (List.mem_append_right _ (h1.perm.mem_iff.2 (List.mem_cons_self ..))) r (fun f o o' hs => Res.isPer_sat hp hs)
    have := ih (pre ++ [r]) (by rw [List.append_assoc]; exact hd.perm List.perm_middle.symm)
    simpa using this
theorem Holds.take {w0 w : World} {rs need rs' : List Res} (H : Holds w0 w rs) (h : Takes rs need rs') : Holds w0 w (need ++ rs') := Holds.take' h [] H
/-- one resource changed in its place -/
inductive Upd : List Res → Res → Res → List Res → Prop where
  | here {r r' rs} : Upd (r :: rs) r r' (r' :: rs)
  | there {x r r' rs rs'} : Upd rs r r' rs' → Upd (x :: rs) r r' (x :: rs')
theorem Upd.split {rs rs' : List Res} {r r' : Res} (h : Upd rs r r' rs') : ∃ l, rs.Perm (r :: l) ∧ rs'.Perm (r' :: l) := by
  induction h with
  | here => exact ⟨_, .refl _, .refl _⟩
  | @there x r r' rs rs' h ih =>
    obtain ⟨l, h1, h2⟩ := ih
    exact ⟨x :: l, (h1.cons x).trans (.swap ..), (h2.cons x).trans (.swap ..)⟩

/-- a contract: with these resources (and whatever others) the call comes back with v and gives resources back -/
def Spec (P : Program) (f : FuncId) (args : List Value) (need : List Res) (post : Value → List Res → Prop) : Prop :=
  ∀ w0 rest w, Holds w0 w (need ++ rest) → Calls P f args.toArray w fun e w' => ∃ v give, post v give ∧ e = .returned v ∧ Holds w0 w' (give ++ rest)
def FPost (P : Program) (fn : Func) (w0 : World) (rest : List Res) (post : Value → List Res → Prop) : Exit → Act → World → Prop :=
  bodyPost P fn fun e w' => ∃ v give, post v give ∧ e = .returned v ∧ Holds w0 w' (give ++ rest)
def argSlots : List Value → Nat → Slots
  | [], _ => []
  | v :: t, i => (i, v) :: argSlots t (i + 1)
theorem look_argSlots : ∀ (l : List Value) (k i : Nat) (v : Value), look (argSlots l k) i = some v → k ≤ i ∧ l[i - k]? = some v
  | [], _, _, _, h => by simp [argSlots, look] at h
  | u :: t, k, i, v, h => by
    simp only [argSlots, look] at h
    cases hb : Nat.beq k i with
    | true =>
      have := Nat.eq_of_beq_eq_true hb
      subst this
      rw [hb] at h
      simpa using h
    | false =>
      rw [hb] at h
      obtain ⟨h1, h2⟩ := look_argSlots t (k + 1) i v (by simpa using h)
      refine ⟨by omega, ?_⟩
      have : i - k = (i - (k + 1)) + 1 := by omega
      rw [this]; simpa using h2
theorem Spec.intro {P : Program} {f : FuncId} {fn : Func} {c : Code} {args : List Value} {need : List Res} {post : Value → List Res → Prop} {n : Nat}
    (hf : P.funcs[f]? = some fn) (hb : fn.body = some c) (hn : fn.ntmps = n) (hl : Nat.ble args.length n = true)
    (h : ∀ w0 rest rs, rs = need ++ rest → @GC P c (FPost P fn w0 rest post) n [] w0 (argSlots args 0) rs) : Spec P f args need post := by
  intro w0 rest w H
  refine calls_of_wp hf hb (h w0 rest _ rfl _ _ ⟨⟨?_, fun i v e => ?_⟩, rfl⟩ H)
  · have := Nat.le_of_ble_eq_true hl
    simp [hn]; omega
  · obtain ⟨_, h2⟩ := look_argSlots args 0 i v e
    simp only [Nat.sub_zero] at h2
    have hlt := (List.getElem?_eq_some_iff.1 h2).1
    rw [Array.getElem?_append_left (by simpa using hlt)]
    simpa using h2
theorem Spec.mono {P : Program} {f : FuncId} {args : List Value} {need : List Res} {post post' : Value → List Res → Prop} (S : Spec P f args need post) (h : ∀ v give, post v give → post' v give) : Spec P f args need post' :=
  fun w0 rest w H => (S w0 rest w H).mono fun _ _ ⟨v, give, hp, he, hh⟩ => ⟨v, give, h _ _ hp, he, hh⟩
theorem Spec.calls {P : Program} {f : FuncId} {args : List Value} {need : List Res} {post : Value → List Res → Prop} (S : Spec P f args need post) {w0 w : World} (H : Holds w0 w need) :
    Calls P f args.toArray w fun e w' => ∃ v give, post v give ∧ e = .returned v ∧ Holds w0 w' give :=
  (S w0 [] w (by simpa using H)).mono fun _ _ ⟨v, give, hp, he, hh⟩ => ⟨v, give, hp, he, by simpa using hh⟩

section
variable {P : Program} {ops : Array Oper} {Q : Exit → Act → World → Prop} {n : Nat} {ds : List Deferred} {w0 : World} {rest : List Oper} {fr : Slots} {rs : List Res}
theorem GC.seq {x y : Code} (h : @GC P x (Exit.then (y.wp P Q) Q) n ds w0 fr rs) : @GC P (.seq x y) Q n ds w0 fr rs := fun a w hf hw => wp_seq (h a w hf hw)
theorem GC.block {id : Nat} {c : Code} (h : @GC P c (Exit.inBlock id Q) n ds w0 fr rs) : @GC P (.block id c) Q n ds w0 fr rs := fun a w hf hw => wp_block (h a w hf hw)
theorem GC.skip (h : @GE Q .normal n ds w0 fr rs) : @GC P .skip Q n ds w0 fr rs := fun a w hf hw => wp_skip (h a w hf hw)
theorem GC.ret (h : @GE Q .ret n ds w0 fr rs) : @GC P .ret Q n ds w0 fr rs := fun a w hf hw => wp_ret (h a w hf hw)
theorem GC.exit {id : Nat} (h : @GE Q (.exit id) n ds w0 fr rs) : @GC P (.exit id) Q n ds w0 fr rs := fun a w hf hw => wp_exit (h a w hf hw)
theorem GC.region {id : Nat} {l : List Oper} (h : @G P l.toArray Q n ds w0 l fr rs) : @GC P (.region id l.toArray false) Q n ds w0 fr rs := fun a w hf hw => wp_region_lit (h a w hf hw)
theorem GC.draw {id : Nat} {l : List Oper} (hm : P.follows .mixedOrders = true) (hB : Region.lexB .any l.toArray = true) (h : @Gq P l.toArray (fun a' => ∀ w', Holds w0 w' rs → Q .normal a' w') n ds w0 rs l fr) :
    @GC P (.region id l.toArray true) Q n ds w0 fr rs :=
  fun a w hf hw => wp_region_quiet (C := fun w' => Holds w0 w' rs) hm hB (hw.same rfl rfl rfl rfl) (by simpa using h a hf)
theorem Gq.nil (h : @GE Q .normal n ds w0 fr rs) : @Gq P ops (fun a' => ∀ w', Holds w0 w' rs → Q .normal a' w') n ds w0 rs [] fr := fun a hf => wpQuiet_nil fun w' hw => h a w' hf hw
theorem G.nil (h : @GE Q .normal n ds w0 fr rs) : @G P ops Q n ds w0 [] fr rs := fun a w hf hw => wpList_nil (h a w hf hw)
theorem GE.then_normal {y : Code} (h : @GC P y Q n ds w0 fr rs) : @GE (Exit.then (y.wp P Q) Q) .normal n ds w0 fr rs := fun a w hf hw => h a w hf hw
theorem GE.then_ret {K : Act → World → Prop} (h : @GE Q .ret n ds w0 fr rs) : @GE (Exit.then K Q) .ret n ds w0 fr rs := fun a w hf hw => h a w hf hw
theorem GE.then_exit {K : Act → World → Prop} {id : Nat} (h : @GE Q (.exit id) n ds w0 fr rs) : @GE (Exit.then K Q) (.exit id) n ds w0 fr rs := fun a w hf hw => h a w hf hw
theorem GE.block_normal {id : Nat} (h : @GE Q .normal n ds w0 fr rs) : @GE (Exit.inBlock id Q) .normal n ds w0 fr rs := fun a w hf hw => h a w hf hw
theorem GE.block_ret {id : Nat} (h : @GE Q .ret n ds w0 fr rs) : @GE (Exit.inBlock id Q) .ret n ds w0 fr rs := fun a w hf hw => h a w hf hw
theorem GE.block_hit {id : Nat} (h : @GE Q .normal n ds w0 fr rs) : @GE (Exit.inBlock id Q) (.exit id) n ds w0 fr rs := fun a w hf hw => by
  show if id = id then Q .normal a w else Q (.exit id) a w
  rw [if_pos rfl]; exact h a w hf hw
theorem GE.block_miss {id id' : Nat} (hne : Nat.beq id' id = false) (h : @GE Q (.exit id') n ds w0 fr rs) : @GE (Exit.inBlock id Q) (.exit id') n ds w0 fr rs := fun a w hf hw => by
  show if id' = id then Q .normal a w else Q (.exit id') a w
  rw [if_neg (fun e => by rw [e, Nat.beq_refl] at hne; cases hne)]; exact h a w hf hw
theorem GC.cond_dec {c : Operand} {x y : Code} {p : Prop} {_ : Decidable p} (hc : ev fr c = some (.bool (decide p))) (ht : p → @GC P x Q n ds w0 fr rs) (hf : ¬p → @GC P y Q n ds w0 fr rs) : @GC P (.cond c x y) Q n ds w0 fr rs :=
  fun a w hfr hw => wp_cond_split (hfr.ev hc) (fun h => ht (of_decide_eq_true h) a w hfr hw) (fun h => hf (of_decide_eq_false h) a w hfr hw)
theorem GC.cond_yes {c : Operand} {x y : Code} {p : Prop} {_ : Decidable p} (hc : ev fr c = some (.bool (decide p))) (hp : p) (ht : @GC P x Q n ds w0 fr rs) : @GC P (.cond c x y) Q n ds w0 fr rs :=
  .cond_dec hc (fun _ => ht) (fun h => absurd hp h)
theorem GC.cond_no {c : Operand} {x y : Code} {p : Prop} {_ : Decidable p} (hc : ev fr c = some (.bool (decide p))) (hp : ¬p) (hf : @GC P y Q n ds w0 fr rs) : @GC P (.cond c x y) Q n ds w0 fr rs :=
  .cond_dec hc (fun h => absurd h hp) (fun _ => hf)
theorem GC.cond_bool {c : Operand} {x y : Code} {b : Bool} (hc : ev fr c = some (.bool b)) (ht : b = true → @GC P x Q n ds w0 fr rs) (hf : b = false → @GC P y Q n ds w0 fr rs) : @GC P (.cond c x y) Q n ds w0 fr rs :=
  fun a w hfr hw => wp_cond_split (hfr.ev hc) (fun h => ht h a w hfr hw) (fun h => hf h a w hfr hw)

/-- the relation at the head of a round: ghosts i, slots and resources as functions of them -/
def LPost {ι : Type} (φ : ι → Prop) (m : ι → Nat) (frI : ι → Slots) (rsI : ι → List Res) (rl : List Res) (n : Nat) (ds : List Deferred) (w0 : World) (i : ι) : Act → World → Prop :=
  fun a w => ∃ j, φ j ∧ m j < m i ∧ Fr ds a n (frI j) ∧ Holds w0 w (rsI j ++ rl)
theorem GC.loop {c : Code} {ι : Type} (φ : ι → Prop) (m : ι → Nat) (frI : ι → Slots) (rsI : ι → List Res) (i0 : ι) (h0 : φ i0) (hf : fits (frI i0) fr) {rl : List Res} (ht : Takes rs (rsI i0) rl)
    (round : ∀ i, φ i → ∀ fr' rs', fr' = frI i → rs' = rsI i ++ rl → @GC P c (Exit.then (LPost φ m frI rsI rl n ds w0 i) Q) n ds w0 fr' rs') : @GC P (.loop c) Q n ds w0 fr rs := by
  intro a w hfr hw b kk cs
  have key : ∀ k i a w, m i ≤ k → φ i → Fr ds a n (frI i) → Holds w0 w (rsI i ++ rl) →
      ∃ e a' w', Q e a' w' ∧ Arrives P (lone (b.at a (.code c :: .inLoop c :: kk)) cs w) b kk cs e a' w' := by
    intro k
    induction k with
    | zero =>
      intro i a w hk hi h1 h2
      obtain ⟨e, a', w', hq, harr⟩ := round i hi _ _ rfl rfl a w h1 h2 b (.inLoop c :: kk) cs
      cases e with
      | normal => obtain ⟨j, _, hj, _⟩ := hq; exact absurd hj (by omega)
      | exit id => exact ⟨_, a', w', hq, .pass (x := .inLoop c) rfl (fun _ _ => .inl (by simp)) harr⟩
      | goto l => exact ⟨_, a', w', hq, .pass (x := .inLoop c) rfl (fun _ _ => .inl (by simp)) harr⟩
      | ret => exact ⟨_, a', w', hq, .pass (x := .inLoop c) rfl (fun _ _ => .inl (by simp)) harr⟩
      | panic ch => exact ⟨_, a', w', hq, .pass (x := .inLoop c) rfl (fun _ _ => .inl (by simp)) harr⟩
      | outgrown => exact ⟨_, a', w', hq, .pass (x := .inLoop c) rfl (fun _ _ => .inl (by simp)) harr⟩
    | succ k ih =>
      intro i a w hk hi h1 h2
      obtain ⟨e, a', w', hq, harr⟩ := round i hi _ _ rfl rfl a w h1 h2 b (.inLoop c :: kk) cs
      cases e with
      | normal =>
        obtain ⟨j, hj1, hj2, hj3, hj4⟩ := hq
        obtain ⟨e2, a2, w2, hq2, harr2⟩ := ih j a' w' (by omega) hj1 hj3 hj4
        exact ⟨e2, a2, w2, hq2, .of_steps (Steps.trans harr (.one step_inLoop)) harr2⟩
      | exit id => exact ⟨_, a', w', hq, .pass (x := .inLoop c) rfl (fun _ _ => .inl (by simp)) harr⟩
      | goto l => exact ⟨_, a', w', hq, .pass (x := .inLoop c) rfl (fun _ _ => .inl (by simp)) harr⟩
      | ret => exact ⟨_, a', w', hq, .pass (x := .inLoop c) rfl (fun _ _ => .inl (by simp)) harr⟩
      | panic ch => exact ⟨_, a', w', hq, .pass (x := .inLoop c) rfl (fun _ _ => .inl (by simp)) harr⟩
      | outgrown => exact ⟨_, a', w', hq, .pass (x := .inLoop c) rfl (fun _ _ => .inl (by simp)) harr⟩
  obtain ⟨e, a', w', hq, harr⟩ := key _ i0 a w (Nat.le_refl _) h0 (hfr.sub hf) (hw.take ht)
  exact ⟨e, a', w', hq, .of_steps (.one step_loop) harr⟩
end
end Go.Proofs.YtmceappjldcbmaaGreatDoor
