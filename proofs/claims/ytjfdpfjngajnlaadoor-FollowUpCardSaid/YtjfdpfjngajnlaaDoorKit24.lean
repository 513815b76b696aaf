/-
  THE KIT OF MY OWN, TWENTY-FOURTH PART: ranges over functions: the loop's record, a round (its body walked in a round's frame), the iterator's call of yield, the statement itself, a function that leaves with a mark. Over any program; no condition.
-/
import Derived.Test.YtjfdpfjngajnlaaDoorKit20
import Derived.RangeFuncIn
import Derived.RangeFuncLeaves
import Derived.RangeFuncCalls
namespace Go.Proofs.YtjfdpfjngajnlaaDoor
open Go.RowKit Go.Sort
set_option linter.unusedVariables false
set_option linter.unusedSimpArgs false

def LoopR (l : Nat) (r : Loop) : Own2 where
  sat _ o := o l = some (.loop r)
  mono := fun _ ho h => ho _ _ h
def DefR (d : Nat) : Own2 where
  sat _ o := o d = some (.deferred (some []))
  mono := fun _ ho h => ho _ _ h
def Any2 : Own2 where
  sat _ _ := True
  mono := fun _ _ h => h
section
variable {P : Program} {w0 w : World} {rs : List Res} {l D : Nat} {r r' : Loop}
theorem loop_blk (H : Holds w0 w (.own (LoopR l r) :: rs)) : w.heap[l]? = some (.loop r) := H.at (List.mem_cons_self ..)
theorem def_blk (H : Holds w0 w (.own (DefR D) :: rs)) : w.heap[D]? = some (.deferred (some [])) := H.at (List.mem_cons_self ..)
theorem Holds.setLoop (H : Holds w0 w (.own (LoopR l r) :: rs)) : Holds w0 { w with heap := w.heap.setIfInBounds l (.loop r') } (.own (LoopR l r') :: rs) := by
  refine H.step rfl rfl rfl (by simp) fun f o hr hf ho => ?_
  have hr' : o l = some (.loop r) := hr
  have hb : w.heap[l]? = some (.loop r) := ho _ _ hr'
  have hlt := (Array.getElem?_eq_some_iff.1 hb).1
  refine ⟨Hp.one l (.loop r'), Hp.one_self _ _, Hp.one_le ?_, fun i hi hno => ?_⟩
  · show (w.heap.setIfInBounds l _)[l]? = _
    simp [hlt]
  · have hib : i ≠ l := fun e => by rw [e, hr'] at hno; cases hno
    refine ⟨Hp.one_ne _ hib, ?_⟩
    show (w.heap.setIfInBounds l _)[i]? = w.heap[i]?
    rw [Array.getElem?_setIfInBounds_ne (Ne.symm hib)]
theorem Holds.shutDef (H : Holds w0 w (.own (DefR D) :: rs)) : Holds w0 { w with heap := w.heap.setIfInBounds D (.deferred none) } rs := by
  refine Holds.tail (r := .own Any2) (H.step rfl rfl rfl (by simp) fun f o hr hf ho => ?_)
  have hr' : o D = some (.deferred (some [])) := hr
  refine ⟨Hp.nil, trivial, fun k o e => (by cases e), fun i hi hno => ?_⟩
  have hib : i ≠ D := fun e => by rw [e, hr'] at hno; cases hno
  refine ⟨rfl, ?_⟩
  show (w.heap.setIfInBounds D _)[i]? = w.heap[i]?
  rw [Array.getElem?_setIfInBounds_ne (Ne.symm hib)]
theorem getLoop_run (h : w.heap[l]? = some (.loop r)) : (Instr.getLoop l).run P w = .ok r w := by simp [Instr.getLoop, getObj, Sem.run, h]
theorem setL_run {o' : Obj} (h : w.heap[l]? = some (.loop r)) : (setObj l o').run P w = .ok () { w with heap := w.heap.setIfInBounds l o' } := by simp [setObj, Sem.run, h]
theorem begin_run (h : w.heap[l]? = some (.loop r)) (hs : r.state = .ready) : (Instr.beginRound l).run P w = .ok () { w with heap := w.heap.setIfInBounds l (.loop { r with state := .busy }) } := by
  simp [Instr.beginRound, Sem.run_bind, getLoop_run h, setL_run h, hs]
theorem end_run (h : w.heap[l]? = some (.loop r)) : (Instr.endRound l none).run P w = .ok (.bool true) { w with heap := w.heap.setIfInBounds l (.loop { r with state := .ready, pending := none }) } := by
  simp [Instr.endRound, Sem.run_bind, getLoop_run h, setL_run h]
theorem endLoop_run (h : w.heap[l]? = some (.loop r)) (hs : r.state = .ready) : (Instr.endLoop l).run P w = .ok r.pending { w with heap := w.heap.setIfInBounds l (.loop { r with state := .exhausted }) } := by
  simp [Instr.endLoop, Sem.run_bind, getLoop_run h, setL_run h, hs]
theorem take_run (h : w.heap[D]? = some (.deferred (some []))) : (Instr.takeDeferred D).run P w = .ok [] { w with heap := w.heap.setIfInBounds D (.deferred none) } := by
  simp [Instr.takeDeferred, Sem.run_bind, getObj, setObj, Sem.run, h]
end

/-! lists of operations, walked in whatever frame -/
def noDef (l : List Oper) : Bool := l.all fun o => match o.op with | .defer _ => false | _ => true
theorem noDef_cons {o : Oper} {l : List Oper} (h : noDef (o :: l) = true) : (∀ c, o.op ≠ .defer c) ∧ noDef l = true := by
  simp only [noDef, List.all_cons, Bool.and_eq_true] at h
  exact ⟨fun c e => by rw [e] at h; exact absurd h.1 Bool.false_ne_true, h.2⟩
/-- what follows a list of operations that ends as it should -/
def Nrm (K : Act → World → Prop) : Exit → Act → World → Prop := fun e a w => e = .normal ∧ K a w
/-- the plain frame, or a round's -/
def fen : Option Nat → Fence
  | none => Fence.wide
  | some l => Fence.wide.inRound l
theorem fen_calls {ro : Option Nat} {k : Nat} {P : Program} {f : FuncId} {args : Array Value} {w : World} {R : Ending → World → Prop} (h : Calls P f args w R) : CallsIn (fen ro) k P f args w R := by
  cases ro with
  | none => exact callsIn_wide.2 h
  | some l => exact CallsIn.inRound l (callsIn_wide.2 h)
theorem fen_rows {ro : Option Nat} {k : Nat} {P : Program} {row : String} {args : Array Value} {w : World} {R : Value → World → Prop} (h : Rows P row args w R) : RowsIn (fen ro) k P row args w R := by
  have h' : RowsIn Fence.wide k P row args w R := fun c cs _ => by
    obtain ⟨v, w', r, s⟩ := h c cs
    exact ⟨v, w', r, stepsIn_wide.2 s⟩
  cases ro with
  | none => exact h'
  | some l => exact h'
theorem fen_fn (ro : Option Nat) (f : FuncId) : (fen ro).fn f := by
  cases ro <;> exact trivial
theorem fen_depth (ro : Option Nat) : (fen ro).depth = none := by
  cases ro <;> rfl
theorem fen_sem {ro : Option Nat} {ρ : Operand → Value} {o : Oper} (h : ∀ c, o.op ≠ .defer c) : Oper.semAt (fen ro).round ρ o = execOp ρ o := by
  cases ro with
  | none => rfl
  | some l => exact Oper.semAt_some l ρ o h
theorem list_in {ro : Option Nat} {P : Program} {ops : Array Oper} {Q : Exit → Act → World → Prop} {l2 : List Oper} : ∀ {l1 : List Oper} {a : Act} {w : World}, noDef l1 = true →
    wpList P ops (Nrm (wpListIn (fen ro) 0 P ops Q l2)) l1 a w → wpListIn (fen ro) 0 P ops Q (l1 ++ l2) a w := by
  intro l1
  induction l1 with
  | nil => exact fun _ h => h.2
  | cons o rest ih =>
    intro a w hd h
    obtain ⟨hd1, hd2⟩ := noDef_cons hd
    have hlo : ¬ LetsOut (Nrm (wpListIn (fen ro) 0 P ops Q l2)) := fun ⟨_, _, h, _⟩ => nomatch h
    rw [List.cons_append]
    unfold wpList at h
    unfold wpListIn
    by_cases hw : Region.wanted o (yielded ops a.tmps) = true
    · rw [if_pos hw] at h ⊢
      rcases h with h | ⟨_, h⟩
      · refine ⟨fun f _ => fen_fn ro f, ?_⟩
        rw [fen_sem hd1]
        unfold Oper.wp at h
        cases hr : (execOp a.eval o).run P w with
        | ok nx w' =>
          rw [hr] at h
          cases nx with
          | value v => exact ih hd2 h
          | skip => exact ih hd2 h
          | defer d => exact ih hd2 h
          | enter f args =>
            refine ⟨fun k => absurd k (by rw [fen_depth]; decide), fen_calls (Calls.mono h ?_)⟩
            intro e w'' he
            cases e with
            | returned v => exact ih hd2 he
            | panicked c => exact nomatch he.1
            | outgrown => exact absurd he hlo
          | row row args =>
            refine ⟨fun k => absurd k (by rw [fen_depth]; decide), fen_rows ?_⟩
            intro c cs
            obtain ⟨v, w'', r, s⟩ := h c cs
            exact ⟨v, w'', ih hd2 r, s⟩
          | _ => exact h.elim
        | halt x w' =>
          rw [hr] at h
          cases x with
          | panic v => exact nomatch h.1
          | _ => exact h.elim
      · exact absurd h hlo
    · have hw' : Region.wanted o (yielded ops a.tmps) = false := by simpa using hw
      rw [if_neg (by rw [hw']; exact fun h => nomatch h)] at h ⊢
      exact ⟨fun f _ => fen_fn ro f, ih hd2 h⟩

/-! a round -/
/-- code of a round of the loop l -/
def GRC {l : Nat} {P : Program} (c : Code) {Q : Exit → Act → World → Prop} {n : Nat} {ds : List Deferred} {w0 : World} (fr : Slots) (rs : List Res) : Prop :=
  ∀ a w, Fr ds a n fr → Holds w0 w rs → c.wpIn (Fence.wide.inRound l) 0 P Q a w
section
variable {P : Program} {ops : Array Oper} {Q : Exit → Act → World → Prop} {n : Nat} {ds : List Deferred} {w0 : World} {rest : List Oper} {fr : Slots} {rs rs' : List Res} {l : Nat}
theorem GRC.seq {x y : Code} (h : @GRC l P x (Exit.then (y.wpIn (Fence.wide.inRound l) 0 P Q) Q) n ds w0 fr rs) : @GRC l P (.seq x y) Q n ds w0 fr rs := fun a w hf hw => wpIn_seq (h a w hf hw)
theorem GRC.block {id : Nat} {c : Code} (h : @GRC l P c (Exit.inBlock id Q) n ds w0 fr rs) : @GRC l P (.block id c) Q n ds w0 fr rs := fun a w hf hw => wpIn_block (h a w hf hw)
theorem GRC.skip (h : @GE Q .normal n ds w0 fr rs) : @GRC l P .skip Q n ds w0 fr rs := fun a w hf hw => wpIn_skip (h a w hf hw)
theorem GRC.region {id : Nat} {ls : List Oper} (hd : noDef ls = true) (h : @G P ls.toArray (Nrm (Q .normal)) n ds w0 ls fr rs) : @GRC l P (.region id ls.toArray false) Q n ds w0 fr rs := fun a w hf hw => by
  have h1 := list_in (ro := some l) (P := P) (ops := ls.toArray) (Q := Q) (l2 := []) hd (h a w hf hw)
  rw [List.append_nil] at h1
  exact wpIn_region_lit h1
theorem GRC.cond_dec {c : Operand} {x y : Code} {p : Prop} {_ : Decidable p} (hc : ev fr c = some (.bool (decide p))) (ht : p → @GRC l P x Q n ds w0 fr rs) (hf : ¬p → @GRC l P y Q n ds w0 fr rs) : @GRC l P (.cond c x y) Q n ds w0 fr rs :=
  fun a w hfr hw => wpIn_cond_split (hfr.ev hc) (fun h => ht (of_decide_eq_true h) a w hfr hw) (fun h => hf (of_decide_eq_false h) a w hfr hw)
theorem GRC.cond_bool {c : Operand} {x y : Code} {b : Bool} (hc : ev fr c = some (.bool b)) (ht : b = true → @GRC l P x Q n ds w0 fr rs) (hf : b = false → @GRC l P y Q n ds w0 fr rs) : @GRC l P (.cond c x y) Q n ds w0 fr rs :=
  fun a w hfr hw => wpIn_cond_split (hfr.ev hc) (fun h => ht h a w hfr hw) (fun h => hf h a w hfr hw)
theorem GRC.cond_yes {c : Operand} {x y : Code} {p : Prop} {_ : Decidable p} (hc : ev fr c = some (.bool (decide p))) (hp : p) (ht : @GRC l P x Q n ds w0 fr rs) : @GRC l P (.cond c x y) Q n ds w0 fr rs :=
  .cond_dec hc (fun _ => ht) (fun h => absurd hp h)
theorem GRC.cond_no {c : Operand} {x y : Code} {p : Prop} {_ : Decidable p} (hc : ev fr c = some (.bool (decide p))) (hp : ¬p) (hf : @GRC l P y Q n ds w0 fr rs) : @GRC l P (.cond c x y) Q n ds w0 fr rs :=
  .cond_dec hc (fun h => absurd h hp) (fun _ => hf)
theorem GRC.cond_t {c : Operand} {x y : Code} (hc : ev fr c = some (.bool true)) (k : @GRC l P x Q n ds w0 fr rs) : @GRC l P (.cond c x y) Q n ds w0 fr rs := GRC.cond_bool hc (fun _ => k) (fun h => by cases h)
theorem GRC.cond_f {c : Operand} {x y : Code} (hc : ev fr c = some (.bool false)) (k : @GRC l P y Q n ds w0 fr rs) : @GRC l P (.cond c x y) Q n ds w0 fr rs := GRC.cond_bool hc (fun h => by cases h) (fun _ => k)
theorem GE.nrm (h : @GE Q .normal n ds w0 fr rs) : @GE (Nrm (Q .normal)) .normal n ds w0 fr rs := fun a w hf hw => ⟨rfl, h a w hf hw⟩
theorem GE.thenR {y : Code} (h : @GRC l P y Q n ds w0 fr rs) : @GE (Exit.then (y.wpIn (Fence.wide.inRound l) 0 P Q) Q) .normal n ds w0 fr rs := fun a w hf hw => h a w hf hw

/-- a contract of yield: one round of the loop l -/
def YSpec (P : Program) (l : Nat) (args : List Value) (need : List Res) (post : Value → List Res → Prop) : Prop :=
  ∀ w0 rest w, Holds w0 w (need ++ rest) → ∃ fn tmps assign body, (Instr.yield l args.toArray).run P w = .ok (.round l fn tmps assign body) w ∧
    RoundIn Fence.wide 0 P l fn tmps assign body w fun e w' => ∃ v give, post v give ∧ e = .returned v ∧ Holds w0 w' (give ++ rest)
/-- what the end of a round owes -/
def RP (l : Nat) (rec : Loop) (w0 : World) (rest : List Res) (post : List Res → Prop) : Ending → World → Prop :=
  fun e w' => ∃ v give, (v = .bool true ∧ ∃ g, post g ∧ give = .own (LoopR l rec) :: g) ∧ e = .returned v ∧ Holds w0 w' (give ++ rest)
/-- what the assignment to the loop's variables owes -/
def Beg (P : Program) (l : Nat) (body : Code) (R : Ending → World → Prop) : Exit → Act → World → Prop :=
  Exit.then (fun a1 w1 => ∃ w2, (Instr.beginRound l).run P w1 = .ok () w2 ∧ body.wpIn (Fence.wide.inRound l) 0 P (roundPost P l R) a1 w2) (fun _ _ _ => False)
theorem YSpec.two {rec : Loop} {p q : Tmp} {u v : Value} {need : List Res} {post : List Res → Prop} (hps : rec.params = #[p, q]) (hfr : Fr [] ⟨rec.tmps, []⟩ n fr) (hp : Nat.blt p n = true) (hq : Nat.blt q n = true)
    (h : ∀ w0 rest rs, rs = need ++ rest → @GRC l P rec.assign (Beg P l rec.body (RP l rec w0 rest post)) n [] w0 ((q, v) :: (p, u) :: fr) (.own (LoopR l rec) :: rs)) :
    YSpec P l [u, v] (.own (LoopR l rec) :: need) (fun x give => x = .bool true ∧ ∃ g, post g ∧ give = .own (LoopR l rec) :: g) := by
  intro w0 rest w H
  have hb := loop_blk H
  have hf2 := (hfr.put hp u).put hq v
  refine ⟨rec.fn, (rec.tmps.setIfInBounds p u).setIfInBounds q v, rec.assign, rec.body, ?_, ?_⟩
  · simp [Instr.yield, Sem.run_bind, getLoop_run hb, hps]
  · exact roundIn_of_wpIn (F := Fence.wide) (n := 0) trivial (h w0 rest _ rfl _ w hf2 H)
theorem GE.begin {rec : Loop} {body : Code} {R : Ending → World → Prop} {rl : List Res} (hs : rec.state = .ready) (ht : Takes rs [.own (LoopR l rec)] rl) (k : @GRC l P body (roundPost P l R) n ds w0 fr (.own (LoopR l { rec with state := .busy }) :: rl)) :
    @GE (Beg P l body R) .normal n ds w0 fr rs := fun a w hf hw => by
  have h1 : Holds w0 w (.own (LoopR l rec) :: rl) := hw.take ht
  exact ⟨_, begin_run (loop_blk h1) hs, k a _ hf h1.setLoop⟩
theorem GE.endR {rec : Loop} {rest : List Res} {post : List Res → Prop} {g rl : List Res} (hs : rec.state = .ready) (hpn : rec.pending = none) (hg : post g) (ht : Takes rs (.own (LoopR l { rec with state := .busy }) :: g) rl) (hsub : Subs rest rl) :
    @GE (roundPost P l (RP l rec w0 rest post)) .normal n ds w0 fr rs := fun a w hf hw => by
  have h1 := hw.take ht
  have hb := loop_blk h1
  refine ⟨_, _, end_run hb, .bool true, .own (LoopR l rec) :: g, ⟨rfl, g, hg, rfl⟩, rfl, ?_⟩
  have h2 := h1.setLoop (r' := { rec with state := .ready, pending := none })
  have e : ({ rec with state := .ready, pending := none } : Loop) = rec := by cases rec; simp at hs hpn; simp [hs, hpn]
  simp only at h2 ⊢
  rw [e] at h2 ⊢
  clear hw ht h1 hb
  induction hsub with
  | refl => exact h2
  | @skip x r1 r3 _ ih =>
    have hp : ((.own (LoopR l rec) :: g) ++ x :: r3).Perm (x :: ((.own (LoopR l rec) :: g) ++ r3)) := List.perm_middle
    exact ih (h2.perm hp).tail

/-! the iterator -/
theorem GC.regionY {id : Nat} {ls l1 l3 : List Oper} {yop : Oper} (hl : ls = l1 ++ yop :: l3) (hd : noDef l1 = true) (h : @G P ls.toArray (Nrm (wpListIn Fence.wide 0 P ls.toArray Q (yop :: l3))) n ds w0 l1 fr rs) : @GC P (.region id ls.toArray false) Q n ds w0 fr rs :=
  fun a w hf hw => (wpIn_wide (n := 0)).1 (wpIn_region_lit (by
    have h1 := list_in (ro := none) (P := P) (ops := ls.toArray) (Q := Q) hd (h a w hf hw)
    rwa [← hl] at h1))
def cutAt : Nat → List Oper → Option (List Oper × Oper × List Oper)
  | _, [] => none
  | 0, y :: t => some ([], y, t)
  | k + 1, x :: t => match cutAt k t with
    | some (a, y, b) => some (x :: a, y, b)
    | none => none
theorem cutAt_eq : ∀ (k : Nat) (ls l1 l3 : List Oper) (y : Oper), cutAt k ls = some (l1, y, l3) → ls = l1 ++ y :: l3
  | _, [], _, _, _, h => by simp [cutAt] at h
  | 0, x :: t, l1, l3, y, h => by
    simp only [cutAt, Option.some.injEq, Prod.mk.injEq] at h
    obtain ⟨rfl, rfl, rfl⟩ := h; rfl
  | k + 1, x :: t, l1, l3, y, h => by
    simp only [cutAt] at h
    cases e : cutAt k t with
    | none => rw [e] at h; simp at h
    | some q =>
      obtain ⟨a, y', b⟩ := q
      rw [e] at h
      simp only [Option.some.injEq, Prod.mk.injEq] at h
      obtain ⟨rfl, rfl, rfl⟩ := h
      rw [cutAt_eq k t a b y' e]; rfl
theorem GC.regionYk {id : Nat} {ls l1 l3 : List Oper} {yop : Oper} (k : Nat) (hl : cutAt k ls = some (l1, yop, l3)) (hd : noDef l1 = true) (h : @G P ls.toArray (Nrm (wpListIn Fence.wide 0 P ls.toArray Q (yop :: l3))) n ds w0 l1 fr rs) : @GC P (.region id ls.toArray false) Q n ds w0 fr rs :=
  GC.regionY (cutAt_eq k ls l1 l3 yop hl) hd h
theorem GE.yield {d : Nat} {c : Operand} {xs : List Operand} {ts : Array TypeId} {ty : TypeId} {pos : String} {after : Array Edge} {args : List Value} {need rl : List Res} {post : Value → List Res → Prop} {l3 : List Oper} (S : YSpec P l args need post)
    (hc : ev fr c = some (.func (.yield l) #[] #[])) (hx : evs fr xs = some args) (hd : Nat.blt d n = true) (ht : Takes rs need rl)
    (k : ∀ v give, post v give → ∀ rs', rs' = give ++ rl → @GE (Nrm (wpListIn Fence.wide 0 P ops Q l3)) .normal n ds w0 ((d, v) :: fr) rs') :
    @GE (Nrm (wpListIn Fence.wide 0 P ops Q (⟨some d, .call ⟨.value c, xs.toArray, ts⟩, ty, pos, after, none⟩ :: l3))) .normal n ds w0 fr rs := by
  intro a w hf hw
  refine ⟨rfl, wpListIn_plain rfl fun K hK => ?_⟩
  obtain ⟨fn, tmps, assign, body, hy, hR⟩ := S w0 rl w (hw.take ht)
  have hm := hf.evs hx
  have hc' := hf.ev hc
  have hrun : (execOp a.eval ⟨some d, .call ⟨.value c, xs.toArray, ts⟩, ty, pos, after, none⟩).run P w = .ok (.round l fn tmps assign body) w := by
    have : (execOp a.eval ⟨some d, .call ⟨.value c, xs.toArray, ts⟩, ty, pos, after, none⟩).run P w = (Instr.yield l args.toArray).run P w := by
      subst hm
      simp [execOp, resolve, hc', Deferred.ofValue, invoke, List.map_toArray]
    rw [this, hy]
  refine ⟨fun f _ => trivial, ?_⟩
  show Oper.uponIn _ _ _ _ _ _ _ ((Oper.semAt none _ _).run P w)
  rw [Oper.semAt_none, hrun]
  refine ⟨(fun h => nomatch h), hR.mono ?_⟩
  rintro e w' ⟨v, give, hp, rfl, hh⟩
  exact hK _ _ (k v give hp _ rfl _ w' (hf.put hd v) hh).2
theorem GE.on {l3 : List Oper} (hd : noDef l3 = true) (h : @G P ops (Nrm (Q .normal)) n ds w0 l3 fr rs) : @GE (Nrm (wpListIn Fence.wide 0 P ops Q l3)) .normal n ds w0 fr rs := fun a w hf hw => by
  refine ⟨rfl, ?_⟩
  have h1 := list_in (ro := none) (P := P) (ops := ops) (Q := Q) (l2 := []) hd (h a w hf hw)
  rwa [List.append_nil] at h1

/-! the statement -/
theorem GC.rangeFunc {g : Operand} {ps : Array Tmp} {assign body : Code} {f : FuncId} {caps : List Value} {need rl : List Res} {post : Value → List Res → Prop} [hF : Fun P f] (hg : ev fr g = some (.func (.func f) #[] caps.toArray))
    (S : ∀ l rec, rec.state = .ready → rec.pending = none → rec.params = ps → rec.assign = assign → rec.body = body → Fr [] ⟨rec.tmps, []⟩ n fr → Spec P f (.func (.yield l) #[] #[] :: caps) (.own (LoopR l rec) :: need) (fun v give => ∃ g, post v g ∧ give = .own (LoopR l rec) :: g))
    (ht : Takes rs need rl)
    (k : ∀ D v g, post v g → ∀ rs', rs' = .own (DefR D) :: (g ++ rl) → @GE Q .normal n [⟨.collected D, #[]⟩] w0 fr rs') : @GC P (.rangeFunc g ps assign body) Q n [] w0 fr rs := by
  intro a w hf hw
  refine (wpIn_wide (n := 0)).1 (wpIn_rangeFunc fun fn _ => ?_)
  obtain ⟨fu, h1, h2, h3⟩ := hF.fn
  have h2' : ¬ (fu.name = "runtime.NumGoroutine") := by simpa using h2
  have h3' : fu.body ≠ none := by intro e; rw [e] at h3; simp at h3
  have hg' := hf.ev hg
  let A := w.alloc (.deferred (some []))
  let rec_ : Loop := { state := .ready, pending := none, fn, tmps := a.tmps, params := ps, assign, body, defers := w.heap.size }
  let B := A.alloc (.loop rec_)
  have hA : Holds w0 A (.own (DefR w.heap.size) :: rs) := hw.add rfl rfl rfl (by simp [A]) (fun k hk => Below.heap_alloc _ _ _ hk) (Hp.one w.heap.size (.deferred (some []))) (Hp.one_le (heap_alloc_new w _)) (fun k hk => Hp.one_ne _ (by omega)) (fun f _ => Hp.one_self _ _)
  have hB : Holds w0 B (.own (LoopR A.heap.size rec_) :: .own (DefR w.heap.size) :: rs) := hA.add rfl rfl rfl (by simp [B]) (fun k hk => Below.heap_alloc _ _ _ hk) (Hp.one A.heap.size (.loop rec_)) (Hp.one_le (heap_alloc_new A _)) (fun k hk => Hp.one_ne _ (by omega)) (fun f _ => Hp.one_self _ _)
  refine ⟨A.heap.size, [⟨.collected w.heap.size, #[]⟩], B, ⟨.fn (.func f) caps.toArray, #[.func (.yield A.heap.size) #[] #[]]⟩, B, f, (.func (.yield A.heap.size) #[] #[] :: caps).toArray, B, ?_, ?_, fun _ _ => trivial, ?_, fun h => (nomatch h), callsIn_wide.2 ?_⟩
  · rfl
  · simp only [resolve, rangeCall, hg', Deferred.ofValue]
    have e : (#[] : Array Value) ++ Array.map a.eval #[.const (.func (.yield A.heap.size) #[] #[])] = #[.func (.yield A.heap.size) #[] #[]] := by simp [Act.eval]
    rw [e]; rfl
  · simp [invoke, callFunc, h1, h2', h3']
  · have hfr : Fr [] ⟨rec_.tmps, []⟩ n fr := ⟨⟨hf.size, hf.has⟩, rfl⟩
    have hp : Holds w0 B ((.own (LoopR A.heap.size rec_) :: need) ++ (.own (DefR w.heap.size) :: rl)) := by
      have h5 : Holds w0 B (.own (LoopR A.heap.size rec_) :: .own (DefR w.heap.size) :: (need ++ rl)) := Holds.take' ht [_, _] hB
      exact h5.perm (List.Perm.cons _ (List.perm_middle.symm))
    refine (S A.heap.size rec_ rfl rfl rfl rfl rfl hfr w0 _ B hp).mono ?_
    rintro e w' ⟨v, give, ⟨g, hpost, rfl⟩, rfl, hh⟩
    refine ⟨none, _, endLoop_run (loop_blk hh) rfl, ?_⟩
    have h6 := hh.setLoop (r' := { rec_ with state := .exhausted })
    have h7 := Holds.perm (rs' := .own (DefR w.heap.size) :: (g ++ rl)) h6.tail List.perm_middle
    refine k w.heap.size v g hpost _ rfl _ _ ⟨⟨hf.size, hf.has⟩, ?_⟩ h7
    show _ ++ a.defers = _
    rw [hf.defers]; rfl

/-! a function that leaves with a mark -/
def FPostM (P : Program) (fn : Func) (w0 : World) (rest : List Res) (post : Value → List Res → Prop) : Exit → Act → World → Prop :=
  bodyPostM Fence.wide 0 P fn fun e w' => ∃ v give, post v give ∧ e = .returned v ∧ Holds w0 w' (give ++ rest)
theorem Spec.introM {f : FuncId} {fn : Func} {c : Code} {args : List Value} {need : List Res} {post : Value → List Res → Prop}
    (hf : P.funcs[f]? = some fn) (hb : fn.body = some c) (hn : fn.ntmps = n) (hl : Nat.ble args.length n = true)
    (h : ∀ w0 rest rs, rs = need ++ rest → @GC P c (FPostM P fn w0 rest post) n [] w0 (argSlots args 0) rs) : Spec P f args need post := by
  intro w0 rest w H
  refine (callsIn_wide (n := 0)).1 (callsIn_of_wp_marks hf hb trivial ((wpIn_wide (n := 0)).2 (h w0 rest _ rfl _ _ ⟨⟨?_, fun i v e => ?_⟩, rfl⟩ H)))
  · have := Nat.le_of_ble_eq_true hl
    simp [hn]; omega
  · obtain ⟨_, h2⟩ := look_argSlots args 0 i v e
    simp only [Nat.sub_zero] at h2
    have hlt := (List.getElem?_eq_some_iff.1 h2).1
    rw [Array.getElem?_append_left (by simpa using hlt)]
    simpa using h2
theorem Takes.app : ∀ {l rl : List Res}, Takes (l ++ rl) l rl
  | [], _ => .nil
  | _ :: _, _ => .cons .here Takes.app
theorem Takes.deep {x : Res} : ∀ {rs need rl : List Res}, Takes rs need rl → Takes (x :: rs) need (x :: rl) := by
  intro rs need rl h
  induction h with
  | nil => exact .nil
  | cons h1 h2 ih => exact .cons (.there h1) ih
  | dup hp h1 h2 ih => exact .dup hp (.there h1) ih
theorem Take1.mid : ∀ {l t : List Res} {x : Res}, Take1 (l ++ x :: t) x (l ++ t)
  | [], _, _ => .here
  | _ :: _, _, _ => .there Take1.mid
theorem subs_app {w0 w : World} {give rest rl : List Res} (hs : Subs rest rl) (h : Holds w0 w (give ++ rl)) : Holds w0 w (give ++ rest) := by
  induction hs with
  | refl => exact h
  | @skip x r1 r2 _ ih =>
    have : (give ++ x :: r2).Perm (x :: (give ++ r2)) := List.perm_middle
    exact ih (h.perm this).tail
theorem GE.retM0 {fn : Func} {rest : List Res} {post : Value → List Res → Prop} {e : Exit} {v : Value} {give rl : List Res} (he : e = .ret ∨ e = .normal) (hres : ∀ a w, Fr [] a n fr → Holds w0 w rs → (results fn a.tmps).run P w = .ok v w)
    (hp : post v give) (ht : Takes rs give rl) (hs : Subs rest rl) : @GE (FPostM P fn w0 rest post) e n [] w0 fr rs := by
  intro a w hf hw
  have hh := subs_app hs (hw.take ht)
  have : LeavesInM Fence.wide 0 P fn a.tmps (fun e w' => ∃ v give, post v give ∧ e = .returned v ∧ Holds w0 w' (give ++ rest)) a.defers .returning w := by
    rw [hf.defers]
    exact ⟨v, hres a w hf hw, v, give, hp, rfl, hh⟩
  rcases he with rfl | rfl <;> exact this
theorem GE.retM {fn : Func} {rest : List Res} {post : Value → List Res → Prop} {e : Exit} {v : Value} {give rl rs1 : List Res} {D : Nat} (he : e = .ret ∨ e = .normal) (hD : Takes rs [.own (DefR D)] rs1) (hres : ∀ a w, Fr [⟨.collected D, #[]⟩] a n fr → Holds w0 w rs1 → (results fn a.tmps).run P w = .ok v w)
    (hp : post v give) (ht : Takes rs1 give rl) (hs : Subs rest rl) : @GE (FPostM P fn w0 rest post) e n [⟨.collected D, #[]⟩] w0 fr rs := by
  intro a w hf hw
  have h1 : Holds w0 w (.own (DefR D) :: rs1) := hw.take hD
  have h2 := h1.shutDef
  have hh := subs_app hs (h2.take ht)
  have : LeavesInM Fence.wide 0 P fn a.tmps (fun e w' => ∃ v give, post v give ∧ e = .returned v ∧ Holds w0 w' (give ++ rest)) a.defers .returning w := by
    rw [hf.defers]
    exact ⟨by simp, .inl ⟨D, _, rfl, take_run (def_blk h1), v, hres a _ hf h2, v, give, hp, rfl, hh⟩⟩
  rcases he with rfl | rfl <;> exact this
end
end Go.Proofs.YtjfdpfjngajnlaaDoor
