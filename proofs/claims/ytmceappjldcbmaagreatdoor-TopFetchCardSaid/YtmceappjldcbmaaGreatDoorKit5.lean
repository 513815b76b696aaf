/-
  THE KIT OF MY OWN, FIFTH PART: operations that make or write memory; calls; guards. Over any program; no condition.
-/
import Derived.Test.YtmceappjldcbmaaGreatDoorKit4
import Derived.Deep.AppendSrc
namespace Go.Proofs.YtmceappjldcbmaaGreatDoor
open Go.RowKit Go.Sort
set_option linter.unusedVariables false
set_option linter.unusedSimpArgs false

section
variable {P : Program} {ops : Array Oper} {Q : Exit → Act → World → Prop} {K : Act → Prop} {n : Nat} {ds : List Deferred} {w0 : World} {rest : List Oper} {fr : Slots} {rs rs' : List Res} {ty : TypeId} {pos : String} {after : Array Edge}

theorem G.ex {d : Nat} {op : Op} {v : Value} (h : Ex P n w0 rs fr op ty v) (hd : Nat.blt d n = true) (k : @G P ops Q n ds w0 rest ((d, v) :: fr) rs) : @G P ops Q n ds w0 (⟨some d, op, ty, pos, after, none⟩ :: rest) fr rs := by
  intro a w hf hw
  refine wpList_plain rfl fun K hK => ?_
  unfold Oper.wp
  rw [h a w _ _ _ _ hf hw]
  exact hK _ _ (k _ w (hf.put hd v) hw)
theorem Gq.ex {d : Nat} {op : Op} {v : Value} (h : Ex P n w0 rs fr op ty v) (hd : Nat.blt d n = true) (k : @Gq P ops K n ds w0 rs rest ((d, v) :: fr)) : @Gq P ops K n ds w0 rs (⟨some d, op, ty, pos, after, none⟩ :: rest) fr := by
  intro a hf
  refine wpQuiet_step fun K hK => ?_
  rw [if_pos (by rfl)]
  refine ⟨v, fun w hw => ?_, hK _ (k _ (hf.put hd v))⟩
  unfold Oper.quietAt
  rw [h a w _ _ _ _ hf hw]
  exact ⟨rfl, rfl⟩

/-- an operation of whatever guard is carried out: it is as one that has none -/
theorem G.yes {d : Option Nat} {op : Op} {j dj : Nat} {b : Bool} (hj : ((ops[j]?).bind (·.dst)) = some dj) (hb : look fr dj = some (.bool b)) (k : @G P ops Q n ds w0 (⟨d, op, ty, pos, after, none⟩ :: rest) fr rs) : @G P ops Q n ds w0 (⟨d, op, ty, pos, after, some (j, b)⟩ :: rest) fr rs := by
  intro a w hf hw
  have hy : yielded ops a.tmps j = some b := by
    unfold yielded
    rw [hj]
    simp [hf.has _ _ hb]
  have := k a w hf hw
  simp only [wpList] at this ⊢
  rw [if_pos (by simp [Region.wanted])] at this
  rw [if_pos (by simp [Region.wanted, hy])]
  exact this
theorem G.no {d : Nat} {op : Op} {j dj : Nat} {b b' : Bool} {v : Value} (hj : ((ops[j]?).bind (·.dst)) = some dj) (hb : look fr dj = some v) (hv : ∀ c, v = .bool c → c ≠ b) (hd : Nat.blt d n = true) (k : @G P ops Q n ds w0 rest ((d, undef) :: fr) rs) :
    @G P ops Q n ds w0 (⟨some d, op, ty, pos, after, some (j, b)⟩ :: rest) fr rs := by
  intro a w hf hw
  have hy : yielded ops a.tmps j ≠ some b := by
    unfold yielded
    rw [hj]
    simp only [Option.bind_some, hf.has _ _ hb]
    cases v <;> simp
    exact hv _ rfl
  refine wpList_skip (by simp [Region.wanted, hy]) (k _ w (hf.put hd _) hw)
theorem Gq.yes {d : Option Nat} {op : Op} {j dj : Nat} {b : Bool} (hj : ((ops[j]?).bind (·.dst)) = some dj) (hb : look fr dj = some (.bool b)) (k : @Gq P ops K n ds w0 rs (⟨d, op, ty, pos, after, none⟩ :: rest) fr) : @Gq P ops K n ds w0 rs (⟨d, op, ty, pos, after, some (j, b)⟩ :: rest) fr := by
  intro a hf
  have hy : yielded ops a.tmps j = some b := by
    unfold yielded
    rw [hj]
    simp [hf.has _ _ hb]
  have := k a hf
  simp only [wpQuiet] at this ⊢
  rw [if_pos (by simp [Region.wanted])] at this
  rw [if_pos (by simp [Region.wanted, hy])]
  exact this
theorem Gq.no {d : Nat} {op : Op} {j dj : Nat} {b b' : Bool} {v : Value} (hj : ((ops[j]?).bind (·.dst)) = some dj) (hb : look fr dj = some v) (hv : ∀ c, v = .bool c → c ≠ b) (hd : Nat.blt d n = true) (k : @Gq P ops K n ds w0 rs rest ((d, undef) :: fr)) :
    @Gq P ops K n ds w0 rs (⟨some d, op, ty, pos, after, some (j, b)⟩ :: rest) fr := by
  intro a hf
  have hy : yielded ops a.tmps j ≠ some b := by
    unfold yielded
    rw [hj]
    simp only [Option.bind_some, hf.has _ _ hb]
    cases v <;> simp
    exact hv _ rfl
  unfold wpQuiet
  rw [if_neg (by simp [Region.wanted, hy])]
  exact k _ (hf.put hd _)

/-- what the world becomes, the value told -/
theorem G.act {d : Nat} {op : Op} (hd : Nat.blt d n = true) (h : ∀ a w pos after, Fr ds a n fr → Holds w0 w rs → ∃ v w', (execOp a.eval ⟨some d, op, ty, pos, after, none⟩).run P w = .ok (.value v) w' ∧ ∃ rs', Holds w0 w' rs' ∧ @G P ops Q n ds w0 rest ((d, v) :: fr) rs') :
    @G P ops Q n ds w0 (⟨some d, op, ty, pos, after, none⟩ :: rest) fr rs := by
  intro a w hf hw
  refine wpList_plain rfl fun K hK => ?_
  unfold Oper.wp
  obtain ⟨v, w', h1, rs', h2, h3⟩ := h a w pos after hf hw
  rw [h1]
  exact hK _ _ (h3 _ w' (hf.put hd v) h2)
theorem G.actU {op : Op} (h : ∀ a w pos after, Fr ds a n fr → Holds w0 w rs → ∃ w', (execOp a.eval ⟨none, op, ty, pos, after, none⟩).run P w = .ok .skip w' ∧ Holds w0 w' rs') (k : @G P ops Q n ds w0 rest fr rs') :
    @G P ops Q n ds w0 (⟨none, op, ty, pos, after, none⟩ :: rest) fr rs := by
  intro a w hf hw
  refine wpList_plain rfl fun K hK => ?_
  unfold Oper.wp
  obtain ⟨w', h1, h2⟩ := h a w pos after hf hw
  rw [h1]
  exact hK _ _ (k _ w' (hf.put_none _) h2)

def Hp.one (b : Nat) (x : Obj) : Hp := fun k => if k = b then some x else none
theorem Hp.one_self (b : Nat) (x : Obj) : Hp.one b x b = some x := by simp [Hp.one]
theorem Hp.one_ne {b k : Nat} (x : Obj) (h : k ≠ b) : Hp.one b x k = none := by simp [Hp.one, h]
theorem Hp.one_le {b : Nat} {x : Obj} {h : Hp} (hb : h b = some x) : (Hp.one b x).le h := fun k o e => by
  unfold Hp.one at e
  split at e
  · rename_i hk; subst hk; rw [← e]; exact hb
  · cases e

theorem Holds.alloc {w : World} (H : Holds w0 w rs) (cs : List Value) (t : TypeId) : Holds w0 (w.alloc (.cells cs.toArray t)) (.blk w.heap.size t cs :: rs) := by
  refine H.add rfl rfl rfl (by simp) (fun k hk => Below.heap_alloc _ _ _ hk) (Hp.one w.heap.size (.cells cs.toArray t (0, 0))) (Hp.one_le (heap_alloc_new w _)) (fun k hk => Hp.one_ne _ (by omega)) (fun f _ => Hp.one_self _ _)
theorem Holds.allocRow {w : World} (H : Holds w0 w rs) (cs : List Value) (t : TypeId) (m size : Nat) (hl : cs.length = m * size) (hm : m ≤ maxLen) (h1 : ∀ u ∈ cs, u.oneCell' = true) :
    Holds w0 (w.alloc (.cells cs.toArray t)) (.vec t size (some ⟨w.heap.size, 0, none⟩) m m cs :: rs) := by
  refine H.add rfl rfl rfl (by simp) (fun k hk => Below.heap_alloc _ _ _ hk) (Hp.one w.heap.size (.cells cs.toArray t (0, 0))) (Hp.one_le (heap_alloc_new w _)) (fun k hk => Hp.one_ne _ (by omega)) (fun f _ => ?_)
  exact ⟨hl, h1, .inr ⟨w.heap.size, 0, cs.toArray, rfl, Hp.one_self _ _, Nat.le_refl _, hm, by simp [hl], by simp [← hl]⟩⟩

theorem G.alloc {d size bytes : Nat} {t : TypeId} {zs : List Value} [hI : Inf P t size bytes zs] (hd : Nat.blt d n = true) (k : ∀ b, @G P ops Q n ds w0 rest ((d, .pointer (some (badr b 0))) :: fr) (.blk b t zs :: rs)) :
    @G P ops Q n ds w0 (⟨some d, .alloc t, ty, pos, after, none⟩ :: rest) fr rs := by
  obtain ⟨i, z, h1, h2, h3, _, _⟩ := hI.get
  refine G.act hd fun a w pos after hf hw => ⟨_, _, ?_, _, hw.alloc zs t, k w.heap.size⟩
  simp [execOp, Instr.alloc, zeroValue, typeInfo, h1, h2, newVar, newRow, badr, ← h3]
theorem G.box {d : Nat} {t : TypeId} {x : Operand} {v : Value} {cs : List Value} (hx : ev fr x = some v) (hc : v.cells.toList = cs) (hd : Nat.blt d n = true) (k : ∀ b, @G P ops Q n ds w0 rest ((d, .pointer (some (badr b 0))) :: fr) (.blk b t cs :: rs)) :
    @G P ops Q n ds w0 (⟨some d, .box t x, ty, pos, after, none⟩ :: rest) fr rs := by
  refine G.act hd fun a w pos after hf hw => ⟨_, _, ?_, _, hw.alloc cs t, k w.heap.size⟩
  simp [execOp, Instr.box, hf.ev hx, newVar, newRow, badr, ← hc]

/-- a variable's block, written -/
class BlkSet (rs : List Res) (b j : Nat) (v : Value) (cs : outParam (List Value)) (rs' : outParam (List Res)) : Prop where
  upd : ∃ t, Upd rs (.blk b t cs) (.blk b t (cs.set j v)) rs'
instance BlkSet.here {b j : Nat} {t : TypeId} {v : Value} {cs : List Value} {rs : List Res} : BlkSet (.blk b t cs :: rs) b j v cs (.blk b t (cs.set j v) :: rs) := ⟨⟨t, .here⟩⟩
instance (priority := low) BlkSet.there {b j : Nat} {v : Value} {cs : List Value} {r : Res} {rs rs' : List Res} [h : BlkSet rs b j v cs rs'] : BlkSet (r :: rs) b j v cs (r :: rs') := ⟨h.upd.elim fun t k => ⟨t, .there k⟩⟩
theorem setCell_same (w : World) (b : Nat) (cs : List Value) (t : TypeId) (j : Nat) (v : Value) (h : w.heap[b]? = some (.cells cs.toArray t (0, 0))) : (w.setCell (badr b j) v).heap[b]? = some (.cells (cs.set j v).toArray t (0, 0)) := by
  have := heap_setCell_same w b j cs.toArray t v h
  rw [show (w.setCell (badr b j) v).heap[b]? = (w.setCell ⟨b, j, none⟩ v).heap[b]? from rfl, this]; simp
theorem Holds.setBlk {w : World} {b j : Nat} {t : TypeId} {cs : List Value} (H : Holds w0 w (.blk b t cs :: rs)) (v : Value) : Holds w0 (w.setCell (badr b j) v) (.blk b t (cs.set j v) :: rs) := by
  refine H.step rfl rfl rfl (by simp) fun f o hr hf ho => ?_
  have hr' : o b = some (.cells cs.toArray t (0, 0)) := hr
  refine ⟨Hp.one b (.cells (cs.set j v).toArray t (0, 0)), Hp.one_self _ _, Hp.one_le (setCell_same w b cs t j v (ho _ _ hr')), ?_⟩
  intro k hk hn
  have hkb : k ≠ b := fun e => by rw [e, hr'] at hn; cases hn
  exact ⟨Hp.one_ne _ hkb, Below.heap_setCell _ _ _ _ (by simpa [badr] using hkb)⟩
theorem Holds.upd {w w' : World} {r r' : Res} (H : Holds w0 w rs) (hu : Upd rs r r' rs') (h : ∀ l, Holds w0 w (r :: l) → Holds w0 w' (r' :: l)) : Holds w0 w' rs' := by
  obtain ⟨l, h1, h2⟩ := hu.split
  exact (h l (H.perm h1)).perm h2.symm
theorem store_run {t : TypeId} {size bytes : Nat} {zs : List Value} (hI : Inf P t size bytes zs) (hs : size = 1) {p : Addr} {w : World} {v : Value} (hv : v.oneCell' = true) (hc : (w.cell? p).isSome = true) (hf : w.frozen? p = false) :
    (Instr.storeAt t (.pointer (some p)) v).run P w = .ok () (w.setCell p v) := by
  obtain ⟨u, hu⟩ := Option.isSome_iff_exists.1 hc
  have h0 : p.add 0 = p := by simp [Addr.add]
  have hsz := sizeOf_run hI w
  subst hs
  cases v <;> simp [Value.oneCell'] at hv <;> simp [Instr.storeAt, Instr.sureAddr, storeVar, hsz, Value.cells, storeCells, store, Sem.run, hu, hf, h0]
theorem frozen_blk {w : World} {b : Nat} {t : TypeId} {cs : Array Value} (h : w.heap[b]? = some (.cells cs t (0, 0))) (j : Nat) : w.frozen? ⟨b, j, none⟩ = false := frozen_of_row w b j cs t h
theorem G.storeB {t : TypeId} {x y : Operand} {b j size bytes : Nat} {zs cs : List Value} {v : Value} [hI : Inf P t size bytes zs] (hx : ev fr x = some (.pointer (some (badr b j)))) (hy : ev fr y = some v) (hs : size = 1) (hv : v.oneCell' = true) [hB : BlkSet rs b j v cs rs']
    (hj : Nat.blt j cs.length = true) (k : @G P ops Q n ds w0 rest fr rs') : @G P ops Q n ds w0 (⟨none, .store t x y, ty, pos, after, none⟩ :: rest) fr rs := by
  obtain ⟨t', hu⟩ := hB.upd
  refine G.actU (rs' := rs') (fun a w pos after hf hw => ⟨w.setCell (badr b j) v, ?_, hw.upd hu fun l h => h.setBlk v⟩) k
  obtain ⟨l, h1, h2⟩ := hu.split
  have hb : w.heap[b]? = some (.cells cs.toArray t' (0, 0)) := (hw.perm h1).at (List.mem_cons_self ..)
  have hj' : j < cs.length := by simpa [Nat.blt_eq] using hj
  have hc : (w.cell? (badr b j)).isSome = true := by
    show (w.cell? ⟨b, j, none⟩).isSome = true
    rw [cell_of_row w b j cs.toArray t' (0, 0) hb]; simp [hj']
  simp [execOp, hf.ev hx, hf.ev hy, store_run hI hs hv hc (frozen_blk hb j)]

/-- a call by contract -/
def evs (fr : Slots) : List Operand → Option (List Value)
  | [] => some []
  | x :: t => match ev fr x, evs fr t with
    | some v, some l => some (v :: l)
    | _, _ => none
theorem FrE.evs {a : Act} (hf : FrE a n fr) : ∀ {xs : List Operand} {vs : List Value}, evs fr xs = some vs → xs.map a.eval = vs
  | [], vs, h => by simp [_root_.Go.Proofs.YtmceappjldcbmaaGreatDoor.evs] at h; simp [h]
  | x :: t, vs, h => by
    simp only [_root_.Go.Proofs.YtmceappjldcbmaaGreatDoor.evs] at h
    cases e1 : _root_.Go.Proofs.YtmceappjldcbmaaGreatDoor.ev fr x with
    | none => rw [e1] at h; simp at h
    | some v =>
      cases e2 : _root_.Go.Proofs.YtmceappjldcbmaaGreatDoor.evs fr t with
      | none => rw [e1, e2] at h; simp at h
      | some l =>
        rw [e1, e2] at h
        simp only [Option.some.injEq] at h
        rw [List.map_cons, hf.ev e1, FrE.evs hf e2, h]
theorem call_run {f : FuncId} (hF : Fun P f) {c : Operand} {xs : List Operand} {ts : Array TypeId} {vs caps args : List Value} {a : Act} (hf : FrE a n fr) (hc : ev fr c = some (.func (.func f) #[] caps.toArray)) (hx : evs fr xs = some vs) (hv : vs ++ caps = args) (dst : Option Tmp) (guard : Option (Nat × Bool)) (w : World) :
    (execOp a.eval ⟨dst, .call ⟨.value c, xs.toArray, ts⟩, ty, pos, after, guard⟩).run P w = .ok (.enter f args.toArray) w := by
  obtain ⟨fn, h1, h2, h3⟩ := hF.fn
  have hm := hf.evs hx
  subst hv
  subst hm
  have hc' := hf.ev hc
  have h2' : ¬ (fn.name = "runtime.NumGoroutine") := by simpa using h2
  have h3' : fn.body ≠ none := by intro e; rw [e] at h3; simp at h3
  simp [execOp, resolve, hc', Deferred.ofValue, invoke, callFunc, h1, h2', h3', List.map_toArray]
theorem G.call {d : Nat} {f : FuncId} {c : Operand} {xs : List Operand} {ts : Array TypeId} {args vs caps : List Value} {need rl : List Res} {post : Value → List Res → Prop} [hF : Fun P f] (S : Spec P f args need post) (hc : ev fr c = some (.func (.func f) #[] caps.toArray)) (hx : evs fr xs = some vs) (hv : vs ++ caps = args) (hd : Nat.blt d n = true) (ht : Takes rs need rl)
    (k : ∀ v give, post v give → ∀ rs', rs' = give ++ rl → @G P ops Q n ds w0 rest ((d, v) :: fr) rs') : @G P ops Q n ds w0 (⟨some d, .call ⟨.value c, xs.toArray, ts⟩, ty, pos, after, none⟩ :: rest) fr rs := by
  intro a w hf hw
  refine wpList_plain rfl fun K hK => ?_
  unfold Oper.wp
  rw [call_run hF hf.toFrE hc hx hv]
  refine (S w0 rl w (hw.take ht)).mono ?_
  rintro e w' ⟨v, give, hp, rfl, hh⟩
  exact hK _ _ (k v give hp _ rfl _ w' (hf.put hd v) hh)

/-- the end of a function -/
theorem GE.ret {fn : Func} {rest : List Res} {post : Value → List Res → Prop} {e : Exit} {v : Value} {give rl : List Res} (he : e = .ret ∨ e = .normal) (hres : ∀ a w, Fr [] a n fr → Holds w0 w rs → (results fn a.tmps).run P w = .ok v w)
    (hp : post v give) (ht : Takes rs give rl) (hs : Subs rest rl) : @GE (FPost P fn w0 rest post) e n [] w0 fr rs := by
  intro a w hf hw
  have hh : Holds w0 w (give ++ rest) := by
    have h1 := hw.take ht
    clear hw ht hres
    induction hs with
    | refl => exact h1
    | @skip x r1 r2 _ ih =>
      have : (give ++ x :: r2).Perm (x :: (give ++ r2)) := List.perm_middle
      exact ih (h1.perm this).tail
  rcases he with rfl | rfl <;> exact ⟨hf.defers, v, hres a w hf hw, v, give, hp, rfl, hh⟩
theorem res0 {fn : Func} (h : fn.results = #[]) : ∀ a w, Fr ds a n fr → Holds w0 w rs → (results fn a.tmps).run P w = .ok (.tuple #[]) w := fun a w _ _ => results_none h _ _ _
theorem res1 {fn : Func} {t : Nat} {v : Value} (h : fn.results = #[.tmp t]) (hv : look fr t = some v) : ∀ a w, Fr ds a n fr → Holds w0 w rs → (results fn a.tmps).run P w = .ok v w := fun a w hf _ => by
  rw [results_tmp h]
  congr 1
  exact hf.ev (x := .tmp t) hv
theorem res2 {fn : Func} {t t' : Nat} {v v' : Value} (h : fn.results = #[.tmp t, .tmp t']) (hv : look fr t = some v) (hv' : look fr t' = some v') : ∀ a w, Fr ds a n fr → Holds w0 w rs → (results fn a.tmps).run P w = .ok (.tuple #[v, v']) w := fun a w hf _ => by
  rw [results_tmp2 h]
  have e1 : a.tmps.getD t undef = v := hf.ev (x := .tmp t) hv
  have e2 : a.tmps.getD t' undef = v' := hf.ev (x := .tmp t') hv'
  rw [e1, e2]
end
section
variable {P : Program} {ops : Array Oper} {Q : Exit → Act → World → Prop} {K : Act → Prop} {n : Nat} {ds : List Deferred} {w0 : World} {rest : List Oper} {fr : Slots} {rs rs' : List Res} {ty : TypeId} {pos : String} {after : Array Edge}
theorem G.g_tt {d : Option Nat} {op : Op} {j dj : Nat} {p : Prop} {_ : Decidable p} (hj : ((ops[j]?).bind (·.dst)) = some dj) (hb : look fr dj = some (.bool (decide p))) (hp : p) (k : @G P ops Q n ds w0 (⟨d, op, ty, pos, after, none⟩ :: rest) fr rs) :
    @G P ops Q n ds w0 (⟨d, op, ty, pos, after, some (j, true)⟩ :: rest) fr rs := G.yes hj (by rw [hb, decide_eq_true hp]) k
theorem G.g_ff {d : Option Nat} {op : Op} {j dj : Nat} {p : Prop} {_ : Decidable p} (hj : ((ops[j]?).bind (·.dst)) = some dj) (hb : look fr dj = some (.bool (decide p))) (hp : ¬p) (k : @G P ops Q n ds w0 (⟨d, op, ty, pos, after, none⟩ :: rest) fr rs) :
    @G P ops Q n ds w0 (⟨d, op, ty, pos, after, some (j, false)⟩ :: rest) fr rs := G.yes hj (by rw [hb, decide_eq_false hp]) k
theorem G.g_tf {d : Nat} {op : Op} {j dj : Nat} {p : Prop} {_ : Decidable p} (hj : ((ops[j]?).bind (·.dst)) = some dj) (hb : look fr dj = some (.bool (decide p))) (hp : ¬p) (hd : Nat.blt d n = true) (k : @G P ops Q n ds w0 rest ((d, undef) :: fr) rs) :
    @G P ops Q n ds w0 (⟨some d, op, ty, pos, after, some (j, true)⟩ :: rest) fr rs := G.no (b' := true) hj hb (fun c e => by injection e with e; rw [← e, decide_eq_false hp]; simp) hd k
theorem G.g_ft {d : Nat} {op : Op} {j dj : Nat} {p : Prop} {_ : Decidable p} (hj : ((ops[j]?).bind (·.dst)) = some dj) (hb : look fr dj = some (.bool (decide p))) (hp : p) (hd : Nat.blt d n = true) (k : @G P ops Q n ds w0 rest ((d, undef) :: fr) rs) :
    @G P ops Q n ds w0 (⟨some d, op, ty, pos, after, some (j, false)⟩ :: rest) fr rs := G.no (b' := true) hj hb (fun c e => by injection e with e; rw [← e, decide_eq_true hp]; simp) hd k
theorem G.g_un {d : Nat} {op : Op} {j dj : Nat} {b : Bool} (hj : ((ops[j]?).bind (·.dst)) = some dj) (hb : look fr dj = some undef) (hd : Nat.blt d n = true) (k : @G P ops Q n ds w0 rest ((d, undef) :: fr) rs) :
    @G P ops Q n ds w0 (⟨some d, op, ty, pos, after, some (j, b)⟩ :: rest) fr rs := G.no (b' := b) hj hb (fun c e => by cases e) hd k
theorem Gq.g_tt {d : Option Nat} {op : Op} {j dj : Nat} {p : Prop} {_ : Decidable p} (hj : ((ops[j]?).bind (·.dst)) = some dj) (hb : look fr dj = some (.bool (decide p))) (hp : p) (k : @Gq P ops K n ds w0 rs (⟨d, op, ty, pos, after, none⟩ :: rest) fr) :
    @Gq P ops K n ds w0 rs (⟨d, op, ty, pos, after, some (j, true)⟩ :: rest) fr := Gq.yes hj (by rw [hb, decide_eq_true hp]) k
theorem Gq.g_ff {d : Option Nat} {op : Op} {j dj : Nat} {p : Prop} {_ : Decidable p} (hj : ((ops[j]?).bind (·.dst)) = some dj) (hb : look fr dj = some (.bool (decide p))) (hp : ¬p) (k : @Gq P ops K n ds w0 rs (⟨d, op, ty, pos, after, none⟩ :: rest) fr) :
    @Gq P ops K n ds w0 rs (⟨d, op, ty, pos, after, some (j, false)⟩ :: rest) fr := Gq.yes hj (by rw [hb, decide_eq_false hp]) k
theorem Gq.g_tf {d : Nat} {op : Op} {j dj : Nat} {p : Prop} {_ : Decidable p} (hj : ((ops[j]?).bind (·.dst)) = some dj) (hb : look fr dj = some (.bool (decide p))) (hp : ¬p) (hd : Nat.blt d n = true) (k : @Gq P ops K n ds w0 rs rest ((d, undef) :: fr)) :
    @Gq P ops K n ds w0 rs (⟨some d, op, ty, pos, after, some (j, true)⟩ :: rest) fr := Gq.no (b' := true) hj hb (fun c e => by injection e with e; rw [← e, decide_eq_false hp]; simp) hd k
theorem Gq.g_ft {d : Nat} {op : Op} {j dj : Nat} {p : Prop} {_ : Decidable p} (hj : ((ops[j]?).bind (·.dst)) = some dj) (hb : look fr dj = some (.bool (decide p))) (hp : p) (hd : Nat.blt d n = true) (k : @Gq P ops K n ds w0 rs rest ((d, undef) :: fr)) :
    @Gq P ops K n ds w0 rs (⟨some d, op, ty, pos, after, some (j, false)⟩ :: rest) fr := Gq.no (b' := true) hj hb (fun c e => by injection e with e; rw [← e, decide_eq_true hp]; simp) hd k
theorem Gq.g_un {d : Nat} {op : Op} {j dj : Nat} {b : Bool} (hj : ((ops[j]?).bind (·.dst)) = some dj) (hb : look fr dj = some undef) (hd : Nat.blt d n = true) (k : @Gq P ops K n ds w0 rs rest ((d, undef) :: fr)) :
    @Gq P ops K n ds w0 rs (⟨some d, op, ty, pos, after, some (j, b)⟩ :: rest) fr := Gq.no (b' := b) hj hb (fun c e => by cases e) hd k
theorem GE.loop {ι : Type} {φ : ι → Prop} {m : ι → Nat} {frI : ι → Slots} {rsI : ι → List Res} {i : ι} {Q' : Exit → Act → World → Prop} {rl r2 : List Res} (j : ι) (hj : φ j) (hm : m j < m i) (hf : fits (frI j) fr) (ht : Takes rs (rsI j) r2) (hs : Subs rl r2) :
    @GE (Exit.then (LPost φ m frI rsI rl n ds w0 i) Q') .normal n ds w0 fr rs := by
  intro a w hf' hw
  refine ⟨j, hj, hm, hf'.sub hf, ?_⟩
  have h1 := hw.take ht
  clear hw ht
  induction hs with
  | refl => exact h1
  | @skip x r1 r3 _ ih =>
    have : (rsI j ++ x :: r3).Perm (x :: (rsI j ++ r3)) := List.perm_middle
    exact ih (h1.perm this).tail
end
end Go.Proofs.YtmceappjldcbmaaGreatDoor
