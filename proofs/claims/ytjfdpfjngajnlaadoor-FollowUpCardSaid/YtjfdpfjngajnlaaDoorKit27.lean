/-
  THE KIT OF MY OWN, TWENTY-SEVENTH PART: guarded operations of a region that draws its order; the least of three. Over any program; no condition.
-/
import Derived.Test.YtjfdpfjngajnlaaDoorKit26
namespace Go.Proofs.YtjfdpfjngajnlaaDoor
open Go.RowKit Go.Sort
set_option linter.unusedVariables false
set_option linter.unusedSimpArgs false
section
variable {P : Program} {n : Nat} {w0 : World} {fr : Slots} {rs : List Res} {ty t t' t'' : TypeId} {x y z : Operand}
theorem Ex.min3 {k : IntKind} {a b c : Int} (hx : ev fr x = some (.int k a)) (hy : ev fr y = some (.int k b)) (hz : ev fr z = some (.int k c)) : Ex P n w0 rs fr (.call ⟨.builtin .min, #[x, y, z], #[t, t', t'']⟩) ty (.int k (Min.min (Min.min a b) c)) :=
  fun _ w _ _ _ _ hf _ => by
    have h1 : (if b < a then b else a) = Min.min a b := by omega
    have h2 : (if c < Min.min a b then c else Min.min a b) = Min.min (Min.min a b) c := by omega
    simp [execOp, hf.ev hx, hf.ev hy, hf.ev hz, resolve, invoke, builtin, Builtin.min_, Builtin.min2, h1, h2]
end
section
variable {P : Program} {ops : Array Oper} {T : List Nat} {Q : Exit → Act → World → Prop} {n : Nat} {ds : List Deferred} {w0 : World} {fuel : Nat} {listed : Array Bool} {fr : Slots} {rs rc : List Res}
def bOf : Value → Option Bool
  | .bool b => some b
  | _ => none
theorem yielded_look {a : Act} (hf : FrE a n fr) {j dj : Nat} {v : Value} (hj : ((ops[j]?).bind (·.dst)) = some dj) (hb : look fr dj = some v) : yielded ops a.tmps j = bOf v := by
  unfold yielded bOf
  rw [hj]
  simp only [Option.bind_some, hf.has _ _ hb]
  cases v <;> rfl
/-- an operation with a guard that holds is as one that has none -/
theorem GA.takeY {i d : Nat} {op : Op} {ty : TypeId} {pos : String} {after : Array Edge} {v : Value} {j dj : Nat} {b : Bool} (rd : List Res) (hi : ops[i]? = some ⟨some d, op, ty, pos, after, some (j, b)⟩) (hj : ((ops[j]?).bind (·.dst)) = some dj) (hb : look fr dj = some (.bool b)) (hs : Region.noSelect ops = true) (hfr : Region.free .any ops listed i = true) (hr : (Region.ready .any ops listed).contains i = true)
    (hQ : NoPanic Q) (hD : rd = [] ∨ (rd = rc ∧ tails ops [i] T = true)) (hsub : ∃ left, Takes rs rd left) (hx : Ex P n w0 rd fr op ty v) (hd : Nat.blt d n = true)
    (k : @GA P ops T rc Q n ds w0 fuel (listed.setIfInBounds i true) ((d, v) :: fr) rs) : @GA P ops T rc Q n ds w0 (fuel + 1) listed fr rs := by
  intro a w hf hw
  have hsat : ∀ {l m : List Res} {w' : World}, Holds w0 w' (l ++ m) → Holds w0 w' l := fun {l m w'} h => by
    have h' : Holds w0 w' (m ++ l) := h.perm List.perm_append_comm
    clear h
    induction m with
    | nil => exact h'
    | cons x m ih => exact ih h'.tail
  obtain ⟨left, hl⟩ := hsub
  have hrd : Holds w0 w rd := hsat (hw.take hl)
  have hyw : Region.wanted (⟨some d, op, ty, pos, after, some (j, b)⟩ : Oper) (yielded ops a.tmps) = true := by
    simp [Region.wanted, yielded_look hf.toFrE hj hb, bOf]
  rcases hD with rfl | ⟨rfl, hT⟩
  · exact wpAnyC_first (D := fun w => Holds w0 w []) hi (.inl rfl) (Region.noSelect_spec hs) (fun c a' w' h => absurd h (hQ c _ _)) fuel listed a w (Region.free_spec hi hfr) (by simpa using hr) (.inl ⟨hyw, fun w' hw' => hx a w' _ _ _ _ hf hw'⟩) hrd (k _ w (hf.put hd v) hw)
  · refine wpAnyC_first (D := fun w => Holds w0 w rd) hi (.inr ⟨rfl, fun j hj => ?_⟩) (Region.noSelect_spec hs) (fun c a' w' h => absurd h (hQ c _ _)) fuel listed a w (Region.free_spec hi hfr) (by simpa using hr) (.inl ⟨hyw, fun w' hw' => hx a w' _ _ _ _ hf hw'⟩) hrd (k _ w (hf.put hd v) hw)
    have := List.all_eq_true.1 hT j hj
    simpa using this
/-- an operation with a guard that does not hold yields nothing -/
theorem GA.takeN {i d : Nat} {op : Op} {ty : TypeId} {pos : String} {after : Array Edge} {u : Value} {j dj : Nat} {b : Bool} (hi : ops[i]? = some ⟨some d, op, ty, pos, after, some (j, b)⟩) (hj : ((ops[j]?).bind (·.dst)) = some dj) (hb : look fr dj = some u) (hv : ∀ c, u = .bool c → c ≠ b) (hs : Region.noSelect ops = true) (hfr : Region.free .any ops listed i = true) (hr : (Region.ready .any ops listed).contains i = true)
    (hQ : NoPanic Q) (hd : Nat.blt d n = true)
    (k : @GA P ops T rc Q n ds w0 fuel (listed.setIfInBounds i true) ((d, undef) :: fr) rs) : @GA P ops T rc Q n ds w0 (fuel + 1) listed fr rs := by
  intro a w hf hw
  have hsat : ∀ {l : List Res} {w' : World}, Holds w0 w' l → Holds w0 w' [] := fun {l w'} h => by
    induction l with
    | nil => exact h
    | cons x m ih => exact ih h.tail
  have hyw : Region.wanted (⟨some d, op, ty, pos, after, some (j, b)⟩ : Oper) (yielded ops a.tmps) = false := by
    simp only [Region.wanted, yielded_look hf.toFrE hj hb]
    cases u <;> simp [bOf]
    exact hv _ rfl
  exact wpAnyC_first (D := fun w => Holds w0 w []) hi (.inl rfl) (Region.noSelect_spec hs) (fun c a' w' h => absurd h (hQ c _ _)) fuel listed a w (Region.free_spec hi hfr) (by simpa using hr) (.inr ⟨hyw, rfl⟩) (hsat hw) (k _ w (hf.put hd _) hw)
/-- no panic is asked for in what follows -/
def NP (Q : Exit → Act → World → Prop) : Exit → Act → World → Prop := fun e a w => (∀ c, e ≠ .panic c) ∧ Q e a w
theorem NoPanic.np : NoPanic (NP Q) := fun c _ _ h => h.1 c rfl
theorem GC.np {c : Code} (h : @GC P c (NP Q) n ds w0 fr rs) : @GC P c Q n ds w0 fr rs := fun a w hf hw => wp_mono (h a w hf hw) fun _ _ _ hq => hq.2
theorem GE.np (h : @GE Q .normal n ds w0 fr rs) : @GE (NP Q) .normal n ds w0 fr rs := fun a w hf hw => ⟨fun c h => (nomatch h), h a w hf hw⟩
theorem dec_yes {p : Prop} {_ : Decidable p} (h : p) : (Value.bool (decide p)) = .bool true := by rw [decide_eq_true h]
theorem dec_no {p : Prop} {_ : Decidable p} (h : ¬ p) : (Value.bool (decide p)) = .bool false := by rw [decide_eq_false h]
theorem look_dec {d : Nat} {p : Prop} {_ : Decidable p} (hl : look fr d = some (.bool (decide p))) {b : Bool} (h : decide p = b) : look fr d = some (.bool b) := by rw [hl, h]
theorem ne_dec {p : Prop} {_ : Decidable p} {b : Bool} (h : decide p ≠ b) : ∀ c, Value.bool (decide p) = .bool c → c ≠ b := fun c e => by
  have := Value.bool.inj e
  rw [← this]; exact h
theorem ne_lit {a b : Bool} (h : a ≠ b) : ∀ c, Value.bool a = .bool c → c ≠ b := fun c e => by
  have := Value.bool.inj e
  rw [← this]; exact h
theorem ne_undef {b : Bool} : ∀ c, undef = .bool c → c ≠ b := fun c e => nomatch e
end
end Go.Proofs.YtjfdpfjngajnlaaDoor
