/-
  THE KIT OF MY OWN, FORTIETH PART: maps whose keys are structs of two integers; a look-up that tells whether it found. Over any program; no condition.
-/
import Derived.Test.YtfkgchdbjfbdaaaKitN1
import Derived.Test.YtfkgchdbjfbdaaaKit9
namespace Go.Proofs.Ytfkgchdbjfbdaaa
open Go.RowKit
set_option linter.unusedVariables false
set_option linter.unusedSimpArgs false
/-- two numbers as a key -/
def eK2 (x : Nat × Nat) : Value := .agg [Value.int .i64 (x.1 : Int), Value.int .i64 (x.2 : Int)].toArray
theorem two_fields {P : Program} {t : TypeId} [h : SEq P t [(0, 0), (1, 0)]] : ∃ f g : Field, P.fieldsOf t = #[f, g] ∧ f.offset = 0 ∧ g.offset = 1 ∧ fieldTag P f = 0 ∧ fieldTag P g = 0 := by
  have e := h.offs
  cases hl : (P.fieldsOf t).toList with
  | nil => rw [hl] at e; simp at e
  | cons f r =>
    cases r with
    | nil => rw [hl] at e; simp at e
    | cons g r =>
      cases r with
      | nil =>
        rw [hl] at e
        simp only [List.map_cons, List.map_nil, List.cons.injEq, Prod.mk.injEq, and_true] at e
        exact ⟨f, g, Array.ext' hl, e.1.1, e.2.1, e.1.2, e.2.2⟩
      | cons q r => rw [hl] at e; simp at e
theorem tag_int {P : Program} {f : Field} (h : fieldTag P f = 0) : ∃ k, P.underlying f.type = some (.int k) := by
  unfold fieldTag at h
  cases hu : P.underlying f.type with
  | none => rw [hu] at h; simp at h
  | some d =>
    rw [hu] at h
    cases d <;> first | exact ⟨_, rfl⟩ | (simp at h)
theorem key2_check {P : Program} {kt : TypeId} [h : SEq P kt [(0, 0), (1, 0)]] (em : Bool) (k : Nat × Nat) (w : World) : (Instr.checkKey em 10000 kt (eK2 k)).run P w = .ok () w := by
  obtain ⟨f, g, hf, o1, o2, t1, t2⟩ := two_fields (P := P) (t := kt)
  obtain ⟨k1, u1⟩ := tag_int t1
  obtain ⟨k2, u2⟩ := tag_int t2
  have hund := h.und
  rw [hf] at hund
  have hp : ∀ (q : Field) (kk : IntKind) (i : Nat) (z : Value), P.underlying q.type = some (.int kk) → [Value.int .i64 (k.1 : Int), Value.int .i64 (k.2 : Int)][i]? = some z → (part q.type [Value.int .i64 (k.1 : Int), Value.int .i64 (k.2 : Int)].toArray i).run P w = .ok z w := fun q kk i z hu hz => by
    simp only [part, isAgg, Sem.run_bind, run_underlying hu, Result.andThen_ok, Sem.run_pure, List.getElem?_toArray, hz]
    rfl
  have hc : ∀ (q : Field) (kk : IntKind) (z : Int), P.underlying q.type = some (.int kk) → (Instr.checkKey em 9999 q.type (.int .i64 z)).run P w = .ok () w := fun q kk z hu => by
    rw [show 9999 = 9998 + 1 from rfl]
    unfold Instr.checkKey
    simp [run_underlying hu]
  rw [show 10000 = 9999 + 1 from rfl]
  unfold Instr.checkKey eK2
  simp only [Sem.run_bind, run_underlying hund, Result.andThen_ok]
  simp only [List.forIn_toArray, Array.forIn_toList, List.forIn_cons, List.forIn_nil, ← Array.forIn_toList]
  have n1 : f.name ≠ "_" := by
    have := h.ok; rw [hf] at this; simp at this; exact this.1
  have n2 : g.name ≠ "_" := by
    have := h.ok; rw [hf] at this; simp at this; exact this.2
  simp only [if_pos n1, if_pos n2, o1, o2, Sem.run_bind, hp f k1 0 _ u1 rfl, hp g k2 1 _ u2 rfl, Result.andThen_ok, hc f k1 _ u1, hc g k2 _ u2, Sem.run_pure]
theorem key2_eq {P : Program} {kt : TypeId} [h : SEq P kt [(0, 0), (1, 0)]] (a b : Nat × Nat) (w : World) : (Op.equal kt (eK2 a) (eK2 b)).run P w = .ok (decide (a = b)) w := by
  have hr := eqFields_run (P := P) [Value.int .i64 (a.1 : Int), Value.int .i64 (a.2 : Int)] [Value.int .i64 (b.1 : Int), Value.int .i64 (b.2 : Int)] 9998 _ (decide (a = b)) w h.ok (by
    rw [h.offs]
    simp only [eqCs, List.getElem?_cons_zero, List.getElem?_cons_succ, eqC, if_true, Bool.and_true]
    congr 1
    rw [Bool.eq_iff_iff]
    obtain ⟨a1, a2⟩ := a
    obtain ⟨b1, b2⟩ := b
    simp
    omega)
  have h2 := run_equalIn_struct (P := P) w 9999 kt [Value.int .i64 (a.1 : Int), Value.int .i64 (a.2 : Int)].toArray [Value.int .i64 (b.1 : Int), Value.int .i64 (b.2 : Int)].toArray h.und h.stood
  unfold Op.equal eK2
  rw [show Op.maxDepth = 9999 + 1 from rfl, h2, hr]
theorem key2_find {P : Program} {kt : TypeId} [h : SEq P kt [(0, 0), (1, 0)]] (k : Nat × Nat) (w : World) : ∀ (L : List ((Nat × Nat) × Value)) (i : Nat), (Instr.findAsking kt (eK2 k) (ents eK2 L i) i).run P w = .ok (lookI k L i) w
  | [], i => by simp [ents, Instr.findAsking, lookI]
  | q :: t, i => by
    have h1 := key2_eq (P := P) (kt := kt) k q.1 w
    have ih := key2_find (P := P) (kt := kt) k w t (i + 1)
    simp only [ents, Instr.findAsking, Sem.run_bind, h1, Result.andThen_ok, lookI]
    by_cases hk : k = q.1
    · simp [hk]
    · simp only [hk, decide_false, Bool.false_eq_true, if_false]; exact ih
instance key2K {P : Program} {kt : TypeId} [h : SEq P kt [(0, 0), (1, 0)]] : KeyK P kt eK2 where
  chk := fun em k w => key2_check em k w
  same := fun k => by simp [eK2, Instr.sameBits]
  find := fun k L w => by
    unfold Instr.findKey
    cases L with
    | nil => simp [run_underlying h.und, ents, Instr.findNow, lookI]
    | cons q t =>
      have h1 := key2_find (P := P) (kt := kt) k w (q :: t) 0
      have hn : Instr.findNow (.struct (P.fieldsOf kt)) (eK2 k) (ents eK2 (q :: t) 0) 0 = none := by simp [ents, Instr.findNow, Instr.sameNow, eK2]
      simp only [Sem.run_bind, run_underlying h.und, Result.andThen_ok, hn]
      exact h1
section
variable {P : Program} {n : Nat} {w0 : World} {fr : Slots} {rs : List Res} {ty t : TypeId} {x y : Operand} {κ : Type} {ek : κ → Value}
theorem Ex.lookupOk [DecidableEq κ] {kt et b : Nat} {zv : Value} {L : List (κ × Value)} {k : κ} {f : List (κ × Value) → List Res} [hU : Und P t (.map kt et)] [hZ : Zer P et zv] [hM : MapAt rs b ek L f] [hK : KeyK P kt ek]
    (hx : ev fr x = some (.map (some b))) (hy : ev fr y = some (ek k)) : Ex P n w0 rs fr (.lookup t x y true) ty (.tuple #[((lookI k L 0).map Prod.snd).getD zv, .bool (lookI k L 0).isSome]) :=
  fun a w dst pos after guard hf hw => by
    have hb := map_blk hM hw
    have hfd := hK.find k L w
    simp only [execOp, Instr.lookup, hf.ev hx, hf.ev hy, Sem.run_bind, run_underlying hU.und, Result.andThen_ok, getObj_run hb, hK.chk, Sem.run_pure, List.toList_toArray, hfd]
    cases hl : lookI k L 0 with
    | none => simp [zeroValue_run hZ]
    | some p => simp
end
end Go.Proofs.Ytfkgchdbjfbdaaa
