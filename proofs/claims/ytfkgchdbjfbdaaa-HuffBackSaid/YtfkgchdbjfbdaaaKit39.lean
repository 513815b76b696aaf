/-
  THE KIT OF MY OWN, THIRTY-NINTH PART: a method called through an interface value. Over any program; no condition.
-/
import Derived.Test.YtfkgchdbjfbdaaaKitN2
namespace Go.Proofs.Ytfkgchdbjfbdaaa
open Go.RowKit Go.Sort
set_option linter.unusedVariables false
set_option linter.unusedSimpArgs false
/-- a type's table of methods -/
class Mth (P : Program) (t : TypeId) (name : String) (f : outParam FuncId) (pr : outParam Bool) (elem : outParam TypeId) : Prop where
  mth : (P.info? t).bind (fun i => (i.methods.find? (·.name == name)).map fun m => (m.path.toList.length, m.path.isEmpty, m.func)) = some (0, true, some (f, pr))
  und : P.underlying t = some (.pointer elem)
section
variable {P : Program} {ops : Array Oper} {Q : Exit → Act → World → Prop} {n : Nat} {ds : List Deferred} {w0 : World} {rest : List Oper} {fr : Slots} {rs : List Res} {ty : TypeId} {pos : String} {after : Array Edge}
theorem method_ptr {t : TypeId} {name : String} {f : FuncId} {elem : TypeId} (hM : Mth P t name f true elem) (k : Nat) (v : Value) (w : World) : (method (k + 1) t v name).run P w = .ok (f, v) w := by
  have hm := hM.mth
  have hu := hM.und
  cases e : P.info? t with
  | none => rw [e] at hm; simp at hm
  | some i =>
    rw [e] at hm
    simp only [Option.bind_some] at hm
    cases e2 : i.methods.find? (·.name == name) with
    | none => rw [e2] at hm; simp at hm
    | some m =>
      rw [e2] at hm
      simp only [Option.map_some, Option.some.injEq, Prod.mk.injEq] at hm
      obtain ⟨h1, h2, h3⟩ := hm
      have hp : m.path.toList = [] := List.length_eq_zero_iff.1 h1
      unfold method
      simp [typeInfo, e, e2, hp, h3, follow, receiverAt, run_underlying hu, Place.get, Sem.run_bind]
theorem method_val {t : TypeId} {name : String} {f : FuncId} {elem : TypeId} (hM : Mth P t name f false elem) (hS : Sca P elem) (k : Nat) (a : Addr) (v : Value) (w : World) (hc : w.cell? a = some v) : (method (k + 1) t (.pointer (some a)) name).run P w = .ok (f, v) w := by
  have hm := hM.mth
  have hu := hM.und
  have hl := load_run hS hc
  cases e : P.info? t with
  | none => rw [e] at hm; simp at hm
  | some i =>
    rw [e] at hm
    simp only [Option.bind_some] at hm
    cases e2 : i.methods.find? (·.name == name) with
    | none => rw [e2] at hm; simp at hm
    | some m =>
      rw [e2] at hm
      simp only [Option.map_some, Option.some.injEq, Prod.mk.injEq] at hm
      obtain ⟨h1, h2, h3⟩ := hm
      have hp : m.path.toList = [] := List.length_eq_zero_iff.1 h1
      have hw : ∀ (ts : Array TypeId) (t' : TypeId) (s u : ByteArray), (Builtin.ssaWrapNilChk_ ts t' #[.pointer (some a), .string s, .string u]).run P w = .ok (.pointer (some a)) w := fun _ _ _ _ => rfl
      have hl' : (loadVar elem a).run P w = .ok v w := by
        have := hl
        simp only [Instr.loadAt, Instr.sureAddr] at this
        simpa using this
      unfold method
      have he : m.path = #[] := by rw [← Array.toList_eq_nil_iff]; exact hp
      simp [typeInfo, e, e2, hp, he, h3, follow, receiverAt, run_underlying hu, Place.get, Sem.run_bind, strVal, hw, asAddr, hl']
theorem invoke_run {t f : Nat} {v recv : Value} {name : String} (hF : Fun P f) {c : Operand} {xs : List Operand} {ts : Array TypeId} {vs args : List Value} {a : Act} (hf : FrE a n fr) (hc : ev fr c = some (.iface t v)) (hx : evs fr xs = some vs) (hv : recv :: vs = args) (dst : Option Tmp) (guard : Option (Nat × Bool)) (w : World)
    (hm : ∀ k, (method (k + 1) t v name).run P w = .ok (f, recv) w) : (execOp a.eval ⟨dst, .call ⟨.invoke c name, xs.toArray, ts⟩, ty, pos, after, guard⟩).run P w = .ok (.enter f args.toArray) w := by
  obtain ⟨fn, h1, h2, h3⟩ := hF.fn
  have hmm := hf.evs hx
  subst hv
  subst hmm
  have hc' := hf.ev hc
  have h2' : ¬ (fn.name = "runtime.NumGoroutine") := by simpa using h2
  have h3' : fn.body ≠ none := by intro e; rw [e] at h3; simp at h3
  obtain ⟨k, hk⟩ : ∃ k, P.types.size + Made.depth = k + 1 := ⟨P.types.size + Made.depth - 1, by unfold Made.depth; omega⟩
  have hm' := hm k
  have hlen : List.take xs.length (List.map a.eval xs) = List.map a.eval xs := List.take_of_length_le (by rw [List.length_map]; exact Nat.le_refl _)
  simp [execOp, resolve, hc', invoke, callMethod, hk, hm', Sem.run_bind, callFunc, h1, h2', h3', List.map_toArray, hlen]
theorem G.invoke {d : Nat} {f t : Nat} {v recv : Value} {name : String} {c : Operand} {xs : List Operand} {ts : Array TypeId} {args vs : List Value} {need rl : List Res} {post : Value → List Res → Prop} [hF : Fun P f] (S : Spec P f args need post) (hc : ev fr c = some (.iface t v)) (hx : evs fr xs = some vs) (hv : recv :: vs = args) (hd : Nat.blt d n = true) (ht : Takes rs need rl)
    (hm : ∀ w, Holds w0 w rs → ∀ k, (method (k + 1) t v name).run P w = .ok (f, recv) w)
    (k : ∀ v give, post v give → ∀ rs', rs' = give ++ rl → @G P ops Q n ds w0 rest ((d, v) :: fr) rs') : @G P ops Q n ds w0 (⟨some d, .call ⟨.invoke c name, xs.toArray, ts⟩, ty, pos, after, none⟩ :: rest) fr rs := by
  intro a w hf hw
  refine wpList_plain rfl fun K hK => ?_
  unfold Oper.wp
  rw [invoke_run hF hf.toFrE hc hx hv _ _ _ (hm w hw)]
  refine (S w0 rl w (hw.take ht)).mono ?_
  rintro e w' ⟨v, give, hp, rfl, hh⟩
  exact hK _ _ (k v give hp _ rfl _ w' (hf.put hd v) hh)
/-- a method with a pointer receiver; one with a value receiver, behind a pointer to a variable's block -/
theorem mth_ptr {t : Nat} {v : Value} {name : String} {f elem : Nat} [hM : Mth P t name f true elem] : ∀ w, Holds w0 w rs → ∀ k, (method (k + 1) t v name).run P w = .ok (f, v) w := fun w _ k => method_ptr hM k v w
theorem mth_val {t b j : Nat} {v : Value} {cs : List Value} {T : TypeId} {name : String} {f elem : Nat} [hM : Mth P t name f false elem] [hS : Sca P elem] [hB : BlkAt rs b T cs] (hj : cs[j]? = some v) : ∀ w, Holds w0 w rs → ∀ k, (method (k + 1) t (.pointer (some (badr b j))) name).run P w = .ok (f, v) w := fun w hw k => method_val hM hS k _ v w (blk_cell hB hw hj)
end
section
variable {P : Program} {n : Nat} {w0 : World} {rs : List Res} {fr : Slots} {t ty : TypeId} {x y : Operand} {Q : Exit → Act → World → Prop} {ds : List Deferred}
theorem Ex.asOne {xt e : TypeId} {v : Value} [hU : Und P t (.pointer e)] (hx : ev fr x = some (.iface t v)) : Ex P n w0 rs fr (.typeAssert x xt t false) ty v :=
  fun a w _ _ _ _ hf _ => by simp [execOp, Instr.typeAssert, hf.ev hx, run_underlying hU.und]
/-- a slice that is not nil is indexed, whatever it holds -/
theorem Ex.indexSome {e size bytes m c k : Nat} {K : IntKind} {zs : List Value} {a : Addr} [hU : Und P t (.slice e)] [hI : Inf P e size bytes zs] (hx : ev fr x = some (.slice (some a) m c)) (hy : ev fr y = some (.int K (k : Int))) (hk : k < m) : Ex P n w0 rs fr (.indexAddr t x y) ty (.pointer (some (eadr (some a) (k * size)))) :=
  fun _ w _ _ _ _ hf hw => by
    have h2 : (0 : Int) ≤ (k : Int) := by omega
    have h3 : (k : Int) < (m : Int) := by omega
    have h4 : ¬ m ≤ k := by omega
    simp [execOp, hf.ev hx, hf.ev hy, Instr.indexAt, asIntOf, run_underlying hU.und, Sem.run_bind, sizeOf_run hI, h2, h3, h4, eadr]
theorem GC.vecSome {c : Code} {T : TypeId} {size : Nat} {ao : Option Addr} {m cp : Nat} {xs : List Value} (hm : .vec T size ao m cp xs ∈ rs) (h0 : 0 < m) (k : ∀ a, ao = some a → @GC P c Q n ds w0 fr rs) : @GC P c Q n ds w0 fr rs := fun a w hf hw => by
  have h : rowIn (hp w) T size ao m cp xs := hw.at hm
  rcases h.2.2 with h | ⟨g, o, cur, e, _⟩
  · omega
  · exact k _ e a w hf hw
end
end Go.Proofs.Ytfkgchdbjfbdaaa
