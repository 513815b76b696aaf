/-
  THE KIT OF MY OWN, FIFTEENTH PART: cap; append of a make onto nil. Over any program; no condition.
-/
import Derived.Test.YtjfdpfjngajnlaaDoorKit14
import Derived.Lib.AppendZeros
namespace Go.Proofs.YtjfdpfjngajnlaaDoor
open Go.RowKit Go.Sort
set_option linter.unusedVariables false
set_option linter.unusedSimpArgs false

section
variable {P : Program} {ops : Array Oper} {Q : Exit → Act → World → Prop} {K : Act → Prop} {n : Nat} {ds : List Deferred} {w0 : World} {rest : List Oper} {fr : Slots} {rs rs' : List Res} {ty t tx t' : TypeId} {x y : Operand} {pos : String} {after : Array Edge}

theorem Ex.capSl {e : TypeId} {ao : Option Addr} {m c : Nat} [hU : Und P t (.slice e)] (hx : ev fr x = some (.slice ao m c)) : Ex P n w0 rs fr (.call ⟨.builtin .cap, #[x], #[t]⟩) ty (.int .i64 (c : Int)) :=
  fun _ w _ _ _ _ hf _ => by simp [execOp, hf.ev hx, resolve, invoke, builtin, Builtin.cap_, run_underlying hU.und, goInt]
theorem zrep_len (zs : List Value) : ∀ m, (zrep zs m).length = m * zs.length
  | 0 => by simp [zrep]
  | m + 1 => by show (zs ++ zrep zs m).length = _; rw [List.length_append, zrep_len zs m, Nat.add_mul]; omega
theorem zrep_one' {zs : List Value} (h1 : ∀ v ∈ zs, v.oneCell' = true) : ∀ m, ∀ u ∈ zrep zs m, u.oneCell' = true
  | 0, u, hu => by simp [zrep] at hu
  | m + 1, u, hu => by
    rcases List.mem_append.1 hu with h | h
    · exact h1 u h
    · exact zrep_one' h1 m u h
theorem G.appMake0 {d e size bytes m : Nat} {zs : List Value} {k kn : IntKind} [hU : Und P t (.slice e)] [hI : Inf P e size bytes zs] [hV : Und P tx (.int kn)] (hx : ev fr x = some (.slice none 0 0)) (hy : ev fr y = some (.int k (m : Int))) (h0 : 0 < m) (hz : zs.length = size) (hs : Nat.blt 0 size = true) (hb : m * bytes ≤ 140737488355328 ∧ m ≤ 1000000000000) (h1 : zs.all (·.oneCell') = true) (hd : Nat.blt d n = true)
    (kk : ∀ ao c, @G P ops Q n ds w0 rest ((d, .slice ao m c) :: fr) (.vec e size ao m c (zrep zs m) :: rs)) : @G P ops Q n ds w0 (⟨some d, .call ⟨.builtin .append, #[x, y], #[t, tx]⟩, ty, pos, after, none⟩ :: rest) fr rs := by
  obtain ⟨i, z, g1, g2, g3, g4, g5⟩ := hI.get
  have hs' : 0 < size := by simpa [Nat.blt_eq] using hs
  have hzc : z.cells = zs.toArray := by rw [← Array.toList_inj]; simpa using g3
  have hze : ∀ q, Builtin.zeroCells z.cells q = (zrep zs q).toArray := fun q => by
    have := zrep_eq zs (by omega) q
    rw [hzc]
    unfold Builtin.zeroCells
    simpa using this
  have hone := List.all_eq_true.1 h1
  refine G.act hd fun a w pos after hf hw => ?_
  have hr := Lib.run_append_nil_zeros (P := P) w t tx ty e i z k kn hU.und hV.und g1 g2 m h0 (by omega) (by omega) (by rw [g5]; omega)
  have hge := grownCap_ge w m 0 e
  have hcm : grownCap w m 0 e ≤ maxLen := grownCap_le_maxLen w m 0 e (by unfold maxLen; omega)
  refine ⟨_, _, append_run hf.toFrE hx hy hr, _, ?_, kk _ (grownCap w m 0 e)⟩
  refine Holds.add (w := w) hw rfl rfl rfl (by simp) (fun k hk => Below.heap_alloc w.drew _ k hk) (Hp.one w.heap.size _) (Hp.one_le (heap_alloc_new w.drew _)) (fun k hk => Hp.one_ne _ (by omega)) (fun f _ => ?_)
  have hlen : (zrep zs m).length = m * size := by rw [zrep_len, hz]
  refine ⟨hlen, zrep_one' hone m, .inr ⟨w.heap.size, 0, _, rfl, Hp.one_self _ _, hge, hcm, ?_, ?_⟩⟩
  · rw [hze, hze]
    simp only [Nat.zero_add, Array.size_append, List.size_toArray, zrep_len, hz, ← Nat.add_mul]
    exact Nat.mul_le_mul_right _ (by omega)
  · rw [hze, hze]
    simp only [List.drop_zero, Array.toList_append]
    rw [← hlen]
    exact List.take_left
end
theorem Ex.subNil {P : Program} {n : Nat} {w0 : World} {rs : List Res} {fr : Slots} {ty t : TypeId} {x : Operand} {e size bytes : Nat} {zs : List Value} {lo hi : Option Operand} [hU : Und P t (.slice e)] [hI : Inf P e size bytes zs] (hx : ev fr x = some (.slice none 0 0))
    (hlo : (lo = none ∧ 0 = 0) ∨ ∃ z k, lo = some z ∧ ev fr z = some (.int k ((0 : Nat) : Int))) (hhi : (hi = none ∧ 0 = 0) ∨ ∃ z k, hi = some z ∧ ev fr z = some (.int k ((0 : Nat) : Int))) : Ex P n w0 rs fr (.slice t x lo hi none) ty (.slice none 0 0) :=
  fun a w dst pos after guard hf hw => by
    have := sub_run (P := P) (t := t) (ty := ty) (pos := pos) (after := after) hU hI (w := w) (dst := dst) (guard := guard) hf hx hlo hhi (Nat.le_refl _) (Nat.le_refl _)
    simpa using this

end Go.Proofs.YtjfdpfjngajnlaaDoor
