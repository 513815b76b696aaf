/-
  THE KIT OF MY OWN, TWENTY-FIFTH PART: append of zeros (append(s, make([]T, m)...)) onto a row of the call's own. Over any program; no condition.
-/
import Derived.Test.YtjfdpfjngajnlaaDoorKit20
import Derived.Lib.AppendZerosOnto
namespace Go.Proofs.YtjfdpfjngajnlaaDoor
open Go.RowKit Go.Sort
set_option linter.unusedVariables false
set_option linter.unusedSimpArgs false
section
variable {P : Program} {w0 : World} {rs : List Res}
theorem run_append_room_zeros {w : World} {t tn ty e : TypeId} {i : TypeInfo} {z : Value} {kq kn : IntKind} (ht : P.underlying t = some (.slice e)) (htn : P.underlying tn = some (.int kn)) (hi : P.info? e = some i) (hz : i.zero = some z) (b off sLen sCap m : Nat) (news : List Value)
    (hze : Builtin.zeroCells z.cells m = news.toArray) (h0 : 0 < m) (hsz : 0 < i.size) (h63 : (m : Int) ≤ 9223372036854775807) (h48 : m * i.bytes ≤ 281474976710656)
    (hroom : sLen + m ≤ sCap) (hone : ∀ u ∈ news, u.oneCell' = true) (hc : ∀ j, j < news.length → (w.cell? ⟨b, off + sLen * i.size + j, none⟩).isSome = true) (hf : ∀ j, j < news.length → w.frozen? ⟨b, off + sLen * i.size + j, none⟩ = false) :
    (Builtin.append_ #[t, tn] ty #[.slice (some ⟨b, off, none⟩) sLen sCap, .int kq m]).run P w = .ok (.slice (some ⟨b, off, none⟩) (sLen + m) sCap) (w.setCells b (off + sLen * i.size) news) := by
  have hst := run_storeCells_cells (P := P) b (off + sLen * i.size) news 0 w (by simpa using hc) (by simpa using hf) hone
  simp only [Nat.add_zero] at hst
  have hw : IntKind.i64.wrap (m : Int) = m := by rw [IntKind.wrap_i64]; omega
  have h48i : ¬ (281474976710656 < (m : Int) * (i.bytes : Int)) := by
    rw [← Int.natCast_mul]
    omega
  have hneg : ¬ ((m : Int) < 0) := by omega
  have hns : ¬ (m * i.size = 0) := Nat.mul_ne_zero (by omega) (by omega)
  simp [Builtin.append_, run_underlying ht, run_underlying htn, sizeOf, typeInfo, zeroValue, hi, hz, asInt, asIntOf, hw, hneg, hns, h48i, hroom, hze, Addr.add_lit, hst]
theorem Holds.appendZ {w : World} {t tx ty e size bytes : Nat} {zs : List Value} {ao : Option Addr} {n c m : Nat} {xs : List Value} {k kn : IntKind} (H : Holds w0 w (.vec e size ao n c xs :: rs)) (hU : Und P t (.slice e)) (hI : Inf P e size bytes zs) (hV : Und P tx (.int kn)) (hz : zs.length = size) (hsz : 0 < size) (h1 : ∀ u ∈ zs, u.oneCell' = true) (h0 : 0 < m)
    (hb : (n + m) * bytes ≤ 140737488355328) (hm : n + m ≤ maxLen) (hm2 : n + m ≤ 1000000000000) :
    ∃ ao' c' w', (Builtin.append_ #[t, tx] ty #[.slice ao n c, .int k (m : Int)]).run P w = .ok (.slice ao' (n + m) c') w' ∧ Holds w0 w' (.vec e size ao' (n + m) c' (xs ++ zrep zs m) :: rs) := by
  obtain ⟨i, z, g1, g2, g3, g4, g5⟩ := hI.get
  subst g4; subst g5
  have hrow : rowIn (hp w) e i.size ao n c xs := H.at (List.mem_cons_self ..)
  obtain ⟨r1, r2, r3⟩ := hrow
  have hnl : (zrep zs m).length = m * i.size := by rw [zrep_len, hz]
  have hno : ∀ u ∈ zrep zs m, u.oneCell' = true := zrep_one' h1 m
  have hlen : (xs ++ zrep zs m).length = (n + m) * i.size := by rw [List.length_append, r1, hnl, Nat.add_mul]
  have hone : ∀ u ∈ xs ++ zrep zs m, u.oneCell' = true := fun u hu => (List.mem_append.1 hu).elim (r2 u) (hno u)
  have hzs : z.cells.size = i.size := by rw [← hz, ← g3]; simp
  have hzc : z.cells = zs.toArray := by rw [← Array.toList_inj]; simpa using g3
  have hze : ∀ q, Builtin.zeroCells z.cells q = (zrep zs q).toArray := fun q => by
    have := zrep_eq zs (by omega) q
    rw [hzc]
    unfold Builtin.zeroCells
    simpa using this
  have hmb : m * i.bytes ≤ 281474976710656 := by
    have := Nat.mul_le_mul_right i.bytes (show m ≤ n + m by omega)
    omega
  have grow : c < n + m → (Builtin.firstCells i.size n (.slice ao n c)).run P w.drew = .ok xs.toArray w.drew →
      ∃ ao' c' w', (Builtin.append_ #[t, tx] ty #[.slice ao n c, .int k (m : Int)]).run P w = .ok (.slice ao' (n + m) c') w' ∧ Holds w0 w' (.vec e i.size ao' (n + m) c' (xs ++ zrep zs m) :: rs) := by
    intro hc hold
    have hr := Lib.run_append_grow_zeros (P := P) w t tx ty e i z k kn hU.und hV.und g1 g2 ao n c xs hold m h0 hsz hc (by omega) hmb (growslice_fits hc hb)
    have hge := grownCap_ge w (n + m) c e
    have hcm : grownCap w (n + m) c e ≤ maxLen := grownCap_le_maxLen w (n + m) c e hm
    refine ⟨_, _, _, hr, ?_⟩
    refine H.tail.add rfl rfl rfl (by simp) (fun k hk => Below.heap_alloc w.drew _ k hk) (Hp.one w.heap.size _) (Hp.one_le (heap_alloc_new w.drew _)) (fun k hk => Hp.one_ne _ (by omega)) (fun f _ => ?_)
    refine ⟨hlen, hone, .inr ⟨w.heap.size, 0, _, rfl, Hp.one_self _ _, hge, hcm, ?_, ?_⟩⟩
    · rw [hze, hze]
      simp only [Nat.zero_add, Array.size_append, List.size_toArray, zrep_len, hz, r1, ← Nat.add_mul]
      exact Nat.mul_le_mul_right _ (by omega)
    · rw [hze, hze]
      simp only [List.drop_zero, Array.toList_append]
      rw [← hlen]
      exact List.take_left
  rcases r3 with ⟨rfl, rfl, rfl⟩ | ⟨g, o, cur, rfl, hg, hn, hcm, hcs, htk⟩
  · have hxs : xs = [] := List.eq_nil_of_length_eq_zero (by simpa using r1)
    subst hxs
    exact grow (by omega) (run_firstCells_none w.drew i.size 0 0 0)
  · by_cases hroom : n + m ≤ c
    · have hg' : w.heap[g]? = some (.cells cur e (0, 0)) := hg
      have hsz2 : o + n * i.size + (zrep zs m).length ≤ cur.size := by
        rw [hnl]
        have := Nat.mul_le_mul_right i.size hroom
        rw [Nat.add_mul] at this; omega
      have hr := run_append_room_zeros (P := P) (w := w) (ty := ty) (kq := k) hU.und hV.und g1 g2 g o n c m (zrep zs m) (hze m) h0 hsz (by omega) hmb hroom hno (fun j hj => by rw [cell_of_row w g _ cur e (0, 0) hg']; simp; omega) (fun j hj => frozen_of_row w g _ cur e hg')
      refine ⟨_, _, _, hr, ?_⟩
      obtain ⟨s1, s2, s3, s4⟩ := setCells_rest (b := g) (zrep zs m) (o + n * i.size) w
      have hh := setCells_heap (b := g) (t := e) (zrep zs m) (o + n * i.size) w cur.toList (by simpa using hg') (by simpa using hsz2)
      refine H.step s1 s2 s3 (by omega) fun f ow hrow hf ho => ?_
      have howg : ∃ y, ow g = some y := by
        obtain ⟨_, _, hq⟩ := hrow
        rcases hq with ⟨hq, _⟩ | ⟨g', o', cur', hq, hq2, _⟩
        · cases hq
        · simp only [Option.some.injEq, Addr.mk.injEq] at hq
          obtain ⟨rfl, rfl, -⟩ := hq
          exact ⟨_, hq2⟩
      refine ⟨Hp.one g _, ⟨hlen, hone, .inr ⟨g, o, _, rfl, Hp.one_self _ _, hroom, hcm, ?_, ?_⟩⟩, Hp.one_le hh, fun k hk hkn => ?_⟩
      · simp only [List.size_toArray, List.length_append, List.length_take, List.length_drop, Array.length_toList]
        omega
      · simp only [List.append_assoc]
        rw [List.drop_append, List.length_take, Array.length_toList, Nat.min_eq_left (by omega), List.drop_take]
        rw [show o + n * i.size - o = n * i.size by omega, htk, show o - (o + n * i.size) = 0 by omega, List.drop_zero, ← List.append_assoc, ← hlen]
        exact List.take_left
      · obtain ⟨y, hy⟩ := howg
        have hkg : k ≠ g := fun e => by rw [e, hy] at hkn; cases hkn
        exact ⟨Hp.one_ne _ hkg, setCells_other _ _ _ _ hkg⟩
    · refine grow (by omega) ?_
      have hsl := rowIn.sl (w := w) (t := e) (size := i.size) (ao := some ⟨g, o, none⟩) (n := n) (c := c) (xs := xs) ⟨r1, r2, .inr ⟨g, o, cur, rfl, hg, hn, hcm, hcs, htk⟩⟩
      exact run_firstCells_some w.drew i.size n ⟨g, o, none⟩ n c xs r1 (fun j v hv => hsl.cell (k := j) hv)
end
section
variable {P : Program} {ops : Array Oper} {Q : Exit → Act → World → Prop} {n : Nat} {ds : List Deferred} {w0 : World} {rest : List Oper} {fr : Slots} {rs : List Res} {ty t tx : TypeId} {x y : Operand} {pos : String} {after : Array Edge}
theorem G.appMake {d e size bytes m l c : Nat} {zs xs : List Value} {ao : Option Addr} {k kn : IntKind} {f : Option Addr → Nat → Nat → List Value → List Res} [hU : Und P t (.slice e)] [hI : Inf P e size bytes zs] [hV : Und P tx (.int kn)] (hx : ev fr x = some (.slice ao l c)) (hy : ev fr y = some (.int k (m : Int))) (h0 : 0 < m)
    [hS : VecSet rs ao l c e size xs f] (hz : zs.length = size) (hs : Nat.blt 0 size = true) (h1 : zs.all (·.oneCell') = true) (hb : (l + m) * bytes ≤ 140737488355328 ∧ l + m ≤ 1000000000000) (hd : Nat.blt d n = true) {xs' : List Value} (hxs : xs ++ zrep zs m = xs')
    (k : ∀ ao' c'', ∀ rs', rs' = f ao' (l + m) c'' xs' → @G P ops Q n ds w0 rest ((d, .slice ao' (l + m) c'') :: fr) rs') :
    @G P ops Q n ds w0 (⟨some d, .call ⟨.builtin .append, #[x, y], #[t, tx]⟩, ty, pos, after, none⟩ :: rest) fr rs := by
  subst hxs
  refine G.act hd fun a w pos after hf hw => ?_
  obtain ⟨ls, p1, _⟩ := (hS.upd none 0 0 []).split
  have hs' : 0 < size := by simpa [Nat.blt_eq] using hs
  obtain ⟨ao', c'', w', h3, h4⟩ := (hw.perm p1).appendZ (P := P) (t := t) (tx := tx) (ty := ty) hU hI hV hz hs' (List.all_eq_true.1 h1) h0 hb.1 (by unfold maxLen; omega) hb.2
  refine ⟨_, w', append_run hf.toFrE hx hy h3, _, ?_, k ao' c'' _ rfl⟩
  obtain ⟨l', q1, q2⟩ := (hS.upd ao' (l + m) c'' (xs ++ zrep zs m)).split
  have : ls.Perm l' := (p1.symm.trans q1).cons_inv
  exact (h4.perm (this.cons _)).perm q2.symm
end
end Go.Proofs.YtjfdpfjngajnlaaDoor
