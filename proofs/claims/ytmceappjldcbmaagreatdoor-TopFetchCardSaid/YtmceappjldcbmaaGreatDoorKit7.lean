/-
  THE KIT OF MY OWN, SEVENTH PART: append. Over any program; no condition.
-/
import Derived.Test.YtmceappjldcbmaaGreatDoorKit6
namespace Go.Proofs.YtmceappjldcbmaaGreatDoor
open Go.RowKit Go.Sort
set_option linter.unusedVariables false
set_option linter.unusedSimpArgs false

/-- so many cells of a block written -/
theorem setCells_heap {b : Nat} {t : TypeId} : ∀ (vs : List Value) (o : Nat) (w : World) (cs : List Value), w.heap[b]? = some (.cells cs.toArray t (0, 0)) → o + vs.length ≤ cs.length →
    (w.setCells b o vs).heap[b]? = some (.cells (cs.take o ++ vs ++ cs.drop (o + vs.length)).toArray t (0, 0))
  | [], o, w, cs, h, _ => by simpa [World.setCells] using h
  | v :: vs, o, w, cs, h, hl => by
    have hl' : o + 1 + vs.length ≤ cs.length := by simp at hl; omega
    have h1 : (w.setCell ⟨b, o, none⟩ v).heap[b]? = some (.cells (cs.set o v).toArray t (0, 0)) := setCell_same w b cs t o v h
    have h2 := setCells_heap vs (o + 1) (w.setCell ⟨b, o, none⟩ v) (cs.set o v) h1 (by simpa using hl')
    have e : (cs.set o v).take (o + 1) ++ vs ++ (cs.set o v).drop (o + 1 + vs.length) = cs.take o ++ (v :: vs) ++ cs.drop (o + (v :: vs).length) := by
      have hj : o < cs.length := by omega
      rw [List.drop_set_of_lt (by omega), List.take_succ_eq_append_getElem (by simpa using hj), List.take_set_of_le (by omega)]
      simp [Nat.add_assoc, Nat.add_comm 1]
    rw [e] at h2
    exact h2
theorem setCells_other {b : Nat} : ∀ (vs : List Value) (o : Nat) (w : World) (k : Nat), k ≠ b → (w.setCells b o vs).heap[k]? = w.heap[k]?
  | [], o, w, k, h => rfl
  | v :: vs, o, w, k, h => (setCells_other vs (o + 1) _ k h).trans (Below.heap_setCell _ _ _ _ (by simpa using h))
theorem setCells_rest {b : Nat} : ∀ (vs : List Value) (o : Nat) (w : World), (w.setCells b o vs).os = w.os ∧ (w.setCells b o vs).tape = w.tape ∧ (w.setCells b o vs).output = w.output ∧ (w.setCells b o vs).heap.size = w.heap.size
  | [], o, w => ⟨rfl, rfl, rfl, rfl⟩
  | v :: vs, o, w => by
    obtain ⟨h1, h2, h3, h4⟩ := setCells_rest (b := b) vs (o + 1) (w.setCell ⟨b, o, none⟩ v)
    exact ⟨h1, h2, h3, h4.trans (by simp)⟩

section
variable {P : Program} {w0 : World} {rs : List Res}
/-- append onto a row of the call's own: it stays in its block, or moves into a new one -/
theorem Holds.append {w : World} {t tx ty e size bytes : Nat} {zs : List Value} {ao : Option Addr} {n c : Nat} {xs : List Value} (H : Holds w0 w (.vec e size ao n c xs :: rs)) (hU : Und P t (.slice e)) (hI : Inf P e size bytes zs) (hz : zs.length = size)
    {x : Value} {m : Nat} {news : List Value} (hs : Src P size tx x m news w) (hb : (n + m) * bytes ≤ 140737488355328) (hm : n + m ≤ maxLen) :
    ∃ ao' c' w', (Builtin.append_ #[t, tx] ty #[.slice ao n c, x]).run P w = .ok (.slice ao' (n + m) c') w' ∧ Holds w0 w' (.vec e size ao' (n + m) c' (xs ++ news) :: rs) := by
  obtain ⟨i, z, g1, g2, g3, g4, g5⟩ := hI.get
  subst g4; subst g5
  have hrow : rowIn (hp w) e i.size ao n c xs := H.at (List.mem_cons_self ..)
  obtain ⟨r1, r2, r3⟩ := hrow
  have hlen : (xs ++ news).length = (n + m) * i.size := by rw [List.length_append, r1, hs.newsLen, Nat.add_mul]
  have hone : ∀ u ∈ xs ++ news, u.oneCell' = true := fun u hu => (List.mem_append.1 hu).elim (r2 u) (hs.one u)
  have hzs : z.cells.size = i.size := by rw [← hz, ← g3]; simp
  have grow : ∀ (olds : List Value), olds = xs → c < n + m → (Builtin.firstCells i.size n (.slice ao n c)).run P w.drew = .ok olds.toArray w.drew →
      ∃ ao' c' w', (Builtin.append_ #[t, tx] ty #[.slice ao n c, x]).run P w = .ok (.slice ao' (n + m) c') w' ∧ Holds w0 w' (.vec e i.size ao' (n + m) c' (xs ++ news) :: rs) := by
    intro olds ho hc hold
    subst ho
    have hr := run_append_grow_src (P := P) w t tx ty e i z hU.und g1 g2 ao n c olds hold x m news hs hc (by unfold maxLen at hm; omega) (growslice_fits hc hb)
    have hge := grownCap_ge w (n + m) c e
    have hcm : grownCap w (n + m) c e ≤ maxLen := grownCap_le_maxLen w (n + m) c e hm
    refine ⟨_, _, _, hr, ?_⟩
    refine H.tail.add rfl rfl rfl (by simp) (fun k hk => Below.heap_alloc w.drew _ k hk) (Hp.one w.heap.size _) (Hp.one_le (heap_alloc_new w.drew _)) (fun k hk => Hp.one_ne _ (by omega)) (fun f _ => ?_)
    refine ⟨hlen, hone, .inr ⟨w.heap.size, 0, _, rfl, Hp.one_self _ _, hge, hcm, ?_, ?_⟩⟩
    · simp only [Nat.zero_add, Array.size_append, List.size_toArray, size_zeroCells, hzs, hlen, ← Nat.add_mul]
      exact Nat.mul_le_mul_right _ (by omega)
    · simp only [List.drop_zero, Array.toList_append]
      rw [← hlen]
      exact List.take_left
  rcases r3 with ⟨rfl, rfl, rfl⟩ | ⟨g, o, cur, rfl, hg, hn, hcm, hcs, htk⟩
  · have hxs : xs = [] := List.eq_nil_of_length_eq_zero (by simpa using r1)
    subst hxs
    by_cases h0 : m = 0
    · subst h0
      have hnews : news = [] := List.eq_nil_of_length_eq_zero (by simpa using hs.newsLen)
      subst hnews
      refine ⟨none, 0, w, ?_, by simpa using H⟩
      have hsl := hs.len w
      have hfc := hs.cells
      rcases hs.kind with ⟨e', hk⟩ | hk <;> simp [Builtin.append_, run_underlying hU.und, run_underlying hk, sizeOf, typeInfo, g1, hsl, hfc]
    · exact grow [] rfl (by omega) (run_firstCells_none w.drew i.size 0 0 0)
  · by_cases hroom : n + m ≤ c
    · have hg' : w.heap[g]? = some (.cells cur e (0, 0)) := hg
      have hsz : o + n * i.size + news.length ≤ cur.size := by
        rw [hs.newsLen]
        have := Nat.mul_le_mul_right i.size hroom
        rw [Nat.add_mul] at this; omega
      have hr := run_append_room_src (P := P) w t tx ty e i hU.und g1 g o n c x m news hs hroom (fun j hj => by rw [cell_of_row w g _ cur e (0, 0) hg']; simp; omega) (fun j hj => frozen_of_row w g _ cur e hg')
      refine ⟨_, _, _, hr, ?_⟩
      obtain ⟨s1, s2, s3, s4⟩ := setCells_rest (b := g) news (o + n * i.size) w
      have hh := setCells_heap (b := g) (t := e) news (o + n * i.size) w cur.toList (by simpa using hg') (by simpa using hsz)
      refine H.step s1 s2 s3 (by omega) fun f ow hrow hf ho => ?_
      have howg : ∃ y, ow g = some y := by
        obtain ⟨_, _, hq⟩ := hrow
        rcases hq with ⟨hq, _⟩ | ⟨g', o', cur', hq, hq2, _⟩
        · cases hq
        · simp only [Option.some.injEq, Addr.mk.injEq] at hq
          obtain ⟨rfl, rfl, -⟩ := hq
          exact ⟨_, hq2⟩
      refine ⟨Hp.one g _, ⟨hlen, hone, .inr ⟨g, o, _, rfl, Hp.one_self _ _, hroom, hcm, ?_, ?_⟩⟩, Hp.one_le hh, fun k hk hkn => ?_⟩
      · simp only [List.size_toArray, List.length_append, List.length_take, List.length_drop, Array.length_toList]
        omega
      · simp only [List.append_assoc]
        rw [List.drop_append, List.length_take, Array.length_toList, Nat.min_eq_left (by omega), List.drop_take]
        rw [show o + n * i.size - o = n * i.size by omega, htk, show o - (o + n * i.size) = 0 by omega, List.drop_zero, ← List.append_assoc, ← hlen]
        exact List.take_left
      · obtain ⟨y, hy⟩ := howg
        have hkg : k ≠ g := fun e => by rw [e, hy] at hkn; cases hkn
        exact ⟨Hp.one_ne _ hkg, setCells_other _ _ _ _ hkg⟩
    · refine grow xs rfl (by omega) ?_
      have hsl := rowIn.sl (w := w) (t := e) (size := i.size) (ao := some ⟨g, o, none⟩) (n := n) (c := c) (xs := xs) ⟨r1, r2, .inr ⟨g, o, cur, rfl, hg, hn, hcm, hcs, htk⟩⟩
      exact run_firstCells_some w.drew i.size n ⟨g, o, none⟩ n c xs r1 (fun j v hv => hsl.cell (k := j) hv)

/-- which row is written -/
class VecSet (rs : List Res) (ao : Option Addr) (n c : Nat) (e size : outParam Nat) (xs : outParam (List Value)) (f : outParam (Option Addr → Nat → Nat → List Value → List Res)) : Prop where
  upd : ∀ ao' n' c' xs', Upd rs (.vec e size ao n c xs) (.vec e size ao' n' c' xs') (f ao' n' c' xs')
instance VecSet.here {ao : Option Addr} {n c e size : Nat} {xs : List Value} {rs : List Res} : VecSet (.vec e size ao n c xs :: rs) ao n c e size xs (fun ao' n' c' xs' => .vec e size ao' n' c' xs' :: rs) := ⟨fun _ _ _ _ => .here⟩
instance (priority := low) VecSet.there {ao : Option Addr} {n c e size : Nat} {xs : List Value} {r : Res} {rs : List Res} {f : Option Addr → Nat → Nat → List Value → List Res} [h : VecSet rs ao n c e size xs f] : VecSet (r :: rs) ao n c e size xs (fun ao' n' c' xs' => r :: f ao' n' c' xs') := ⟨fun a b c d => .there (h.upd a b c d)⟩

theorem Sl.src {t e size : Nat} {w : World} (hU : Und P t (.slice e)) {bo : Option Addr} {m d : Nat} {news : List Value} (h : Sl w bo m d size news) : Src P size t (.slice bo m d) m news w := by
  cases bo with
  | none =>
    have h1 := h.nil rfl
    have h2 := h.le
    obtain rfl : m = 0 := by omega
    have hn : news = [] := List.eq_nil_of_length_eq_zero (by simpa using h.len)
    subst hn
    exact Src.ofNil w hU.und d
  | some a => exact Src.ofSlice w hU.und a m d news h.len (fun j u hu => h.cell (k := j) hu) h.one

variable {ops : Array Oper} {Q : Exit → Act → World → Prop} {n : Nat} {ds : List Deferred} {rest : List Oper} {fr : Slots} {ty t tx : TypeId} {x y : Operand} {pos : String} {after : Array Edge}
theorem append_run {a : Act} {w : World} {dst : Option Tmp} {guard : Option (Nat × Bool)} {ao : Option Addr} {m c : Nat} {u r : Value} {w' : World} (hf : FrE a n fr) (hx : ev fr x = some (.slice ao m c)) (hy : ev fr y = some u)
    (h : (Builtin.append_ #[t, tx] ty #[.slice ao m c, u]).run P w = .ok r w') : (execOp a.eval ⟨dst, .call ⟨.builtin .append, #[x, y], #[t, tx]⟩, ty, pos, after, guard⟩).run P w = .ok (.value r) w' := by
  simp [execOp, hf.ev hx, hf.ev hy, resolve, invoke, builtin, h]
/-- append of a slice onto a row of the call's own -/
theorem G.app {d e e' size bytes m c m' c' : Nat} {zs xs news : List Value} {ao bo : Option Addr} {f : Option Addr → Nat → Nat → List Value → List Res} [hU : Und P t (.slice e)] [hI : Inf P e size bytes zs] [hV : Und P tx (.slice e')] (hx : ev fr x = some (.slice ao m c)) (hy : ev fr y = some (.slice bo m' c'))
    [hS : VecSet rs ao m c e size xs f] [hR : SlAt rs bo m' c' size news] (hz : zs.length = size) (hb : (m + m') * bytes ≤ 140737488355328 ∧ m + m' ≤ 140737488355328) (hd : Nat.blt d n = true) {xs' : List Value} (hxs : xs ++ news = xs')
    (k : ∀ ao' c'', ∀ rs', rs' = f ao' (m + m') c'' xs' → @G P ops Q n ds w0 rest ((d, .slice ao' (m + m') c'') :: fr) rs') :
    @G P ops Q n ds w0 (⟨some d, .call ⟨.builtin .append, #[x, y], #[t, tx]⟩, ty, pos, after, none⟩ :: rest) fr rs := by
  subst hxs
  refine G.act hd fun a w pos after hf hw => ?_
  have hsl := hR.get hw
  obtain ⟨l, p1, _⟩ := (hS.upd none 0 0 []).split
  obtain ⟨ao', c'', w', h1, h2⟩ := (hw.perm p1).append (P := P) (t := t) (tx := tx) (ty := ty) hU hI hz (hsl.src hV) hb.1 (by unfold maxLen; omega)
  refine ⟨_, w', append_run hf.toFrE hx hy h1, _, ?_, k ao' c'' _ rfl⟩
  obtain ⟨l', q1, q2⟩ := (hS.upd ao' (m + m') c'' (xs ++ news)).split
  have : l.Perm l' := (p1.symm.trans q1).cons_inv
  exact (h2.perm (this.cons _)).perm q2.symm
end
end Go.Proofs.YtmceappjldcbmaaGreatDoor
