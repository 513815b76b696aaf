/-
  THE KIT OF MY OWN, ELEVENTH PART: rows written in their place; pieces of rows that stay one's own; conversions, shifts, closures; many resources as one. Over any program; no condition.
-/
import Derived.Test.YtjfdpfjngajnlaaDoorKit10
namespace Go.Proofs.YtjfdpfjngajnlaaDoor
open Go.RowKit Go.Sort
set_option linter.unusedVariables false
set_option linter.unusedSimpArgs false

theorem eadr_some (g o k : Nat) : eadr (some ⟨g, o, none⟩) k = badr g (o + k) := Addr.add_lit g o k

theorem flat_set {α : Type} [Inhabited α] {enc : α → List Value} {s : Nat} (h : Enc enc s) : ∀ (l : List α) (k j : Nat) (v : Value) (z : α), k < l.length → j < s → (enc (l.getD k default)).set j v = enc z → (flat enc l).set (k * s + j) v = flat enc (l.set k z)
  | [], k, j, v, z, hk, hj, e => by simp at hk
  | a :: t, 0, j, v, z, hk, hj, e => by
    have ha : (enc a).length = s := h.len a
    have e' : (enc a).set j v = enc z := by simpa using e
    show (enc a ++ flat enc t).set (0 * s + j) v = enc z ++ flat enc t
    rw [Nat.zero_mul, Nat.zero_add, List.set_append_left _ _ (by omega), e']
  | a :: t, k + 1, j, v, z, hk, hj, e => by
    have ha : (enc a).length = s := h.len a
    have e' : (enc (t.getD k default)).set j v = enc z := by simpa using e
    show (enc a ++ flat enc t).set ((k + 1) * s + j) v = enc a ++ flat enc (t.set k z)
    have hx : (k + 1) * s + j = s + (k * s + j) := by rw [Nat.succ_mul]; omega
    rw [hx, List.set_append_right _ _ (by omega), show s + (k * s + j) - (enc a).length = k * s + j by omega, flat_set h t k j v z (by simpa using hk) hj e']
theorem flat_put {α : Type} {enc : α → List Value} {s : Nat} (h : Enc enc s) (l : List α) (k : Nat) (z : α) (hk : k < l.length) : (flat enc l).take (k * s) ++ enc z ++ (flat enc l).drop (k * s + s) = flat enc (l.set k z) := by
  rw [show k * s + s = (k + 1) * s by rw [Nat.succ_mul], flat_take h, flat_drop h, List.set_eq_take_append_cons_drop, if_pos hk, flat_append]
  simp [flat]

section
variable {P : Program} {ops : Array Oper} {Q : Exit → Act → World → Prop} {K : Act → Prop} {n : Nat} {ds : List Deferred} {w0 : World} {rest : List Oper} {fr : Slots} {rs rs' : List Res} {ty t tx t' : TypeId} {x y : Operand} {pos : String} {after : Array Edge}

/-- a cell of a row of one's own, written -/
theorem Holds.setVec {w : World} {e : TypeId} {size : Nat} {ao : Option Addr} {m c : Nat} {xs : List Value} (H : Holds w0 w (.vec e size ao m c xs :: rs)) (k : Nat) (v : Value) (hk : k < xs.length) (hv : v.oneCell' = true) :
    Holds w0 (w.setCell (eadr ao k) v) (.vec e size ao m c (xs.set k v) :: rs) := by
  refine H.step rfl rfl rfl (by simp) fun f o hr hf ho => ?_
  obtain ⟨h1, h2, h3⟩ := hr
  rcases h3 with ⟨rfl, rfl, rfl⟩ | ⟨g, q, cur, rfl, hg, hn, hm, hs, ht⟩
  · simp at h1; subst h1; simp at hk
  rw [eadr_some]
  have hb : w.heap[g]? = some (.cells cur e (0, 0)) := ho _ _ hg
  have hset : (w.setCell (badr g (q + k)) v).heap[g]? = some (.cells (cur.setIfInBounds (q + k) v) e (0, 0)) := by
    have := heap_setCell_same w g (q + k) cur e v hb
    exact this
  refine ⟨Hp.one g (.cells (cur.setIfInBounds (q + k) v) e (0, 0)), ⟨by simpa using h1, ?_, .inr ⟨g, q, _, rfl, Hp.one_self _ _, hn, hm, by simpa using hs, ?_⟩⟩, Hp.one_le hset, ?_⟩
  · intro u hu
    rcases List.mem_or_eq_of_mem_set hu with hu | rfl
    · exact h2 u hu
    · exact hv
  · rw [← ht]
    simp only [Array.toList_setIfInBounds]
    rw [List.drop_set, if_neg (by omega), List.take_set, show q + k - q = k by omega]
  · intro i hi hno
    have hig : i ≠ g := fun e => by rw [e, hg] at hno; cases hno
    exact ⟨Hp.one_ne _ hig, Below.heap_setCell _ _ _ _ (by simpa [badr] using hig)⟩
theorem Holds.putVec {e : TypeId} {size g q m c : Nat} : ∀ (vs : List Value) (k : Nat) (xs : List Value) {w : World}, Holds w0 w (.vec e size (some ⟨g, q, none⟩) m c xs :: rs) → k + vs.length ≤ xs.length → (∀ v ∈ vs, v.oneCell' = true) →
    Holds w0 (w.setCells g (q + k) vs) (.vec e size (some ⟨g, q, none⟩) m c (xs.take k ++ vs ++ xs.drop (k + vs.length)) :: rs)
  | [], k, xs, w, H, hl, h1 => by simpa [World.setCells] using H
  | v :: vs, k, xs, w, H, hl, h1 => by
    have h2 := H.setVec k v (by simp at hl; omega) (h1 v (by simp))
    rw [eadr_some] at h2
    have hl' : k + 1 + vs.length ≤ xs.length := by simp at hl; omega
    have h3 := Holds.putVec vs (k + 1) (xs.set k v) h2 (by simpa using hl') (fun u hu => h1 u (by simp [hu]))
    have e : (xs.set k v).take (k + 1) ++ vs ++ (xs.set k v).drop (k + 1 + vs.length) = xs.take k ++ (v :: vs) ++ xs.drop (k + (v :: vs).length) := by
      have hj : k < xs.length := by omega
      rw [List.drop_set_of_lt (by omega), List.take_succ_eq_append_getElem (by simpa using hj), List.take_set_of_le (by omega)]
      simp [Nat.add_assoc, Nat.add_comm 1]
    rw [e] at h3
    exact h3
/-- which row of one's own lies at an address -/
class VecUpd (rs : List Res) (ao : Option Addr) (e size n c : outParam Nat) (xs : outParam (List Value)) (f : outParam (List Value → List Res)) : Prop where
  upd : ∀ xs', Upd rs (.vec e size ao n c xs) (.vec e size ao n c xs') (f xs')
instance VecUpd.here {ao : Option Addr} {n c e size : Nat} {xs : List Value} {rs : List Res} : VecUpd (.vec e size ao n c xs :: rs) ao e size n c xs (fun xs' => .vec e size ao n c xs' :: rs) := ⟨fun _ => .here⟩
instance (priority := low) VecUpd.there {ao : Option Addr} {n c e size : Nat} {xs : List Value} {r : Res} {rs : List Res} {f : List Value → List Res} [h : VecUpd rs ao e size n c xs f] : VecUpd (r :: rs) ao e size n c xs (fun xs' => r :: f xs') := ⟨fun a => .there (h.upd a)⟩
theorem vec_cell {w : World} {l : List Res} {e size m c : Nat} {ao : Option Addr} {xs : List Value} (H : Holds w0 w (.vec e size ao m c xs :: l)) {k : Nat} (hk : k < xs.length) :
    ∃ g q, ao = some ⟨g, q, none⟩ ∧ (∀ i, i < xs.length → (w.cell? (badr g (q + i))).isSome = true) ∧ ∀ i, w.frozen? (badr g i) = false := by
  have hr := H.at (List.mem_cons_self ..)
  obtain ⟨h1, h2, h3⟩ := hr
  rcases h3 with ⟨rfl, rfl, rfl⟩ | ⟨g, q, cur, rfl, hg, hn, hm, hs, ht⟩
  · simp at h1; subst h1; simp at hk
  have hb : w.heap[g]? = some (.cells cur e (0, 0)) := hg
  refine ⟨g, q, rfl, fun i hi => ?_, fun i => frozen_of_row w g i cur e hb⟩
  show (w.cell? ⟨g, q + i, none⟩).isSome = true
  rw [cell_of_row w g (q + i) cur e (0, 0) hb]
  have : i < (cur.toList.drop q).length := by
    rw [← ht] at hi
    simp at hi ⊢
    omega
  simp at this ⊢
  omega
theorem G.storeV {k size' bytes e size m c : Nat} {zs xs xs' : List Value} {v : Value} {ao : Option Addr} {f : List Value → List Res} [hI : Inf P t size' bytes zs] (hx : ev fr x = some (.pointer (some (eadr ao k)))) (hy : ev fr y = some v) (hs : size' = 1) (hv : v.oneCell' = true) [hV : VecUpd rs ao e size m c xs f] (hk : k < xs.length) (hxs : xs.set k v = xs')
    (K : ∀ rs', rs' = f xs' → @G P ops Q n ds w0 rest fr rs') : @G P ops Q n ds w0 (⟨none, .store t x y, ty, pos, after, none⟩ :: rest) fr rs := by
  subst hxs
  refine G.actU (rs' := f (xs.set k v)) (fun a w pos after hf hw => ⟨w.setCell (eadr ao k) v, ?_, hw.upd (hV.upd _) fun l h => h.setVec k v hk hv⟩) (K _ rfl)
  obtain ⟨l, h1, h2⟩ := (hV.upd xs).split
  obtain ⟨g, q, rfl, hc, hz⟩ := vec_cell (hw.perm h1) hk
  rw [eadr_some] at hx ⊢
  have := store_run hI hs (p := badr g (q + k)) (w := w) hv (hc k hk) (hz _)
  simp [execOp, hf.ev hx, hf.ev hy, this]
theorem G.storeT {α : Type} [Inhabited α] {enc : α → List Value} {l : List α} {s k j size' bytes e size m c : Nat} {zs : List Value} {v : Value} {ao : Option Addr} {f : List Value → List Res} [hI : Inf P t size' bytes zs] (hx : ev fr x = some (.pointer (some (eadr ao (k * s + j))))) (hy : ev fr y = some v) (hs : size' = 1) (hv : v.oneCell' = true) [hV : VecUpd rs ao e size m c (flat enc l) f] [hE : Enc enc s] (hk : k < l.length) (hj : Nat.blt j s = true)
    (z : α) (hz : (enc (l.getD k default)).set j v = enc z) (K : ∀ rs', rs' = f (flat enc (l.set k z)) → @G P ops Q n ds w0 rest fr rs') : @G P ops Q n ds w0 (⟨none, .store t x y, ty, pos, after, none⟩ :: rest) fr rs := by
  have hj' : j < s := by simpa [Nat.blt_eq] using hj
  refine G.storeV hx hy hs hv ?_ (flat_set hE l k j v z hk hj' hz) K
  rw [flat_len hE]
  calc k * s + j < k * s + s := by omega
    _ = (k + 1) * s := (Nat.succ_mul k s).symm
    _ ≤ l.length * s := Nat.mul_le_mul_right _ hk
theorem G.storeT0 {α : Type} [Inhabited α] {enc : α → List Value} {l : List α} {s k size' bytes e size m c : Nat} {zs : List Value} {v : Value} {ao : Option Addr} {f : List Value → List Res} [hI : Inf P t size' bytes zs] (hx : ev fr x = some (.pointer (some (eadr ao (k * s))))) (hy : ev fr y = some v) (hs : size' = 1) (hv : v.oneCell' = true) [hV : VecUpd rs ao e size m c (flat enc l) f] [hE : Enc enc s] (hk : k < l.length) (hj : Nat.blt 0 s = true)
    (z : α) (hz : (enc (l.getD k default)).set 0 v = enc z) (K : ∀ rs', rs' = f (flat enc (l.set k z)) → @G P ops Q n ds w0 rest fr rs') : @G P ops Q n ds w0 (⟨none, .store t x y, ty, pos, after, none⟩ :: rest) fr rs :=
  G.storeT (j := 0) hx hy hs hv hk hj z hz K
theorem G.storeTA {α : Type} [Inhabited α] {enc : α → List Value} {l : List α} {s k bytes e size m c : Nat} {zs vs : List Value} {ao : Option Addr} {f : List Value → List Res} [hI : Inf P t s bytes zs] (hx : ev fr x = some (.pointer (some (eadr ao (k * s))))) (hy : ev fr y = some (.agg vs.toArray)) [hV : VecUpd rs ao e size m c (flat enc l) f] [hE : Enc enc s] (hk : k < l.length) (hpos : Nat.blt 0 s = true)
    (z : α) (hz : vs = enc z) (K : ∀ rs', rs' = f (flat enc (l.set k z)) → @G P ops Q n ds w0 rest fr rs') : @G P ops Q n ds w0 (⟨none, .store t x y, ty, pos, after, none⟩ :: rest) fr rs := by
  subst hz
  have hpos' : 0 < s := by simpa [Nat.blt_eq] using hpos
  have hlen : k * s + s ≤ (flat enc l).length := by
    rw [flat_len hE]
    calc k * s + s = (k + 1) * s := (Nat.succ_mul k s).symm
      _ ≤ l.length * s := Nat.mul_le_mul_right _ hk
  have hzl := hE.len z
  refine fun a w hf hw => ?_
  obtain ⟨lr, h1, h2⟩ := (hV.upd (flat enc l)).split
  obtain ⟨g, q, rfl, hc, hz'⟩ := vec_cell (hw.perm h1) (k := k * s) (by omega)
  refine (G.actU (rs' := f (flat enc (l.set k z))) (fun a w pos after hf hw => ⟨w.setCells g (q + k * s) (enc z), ?_, ?_⟩) (K _ rfl)) a w hf hw
  · obtain ⟨g', q', e', hc, hz'⟩ := vec_cell (hw.perm h1) (k := k * s) (by omega)
    obtain ⟨rfl, rfl⟩ : g = g' ∧ q = q' := by simpa using e'
    rw [eadr_some] at hx
    have := storeAgg_run hI (b := g) (j := q + k * s) (w := w) hzl (fun v hv => hE.one z v hv) (fun i hi => by
      have := hc (k * s + i) (by omega)
      rwa [show q + (k * s + i) = q + k * s + i by omega] at this) (fun i _ => hz' _)
    simp [execOp, hf.ev hx, hf.ev hy, this]
  · refine hw.upd (hV.upd _) fun l' h => ?_
    have h3 := Holds.putVec (enc z) (k * s) (flat enc l) h (by omega) (fun v hv => hE.one z v hv)
    rw [hzl, flat_put hE l k z hk] at h3
    exact h3
end
end Go.Proofs.YtjfdpfjngajnlaaDoor
