/-
  SLICES AS THE WALKS OF THIS SEAT SPEAK OF THEM: 'Sl' (a slice that can be read), 'Own' (a slice that the call made itself), and append as one law for both. Over any program; no condition.
-/
import Derived.Test.YtfkgchdbjfbdaaaBase
namespace Go.Proofs.Ytfkgchdbjfbdaaa
open Go.RowKit
open Go.BigFrame (wpList_want)
set_option linter.unusedVariables false

/-- the slice value '.slice ao n c' reads as the cells xs ('size' cells each element) -/
structure Sl (w : World) (ao : Option Addr) (n c size : Nat) (xs : List Value) : Prop where
  len : xs.length = n * size
  le : n ≤ c
  cap : c ≤ maxLen
  nil : ao = none → c = 0
  get : 0 < n → ∃ b o, ao = some ⟨b, o, none⟩ ∧ b < w.heap.size ∧ ∀ j u, xs[j]? = some u → w.cell? ⟨b, o + j, none⟩ = some u
  one : ∀ u ∈ xs, u.oneCell' = true

/-- the block that a slice value leads to -/
def blk : Option Addr → Option Nat
  | some a => some a.block
  | none => none

/-- the slice value '.slice ao n c' leads to a row of the call's own: a block from 'base' on, not frozen, xs its first cells -/
structure Own (w : World) (base : Nat) (e : TypeId) (size : Nat) (ao : Option Addr) (n c : Nat) (xs : List Value) : Prop where
  row : w.ownsRow base e size (.slice ao n c) n xs
  one : ∀ u ∈ xs, u.oneCell' = true

theorem Own.cases {w : World} {base : Nat} {e : TypeId} {size : Nat} {ao : Option Addr} {n c : Nat} {xs : List Value} (h : Own w base e size ao n c xs) :
    (ao = none ∧ n = 0 ∧ c = 0 ∧ xs = []) ∨ ∃ g cur, ao = some ⟨g, 0, none⟩ ∧ base ≤ g ∧ w.heap[g]? = some (.cells cur e (0, 0)) ∧ n ≤ c ∧ c ≤ maxLen ∧ cur.size = c * size ∧ cur.toList.take (n * size) = xs := by
  obtain ⟨h1, h2⟩ := h.row
  rcases h2 with ⟨h2, rfl⟩ | ⟨g, cap, cur, h3, h4⟩
  · simp only [Value.slice.injEq] at h2
    obtain ⟨rfl, -, rfl⟩ := h2
    exact .inl ⟨rfl, rfl, rfl, List.eq_nil_of_length_eq_zero (by simpa using h1)⟩
  · simp only [Value.slice.injEq] at h3
    obtain ⟨rfl, -, rfl⟩ := h3
    exact .inr ⟨g, cur, rfl, h4⟩

theorem Own.nil (w : World) (base : Nat) (e : TypeId) (size : Nat) : Own w base e size none 0 0 [] := ⟨World.ownsRow_nil _ _ _ _, by simp⟩

theorem Own.len {w : World} {base : Nat} {e : TypeId} {size : Nat} {ao : Option Addr} {n c : Nat} {xs : List Value} (h : Own w base e size ao n c xs) : xs.length = n * size := h.row.1

theorem block_lt {w : World} {g : Nat} {o : Obj} (h : w.heap[g]? = some o) : g < w.heap.size := (Array.getElem?_eq_some_iff.1 h).1

theorem Own.blk_lt {w : World} {base : Nat} {e : TypeId} {size : Nat} {ao : Option Addr} {n c : Nat} {xs : List Value} (h : Own w base e size ao n c xs) : ∀ k, blk ao = some k → base ≤ k ∧ k < w.heap.size := by
  intro k hk
  rcases h.cases with ⟨rfl, _⟩ | ⟨g, cur, rfl, hb, hg, _⟩
  · simp [blk] at hk
  · simp [blk] at hk; subst hk; exact ⟨hb, block_lt hg⟩

theorem Own.sl {w : World} {base : Nat} {e : TypeId} {size : Nat} {ao : Option Addr} {n c : Nat} {xs : List Value} (h : Own w base e size ao n c xs) : Sl w ao n c size xs := by
  rcases h.cases with ⟨rfl, rfl, rfl, rfl⟩ | ⟨g, cur, rfl, hb, hg, hn, hm, hs, ht⟩
  · exact ⟨by simp, Nat.le_refl _, Nat.zero_le _, fun _ => rfl, fun h0 => (by omega), by simp⟩
  · refine ⟨h.len, hn, hm, fun h => (by cases h), fun _ => ?_, h.one⟩
    refine ⟨g, 0, rfl, block_lt hg, fun j u hu => ?_⟩
    rw [Nat.zero_add, cell_of_row w g j cur e (0, 0) hg]
    rw [← ht, List.getElem?_take] at hu
    split at hu
    · simpa using hu
    · cases hu

/-- an owned slice that is not empty: its address, its cells (none frozen) -/
theorem Own.get {w : World} {base : Nat} {e : TypeId} {size : Nat} {ao : Option Addr} {n c : Nat} {xs : List Value} (h : Own w base e size ao n c xs) (hn : 0 < n) :
    ∃ g, ao = some ⟨g, 0, none⟩ ∧ base ≤ g ∧ g < w.heap.size ∧ (∀ j u, xs[j]? = some u → w.cell? ⟨g, j, none⟩ = some u) ∧ ∀ j, w.frozen? ⟨g, j, none⟩ = false := by
  rcases h.cases with ⟨rfl, rfl, rfl, rfl⟩ | ⟨g, cur, rfl, hb, hg, hn', hm, hs, ht⟩
  · omega
  · refine ⟨g, rfl, hb, block_lt hg, fun j u hu => ?_, fun j => frozen_of_row w g j cur e hg⟩
    obtain ⟨b, o, e1, _, h2⟩ := h.sl.get hn
    simp only [Option.some.injEq, Addr.mk.injEq] at e1
    obtain ⟨rfl, rfl, -⟩ := e1
    simpa using h2 j u hu

theorem Own.mono {w : World} {base base' : Nat} {e : TypeId} {size : Nat} {ao : Option Addr} {n c : Nat} {xs : List Value} (h : Own w base e size ao n c xs) (hb : base' ≤ base) : Own w base' e size ao n c xs := by
  refine ⟨⟨h.row.1, ?_⟩, h.one⟩
  rcases h.row.2 with h2 | ⟨g, cap, cur, hv, hg, r⟩
  · exact .inl h2
  · exact .inr ⟨g, cap, cur, hv, Nat.le_trans hb hg, r⟩

/-- what is owned stays owned where its block is left alone -/
theorem Own.keep {w w' : World} {base : Nat} {e : TypeId} {size : Nat} {ao : Option Addr} {n c : Nat} {xs : List Value} (h : Own w base e size ao n c xs) (hk : ∀ k, blk ao = some k → w'.heap[k]? = w.heap[k]?) : Own w' base e size ao n c xs := by
  refine ⟨⟨h.row.1, ?_⟩, h.one⟩
  rcases h.row.2 with h2 | ⟨g, cap, cur, hv, hg, hh, r⟩
  · exact .inl h2
  · refine .inr ⟨g, cap, cur, hv, hg, ?_, r⟩
    simp only [Value.slice.injEq] at hv
    rw [hk g (by rw [hv.1]; rfl)]; exact hh

theorem Own.below {w w' : World} {base : Nat} {e : TypeId} {size : Nat} {ao : Option Addr} {n c : Nat} {xs : List Value} (h : Own w base e size ao n c xs) (hb : Below w.heap.size w w') : Own w' base e size ao n c xs :=
  h.keep fun k hk => hb.block k (h.blk_lt k hk).2
theorem Own.alloc {w : World} {base : Nat} {e : TypeId} {size : Nat} {ao : Option Addr} {n c : Nat} {xs : List Value} (h : Own w base e size ao n c xs) (o : Obj) : Own (w.alloc o) base e size ao n c xs :=
  h.below ((Below.refl _ _).alloc (Nat.le_refl _) o)

theorem Sl.keep {w w' : World} {ao : Option Addr} {n c size : Nat} {xs : List Value} (h : Sl w ao n c size xs) (hs : w.heap.size ≤ w'.heap.size) (hk : ∀ k, blk ao = some k → k < w.heap.size → w'.heap[k]? = w.heap[k]?) : Sl w' ao n c size xs := by
  refine ⟨h.len, h.le, h.cap, h.nil, fun hn => ?_, h.one⟩
  obtain ⟨b, o, had, h1, h2⟩ := h.get hn
  refine ⟨b, o, had, Nat.lt_of_lt_of_le h1 hs, fun j u hu => ?_⟩
  rw [World.cell?_of_block (w := w) (w' := w') (hk b (by rw [had]; rfl) h1)]
  exact h2 j u hu
theorem Sl.below {w w' : World} {ao : Option Addr} {n c size : Nat} {xs : List Value} (h : Sl w ao n c size xs) (hb : Below w.heap.size w w') : Sl w' ao n c size xs :=
  h.keep hb.size fun k _ hlt => hb.block k hlt
theorem Sl.alloc {w : World} {ao : Option Addr} {n c size : Nat} {xs : List Value} (h : Sl w ao n c size xs) (o : Obj) : Sl (w.alloc o) ao n c size xs :=
  h.below ((Below.refl _ _).alloc (Nat.le_refl _) o)

theorem Sl.take {w : World} {ao : Option Addr} {n c size : Nat} {xs : List Value} (h : Sl w ao n c size xs) (k : Nat) (hk : k ≤ n) : Sl w ao k c size (xs.take (k * size)) := by
  have hm : k * size ≤ n * size := Nat.mul_le_mul_right _ hk
  refine ⟨by rw [List.length_take, h.len]; omega, Nat.le_trans hk h.le, h.cap, h.nil, fun h0 => ?_, fun u hu => h.one u (List.mem_of_mem_take hu)⟩
  obtain ⟨b, o, had, h1, h2⟩ := h.get (by omega)
  refine ⟨b, o, had, h1, fun j u hu => h2 j u ?_⟩
  rw [List.getElem?_take] at hu
  split at hu
  · exact hu
  · cases hu

theorem Own.take {w : World} {base : Nat} {e : TypeId} {size : Nat} {ao : Option Addr} {n c : Nat} {xs : List Value} (h : Own w base e size ao n c xs) (k : Nat) (hk : k ≤ n) : Own w base e size ao k c (xs.take (k * size)) := by
  have hm : k * size ≤ n * size := Nat.mul_le_mul_right _ hk
  refine ⟨⟨by rw [List.length_take, h.len]; omega, ?_⟩, fun u hu => h.one u (List.mem_of_mem_take hu)⟩
  rcases h.cases with ⟨rfl, rfl, rfl, rfl⟩ | ⟨g, cur, rfl, hb, hg, hn, hm', hs, ht⟩
  · obtain rfl : k = 0 := by omega
    exact .inl ⟨rfl, rfl⟩
  · refine .inr ⟨g, c, cur, rfl, hb, hg, by omega, hm', hs, ?_⟩
    rw [← ht, List.take_take, Nat.min_eq_left hm]

/-- a slice literal that has just been laid -/
theorem Sl.lit (w : World) (t : TypeId) (n size : Nat) (xs : List Value) (hl : xs.length = n * size) (hm : n ≤ maxLen) (h1 : ∀ u ∈ xs, u.oneCell' = true) : Sl (w.alloc (.cells xs.toArray t)) (some ⟨w.heap.size, 0, none⟩) n n size xs := by
  refine ⟨hl, Nat.le_refl _, hm, fun h => (by cases h), fun _ => ?_, h1⟩
  exact ⟨_, _, rfl, by simp, fun j u hu => cell_new w xs t j u hu⟩
theorem Own.lit (w : World) (t : TypeId) (n size : Nat) (xs : List Value) (hl : xs.length = n * size) (hm : n ≤ maxLen) (h1 : ∀ u ∈ xs, u.oneCell' = true) : Own (w.alloc (.cells xs.toArray t)) w.heap.size t size (some ⟨w.heap.size, 0, none⟩) n n xs := by
  refine ⟨⟨hl, .inr ⟨w.heap.size, n, xs.toArray, rfl, Nat.le_refl _, heap_alloc_new w _, Nat.le_refl _, hm, by simpa using hl, by simp [← hl]⟩⟩, h1⟩

/-- the same, its block by an equation -/
theorem Sl.litB (w : World) (t : TypeId) (n size : Nat) (xs : List Value) (B : Nat) (hB : w.heap.size = B) (hl : xs.length = n * size) (hm : n ≤ 1000000) (h1 : ∀ u ∈ xs, u.oneCell' = true) : Sl (w.alloc (.cells xs.toArray t)) (some ⟨B, 0, none⟩) n n size xs := by
  subst hB; exact Sl.lit w t n size xs hl (by unfold maxLen; omega) h1

/-- what the program's table says of a slice's element -/
structure Elem (P : Program) (t e : TypeId) (size bytes : Nat) : Prop where
  sl : P.underlying t = some (.slice e)
  info : ∃ i z, P.info? e = some i ∧ i.zero = some z ∧ i.size = size ∧ i.bytes = bytes ∧ z.cells.size = size
  pos : 0 < size
theorem Elem.mk' {P : Program} {t e : TypeId} {size bytes : Nat} (h0 : P.underlying t = some (.slice e)) (z : Value) (h : (P.info? e).map (fun i => (i.zero, i.size, i.bytes)) = some (some z, size, bytes)) (hz : z.cells.size = size) (hp : 0 < size) : Elem P t e size bytes := by
  obtain ⟨i, hi, h1, h2, h3⟩ := info_parts h
  exact ⟨h0, ⟨i, z, hi, h1, h2, h3, hz⟩, hp⟩

/-- what an append has done to the world: only the row itself may have been written; its block is the old one or a new one -/
structure Grew (w w' : World) (ao ao' : Option Addr) : Prop where
  by_ : w.grownBy w' (blk ao)
  blk : ∀ k, blk ao' = some k → blk ao = some k ∨ w.heap.size ≤ k
theorem Grew.below {B : Nat} {a w w' : World} {ao ao' : Option Addr} (g : Grew w w' ao ao') (h : Below B a w) (hB : B ≤ w.heap.size) (hr : ∀ k, Go.Proofs.Ytfkgchdbjfbdaaa.blk ao = some k → B ≤ k) : Below B a w' :=
  h.grown g.by_ hB hr

theorem ownBlock_blk (ao : Option Addr) (n c : Nat) : (Value.slice ao n c).ownBlock = blk ao := by cases ao <;> rfl

theorem run_append_sl {P : Program} (w : World) (t ty e : TypeId) (size bytes base : Nat) (E : Elem P t e size bytes)
    (ao : Option Addr) (n c : Nat) (xs : List Value) (hown : Own w base e size ao n c xs)
    (bo : Option Addr) (m d : Nat) (news : List Value) (hsrc : Sl w bo m d size news)
    (hbytes : (n + m) * bytes ≤ 140737488355328) (h63 : n + m ≤ maxLen) (hbase : base ≤ w.heap.size) :
    ∃ ao' c' w', (Builtin.append_ #[t, t] ty #[.slice ao n c, .slice bo m d]).run P w = .ok (.slice ao' (n + m) c') w' ∧ Own w' base e size ao' (n + m) c' (xs ++ news) ∧ Grew w w' ao ao' := by
  obtain ⟨i, z, hi, hz, hsize, hby, hzs⟩ := E.info
  have hone : ∀ u ∈ xs ++ news, u.oneCell' = true := by
    intro u hu
    rcases List.mem_append.1 hu with h | h
    · exact hown.one u h
    · exact hsrc.one u h
  cases bo with
  | none =>
    have hd := hsrc.nil rfl
    have hm := hsrc.le
    obtain rfl : m = 0 := by omega
    obtain rfl : d = 0 := hd
    have hn : news = [] := List.eq_nil_of_length_eq_zero (by simpa using hsrc.len)
    subst hn
    have hr := run_append_owned_none (P := P) (w := w) base t ty e i size E.sl hi _ n xs hown.row
    refine ⟨ao, c, w, hr, by simpa using hown, ⟨rfl, rfl, rfl, Nat.le_refl _, fun _ _ _ => rfl⟩, fun k hk => .inl hk⟩
  | some ad =>
    have hnews : ∀ j u, news[j]? = some u → w.cell? (ad.add j) = some u := by
      intro j u hu
      by_cases hm : m = 0
      · subst hm
        have hn : news = [] := List.eq_nil_of_length_eq_zero (by simpa using hsrc.len)
        subst hn; simp at hu
      · obtain ⟨b, o, had, _, hcell⟩ := hsrc.get (by omega)
        obtain rfl := Option.some.inj had
        rw [Addr.add_lit]; exact hcell j u hu
    subst hsize
    subst hby
    have hsmall : ((n + m : Nat) : Int) ≤ 9223372036854775807 := by simp only [maxLen] at h63; omega
    have hlen : (xs ++ news).length = (n + m) * i.size := by rw [List.length_append, hown.len, hsrc.len, Nat.add_mul]
    have grown : ∀ (old : Nat), old < n + m → ∀ (row : Option Nat),
        (w.drew.alloc (.cells (xs.toArray ++ news.toArray ++ Builtin.zeroCells z.cells (grownCap w (n + m) old e - (n + m))) e)).ownsRow base e i.size
          (.slice (some ⟨w.heap.size, 0, none⟩) (n + m) (grownCap w (n + m) old e)) (n + m) (xs ++ news) ∧
        w.grownBy (w.drew.alloc (.cells (xs.toArray ++ news.toArray ++ Builtin.zeroCells z.cells (grownCap w (n + m) old e - (n + m))) e)) row := by
      intro old ho row
      have hge := grownCap_ge w (n + m) old e
      have hcm : grownCap w (n + m) old e ≤ maxLen := grownCap_le_maxLen w (n + m) old e h63
      refine ⟨⟨hlen, .inr ⟨w.heap.size, _, _, rfl, hbase, heap_alloc_new w.drew _, hge, hcm, ?_, ?_⟩⟩, ⟨rfl, rfl, rfl, by simp, fun k hk _ => Below.heap_alloc w.drew _ k hk⟩⟩
      · simp only [Array.size_append, List.size_toArray, size_zeroCells, hzs, hown.len, hsrc.len, ← Nat.add_mul]
        congr 1
        omega
      · simp only [Array.toList_append, List.append_assoc]
        rw [← List.append_assoc, ← hlen]
        exact List.take_left
    rcases hown.cases with ⟨rfl, rfl, rfl, rfl⟩ | ⟨g, cur, rfl, hb, hg, hnc, hcm, hcs, htake⟩
    · by_cases hm : m = 0
      · subst hm
        have hn : news = [] := List.eq_nil_of_length_eq_zero (by simpa using hsrc.len)
        subst hn
        refine ⟨none, 0, w, ?_, by simpa using hown, ⟨rfl, rfl, rfl, Nat.le_refl _, fun _ _ _ => rfl⟩, fun k hk => .inl hk⟩
        simp [Builtin.append_, run_underlying E.sl, sizeOf, typeInfo, hi, Builtin.lenOf, Builtin.firstCells, loadCells, loadCellsFrom]
      · have hr := run_append_nil (P := P) w t ty e i z E.sl hi hz ad m d news hsrc.len hnews (by omega) (by omega) (by have hb := hbytes; simp only [Nat.zero_add] at hb; omega)
        have hgr := grown 0 (by omega) (blk none)
        simp only [Nat.zero_add, List.nil_append, Array.empty_append] at hgr hone ⊢
        exact ⟨_, _, _, hr, ⟨hgr.1, hone⟩, hgr.2, fun k hk => (by simp [blk] at hk; exact .inr (by omega))⟩
    · by_cases hroom : n + m ≤ c
      · have hfit : n * i.size + news.length ≤ cur.size := by rw [hsrc.len, hcs, ← Nat.add_mul]; exact Nat.mul_le_mul_right _ hroom
        have hr := run_append_room (P := P) w t ty e i E.sl hi g n c cur hg ad m d news hsrc.len hnews hsrc.one hroom hfit
        refine ⟨_, _, _, hr, ⟨⟨hlen, .inr ⟨g, c, _, rfl, hb, setRow_heap w g cur _ e _ hg, hroom, hcm, ?_, ?_⟩⟩, hone⟩, ⟨rfl, rfl, rfl, by simp, fun k _ hk => setRow_other w g k _ (fun e => hk (by simp [blk, e]))⟩, fun k hk => .inl hk⟩
        · have := hown.len
          simp only [List.size_toArray, List.length_append, List.length_take, List.length_drop, Array.length_toList]
          omega
        · rw [htake, ← hlen]
          exact List.take_left
      · have holds : ∀ j u, xs[j]? = some u → w.cell? ((⟨g, 0, none⟩ : Addr).add j) = some u := hown.row.cells (g := g) rfl
        have hr := run_append_grow (P := P) w t ty e i z E.sl hi hz ⟨g, 0, none⟩ n c xs hown.len holds ad m d news hsrc.len hnews (by omega) (by omega) (growslice_fits (by omega) hbytes)
        have hgr := grown c (by omega) (blk (some ⟨g, 0, none⟩))
        exact ⟨_, _, _, hr, ⟨hgr.1, hone⟩, hgr.2, fun k hk => (by simp [blk] at hk; exact .inr (by omega))⟩

theorem wpList_append_sl {P : Program} {w : World} {ops : Array Oper} {rest : List Oper} {o : Oper} {a : Act} {Q : Exit → Act → World → Prop} (hgd : Region.wanted o (yielded ops a.tmps) = true) (s x : Operand) (t : TypeId)
    (ho : o.op = .call { callee := .builtin .append, args := #[s, x], argTypes := #[t, t] })
    (e : TypeId) (size bytes base : Nat) (E : Elem P t e size bytes)
    (ao : Option Addr) (n c : Nat) (xs : List Value) (hs : a.eval s = .slice ao n c) (hown : Own w base e size ao n c xs)
    (bo : Option Addr) (m d : Nat) (news : List Value) (hx : a.eval x = .slice bo m d) (hsrc : Sl w bo m d size news)
    (hbytes : (n + m) * bytes ≤ 140737488355328) (h63 : n + m ≤ maxLen) (hbase : base ≤ w.heap.size)
    (h : ∀ ao' c' w', Own w' base e size ao' (n + m) c' (xs ++ news) → Grew w w' ao ao' → wpList P ops Q rest (a.put o.dst (.slice ao' (n + m) c')) w') : wpList P ops Q (o :: rest) a w := by
  refine wpList_want hgd fun K hK => ?_
  obtain ⟨ao', c', w', hr, h2, h3⟩ := run_append_sl (P := P) w t o.type e size bytes base E ao n c xs hown bo m d news hsrc hbytes h63 hbase
  unfold Oper.wp execOp
  simp only [ho, resolve, invoke, builtin, Sem.run_bind, Sem.run_pure, Result.andThen_ok, List.map_toArray, List.map_cons, List.map_nil, hs, hx, hr]
  exact hK _ _ (h ao' c' w' h2 h3)

theorem Own.drew {w : World} {base : Nat} {e : TypeId} {size : Nat} {ao : Option Addr} {n c : Nat} {xs : List Value} (h : Own w base e size ao n c xs) : Own w.drew base e size ao n c xs := ⟨h.row, h.one⟩
theorem Sl.drew {w : World} {ao : Option Addr} {n c size : Nat} {xs : List Value} (h : Sl w ao n c size xs) : Sl w.drew ao n c size xs := ⟨h.len, h.le, h.cap, h.nil, h.get, h.one⟩

theorem Own.store {w : World} {base : Nat} {e : TypeId} {size : Nat} {g n c : Nat} {xs : List Value} (h : Own w base e size (some ⟨g, 0, none⟩) n c xs) (j : Nat) (u : Value) (hu : u.oneCell' = true) :
    Own (w.setCell ⟨g, j, none⟩ u) base e size (some ⟨g, 0, none⟩) n c (xs.set j u) :=
  ⟨(h.row.stored j u).1, fun v hv => (List.mem_or_eq_of_mem_set hv).elim (fun h1 => h.one _ h1) (fun h1 => h1 ▸ hu)⟩
theorem Own.other {w : World} {base : Nat} {e : TypeId} {size : Nat} {ao : Option Addr} {n c : Nat} {xs : List Value} (h : Own w base e size ao n c xs) {a : Addr} (ha : ∀ k, blk ao = some k → k ≠ a.block) (u : Value) : Own (w.setCell a u) base e size ao n c xs :=
  h.keep fun k hk => Below.heap_setCell _ _ _ _ (ha k hk)
theorem Sl.other {w : World} {ao : Option Addr} {n c size : Nat} {xs : List Value} (h : Sl w ao n c size xs) {a : Addr} (ha : ∀ k, blk ao = some k → k ≠ a.block) (u : Value) : Sl (w.setCell a u) ao n c size xs :=
  h.keep (by simp) fun k hk _ => Below.heap_setCell _ _ _ _ (ha k hk)

/-- block b is a variable of the call's own, written out: its cells, none frozen -/
def Var (w : World) (b : Nat) (t : TypeId) (cs : List Value) : Prop := w.heap[b]? = some (.cells cs.toArray t (0, 0))
theorem Var.new (w : World) (t : TypeId) (cs : List Value) : Var (w.alloc (.cells cs.toArray t)) w.heap.size t cs := heap_alloc_new w _
theorem Var.lt {w : World} {b : Nat} {t : TypeId} {cs : List Value} (h : Var w b t cs) : b < w.heap.size := block_lt h
theorem Var.keep {w w' : World} {b : Nat} {t : TypeId} {cs : List Value} (h : Var w b t cs) (hk : w'.heap[b]? = w.heap[b]?) : Var w' b t cs := hk.trans h
theorem Var.below {w w' : World} {b : Nat} {t : TypeId} {cs : List Value} (h : Var w b t cs) (hb : Below w.heap.size w w') : Var w' b t cs := h.keep (hb.block b h.lt)
theorem Var.alloc {w : World} {b : Nat} {t : TypeId} {cs : List Value} (h : Var w b t cs) (o : Obj) : Var (w.alloc o) b t cs := h.below ((Below.refl _ _).alloc (Nat.le_refl _) o)
theorem Var.drew {w : World} {b : Nat} {t : TypeId} {cs : List Value} (h : Var w b t cs) : Var w.drew b t cs := h
theorem Var.set {w : World} {b : Nat} {t : TypeId} {cs : List Value} (h : Var w b t cs) (j : Nat) (u : Value) : Var (w.setCell ⟨b, j, none⟩ u) b t (cs.set j u) := by
  have := heap_setCell_same w b j cs.toArray t u h
  unfold Var; rw [this]; simp
theorem Var.other {w : World} {b : Nat} {t : TypeId} {cs : List Value} (h : Var w b t cs) {b' : Nat} (hne : b ≠ b') (j : Nat) (u : Value) : Var (w.setCell ⟨b', j, none⟩ u) b t cs :=
  h.keep (Below.heap_setCell _ _ _ _ (by simpa using hne))
theorem Var.cell {w : World} {b : Nat} {t : TypeId} {cs : List Value} (h : Var w b t cs) (j : Nat) (u : Value) (hj : cs[j]? = some u) : w.cell? ⟨b, j, none⟩ = some u := by
  rw [cell_of_row w b j cs.toArray t (0, 0) h]; simpa using hj
theorem Var.free {w : World} {b : Nat} {t : TypeId} {cs : List Value} (h : Var w b t cs) (j : Nat) : w.frozen? ⟨b, j, none⟩ = false := frozen_of_row w b j _ t h
/-- a variable of four cells, as the walk asks for it -/
theorem Var.four {w : World} {b : Nat} {t : TypeId} {x0 x1 x2 x3 : Value} (h : Var w b t [x0, x1, x2, x3]) :
    w.cell? ⟨b, 0, none⟩ = some x0 ∧ w.cell? ⟨b, 1, none⟩ = some x1 ∧ w.cell? ⟨b, 2, none⟩ = some x2 ∧ w.cell? ⟨b, 3, none⟩ = some x3 ∧ (∀ j, w.frozen? ⟨b, j, none⟩ = false) :=
  ⟨h.cell 0 _ rfl, h.cell 1 _ rfl, h.cell 2 _ rfl, h.cell 3 _ rfl, h.free⟩

/-- a call of a Go function as one step of a region that draws its order -/
theorem step_call {P : Program} {ops : Array Oper} {o : Oper} {a : Act} {w : World} {K : Act → World → Prop} {Q : Exit → Act → World → Prop} {E' : Prop} {f : FuncId} {args : Array Value} {R : Ending → World → Prop}
    (C : Calls P f args w R) {xs : Array Operand} {ts : Array TypeId} (_hop : o.op = .call { callee := .value (.func f), args := xs, argTypes := ts }) (hgd : Region.wanted o (yielded ops a.tmps) = true) (hrun : (execOp a.eval o).run P w = .ok (.enter f args) w)
    (h : ∀ e w', R e w' → ∃ v, e = .returned v ∧ K (a.put o.dst v) w') : if Region.wanted o (yielded ops a.tmps) = true then Oper.wp P o a w K Q else E' := by
  rw [if_pos hgd]
  unfold Oper.wp
  rw [hrun, Oper.upon_enter]
  refine C.mono fun e w' hr => ?_
  obtain ⟨v, rfl, hk⟩ := h e w' hr
  exact hk

/-- append as one step of a region that draws its order -/
theorem step_append_sl {P : Program} {ops : Array Oper} {o : Oper} {a : Act} {w : World} {K : Act → World → Prop} {Q : Exit → Act → World → Prop} {E' : Prop}
    (hgd : Region.wanted o (yielded ops a.tmps) = true) (s x : Operand) (t : TypeId)
    (ho : o.op = .call { callee := .builtin .append, args := #[s, x], argTypes := #[t, t] })
    (e : TypeId) (size bytes base : Nat) (E : Elem P t e size bytes)
    (ao : Option Addr) (n c : Nat) (xs : List Value) (hs : a.eval s = .slice ao n c) (hown : Own w base e size ao n c xs)
    (bo : Option Addr) (m d : Nat) (news : List Value) (hx : a.eval x = .slice bo m d) (hsrc : Sl w bo m d size news)
    (hbytes : (n + m) * bytes ≤ 140737488355328) (h63 : n + m ≤ maxLen) (hbase : base ≤ w.heap.size)
    (h : ∀ ao' c' w', Own w' base e size ao' (n + m) c' (xs ++ news) → Grew w w' ao ao' → K (a.put o.dst (.slice ao' (n + m) c')) w') :
    if Region.wanted o (yielded ops a.tmps) = true then Oper.wp P o a w K Q else E' := by
  rw [if_pos hgd]
  obtain ⟨ao', c', w', hr, h2, h3⟩ := run_append_sl (P := P) w t o.type e size bytes base E ao n c xs hown bo m d news hsrc hbytes h63 hbase
  unfold Oper.wp execOp
  simp only [ho, resolve, invoke, builtin, Sem.run_bind, Sem.run_pure, Result.andThen_ok, List.map_toArray, List.map_cons, List.map_nil, hs, hx, hr]
  exact h ao' c' w' h2 h3

/-- the same, where something is appended: the new value leads to a block -/
theorem wpList_append_one {P : Program} {w : World} {ops : Array Oper} {rest : List Oper} {o : Oper} {a : Act} {Q : Exit → Act → World → Prop} (hgd : Region.wanted o (yielded ops a.tmps) = true) (s x : Operand) (t : TypeId)
    (ho : o.op = .call { callee := .builtin .append, args := #[s, x], argTypes := #[t, t] })
    (e : TypeId) (size bytes base : Nat) (E : Elem P t e size bytes)
    (ao : Option Addr) (n c : Nat) (xs : List Value) (hs : a.eval s = .slice ao n c) (hown : Own w base e size ao n c xs)
    (bo : Option Addr) (m d : Nat) (news : List Value) (hx : a.eval x = .slice bo m d) (hsrc : Sl w bo m d size news)
    (hbytes : (n + m) * bytes ≤ 140737488355328) (h63 : n + m ≤ maxLen) (hbase : base ≤ w.heap.size) (hm : 0 < m)
    (h : ∀ g c' w', Own w' base e size (some ⟨g, 0, none⟩) (n + m) c' (xs ++ news) → Grew w w' ao (some ⟨g, 0, none⟩) → wpList P ops Q rest (a.put o.dst (.slice (some ⟨g, 0, none⟩) (n + m) c')) w') : wpList P ops Q (o :: rest) a w := by
  refine wpList_append_sl hgd s x t ho e size bytes base E ao n c xs hs hown bo m d news hx hsrc hbytes h63 hbase fun ao' c' w' h1 h2 => ?_
  obtain ⟨g, rfl, _⟩ := h1.get (by omega)
  exact h g c' w' h1 h2

/-- a literal of integers that has just been laid -/
theorem Sl.ints (k : IntKind) (w : World) (t : TypeId) (l : List Int) (n : Nat) (hn : l.length = n) (hm : n ≤ 1000000) : Sl (w.alloc (.cells (l.map (Value.int k)).toArray t)) (some ⟨w.heap.size, 0, none⟩) n n 1 (l.map (Value.int k)) :=
  Sl.lit w t n 1 _ (by simpa using hn) (by unfold maxLen; omega) (ints_oneCell k l)

/-- a slice of integers that came in, as 'Sl' -/
theorem IsRow.sl {k : IntKind} {w : World} {a : Option Addr} {len cap : Nat} {zs : List Int} (h : IsRow k w a len cap zs) : Sl w a len cap 1 ((zs.take len).map (Value.int k)) ∧ ∀ z ∈ zs.take len, (Lit.int k z).wf = true := by
  rcases h with ⟨rfl, rfl, rfl, rfl⟩ | ⟨x, rfl, h1, h2, h3, h4, h5⟩
  · exact ⟨⟨by simp, Nat.le_refl _, Nat.zero_le _, fun _ => rfl, fun h0 => (by omega), by simp⟩, by simp⟩
  · refine ⟨⟨by simp [h3]; omega, h1, h2, fun h => (by cases h), fun h0 => ?_, ints_oneCell k _⟩, fun z hz => h5 z (List.mem_of_mem_take hz)⟩
    obtain ⟨b, off, spot⟩ := x
    have hc := h4 0 (by omega)
    have hspot : spot = none := by simpa [Addr.add] using World.cell?_spot hc
    subst hspot
    refine ⟨b, off, rfl, World.block_lt_of_cell? w _ hc |> (by simpa [Addr.add] using ·), fun j u hu => ?_⟩
    rw [List.getElem?_map, List.getElem?_take] at hu
    by_cases hj : j < len
    · rw [if_pos hj, List.getElem?_eq_getElem (by omega)] at hu
      have := h4 j (by omega)
      rw [Addr.add_lit] at this
      rw [this]
      simpa [List.getD, List.getElem?_eq_getElem (show j < zs.length by omega)] using hu
    · rw [if_neg hj] at hu; simp at hu
end Go.Proofs.Ytfkgchdbjfbdaaa
