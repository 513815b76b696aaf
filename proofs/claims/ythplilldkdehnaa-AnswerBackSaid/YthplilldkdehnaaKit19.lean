/-
  THE KIT OF MY OWN, NINETEENTH PART: slices of slices as arguments. Over any program; no condition.
-/
import Derived.Test.YthplilldkdehnaaKit15
import Derived.Deep.Matrix
namespace Go.Proofs.Ythplilldkdehnaa
open Go.RowKit Go.ChangeShapes Go.WideShapes
set_option linter.unusedVariables false

def IsRows (k : IntKind) (w : World) (a : Option Addr) (len cap : Nat) (A : List (SlD Int)) : Prop :=
  A.length = len ∧ Sl w a len cap 1 (flat eS A) ∧ ∀ x ∈ A, IsRow k w x.ao x.n x.c x.l
def rowsB (A : List (SlD Int)) : List (SlD UInt8) := A.map fun x => ⟨x.ao, x.n, x.c, bytesOf (x.l.take x.n)⟩
def rowsI (A : List (SlD Int)) : List (SlD Int) := A.map fun x => ⟨x.ao, x.n, x.c, x.l.take x.n⟩
theorem Sl.inn {w : World} {a : Option Addr} {n c : Nat} {xs : List Value} (hs : Sl w a n c 1 xs) : slIn (hp w) a n c 1 xs := by
  refine ⟨hs.len, hs.one, hs.le, hs.cap, hs.nil, fun hn => ?_⟩
  obtain ⟨b, o, had, hb, hc⟩ := hs.get hn
  have hx := hc 0 (xs[0]'(by rw [hs.len]; omega)) (by rw [List.getElem?_eq_getElem])
  unfold World.cell? at hx
  cases hb' : w.heap[b]? with
  | none => rw [hb'] at hx; simp at hx
  | some ob =>
    rw [hb'] at hx
    cases ob with
    | cells cur t z =>
      refine ⟨b, o, cur, t, z, had, hb', fun j u hu => ?_⟩
      have := hc j u hu
      unfold World.cell? at this
      rw [hb'] at this
      simpa using this
    | _ => simp at hx
theorem Holds.seen {w : World} {rs : List Res} (H : Holds w w rs) (r : Res) (hr : ∀ f, (hp w).le f → r.sat f Hp.nil) : Holds w w (r :: rs) := by
  obtain ⟨h1, h2, h3, h4, f, l, hl, hf, h0, hall, hpw⟩ := H
  refine ⟨h1, h2, h3, h4, f, (r, Hp.nil) :: l, by simp [hl], hf, h0, ?_, List.pairwise_cons.2 ⟨fun y hy k => .inl rfl, hpw⟩⟩
  intro y hy
  rcases List.mem_cons.1 hy with rfl | hy
  · exact ⟨hr f h0, fun k o e => (by cases e), fun k => .inr rfl⟩
  · exact hall y hy
theorem flat_eI_take (k : IntKind) (zs : List Int) : flat (eI k) zs = zs.map (Value.int k) := by
  induction zs with
  | nil => rfl
  | cons x l ih => simp only [flat, List.flatMap_cons, List.map_cons] at ih ⊢; rw [ih]; rfl
theorem IsRow.slI {k : IntKind} {w : World} {a : Option Addr} {len cap : Nat} {zs : List Int} (h : IsRow k w a len cap zs) : slIn (hp w) a len cap 1 (flat (eI k) (zs.take len)) := by
  rw [flat_eI_take]; exact h.sl.1.inn
theorem IsRow.slB {w : World} {a : Option Addr} {len cap : Nat} {zs : List Int} (h : IsRow .u8 w a len cap zs) : slIn (hp w) a len cap 1 (flat eB (bytesOf (zs.take len))) := by
  rw [flat_bytesOf _ (fun z hz => bd_u8 (h.bound.2.2 z hz))]; exact h.slI
theorem flat_eS_map {α β : Type} (f : SlD α → SlD β) (hf : ∀ x, eS (f x) = eS x) (A : List (SlD α)) : flat eS (A.map f) = flat eS A := by
  induction A with
  | nil => rfl
  | cons x l ih => simp only [flat, List.map_cons, List.flatMap_cons, hf] at ih ⊢; rw [ih]
theorem Holds.argRowsB {w : World} {rs : List Res} (H : Holds w w rs) {a : Option Addr} {len cap : Nat} {A : List (SlD Int)} (h : IsRows .u8 w a len cap A) : Holds w w (.sl a len cap 1 (flat eS (rowsB A)) :: .per (Rd eB 1 (rowsB A)) :: rs) := by
  refine (H.seen (.per (Rd eB 1 (rowsB A))) fun f hf x hx => ?_).seen _ fun f hf => ?_
  · obtain ⟨y, hy, rfl⟩ := List.mem_map.1 hx
    exact slIn.mono hf (h.2.2 y hy).slB
  · show slIn f a len cap 1 (flat eS (rowsB A))
    rw [show flat eS (rowsB A) = flat eS A from flat_eS_map (fun x : SlD Int => (⟨x.ao, x.n, x.c, bytesOf (x.l.take x.n)⟩ : SlD UInt8)) (fun _ => rfl) A]
    exact slIn.mono hf h.2.1.inn
theorem Holds.argRowsI {w : World} {rs : List Res} (H : Holds w w rs) {k : IntKind} {a : Option Addr} {len cap : Nat} {A : List (SlD Int)} (h : IsRows k w a len cap A) : Holds w w (.sl a len cap 1 (flat eS (rowsI A)) :: .per (Rd (eI k) 1 (rowsI A)) :: rs) := by
  refine (H.seen (.per (Rd (eI k) 1 (rowsI A))) fun f hf x hx => ?_).seen _ fun f hf => ?_
  · obtain ⟨y, hy, rfl⟩ := List.mem_map.1 hx
    exact slIn.mono hf (h.2.2 y hy).slI
  · show slIn f a len cap 1 (flat eS (rowsI A))
    rw [show flat eS (rowsI A) = flat eS A from flat_eS_map (fun x : SlD Int => (⟨x.ao, x.n, x.c, x.l.take x.n⟩ : SlD Int)) (fun _ => rfl) A]
    exact slIn.mono hf h.2.1.inn
theorem IsRows.boundB {k : IntKind} {w : World} {a : Option Addr} {len cap : Nat} {A : List (SlD Int)} (h : IsRows k w a len cap A) : (rowsB A).length = len ∧ len ≤ maxLen ∧ ∀ x ∈ rowsB A, x.l.length = x.n ∧ x.n ≤ maxLen := by
  refine ⟨by rw [rowsB, List.length_map]; exact h.1, Nat.le_trans h.2.1.le h.2.1.cap, fun x hx => ?_⟩
  obtain ⟨y, hy, rfl⟩ := List.mem_map.1 hx
  obtain ⟨b1, b2, _⟩ := (h.2.2 y hy).bound
  exact ⟨by rw [bytesOf_len]; exact b1, b2⟩
theorem IsRows.boundI {k : IntKind} {w : World} {a : Option Addr} {len cap : Nat} {A : List (SlD Int)} (h : IsRows k w a len cap A) : (rowsI A).length = len ∧ len ≤ maxLen ∧ ∀ x ∈ rowsI A, x.l.length = x.n ∧ x.n ≤ maxLen ∧ ∀ z ∈ x.l, (Lit.int k z).wf = true := by
  refine ⟨by rw [rowsI, List.length_map]; exact h.1, Nat.le_trans h.2.1.le h.2.1.cap, fun x hx => ?_⟩
  obtain ⟨y, hy, rfl⟩ := List.mem_map.1 hx
  obtain ⟨b1, b2, b3⟩ := (h.2.2 y hy).bound
  exact ⟨b1, b2, b3⟩
theorem IsRows.opened {H : Type} {enc : TypeId × Value → H} {P : Program} {w : World} {base : Nat} {held : Bool} {t e q : TypeId} {k : IntKind} {fuel : Nat} {a : Option Addr} {len cap : Nat} {x : DataW H × List MemPlace} (ht : P.underlying t = some (.slice e)) (he : P.underlying e = some (.slice q)) (hq : P.underlying q = some (.int k))
    (ce : P.cellsOf e = 1) (cq : P.cellsOf q = 1) (h : DataW.trod enc P w base (fun _ => true) held fuel t (Value.slice a len cap).cells.toList = some x) : ∃ A, IsRows k w a len cap A := by
  rcases Go.Deep.open_int_rows ht he hq ce cq h with ⟨hcs, _⟩ | ⟨x, l, c, A, L, C, Z, hcs, _, hl, hm, _, hr⟩
  · simp [Value.cells] at hcs
    obtain ⟨rfl, rfl, rfl⟩ := hcs
    exact ⟨[], rfl, ⟨by simp [flat], Nat.le_refl _, Nat.zero_le _, fun _ => rfl, fun h0 => (by omega), by simp [flat]⟩, by simp⟩
  · simp [Value.cells] at hcs
    obtain ⟨rfl, rfl, rfl⟩ := hcs
    have hfl : ∀ B : List (SlD Int), flat eS B = B.map fun x => Value.slice x.ao x.n x.c := by
      intro B
      induction B with
      | nil => rfl
      | cons y m ih => simp only [flat, List.flatMap_cons, List.map_cons] at ih ⊢; rw [ih]; rfl
    refine ⟨(List.range len).map fun r => ⟨A r, L r, C r, Z r⟩, by simp, ⟨by rw [hfl]; simp, hl, hm, fun h => (by cases h), fun h0 => ?_, ?_⟩, fun y hy => ?_⟩
    · obtain ⟨b, off, spot⟩ := x
      have hc := (hr 0 (by omega)).1
      have hspot : spot = none := by simpa [Addr.add] using World.cell?_spot hc
      subst hspot
      refine ⟨b, off, rfl, World.block_lt_of_cell? w _ hc |> (by simpa [Addr.add] using ·), fun j u hu => ?_⟩
      rw [hfl] at hu
      simp only [List.map_map, List.getElem?_map] at hu
      by_cases hj : j < len
      · rw [List.getElem?_range hj] at hu
        simp at hu
        subst hu
        have := (hr j (by omega)).1
        by_cases hj0 : j = 0
        · subst hj0; simpa [Addr.add] using this
        · simpa [Addr.add, hj0] using this
      · rw [List.getElem?_eq_none (by simp; omega)] at hu
        cases hu
    · rw [hfl]; intro u hu
      obtain ⟨y, _, rfl⟩ := List.mem_map.1 hu
      rfl
    · obtain ⟨r, hr1, rfl⟩ := List.mem_map.1 hy
      have hrl := List.mem_range.1 hr1
      obtain ⟨_, r1, r2, r3, r4, r5, r6⟩ := hr r (by omega)
      simp only
      cases hA : A r with
      | none =>
        have h0 := r5 hA
        have : Z r = [] := List.eq_nil_of_length_eq_zero (by omega)
        exact .inl ⟨rfl, by omega, h0, this⟩
      | some a' =>
        refine .inr ⟨a', rfl, r1, r2, r3, fun i hi => ?_, r4⟩
        exact (r6 a' hA).2 i (by omega)
end Go.Proofs.Ythplilldkdehnaa
