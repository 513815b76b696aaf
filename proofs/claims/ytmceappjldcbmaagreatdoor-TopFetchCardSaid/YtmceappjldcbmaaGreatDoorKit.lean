/-
  THE KIT OF MY OWN, FIRST PART: memory as a list of resources ('Res'), each with blocks of its own, beside a frozen part; what holds of a world ('Holds'); how it is kept by a step. Over any program; no condition.
-/
import Derived.Test.YtmceappjldcbmaaGreatDoorSl
namespace Go.Proofs.YtmceappjldcbmaaGreatDoor
open Go.RowKit Go.Sort
set_option linter.unusedVariables false
set_option linter.unusedSimpArgs false

/-- a part of a heap: some blocks -/
abbrev Hp := Nat → Option Obj
def Hp.le (a b : Hp) : Prop := ∀ k o, a k = some o → b k = some o
def Hp.dj (a b : Hp) : Prop := ∀ k, a k = none ∨ b k = none
def Hp.or (a b : Hp) : Hp := fun k => (a k).or (b k)
def Hp.nil : Hp := fun _ => none
def hp (w : World) : Hp := fun k => w.heap[k]?
theorem Hp.le.refl (a : Hp) : a.le a := fun _ _ h => h
theorem Hp.le.trans {a b c : Hp} (h : a.le b) (k : b.le c) : a.le c := fun i o x => k i o (h i o x)
theorem Hp.dj.symm {a b : Hp} (h : a.dj b) : b.dj a := fun k => (h k).symm
theorem Hp.dj.left {a b a' : Hp} (h : a.dj b) (hl : a'.le a) : a'.dj b := fun k => by
  rcases h k with h | h
  · left
    cases e : a' k with
    | none => rfl
    | some o => rw [hl k o e] at h; cases h
  · exact .inr h
theorem Hp.le_or_left (a b : Hp) : a.le (a.or b) := fun k o h => by simp [Hp.or, h]
theorem Hp.le_or_right {a b : Hp} (h : a.dj b) : b.le (a.or b) := fun k o e => by
  rcases h k with h | h
  · simp [Hp.or, h, e]
  · rw [h] at e; cases e
theorem Hp.or_le {a b c : Hp} (ha : a.le c) (hb : b.le c) : (a.or b).le c := fun k o e => by
  unfold Hp.or at e
  cases h : a k with
  | none => rw [h] at e; exact hb k o (by simpa using e)
  | some x => rw [h] at e; exact ha k o (by simpa [h] using e)
theorem Hp.or_dj {a b c : Hp} (ha : a.dj c) (hb : b.dj c) : (a.or b).dj c := fun k => by
  rcases ha k with h | h
  · rcases hb k with h' | h'
    · left; simp [Hp.or, h, h']
    · exact .inr h'
  · exact .inr h

/-- a predicate on a frozen part and on blocks of one's own; more of both does no harm -/
structure Own2 where
  sat : Hp → Hp → Prop
  mono : ∀ {f f' o o' : Hp}, f.le f' → o.le o' → sat f o → sat f' o'
/-- a predicate on the frozen part -/
structure Pers where
  sat : Hp → Prop
  mono : ∀ {f f' : Hp}, f.le f' → sat f → sat f'

/-- what is known of memory, piece by piece -/
inductive Res where
  | blk (b : Nat) (t : TypeId) (cs : List Value)
  | vec (t : TypeId) (size : Nat) (ao : Option Addr) (n c : Nat) (xs : List Value)
  | sl (ao : Option Addr) (n c size : Nat) (xs : List Value)
  | own (p : Own2)
  | per (p : Pers)

/-- a row of cells in a part of a heap -/
def rowIn (h : Hp) (t : TypeId) (size : Nat) (ao : Option Addr) (n c : Nat) (xs : List Value) : Prop :=
  xs.length = n * size ∧ (∀ u ∈ xs, u.oneCell' = true) ∧
  ((ao = none ∧ n = 0 ∧ c = 0) ∨ ∃ g o cur, ao = some ⟨g, o, none⟩ ∧ h g = some (.cells cur t (0, 0)) ∧ n ≤ c ∧ c ≤ maxLen ∧ o + c * size ≤ cur.size ∧ (cur.toList.drop o).take (n * size) = xs)
/-- a slice that can be read in a part of a heap -/
def slIn (h : Hp) (ao : Option Addr) (n c size : Nat) (xs : List Value) : Prop :=
  xs.length = n * size ∧ (∀ u ∈ xs, u.oneCell' = true) ∧ n ≤ c ∧ c ≤ maxLen ∧ (ao = none → c = 0) ∧
  (0 < n → ∃ b o cur t z, ao = some ⟨b, o, none⟩ ∧ h b = some (.cells cur t z) ∧ ∀ j u, xs[j]? = some u → cur[o + j]? = some u)
theorem slIn.mono {h h' : Hp} (hl : h.le h') {ao : Option Addr} {n c size : Nat} {xs : List Value} (H : slIn h ao n c size xs) : slIn h' ao n c size xs := by
  obtain ⟨h1, h2, h3, h4, h5, h6⟩ := H
  refine ⟨h1, h2, h3, h4, h5, fun h0 => ?_⟩
  obtain ⟨b, o, cur, t, z, e1, e2, e3⟩ := h6 h0
  exact ⟨b, o, cur, t, z, e1, hl _ _ e2, e3⟩
theorem rowIn.mono {h h' : Hp} (hl : h.le h') {t : TypeId} {ao : Option Addr} {n c size : Nat} {xs : List Value} (H : rowIn h t size ao n c xs) : rowIn h' t size ao n c xs := by
  obtain ⟨h1, h2, h3⟩ := H
  refine ⟨h1, h2, ?_⟩
  rcases h3 with h3 | ⟨g, o, cur, e1, e2, r⟩
  · exact .inl h3
  · exact .inr ⟨g, o, cur, e1, hl _ _ e2, r⟩

def Res.sat : Res → Hp → Hp → Prop
  | .blk b t cs, _, o => o b = some (.cells cs.toArray t (0, 0))
  | .vec t size ao n c xs, _, o => rowIn o t size ao n c xs
  | .sl ao n c size xs, f, _ => slIn f ao n c size xs
  | .own p, f, o => p.sat f o
  | .per p, f, _ => p.sat f
theorem Res.mono {r : Res} {f f' o o' : Hp} (hf : f.le f') (ho : o.le o') (h : r.sat f o) : r.sat f' o' := by
  cases r with
  | blk b t cs => exact ho _ _ h
  | vec t size ao n c xs => exact rowIn.mono ho h
  | sl ao n c size xs => exact slIn.mono hf h
  | own p => exact p.mono hf ho h
  | per p => exact p.mono hf h

/-- the world w, come out of w0, bears the resources rs, each beside the others; what was there at w0 is as it was -/
structure Holds (w0 w : World) (rs : List Res) : Prop where
  os : w.os = w0.os
  tape : w.tape = w0.tape
  output : w.output = w0.output
  size : w0.heap.size ≤ w.heap.size
  ex : ∃ (f : Hp) (l : List (Res × Hp)), l.map Prod.fst = rs ∧ f.le (hp w) ∧ (hp w0).le f ∧ (∀ x ∈ l, x.1.sat f x.2 ∧ x.2.le (hp w) ∧ f.dj x.2) ∧ l.Pairwise (fun x y => x.2.dj y.2)


theorem Holds.below {w0 w : World} {rs : List Res} (H : Holds w0 w rs) : Below w0.heap.size w0 w := by
  obtain ⟨h1, h2, h3, h4, f, l, _, hf, h0, _⟩ := H
  refine ⟨h1, h2, h3, h4, fun k hk => ?_⟩
  have : w0.heap[k]? = some w0.heap[k] := Array.getElem?_eq_getElem hk
  rw [this]
  exact hf k _ (h0 k _ this)

theorem perm_lift {α β : Type} {f : α → β} : ∀ {a b : List β}, a.Perm b → ∀ {l : List α}, l.map f = a → ∃ l' : List α, l'.Perm l ∧ l'.map f = b := by
  intro a b h
  induction h with
  | nil => intro l h; exact ⟨l, .refl _, h⟩
  | cons x _ ih =>
    intro l h
    cases l with
    | nil => simp at h
    | cons y l =>
      simp only [List.map_cons, List.cons.injEq] at h
      obtain ⟨l', h1, h2⟩ := ih h.2
      exact ⟨y :: l', h1.cons y, by simp [h.1, h2]⟩
  | swap x y t =>
    intro l h
    match l, h with
    | p :: q :: r, h =>
      simp only [List.map_cons, List.cons.injEq] at h
      exact ⟨q :: p :: r, List.Perm.swap .., by simp [h.1, h.2.1, h.2.2]⟩
  | trans _ _ ih1 ih2 =>
    intro l h
    obtain ⟨l', h1, h2⟩ := ih1 h
    obtain ⟨l'', h3, h4⟩ := ih2 h2
    exact ⟨l'', h3.trans h1, h4⟩

theorem Holds.perm {w0 w : World} {rs rs' : List Res} (H : Holds w0 w rs) (h : rs.Perm rs') : Holds w0 w rs' := by
  obtain ⟨h1, h2, h3, h4, f, l, hl, hf, h0, hall, hpw⟩ := H
  obtain ⟨l', p1, p2⟩ := perm_lift (l := l) h hl
  exact ⟨h1, h2, h3, h4, f, l', p2, hf, h0, fun x hx => hall x (p1.mem_iff.1 hx), (p1.pairwise_iff (fun h => h.symm)).2 hpw⟩

theorem Holds.tail {w0 w : World} {r : Res} {rs : List Res} (H : Holds w0 w (r :: rs)) : Holds w0 w rs := by
  obtain ⟨h1, h2, h3, h4, f, l, hl, hf, h0, hall, hpw⟩ := H
  cases l with
  | nil => simp at hl
  | cons x l =>
    simp only [List.map_cons, List.cons.injEq] at hl
    exact ⟨h1, h2, h3, h4, f, l, hl.2, hf, h0, fun y hy => hall y (List.mem_cons_of_mem _ hy), (List.pairwise_cons.1 hpw).2⟩

/-- any resource may be read in the whole heap -/
theorem Holds.at {w0 w : World} {r : Res} {rs : List Res} (H : Holds w0 w rs) (hr : r ∈ rs) : r.sat (hp w) (hp w) := by
  obtain ⟨h1, h2, h3, h4, f, l, rfl, hf, h0, hall, hpw⟩ := H
  obtain ⟨x, hx, rfl⟩ := List.mem_map.1 hr
  obtain ⟨a, b, _⟩ := hall x hx
  exact Res.mono hf b a

/-- only the first resource's own blocks are written, others may be new -/
theorem Holds.step {w0 w w' : World} {r r' : Res} {rs : List Res} (H : Holds w0 w (r :: rs)) (hos : w'.os = w.os) (ht : w'.tape = w.tape) (hout : w'.output = w.output) (hs : w.heap.size ≤ w'.heap.size)
    (h : ∀ f o, r.sat f o → f.le (hp w) → o.le (hp w) → ∃ o', r'.sat f o' ∧ o'.le (hp w') ∧ ∀ k, k < w.heap.size → o k = none → o' k = none ∧ hp w' k = hp w k) : Holds w0 w' (r' :: rs) := by
  obtain ⟨h1, h2, h3, h4, f, l, hl, hf, h0, hall, hpw⟩ := H
  cases l with
  | nil => simp at hl
  | cons x l =>
    simp only [List.map_cons, List.cons.injEq] at hl
    obtain ⟨rfl, rfl⟩ := hl
    obtain ⟨x1, x2⟩ := x
    obtain ⟨a1, a2, a3⟩ := hall _ (List.mem_cons_self ..)
    obtain ⟨o', b1, b2, b3⟩ := h f x2 a1 hf a2
    obtain ⟨p1, p2⟩ := List.pairwise_cons.1 hpw
    have lt : ∀ {g : Hp} {k o}, g.le (hp w) → g k = some o → k < w.heap.size := fun hg e => (Array.getElem?_eq_some_iff.1 (hg _ _ e)).1
    have keep : ∀ g : Hp, g.le (hp w) → x2.dj g → g.le (hp w') := fun g hg hd k o e => by
      have hk := lt hg e
      rcases hd k with h | h
      · rw [(b3 k hk h).2]; exact hg k o e
      · rw [h] at e; cases e
    have away : ∀ g : Hp, g.le (hp w) → x2.dj g → o'.dj g := fun g hg hd k => by
      cases e : g k with
      | none => exact .inr rfl
      | some o =>
        have hk := lt hg e
        rcases hd k with h | h
        · exact .inl (b3 k hk h).1
        · rw [h] at e; cases e
    refine ⟨hos.trans h1, ht.trans h2, hout.trans h3, Nat.le_trans h4 hs, f, (r', o') :: l, rfl, keep f hf a3.symm, h0, ?_, ?_⟩
    · intro y hy
      rcases List.mem_cons.1 hy with rfl | hy
      · exact ⟨b1, b2, (away f hf a3.symm).symm⟩
      · obtain ⟨c1, c2, c3⟩ := hall y (List.mem_cons_of_mem _ hy)
        exact ⟨c1, keep _ c2 (p1 y hy), c3⟩
    · exact List.pairwise_cons.2 ⟨fun y hy => away _ (hall y (List.mem_cons_of_mem _ hy)).2.1 (p1 y hy), p2⟩

/-- the world changes in what no resource speaks of -/
theorem Holds.same {w0 w w' : World} {rs : List Res} (H : Holds w0 w rs) (hos : w'.os = w.os) (ht : w'.tape = w.tape) (hout : w'.output = w.output) (hh : w'.heap = w.heap) : Holds w0 w' rs := by
  obtain ⟨h1, h2, h3, h4, f, l, hl, hf, h0, hall, hpw⟩ := H
  have e : hp w' = hp w := by unfold hp; rw [hh]
  exact ⟨hos.trans h1, ht.trans h2, hout.trans h3, by rw [hh]; exact h4, f, l, hl, by rw [e]; exact hf, h0, by rw [e]; exact hall, hpw⟩

/-- new blocks -/
theorem Holds.add {w0 w w' : World} {r : Res} {rs : List Res} (H : Holds w0 w rs) (hos : w'.os = w.os) (ht : w'.tape = w.tape) (hout : w'.output = w.output) (hs : w.heap.size ≤ w'.heap.size)
    (hk : ∀ k, k < w.heap.size → hp w' k = hp w k) (o : Hp) (ho : o.le (hp w')) (hn : ∀ k, k < w.heap.size → o k = none) (hr : ∀ f, f.le (hp w) → r.sat f o) : Holds w0 w' (r :: rs) := by
  obtain ⟨h1, h2, h3, h4, f, l, hl, hf, h0, hall, hpw⟩ := H
  have lt : ∀ {g : Hp} {k o}, g.le (hp w) → g k = some o → k < w.heap.size := fun hg e => (Array.getElem?_eq_some_iff.1 (hg _ _ e)).1
  have keep : ∀ g : Hp, g.le (hp w) → g.le (hp w') := fun g hg k o e => by rw [hk k (lt hg e)]; exact hg k o e
  have away : ∀ g : Hp, g.le (hp w) → o.dj g := fun g hg k => by
    cases e : g k with
    | none => exact .inr rfl
    | some x => exact .inl (hn k (lt hg e))
  refine ⟨hos.trans h1, ht.trans h2, hout.trans h3, Nat.le_trans h4 hs, f, (r, o) :: l, by simp [hl], keep f hf, h0, ?_, ?_⟩
  · intro y hy
    rcases List.mem_cons.1 hy with rfl | hy
    · exact ⟨hr f hf, ho, (away f hf).symm⟩
    · obtain ⟨c1, c2, c3⟩ := hall y hy
      exact ⟨c1, keep _ c2, c3⟩
  · exact List.pairwise_cons.2 ⟨fun y hy => away _ (hall y hy).2.1, hpw⟩

/-- what is owned may be frozen -/
theorem Holds.freeze {w0 w : World} {r : Res} {rs : List Res} (H : Holds w0 w (r :: rs)) (p : Res) (hp' : ∀ f o o', r.sat f o → f.dj o → p.sat (f.or o) o') : Holds w0 w (p :: rs) := by
  obtain ⟨h1, h2, h3, h4, f, l, hl, hf, h0, hall, hpw⟩ := H
  cases l with
  | nil => simp at hl
  | cons x l =>
    simp only [List.map_cons, List.cons.injEq] at hl
    obtain ⟨rfl, rfl⟩ := hl
    obtain ⟨a1, a2, a3⟩ := hall _ (List.mem_cons_self ..)
    obtain ⟨p1, p2⟩ := List.pairwise_cons.1 hpw
    have hle := Hp.le_or_left f x.2
    refine ⟨h1, h2, h3, h4, f.or x.2, (p, Hp.nil) :: l, rfl, Hp.or_le hf a2, h0.trans hle, ?_, ?_⟩
    · intro y hy
      rcases List.mem_cons.1 hy with rfl | hy
      · exact ⟨hp' _ _ _ a1 a3, fun k o e => (by cases e), fun k => .inr rfl⟩
      · obtain ⟨c1, c2, c3⟩ := hall y (List.mem_cons_of_mem _ hy)
        exact ⟨Res.mono hle (.refl _) c1, c2, Hp.or_dj c3 (p1 y hy)⟩
    · exact List.pairwise_cons.2 ⟨fun y hy k => .inl rfl, p2⟩

/-- one more that follows from a frozen one -/
theorem Holds.derive {w0 w : World} {r : Res} {rs : List Res} (H : Holds w0 w rs) (hr : r ∈ rs) (p : Res) (h : ∀ f o o', r.sat f o → p.sat f o') : Holds w0 w (p :: rs) := by
  obtain ⟨h1, h2, h3, h4, f, l, rfl, hf, h0, hall, hpw⟩ := H
  obtain ⟨x, hx, rfl⟩ := List.mem_map.1 hr
  refine ⟨h1, h2, h3, h4, f, (p, Hp.nil) :: l, rfl, hf, h0, ?_, ?_⟩
  · intro y hy
    rcases List.mem_cons.1 hy with rfl | hy
    · exact ⟨h _ _ _ (hall x hx).1, fun k o e => (by cases e), fun k => .inr rfl⟩
    · exact hall y hy
  · exact List.pairwise_cons.2 ⟨fun y hy k => .inl rfl, hpw⟩

/-- two are one, one is two -/
theorem Holds.join {w0 w : World} {r s t : Res} {rs : List Res} (H : Holds w0 w (r :: s :: rs)) (h : ∀ f a b, r.sat f a → s.sat f b → a.dj b → t.sat f (a.or b)) : Holds w0 w (t :: rs) := by
  obtain ⟨h1, h2, h3, h4, f, l, hl, hf, h0, hall, hpw⟩ := H
  match l, hl with
  | x :: y :: l, hl =>
    simp only [List.map_cons, List.cons.injEq] at hl
    obtain ⟨rfl, rfl, rfl⟩ := hl
    obtain ⟨a1, a2, a3⟩ := hall x (by simp)
    obtain ⟨b1, b2, b3⟩ := hall y (by simp)
    obtain ⟨p1, p2⟩ := List.pairwise_cons.1 hpw
    obtain ⟨q1, q2⟩ := List.pairwise_cons.1 p2
    refine ⟨h1, h2, h3, h4, f, (t, x.2.or y.2) :: l, rfl, hf, h0, ?_, ?_⟩
    · intro z hz
      rcases List.mem_cons.1 hz with rfl | hz
      · exact ⟨h _ _ _ a1 b1 (p1 y (by simp)), Hp.or_le a2 b2, (Hp.or_dj a3.symm b3.symm).symm⟩
      · exact hall z (by simp [hz])
    · exact List.pairwise_cons.2 ⟨fun z hz => Hp.or_dj (p1 z (by simp [hz])) (q1 z hz), q2⟩
theorem Holds.part {w0 w : World} {r s t : Res} {rs : List Res} (H : Holds w0 w (t :: rs)) (h : ∀ f o, t.sat f o → ∃ a b : Hp, r.sat f a ∧ s.sat f b ∧ a.dj b ∧ a.le o ∧ b.le o) : Holds w0 w (r :: s :: rs) := by
  obtain ⟨h1, h2, h3, h4, f, l, hl, hf, h0, hall, hpw⟩ := H
  match l, hl with
  | x :: l, hl =>
    simp only [List.map_cons, List.cons.injEq] at hl
    obtain ⟨rfl, rfl⟩ := hl
    obtain ⟨a1, a2, a3⟩ := hall x (by simp)
    obtain ⟨p1, p2⟩ := List.pairwise_cons.1 hpw
    obtain ⟨a, b, c1, c2, c3, c4, c5⟩ := h _ _ a1
    refine ⟨h1, h2, h3, h4, f, (r, a) :: (s, b) :: l, rfl, hf, h0, ?_, ?_⟩
    · intro z hz
      rcases List.mem_cons.1 hz with rfl | hz
      · exact ⟨c1, c4.trans a2, (a3.symm.left c4).symm⟩
      · rcases List.mem_cons.1 hz with rfl | hz
        · exact ⟨c2, c5.trans a2, (a3.symm.left c5).symm⟩
        · exact hall z (by simp [hz])
    · refine List.pairwise_cons.2 ⟨fun z hz => ?_, List.pairwise_cons.2 ⟨fun z hz => (p1 z hz).left c5, p2⟩⟩
      rcases List.mem_cons.1 hz with rfl | hz
      · exact c3
      · exact (p1 z hz).left c4
end Go.Proofs.YtmceappjldcbmaaGreatDoor
