/-
  THE KIT OF MY OWN, TWENTY-EIGHTH PART: rows of structs (of numbers and of byte slices) as arguments. Over any program; no condition.
-/
import Derived.Test.YtnikohhhfbdalaaKit19
namespace Go.Proofs.Ytnikohhhfbdalaa
open Go.RowKit Go.ChangeShapes Go.WideShapes
set_option linter.unusedVariables false
set_option linter.unusedSimpArgs false

/-- the cells of a datum: numbers of a kind; byte slices (none) -/
def CellsOk (w : World) : List (Option IntKind) → List Value → Prop
  | [], [] => True
  | some k :: s, v :: c => (∃ z, v = .int k z ∧ (Lit.int k z).wf = true) ∧ CellsOk w s c
  | none :: s, v :: c => (∃ ao n cp zs, v = .slice ao n cp ∧ IsRow .u8 w ao n cp zs) ∧ CellsOk w s c
  | _, _ => False
theorem CellsOk.len {w : World} : ∀ {s : List (Option IntKind)} {c : List Value}, CellsOk w s c → c.length = s.length
  | [], [], _ => rfl
  | some k :: s, v :: c, h => by rw [List.length_cons, List.length_cons, CellsOk.len h.2]
  | none :: s, v :: c, h => by rw [List.length_cons, List.length_cons, CellsOk.len h.2]
theorem CellsOk.one {w : World} : ∀ {s : List (Option IntKind)} {c : List Value}, CellsOk w s c → ∀ u ∈ c, u.oneCell' = true
  | [], [], _, u, hu => by simp at hu
  | some k :: s, v :: c, h, u, hu => by
    rcases List.mem_cons.1 hu with rfl | hu
    · obtain ⟨z, rfl, _⟩ := h.1; rfl
    · exact CellsOk.one h.2 u hu
  | none :: s, v :: c, h, u, hu => by
    rcases List.mem_cons.1 hu with rfl | hu
    · obtain ⟨ao, n, cp, zs, rfl, _⟩ := h.1; rfl
    · exact CellsOk.one h.2 u hu
theorem CellsOk.app {w : World} : ∀ {s s' : List (Option IntKind)} {c c' : List Value}, CellsOk w s c → CellsOk w s' c' → CellsOk w (s ++ s') (c ++ c')
  | [], s', [], c', _, h => h
  | some k :: s, s', v :: c, c', h, h' => ⟨h.1, CellsOk.app h.2 h'⟩
  | none :: s, s', v :: c, c', h, h' => ⟨h.1, CellsOk.app h.2 h'⟩
theorem CellsOk.int {w : World} {k : IntKind} {s : List (Option IntKind)} {c : List Value} (h : CellsOk w (some k :: s) c) : ∃ z c', c = .int k z :: c' ∧ (Lit.int k z).wf = true ∧ CellsOk w s c' := by
  cases c with
  | nil => exact h.elim
  | cons v c =>
    obtain ⟨⟨z, rfl, hz⟩, hr⟩ := h
    exact ⟨z, c, rfl, hz, hr⟩
theorem CellsOk.row {w : World} {s : List (Option IntKind)} {c : List Value} (h : CellsOk w (none :: s) c) : ∃ ao n cp zs c', c = .slice ao n cp :: c' ∧ IsRow .u8 w ao n cp zs ∧ CellsOk w s c' := by
  cases c with
  | nil => exact h.elim
  | cons v c =>
    obtain ⟨⟨ao, n, cp, zs, rfl, hz⟩, hr⟩ := h
    exact ⟨ao, n, cp, zs, c, rfl, hz, hr⟩
theorem CellsOk.nil {w : World} {c : List Value} (h : CellsOk w [] c) : c = [] := by
  cases c with
  | nil => rfl
  | cons v c => exact h.elim
/-- of this type the cells are so -/
def Shape (P : Program) (t : TypeId) (s : List (Option IntKind)) : Prop :=
  P.cellsOf t = s.length ∧ ∀ (H : Type) (enc : TypeId × Value → H) (w : World) (base : Nat) (held : Bool) (fuel : Nat) (cs : List Value) (x : DataW H × List MemPlace), DataW.trod enc P w base (fun _ => true) held fuel t cs = some x → CellsOk w s cs
theorem Shape.int {P : Program} {t : TypeId} {k : IntKind} (h : P.underlying t = some (.int k)) (hc : P.cellsOf t = 1) : Shape P t [some k] := by
  refine ⟨hc, fun H enc w base held fuel cs x hx => ?_⟩
  cases fuel with
  | zero => simp [DataW.trod] at hx
  | succ fuel =>
    unfold DataW.trod at hx
    rw [h] at hx
    match cs, hx with
    | [.int k' z], hx =>
      simp only at hx
      split at hx
      · rename_i hk
        obtain ⟨rfl, hw⟩ := hk
        exact ⟨⟨z, rfl, hw⟩, trivial⟩
      · exact nomatch hx
    | [], hx => simp at hx
    | [.bool _], hx => simp at hx
    | [.string _], hx => simp at hx
    | [.float ..], hx => simp at hx
    | [.pointer _], hx => simp at hx
    | [.slice ..], hx => simp at hx
    | [.agg _], hx => simp at hx
    | [.map _], hx => simp at hx
    | [.chan _], hx => simp at hx
    | [.func ..], hx => simp at hx
    | [.nilFunc], hx => simp at hx
    | [.nilIface], hx => simp at hx
    | [.iface ..], hx => simp at hx
    | [.tuple _], hx => simp at hx
    | [.complex ..], hx => simp at hx
    | _ :: _ :: _, hx => simp at hx
theorem Shape.bytes {P : Program} {t e : TypeId} (h : P.underlying t = some (.slice e)) (he : P.underlying e = some (.int .u8)) (hc : P.cellsOf t = 1) (hce : P.cellsOf e = 1) : Shape P t [none] := by
  refine ⟨hc, fun H enc w base held fuel cs x hx => ?_⟩
  rcases open_ints h he hce hx with ⟨rfl, _⟩ | ⟨a, l, c, zs, rfl, _, hl, hm, hz, _, hcell, hwz⟩
  · exact ⟨⟨none, 0, 0, [], rfl, .inl ⟨rfl, rfl, rfl, rfl⟩⟩, trivial⟩
  · exact ⟨⟨some a, l, c, zs, rfl, .inr ⟨_, rfl, hl, hm, by simpa using hz, hcell, hwz⟩⟩, trivial⟩
theorem mapM_some {α β : Type} {f : α → Option β} : ∀ {l : List α} {ys : List β}, l.mapM f = some ys → ∀ x ∈ l, ∃ y, f x = some y
  | [], _, _, x, hx => by simp at hx
  | a :: l, ys, h, x, hx => by
    rw [List.mapM_cons] at h
    cases ha : f a with
    | none => rw [ha] at h; simp at h
    | some b =>
      cases hl : l.mapM f with
      | none => rw [ha, hl] at h; simp at h
      | some bs =>
        rcases List.mem_cons.1 hx with rfl | hx
        · exact ⟨b, ha⟩
        · exact mapM_some hl x hx
/-- fields, one behind the other -/
def Fields (P : Program) : Nat → List Field → List (List (Option IntKind)) → Prop
  | _, [], [] => True
  | off, f :: fs, s :: ss => f.offset = off ∧ Shape P f.type s ∧ Fields P (off + s.length) fs ss
  | _, _, _ => False
theorem fields_ok {P : Program} {H : Type} {enc : TypeId × Value → H} {w : World} {base : Nat} {held : Bool} {fuel : Nat} {cs : List Value} : ∀ (fs : List Field) (ss : List (List (Option IntKind))) (off : Nat), Fields P off fs ss →
    (∀ f ∈ fs, ∃ y, DataW.trod enc P w base (fun _ => true) held fuel f.type ((cs.drop f.offset).take (P.cellsOf f.type)) = some y) → CellsOk w ss.flatten ((cs.drop off).take ss.flatten.length)
  | [], [], off, _, _ => by simp [CellsOk]
  | f :: fs, s :: ss, off, h, hy => by
    obtain ⟨ho, hs, hr⟩ := h
    obtain ⟨y, hy1⟩ := hy f (by simp)
    have h1 := hs.2 _ _ _ _ _ _ _ _ hy1
    rw [ho, hs.1] at h1
    have h2 := fields_ok fs ss (off + s.length) hr fun g hg => hy g (List.mem_cons_of_mem _ hg)
    have := h1.app h2
    rw [List.flatten_cons, List.length_append]
    rw [List.take_add, List.drop_drop]
    exact this
theorem Shape.struct {P : Program} {t : TypeId} {fs : Array Field} {ss : List (List (Option IntKind))} (h : P.underlying t = some (.struct fs)) (hc : P.cellsOf t = ss.flatten.length) (hf : Fields P 0 fs.toList ss) : Shape P t ss.flatten := by
  refine ⟨hc, fun H enc w base held fuel cs x hx => ?_⟩
  cases fuel with
  | zero => simp [DataW.trod] at hx
  | succ fuel =>
    unfold DataW.trod at hx
    rw [h] at hx
    simp only at hx
    split at hx
    · rename_i hl
      cases hm : fs.toList.mapM fun f => DataW.trod enc P w base (fun _ => true) held fuel f.type ((cs.drop f.offset).take (P.cellsOf f.type)) with
      | none => rw [hm] at hx; simp at hx
      | some xs =>
        have := fields_ok fs.toList ss 0 hf (mapM_some hm)
        rw [List.drop_zero, List.take_of_length_le (by omega)] at this
        exact this
    · exact nomatch hx
/-- a row of such data -/
def IsRecs (s : List (Option IntKind)) (w : World) (a : Option Addr) (len cap : Nat) (A : List (List Value)) : Prop :=
  A.length = len ∧ Sl w a len cap s.length A.flatten ∧ ∀ c ∈ A, CellsOk w s c
theorem flatten_at {α : Type} : ∀ (A : List (List α)) (m j : Nat) (u : α), (∀ c ∈ A, c.length = m) → A.flatten[j]? = some u → ∃ (i : Nat) (hi : i < A.length) (q : Nat), j = i * m + q ∧ A[i][q]? = some u
  | [], m, j, u, _, h => by simp at h
  | c :: A, m, j, u, hm, h => by
    rw [List.flatten_cons] at h
    have hc := hm c (by simp)
    by_cases hj : j < m
    · rw [List.getElem?_append_left (by omega)] at h
      exact ⟨0, by simp, j, by omega, h⟩
    · rw [List.getElem?_append_right (by omega), hc] at h
      obtain ⟨i, hi, q, e, hq⟩ := flatten_at A m (j - m) u (fun x hx => hm x (List.mem_cons_of_mem _ hx)) h
      refine ⟨i + 1, by simpa using hi, q, ?_, by simpa using hq⟩
      rw [Nat.succ_mul]; omega
theorem flatten_len {α : Type} : ∀ (A : List (List α)) (m : Nat), (∀ c ∈ A, c.length = m) → A.flatten.length = A.length * m
  | [], m, _ => by simp
  | c :: A, m, h => by
    rw [List.flatten_cons, List.length_append, flatten_len A m (fun x hx => h x (List.mem_cons_of_mem _ hx)), h c (by simp), List.length_cons, Nat.succ_mul]; omega
theorem IsRecs.opened {H : Type} {enc : TypeId × Value → H} {P : Program} {w : World} {base : Nat} {held : Bool} {t e : TypeId} {s : List (Option IntKind)} {fuel : Nat} {a : Option Addr} {len cap : Nat} {x : DataW H × List MemPlace} (ht : P.underlying t = some (.slice e)) (hs : Shape P e s) (hpos : 0 < s.length)
    (h : DataW.trod enc P w base (fun _ => true) held fuel t (Value.slice a len cap).cells.toList = some x) : ∃ A, IsRecs s w a len cap A := by
  rcases Go.Deep.open_slice ht h with ⟨hcs, _⟩ | ⟨y, l, c, m, n, D, Pl, hcs, _, hl, hm, hmm, _, hr⟩
  · simp [Value.cells] at hcs
    obtain ⟨rfl, rfl, rfl⟩ := hcs
    exact ⟨[], rfl, ⟨by simp, Nat.le_refl _, Nat.zero_le _, fun _ => rfl, fun h0 => (by omega), by simp⟩, by simp⟩
  · simp [Value.cells] at hcs
    obtain ⟨rfl, rfl, rfl⟩ := hcs
    simp only [if_true] at hmm
    subst hmm
    have each : ∀ i, i < m → ∃ cs' : List Value, w.cells? base (y.add (i * s.length)) s.length = some cs' ∧ CellsOk w s cs' := by
      intro i hi
      obtain ⟨cs', h1, h2⟩ := hr i hi
      rw [hs.1] at h1
      exact ⟨cs', h1, hs.2 _ _ _ _ _ _ _ _ h2⟩
    obtain ⟨F, hF⟩ := Go.Deep.choose_lt each
    have hlen : ∀ c ∈ (List.range len).map F, c.length = s.length := by
      intro c hc
      obtain ⟨i, hi, rfl⟩ := List.mem_map.1 hc
      have := List.mem_range.1 hi
      exact (hF i (by omega)).2.len
    have hcell : ∀ i, i < m → ∀ q u, (F i)[q]? = some u → w.cell? (y.add (i * s.length + q)) = some u := by
      intro i hi q u hu
      obtain ⟨_, hlen', hc'⟩ := World.cells?_some (hF i hi).1
      have hq : q < s.length := by
        have := (List.getElem?_eq_some_iff.1 hu).1
        rw [(hF i hi).2.len] at this
        exact this
      have := hc' q hq
      rw [Go.Deep.add_add] at this
      rw [this, hu]
    refine ⟨(List.range len).map F, by simp, ⟨by rw [flatten_len _ _ hlen]; simp, hl, hm, fun h => (by cases h), fun h0 => ?_, ?_⟩, fun c hc => ?_⟩
    · obtain ⟨b, off, spot⟩ := y
      obtain ⟨u, hu⟩ : ∃ u, (F 0)[0]? = some u := by
        have := (hF 0 (by omega)).2.len
        exact ⟨(F 0)[0]'(by omega), List.getElem?_eq_getElem _⟩
      have hc := hcell 0 (by omega) 0 u hu
      have hspot : spot = none := by simpa [Addr.add] using World.cell?_spot hc
      subst hspot
      refine ⟨b, off, rfl, World.block_lt_of_cell? w _ hc |> (by simpa [Addr.add] using ·), fun j u hu => ?_⟩
      obtain ⟨i, hi, q, rfl, hq⟩ := flatten_at _ _ _ _ hlen hu
      have hi' : i < len := by simpa using hi
      have hq' : (F i)[q]? = some u := by simpa using hq
      have := hcell i (by omega) q u hq'
      rw [show (⟨b, off + (i * s.length + q), none⟩ : Addr) = (⟨b, off, none⟩ : Addr).add (i * s.length + q) by
        unfold Addr.add
        split
        · rename_i h0; rw [h0]; rfl
        · rfl]
      exact this
    · intro u hu
      obtain ⟨c, hc, hu⟩ := List.mem_flatten.1 hu
      obtain ⟨i, hi, rfl⟩ := List.mem_map.1 hc
      exact (hF i (by have := List.mem_range.1 hi; omega)).2.one u hu
    · obtain ⟨i, hi, rfl⟩ := List.mem_map.1 hc
      exact (hF i (by have := List.mem_range.1 hi; omega)).2
theorem Sl.inn' {w : World} {a : Option Addr} {n c s : Nat} {xs : List Value} (hs : Sl w a n c s xs) (h0 : 0 < s) : slIn (hp w) a n c s xs := by
  refine ⟨hs.len, hs.one, hs.le, hs.cap, hs.nil, fun hn => ?_⟩
  obtain ⟨b, o, had, hb, hc⟩ := hs.get hn
  have hpos : 0 < n * s := Nat.mul_pos hn h0
  have hx := hc 0 (xs[0]'(by rw [hs.len]; exact hpos)) (by rw [List.getElem?_eq_getElem])
  unfold World.cell? at hx
  cases hb' : w.heap[b]? with
  | none => rw [hb'] at hx; simp at hx
  | some ob =>
    rw [hb'] at hx
    cases ob with
    | cells cur t z =>
      refine ⟨b, o, cur, t, z, had, hb', fun j u hu => ?_⟩
      have := hc j u hu
      unfold World.cell? at this
      rw [hb'] at this
      simpa using this
    | _ => simp at hx
theorem recs_list {β : Type} (e : β → List Value) (p : β → Prop) : ∀ A : List (List Value), (∀ c ∈ A, ∃ m, c = e m ∧ p m) → ∃ L : List β, A.flatten = flat e L ∧ L.length = A.length ∧ ∀ m ∈ L, p m
  | [], _ => ⟨[], rfl, rfl, fun _ h => nomatch h⟩
  | c :: A, h => by
    obtain ⟨m, rfl, hm⟩ := h c (by simp)
    obtain ⟨L, h1, h2, h3⟩ := recs_list e p A fun x hx => h x (List.mem_cons_of_mem _ hx)
    refine ⟨m :: L, by rw [List.flatten_cons, h1]; rfl, by rw [List.length_cons, List.length_cons, h2], fun x hx => ?_⟩
    rcases List.mem_cons.1 hx with rfl | hx
    · exact hm
    · exact h3 x hx
/-- a byte slice that was opened -/
def rowB (x : SlD UInt8) (w : World) : Prop := slIn (hp w) x.ao x.n x.c 1 (flat eB x.l)
theorem row_of {w : World} {ao : Option Addr} {n cp : Nat} {zs : List Int} (h : IsRow .u8 w ao n cp zs) : ∃ x : SlD UInt8, x.ao = ao ∧ x.n = n ∧ x.c = cp ∧ x.l.length = x.n ∧ x.n ≤ maxLen ∧ rowB x w :=
  ⟨⟨ao, n, cp, bytesOf (zs.take n)⟩, rfl, rfl, rfl, by rw [bytesOf_len]; exact h.bound.1, h.bound.2.1, h.slB⟩
theorem Holds.argRecs {β : Type} {w : World} {rs : List Res} (H : Holds w w rs) {a : Option Addr} {len cap : Nat} {s : List (Option IntKind)} {A : List (List Value)} (h : IsRecs s w a len cap A) (e : β → List Value) (d : β → SlD UInt8) (L : List β) (hpos : 0 < s.length) (hL : A.flatten = flat e L) (hd : ∀ m ∈ L, rowB (d m) w) :
    Holds w w (.sl a len cap s.length (flat e L) :: .per (Rd eB 1 (L.map d)) :: rs) := by
  refine (H.seen (.per (Rd eB 1 (L.map d))) fun f hf x hx => ?_).seen _ fun f hf => ?_
  · obtain ⟨y, hy, rfl⟩ := List.mem_map.1 hx
    exact slIn.mono hf (hd y hy)
  · show slIn f a len cap s.length (flat e L)
    rw [← hL]
    exact slIn.mono hf (h.2.1.inn' hpos)
end Go.Proofs.Ytnikohhhfbdalaa
