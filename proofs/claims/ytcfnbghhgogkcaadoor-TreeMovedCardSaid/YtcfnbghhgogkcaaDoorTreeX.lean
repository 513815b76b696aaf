/-
  PLAIN LAWS of a tree of files: what is moved, and moved back again.
-/
import Derived.Test.YtcfnbghhgogkcaaDoorTreeV
namespace Go.Proofs.YtcfnbghhgogkcaaDoor
set_option linter.unusedVariables false
set_option linter.unusedSimpArgs false
namespace tree
open path
def mvA (p q : Nm) : Ac := ⟨9, p, q, 0, 0, []⟩
theorem nd_del {t : Tr} {d : Nat} {l : List (Nm × Nat)} (hl : t.nd d = .dir l) (nm : Nm) (j : Nat) : (t.del d nm).nd j = if d = j then .dir (l.filter fun e => decide (¬ e.1 = nm)) else t.nd j := by
  rw [del_ns hl, nd_set]
  by_cases h : d = j
  · rw [if_pos ⟨h, nd_dir_lt hl⟩, if_pos h]
  · rw [if_neg (fun c => h c.1), if_neg h]
theorem nd_add {t : Tr} {d : Nat} {l : List (Nm × Nat)} (hl : t.nd d = .dir l) (nm : Nm) (x j : Nat) : (t.add d nm x).nd j = if d = j then .dir (l ++ [(nm, x)]) else t.nd j := by
  rw [add_ns hl, nd_set]
  by_cases h : d = j
  · rw [if_pos ⟨h, nd_dir_lt hl⟩, if_pos h]
  · rw [if_neg (fun c => h c.1), if_neg h]
structure Mv (t t1 : Tr) (ns ms : List Nm) (d1 d2 i : Nat) (l1 l2 : List (Nm × Nat)) : Prop where
  f1 : t.find ns.dropLast true = (0, d1)
  n1 : t.nd d1 = .dir l1
  e1 : ent l1 (ns.getLastD []) = some i
  f2 : t.find ms.dropLast true = (0, d2)
  n2 : t.nd d2 = .dir l2
  e2 : ent l2 (ms.getLastD []) = none
  eq : t1 = (t.del d1 (ns.getLastD [])).add d2 (ms.getLastD []) i
theorem place_find {t : Tr} {ns : List Nm} (h : (placeF t ns).1 = 0) : t.find ns.dropLast true = (0, (placeF t ns).2) := by
  unfold placeF at h ⊢
  by_cases c : (t.find ns.dropLast true).1 = 0
  · rw [if_neg (fun h => h c)] at h ⊢
    cases hnd : t.nd (t.find ns.dropLast true).2 with
    | dir l => exact Prod.ext c rfl
    | file b => rw [hnd] at h; exact absurd h (show ¬ (15 : Int) = 0 by decide)
    | link to => rw [hnd] at h; exact absurd h (show ¬ (15 : Int) = 0 by decide)
  · rw [if_pos c] at h; exact absurd h c
theorem free_place {t : Tr} {ms : List Nm} (h : (freeF t ms).1 = 0) : (placeF t ms).1 = 0 ∧ (freeF t ms).2.1 = (placeF t ms).2 := by
  unfold freeF at h ⊢
  by_cases c1 : ms = []
  · rw [if_pos c1] at h; exact absurd h (by decide)
  rw [if_neg c1] at h ⊢
  by_cases c2 : (placeF t ms).1 = 0
  · rw [if_neg (fun h => h c2)] at h ⊢
    by_cases c3 : (ent (t.names (placeF t ms).2) (ms.getLastD [])).isSome = true
    · rw [if_pos c3] at h; exact absurd h (by decide)
    · rw [if_neg c3]; exact ⟨c2, rfl⟩
  · rw [if_pos c2] at h; exact absurd h c2
theorem mv_of {t : Tr} {ns ms : List Nm} {to : Nm} (hw : walkF [] to = (ms, 0)) (h : (renameF t ns to).1 = 0) : ∃ d1 d2 i l1 l2, Mv t (renameF t ns to).2 ns ms d1 d2 i l1 l2 := by
  unfold renameF at h ⊢
  by_cases c1 : ns = []
  · rw [if_pos c1] at h; exact absurd h (show ¬ (14 : Int) = 0 by decide)
  rw [if_neg c1] at h ⊢
  by_cases c2 : (t.find ns false).1 = 0
  · rw [if_neg (fun h => h c2), hw, if_neg (fun h => h rfl)] at h ⊢
    simp only at h ⊢
    by_cases c4 : (freeF t ms).1 = 0
    · rw [if_neg (fun h => h c4)] at h ⊢
      by_cases c5 : Reach t (t.find ns false).2 (freeF t ms).2.1
      · rw [if_pos c5] at h; exact absurd h (show ¬ (4 : Int) = 0 by decide)
      · rw [if_neg c5]
        obtain ⟨l, h1, h2, h3⟩ := place_of_find c1 (Prod.ext c2 rfl : t.find ns false = (0, (t.find ns false).2))
        obtain ⟨g1, g2, m, g3, g4⟩ := freeF_ok c4
        obtain ⟨p1, p2⟩ := free_place c4
        refine ⟨(placeF t ns).2, (freeF t ms).2.1, (t.find ns false).2, l, m, place_find h1, h2, h3, ?_, g3, g4, ?_⟩
        · rw [p2]; exact place_find p1
        · rw [g2]
    · rw [if_pos c4] at h; exact absurd h c4
  · rw [if_pos c2] at h; exact absurd h c2
/-- what is found in both is the same -/
structure Kin (t t1 : Tr) : Prop where
  dir : ∀ j l, t.nd j = .dir l → ∃ l', t1.nd j = .dir l' ∧ ∀ x, ent l x = none ∨ ent l' x = none ∨ ent l' x = ent l x
  els : ∀ j, (∀ l, t.nd j ≠ .dir l) → t1.nd j = t.nd j
theorem Kin.look {t t1 : Tr} (h : Kin t t1) (f lp : Bool) : ∀ (rest pre : List Nm) (now : Nat), (∃ e, lookF t f lp now pre rest = .err e) ∨ (∃ e, lookF t1 f lp now pre rest = .err e) ∨ lookF t1 f lp now pre rest = lookF t f lp now pre rest
  | [], pre, now => .inr (.inr rfl)
  | name :: rest, pre, now => by
    cases hn : t.nd now with
    | file b => exact .inl ⟨15, by unfold lookF; rw [hn]⟩
    | link to => exact .inl ⟨15, by unfold lookF; rw [hn]⟩
    | dir l =>
      obtain ⟨l', h1, h2⟩ := h.dir now l hn
      rcases h2 name with e | e | e
      · exact .inl ⟨7, by unfold lookF; simp only [hn, e]⟩
      · exact .inr (.inl ⟨7, by unfold lookF; simp only [h1, e]⟩)
      · unfold lookF
        simp only [hn, h1, e]
        cases he : ent l name with
        | none => exact .inl ⟨7, rfl⟩
        | some nx =>
          simp only
          cases hx : t.nd nx with
          | link to =>
            rw [h.els nx (by rw [hx]; intro l h; nomatch h), hx]
            simp only
            by_cases c : f = true ∨ rest ≠ []
            · simp only [if_pos c]; exact .inr (.inr trivial)
            · simp only [if_neg c]; exact h.look f lp rest _ nx
          | file b =>
            rw [h.els nx (by rw [hx]; intro l h; nomatch h), hx]
            exact h.look f lp rest _ nx
          | dir l2 =>
            obtain ⟨l3, h3, _⟩ := h.dir nx l2 hx
            rw [h3]
            exact h.look f lp rest _ nx
theorem Kin.find {t t1 : Tr} (h : Kin t t1) (f : Bool) : ∀ (k : Nat) (ns : List Nm), ¬ (findF t f k ns).1 = 0 ∨ ¬ (findF t1 f k ns).1 = 0 ∨ findF t1 f k ns = findF t f k ns
  | 0, ns => by
    unfold findF
    rcases h.look f true ns [] 0 with ⟨e, he⟩ | ⟨e, he⟩ | he
    · rw [he]; exact .inl (lookF_err he)
    · rw [he]; exact .inr (.inl (lookF_err he))
    · rw [he]; exact .inr (.inr rfl)
  | k + 1, ns => by
    unfold findF
    rcases h.look f false ns [] 0 with ⟨e, he⟩ | ⟨e, he⟩ | he
    · rw [he]; exact .inl (lookF_err he)
    · rw [he]; exact .inr (.inl (lookF_err he))
    · rw [he]
      cases lookF t f false 0 [] ns with
      | err e => exact .inr (.inr rfl)
      | node i => exact .inr (.inr rfl)
      | again on => exact h.find f k on
theorem Kin.same {t t1 : Tr} (h : Kin t t1) {ns : List Nm} {f : Bool} {d d' : Nat} (h1 : t.find ns f = (0, d)) (h2 : t1.find ns f = (0, d')) : d' = d := by
  rcases h.find f 8 ns with e | e | e
  · exact absurd (congrArg Prod.fst h1) e
  · exact absurd (congrArg Prod.fst h2) e
  · exact congrArg Prod.snd (h2.symm.trans (e.trans h1))
theorem Mv.at2 {t t1 : Tr} {ns ms : List Nm} {d1 d2 i : Nat} {l1 l2 : List (Nm × Nat)} (M : Mv t t1 ns ms d1 d2 i l1 l2) : ∃ m2, (t.del d1 (ns.getLastD [])).nd d2 = .dir m2 ∧ ent m2 (ms.getLastD []) = none ∧ (d1 = d2 → m2 = l1.filter fun e => decide (¬ e.1 = ns.getLastD [])) ∧ (¬ d1 = d2 → m2 = l2) := by
  rw [nd_del M.n1]
  by_cases c : d1 = d2
  · rw [if_pos c]
    refine ⟨_, rfl, ?_, fun _ => rfl, fun h => absurd c h⟩
    have hll : l1 = l2 := by have := M.n1; rw [c, M.n2] at this; exact (Nd.dir.inj this).symm
    rw [ent_filter, hll, M.e2]
    split <;> rfl
  · rw [if_neg c]
    exact ⟨l2, M.n2, M.e2, fun h => absurd h c, fun _ => rfl⟩
theorem Mv.kin {t t1 : Tr} {ns ms : List Nm} {d1 d2 i : Nat} {l1 l2 : List (Nm × Nat)} (M : Mv t t1 ns ms d1 d2 i l1 l2) : Kin t t1 := by
  obtain ⟨m2, a1, a2, a3, a4⟩ := M.at2
  refine ⟨fun j l hj => ?_, fun j hj => ?_⟩
  · rw [M.eq, nd_add a1]
    by_cases c2 : d2 = j
    · rw [if_pos c2]
      refine ⟨_, rfl, fun x => ?_⟩
      have hl2 : l = l2 := by rw [← c2, M.n2] at hj; exact (Nd.dir.inj hj).symm
      rw [ent_snoc, hl2]
      by_cases c1 : d1 = d2
      · have hll : l1 = l2 := by have := M.n1; rw [c1, M.n2] at this; exact (Nd.dir.inj this).symm
        rw [a3 c1, ent_filter, hll]
        by_cases cx : ns.getLastD [] = x
        · rw [if_pos cx]
          simp only
          by_cases cy : ms.getLastD [] = x
          · rw [← cy, M.e2]; exact .inl rfl
          · rw [if_neg cy]; exact .inr (.inl rfl)
        · rw [if_neg cx]
          cases hx : ent l2 x with
          | none => exact .inl rfl
          | some q => exact .inr (.inr rfl)
      · rw [a4 c1]
        cases hx : ent l2 x with
        | none => exact .inl rfl
        | some q => exact .inr (.inr rfl)
    · rw [if_neg c2, nd_del M.n1]
      by_cases c1 : d1 = j
      · rw [if_pos c1]
        refine ⟨_, rfl, fun x => ?_⟩
        have hl1 : l = l1 := by rw [← c1, M.n1] at hj; exact (Nd.dir.inj hj).symm
        rw [ent_filter, hl1]
        by_cases cx : ns.getLastD [] = x
        · rw [if_pos cx]; exact .inr (.inl rfl)
        · rw [if_neg cx]; exact .inr (.inr rfl)
      · rw [if_neg c1]
        exact ⟨l, hj, fun x => .inr (.inr rfl)⟩
  · rw [M.eq, nd_add a1, if_neg (fun c => hj l2 (by rw [← c]; exact M.n2)), nd_del M.n1, if_neg (fun c => hj l1 (by rw [← c]; exact M.n1))]
theorem perm_back : ∀ {l : List (Nm × Nat)} {k : Nm} {j : Nat}, (l.map (·.1)).Nodup → ent l k = some j → ((l.filter fun e => decide (¬ e.1 = k)) ++ [(k, j)]).Perm l
  | e :: l, k, j, hn, h => by
    rw [List.map_cons, List.nodup_cons] at hn
    unfold ent at h
    rw [List.filter_cons]
    by_cases c : e.1 = k
    · rw [if_pos c] at h
      rw [if_neg (by simp [c]), filter_gone (fun q hq => hn.1 (by rw [c]; exact List.mem_map.2 ⟨(k, q), hq, rfl⟩))]
      have : e = (k, j) := Prod.ext c (Option.some.inj h)
      rw [this]
      exact List.perm_append_comm
    · rw [if_neg c] at h
      rw [if_pos (by simp [c])]
      exact (perm_back hn.2 h).cons e
/-- moved there and back again -/
theorem Mv.back {t t1 t2 : Tr} (k : TrOk t) {ns ms : List Nm} {d1 d2 i d1' d2' i' : Nat} {l1 l2 l1' l2' : List (Nm × Nat)} (M : Mv t t1 ns ms d1 d2 i l1 l2) (M' : Mv t1 t2 ms ns d2' d1' i' l2' l1') :
    (∀ j, ¬ d1 = j → t2.nd j = t.nd j) ∧ t2.nd d1 = .dir ((l1.filter fun e => decide (¬ e.1 = ns.getLastD [])) ++ [(ns.getLastD [], i)]) := by
  obtain ⟨m2, a1, a2, a3, a4⟩ := M.at2
  have hd2 : d2' = d2 := M.kin.same M.f2 M'.f1
  have hd1 : d1' = d1 := M.kin.same M.f1 M'.f2
  subst hd2 hd1
  have nA : ∀ j, t1.nd j = if d2' = j then .dir (m2 ++ [(ms.getLastD [], i)]) else if d1' = j then .dir (l1.filter fun e => decide (¬ e.1 = ns.getLastD [])) else t.nd j := fun j => by rw [M.eq, nd_add a1, nd_del M.n1]
  have hl2' : l2' = m2 ++ [(ms.getLastD [], i)] := by
    have := M'.n1
    rw [nA, if_pos rfl] at this
    exact (Nd.dir.inj this).symm
  have hi : i' = i := by
    have := M'.e1
    rw [hl2', ent_snoc, a2] at this
    simp only [if_true] at this
    exact (Option.some.inj this).symm
  have hfil : (l2'.filter fun e => decide (¬ e.1 = ms.getLastD [])) = m2 := by
    rw [hl2', List.filter_append, filter_gone (ent_none.1 a2)]
    simp
  obtain ⟨m1, b1, b2, b3, b4⟩ := M'.at2
  have nB : ∀ j, t2.nd j = if d1' = j then .dir (m1 ++ [(ns.getLastD [], i')]) else if d2' = j then .dir m2 else t1.nd j := fun j => by rw [M'.eq, nd_add b1, nd_del M'.n1, hfil]
  have hm1 : m1 = l1.filter fun e => decide (¬ e.1 = ns.getLastD []) := by
    by_cases c : d2' = d1'
    · rw [b3 c, hfil, a3 c.symm]
    · rw [b4 c]
      have := M'.n2
      rw [nA, if_neg c, if_pos rfl] at this
      exact (Nd.dir.inj this).symm
  refine ⟨fun j hj => ?_, ?_⟩
  · rw [nB, if_neg hj]
    by_cases c : d2' = j
    · rw [if_pos c, a4 (fun h => hj (h.trans c)), ← c]; exact M.n2.symm
    · rw [if_neg c, nA, if_neg c, if_neg hj]
  · rw [nB, if_pos rfl, hm1, hi]
theorem do_mv (t : Tr) {p q : Nm} {ns : List Nm} (hp : walkF [] p = (ns, 0)) : doF t (mvA p q) = ((renameF t ns q).2, no (renameF t ns q).1) := by
  unfold doF mvA
  simp only
  rw [if_neg (by decide), if_neg (fun h => by have := h.1; omega), hp, if_neg (fun h => h rfl), if_neg (by decide), if_neg (by decide), if_neg (by decide), if_neg (by decide), if_pos True.intro]
theorem moved_law {t : Tr} (k : TrOk t) {p q : Nm} {ns ms : List Nm} (hp : walkF [] p = (ns, 0)) (hq : walkF [] q = (ms, 0)) (h : (doF t (mvA p q)).2.code = 0) :
    ¬ (doF (doF t (mvA p q)).1 (mvA p q)).2.code = 0 ∧ ((doF (doF t (mvA p q)).1 (mvA q p)).2.code = 0 → ∀ (a : Ac) (us : List Nm), 3 ≤ a.kind ∧ a.kind ≤ 7 → walkF [] a.path = (us, 0) → (doF (doF (doF t (mvA p q)).1 (mvA q p)).1 a).2 = (doF t a).2) := by
  rw [do_mv t hp] at h ⊢
  obtain ⟨d1, d2, i, l1, l2, M⟩ := mv_of (t := t) (ns := ns) hq h
  simp only
  generalize (renameF t ns q).2 = t1 at M ⊢
  rw [do_mv t1 hp, do_mv t1 hq]
  refine ⟨fun hc => ?_, fun hc a us ha hw => ?_⟩
  · obtain ⟨d1', d2', i', l1', l2', M'⟩ := mv_of (t := t1) (ns := ns) hq hc
    have hd2 : d2' = d2 := M.kin.same M.f2 M'.f2
    subst hd2
    obtain ⟨m2, a1, a2, a3, a4⟩ := M.at2
    have := M'.n2
    rw [M.eq, nd_add a1, if_pos rfl] at this
    have he := M'.e2
    rw [← Nd.dir.inj this, ent_snoc, a2] at he
    simp only [if_true] at he
    exact nomatch he
  · obtain ⟨d2', d1', i', l2', l1', M'⟩ := mv_of (t := t1) (ns := ms) hp hc
    simp only
    generalize (renameF t1 ms p).2 = t2 at M' ⊢
    obtain ⟨b1, b2⟩ := M.back k M'
    have hE : ∀ j, E t2 j = E t j := fun j => by
      unfold E
      by_cases c : d1 = j
      · rw [← c, b2, M.n1]
        simp only
        congr 1
        funext x
        rw [ent_snoc, ent_filter]
        by_cases cx : ns.getLastD [] = x
        · rw [if_pos cx]; simp only; rw [if_pos cx, ← cx, M.e1]
        · rw [if_neg cx]
          cases ent l1 x with
          | none => simp only; rw [if_neg cx]
          | some q => rfl
      · rw [b1 j c]
    have hK : ∀ j, K t2 j = K t j := fun j => by
      unfold K
      by_cases c : d1 = j
      · rw [← c, b2, M.n1]
      · rw [b1 j c]
    rw [doF_io ha hw, doF_io ha hw, find_congr hE hK]
    by_cases c0 : (t.find us true).1 = 0
    · rw [if_neg (fun h => h c0), if_neg (fun h => h c0)]
      by_cases c : d1 = (t.find us true).2
      · rw [← c]
        have hperm := perm_back (k.nodup d1 l1 M.n1) M.e1
        unfold atF
        rw [b2, M.n1]
        simp only
        have h1 : sorted (((l1.filter fun e => decide (¬ e.1 = ns.getLastD [])) ++ [(ns.getLastD [], i)]).map (·.1)) = sorted (l1.map (·.1)) := sorted_congr (hperm.map _)
        have h2 := hperm.length_eq
        rw [h1, h2]
        split
        · rfl
        · split <;> rfl
      · exact atF_same (b1 _ c) a
    · rw [if_pos c0, if_pos c0]
end tree
end Go.Proofs.YtcfnbghhgogkcaaDoor
