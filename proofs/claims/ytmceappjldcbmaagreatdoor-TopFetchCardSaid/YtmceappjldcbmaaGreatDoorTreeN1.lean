/-
  A TREE OF FILES, IN PLAIN LEAN: what an act does ('doF'), what is kept ('TrOk'). No program in sight.
-/
import Derived.Test.YtmceappjldcbmaaGreatDoorPathM
namespace Go.Proofs.YtmceappjldcbmaaGreatDoor
set_option linter.unusedVariables false
set_option linter.unusedSimpArgs false
namespace tree
open path
abbrev Nm := List UInt8
/-- a node: a directory, a file, a link -/
inductive Nd where
  | dir (l : List (Nm × Nat))
  | file (b : List UInt8)
  | link (to : Nm)
instance : Inhabited Nd := ⟨.file []⟩
/-- the nodes that were made, the root first -/
structure Tr where
  ns : List Nd
  count : Int
def Tr.nd (t : Tr) (i : Nat) : Nd := t.ns.getD i default
def ent : List (Nm × Nat) → Nm → Option Nat
  | [], _ => none
  | e :: l, k => if e.1 = k then some e.2 else ent l k
inductive Lk where
  | err (e : Int)
  | node (i : Nat)
  | again (l : List Nm)
def lookF (t : Tr) (follow loop : Bool) : Nat → List Nm → List Nm → Lk
  | now, _, [] => .node now
  | now, pre, name :: rest => match t.nd now with
    | .dir l => match ent l name with
      | none => .err 7
      | some nx => match t.nd nx with
        | .link to =>
          if follow = true ∨ rest ≠ [] then
            if loop = true then .err 13
            else if ¬ (followF pre to).2 = 0 then .err (followF pre to).2
            else if 12 < (followF pre to).1.length + rest.length then .err 9
            else .again ((followF pre to).1 ++ rest)
          else lookF t follow loop nx (pre ++ [name]) rest
        | _ => lookF t follow loop nx (pre ++ [name]) rest
    | _ => .err 15
/-- names found, following at most so many links -/
def findF (t : Tr) (follow : Bool) : Nat → List Nm → Int × Nat
  | 0, ns => match lookF t follow true 0 [] ns with
    | .err e => (e, 0)
    | .node i => (0, i)
    | .again _ => (13, 0)
  | k + 1, ns => match lookF t follow false 0 [] ns with
    | .err e => (e, 0)
    | .node i => (0, i)
    | .again on => findF t follow k on
def Tr.find (t : Tr) (ns : List Nm) (follow : Bool) : Int × Nat := findF t follow 8 ns
def placeF (t : Tr) (ns : List Nm) : Int × Nat :=
  if ¬ (t.find ns.dropLast true).1 = 0 then ((t.find ns.dropLast true).1, 0)
  else match t.nd (t.find ns.dropLast true).2 with
    | .dir _ => (0, (t.find ns.dropLast true).2)
    | _ => (15, 0)
def Tr.names (t : Tr) (i : Nat) : List (Nm × Nat) := match t.nd i with
  | .dir l => l
  | _ => []
def freeF (t : Tr) (ns : List Nm) : Int × Nat × Nm :=
  if ns = [] then (8, 0, [])
  else if ¬ (placeF t ns).1 = 0 then ((placeF t ns).1, 0, [])
  else if (ent (t.names (placeF t ns).2) (ns.getLastD [])).isSome = true then (8, 0, [])
  else (0, (placeF t ns).2, ns.getLastD [])
def Tr.add (t : Tr) (d : Nat) (name : Nm) (x : Nat) : Tr := { t with ns := t.ns.set d (.dir (t.names d ++ [(name, x)])) }
def Tr.del (t : Tr) (d : Nat) (name : Nm) : Tr := { t with ns := t.ns.set d (.dir ((t.names d).filter fun e => decide (¬ e.1 = name))) }
def makeF (t : Tr) (ns : List Nm) (x : Nd) : Int × Tr :=
  if ¬ (freeF t ns).1 = 0 then ((freeF t ns).1, t)
  else if t.count = 40 then (9, t)
  else (0, { ns := (t.add (freeF t ns).2.1 (freeF t ns).2.2 t.ns.length).ns ++ [x], count := t.count + 1 })
def removeF (t : Tr) (ns : List Nm) : Int × Tr :=
  if ns = [] then (14, t)
  else if ¬ (t.find ns false).1 = 0 then ((t.find ns false).1, t)
  else if 0 < (t.names (t.find ns false).2).length then (16, t)
  else (0, { t.del (placeF t ns).2 (ns.getLastD []) with count := t.count - 1 })
/-- a directory is a node, or within it -/
inductive Reach (t : Tr) : Nat → Nat → Prop
  | self {i : Nat} {l : List (Nm × Nat)} : t.nd i = .dir l → Reach t i i
  | step {i j d : Nat} {l : List (Nm × Nat)} {k : Nm} : t.nd i = .dir l → (k, j) ∈ l → Reach t j d → Reach t i d
open Classical in
noncomputable def renameF (t : Tr) (ns : List Nm) (to : Nm) : Int × Tr :=
  if ns = [] then (14, t)
  else if ¬ (t.find ns false).1 = 0 then ((t.find ns false).1, t)
  else if ¬ (walkF [] to).2 = 0 then ((walkF [] to).2, t)
  else if ¬ (freeF t (walkF [] to).1).1 = 0 then ((freeF t (walkF [] to).1).1, t)
  else if Reach t (t.find ns false).2 (freeF t (walkF [] to).1).2.1 then (4, t)
  else (0, (t.del (placeF t ns).2 (ns.getLastD [])).add (freeF t (walkF [] to).1).2.1 (freeF t (walkF [] to).1).2.2 (t.find ns false).2)
structure Ac where
  kind : Int
  path : Nm
  to : Nm
  at_ : Int
  cnt : Int
  d : List UInt8
instance : Inhabited Ac := ⟨⟨0, [], [], 0, 0, []⟩⟩
structure Sn where
  code : Int
  kind : Int
  size : Int
  d : List UInt8
  names : List Nm
instance : Inhabited Sn := ⟨⟨0, 0, 0, [], []⟩⟩
def no (e : Int) : Sn := ⟨e, 0, 0, [], []⟩
def inB (n : Int) : Prop := 0 ≤ n ∧ n ≤ 2048
instance (n : Int) : Decidable (inB n) := inferInstanceAs (Decidable (_ ∧ _))
/-- it has so many bytes -/
def long (b : List UInt8) (n : Nat) : List UInt8 := b.take n ++ List.replicate (n - b.length) 0
/-- bytes written from a place on -/
def lay (b d : List UInt8) (k : Nat) : List UInt8 := b.take k ++ d ++ b.drop (k + d.length)
def fileF (b : List UInt8) (a : Ac) : List UInt8 × Sn :=
  if (¬ a.kind = 5 ∧ ¬ inB a.at_) ∨ (¬ a.kind = 3 ∧ ¬ inB a.cnt) then (b, no 2)
  else if a.kind = 3 ∧ 2048 < a.at_ + a.d.length then (b, no 11)
  else if a.kind = 3 then
    let b1 := if (b.length : Int) < a.at_ + a.d.length then long b (a.at_ + a.d.length).toNat else b
    (lay b1 a.d a.at_.toNat, ⟨0, 0, b1.length, [], []⟩)
  else if a.kind = 4 then (b, ⟨0, 0, 0, (b.drop (min a.at_.toNat b.length)).take (min (min a.at_.toNat b.length + a.cnt.toNat) b.length - min a.at_.toNat b.length), []⟩)
  else (long b a.cnt.toNat, ⟨0, 0, a.cnt, [], []⟩)
/-- names in their order -/
def leN (a b : Nm) : Bool := decide (a ≤ b)
def sorted (l : List Nm) : List Nm := l.mergeSort leN
def atF (t : Tr) (i : Nat) (a : Ac) : Tr × Sn :=
  match t.nd i with
  | .dir l =>
    if a.kind = 7 then (t, ⟨0, 0, 0, [], sorted (l.map (·.1))⟩)
    else if a.kind = 6 then (t, ⟨0, 1, l.length, [], []⟩)
    else (t, no 14)
  | .file b =>
    if a.kind = 7 then (t, no 15)
    else if a.kind = 6 then (t, ⟨0, 2, b.length, [], []⟩)
    else ({ t with ns := t.ns.set i (.file (fileF b a).1) }, (fileF b a).2)
  | .link _ => (t, no 15)
noncomputable def doF (t : Tr) (a : Ac) : Tr × Sn :=
  if a.kind < 1 ∨ 10 < a.kind then (t, no 3)
  else if a.kind = 10 ∧ (a.to.length = 0 ∨ 200 < a.to.length) then (t, no 1)
  else if ¬ (walkF [] a.path).2 = 0 then (t, no (walkF [] a.path).2)
  else if a.kind = 1 then ((makeF t (walkF [] a.path).1 (.dir [])).2, no (makeF t (walkF [] a.path).1 (.dir [])).1)
  else if a.kind = 2 then ((makeF t (walkF [] a.path).1 (.file [])).2, no (makeF t (walkF [] a.path).1 (.file [])).1)
  else if a.kind = 10 then ((makeF t (walkF [] a.path).1 (.link a.to)).2, no (makeF t (walkF [] a.path).1 (.link a.to)).1)
  else if a.kind = 8 then ((removeF t (walkF [] a.path).1).2, no (removeF t (walkF [] a.path).1).1)
  else if a.kind = 9 then ((renameF t (walkF [] a.path).1 a.to).2, no (renameF t (walkF [] a.path).1 a.to).1)
  else if ¬ (t.find (walkF [] a.path).1 true).1 = 0 then (t, no (t.find (walkF [] a.path).1 true).1)
  else atF t (t.find (walkF [] a.path).1 true).2 a
noncomputable def runs : Tr → List Ac → List Sn
  | _, [] => []
  | t, a :: l => (doF t a).2 :: runs (doF t a).1 l
noncomputable def ends : Tr → List Ac → Tr
  | t, [] => t
  | t, a :: l => ends (doF t a).1 l
def newT : Tr := ⟨[.dir []], 1⟩
/-- what is kept -/
structure TrOk (t : Tr) : Prop where
  root : ∃ l, t.nd 0 = .dir l
  pos : 0 < t.ns.length
  ins : ∀ i l, t.nd i = .dir l → ∀ k j, (k, j) ∈ l → 0 < j ∧ j < t.ns.length ∧ NameOk k
  nodup : ∀ i l, t.nd i = .dir l → (l.map (·.1)).Nodup
  one : ∀ i i' l l' k k' j, t.nd i = .dir l → t.nd i' = .dir l' → (k, j) ∈ l → (k', j) ∈ l' → i = i' ∧ k = k'
  lv : ∃ f : Nat → Nat, ∀ i l, t.nd i = .dir l → ∀ k j, (k, j) ∈ l → f j = f i + 1
  link : ∀ i to, t.nd i = .link to → 1 ≤ to.length ∧ to.length ≤ 200
  file : ∀ i b, t.nd i = .file b → b.length ≤ 2048
  cnt : 1 ≤ t.count ∧ t.count ≤ 40
theorem TrOk.new : TrOk newT := by
  have h0 : ∀ i l, newT.nd i = .dir l → l = [] := by
    intro i l h
    match i, h with
    | 0, h => exact (Nd.dir.inj h).symm
    | i + 1, h => exact nomatch h
  refine ⟨⟨[], rfl⟩, by decide, fun i l h k j hk => ?_, fun i l h => ?_, fun i i' l l' k k' j h h' hk => ?_, ⟨fun _ => 0, fun i l h k j hk => ?_⟩, fun i to h => ?_, fun i b h => ?_, by decide⟩
  · rw [h0 i l h] at hk; exact nomatch hk
  · rw [h0 i l h]; exact List.nodup_nil
  · rw [h0 i l h] at hk; exact nomatch hk
  · rw [h0 i l h] at hk; exact nomatch hk
  · match i, h with
    | 0, h => exact nomatch h
    | i + 1, h => exact nomatch h
  · match i, h with
    | 0, h => exact nomatch h
    | i + 1, h => rw [show b = [] from (Nd.file.inj h).symm]; exact Nat.zero_le _
end tree
end Go.Proofs.YtmceappjldcbmaaGreatDoor
/-
  A TREE OF FILES, IN PLAIN LEAN: what finding comes to; what acts keep. No program in sight.
-/
namespace Go.Proofs.YtmceappjldcbmaaGreatDoor
set_option linter.unusedVariables false
set_option linter.unusedSimpArgs false
namespace tree
open path
theorem ent_mem : ∀ {l : List (Nm × Nat)} {k : Nm} {j : Nat}, ent l k = some j → (k, j) ∈ l
  | e :: l, k, j, h => by
    unfold ent at h
    split at h
    · rename_i c
      obtain rfl := Option.some.inj h
      subst c
      exact List.mem_cons_self ..
    · exact List.mem_cons_of_mem _ (ent_mem h)
theorem ent_none : ∀ {l : List (Nm × Nat)} {k : Nm}, ent l k = none ↔ ∀ j, (k, j) ∉ l
  | [], k => ⟨fun _ j h => (nomatch h), fun _ => rfl⟩
  | e :: l, k => by
    unfold ent
    split
    · rename_i c
      subst c
      exact ⟨fun h => (nomatch h), fun h => absurd (List.mem_cons_self ..) (h e.2)⟩
    · rename_i c
      rw [ent_none]
      constructor
      · intro h j hj
        rcases List.mem_cons.1 hj with hj | hj
        · exact c (by rw [← hj])
        · exact h j hj
      · intro h j hj
        exact h j (List.mem_cons_of_mem _ hj)
theorem ent_snoc : ∀ (l : List (Nm × Nat)) (k k' : Nm) (j : Nat), ent (l ++ [(k, j)]) k' = match ent l k' with
    | some i => some i
    | none => if k = k' then some j else none
  | [], k, k', j => rfl
  | e :: l, k, k', j => by
    rw [List.cons_append]
    unfold ent
    split
    · rfl
    · exact ent_snoc l k k' j
theorem ent_filter : ∀ (l : List (Nm × Nat)) (k k' : Nm), ent (l.filter fun e => decide (¬ e.1 = k)) k' = if k = k' then none else ent l k'
  | [], k, k' => by simp [ent]
  | e :: l, k, k' => by
    rw [List.filter_cons]
    have ih := ent_filter l k k'
    by_cases c : e.1 = k
    · rw [if_neg (by simp [c]), ih]
      by_cases d : k = k'
      · rw [if_pos d, if_pos d]
      · rw [if_neg d, if_neg d]
        conv => rhs; unfold ent
        rw [if_neg (fun h => d (c.symm.trans h))]
    · rw [if_pos (by simp [c])]
      conv => lhs; unfold ent
      conv => rhs; unfold ent
      rw [ih]
      by_cases d : k = k'
      · rw [if_pos d, if_pos d, if_neg (fun h => c (h.trans d.symm))]
      · rw [if_neg d, if_neg d]
/-- what is found is no link, where links are followed -/
theorem lookF_nolink {t : Tr} {loop : Bool} : ∀ {rest pre : List Nm} {now i : Nat}, (∀ to, t.nd now ≠ .link to) → lookF t true loop now pre rest = .node i → ∀ to, t.nd i ≠ .link to
  | [], pre, now, i, hn, h => by
    obtain rfl : now = i := Lk.node.inj h
    exact hn
  | name :: rest, pre, now, i, hn, h => by
    unfold lookF at h
    split at h
    · rename_i l hl
      split at h
      · exact nomatch h
      · rename_i nx hx
        split at h
        · rw [if_pos (.inl rfl)] at h
          repeat' split at h
          all_goals exact nomatch h
        · rename_i hnl
          exact lookF_nolink (fun to e => hnl to e) h
    · exact nomatch h
theorem lookF_err {t : Tr} {follow loop : Bool} : ∀ {rest pre : List Nm} {now : Nat} {e : Int}, lookF t follow loop now pre rest = .err e → e ≠ 0
  | [], pre, now, e, h => nomatch h
  | name :: rest, pre, now, e, h => by
    unfold lookF at h
    split at h
    · split at h
      · obtain rfl := Lk.err.inj h; decide
      · split at h
        · split at h
          · split at h
            · obtain rfl := Lk.err.inj h; decide
            · split at h
              · rename_i c; obtain rfl := Lk.err.inj h; exact c
              · split at h
                · obtain rfl := Lk.err.inj h; decide
                · exact nomatch h
          · exact lookF_err h
        · exact lookF_err h
    · obtain rfl := Lk.err.inj h; decide
theorem findF_ok {t : Tr} {follow : Bool} : ∀ {k : Nat} {ns : List Nm} {i : Nat}, findF t follow k ns = (0, i) → ∃ loop on, lookF t follow loop 0 [] on = .node i
  | 0, ns, i, h => by
    unfold findF at h
    split at h
    · rename_i e he
      exact absurd (Prod.mk.inj h).1 (lookF_err he)
    · rename_i x hx
      obtain rfl := (Prod.mk.inj h).2
      exact ⟨_, _, hx⟩
    · exact absurd (Prod.mk.inj h).1 (by decide)
  | k + 1, ns, i, h => by
    unfold findF at h
    split at h
    · rename_i e he
      exact absurd (Prod.mk.inj h).1 (lookF_err he)
    · rename_i x hx
      obtain rfl := (Prod.mk.inj h).2
      exact ⟨_, _, hx⟩
    · exact findF_ok h
theorem findF_nolink {t : Tr} (hr : ∃ l, t.nd 0 = .dir l) {k : Nat} {ns : List Nm} {i : Nat} (h : findF t true k ns = (0, i)) : ∀ to, t.nd i ≠ .link to := by
  obtain ⟨l, hl⟩ := hr
  obtain ⟨_, _, h1⟩ := findF_ok h
  exact lookF_nolink (fun to e => by rw [hl] at e; exact nomatch e) h1
theorem lookF_lt {t : Tr} (k : TrOk t) {follow loop : Bool} : ∀ {rest pre : List Nm} {now i : Nat}, now < t.ns.length → lookF t follow loop now pre rest = .node i → i < t.ns.length
  | [], pre, now, i, hn, h => by
    obtain rfl : now = i := Lk.node.inj h
    exact hn
  | name :: rest, pre, now, i, hn, h => by
    unfold lookF at h
    split at h
    · rename_i l hl
      split at h
      · exact nomatch h
      · rename_i nx hx
        have hlt := (k.ins _ _ hl _ _ (ent_mem hx)).2.1
        split at h
        · split at h
          · repeat' split at h
            all_goals exact nomatch h
          · exact lookF_lt k hlt h
        · exact lookF_lt k hlt h
    · exact nomatch h
theorem findF_lt {t : Tr} (k : TrOk t) {follow : Bool} {n : Nat} {ns : List Nm} {i : Nat} (h : findF t follow n ns = (0, i)) : i < t.ns.length := by
  obtain ⟨_, _, h1⟩ := findF_ok h
  exact lookF_lt k k.pos h1
/-- what is found without its last link lies in what is found of the others -/
theorem lookF_last {t : Tr} {loop : Bool} (x : Nm) : ∀ {rest pre : List Nm} {now : Nat},
    (∀ i, lookF t false loop now pre (rest ++ [x]) = .node i → ∃ d l, lookF t true loop now pre rest = .node d ∧ t.nd d = .dir l ∧ ent l x = some i) ∧
    (∀ on, lookF t false loop now pre (rest ++ [x]) = .again on → ∃ on', on = on' ++ [x] ∧ lookF t true loop now pre rest = .again on')
  | [], pre, now => by
    rw [List.nil_append]
    constructor
    · intro i h
      unfold lookF at h
      split at h
      · rename_i l hl
        split at h
        · exact nomatch h
        · rename_i nx hx
          refine ⟨now, l, rfl, hl, ?_⟩
          have hno : ¬ (false = true ∨ ([] : List Nm) ≠ []) := by rintro (h | h); exact nomatch h; exact h rfl
          split at h
          · rw [if_neg hno] at h
            obtain rfl := Lk.node.inj h
            exact hx
          · obtain rfl := Lk.node.inj h
            exact hx
      · exact nomatch h
    · intro on h
      unfold lookF at h
      split at h
      · split at h
        · exact nomatch h
        · have hno : ¬ (false = true ∨ ([] : List Nm) ≠ []) := by rintro (h | h); exact nomatch h; exact h rfl
          split at h
          · rw [if_neg hno] at h
            exact nomatch h
          · exact nomatch h
      · exact nomatch h
  | name :: rest, pre, now => by
    have hyes : false = true ∨ rest ++ [x] ≠ [] := .inr (by simp)
    rw [List.cons_append]
    constructor
    · intro i h
      unfold lookF at h ⊢
      split at h
      · rename_i l hl
        split at h
        · exact nomatch h
        · rename_i nx hx
          simp only [hl, hx]
          split at h
          · rw [if_pos hyes] at h
            repeat' split at h
            all_goals exact nomatch h
          · rename_i hnl
            obtain ⟨d, l', h1, h2⟩ := (lookF_last x).1 i h
            refine ⟨d, l', ?_, h2⟩
            exact h1
      · exact nomatch h
    · intro on h
      unfold lookF at h ⊢
      split at h
      · rename_i l hl
        split at h
        · exact nomatch h
        · rename_i nx hx
          simp only [hl, hx]
          split at h
          · rename_i to he
            rw [if_pos hyes] at h
            rw [if_pos (.inl (by trivial))]
            split at h
            · exact nomatch h
            · rename_i c1
              split at h
              · exact nomatch h
              · rename_i c2
                split at h
                · exact nomatch h
                · rename_i c3
                  rw [if_neg c1, if_neg c2, if_neg (by rw [List.length_append] at c3; omega)]
                  refine ⟨(followF pre to).1 ++ rest, ?_, rfl⟩
                  rw [← Lk.again.inj h, List.append_assoc]
          · rename_i hnl
            obtain ⟨on', h1, h2⟩ := (lookF_last x).2 on h
            exact ⟨on', h1, h2⟩
      · exact nomatch h
theorem findF_last {t : Tr} (x : Nm) : ∀ {k : Nat} {ns : List Nm} {i : Nat}, findF t false k (ns ++ [x]) = (0, i) → ∃ d l, findF t true k ns = (0, d) ∧ t.nd d = .dir l ∧ ent l x = some i
  | 0, ns, i, h => by
    unfold findF at h ⊢
    split at h
    · rename_i e he
      exact absurd (Prod.mk.inj h).1 (lookF_err he)
    · rename_i y hy
      obtain rfl := (Prod.mk.inj h).2
      obtain ⟨d, l, h1, h2⟩ := (lookF_last x).1 _ hy
      exact ⟨d, l, by rw [h1], h2⟩
    · exact absurd (Prod.mk.inj h).1 (by decide)
  | k + 1, ns, i, h => by
    unfold findF at h ⊢
    split at h
    · rename_i e he
      exact absurd (Prod.mk.inj h).1 (lookF_err he)
    · rename_i y hy
      obtain rfl := (Prod.mk.inj h).2
      obtain ⟨d, l, h1, h2⟩ := (lookF_last x).1 _ hy
      exact ⟨d, l, by rw [h1], h2⟩
    · rename_i on hon
      obtain ⟨on', h1, h2⟩ := (lookF_last x).2 _ hon
      rw [h1] at h
      obtain ⟨d, l, h3, h4⟩ := findF_last x h
      exact ⟨d, l, by rw [h2]; exact h3, h4⟩
theorem nd_set (t : Tr) (d : Nat) (x : Nd) (c : Int) (i : Nat) : (⟨t.ns.set d x, c⟩ : Tr).nd i = if d = i ∧ d < t.ns.length then x else t.nd i := by
  show (t.ns.set d x).getD i default = _
  rw [List.getD_eq_getElem?_getD, List.getElem?_set]
  by_cases e : d = i
  · subst e
    rw [if_pos rfl]
    by_cases h : d < t.ns.length
    · rw [if_pos h, if_pos ⟨rfl, h⟩]; rfl
    · rw [if_neg h, if_neg (fun g => h g.2)]
      show _ = t.ns.getD d default
      rw [List.getD_eq_getElem?_getD, List.getElem?_eq_none (by omega)]
  · rw [if_neg e, if_neg (fun g => e g.1), ← List.getD_eq_getElem?_getD]; rfl
theorem nd_snoc (t : Tr) (x : Nd) (c : Int) (i : Nat) : (⟨t.ns ++ [x], c⟩ : Tr).nd i = if i = t.ns.length then x else t.nd i := by
  show (t.ns ++ [x]).getD i default = _
  rw [List.getD_eq_getElem?_getD]
  split
  · rename_i e; subst e
    rw [List.getElem?_append_right (Nat.le_refl _), Nat.sub_self]; rfl
  · rename_i e
    by_cases h : i < t.ns.length
    · rw [List.getElem?_append_left h, ← List.getD_eq_getElem?_getD]; rfl
    · rw [List.getElem?_eq_none (by rw [List.length_append, List.length_singleton]; omega)]
      show _ = t.ns.getD i default
      rw [List.getD_eq_getElem?_getD, List.getElem?_eq_none (by omega)]
theorem nd_dir_lt {t : Tr} {i : Nat} {l : List (Nm × Nat)} (h : t.nd i = .dir l) : i < t.ns.length := by
  rcases Nat.lt_or_ge i t.ns.length with e | e
  · exact e
  · have : t.nd i = .file [] := by
      show t.ns.getD i default = _
      rw [List.getD_eq_getElem?_getD, List.getElem?_eq_none e]; rfl
    rw [this] at h; exact nomatch h
theorem names_of {t : Tr} {i : Nat} {l : List (Nm × Nat)} (h : t.nd i = .dir l) : t.names i = l := by unfold Tr.names; rw [h]
/-- x, and what lies within it -/
inductive Desc (t : Tr) (x : Nat) : Nat → Prop
  | self : Desc t x x
  | step {i j : Nat} {l : List (Nm × Nat)} {k : Nm} : Desc t x i → t.nd i = .dir l → (k, j) ∈ l → Desc t x j
theorem Desc.le {t : Tr} {x i : Nat} {f : Nat → Nat} (hf : ∀ i l, t.nd i = .dir l → ∀ k j, (k, j) ∈ l → f j = f i + 1) (h : Desc t x i) : f x ≤ f i := by
  induction h with
  | self => exact Nat.le_refl _
  | step _ h1 h2 ih => have := hf _ _ h1 _ _ h2; omega
theorem Desc.reach {t : Tr} {x i d : Nat} (h : Desc t x i) (hr : Reach t i d) : Reach t x d := by
  induction h with
  | self => exact hr
  | step _ h1 h2 ih => exact ih (.step h1 h2 hr)
/-- a tree whose node has no place yet, with a new node behind all -/
theorem TrOk.grow {t : Tr} (k : TrOk t) (x : Nd) (hx : x = .dir [] ∨ x = .file [] ∨ ∃ to, x = .link to ∧ 1 ≤ to.length ∧ to.length ≤ 200) (c : Int) (hc : 1 ≤ c ∧ c ≤ 40) : TrOk ⟨t.ns ++ [x], c⟩ := by
  have hd : ∀ i l, (⟨t.ns ++ [x], c⟩ : Tr).nd i = .dir l → l = [] ∨ t.nd i = .dir l := by
    intro i l h
    rw [nd_snoc] at h
    split at h
    · rcases hx with e | e | ⟨to, e, _⟩
      · rw [e] at h; exact .inl (Nd.dir.inj h).symm
      · rw [e] at h; exact nomatch h
      · rw [e] at h; exact nomatch h
    · exact .inr h
  have hlen : (⟨t.ns ++ [x], c⟩ : Tr).ns.length = t.ns.length + 1 := by show (t.ns ++ [x]).length = _; rw [List.length_append]; rfl
  obtain ⟨l0, h0⟩ := k.root
  refine ⟨⟨l0, by rw [nd_snoc, if_neg (by have := k.pos; omega)]; exact h0⟩, by rw [hlen]; omega, fun i l h kk j hj => ?_, fun i l h => ?_, fun i i' l l' kk k' j h h' hj hj' => ?_, ?_, fun i to h => ?_, fun i b h => ?_, hc⟩
  · rcases hd i l h with e | e
    · rw [e] at hj; exact nomatch hj
    · have := k.ins i l e kk j hj
      exact ⟨this.1, by rw [hlen]; omega, this.2.2⟩
  · rcases hd i l h with e | e
    · rw [e]; exact List.nodup_nil
    · exact k.nodup i l e
  · rcases hd i l h with e | e
    · rw [e] at hj; exact nomatch hj
    · rcases hd i' l' h' with e' | e'
      · rw [e'] at hj'; exact nomatch hj'
      · exact k.one i i' l l' kk k' j e e' hj hj'
  · obtain ⟨f, hf⟩ := k.lv
    refine ⟨f, fun i l h kk j hj => ?_⟩
    rcases hd i l h with e | e
    · rw [e] at hj; exact nomatch hj
    · exact hf i l e kk j hj
  · rw [nd_snoc] at h
    split at h
    · rcases hx with e | e | ⟨to', e, h1⟩
      · rw [e] at h; exact nomatch h
      · rw [e] at h; exact nomatch h
      · rw [e] at h; rw [← Nd.link.inj h]; exact h1
    · exact k.link i to h
  · rw [nd_snoc] at h
    split at h
    · rcases hx with e | e | ⟨to', e, h1⟩
      · rw [e] at h; exact nomatch h
      · rw [e] at h; rw [← Nd.file.inj h]; exact Nat.zero_le _
      · rw [e] at h; exact nomatch h
    · exact k.file i b h
/-- an entry is taken out -/
theorem TrOk.del {t : Tr} (k : TrOk t) {d : Nat} {l : List (Nm × Nat)} (hl : t.nd d = .dir l) (name : Nm) (c : Int) (hc : 1 ≤ c ∧ c ≤ 40) : TrOk ⟨(t.del d name).ns, c⟩ := by
  have hdl := nd_dir_lt hl
  have hns : (t.del d name).ns = t.ns.set d (.dir (l.filter fun e => decide (¬ e.1 = name))) := by unfold Tr.del; rw [names_of hl]
  rw [hns]
  have hd : ∀ i m, (⟨t.ns.set d (.dir (l.filter fun e => decide (¬ e.1 = name))), c⟩ : Tr).nd i = .dir m → ∃ m', t.nd i = .dir m' ∧ m.Sublist m' := by
    intro i m h
    rw [nd_set] at h
    split at h
    · rename_i e
      rw [← Nd.dir.inj h, ← e.1]
      exact ⟨l, hl, List.filter_sublist⟩
    · exact ⟨m, h, List.Sublist.refl _⟩
  have ho : ∀ i x, (∀ m, x ≠ Nd.dir m) → (⟨t.ns.set d (.dir (l.filter fun e => decide (¬ e.1 = name))), c⟩ : Tr).nd i = x → t.nd i = x := by
    intro i x hx h
    rw [nd_set] at h
    split at h
    · exact absurd h.symm (hx _)
    · exact h
  obtain ⟨l0, h0⟩ := k.root
  refine ⟨?_, by show 0 < (t.ns.set d _).length; rw [List.length_set]; exact k.pos, fun i m h kk j hj => ?_, fun i m h => ?_, fun i i' m m' kk k' j h h' hj hj' => ?_, ?_, fun i to h => k.link i to (ho i _ (fun m e => nomatch e) h), fun i b h => k.file i b (ho i _ (fun m e => nomatch e) h), hc⟩
  · by_cases e : d = 0
    · exact ⟨_, by rw [nd_set, if_pos ⟨e, hdl⟩]⟩
    · exact ⟨l0, by rw [nd_set, if_neg (fun h => e h.1)]; exact h0⟩
  · obtain ⟨m', h1, h2⟩ := hd i m h
    have := k.ins i m' h1 kk j (h2.subset hj)
    exact ⟨this.1, by show j < (t.ns.set d _).length; rw [List.length_set]; exact this.2.1, this.2.2⟩
  · obtain ⟨m', h1, h2⟩ := hd i m h
    exact (k.nodup i m' h1).sublist (h2.map _)
  · obtain ⟨q, h1, h2⟩ := hd i m h
    obtain ⟨q', h3, h4⟩ := hd i' m' h'
    exact k.one i i' q q' kk k' j h1 h3 (h2.subset hj) (h4.subset hj')
  · obtain ⟨f, hf⟩ := k.lv
    refine ⟨f, fun i m h kk j hj => ?_⟩
    obtain ⟨m', h1, h2⟩ := hd i m h
    exact hf i m' h1 kk j (h2.subset hj)
/-- a node that has no place is put into a directory that is not within it -/
theorem TrOk.add {t : Tr} (k : TrOk t) {d x : Nat} {l : List (Nm × Nat)} (hl : t.nd d = .dir l) {name : Nm} (hn : ent l name = none) (hk : NameOk name) (h0 : 0 < x) (hx : x < t.ns.length)
    (hp : ∀ i m kk, t.nd i = .dir m → (kk, x) ∉ m) (hw : ¬ Desc t x d) : TrOk (t.add d name x) := by
  have hdl := nd_dir_lt hl
  have hta : t.add d name x = ⟨t.ns.set d (.dir (l ++ [(name, x)])), t.count⟩ := by unfold Tr.add; rw [names_of hl]
  rw [hta]
  have hd : ∀ i m, (⟨t.ns.set d (.dir (l ++ [(name, x)])), t.count⟩ : Tr).nd i = .dir m → (i = d ∧ m = l ++ [(name, x)]) ∨ (i ≠ d ∧ t.nd i = .dir m) := by
    intro i m h
    rw [nd_set] at h
    split at h
    · rename_i e
      exact .inl ⟨e.1.symm, (Nd.dir.inj h).symm⟩
    · rename_i e
      exact .inr ⟨fun c => e ⟨c.symm, hdl⟩, h⟩
  -- an entry is an old one, or the new one
  have hent : ∀ i m, (⟨t.ns.set d (.dir (l ++ [(name, x)])), t.count⟩ : Tr).nd i = .dir m → ∀ kk j, (kk, j) ∈ m → (∃ m', t.nd i = .dir m' ∧ (kk, j) ∈ m') ∨ (i = d ∧ kk = name ∧ j = x) := by
    intro i m h kk j hj
    rcases hd i m h with ⟨e1, e2⟩ | ⟨_, e⟩
    · rw [e2] at hj
      rcases List.mem_append.1 hj with hj | hj
      · exact .inl ⟨l, by rw [e1]; exact hl, hj⟩
      · rw [List.mem_singleton] at hj
        exact .inr ⟨e1, (Prod.mk.inj hj).1, (Prod.mk.inj hj).2⟩
    · exact .inl ⟨m, e, hj⟩
  have ho : ∀ i y, (∀ m, y ≠ Nd.dir m) → (⟨t.ns.set d (.dir (l ++ [(name, x)])), t.count⟩ : Tr).nd i = y → t.nd i = y := by
    intro i y hy h
    rw [nd_set] at h
    split at h
    · exact absurd h.symm (hy _)
    · exact h
  obtain ⟨l0, hr0⟩ := k.root
  refine ⟨?_, by show 0 < (t.ns.set d _).length; rw [List.length_set]; exact k.pos, fun i m h kk j hj => ?_, fun i m h => ?_, fun i i' m m' kk k' j h h' hj hj' => ?_, ?_, fun i to h => k.link i to (ho i _ (fun m e => nomatch e) h), fun i b h => k.file i b (ho i _ (fun m e => nomatch e) h), k.cnt⟩
  · by_cases e : d = 0
    · exact ⟨_, by rw [nd_set, if_pos ⟨e, hdl⟩]⟩
    · exact ⟨l0, by rw [nd_set, if_neg (fun h => e h.1)]; exact hr0⟩
  · have hlen : (⟨t.ns.set d (.dir (l ++ [(name, x)])), t.count⟩ : Tr).ns.length = t.ns.length := List.length_set ..
    rw [hlen]
    rcases hent i m h kk j hj with ⟨m', h1, h2⟩ | ⟨_, rfl, rfl⟩
    · exact k.ins i m' h1 kk j h2
    · exact ⟨h0, hx, hk⟩
  · rcases hd i m h with ⟨_, e2⟩ | ⟨_, e⟩
    · rw [e2, List.map_append, List.nodup_append]
      refine ⟨k.nodup d l hl, by simp, fun a ha b hb => ?_⟩
      obtain ⟨p, hp1, rfl⟩ := List.mem_map.1 ha
      simp only [List.map_cons, List.map_nil, List.mem_singleton] at hb
      rw [hb]
      intro e
      exact ent_none.1 hn p.2 (by rw [← e]; exact hp1)
    · exact k.nodup i m e
  · rcases hent i m h kk j hj with ⟨q, h1, h2⟩ | ⟨rfl, rfl, rfl⟩
    · rcases hent i' m' h' k' j hj' with ⟨q', h3, h4⟩ | ⟨_, _, rfl⟩
      · exact k.one i i' q q' kk k' j h1 h3 h2 h4
      · exact absurd h2 (hp i q kk h1)
    · rcases hent i' m' h' k' j hj' with ⟨q', h3, h4⟩ | ⟨rfl, rfl, _⟩
      · exact absurd h4 (hp i' q' k' h3)
      · exact ⟨rfl, rfl⟩
  · obtain ⟨f, hf⟩ := k.lv
    classical
    refine ⟨fun i => if Desc t x i then f i + (f d + 1) - f x else f i, fun i m h kk j hj => ?_⟩
    rcases hent i m h kk j hj with ⟨m', h1, h2⟩ | ⟨rfl, rfl, rfl⟩
    · have hlv := hf i m' h1 kk j h2
      by_cases hdi : Desc t x i
      · have hdj : Desc t x j := .step hdi h1 h2
        have := hdi.le hf
        simp only [if_pos hdi, if_pos hdj]
        omega
      · have hdj : ¬ Desc t x j := by
          intro c
          cases c with
          | self => exact hp i m' kk h1 h2
          | step c1 c2 c3 =>
            obtain ⟨e1, _⟩ := k.one _ _ _ _ _ _ _ c2 h1 c3 h2
            subst e1
            exact hdi c1
        simp only [if_neg hdi, if_neg hdj]
        exact hlv
    · simp only [if_neg hw, if_pos (Desc.self (t := t) (x := j))]
      omega
theorem placeF_dir {t : Tr} {ns : List Nm} (h : (placeF t ns).1 = 0) : ∃ l, t.nd (placeF t ns).2 = .dir l := by
  unfold placeF at h ⊢
  by_cases c : (t.find ns.dropLast true).1 = 0
  · rw [if_neg (fun h => h c)] at h ⊢
    split at h
    · rename_i l hl
      simp only [hl]
      exact ⟨l, rfl⟩
    · exact absurd h (by decide)
  · rw [if_pos c] at h
    exact absurd h c
theorem freeF_ok {t : Tr} {ns : List Nm} (h : (freeF t ns).1 = 0) : ns ≠ [] ∧ (freeF t ns).2.2 = ns.getLastD [] ∧ ∃ l, t.nd (freeF t ns).2.1 = .dir l ∧ ent l (ns.getLastD []) = none := by
  unfold freeF at h ⊢
  by_cases c1 : ns = []
  · rw [if_pos c1] at h; exact absurd h (by decide)
  · rw [if_neg c1] at h ⊢
    by_cases c2 : (placeF t ns).1 = 0
    · rw [if_neg (fun h => h c2)] at h ⊢
      by_cases c3 : (ent (t.names (placeF t ns).2) (ns.getLastD [])).isSome = true
      · rw [if_pos c3] at h; exact absurd h (by decide)
      · rw [if_neg c3]
        obtain ⟨l, hl⟩ := placeF_dir c2
        refine ⟨c1, rfl, l, hl, ?_⟩
        rw [names_of hl] at c3
        simpa using c3
    · rw [if_pos c2] at h; exact absurd h c2
theorem last_mem {ns : List Nm} (h : ns ≠ []) : ns.getLastD [] ∈ ns := by
  rw [List.getLastD_eq_getLast?, List.getLast?_eq_some_getLast h]
  exact List.getLast_mem h
theorem TrOk.make {t : Tr} (k : TrOk t) {ns : List Nm} (hn : ∀ s ∈ ns, NameOk s) {x : Nd} (hx : x = .dir [] ∨ x = .file [] ∨ ∃ to, x = .link to ∧ 1 ≤ to.length ∧ to.length ≤ 200) : TrOk (makeF t ns x).2 := by
  unfold makeF
  by_cases c1 : (freeF t ns).1 = 0
  · rw [if_neg (fun h => h c1)]
    by_cases c2 : t.count = 40
    · rw [if_pos c2]; exact k
    · rw [if_neg c2]
      obtain ⟨h1, h2, l, h3, h4⟩ := freeF_ok c1
      have hc := k.cnt
      have hdl := nd_dir_lt h3
      have kg := k.grow x hx (t.count + 1) (by omega)
      have hl' : (⟨t.ns ++ [x], t.count + 1⟩ : Tr).nd (freeF t ns).2.1 = .dir l := by rw [nd_snoc, if_neg (by omega)]; exact h3
      have e : (⟨(t.add (freeF t ns).2.1 (freeF t ns).2.2 t.ns.length).ns ++ [x], t.count + 1⟩ : Tr) = (⟨t.ns ++ [x], t.count + 1⟩ : Tr).add (freeF t ns).2.1 (freeF t ns).2.2 t.ns.length := by
        unfold Tr.add
        rw [names_of hl', names_of h3]
        simp only
        rw [List.set_append_left _ _ hdl]
      show TrOk ⟨(t.add (freeF t ns).2.1 (freeF t ns).2.2 t.ns.length).ns ++ [x], t.count + 1⟩
      rw [e, h2]
      refine kg.add hl' h4 (hn _ (last_mem h1)) k.pos (by show t.ns.length < (t.ns ++ [x]).length; rw [List.length_append]; exact Nat.lt_succ_self _) (fun i m kk h hm => ?_) (fun h => ?_)
      · have := nd_dir_lt h
        rw [nd_snoc] at h
        split at h
        · rcases hx with e | e | ⟨to, e, _⟩
          · rw [e] at h; rw [← Nd.dir.inj h] at hm; exact nomatch hm
          · rw [e] at h; exact nomatch h
          · rw [e] at h; exact nomatch h
        · have := (k.ins i m h kk _ hm).2.1
          omega
      · have hno : ∀ i, Desc (⟨t.ns ++ [x], t.count + 1⟩ : Tr) t.ns.length i → i = t.ns.length := by
          intro i hi
          induction hi with
          | self => rfl
          | step _ q1 q2 ih =>
            subst ih
            rw [nd_snoc, if_pos rfl] at q1
            rcases hx with e | e | ⟨to, e, _⟩
            · rw [e] at q1; rw [← Nd.dir.inj q1] at q2; exact nomatch q2
            · rw [e] at q1; exact nomatch q1
            · rw [e] at q1; exact nomatch q1
        have := hno _ h
        omega
  · rw [if_pos c1]; exact k
end tree
end Go.Proofs.YtmceappjldcbmaaGreatDoor
/-
  A TREE OF FILES, IN PLAIN LEAN: what acts keep; how many nodes there are. No program in sight.
-/
namespace Go.Proofs.YtmceappjldcbmaaGreatDoor
set_option linter.unusedVariables false
set_option linter.unusedSimpArgs false
namespace tree
open path
def nlen : Nd → Nat
  | .dir l => l.length
  | _ => 0
def total (t : Tr) : Nat := (t.ns.map nlen).sum
/-- each node but the root has one name -/
def Cnt (t : Tr) : Prop := t.count = 1 + (total t : Int)
theorem sum_set : ∀ (l : List Nat) (d x : Nat) (h : d < l.length), (l.set d x).sum + l[d] = l.sum + x
  | a :: t, 0, x, h => by simp only [List.set_cons_zero, List.sum_cons, List.getElem_cons_zero]; omega
  | a :: t, d + 1, x, h => by
    have := sum_set t d x (Nat.lt_of_succ_lt_succ h)
    simp only [List.set_cons_succ, List.sum_cons, List.getElem_cons_succ]
    omega
theorem nd_get (t : Tr) (d : Nat) (h : d < t.ns.length) : t.nd d = t.ns[d] := by
  show t.ns.getD d default = _
  rw [List.getD_eq_getElem?_getD, List.getElem?_eq_getElem h]; rfl
theorem total_set (t : Tr) (d : Nat) (x : Nd) (c : Int) (h : d < t.ns.length) : total ⟨t.ns.set d x, c⟩ + nlen (t.nd d) = total t + nlen x := by
  have := sum_set (t.ns.map nlen) d (nlen x) (by rw [List.length_map]; exact h)
  rw [List.getElem_map, ← List.map_set] at this
  rw [nd_get t d h]
  exact this
theorem filter_gone : ∀ {l : List (Nm × Nat)} {k : Nm}, (∀ j, (k, j) ∉ l) → (l.filter fun e => decide (¬ e.1 = k)) = l
  | [], k, _ => rfl
  | e :: l, k, h => by
    have hk : ¬ e.1 = k := fun c => h e.2 (by rw [← c]; exact List.mem_cons_self ..)
    rw [List.filter_cons, if_pos (by simp [hk]), filter_gone fun j hj => h j (List.mem_cons_of_mem _ hj)]
/-- an entry taken out, by its place -/
theorem del_erase : ∀ {l : List (Nm × Nat)} {k : Nm} {j : Nat}, (l.map (·.1)).Nodup → ent l k = some j → ∃ i, i < l.length ∧ l.eraseIdx i = (l.filter fun e => decide (¬ e.1 = k)) ∧ ∀ (V : Nat → Value) (q : Nat), lookI k (l.map fun e => (e.1, V e.2)) q = some (q + i, V j)
  | e :: l, k, j, hn, h => by
    rw [List.map_cons, List.nodup_cons] at hn
    unfold ent at h
    split at h
    · rename_i c
      obtain rfl := Option.some.inj h
      refine ⟨0, Nat.succ_pos _, ?_, fun V q => ?_⟩
      · rw [List.filter_cons, if_neg (by simp [c]), filter_gone fun j hj => hn.1 (by rw [c]; exact List.mem_map.2 ⟨(k, j), hj, rfl⟩)]; rfl
      · show (if k = e.1 then some (q, V e.2) else _) = _
        rw [if_pos c.symm]; rfl
    · rename_i c
      obtain ⟨i, hi, h1, h2⟩ := del_erase hn.2 h
      refine ⟨i + 1, Nat.succ_lt_succ hi, ?_, fun V q => ?_⟩
      · rw [List.filter_cons, if_pos (by simp [c]), ← h1]; rfl
      · show (if k = e.1 then some (q, V e.2) else lookI k (l.map fun e => (e.1, V e.2)) (q + 1)) = _
        rw [if_neg (fun h => c h.symm), h2 V (q + 1)]
        rw [show q + 1 + i = q + (i + 1) by omega]
theorem look_map (V : Nat → Value) : ∀ (l : List (Nm × Nat)) (k : Nm) (q : Nat), (lookI k (l.map fun e => (e.1, V e.2)) q).map Prod.snd = (ent l k).map V
  | [], k, q => rfl
  | e :: l, k, q => by
    have ih := look_map V l k (q + 1)
    show Option.map Prod.snd (if k = e.1 then some (q, V e.2) else lookI k (l.map fun e => (e.1, V e.2)) (q + 1)) = Option.map V (if e.1 = k then some e.2 else ent l k)
    by_cases c : k = e.1
    · rw [if_pos c, if_pos c.symm]; rfl
    · rw [if_neg c, if_neg (fun h => c h.symm)]; exact ih
theorem look_none (V : Nat → Value) {l : List (Nm × Nat)} {k : Nm} (q : Nat) (h : ent l k = none) : lookI k (l.map fun e => (e.1, V e.2)) q = none := by
  have := look_map V l k q
  rw [h] at this
  cases e : lookI k (l.map fun e => (e.1, V e.2)) q with
  | none => rfl
  | some x => rw [e] at this; exact nomatch this
theorem filter_len {l : List (Nm × Nat)} {k : Nm} {j : Nat} (hn : (l.map (·.1)).Nodup) (h : ent l k = some j) : (l.filter fun e => decide (¬ e.1 = k)).length + 1 = l.length := by
  obtain ⟨i, hi, h1, _⟩ := del_erase hn h
  rw [← h1, List.length_eraseIdx, if_pos hi]; omega
theorem snoc_last {ns : List Nm} (h : ns ≠ []) : ns.dropLast ++ [ns.getLastD []] = ns := by
  rw [List.getLastD_eq_getLast?, List.getLast?_eq_some_getLast h]
  exact List.dropLast_concat_getLast h
theorem place_of_find {t : Tr} {ns : List Nm} {i : Nat} (hne : ns ≠ []) (h : t.find ns false = (0, i)) : ∃ l, (placeF t ns).1 = 0 ∧ t.nd (placeF t ns).2 = .dir l ∧ ent l (ns.getLastD []) = some i := by
  have h' : findF t false 8 (ns.dropLast ++ [ns.getLastD []]) = (0, i) := by rw [snoc_last hne]; exact h
  obtain ⟨d, l, h1, h2, h3⟩ := findF_last _ h'
  have e : t.find ns.dropLast true = (0, d) := h1
  refine ⟨l, ?_, ?_, h3⟩
  · unfold placeF; rw [e]; simp only [h2]; rfl
  · unfold placeF; rw [e]; simp only [h2]; exact h2
theorem del_ns {t : Tr} {d : Nat} {l : List (Nm × Nat)} (hl : t.nd d = .dir l) (name : Nm) : t.del d name = ⟨t.ns.set d (.dir (l.filter fun e => decide (¬ e.1 = name))), t.count⟩ := by unfold Tr.del; rw [names_of hl]
theorem add_ns {t : Tr} {d : Nat} {l : List (Nm × Nat)} (hl : t.nd d = .dir l) (name : Nm) (x : Nat) : t.add d name x = ⟨t.ns.set d (.dir (l ++ [(name, x)])), t.count⟩ := by unfold Tr.add; rw [names_of hl]
theorem del_total {t : Tr} (k : TrOk t) {d : Nat} {l : List (Nm × Nat)} {name : Nm} {x : Nat} (hl : t.nd d = .dir l) (h : ent l name = some x) : total (t.del d name) + 1 = total t := by
  have h1 := total_set t d (.dir (l.filter fun e => decide (¬ e.1 = name))) t.count (nd_dir_lt hl)
  have h2 := filter_len (k.nodup d l hl) h
  rw [del_ns hl]
  rw [hl] at h1
  simp only [nlen] at h1
  omega
theorem add_total {t : Tr} {d : Nat} {l : List (Nm × Nat)} {name : Nm} {x : Nat} (hl : t.nd d = .dir l) : total (t.add d name x) = total t + 1 := by
  have h1 := total_set t d (.dir (l ++ [(name, x)])) t.count (nd_dir_lt hl)
  rw [add_ns hl]
  rw [hl] at h1
  simp only [nlen, List.length_append, List.length_singleton] at h1
  omega
theorem total_snoc (ns : List Nd) (x : Nd) (c c' : Int) : total ⟨ns ++ [x], c⟩ = total ⟨ns, c'⟩ + nlen x := by
  unfold total
  simp only [List.map_append, List.sum_append, List.map_cons, List.map_nil, List.sum_cons, List.sum_nil]
  omega
theorem Cnt.new : Cnt newT := rfl
theorem Cnt.make {t : Tr} (c : Cnt t) {ns : List Nm} {x : Nd} (hx : nlen x = 0) : Cnt (makeF t ns x).2 := by
  unfold makeF
  by_cases c1 : (freeF t ns).1 = 0
  · rw [if_neg (fun h => h c1)]
    by_cases c2 : t.count = 40
    · rw [if_pos c2]; exact c
    · rw [if_neg c2]
      obtain ⟨h1, h2, l, h3, h4⟩ := freeF_ok c1
      have e1 := add_total (name := (freeF t ns).2.2) (x := t.ns.length) h3
      have e2 := total_snoc (t.add (freeF t ns).2.1 (freeF t ns).2.2 t.ns.length).ns x (t.count + 1) t.count
      have e3 : total ⟨(t.add (freeF t ns).2.1 (freeF t ns).2.2 t.ns.length).ns, t.count⟩ = total (t.add (freeF t ns).2.1 (freeF t ns).2.2 t.ns.length) := rfl
      unfold Cnt at c ⊢
      show t.count + 1 = 1 + ((total ⟨(t.add (freeF t ns).2.1 (freeF t ns).2.2 t.ns.length).ns ++ [x], t.count + 1⟩ : Nat) : Int)
      omega
  · rw [if_pos c1]; exact c
theorem TrOk.remove {t : Tr} (k : TrOk t) (c : Cnt t) (ns : List Nm) : TrOk (removeF t ns).2 ∧ Cnt (removeF t ns).2 := by
  unfold removeF
  by_cases c1 : ns = []
  · rw [if_pos c1]; exact ⟨k, c⟩
  rw [if_neg c1]
  by_cases c2 : (t.find ns false).1 = 0
  · rw [if_neg (fun h => h c2)]
    by_cases c3 : 0 < (t.names (t.find ns false).2).length
    · rw [if_pos c3]; exact ⟨k, c⟩
    · rw [if_neg c3]
      obtain ⟨l, h1, h2, h3⟩ := place_of_find c1 (Prod.ext c2 rfl : t.find ns false = (0, (t.find ns false).2))
      have ht := del_total k h2 h3
      have hk := k.cnt
      unfold Cnt at c
      refine ⟨k.del h2 _ _ (by omega), ?_⟩
      show t.count - 1 = 1 + ((total (t.del (placeF t ns).2 (ns.getLastD [])) : Nat) : Int)
      omega
  · rw [if_pos c2]; exact ⟨k, c⟩
theorem Desc.mono {t t' : Tr} {x i : Nat} (h : ∀ i l, t'.nd i = .dir l → ∃ l', t.nd i = .dir l' ∧ l ⊆ l') (H : Desc t' x i) : Desc t x i := by
  induction H with
  | self => exact .self
  | step _ h1 h2 ih =>
    obtain ⟨l', e1, e2⟩ := h _ _ h1
    exact .step ih e1 (e2 h2)
theorem TrOk.rename {t : Tr} (k : TrOk t) (c : Cnt t) (ns : List Nm) (to : Nm) : TrOk (renameF t ns to).2 ∧ Cnt (renameF t ns to).2 := by
  unfold renameF
  by_cases c1 : ns = []
  · rw [if_pos c1]; exact ⟨k, c⟩
  rw [if_neg c1]
  by_cases c2 : (t.find ns false).1 = 0
  · rw [if_neg (fun h => h c2)]
    by_cases c3 : (walkF [] to).2 = 0
    · rw [if_neg (fun h => h c3)]
      by_cases c4 : (freeF t (walkF [] to).1).1 = 0
      · rw [if_neg (fun h => h c4)]
        by_cases c5 : Reach t (t.find ns false).2 (freeF t (walkF [] to).1).2.1
        · rw [if_pos c5]; exact ⟨k, c⟩
        · rw [if_neg c5]
          obtain ⟨l, h1, h2, h3⟩ := place_of_find c1 (Prod.ext c2 rfl : t.find ns false = (0, (t.find ns false).2))
          obtain ⟨f1, f2, m, f3, f4⟩ := freeF_ok c4
          have hok := (walk_ok to _ (Prod.ext rfl c3 : walkF [] to = ((walkF [] to).1, 0))).2 _ (last_mem f1)
          have ht := del_total k h2 h3
          have kd : TrOk (t.del (placeF t ns).2 (ns.getLastD [])) := k.del h2 _ _ k.cnt
          generalize (t.find ns false).2 = x at *
          generalize (placeF t ns).2 = p at *
          generalize (freeF t (walkF [] to).1).2.1 = e at *
          generalize hnm : (freeF t (walkF [] to).1).2.2 = nm at *
          rw [← f2] at f4 hok
          have hin := k.ins p l h2 _ _ (ent_mem h3)
          -- the tree without the entry
          have hsub : ∀ i q, (t.del p (ns.getLastD [])).nd i = .dir q → ∃ q', t.nd i = .dir q' ∧ q ⊆ q' := fun i q hq => by
            rw [del_ns h2, nd_set] at hq
            split at hq
            · rename_i hpi
              rw [← hpi.1]
              exact ⟨l, h2, by rw [← Nd.dir.inj hq]; exact List.filter_sublist.subset⟩
            · exact ⟨q, hq, fun _ h => h⟩
          obtain ⟨m', hm', hme⟩ : ∃ m', (t.del p (ns.getLastD [])).nd e = .dir m' ∧ ent m' nm = none := by
            rw [del_ns h2, nd_set]
            by_cases hpe : p = e
            · subst hpe
              rw [if_pos ⟨rfl, nd_dir_lt h2⟩]
              obtain rfl : m = l := by rw [f3] at h2; exact Nd.dir.inj h2
              refine ⟨_, rfl, ?_⟩
              rw [ent_filter]
              split
              · rfl
              · exact f4
            · rw [if_neg (fun h => hpe h.1)]
              exact ⟨m, f3, f4⟩
          have hlen : (t.del p (ns.getLastD [])).ns.length = t.ns.length := by rw [del_ns h2]; show (t.ns.set p _).length = _; rw [List.length_set]
          refine ⟨kd.add hm' hme hok hin.1 (by rw [hlen]; exact hin.2.1) (fun i q kk hq hx => ?_) (fun hd => ?_), ?_⟩
          · obtain ⟨q', e1, e2⟩ := hsub i q hq
            obtain ⟨rfl, rfl⟩ := k.one _ _ _ _ _ _ _ e1 h2 (e2 hx) (ent_mem h3)
            rw [del_ns h2, nd_set, if_pos ⟨rfl, nd_dir_lt h2⟩] at hq
            rw [← Nd.dir.inj hq] at hx
            have := (List.mem_filter.1 hx).2
            simp at this
          · exact c5 ((Desc.mono hsub hd).reach (.self f3))
          · unfold Cnt at c ⊢
            rw [add_total hm']
            show (t.del p (ns.getLastD [])).count = _
            rw [show (t.del p (ns.getLastD [])).count = t.count from rfl]
            omega
      · rw [if_pos c4]; exact ⟨k, c⟩
    · rw [if_pos c3]; exact ⟨k, c⟩
  · rw [if_pos c2]; exact ⟨k, c⟩
theorem TrOk.setFile {t : Tr} (k : TrOk t) {i : Nat} {b b' : List UInt8} (hi : t.nd i = .file b) (hlt : i < t.ns.length) (hb : b'.length ≤ 2048) : TrOk ⟨t.ns.set i (.file b'), t.count⟩ := by
  have hd : ∀ j l, (⟨t.ns.set i (.file b'), t.count⟩ : Tr).nd j = .dir l → t.nd j = .dir l := fun j l h => by
    rw [nd_set] at h
    split at h
    · exact nomatch h
    · exact h
  obtain ⟨l0, h0⟩ := k.root
  refine ⟨⟨l0, ?_⟩, by show 0 < (t.ns.set i _).length; rw [List.length_set]; exact k.pos, fun j m h kk q hq => ?_, fun j m h => k.nodup j m (hd j m h), fun j j' m m' kk kk' q h h' hq hq' => k.one j j' m m' kk kk' q (hd _ _ h) (hd _ _ h') hq hq', ?_, fun j to h => ?_, fun j q h => ?_, k.cnt⟩
  · rw [nd_set, if_neg (fun h => by rw [h.1, h0] at hi; exact nomatch hi)]; exact h0
  · have := k.ins j m (hd j m h) kk q hq
    exact ⟨this.1, by show q < (t.ns.set i _).length; rw [List.length_set]; exact this.2.1, this.2.2⟩
  · obtain ⟨f, hf⟩ := k.lv
    exact ⟨f, fun j m h kk q hq => hf j m (hd j m h) kk q hq⟩
  · rw [nd_set] at h
    split at h
    · exact nomatch h
    · exact k.link j to h
  · rw [nd_set] at h
    split at h
    · rw [← Nd.file.inj h]; exact hb
    · exact k.file j q h
theorem long_len (b : List UInt8) (n : Nat) : (long b n).length = n := by
  unfold long
  rw [List.length_append, List.length_take, List.length_replicate]; omega
theorem lay_len (b d : List UInt8) (k : Nat) (h : k + d.length ≤ b.length) : (lay b d k).length = b.length := by
  unfold lay
  rw [List.length_append, List.length_append, List.length_take, List.length_drop]; omega
theorem fileF_len {b : List UInt8} (hb : b.length ≤ 2048) (a : Ac) : (fileF b a).1.length ≤ 2048 := by
  unfold fileF
  by_cases c1 : (¬ a.kind = 5 ∧ ¬ inB a.at_) ∨ (¬ a.kind = 3 ∧ ¬ inB a.cnt)
  · rw [if_pos c1]; exact hb
  rw [if_neg c1]
  by_cases c2 : a.kind = 3 ∧ 2048 < a.at_ + a.d.length
  · rw [if_pos c2]; exact hb
  rw [if_neg c2]
  by_cases c3 : a.kind = 3
  · rw [if_pos c3]
    have hat : inB a.at_ := Decidable.byContradiction fun h => c1 (.inl ⟨by omega, h⟩)
    have hle : a.at_ + a.d.length ≤ 2048 := by
      have : ¬ 2048 < a.at_ + a.d.length := fun h => c2 ⟨c3, h⟩
      omega
    unfold inB at hat
    by_cases c4 : (b.length : Int) < a.at_ + a.d.length
    · simp only [if_pos c4]
      rw [lay_len _ _ _ (by rw [long_len]; omega), long_len]; omega
    · simp only [if_neg c4]
      rw [lay_len _ _ _ (by omega)]; exact hb
  rw [if_neg c3]
  by_cases c4 : a.kind = 4
  · rw [if_pos c4]; exact hb
  · rw [if_neg c4]
    have hc : inB a.cnt := Decidable.byContradiction fun h => c1 (.inr ⟨c3, h⟩)
    unfold inB at hc
    show (long b a.cnt.toNat).length ≤ _
    rw [long_len]; omega
theorem TrOk.at_ {t : Tr} (k : TrOk t) (c : Cnt t) {i : Nat} (hi : i < t.ns.length) (a : Ac) : TrOk (atF t i a).1 ∧ Cnt (atF t i a).1 := by
  unfold atF
  split
  · split
    · exact ⟨k, c⟩
    · split
      · exact ⟨k, c⟩
      · exact ⟨k, c⟩
  · rename_i b hb
    split
    · exact ⟨k, c⟩
    · split
      · exact ⟨k, c⟩
      · refine ⟨k.setFile hb hi (fileF_len (k.file i b hb) a), ?_⟩
        have := total_set t i (.file (fileF b a).1) t.count hi
        rw [hb] at this
        simp only [nlen] at this
        unfold Cnt at c ⊢
        show t.count = 1 + ((total ⟨t.ns.set i (.file (fileF b a).1), t.count⟩ : Nat) : Int)
        omega
  · exact ⟨k, c⟩
theorem TrOk.do_ {t : Tr} (k : TrOk t) (c : Cnt t) (a : Ac) : TrOk (doF t a).1 ∧ Cnt (doF t a).1 := by
  unfold doF
  split
  · exact ⟨k, c⟩
  split
  · exact ⟨k, c⟩
  rename_i c1
  split
  · exact ⟨k, c⟩
  rename_i c2
  have hok := walk_ok a.path _ (Prod.ext rfl (Decidable.not_not.1 c2) : walkF [] a.path = ((walkF [] a.path).1, 0))
  split
  · exact ⟨k.make hok.2 (.inl rfl), c.make rfl⟩
  split
  · exact ⟨k.make hok.2 (.inr (.inl rfl)), c.make rfl⟩
  split
  · rename_i c3
    have : ¬ (a.to.length = 0 ∨ 200 < a.to.length) := fun h => c1 ⟨c3, h⟩
    exact ⟨k.make hok.2 (.inr (.inr ⟨a.to, rfl, by omega, by omega⟩)), c.make rfl⟩
  split
  · exact k.remove c _
  split
  · exact k.rename c _ _
  split
  · exact ⟨k, c⟩
  rename_i c4
  exact k.at_ c (findF_lt k (Prod.ext (Decidable.not_not.1 c4) rfl : t.find _ true = (0, _))) a
end tree
end Go.Proofs.YtmceappjldcbmaaGreatDoor
/-
  PLAIN LAWS of a tree of files: what finding depends on; what is refused does nothing; what was put is there.
-/
namespace Go.Proofs.YtmceappjldcbmaaGreatDoor
set_option linter.unusedVariables false
set_option linter.unusedSimpArgs false
namespace tree
open path
/-- what finding sees of a node -/
def E (t : Tr) (i : Nat) : Option (Nm → Option Nat) := match t.nd i with
  | .dir l => some (ent l)
  | _ => none
def K (t : Tr) (i : Nat) : Option Nm := match t.nd i with
  | .link to => some to
  | _ => none
def lookG (t : Tr) (follow loop : Bool) : Nat → List Nm → List Nm → Lk
  | now, _, [] => .node now
  | now, pre, name :: rest => match E t now with
    | some e => match e name with
      | none => .err 7
      | some nx => match K t nx with
        | some to =>
          if follow = true ∨ rest ≠ [] then
            if loop = true then .err 13
            else if ¬ (followF pre to).2 = 0 then .err (followF pre to).2
            else if 12 < (followF pre to).1.length + rest.length then .err 9
            else .again ((followF pre to).1 ++ rest)
          else lookG t follow loop nx (pre ++ [name]) rest
        | none => lookG t follow loop nx (pre ++ [name]) rest
    | none => .err 15
theorem look_eq (t : Tr) (follow loop : Bool) : ∀ (rest pre : List Nm) (now : Nat), lookF t follow loop now pre rest = lookG t follow loop now pre rest
  | [], pre, now => rfl
  | name :: rest, pre, now => by
    unfold lookF lookG E
    cases h : t.nd now with
    | dir l =>
      simp only
      cases he : ent l name with
      | none => rfl
      | some nx =>
        simp only
        unfold K
        cases hx : t.nd nx with
        | link to => simp only; rw [look_eq t follow loop rest]
        | dir l2 => simp only; rw [look_eq t follow loop rest]
        | file d => simp only; rw [look_eq t follow loop rest]
    | file d => rfl
    | link to => rfl
theorem lookG_congr {t t' : Tr} (hE : ∀ i, E t i = E t' i) (hK : ∀ i, K t i = K t' i) (follow loop : Bool) : ∀ (rest pre : List Nm) (now : Nat), lookG t follow loop now pre rest = lookG t' follow loop now pre rest
  | [], pre, now => rfl
  | name :: rest, pre, now => by
    unfold lookG
    rw [hE]
    cases E t' now with
    | none => rfl
    | some e =>
      simp only
      cases e name with
      | none => rfl
      | some nx =>
        simp only
        rw [hK]
        cases K t' nx with
        | none => simp only; exact lookG_congr hE hK follow loop rest _ _
        | some to => simp only; rw [lookG_congr hE hK follow loop rest]
theorem findF_congr {t t' : Tr} (h : ∀ follow loop rest, lookF t follow loop 0 [] rest = lookF t' follow loop 0 [] rest) (follow : Bool) : ∀ (k : Nat) (ns : List Nm), findF t follow k ns = findF t' follow k ns
  | 0, ns => by unfold findF; rw [h]
  | k + 1, ns => by
    unfold findF
    rw [h]
    cases lookF t' follow false 0 [] ns with
    | err e => rfl
    | node i => rfl
    | again on => exact findF_congr h follow k on
theorem find_congr {t t' : Tr} (hE : ∀ i, E t i = E t' i) (hK : ∀ i, K t i = K t' i) (follow : Bool) (ns : List Nm) : t.find ns follow = t'.find ns follow :=
  findF_congr (fun f lp rest => by rw [look_eq, look_eq]; exact lookG_congr hE hK f lp rest _ _) follow 8 ns
theorem E_set {t : Tr} {i : Nat} {b b' : List UInt8} (hi : t.nd i = .file b) (c : Int) (j : Nat) : E ⟨t.ns.set i (.file b'), c⟩ j = E t j := by
  unfold E
  rw [nd_set]
  by_cases h : i = j ∧ i < t.ns.length
  · rw [if_pos h, ← h.1, hi]
  · rw [if_neg h]
theorem K_set {t : Tr} {i : Nat} {b b' : List UInt8} (hi : t.nd i = .file b) (c : Int) (j : Nat) : K ⟨t.ns.set i (.file b'), c⟩ j = K t j := by
  unfold K
  rw [nd_set]
  by_cases h : i = j ∧ i < t.ns.length
  · rw [if_pos h, ← h.1, hi]
  · rw [if_neg h]
/-- an act that looks at a node -/
theorem doF_io {t : Tr} {a : Ac} (hk : 3 ≤ a.kind ∧ a.kind ≤ 7) {ns : List Nm} (hw : walkF [] a.path = (ns, 0)) : doF t a = if ¬ (t.find ns true).1 = 0 then (t, no (t.find ns true).1) else atF t (t.find ns true).2 a := by
  unfold doF
  rw [if_neg (by omega), if_neg (fun h => by omega), hw, if_neg (fun h => h rfl), if_neg (by omega), if_neg (by omega), if_neg (by omega), if_neg (by omega), if_neg (by omega)]
theorem set_self (t : Tr) (i : Nat) (b : List UInt8) (hi : t.nd i = .file b) : t.ns.set i (.file b) = t.ns := by
  apply List.ext_getElem?
  intro j
  rw [List.getElem?_set]
  by_cases e : i = j
  · subst e
    rw [if_pos rfl]
    by_cases h : i < t.ns.length
    · rw [if_pos h, List.getElem?_eq_getElem h, ← nd_get t i h, hi]
    · rw [if_neg h, List.getElem?_eq_none (by omega)]
  · rw [if_neg e]
def getA (p : Nm) (n : Int) : Ac := ⟨4, p, [], 0, n, []⟩
def putA (p : Nm) (k : Int) (d : List UInt8) : Ac := ⟨3, p, [], k, 0, d⟩
/-- the bytes of a file that others were put into -/
def wantF (b d : List UInt8) (k : Nat) : List UInt8 := lay (b ++ List.replicate (k + d.length - b.length) 0) d k
theorem wantF_eq (b d : List UInt8) (k : Nat) : wantF b d k = lay (if (b.length : Int) < (k : Int) + d.length then long b ((k : Int) + d.length).toNat else b) d k := by
  unfold wantF
  by_cases c : (b.length : Int) < (k : Int) + d.length
  · rw [if_pos c]
    unfold long
    rw [show ((k : Int) + d.length).toNat = k + d.length by omega, List.take_of_length_le (show b.length ≤ k + d.length by omega)]
  · rw [if_neg c, show k + d.length - b.length = 0 by omega, List.replicate_zero, List.append_nil]
theorem names_few {T : Tr} (k : TrOk T) (cn : Cnt T) {i : Nat} {l : List (Nm × Nat)} (hi : T.nd i = .dir l) : l.length ≤ 39 := by
  have := total_set T i (.dir []) T.count (nd_dir_lt hi)
  rw [hi] at this
  have hc := k.cnt
  unfold Cnt at cn
  simp only [nlen, List.length_nil] at this
  omega
end tree
end Go.Proofs.YtmceappjldcbmaaGreatDoor
