/-
  A TREE OF FILES IN MEMORY: what lies where; what is read of it.
-/
import Derived.Test.YtmceappjldcbmaaGreatDoorTreeN1
import Derived.Test.YtmceappjldcbmaaGreatDoorKitN2
namespace Go.Proofs.YtmceappjldcbmaaGreatDoor
open Go.RowKit Go.Sort
set_option linter.unusedVariables false
set_option linter.unusedSimpArgs false
theorem Star.mem {l : List Res} {f o : Hp} {r : Res} (h : (Star l).sat f o) (hr : r ∈ l) : r.sat f o := by
  obtain ⟨m, rfl, h2, _⟩ := h
  obtain ⟨x, hx, rfl⟩ := List.mem_map.1 hr
  obtain ⟨a, b⟩ := h2 x hx
  exact Res.mono (.refl _) b a
theorem Holds.frozen {w : World} {rs : List Res} (h : ∀ r ∈ rs, r.sat (hp w) (fun _ => none)) : Holds w w rs := by
  refine ⟨rfl, rfl, rfl, Nat.le_refl _, hp w, rs.map fun r => (r, fun _ => none), by rw [List.map_map]; exact List.map_id _, .refl _, .refl _, fun x hx => ?_, ?_⟩
  · obtain ⟨r, hr, rfl⟩ := List.mem_map.1 hx
    exact ⟨h r hr, (fun k o e => (nomatch e)), (fun k => .inr rfl)⟩
  · exact List.pairwise_map.2 (List.pairwise_of_forall fun _ _ k => .inl rfl)
theorem Sl.slIn {w : World} {ao : Option Addr} {n c size : Nat} {xs : List Value} (S : Sl w ao n c size xs) (hs : 0 < size) : slIn (hp w) ao n c size xs := by
  have := (Holds.sl0 S hs).at (List.mem_cons_self ..)
  exact this
namespace tree
open path
/-- where a node lies -/
structure Loc where
  b : Nat
  m : Nat
  ao : Option Addr
  c : Nat
  bs : List Nat
  clk : Nat
instance : Inhabited Loc := ⟨⟨0, 0, none, 0, [], 0⟩⟩
abbrev ptr (b : Nat) : Value := .pointer (some (badr b 0))
/-- a node as a value -/
def kv : Nd → Nat → Value
  | .dir _, b => .iface 73 (ptr b)
  | .file _, b => .iface 91 (ptr b)
  | .link _, b => .iface 94 (ptr b)
def val (T : Tr) (L : Nat → Loc) (j : Nat) : Value := kv (T.nd j) (L j).b
theorem val_dir {T : Tr} {L : Nat → Loc} {i : Nat} {l : List (Nm × Nat)} (h : T.nd i = .dir l) : val T L i = .iface 73 (ptr (L i).b) := by unfold val; rw [h]; rfl
theorem val_file {T : Tr} {L : Nat → Loc} {i : Nat} {l : List UInt8} (h : T.nd i = .file l) : val T L i = .iface 91 (ptr (L i).b) := by unfold val; rw [h]; rfl
theorem val_link {T : Tr} {L : Nat → Loc} {i : Nat} {l : Nm} (h : T.nd i = .link l) : val T L i = .iface 94 (ptr (L i).b) := by unfold val; rw [h]; rfl
def entV (V : Nat → Value) (l : List (Nm × Nat)) : NV := l.map fun e => (e.1, V e.2)
/-- a node's blocks -/
def ndR (x : Nd) (V : Nat → Value) (l : Loc) : List Res := match x with
  | .dir es => [.blk l.b 76 [.map (some l.m)], .own (MapB l.m (entV V es) l.bs l.clk)]
  | .file d => [.blk l.b 93 [.slice l.ao d.length l.c], .vec 5 1 l.ao d.length l.c (flat eB d)]
  | .link to => [.blk l.b 96 [.string (sOf to)]]
def ndO (T : Tr) (L : Nat → Loc) (i : Nat) : Res := .own (Star (ndR (T.nd i) (val T L) (L i)))
/-- all nodes -/
def NodesR (T : Tr) (L : Nat → Loc) : Own2 := Star ((List.range T.ns.length).map (ndO T L))
abbrev TreeB (T : Tr) (L : Nat → Loc) (bt : Nat) : Res := .blk bt 78 [ptr (L 0).b, .int .i64 T.count]
/-- the tree, as it is read -/
def TP (T : Tr) (L : Nat → Loc) (bt : Nat) : Pers where
  sat f := (TreeB T L bt).sat f f ∧ (NodesR T L).sat f f
  mono := fun h hs => ⟨Res.mono h h hs.1, (NodesR T L).mono h h hs.2⟩
theorem tp_node {T : Tr} {L : Nat → Loc} {bt i : Nat} {f : Hp} (h : (TP T L bt).sat f) (hi : i < T.ns.length) {r : Res} (hr : r ∈ ndR (T.nd i) (val T L) (L i)) : r.sat f f := by
  have h1 : (ndO T L i).sat f f := Star.mem h.2 (List.mem_map.2 ⟨i, List.mem_range.2 hi, rfl⟩)
  exact Star.mem h1 hr
theorem ndR_head (x : Nd) (V : Nat → Value) (l : Loc) : ∃ t cs, .blk l.b t cs ∈ ndR x V l := by
  cases x
  · exact ⟨_, _, List.mem_cons_self ..⟩
  · exact ⟨_, _, List.mem_cons_self ..⟩
  · exact ⟨_, _, List.mem_cons_self ..⟩
/-- no two nodes lie in one block -/
theorem tp_apart {T : Tr} {L : Nat → Loc} {bt i j : Nat} {f : Hp} (h : (TP T L bt).sat f) (hi : i < T.ns.length) (hj : j < T.ns.length) (hne : i ≠ j) : (L i).b ≠ (L j).b := by
  obtain ⟨m, h1, h2, h3⟩ := h.2
  have hl : m.length = T.ns.length := by have := congrArg List.length h1; simpa using this
  have key : ∀ k (hk : k < m.length), ∃ o, m[k].2 (L k).b = some o := by
    intro k hk
    have e : m[k].1 = ndO T L k := by
      have : (m.map Prod.fst)[k]? = ((List.range T.ns.length).map (ndO T L))[k]? := by rw [h1]
      rw [List.getElem?_map, List.getElem?_map, List.getElem?_eq_getElem hk, List.getElem?_range (by omega)] at this
      exact Option.some.inj this
    have hs := (h2 m[k] (List.getElem_mem hk)).1
    rw [e] at hs
    obtain ⟨t, cs, hb⟩ := ndR_head (T.nd k) (val T L) (L k)
    exact ⟨_, Star.mem hs hb⟩
  have hd : ∀ a b (ha : a < m.length) (hb : b < m.length), a < b → (L a).b ≠ (L b).b := by
    intro a b ha hb hab e
    obtain ⟨o, ho⟩ := key a ha
    obtain ⟨o', ho'⟩ := key b hb
    have := List.pairwise_iff_getElem.1 h3 a b ha hb hab (L a).b
    rcases this with q | q
    · rw [ho] at q; exact nomatch q
    · rw [e, ho'] at q; exact nomatch q
  rcases Nat.lt_or_ge i j with c | c
  · exact hd i j (by omega) (by omega) c
  · exact fun e => hd j i (by omega) (by omega) (by omega) e.symm
section
variable {w0 : World} {rs : List Res} {T : Tr} {L : Nat → Loc} {bt i : Nat}
theorem tp_root (hm : .per (TP T L bt) ∈ rs) : ∀ w, Holds w0 w rs → w.cell? (badr bt 0) = some (ptr (L 0).b) := fun w H => by
  have h : (TP T L bt).sat (hp w) := H.at hm
  exact cell_of_blk h.1 rfl
theorem tp_dir (hm : .per (TP T L bt) ∈ rs) {l : List (Nm × Nat)} (hi : T.nd i = .dir l) : ∀ w, Holds w0 w rs → w.cell? (badr (L i).b 0) = some (.map (some (L i).m)) := fun w H => by
  have h : (TP T L bt).sat (hp w) := H.at hm
  have := tp_node h (nd_dir_lt hi) (r := .blk (L i).b 76 [.map (some (L i).m)]) (by rw [hi]; exact List.mem_cons_self ..)
  exact cell_of_blk this rfl
theorem tp_map (hm : .per (TP T L bt) ∈ rs) {l : List (Nm × Nat)} (hi : T.nd i = .dir l) : ∀ w, Holds w0 w rs → MapW w (L i).m (entV (val T L) l) (L i).bs (L i).clk := fun w H => by
  have h : (TP T L bt).sat (hp w) := H.at hm
  exact tp_node h (nd_dir_lt hi) (r := .own (MapB (L i).m (entV (val T L) l) (L i).bs (L i).clk)) (by rw [hi]; exact List.mem_cons_of_mem _ (List.mem_cons_self ..))
theorem tp_link (hm : .per (TP T L bt) ∈ rs) (hlt : i < T.ns.length) {to : Nm} (hi : T.nd i = .link to) : ∀ w, Holds w0 w rs → w.cell? (badr (L i).b 0) = some (.string (sOf to)) := fun w H => by
  have h : (TP T L bt).sat (hp w) := H.at hm
  have := tp_node h hlt (r := .blk (L i).b 96 [.string (sOf to)]) (by rw [hi]; exact List.mem_cons_self ..)
  exact cell_of_blk this rfl
theorem tp_blk (hm : .per (TP T L bt) ∈ rs) {l : List (Nm × Nat)} (hi : T.nd i = .dir l) : ∀ w, Holds w0 w rs → w.heap[(L i).b]? = some (.cells #[.map (some (L i).m)] 76 (0, 0)) := fun w H => by
  have h : (TP T L bt).sat (hp w) := H.at hm
  exact tp_node h (nd_dir_lt hi) (r := .blk (L i).b 76 [.map (some (L i).m)]) (by rw [hi]; exact List.mem_cons_self ..)
/-- what is owned may be read by whoever only reads -/
theorem tp_lend {w : World} {rest : List Res} (H : Holds w0 w (TreeB T L bt :: .own (NodesR T L) :: rest)) : (TP T L bt).sat (hp w) := ⟨H.at (List.mem_cons_self ..), H.at (List.mem_cons_of_mem _ (List.mem_cons_self ..))⟩
theorem Spec.lendT {P : Program} {f : FuncId} {args : List Value} {r : Res} {ao : Option Addr} {n c size : Nat} {xs : List Value} [hr : RdR r ao n c size xs] {post post' : Value → List Res → Prop} (hs : 0 < size) (S : Spec P f args [.per (TP T L bt), .sl ao n c size xs] post)
    (hp : ∀ v give, post v give → ∃ own rest, (∀ r ∈ own, OwnR r) ∧ give = own ++ rest ∧ post' v (own ++ [TreeB T L bt, .own (NodesR T L), r])) : Spec P f args [TreeB T L bt, .own (NodesR T L), r] post' :=
  Spec.lend S (fun {w0 w rest} H => Holds.frozen fun q hq => by
    have S1 := hr.rd (H.perm (List.perm_append_comm (l₁ := [TreeB T L bt, .own (NodesR T L)]) (l₂ := [r]) |>.append_right rest)) (by simp)
    rcases List.mem_cons.1 hq with rfl | hq
    · exact tp_lend (rest := r :: rest) H
    · rw [List.mem_singleton] at hq
      subst hq
      exact S1.slIn hs) hp
theorem Spec.lendT0 {P : Program} {f : FuncId} {args : List Value} {post post' : Value → List Res → Prop} (S : Spec P f args [.per (TP T L bt)] post)
    (hp : ∀ v give, post v give → ∃ own rest, (∀ r ∈ own, OwnR r) ∧ give = own ++ rest ∧ post' v (own ++ [TreeB T L bt, .own (NodesR T L)])) : Spec P f args [TreeB T L bt, .own (NodesR T L)] post' :=
  Spec.lend S (fun {w0 w rest} H => Holds.frozen fun q hq => by
    rw [List.mem_singleton] at hq
    subst hq
    exact tp_lend (rest := rest) H) hp
end
theorem look_some (V : Nat → Value) {l : List (Nm × Nat)} {k : Nm} {j : Nat} (h : ent l k = some j) : ∃ i, lookI k (entV V l) 0 = some (i, V j) := by
  have := look_map V l k 0
  rw [h] at this
  cases e : lookI k (l.map fun e => (e.1, V e.2)) 0 with
  | none => rw [e] at this; exact nomatch this
  | some x =>
    rw [e] at this
    exact ⟨x.1, by show lookI k (l.map fun e => (e.1, V e.2)) 0 = _; rw [e]; exact congrArg some (Prod.ext rfl (Option.some.inj this))⟩
instance : Zer Tryz.prog 100 .nilIface := ⟨by kernel_rfl⟩
instance : Zer Tryz.prog 73 (.pointer none) := ⟨by kernel_rfl⟩
instance : Zer Tryz.prog 91 (.pointer none) := ⟨by kernel_rfl⟩
instance : Zer Tryz.prog 94 (.pointer none) := ⟨by kernel_rfl⟩
end tree
end Go.Proofs.YtmceappjldcbmaaGreatDoor
/-
  CONTRACTS of a tree's look and find, by the kit.
-/
namespace Go.Proofs.YtmceappjldcbmaaGreatDoor
open Go.RowKit
attribute [local irreducible] Ex G GC GE Gq FPost LPost
set_option linter.unusedVariables false
set_option linter.unusedSimpArgs false
namespace tree
open path
/-- what look hands back -/
def lookP (T : Tr) (L : Nat → Loc) (rs : List Res) (v : Value) (give : List Res) : Lk → Prop
  | .err e => v = .tuple #[.nilIface, .pointer none, .int .i64 e] ∧ give = rs
  | .node i => v = .tuple #[val T L i, .pointer none, .int .i64 0] ∧ give = rs
  | .again on => ∃ ob oa oc, v = .tuple #[.nilIface, .pointer (some (badr ob 0)), .int .i64 0] ∧ give = .blk ob 43 [.slice oa on.length oc] :: .vec 9 1 oa on.length oc (flat eO on) :: rs
theorem take_snoc {names : List Nm} {i : Nat} (h : i < names.length) : names.take (i + 1) = names.take i ++ [names.getD i default] := by
  rw [List.take_succ_eq_append_getElem h, List.getD_eq_getElem?_getD, List.getElem?_eq_getElem h]; rfl
theorem drop_cons {names : List Nm} {i : Nat} (h : i < names.length) : names.drop i = names.getD i default :: names.drop (i + 1) := by
  rw [List.drop_eq_getElem_cons h, List.getD_eq_getElem?_getD, List.getElem?_eq_getElem h]; rfl
theorem flatO_drop (k : Nat) (l : List Nm) : (flat eO l).drop k = flat eO (l.drop k) := by
  have := flat_drop (inferInstance : Enc eO 1) l k
  rwa [Nat.mul_one] at this
theorem flatO_take (k : Nat) (l : List Nm) : (flat eO l).take k = flat eO (l.take k) := flat_takeO k l
theorem flatO_len (l : List Nm) : (flat eO l).length = l.length := by
  have := flat_len (inferInstance : Enc eO 1) l
  rwa [Nat.mul_one] at this
theorem goF_len (l o : List Nm) (h : o.length ≤ 12) : (goF o l).1.length ≤ 12 := by
  induction l generalizing o with
  | nil => exact h
  | cons p t ih =>
    rw [goF_cons]
    split
    · exact ih o h
    · split
      · exact ih _ (by rw [List.length_dropLast]; omega)
      · split
        · exact Nat.zero_le _
        · split
          · exact Nat.zero_le _
          · exact ih _ (by rw [List.length_append, List.length_singleton]; omega)
theorem followF_len (l : List Nm) (p : Nm) (h : l.length ≤ 12) : (followF l p).1.length ≤ 12 := by
  have hw : ∀ o : List Nm, o.length ≤ 12 → (walkF o p).1.length ≤ 12 := fun o ho => by
    unfold walkF
    split
    · exact Nat.zero_le _
    · exact goF_len _ _ ho
  unfold followF
  split
  · exact hw [] (Nat.zero_le _)
  · exact hw l h
set_option maxHeartbeats 8000000 in
theorem look_sp (T : Tr) (L : Nat → Loc) (bt : Nat) (k : TrOk T) (names : List Nm) (ao : Option Addr) (n c : Nat) (hn : names.length = n) (hk : NamesOk names) (follow loop : Bool) :
    Spec Tryz.prog 41 [ptr bt, .slice ao n c, .bool follow, .bool loop] [.per (TP T L bt), .sl ao n c 1 (flat eO names)] fun v give => lookP T L [.per (TP T L bt), .sl ao n c 1 (flat eO names)] v give (lookF T follow loop 0 [] names) := by
  obtain ⟨R, hR⟩ : ∃ R, lookF T follow loop 0 [] names = R := ⟨_, rfl⟩
  rw [hR]
  have h12 := hk.1
  refine Spec.intro Tryz.func41 rfl Tryz.ntmps41 rfl fun w0 rest rs_ hrs_ => ?_
  simp only [List.cons_append, List.nil_append] at hrs_
  subst hrs_
  repeat (first | (apply G.ex (hd := rfl); case h => (first | exact Ex.move rfl | exact Ex.nilCheck rfl | exact Ex.fieldB rfl | exact Ex.assign rfl)) | refine G.nil ?_ | refine GC.seq ?_ | refine GC.region ?_ | refine GE.then_normal ?_)
  refine G.ex (Ex.loadH rfl (tp_root (List.mem_cons_self ..))) rfl ?_
  repeat (first | (apply G.ex (hd := rfl); case h => (first | exact Ex.move rfl | exact Ex.lenSl rfl | exact Ex.assign rfl | exact Ex.mkIface rfl)) | refine G.nil ?_ | refine GC.seq ?_ | refine GC.region ?_ | refine GC.block ?_ | refine GE.then_normal ?_)
  obtain ⟨l0, hl0⟩ := k.root
  rw [← val_dir (L := L) hl0]
  refine GC.loop (ι := Nat × Nat) (fun x => x.1 ≤ n ∧ x.2 < T.ns.length ∧ lookF T follow loop x.2 (names.take x.1) (names.drop x.1) = R) (fun x => n - x.1) (fun x => [(0, ptr bt), (1, .slice ao n c), (2, .bool follow), (3, .bool loop), (26, .slice ao n c), (27, .int .i64 (n : Int)), (28, .int .i64 (x.1 : Int)), (11, val T L x.2)]) (fun _ => [.per (TP T L bt), .sl ao n c 1 (flat eO names)]) (0, 0) ⟨Nat.zero_le _, k.pos, hR⟩ (by simp only [fits]; repeat (first | exact trivial | refine And.intro rfl ?_)) (by repeat first | exact tn_ | apply td_ rfl | apply tc_ | exact .here | apply Take1.there) ?_
  rintro ⟨i, now⟩ ⟨hi, hnow, hR⟩ fr_ rs_ hfr_ hrs_
  simp only [List.cons_append, List.nil_append] at hfr_ hrs_
  subst hfr_ hrs_
  simp only at hi hnow hR
  by_cases hin : i < n
  · have hil : i < names.length := by omega
    rw [drop_cons hil] at hR
    have hts := take_snoc hil
    repeat (first | (apply G.ex (hd := rfl); case h => (first | exact Ex.move rfl | exact Ex.lss rfl rfl | exact Ex.indexN rfl rfl (by first | omega | (simp; done) | (simp; omega)) | exact Ex.loadT0 rfl (by first | omega | (simp; done) | (simp; omega)) rfl | exact Ex.assign rfl)) | refine G.nil ?_ | refine GC.seq ?_ | refine GC.region ?_ | refine GC.block ?_ | refine GC.skip ?_ | refine GE.then_normal ?_ | refine GC.cond_yes rfl (by first | assumption | omega) ?_)
    generalize hname : names.getD i default = name at hR hts ⊢
    cases hnd : T.nd now with
    | dir l =>
      rw [val_dir hnd]
      repeat (first | (apply G.ex (hd := rfl); case h => (first | exact Ex.move rfl | exact Ex.nilCheck rfl | exact Ex.fieldB rfl | exact Ex.extract rfl rfl | exact Ex.assign rfl | exact Ex.notB rfl | exact Ex.asYes rfl)) | refine G.nil ?_ | refine GC.seq ?_ | refine GC.region ?_ | refine GC.skip ?_ | refine GE.then_normal ?_ | refine GC.cond_f rfl ?_)
      refine G.ex (Ex.loadH rfl (tp_dir (List.mem_cons_self ..) hnd)) rfl ?_
      repeat (first | (apply G.ex (hd := rfl); case h => (first | exact Ex.move rfl)))
      cases he : ent l name with
      | none =>
        simp only [lookF, hnd, he] at hR
        subst hR
        refine G.ex (Ex.lookupN rfl rfl (tp_map (List.mem_cons_self ..) hnd) (look_none (val T L) 0 he)) rfl ?_
        repeat (first | (apply G.ex (hd := rfl); case h => (first | exact Ex.move rfl | exact Ex.extract rfl rfl | exact Ex.assign rfl | exact Ex.notB rfl)) | refine G.nil ?_ | refine GC.seq ?_ | refine GC.region ?_ | refine GC.ret ?_ | refine GE.then_normal ?_ | refine GE.then_ret ?_ | refine GE.block_ret ?_ | refine GC.cond_t rfl ?_)
        refine GE.ret (by first | exact .inl rfl | exact .inr rfl) (resR3 Tryz.results41 (RV.tmp rfl) (RV.tmp rfl) (RV.tmp rfl)) ⟨rfl, rfl⟩ (by repeat first | exact tn_ | apply td_ rfl | apply tc_ | exact .here | apply Take1.there) (by repeat (first | exact Subs.refl | refine Subs.skip ?_))
      | some nx =>
        obtain ⟨q, hq⟩ := look_some (val T L) he
        have hnx := (k.ins now l hnd _ _ (ent_mem he)).2.1
        refine G.ex (Ex.lookupS rfl rfl (tp_map (List.mem_cons_self ..) hnd) hq) rfl ?_
        repeat (first | (apply G.ex (hd := rfl); case h => (first | exact Ex.move rfl | exact Ex.extract rfl rfl | exact Ex.assign rfl | exact Ex.notB rfl)) | refine G.nil ?_ | refine GC.seq ?_ | refine GC.region ?_ | refine GC.skip ?_ | refine GE.then_normal ?_ | refine GC.cond_f rfl ?_)
        cases hx : T.nd nx with
        | dir l2 =>
          simp only [lookF, hnd, he, hx] at hR
          rw [val_dir hx]
          repeat (first | (apply G.ex (hd := rfl); case h => (first | exact Ex.move rfl | exact Ex.add rfl rfl (by omega) | exact Ex.extract rfl rfl | exact Ex.assign rfl | exact Ex.pickLF rfl rfl | exact Ex.asNo rfl rfl)) | refine G.g_un rfl rfl rfl ?_ | refine G.l_tf rfl rfl rfl ?_ | refine G.nil ?_ | refine GC.seq ?_ | refine GC.region ?_ | refine GC.skip ?_ | refine GE.then_normal ?_ | refine GE.block_normal ?_ | refine GC.cond_f rfl ?_)
          rw [← val_dir (L := L) hx]
          repeat (first | fail)
          rw [show (i : Int) + 1 = ((i + 1 : Nat) : Int) by omega]
          refine GE.loop (i + 1, nx) ⟨by omega, hnx, by rw [hts]; exact hR⟩ (by simp only; omega) (by simp only [fits]; repeat (first | exact trivial | refine And.intro rfl ?_)) (by repeat first | exact tn_ | apply td_ rfl | apply tc_ | exact .here | apply Take1.there) (by repeat (first | exact Subs.refl | refine Subs.skip ?_))
        | file d =>
          simp only [lookF, hnd, he, hx] at hR
          rw [val_file hx]
          repeat (first | (apply G.ex (hd := rfl); case h => (first | exact Ex.move rfl | exact Ex.add rfl rfl (by omega) | exact Ex.extract rfl rfl | exact Ex.assign rfl | exact Ex.pickLF rfl rfl | exact Ex.asNo rfl rfl)) | refine G.g_un rfl rfl rfl ?_ | refine G.l_tf rfl rfl rfl ?_ | refine G.nil ?_ | refine GC.seq ?_ | refine GC.region ?_ | refine GC.skip ?_ | refine GE.then_normal ?_ | refine GE.block_normal ?_ | refine GC.cond_f rfl ?_)
          rw [← val_file (L := L) hx]
          repeat (first | fail)
          rw [show (i : Int) + 1 = ((i + 1 : Nat) : Int) by omega]
          refine GE.loop (i + 1, nx) ⟨by omega, hnx, by rw [hts]; exact hR⟩ (by simp only; omega) (by simp only [fits]; repeat (first | exact trivial | refine And.intro rfl ?_)) (by repeat first | exact tn_ | apply td_ rfl | apply tc_ | exact .here | apply Take1.there) (by repeat (first | exact Subs.refl | refine Subs.skip ?_))
        | link to =>
          simp only [lookF, hnd, he, hx] at hR
          have hto := k.link nx to hx
          rw [val_link hx]
          repeat ((fail_if_success (refine GC.region (id := 12) ?_)); first | (apply G.ex (hd := rfl); case h => (first | exact Ex.move rfl | exact Ex.extract rfl rfl | exact Ex.assign rfl | exact Ex.asYes rfl)) | refine G.nil ?_ | refine GC.seq ?_ | refine GE.then_normal ?_)
          refine GC.meet (ι := Unit) (fun _ => True) (fun _ => [(0, ptr bt), (1, .slice ao n c), (2, .bool follow), (3, .bool loop), (12, .int .i64 (i : Int)), (16, .iface 94 (ptr (L nx).b)), (17, ptr (L nx).b), (26, .slice ao n c), (27, .int .i64 (n : Int)), (28, .int .i64 (i : Int)), (66, .bool (decide (follow = true ∨ i + 1 < n)))]) (fun _ => [.per (TP T L bt), .sl ao n c 1 (flat eO names)]) rest ?_ ?_
          · cases follow with
            | true =>
              repeat (first | (apply G.ex (hd := rfl); case h => (first | exact Ex.move rfl | exact Ex.pickLT rfl rfl)) | refine G.yes rfl rfl ?_ | refine G.l_ft rfl rfl rfl ?_ | refine G.nil ?_ | refine GC.region ?_)
              rw [show true = decide (true = true ∨ i + 1 < n) from (decide_eq_true (.inl rfl)).symm]
              refine GE.meet () trivial (by simp only [fits]; repeat (first | exact trivial | refine And.intro rfl ?_)) (by repeat first | exact tn_ | apply td_ rfl | apply tc_ | exact .here | apply Take1.there) (by repeat (first | exact Subs.refl | refine Subs.skip ?_))
            | false =>
              repeat (first | (apply G.ex (hd := rfl); case h => (first | exact Ex.move rfl | exact Ex.add rfl rfl (by omega) | exact Ex.lss rfl rfl | exact Ex.lenSl rfl | exact Ex.pickLT rfl rfl | exact Ex.pickLF rfl rfl)) | refine G.yes rfl rfl ?_ | refine G.nil ?_ | refine GC.region ?_)
              rw [show decide ((i : Int) + 1 < (n : Int)) = decide (false = true ∨ i + 1 < n) from decide_eq_decide.2 ⟨fun h => .inr (by omega), fun h => by rcases h with h | h; exact nomatch h; omega⟩]
              refine GE.meet () trivial (by simp only [fits]; repeat (first | exact trivial | refine And.intro rfl ?_)) (by repeat first | exact tn_ | apply td_ rfl | apply tc_ | exact .here | apply Take1.there) (by repeat (first | exact Subs.refl | refine Subs.skip ?_))
          · rintro u - fr_ rs_ hfr_ hrs_
            simp only [List.cons_append, List.nil_append] at hfr_ hrs_
            subst hfr_ hrs_
            have hiff : (follow = true ∨ ¬ names.drop (i + 1) = []) ↔ (follow = true ∨ i + 1 < n) := by
              rw [List.drop_eq_nil_iff]
              constructor
              · rintro (h | h)
                · exact .inl h
                · exact .inr (by omega)
              · rintro (h | h)
                · exact .inl h
                · exact .inr (by omega)
            by_cases hy : follow = true ∨ i + 1 < n
            · have hy2 := hiff.2 hy
              rw [if_pos hy2] at hR
              cases loop with
              | true =>
                rw [if_pos rfl] at hR
                subst hR
                repeat (first | (apply G.ex (hd := rfl); case h => (first | exact Ex.move rfl | exact Ex.assign rfl)) | refine G.nil ?_ | refine GC.seq ?_ | refine GC.region ?_ | refine GC.ret ?_ | refine GE.then_normal ?_ | refine GE.then_ret ?_ | refine GE.block_ret ?_ | refine GC.cond_yes rfl (by first | assumption | omega) ?_ | refine GC.cond_t rfl ?_)
                refine GE.ret (by first | exact .inl rfl | exact .inr rfl) (resR3 Tryz.results41 (RV.tmp rfl) (RV.tmp rfl) (RV.tmp rfl)) ⟨rfl, rfl⟩ (by repeat first | exact tn_ | apply td_ rfl | apply tc_ | exact .here | apply Take1.there) (by repeat (first | exact Subs.refl | refine Subs.skip ?_))
              | false =>
                rw [if_neg (fun h => nomatch h)] at hR
                have hki : NamesOk (names.take i) := ⟨by rw [List.length_take]; omega, fun s hs => hk.2 s (List.mem_of_mem_take hs)⟩
                obtain ⟨on, e, hon⟩ : ∃ on e, followF (names.take i) to = (on, e) := ⟨_, _, rfl⟩
                simp only [hon] at hR
                have hc1 : ((flat eO names).drop (0 * 1)).take ((i - 0) * 1) = flat eO (names.take i) := by rw [Nat.zero_mul, List.drop_zero, Nat.sub_zero, Nat.mul_one]; exact flatO_take _ _
                have hc2 : ((flat eO names).drop ((i + 1) * 1)).take ((n - (i + 1)) * 1) = flat eO (names.drop (i + 1)) := by rw [Nat.mul_one, Nat.mul_one, flatO_drop, List.take_of_length_le (by rw [flatO_len, List.length_drop]; omega)]
                have hli : (names.take i).length = i - 0 := by rw [List.length_take]; omega
                repeat ((fail_if_success (refine GC.region (id := 15) ?_)); first | (apply G.ex (hd := rfl); case h => (first | exact Ex.move rfl)) | refine G.nil ?_ | refine GC.seq ?_ | refine GC.region ?_ | refine GC.skip ?_ | refine GE.then_normal ?_ | refine GC.cond_yes rfl (by first | assumption | omega) ?_ | refine GC.cond_f rfl ?_)
                refine GC.len ao (m := n) (c := c) fun ⟨_, hnc, _⟩ => ?_
                refine GC.conv (fun w_ H_ => Holds.slSub 0 i (by omega) (by omega) (H_.take (need := [.sl ao n c 1 (flat eO names)]) (by repeat first | exact tn_ | apply td_ rfl | apply tc_ | exact .here | apply Take1.there))) ?_
                try simp only [List.append_eq, List.nil_append, List.cons_append]
                rw [hc1]
                refine GC.conv (fun w_ H_ => Holds.slSub (i + 1) n (by omega) (Nat.le_refl _) (H_.take (need := [.sl ao n c 1 (flat eO names)]) (by repeat first | exact tn_ | apply td_ rfl | apply tc_ | exact .here | apply Take1.there))) ?_
                try simp only [List.append_eq, List.nil_append, List.cons_append]
                rw [hc2]
                refine GC.meet (ι := Nat × Option Addr × Nat) (fun _ => True) (fun x => [(0, ptr bt), (1, .slice ao n c), (12, .int .i64 (i : Int)), (19, ptr x.1), (20, .int .i64 e)]) (fun x => [.blk x.1 43 [.slice x.2.1 on.length x.2.2], .vec 9 1 x.2.1 on.length x.2.2 (flat eO on), .per (TP T L bt), .sl ao n c 1 (flat eO names), .sl (subA ao c (i + 1) 1) (n - (i + 1)) (c - (i + 1)) 1 (flat eO (names.drop (i + 1)))]) rest ?_ ?_
                · refine GC.drawA [] [.per (TP T L bt)] (by repeat first | exact tn_ | apply td_ rfl | apply tc_ | exact .here | apply Take1.there) (by kernel_rfl) ?_
                  first | (apply GA.take [] (hD := .inl rfl) (hsub := ⟨_, Takes.nil⟩) (i := 0) (hi := rfl) (hs := by kernel_rfl) (hfr := by kernel_rfl) (hr := by kernel_rfl) (hQ := np_) (hd := rfl); case hx => (first | exact Ex.move rfl))
                  first | (apply GA.take [] (hD := .inl rfl) (hsub := ⟨_, Takes.nil⟩) (i := 1) (hi := rfl) (hs := by kernel_rfl) (hfr := by kernel_rfl) (hr := by kernel_rfl) (hQ := np_) (hd := rfl); case hx => (first | exact Ex.move rfl))
                  first | (apply GA.take [] (hD := .inl rfl) (hsub := ⟨_, Takes.nil⟩) (i := 2) (hi := rfl) (hs := by kernel_rfl) (hfr := by kernel_rfl) (hr := by kernel_rfl) (hQ := np_) (hd := rfl); case hx => (first | exact Ex.slHi rfl rfl (by omega)))
                  first | (apply GA.take [] (hD := .inl rfl) (hsub := ⟨_, Takes.nil⟩) (i := 3) (hi := rfl) (hs := by kernel_rfl) (hfr := by kernel_rfl) (hr := by kernel_rfl) (hQ := np_) (hd := rfl); case hx => (first | exact Ex.move rfl))
                  first | (apply GA.take [] (hD := .inl rfl) (hsub := ⟨_, Takes.nil⟩) (i := 4) (hi := rfl) (hs := by kernel_rfl) (hfr := by kernel_rfl) (hr := by kernel_rfl) (hQ := np_) (hd := rfl); case hx => (first | exact Ex.nilCheck rfl))
                  first | (apply GA.take [] (hD := .inl rfl) (hsub := ⟨_, Takes.nil⟩) (i := 5) (hi := rfl) (hs := by kernel_rfl) (hfr := by kernel_rfl) (hr := by kernel_rfl) (hQ := np_) (hd := rfl); case hx => (first | exact Ex.fieldB rfl))
                  apply GA.take _ (hD := .inr ⟨rfl, by kernel_rfl⟩) (hsub := ⟨_, (by repeat first | exact tn_ | apply td_ rfl | apply tc_ | exact .here | apply Take1.there)⟩) (i := 6) (hi := rfl) (hs := by kernel_rfl) (hfr := by kernel_rfl) (hr := by kernel_rfl) (hQ := np_) (hd := rfl) (hx := (Ex.loadH rfl (tp_link (List.mem_singleton.2 rfl) hnx hx)))
                  refine GA.two (i := 7) (j := 11) (by kernel_rfl) rfl rfl ?_ ?_
                  · first | refine G.call (caps := []) (follow_at (.sl (subA ao c 0 1) (i - 0) (c - 0) 1 (flat eO (names.take i))) (subA ao c 0 1) (i - 0) (c - 0) (names.take i) hli hki to (by omega) on e hon) rfl rfl rfl rfl (by repeat first | exact tn_ | apply td_ rfl | apply tc_ | exact .here | apply Take1.there) ?_ | refine G.callU (caps := []) (follow_at (.sl (subA ao c 0 1) (i - 0) (c - 0) 1 (flat eO (names.take i))) (subA ao c 0 1) (i - 0) (c - 0) (names.take i) hli hki to (by omega) on e hon) rfl rfl rfl (by repeat first | exact tn_ | apply td_ rfl | apply tc_ | exact .here | apply Take1.there) ?_
                    rintro v_ give_ ⟨oa, oc, rfl, hon12, rfl⟩ rs_ hrs_
                    simp only [List.cons_append, List.nil_append] at hrs_
                    subst hrs_
                    try refine G.nil ?_
                    refine GA.back (by first | exact .inl (by decide) | exact .inr ⟨_, (by repeat first | exact tn_ | apply td_ rfl | apply tc_ | exact .here | apply Take1.there)⟩) ?_
                    first | (apply GA.take [] (hD := .inl rfl) (hsub := ⟨_, Takes.nil⟩) (i := 8) (hi := rfl) (hs := by kernel_rfl) (hfr := by kernel_rfl) (hr := by kernel_rfl) (hQ := np_) (hd := rfl); case hx => (first | exact Ex.move rfl))
                    first | (apply GA.take [] (hD := .inl rfl) (hsub := ⟨_, Takes.nil⟩) (i := 9) (hi := rfl) (hs := by kernel_rfl) (hfr := by kernel_rfl) (hr := by kernel_rfl) (hQ := np_) (hd := rfl); case hx => (first | exact Ex.extract rfl rfl))
                    first | (apply GA.take [] (hD := .inl rfl) (hsub := ⟨_, Takes.nil⟩) (i := 10) (hi := rfl) (hs := by kernel_rfl) (hfr := by kernel_rfl) (hr := by kernel_rfl) (hQ := np_) (hd := rfl); case hx => (first | exact Ex.extract rfl rfl))
                    refine GA.one (i := 11) (by kernel_rfl) rfl ?_
                    refine G.alloc rfl (fun ob => ?_)
                    try refine G.nil ?_
                    refine GA.back (by first | exact .inl (by decide) | exact .inr ⟨_, (by repeat first | exact tn_ | apply td_ rfl | apply tc_ | exact .here | apply Take1.there)⟩) ?_
                    refine GA.one (i := 12) (by kernel_rfl) rfl ?_
                    repeat (first | refine G.storeB rfl rfl rfl rfl rfl ?_ | refine G.nil ?_)
                    try refine G.nil ?_
                    refine GA.back (by first | exact .inl (by decide) | exact .inr ⟨_, (by repeat first | exact tn_ | apply td_ rfl | apply tc_ | exact .here | apply Take1.there)⟩) ?_
                    first | (apply GA.take [] (hD := .inl rfl) (hsub := ⟨_, Takes.nil⟩) (i := 13) (hi := rfl) (hs := by kernel_rfl) (hfr := by kernel_rfl) (hr := by kernel_rfl) (hQ := np_) (hd := rfl); case hx => (first | exact Ex.assign rfl))
                    refine GA.done (by kernel_rfl) ?_
                    refine GE.meet (ob, oa, oc) trivial (by simp only [fits]; repeat (first | exact trivial | refine And.intro rfl ?_)) (by repeat first | exact tn_ | apply td_ rfl | apply tc_ | exact .here | apply Take1.there) (by repeat (first | exact Subs.refl | refine Subs.skip ?_))
                  · refine G.alloc rfl (fun ob => ?_)
                    try refine G.nil ?_
                    refine GA.back (by first | exact .inl (by decide) | exact .inr ⟨_, (by repeat first | exact tn_ | apply td_ rfl | apply tc_ | exact .here | apply Take1.there)⟩) ?_
                    refine GA.one (i := 7) (by kernel_rfl) rfl ?_
                    first | refine G.call (caps := []) (follow_at (.sl (subA ao c 0 1) (i - 0) (c - 0) 1 (flat eO (names.take i))) (subA ao c 0 1) (i - 0) (c - 0) (names.take i) hli hki to (by omega) on e hon) rfl rfl rfl rfl (by repeat first | exact tn_ | apply td_ rfl | apply tc_ | exact .here | apply Take1.there) ?_ | refine G.callU (caps := []) (follow_at (.sl (subA ao c 0 1) (i - 0) (c - 0) 1 (flat eO (names.take i))) (subA ao c 0 1) (i - 0) (c - 0) (names.take i) hli hki to (by omega) on e hon) rfl rfl rfl (by repeat first | exact tn_ | apply td_ rfl | apply tc_ | exact .here | apply Take1.there) ?_
                    rintro v_ give_ ⟨oa, oc, rfl, hon12, rfl⟩ rs_ hrs_
                    simp only [List.cons_append, List.nil_append] at hrs_
                    subst hrs_
                    try refine G.nil ?_
                    refine GA.back (by first | exact .inl (by decide) | exact .inr ⟨_, (by repeat first | exact tn_ | apply td_ rfl | apply tc_ | exact .here | apply Take1.there)⟩) ?_
                    first | (apply GA.take [] (hD := .inl rfl) (hsub := ⟨_, Takes.nil⟩) (i := 8) (hi := rfl) (hs := by kernel_rfl) (hfr := by kernel_rfl) (hr := by kernel_rfl) (hQ := np_) (hd := rfl); case hx => (first | exact Ex.move rfl))
                    first | (apply GA.take [] (hD := .inl rfl) (hsub := ⟨_, Takes.nil⟩) (i := 9) (hi := rfl) (hs := by kernel_rfl) (hfr := by kernel_rfl) (hr := by kernel_rfl) (hQ := np_) (hd := rfl); case hx => (first | exact Ex.extract rfl rfl))
                    first | (apply GA.take [] (hD := .inl rfl) (hsub := ⟨_, Takes.nil⟩) (i := 10) (hi := rfl) (hs := by kernel_rfl) (hfr := by kernel_rfl) (hr := by kernel_rfl) (hQ := np_) (hd := rfl); case hx => (first | exact Ex.extract rfl rfl))
                    refine GA.one (i := 12) (by kernel_rfl) rfl ?_
                    repeat (first | refine G.storeB rfl rfl rfl rfl rfl ?_ | refine G.nil ?_)
                    try refine G.nil ?_
                    refine GA.back (by first | exact .inl (by decide) | exact .inr ⟨_, (by repeat first | exact tn_ | apply td_ rfl | apply tc_ | exact .here | apply Take1.there)⟩) ?_
                    first | (apply GA.take [] (hD := .inl rfl) (hsub := ⟨_, Takes.nil⟩) (i := 13) (hi := rfl) (hs := by kernel_rfl) (hfr := by kernel_rfl) (hr := by kernel_rfl) (hQ := np_) (hd := rfl); case hx => (first | exact Ex.assign rfl))
                    refine GA.done (by kernel_rfl) ?_
                    refine GE.meet (ob, oa, oc) trivial (by simp only [fits]; repeat (first | exact trivial | refine And.intro rfl ?_)) (by repeat first | exact tn_ | apply td_ rfl | apply tc_ | exact .here | apply Take1.there) (by repeat (first | exact Subs.refl | refine Subs.skip ?_))
                · rintro ⟨ob, oa, oc⟩ - fr_ rs_ hfr_ hrs_
                  simp only [List.cons_append, List.nil_append] at hfr_ hrs_
                  subst hfr_ hrs_
                  by_cases he0 : e = 0
                  · subst he0
                    rw [if_neg (fun h => h rfl)] at hR
                    have hcat : flat eO on ++ flat eO (names.drop (i + 1)) = flat eO (on ++ names.drop (i + 1)) := (flat_append ..).symm
                    have hlen : on.length + (n - (i + 1)) = (on ++ names.drop (i + 1)).length := by rw [List.length_append, List.length_drop]; omega
                    have hon12 : on.length ≤ 12 := by
                      have := followF_len (names.take i) to hki.1
                      rw [hon] at this; exact this
                    repeat ((fail_if_success (refine GC.region (id := 18) ?_)); first | (apply G.ex (hd := rfl); case h => (first | exact Ex.move rfl | exact Ex.neI rfl rfl)) | refine G.nil ?_ | refine GC.seq ?_ | refine GC.region ?_ | refine GC.skip ?_ | refine GE.then_normal ?_ | refine GC.cond_no rfl (by first | assumption | omega) ?_)
                    refine GC.len ao (m := n) (c := c) fun ⟨_, hnc, _⟩ => ?_
                    refine GC.drawA [6] [.blk ob 43 [.slice oa on.length oc]] (by repeat first | exact tn_ | apply td_ rfl | apply tc_ | exact .here | apply Take1.there) (by kernel_rfl) ?_
                    first | (apply GA.take _ (hD := .inr ⟨rfl, by kernel_rfl⟩) (hsub := ⟨_, (by repeat first | exact tn_ | apply td_ rfl | apply tc_ | exact .here | apply Take1.there)⟩) (i := 0) (hi := rfl) (hs := by kernel_rfl) (hfr := by kernel_rfl) (hr := by kernel_rfl) (hQ := np_) (hd := rfl); case hx => (first | exact Ex.loadB rfl rfl))
                    first | (apply GA.take [] (hD := .inl rfl) (hsub := ⟨_, Takes.nil⟩) (i := 1) (hi := rfl) (hs := by kernel_rfl) (hfr := by kernel_rfl) (hr := by kernel_rfl) (hQ := np_) (hd := rfl); case hx => (first | exact Ex.move rfl))
                    first | (apply GA.take [] (hD := .inl rfl) (hsub := ⟨_, Takes.nil⟩) (i := 2) (hi := rfl) (hs := by kernel_rfl) (hfr := by kernel_rfl) (hr := by kernel_rfl) (hQ := np_) (hd := rfl); case hx => (first | exact Ex.move rfl))
                    first | (apply GA.take [] (hD := .inl rfl) (hsub := ⟨_, Takes.nil⟩) (i := 3) (hi := rfl) (hs := by kernel_rfl) (hfr := by kernel_rfl) (hr := by kernel_rfl) (hQ := np_) (hd := rfl); case hx => (first | exact Ex.add rfl rfl (by omega)))
                    rw [show (i : Int) + 1 = ((i + 1 : Nat) : Int) by omega]
                    first | (apply GA.take [] (hD := .inl rfl) (hsub := ⟨_, Takes.nil⟩) (i := 4) (hi := rfl) (hs := by kernel_rfl) (hfr := by kernel_rfl) (hr := by kernel_rfl) (hQ := np_) (hd := rfl); case hx => (first | exact Ex.slLo rfl rfl (by omega)))
                    refine GA.one (i := 5) (by kernel_rfl) rfl ?_
                    refine G.app rfl rfl (by rfl) (by omega) rfl (hcat) (fun a2 c2 rs_ hrs_ => ?_)
                    try simp only at hrs_
                    subst hrs_
                    rw [hlen]
                    try refine G.nil ?_
                    refine GA.back (by first | exact .inl (by decide) | exact .inr ⟨_, (by repeat first | exact tn_ | apply td_ rfl | apply tc_ | exact .here | apply Take1.there)⟩) ?_
                    refine GA.one (i := 6) (by kernel_rfl) rfl ?_
                    repeat (first | refine G.storeB rfl rfl rfl rfl rfl ?_ | refine G.nil ?_)
                    try refine G.nil ?_
                    refine GA.back (by first | exact .inl (by decide) | exact .inr ⟨_, (by repeat first | exact tn_ | apply td_ rfl | apply tc_ | exact .here | apply Take1.there)⟩) ?_
                    refine GA.done (by kernel_rfl) ?_
                    rw [← List.length_append] at hR
                    by_cases h9 : 12 < (on ++ names.drop (i + 1)).length
                    · rw [if_pos h9] at hR
                      subst hR
                      repeat (first | (apply G.ex (hd := rfl); case h => (first | exact Ex.loadB rfl rfl | exact Ex.gtr rfl rfl | exact Ex.lenSl rfl | exact Ex.assign rfl)) | refine G.nil ?_ | refine GC.seq ?_ | refine GC.region ?_ | refine GC.ret ?_ | refine GE.then_normal ?_ | refine GE.then_ret ?_ | refine GE.block_ret ?_ | refine GC.cond_yes rfl (by first | assumption | omega) ?_)
                      refine GE.ret (by first | exact .inl rfl | exact .inr rfl) (resR3 Tryz.results41 (RV.tmp rfl) (RV.tmp rfl) (RV.tmp rfl)) ⟨rfl, rfl⟩ (by repeat first | exact tn_ | apply td_ rfl | apply tc_ | exact .here | apply Take1.there) (by repeat (first | exact Subs.refl | refine Subs.skip ?_))
                    · rw [if_neg h9] at hR
                      subst hR
                      repeat (first | (apply G.ex (hd := rfl); case h => (first | exact Ex.loadB rfl rfl | exact Ex.gtr rfl rfl | exact Ex.lenSl rfl | exact Ex.assign rfl)) | refine G.nil ?_ | refine GC.seq ?_ | refine GC.region ?_ | refine GC.skip ?_ | refine GC.ret ?_ | refine GE.then_normal ?_ | refine GE.then_ret ?_ | refine GE.block_ret ?_ | refine GC.cond_no rfl (by first | assumption | omega) ?_)
                      refine GE.ret (by first | exact .inl rfl | exact .inr rfl) (resR3 Tryz.results41 (RV.tmp rfl) (RV.tmp rfl) (RV.tmp rfl)) ⟨ob, a2, c2, rfl, rfl⟩ (by repeat first | exact tn_ | apply td_ rfl | apply tc_ | exact .here | apply Take1.there) (by repeat (first | exact Subs.refl | refine Subs.skip ?_))
                  · rw [if_pos he0] at hR
                    subst hR
                    repeat (first | (apply G.ex (hd := rfl); case h => (first | exact Ex.move rfl | exact Ex.neI rfl rfl | exact Ex.assign rfl)) | refine G.nil ?_ | refine GC.seq ?_ | refine GC.region ?_ | refine GC.ret ?_ | refine GE.then_normal ?_ | refine GE.then_ret ?_ | refine GE.block_ret ?_ | refine GC.cond_yes rfl (by first | assumption | omega) ?_)
                    refine GE.ret (by first | exact .inl rfl | exact .inr rfl) (resR3 Tryz.results41 (RV.tmp rfl) (RV.tmp rfl) (RV.tmp rfl)) ⟨rfl, rfl⟩ (by repeat first | exact tn_ | apply td_ rfl | apply tc_ | exact .here | apply Take1.there) (by repeat (first | exact Subs.refl | refine Subs.skip ?_))
            · have hy2 : ¬ (follow = true ∨ ¬ names.drop (i + 1) = []) := fun h => hy (hiff.1 h)
              rw [if_neg hy2] at hR
              rw [← val_link (L := L) hx]
              repeat (first | (apply G.ex (hd := rfl); case h => (first | exact Ex.move rfl | exact Ex.add rfl rfl (by omega) | exact Ex.assign rfl)) | refine G.nil ?_ | refine GC.region ?_ | refine GC.skip ?_ | refine GE.then_normal ?_ | refine GE.block_normal ?_ | refine GC.cond_no rfl (by first | assumption | omega) ?_)
              rw [show (i : Int) + 1 = ((i + 1 : Nat) : Int) by omega]
              refine GE.loop (i + 1, nx) ⟨by omega, hnx, by rw [hts]; exact hR⟩ (by simp only; omega) (by simp only [fits]; repeat (first | exact trivial | refine And.intro rfl ?_)) (by repeat first | exact tn_ | apply td_ rfl | apply tc_ | exact .here | apply Take1.there) (by repeat (first | exact Subs.refl | refine Subs.skip ?_))
    | file d =>
      simp only [lookF, hnd] at hR
      subst hR
      rw [val_file hnd]
      repeat (first | (apply G.ex (hd := rfl); case h => (first | exact Ex.move rfl | exact Ex.extract rfl rfl | exact Ex.assign rfl | exact Ex.notB rfl | exact Ex.asNo rfl rfl)) | refine G.nil ?_ | refine GC.seq ?_ | refine GC.region ?_ | refine GC.ret ?_ | refine GE.then_normal ?_ | refine GE.then_ret ?_ | refine GE.block_ret ?_ | refine GC.cond_t rfl ?_)
      refine GE.ret (by first | exact .inl rfl | exact .inr rfl) (resR3 Tryz.results41 (RV.tmp rfl) (RV.tmp rfl) (RV.tmp rfl)) ⟨rfl, rfl⟩ (by repeat first | exact tn_ | apply td_ rfl | apply tc_ | exact .here | apply Take1.there) (by repeat (first | exact Subs.refl | refine Subs.skip ?_))
    | link to =>
      simp only [lookF, hnd] at hR
      subst hR
      rw [val_link hnd]
      repeat (first | (apply G.ex (hd := rfl); case h => (first | exact Ex.move rfl | exact Ex.extract rfl rfl | exact Ex.assign rfl | exact Ex.notB rfl | exact Ex.asNo rfl rfl)) | refine G.nil ?_ | refine GC.seq ?_ | refine GC.region ?_ | refine GC.ret ?_ | refine GE.then_normal ?_ | refine GE.then_ret ?_ | refine GE.block_ret ?_ | refine GC.cond_t rfl ?_)
      refine GE.ret (by first | exact .inl rfl | exact .inr rfl) (resR3 Tryz.results41 (RV.tmp rfl) (RV.tmp rfl) (RV.tmp rfl)) ⟨rfl, rfl⟩ (by repeat first | exact tn_ | apply td_ rfl | apply tc_ | exact .here | apply Take1.there) (by repeat (first | exact Subs.refl | refine Subs.skip ?_))
  · rw [List.drop_of_length_le (by omega)] at hR
    have hR2 : R = .node now := hR.symm
    subst hR2
    repeat (first | (apply G.ex (hd := rfl); case h => (first | exact Ex.move rfl | exact Ex.lss rfl rfl | exact Ex.assign rfl)) | refine G.nil ?_ | refine GC.seq ?_ | refine GC.region ?_ | refine GC.ret ?_ | refine GC.exit ?_ | refine GE.then_normal ?_ | refine GE.then_exit ?_ | refine GE.block_hit ?_ | refine GC.cond_no rfl (by first | assumption | omega) ?_)
    refine GE.ret (by first | exact .inl rfl | exact .inr rfl) (resR3 Tryz.results41 (RV.tmp rfl) (RV.tmp rfl) (RV.tmp rfl)) ⟨rfl, rfl⟩ (by repeat first | exact tn_ | apply td_ rfl | apply tc_ | exact .here | apply Take1.there) (by repeat (first | exact Subs.refl | refine Subs.skip ?_))
theorem follow_ok {l : List Nm} {p : Nm} {a : List Nm} (hl : NamesOk l) (h : followF l p = (a, 0)) : NamesOk a := by
  have hw : ∀ o : List Nm, NamesOk o → walkF o p = (a, 0) → NamesOk a := fun o ho h => by
    unfold walkF at h
    split at h
    · exact absurd (show (1 : Int) = 0 from congrArg Prod.snd h) (by decide)
    · exact goF_ok o _ _ ho h
  unfold followF at h
  split at h
  · exact hw [] ⟨by decide, fun s hs => nomatch hs⟩ h
  · exact hw l hl h
theorem look_again {T : Tr} {follow loop : Bool} : ∀ {rest pre : List Nm} {now : Nat} {on : List Nm}, NamesOk (pre ++ rest) → lookF T follow loop now pre rest = .again on → loop = false ∧ NamesOk on
  | [], pre, now, on, _, h => nomatch h
  | name :: rest, pre, now, on, hk, h => by
    have hk2 : NamesOk ((pre ++ [name]) ++ rest) := by rw [List.append_assoc]; exact hk
    unfold lookF at h
    split at h
    · split at h
      · exact nomatch h
      · split at h
        · split at h
          · split at h
            · exact nomatch h
            · rename_i c1
              split at h
              · exact nomatch h
              · rename_i c2
                split at h
                · exact nomatch h
                · rename_i c3
                  obtain rfl := Lk.again.inj h
                  have hp : NamesOk pre := ⟨by have := hk.1; rw [List.length_append] at this; omega, fun s hs => hk.2 s (List.mem_append_left _ hs)⟩
                  have hf := follow_ok hp (Prod.ext rfl (Decidable.not_not.1 c2) : followF pre _ = ((followF pre _).1, 0))
                  refine ⟨by cases loop; rfl; exact absurd rfl c1, by rw [List.length_append]; omega, fun s hs => ?_⟩
                  rcases List.mem_append.1 hs with hs | hs
                  · exact hf.2 s hs
                  · exact hk.2 s (List.mem_append_right _ (List.mem_cons_of_mem _ hs))
          · exact look_again hk2 h
        · exact look_again hk2 h
    · exact nomatch h
/-- what find hands back -/
def fv (T : Tr) (L : Nat → Loc) (p : Int × Nat) : Value := if p.1 = 0 then val T L p.2 else .nilIface
set_option maxHeartbeats 4000000 in
theorem find_sp (T : Tr) (L : Nat → Loc) (bt : Nat) (k : TrOk T) (names : List Nm) (ao : Option Addr) (n c : Nat) (hn : names.length = n) (hk : NamesOk names) (follow : Bool) :
    Spec Tryz.prog 33 [ptr bt, .slice ao n c, .bool follow] [.per (TP T L bt), .sl ao n c 1 (flat eO names)] fun v give => v = .tuple #[fv T L (T.find names follow), .int .i64 (T.find names follow).1] ∧ give = [.per (TP T L bt), .sl ao n c 1 (flat eO names)] := by
  obtain ⟨F, hF⟩ : ∃ F, T.find names follow = F := ⟨_, rfl⟩
  rw [hF]
  refine Spec.intro Tryz.func33 rfl Tryz.ntmps33 rfl fun w0 rest rs_ hrs_ => ?_
  simp only [List.cons_append, List.nil_append] at hrs_
  subst hrs_
  repeat (first | (apply G.ex (hd := rfl); case h => (first | exact Ex.assign rfl)) | refine G.nil ?_ | refine GC.seq ?_ | refine GC.region ?_ | refine GC.block ?_ | refine GE.then_normal ?_)
  refine GC.loop (ι := Nat × List Nm × Option Addr × Nat × Nat) (fun x => x.1 ≤ 8 ∧ NamesOk x.2.1 ∧ x.2.1.length = x.2.2.2.1 ∧ findF T follow (8 - x.1) x.2.1 = F) (fun x => 8 - x.1) (fun x => [(0, ptr bt), (1, .slice x.2.2.1 x.2.2.2.1 x.2.2.2.2), (2, .bool follow), (8, .int .i64 (x.1 : Int))]) (fun x => [.per (TP T L bt), .sl ao n c 1 (flat eO names), .sl x.2.2.1 x.2.2.2.1 x.2.2.2.2 1 (flat eO x.2.1)]) (0, names, ao, n, c) ⟨Nat.zero_le _, hk, hn, hF⟩ (by simp only [fits]; repeat (first | exact trivial | refine And.intro rfl ?_)) (by repeat first | exact tn_ | apply td_ rfl | apply tc_ | exact .here | apply Take1.there) ?_
  rintro ⟨q, l, la, ln, lc⟩ ⟨hq, hkl, hll, hfl⟩ fr_ rs_ hfr_ hrs_
  simp only [List.cons_append, List.nil_append] at hfr_ hrs_
  subst hfr_ hrs_
  simp only at hq hkl hll hfl
  obtain ⟨lp, hlp⟩ : ∃ lp, decide ((q : Int) = 8) = lp := ⟨_, rfl⟩
  have S := look_sp T L bt k l la ln lc hll hkl follow lp
  have hne : ∀ e, lookF T follow lp 0 [] l = .err e → F = (e, 0) := fun e he => by
    by_cases h8 : q = 8
    · subst h8
      rw [show lp = true from hlp.symm.trans (decide_eq_true rfl)] at he
      rw [← hfl]; show findF T follow 0 l = _; unfold findF; rw [he]
    · rw [show lp = false from hlp.symm.trans (decide_eq_false (by omega))] at he
      rw [← hfl, show 8 - q = (7 - q) + 1 by omega]; unfold findF; rw [he]
  have hnn : ∀ i, lookF T follow lp 0 [] l = .node i → F = (0, i) := fun e he => by
    by_cases h8 : q = 8
    · subst h8
      rw [show lp = true from hlp.symm.trans (decide_eq_true rfl)] at he
      rw [← hfl]; show findF T follow 0 l = _; unfold findF; rw [he]
    · rw [show lp = false from hlp.symm.trans (decide_eq_false (by omega))] at he
      rw [← hfl, show 8 - q = (7 - q) + 1 by omega]; unfold findF; rw [he]
  repeat (first | (apply G.ex (hd := rfl); case h => (first | exact Ex.move rfl | exact Ex.eqI rfl rfl)) | refine GC.seq ?_ | refine GC.region ?_ | refine GC.block ?_)
  rw [hlp]
  cases hlk : lookF T follow lp 0 [] l with
  | err e =>
    have he0 := lookF_err hlk
    rw [hlk] at S
    rw [hne e hlk]
    first | refine G.call (caps := []) (S) rfl rfl rfl rfl (by repeat first | exact tn_ | apply td_ rfl | apply tc_ | exact .here | apply Take1.there) ?_ | refine G.callU (caps := []) (S) rfl rfl rfl (by repeat first | exact tn_ | apply td_ rfl | apply tc_ | exact .here | apply Take1.there) ?_
    rintro v_ give_ ⟨rfl, rfl⟩ rs_ hrs_
    simp only [List.cons_append, List.nil_append] at hrs_
    subst hrs_
    repeat (first | (apply G.ex (hd := rfl); case h => (first | exact Ex.move rfl | exact Ex.neI rfl rfl | exact Ex.extract rfl rfl | exact Ex.assign rfl | exact Ex.pickT rfl (by first | assumption | omega) rfl)) | refine G.g_ft rfl rfl (by first | assumption | omega) rfl ?_ | refine G.nil ?_ | refine GC.seq ?_ | refine GC.region ?_ | refine GC.ret ?_ | refine GE.then_normal ?_ | refine GE.then_ret ?_ | refine GE.block_ret ?_ | refine GC.cond_t rfl ?_)
    refine GE.ret (by first | exact .inl rfl | exact .inr rfl) (res2 Tryz.results33 rfl rfl) ⟨by unfold fv; rw [if_neg he0], rfl⟩ (by repeat first | exact tn_ | apply td_ rfl | apply tc_ | exact .here | apply Take1.there) (by repeat (first | exact Subs.refl | refine Subs.skip ?_))
  | node i =>
    rw [hlk] at S
    rw [hnn i hlk]
    first | refine G.call (caps := []) (S) rfl rfl rfl rfl (by repeat first | exact tn_ | apply td_ rfl | apply tc_ | exact .here | apply Take1.there) ?_ | refine G.callU (caps := []) (S) rfl rfl rfl (by repeat first | exact tn_ | apply td_ rfl | apply tc_ | exact .here | apply Take1.there) ?_
    rintro v_ give_ ⟨rfl, rfl⟩ rs_ hrs_
    simp only [List.cons_append, List.nil_append] at hrs_
    subst hrs_
    repeat (first | (apply G.ex (hd := rfl); case h => (first | exact Ex.move rfl | exact Ex.neI rfl rfl | exact Ex.extract rfl rfl | exact Ex.assign rfl | exact Ex.pickF rfl (by first | assumption | omega) rfl | exact Ex.eqP0 rfl rfl)) | refine G.g_ff rfl rfl (by first | assumption | omega) ?_ | refine G.nil ?_ | refine GC.seq ?_ | refine GC.region ?_ | refine GC.ret ?_ | refine GE.then_normal ?_ | refine GE.then_ret ?_ | refine GE.block_ret ?_ | refine GC.cond_t rfl ?_)
    refine GE.ret (by first | exact .inl rfl | exact .inr rfl) (res2 Tryz.results33 rfl rfl) ⟨by unfold fv; rw [if_pos rfl], rfl⟩ (by repeat first | exact tn_ | apply td_ rfl | apply tc_ | exact .here | apply Take1.there) (by repeat (first | exact Subs.refl | refine Subs.skip ?_))
  | again on =>
    obtain ⟨hl0, hon⟩ := look_again (pre := []) hkl hlk
    rw [hlk] at S
    have h8 : ¬ q = 8 := fun h => by rw [hl0] at hlp; exact absurd (by omega : (q : Int) = 8) (of_decide_eq_false hlp)
    have hf2 : findF T follow (8 - (q + 1)) on = F := by
      rw [hl0] at hlk
      rw [← hfl, show 8 - q = (7 - q) + 1 by omega]
      conv => rhs; unfold findF
      rw [hlk, show 8 - (q + 1) = 7 - q by omega]
    first | refine G.call (caps := []) (S) rfl rfl rfl rfl (by repeat first | exact tn_ | apply td_ rfl | apply tc_ | exact .here | apply Take1.there) ?_ | refine G.callU (caps := []) (S) rfl rfl rfl (by repeat first | exact tn_ | apply td_ rfl | apply tc_ | exact .here | apply Take1.there) ?_
    rintro v_ give_ ⟨ob, oa, oc, rfl, rfl⟩ rs_ hrs_
    simp only [List.cons_append, List.nil_append] at hrs_
    subst hrs_
    repeat (first | (apply G.ex (hd := rfl); case h => (first | exact Ex.move rfl | exact Ex.nilCheck rfl | exact Ex.loadB rfl rfl | exact Ex.add rfl rfl (by omega) | exact Ex.neI rfl rfl | exact Ex.extract rfl rfl | exact Ex.assign rfl | exact Ex.pickF rfl (by first | assumption | omega) rfl | exact Ex.eqP0 rfl rfl)) | refine G.g_ff rfl rfl (by first | assumption | omega) ?_ | refine G.nil ?_ | refine GC.seq ?_ | refine GC.region ?_ | refine GC.skip ?_ | refine GE.then_normal ?_ | refine GE.block_normal ?_ | refine GC.cond_f rfl ?_)
    first | refine G.frz oa ?_ | refine GC.frz oa ?_ | refine GE.frz oa ?_
    rw [show (q : Int) + 1 = ((q + 1 : Nat) : Int) by omega]
    refine GE.loop (q + 1, on, oa, on.length, oc) ⟨by omega, hon, rfl, hf2⟩ (by simp only; omega) (by simp only [fits]; repeat (first | exact trivial | refine And.intro rfl ?_)) (by repeat first | exact tn_ | apply td_ rfl | apply tc_ | exact .here | apply Take1.there) (by repeat (first | exact Subs.refl | refine Subs.skip ?_))
end tree
end Go.Proofs.YtmceappjldcbmaaGreatDoor
/-
  CONTRACTS of a tree's place, free and within, by the kit.
-/
namespace Go.Proofs.YtmceappjldcbmaaGreatDoor
open Go.RowKit
attribute [local irreducible] Ex G GC GE Gq FPost LPost
set_option linter.unusedVariables false
set_option linter.unusedSimpArgs false
namespace tree
open path
/-- a directory as a pointer -/
def dv (L : Nat → Loc) (e : Int) (d : Nat) : Value := if e = 0 then ptr (L d).b else .pointer none
set_option maxHeartbeats 4000000 in
theorem place_sp (T : Tr) (L : Nat → Loc) (bt : Nat) (k : TrOk T) (names : List Nm) (ao : Option Addr) (n c : Nat) (hn : names.length = n) (hk : NamesOk names) (hne : names ≠ []) :
    Spec Tryz.prog 39 [ptr bt, .slice ao n c] [.per (TP T L bt), .sl ao n c 1 (flat eO names)] fun v give => v = .tuple #[dv L (placeF T names).1 (placeF T names).2, .int .i64 (placeF T names).1] ∧ give = [.per (TP T L bt), .sl ao n c 1 (flat eO names)] := by
  have h12 := hk.1
  have hpos : 0 < names.length := List.length_pos_iff.2 hne
  have hkd : NamesOk names.dropLast := ⟨by rw [List.length_dropLast]; omega, fun s hs => hk.2 s ((List.dropLast_sublist _).subset hs)⟩
  have hc1 : ((flat eO names).drop (0 * 1)).take ((n - 1 - 0) * 1) = flat eO names.dropLast := by
    rw [Nat.zero_mul, List.drop_zero, Nat.sub_zero, Nat.mul_one, List.dropLast_eq_take, hn]; exact flatO_take _ _
  have hdl : names.dropLast.length = n - 1 - 0 := by rw [List.length_dropLast]; omega
  obtain ⟨F, hF⟩ : ∃ F, T.find names.dropLast true = F := ⟨_, rfl⟩
  unfold placeF
  refine Spec.intro Tryz.func39 rfl Tryz.ntmps39 rfl fun w0 rest rs_ hrs_ => ?_
  simp only [List.cons_append, List.nil_append] at hrs_
  subst hrs_
  refine GC.len ao (m := n) (c := c) fun ⟨_, hnc, _⟩ => ?_
  refine GC.conv (fun w_ H_ => Holds.slSub 0 (n - 1) (by omega) (by omega) (H_.take (need := [.sl ao n c 1 (flat eO names)]) (by repeat first | exact tn_ | apply td_ rfl | apply tc_ | exact .here | apply Take1.there))) ?_
  try simp only [List.append_eq, List.nil_append, List.cons_append]
  rw [hc1]
  repeat (first | (apply G.ex (hd := rfl); case h => (first | exact Ex.move rfl | exact Ex.sub rfl rfl (by omega) | exact Ex.lenSl rfl | exact Ex.assign rfl)) | refine G.nil ?_ | refine GC.seq ?_ | refine GC.region ?_ | refine GE.then_normal ?_)
  rw [show (n : Int) - 1 = ((n - 1 : Nat) : Int) by omega]
  repeat (first | (apply G.ex (hd := rfl); case h => (first | exact Ex.slHi rfl rfl (by omega))))
  first | refine G.call (caps := []) (find_sp T L bt k names.dropLast (subA ao c 0 1) (n - 1 - 0) (c - 0) hdl hkd true) rfl rfl rfl rfl (by repeat first | exact tn_ | apply td_ rfl | apply tc_ | exact .here | apply Take1.there) ?_ | refine G.callU (caps := []) (find_sp T L bt k names.dropLast (subA ao c 0 1) (n - 1 - 0) (c - 0) hdl hkd true) rfl rfl rfl (by repeat first | exact tn_ | apply td_ rfl | apply tc_ | exact .here | apply Take1.there) ?_
  rintro v_ give_ ⟨rfl, rfl⟩ rs_ hrs_
  simp only [List.cons_append, List.nil_append] at hrs_
  subst hrs_
  rw [hF]
  by_cases h0 : F.1 = 0
  · rw [if_neg (fun h => h h0)]
    have e0 : fv T L F = val T L F.2 := if_pos h0
    rw [e0, h0]
    cases hnd : T.nd F.2 with
    | dir l =>
      rw [val_dir hnd]
      simp only [hnd]
      repeat (first | (apply G.ex (hd := rfl); case h => (first | exact Ex.move rfl | exact Ex.neI rfl rfl | exact Ex.extract rfl rfl | exact Ex.assign rfl | exact Ex.notB rfl | exact Ex.asYes rfl)) | refine G.nil ?_ | refine GC.seq ?_ | refine GC.region ?_ | refine GC.skip ?_ | refine GC.ret ?_ | refine GE.then_normal ?_ | refine GC.cond_no rfl (by first | assumption | omega) ?_ | refine GC.cond_f rfl ?_)
      refine GE.ret (by first | exact .inl rfl | exact .inr rfl) (res2 Tryz.results39 rfl rfl) ⟨by unfold dv; rw [if_pos rfl], rfl⟩ (by repeat first | exact tn_ | apply td_ rfl | apply tc_ | exact .here | apply Take1.there) (by repeat (first | exact Subs.refl | refine Subs.skip ?_))
    | file d =>
      rw [val_file hnd]
      simp only [hnd]
      repeat (first | (apply G.ex (hd := rfl); case h => (first | exact Ex.move rfl | exact Ex.neI rfl rfl | exact Ex.extract rfl rfl | exact Ex.assign rfl | exact Ex.notB rfl | exact Ex.asNo rfl rfl)) | refine G.nil ?_ | refine GC.seq ?_ | refine GC.region ?_ | refine GC.skip ?_ | refine GC.ret ?_ | refine GE.then_normal ?_ | refine GE.then_ret ?_ | refine GC.cond_no rfl (by first | assumption | omega) ?_ | refine GC.cond_t rfl ?_)
      refine GE.ret (by first | exact .inl rfl | exact .inr rfl) (res2 Tryz.results39 rfl rfl) ⟨rfl, rfl⟩ (by repeat first | exact tn_ | apply td_ rfl | apply tc_ | exact .here | apply Take1.there) (by repeat (first | exact Subs.refl | refine Subs.skip ?_))
    | link to =>
      rw [val_link hnd]
      simp only [hnd]
      repeat (first | (apply G.ex (hd := rfl); case h => (first | exact Ex.move rfl | exact Ex.neI rfl rfl | exact Ex.extract rfl rfl | exact Ex.assign rfl | exact Ex.notB rfl | exact Ex.asNo rfl rfl)) | refine G.nil ?_ | refine GC.seq ?_ | refine GC.region ?_ | refine GC.skip ?_ | refine GC.ret ?_ | refine GE.then_normal ?_ | refine GE.then_ret ?_ | refine GC.cond_no rfl (by first | assumption | omega) ?_ | refine GC.cond_t rfl ?_)
      refine GE.ret (by first | exact .inl rfl | exact .inr rfl) (res2 Tryz.results39 rfl rfl) ⟨rfl, rfl⟩ (by repeat first | exact tn_ | apply td_ rfl | apply tc_ | exact .here | apply Take1.there) (by repeat (first | exact Subs.refl | refine Subs.skip ?_))
  · rw [if_pos h0]
    have e0 : fv T L F = .nilIface := if_neg h0
    rw [e0]
    repeat (first | (apply G.ex (hd := rfl); case h => (first | exact Ex.move rfl | exact Ex.neI rfl rfl | exact Ex.extract rfl rfl | exact Ex.assign rfl)) | refine G.nil ?_ | refine GC.seq ?_ | refine GC.region ?_ | refine GC.ret ?_ | refine GE.then_normal ?_ | refine GE.then_ret ?_ | refine GC.cond_yes rfl (by first | assumption | omega) ?_)
    refine GE.ret (by first | exact .inl rfl | exact .inr rfl) (res2 Tryz.results39 rfl rfl) ⟨by unfold dv; rw [if_neg h0], rfl⟩ (by repeat first | exact tn_ | apply td_ rfl | apply tc_ | exact .here | apply Take1.there) (by repeat (first | exact Subs.refl | refine Subs.skip ?_))
theorem last_at {names : List Nm} (h : names ≠ []) : names.getD (names.length - 1) default = names.getLastD [] := by
  rw [List.getLastD_eq_getLast?, List.getLast?_eq_getElem?, List.getD_eq_getElem?_getD]; rfl
set_option maxHeartbeats 4000000 in
theorem free_sp (T : Tr) (L : Nat → Loc) (bt : Nat) (k : TrOk T) (names : List Nm) (ao : Option Addr) (n c : Nat) (hn : names.length = n) (hk : NamesOk names) :
    Spec Tryz.prog 38 [ptr bt, .slice ao n c] [.per (TP T L bt), .sl ao n c 1 (flat eO names)] fun v give => v = .tuple #[dv L (freeF T names).1 (freeF T names).2.1, .string (sOf (freeF T names).2.2), .int .i64 (freeF T names).1] ∧ give = [.per (TP T L bt), .sl ao n c 1 (flat eO names)] := by
  have h12 := hk.1
  obtain ⟨F, hF⟩ : ∃ F, freeF T names = F := ⟨_, rfl⟩
  rw [hF]
  unfold freeF at hF
  refine Spec.intro Tryz.func38 rfl Tryz.ntmps38 rfl fun w0 rest rs_ hrs_ => ?_
  simp only [List.cons_append, List.nil_append] at hrs_
  subst hrs_
  by_cases h0 : names = []
  · rw [if_pos h0] at hF
    subst hF h0
    obtain rfl : 0 = n := hn
    repeat (first | (apply G.ex (hd := rfl); case h => (first | exact Ex.move rfl | exact Ex.eqI rfl rfl | exact Ex.lenSl rfl | exact Ex.assign rfl)) | refine G.nil ?_ | refine GC.seq ?_ | refine GC.region ?_ | refine GC.ret ?_ | refine GE.then_normal ?_ | refine GE.then_ret ?_ | refine GC.cond_yes rfl (by first | assumption | omega) ?_)
    refine GE.ret (by first | exact .inl rfl | exact .inr rfl) (resR3 Tryz.results38 (RV.tmp rfl) (RV.tmp rfl) (RV.tmp rfl)) ⟨rfl, rfl⟩ (by repeat first | exact tn_ | apply td_ rfl | apply tc_ | exact .here | apply Take1.there) (by repeat (first | exact Subs.refl | refine Subs.skip ?_))
  · have hpos : 0 < names.length := List.length_pos_iff.2 h0
    rw [if_neg h0] at hF
    repeat (first | (apply G.ex (hd := rfl); case h => (first | exact Ex.move rfl | exact Ex.eqI rfl rfl | exact Ex.lenSl rfl | exact Ex.assign rfl)) | refine G.nil ?_ | refine GC.seq ?_ | refine GC.region ?_ | refine GC.skip ?_ | refine GE.then_normal ?_ | refine GC.cond_no rfl (by first | assumption | omega) ?_)
    first | refine G.call (caps := []) (place_sp T L bt k names ao n c hn hk h0) rfl rfl rfl rfl (by repeat first | exact tn_ | apply td_ rfl | apply tc_ | exact .here | apply Take1.there) ?_ | refine G.callU (caps := []) (place_sp T L bt k names ao n c hn hk h0) rfl rfl rfl (by repeat first | exact tn_ | apply td_ rfl | apply tc_ | exact .here | apply Take1.there) ?_
    rintro v_ give_ ⟨rfl, rfl⟩ rs_ hrs_
    simp only [List.cons_append, List.nil_append] at hrs_
    subst hrs_
    by_cases h1 : (placeF T names).1 = 0
    · rw [if_neg (fun h => h h1)] at hF
      obtain ⟨l, hl⟩ := placeF_dir h1
      rw [names_of hl] at hF
      have e0 : dv L (placeF T names).1 (placeF T names).2 = ptr (L (placeF T names).2).b := if_pos h1
      rw [e0, h1]
      generalize (placeF T names).2 = p at hl hF ⊢
      repeat (first | (apply G.ex (hd := rfl); case h => (first | exact Ex.move rfl | exact Ex.nilCheck rfl | exact Ex.fieldB rfl | exact Ex.sub rfl rfl (by omega) | exact Ex.neI rfl rfl | exact Ex.lenSl rfl | exact Ex.loadT0 rfl (by first | omega | (simp; done) | (simp; omega)) rfl | exact Ex.extract rfl rfl | exact Ex.assign rfl | exact Ex.indexI rfl rfl (by omega))) | refine G.nil ?_ | refine GC.seq ?_ | refine GC.region ?_ | refine GC.skip ?_ | refine GE.then_normal ?_ | refine GC.cond_no rfl (by first | assumption | omega) ?_)
      rw [show ((n : Int) - 1).toNat = n - 1 by omega]
      have hla := last_at h0
      rw [hn] at hla
      rw [hla]
      generalize names.getLastD [] = nm at hF ⊢
      refine G.ex (Ex.loadH rfl (tp_dir (List.mem_cons_self ..) hl)) rfl ?_
      repeat (first | (apply G.ex (hd := rfl); case h => (first | exact Ex.move rfl)))
      cases he : ent l nm with
      | none =>
        rw [he, if_neg (fun h => nomatch h)] at hF
        subst hF
        refine G.ex (Ex.lookupN rfl rfl (tp_map (List.mem_cons_self ..) hl) (look_none (val T L) 0 he)) rfl ?_
        repeat (first | (apply G.ex (hd := rfl); case h => (first | exact Ex.move rfl | exact Ex.extract rfl rfl | exact Ex.assign rfl)) | refine G.nil ?_ | refine GC.seq ?_ | refine GC.region ?_ | refine GC.skip ?_ | refine GC.ret ?_ | refine GE.then_normal ?_ | refine GC.cond_f rfl ?_)
        refine GE.ret (by first | exact .inl rfl | exact .inr rfl) (resR3 Tryz.results38 (RV.tmp rfl) (RV.tmp rfl) (RV.tmp rfl)) ⟨by unfold dv; rw [if_pos rfl], rfl⟩ (by repeat first | exact tn_ | apply td_ rfl | apply tc_ | exact .here | apply Take1.there) (by repeat (first | exact Subs.refl | refine Subs.skip ?_))
      | some nx =>
        rw [he] at hF
        rw [if_pos (show (some nx).isSome = true from rfl)] at hF
        subst hF
        obtain ⟨q, hq⟩ := look_some (val T L) he
        refine G.ex (Ex.lookupS rfl rfl (tp_map (List.mem_cons_self ..) hl) hq) rfl ?_
        repeat (first | (apply G.ex (hd := rfl); case h => (first | exact Ex.move rfl | exact Ex.extract rfl rfl | exact Ex.assign rfl)) | refine G.nil ?_ | refine GC.seq ?_ | refine GC.region ?_ | refine GC.ret ?_ | refine GE.then_normal ?_ | refine GE.then_ret ?_ | refine GC.cond_t rfl ?_)
        refine GE.ret (by first | exact .inl rfl | exact .inr rfl) (resR3 Tryz.results38 (RV.tmp rfl) (RV.tmp rfl) (RV.tmp rfl)) ⟨rfl, rfl⟩ (by repeat first | exact tn_ | apply td_ rfl | apply tc_ | exact .here | apply Take1.there) (by repeat (first | exact Subs.refl | refine Subs.skip ?_))
    · rw [if_pos h1] at hF
      subst hF
      have e0 : dv L (placeF T names).1 (placeF T names).2 = .pointer none := if_neg h1
      rw [e0]
      repeat (first | (apply G.ex (hd := rfl); case h => (first | exact Ex.move rfl | exact Ex.neI rfl rfl | exact Ex.extract rfl rfl | exact Ex.assign rfl)) | refine G.nil ?_ | refine GC.seq ?_ | refine GC.region ?_ | refine GC.ret ?_ | refine GE.then_normal ?_ | refine GE.then_ret ?_ | refine GC.cond_yes rfl (by first | assumption | omega) ?_)
      refine GE.ret (by first | exact .inl rfl | exact .inr rfl) (resR3 Tryz.results38 (RV.tmp rfl) (RV.tmp rfl) (RV.tmp rfl)) ⟨by unfold dv; rw [if_neg h1]; rfl, rfl⟩ (by repeat first | exact tn_ | apply td_ rfl | apply tc_ | exact .here | apply Take1.there) (by repeat (first | exact Subs.refl | refine Subs.skip ?_))
theorem todo_lt {bs seen : List Nat} {x : Nat} (hx : x ∈ bs) (hs : x ∉ seen) : (bs.filter fun c => decide (c ∉ seen ++ [x])).length < (bs.filter fun c => decide (c ∉ seen)).length := by
  have e : (bs.filter fun c => decide (c ∉ seen ++ [x])) = (bs.filter fun c => decide (c ∉ seen)).filter fun c => decide (c ≠ x) := by
    rw [List.filter_filter]
    refine List.filter_congr fun c _ => ?_
    simp only [List.mem_append, List.mem_singleton, not_or, Bool.decide_and]
    exact Bool.and_comm _ _
  rw [e]
  refine List.length_filter_lt_length_iff_exists.2 ⟨x, List.mem_filter.2 ⟨hx, by simpa using hs⟩, by simp⟩
open Classical in
set_option maxHeartbeats 4000000 in
theorem within_sp (T : Tr) (L : Nat → Loc) (bt : Nat) (k : TrOk T) (d : Nat) {ld : List (Nm × Nat)} (hd : T.nd d = .dir ld) : ∀ (m i : Nat) (f : Nat → Nat) (B : Nat), (∀ i l, T.nd i = .dir l → ∀ k j, (k, j) ∈ l → f j = f i + 1) → (∀ i, i < T.ns.length → f i ≤ B) → i < T.ns.length → B - f i < m →
    Spec Tryz.prog 40 [val T L i, ptr (L d).b] [.per (TP T L bt)] fun v give => v = .bool (decide (Reach T i d)) ∧ give = [.per (TP T L bt)]
  | 0, i, f, B, _, _, _, h => absurd h (Nat.not_lt_zero _)
  | m + 1, i, f, B, hf, hB, hi, hm => by
    have ih := fun j hj hjm => within_sp T L bt k d hd m j f B hf hB hj hjm
    have hdl := nd_dir_lt hd
    cases hnd : T.nd i with
    | file b =>
      have hno : ¬ Reach T i d := fun h => by cases h with | self h => rw [hnd] at h; exact nomatch h | step h _ _ => rw [hnd] at h; exact nomatch h
      rw [decide_eq_false hno, val_file hnd]
      refine Spec.intro Tryz.func40 rfl Tryz.ntmps40 rfl fun w0 rest rs_ hrs_ => ?_
      simp only [List.cons_append, List.nil_append] at hrs_
      subst hrs_
      repeat (first | (apply G.ex (hd := rfl); case h => (first | exact Ex.move rfl | exact Ex.extract rfl rfl | exact Ex.assign rfl | exact Ex.notB rfl | exact Ex.asNo rfl rfl)) | refine G.nil ?_ | refine GC.seq ?_ | refine GC.region ?_ | refine GC.ret ?_ | refine GE.then_normal ?_ | refine GE.then_ret ?_ | refine GC.cond_t rfl ?_)
      refine GE.ret (by first | exact .inl rfl | exact .inr rfl) (res1 Tryz.results40 rfl) ⟨rfl, rfl⟩ (by repeat first | exact tn_ | apply td_ rfl | apply tc_ | exact .here | apply Take1.there) (by repeat (first | exact Subs.refl | refine Subs.skip ?_))
    | link b =>
      have hno : ¬ Reach T i d := fun h => by cases h with | self h => rw [hnd] at h; exact nomatch h | step h _ _ => rw [hnd] at h; exact nomatch h
      rw [decide_eq_false hno, val_link hnd]
      refine Spec.intro Tryz.func40 rfl Tryz.ntmps40 rfl fun w0 rest rs_ hrs_ => ?_
      simp only [List.cons_append, List.nil_append] at hrs_
      subst hrs_
      repeat (first | (apply G.ex (hd := rfl); case h => (first | exact Ex.move rfl | exact Ex.extract rfl rfl | exact Ex.assign rfl | exact Ex.notB rfl | exact Ex.asNo rfl rfl)) | refine G.nil ?_ | refine GC.seq ?_ | refine GC.region ?_ | refine GC.ret ?_ | refine GE.then_normal ?_ | refine GE.then_ret ?_ | refine GC.cond_t rfl ?_)
      refine GE.ret (by first | exact .inl rfl | exact .inr rfl) (res1 Tryz.results40 rfl) ⟨rfl, rfl⟩ (by repeat first | exact tn_ | apply td_ rfl | apply tc_ | exact .here | apply Take1.there) (by repeat (first | exact Subs.refl | refine Subs.skip ?_))
    | dir l =>
      rw [val_dir hnd]
      by_cases hid : i = d
      · subst hid
        rw [decide_eq_true (Reach.self hnd)]
        refine Spec.intro Tryz.func40 rfl Tryz.ntmps40 rfl fun w0 rest rs_ hrs_ => ?_
        simp only [List.cons_append, List.nil_append] at hrs_
        subst hrs_
        repeat (first | (apply G.ex (hd := rfl); case h => (first | exact Ex.move rfl | exact Ex.extract rfl rfl | exact Ex.assign rfl | exact Ex.notB rfl | exact Ex.asYes rfl)) | refine G.nil ?_ | refine GC.seq ?_ | refine GC.region ?_ | refine GC.skip ?_ | refine GE.then_normal ?_ | refine GC.cond_f rfl ?_)
        refine G.ex (Ex.eqPS rfl rfl) rfl ?_
        repeat (first | (apply G.ex (hd := rfl); case h => (first | exact Ex.assign rfl)) | refine G.nil ?_ | refine GC.seq ?_ | refine GC.region ?_ | refine GC.ret ?_ | refine GE.then_normal ?_ | refine GE.then_ret ?_ | refine GC.cond_t rfl ?_)
        refine GE.ret (by first | exact .inl rfl | exact .inr rfl) (res1 Tryz.results40 rfl) ⟨rfl, rfl⟩ (by repeat first | exact tn_ | apply td_ rfl | apply tc_ | exact .here | apply Take1.there) (by repeat (first | exact Subs.refl | refine Subs.skip ?_))
      · have hbl : (L i).b ≠ (L d).b ∨ True := .inr trivial
        refine Spec.intro Tryz.func40 rfl Tryz.ntmps40 rfl fun w0 rest rs_ hrs_ => ?_
        simp only [List.cons_append, List.nil_append] at hrs_
        subst hrs_
        refine GC.know (p := (L i).b ≠ (L d).b) (fun w H => ?_) fun hne => ?_
        · have h : (TP T L bt).sat (hp w) := H.at (List.mem_cons_self ..)
          exact tp_apart h hi hdl hid
        repeat (first | (apply G.ex (hd := rfl); case h => (first | exact Ex.move rfl | exact Ex.extract rfl rfl | exact Ex.assign rfl | exact Ex.notB rfl | exact Ex.asYes rfl)) | refine G.nil ?_ | refine GC.seq ?_ | refine GC.region ?_ | refine GC.skip ?_ | refine GE.then_normal ?_ | refine GC.cond_f rfl ?_)
        refine G.ex (Ex.eqPO rfl rfl hne (tp_blk (List.mem_cons_self ..) hnd) (tp_blk (List.mem_cons_self ..) hd)) rfl ?_
        repeat (first | (apply G.ex (hd := rfl); case h => (first | exact Ex.move rfl | exact Ex.nilCheck rfl | exact Ex.fieldB rfl)) | refine G.nil ?_ | refine GC.seq ?_ | refine GC.region ?_ | refine GC.skip ?_ | refine GE.then_normal ?_ | refine GC.cond_f rfl ?_)
        refine G.ex (Ex.loadH rfl (tp_dir (List.mem_cons_self ..) hnd)) rfl ?_
        refine G.rangeB rfl (tp_map (List.mem_cons_self ..) hnd) rfl fun r => ?_
        repeat (first | refine G.nil ?_ | refine GC.block ?_ | refine GE.then_normal ?_)
        refine GC.loop (ι := List Nat) (fun s => ∀ (q : Nat) (h : q < l.length) (h' : q < (L i).bs.length), (L i).bs[q] ∈ s → ¬ Reach T l[q].2 d) (fun s => ((L i).bs.filter fun c => decide (c ∉ s)).length) (fun s => [(1, ptr (L d).b), (23, .pointer (some ⟨r, 0, none⟩))]) (fun s => [.own (IterB r (L i).m (L i).clk s (L i).clk), .per (TP T L bt)]) [] (fun q h h' hm => nomatch hm) (by simp only [fits]; repeat (first | exact trivial | refine And.intro rfl ?_)) (by repeat first | exact tn_ | apply td_ rfl | apply tc_ | exact .here | apply Take1.there) ?_
        rintro s hs fr_ rs_ hfr_ hrs_
        simp only [List.cons_append, List.nil_append] at hfr_ hrs_
        subst hfr_ hrs_
        repeat (first | refine GC.seq ?_ | refine GC.region ?_)
        refine G.know (p := (L i).bs.length = l.length ∧ (L i).bs.Nodup) (fun w H => ?_) fun ⟨hbl, hbn⟩ => ?_
        · have hw := tp_map (List.mem_cons_of_mem _ (List.mem_cons_self ..)) hnd w H
          exact ⟨by rw [hw.2.1]; exact List.length_map .., hw.2.2.2⟩
        refine G.nextB rfl (tp_map (List.mem_cons_of_mem _ (List.mem_cons_self ..)) hnd) rfl (fun hall => ?_) (fun j hj hj' hns rs_ hrs_ => ?_)
        · have hno : ¬ Reach T i d := fun h => by
            cases h with
            | self => exact hid rfl
            | step h1 h2 h3 =>
              rw [hnd] at h1
              obtain rfl := Nd.dir.inj h1
              obtain ⟨q, hq, e⟩ := List.getElem_of_mem h2
              refine hs q hq (by omega) (hall _ (List.getElem_mem _)) ?_
              rw [e]; exact h3
          rw [decide_eq_false hno]
          repeat (first | (apply G.ex (hd := rfl); case h => (first | exact Ex.extract rfl rfl | exact Ex.assign rfl)) | refine G.nil ?_ | refine GC.seq ?_ | refine GC.region ?_ | refine GC.ret ?_ | refine GC.exit ?_ | refine GE.then_normal ?_ | refine GE.then_exit ?_ | refine GE.block_hit ?_ | refine GC.cond_f rfl ?_)
          refine GE.ret (by first | exact .inl rfl | exact .inr rfl) (res1 Tryz.results40 rfl) ⟨rfl, rfl⟩ (by repeat first | exact tn_ | apply td_ rfl | apply tc_ | exact .here | apply Take1.there) (by repeat (first | exact Subs.refl | refine Subs.skip ?_))
        · try simp only at hrs_
          subst hrs_
          have hjl : j < l.length := by omega
          have hval : (entV (val T L) l)[j].2 = val T L l[j].2 := congrArg Prod.snd (List.getElem_map (fun e : Nm × Nat => (e.1, val T L e.2)))
          have hch := k.ins i l hnd l[j].1 l[j].2 (List.getElem_mem hjl)
          have hfj := hf i l hnd l[j].1 l[j].2 (List.getElem_mem hjl)
          have hBj := hB _ hch.2.1
          repeat (first | (apply G.ex (hd := rfl); case h => (first | exact Ex.extract rfl rfl)) | refine G.nil ?_ | refine GC.seq ?_ | refine GC.region ?_ | refine GC.block ?_ | refine GC.skip ?_ | refine GE.then_normal ?_ | refine GC.cond_t rfl ?_)
          refine G.ex (Ex.entryB (j := j) rfl (tp_map (List.mem_cons_of_mem _ (List.mem_cons_self ..)) hnd) hj hj' (fun w H => iterB_blk H)) rfl ?_
          rw [hval]
          repeat (first | (apply G.ex (hd := rfl); case h => (first | exact Ex.move rfl | exact Ex.extract rfl rfl | exact Ex.assign rfl)) | refine G.nil ?_ | refine GC.seq ?_ | refine GC.region ?_ | refine GE.then_normal ?_)
          first | refine G.call (caps := []) (ih l[j].2 hch.2.1 (by omega)) rfl rfl rfl rfl (by repeat first | exact tn_ | apply td_ rfl | apply tc_ | exact .here | apply Take1.there) ?_ | refine G.callU (caps := []) (ih l[j].2 hch.2.1 (by omega)) rfl rfl rfl (by repeat first | exact tn_ | apply td_ rfl | apply tc_ | exact .here | apply Take1.there) ?_
          rintro v_ give_ ⟨rfl, rfl⟩ rs_ hrs_
          simp only [List.cons_append, List.nil_append] at hrs_
          subst hrs_
          by_cases hr : Reach T l[j].2 d
          · rw [decide_eq_true hr, decide_eq_true (Reach.step hnd (List.getElem_mem hjl) hr : Reach T i d)]
            repeat (first | (apply G.ex (hd := rfl); case h => (first | exact Ex.assign rfl)) | refine G.nil ?_ | refine GC.seq ?_ | refine GC.region ?_ | refine GC.ret ?_ | refine GE.then_normal ?_ | refine GE.then_ret ?_ | refine GE.block_ret ?_ | refine GC.cond_t rfl ?_)
            refine GE.ret (by first | exact .inl rfl | exact .inr rfl) (res1 Tryz.results40 rfl) ⟨rfl, rfl⟩ (by repeat first | exact tn_ | apply td_ rfl | apply tc_ | exact .here | apply Take1.there) (by repeat (first | exact Subs.refl | refine Subs.skip ?_))
          · rw [decide_eq_false hr]
            repeat (first | refine G.nil ?_ | refine GC.skip ?_ | refine GE.then_normal ?_ | refine GE.block_normal ?_ | refine GC.cond_f rfl ?_)
            have hnew : ∀ (q : Nat) (h : q < l.length) (h' : q < (L i).bs.length), (L i).bs[q] ∈ s ++ [(L i).bs[j]] → ¬ Reach T l[q].2 d := by
              intro q h h' hm
              rcases List.mem_append.1 hm with hm | hm
              · exact hs q h h' hm
              · rw [List.mem_singleton] at hm
                obtain rfl := (List.getElem_inj hbn).1 hm
                exact hr
            refine GE.loop (s ++ [(L i).bs[j]]) hnew (todo_lt (List.getElem_mem hj') hns) (by simp only [fits]; repeat (first | exact trivial | refine And.intro rfl ?_)) (by repeat first | exact tn_ | apply td_ rfl | apply tc_ | exact .here | apply Take1.there) (by repeat (first | exact Subs.refl | refine Subs.skip ?_))
end tree
end Go.Proofs.YtmceappjldcbmaaGreatDoor
/-
  A TREE OF FILES IN MEMORY: nodes taken out and put back; what reads it, lent what is owned.
-/
namespace Go.Proofs.YtmceappjldcbmaaGreatDoor
open Go.RowKit
attribute [local irreducible] Ex G GC GE Gq FPost LPost
set_option linter.unusedVariables false
set_option linter.unusedSimpArgs false
namespace tree
open path
section
variable {w0 : World} {rs : List Res} {T : Tr} {L : Nat → Loc} {bt i : Nat}
theorem nr_node {f : Hp} (h : (NodesR T L).sat f f) (hi : i < T.ns.length) {r : Res} (hr : r ∈ ndR (T.nd i) (val T L) (L i)) : r.sat f f := by
  have h1 : (ndO T L i).sat f f := Star.mem h (List.mem_map.2 ⟨i, List.mem_range.2 hi, rfl⟩)
  exact Star.mem h1 hr
theorem own_dir (hm : .own (NodesR T L) ∈ rs) {l : List (Nm × Nat)} (hi : T.nd i = .dir l) : ∀ w, Holds w0 w rs → w.cell? (badr (L i).b 0) = some (.map (some (L i).m)) := fun w H => by
  have h : (NodesR T L).sat (hp w) (hp w) := H.at hm
  have := nr_node h (nd_dir_lt hi) (r := .blk (L i).b 76 [.map (some (L i).m)]) (by rw [hi]; exact List.mem_cons_self ..)
  exact cell_of_blk this rfl
theorem own_map (hm : .own (NodesR T L) ∈ rs) {l : List (Nm × Nat)} (hi : T.nd i = .dir l) : ∀ w, Holds w0 w rs → MapW w (L i).m (entV (val T L) l) (L i).bs (L i).clk := fun w H => by
  have h : (NodesR T L).sat (hp w) (hp w) := H.at hm
  exact nr_node h (nd_dir_lt hi) (r := .own (MapB (L i).m (entV (val T L) l) (L i).bs (L i).clk)) (by rw [hi]; exact List.mem_cons_of_mem _ (List.mem_cons_self ..))
theorem own_file (hm : .own (NodesR T L) ∈ rs) (hlt : i < T.ns.length) {d : List UInt8} (hi : T.nd i = .file d) : ∀ w, Holds w0 w rs → w.cell? (badr (L i).b 0) = some (.slice (L i).ao d.length (L i).c) := fun w H => by
  have h : (NodesR T L).sat (hp w) (hp w) := H.at hm
  have := nr_node h hlt (r := .blk (L i).b 93 [.slice (L i).ao d.length (L i).c]) (by rw [hi]; exact List.mem_cons_self ..)
  exact cell_of_blk this rfl
/-- all nodes but one -/
def Hole (T : Tr) (L : Nat → Loc) (i : Nat) : Own2 := Star (((List.range T.ns.length).map (ndO T L)).eraseIdx i)
theorem Holds.nodeOut {w : World} (hi : i < T.ns.length) (H : Holds w0 w (.own (NodesR T L) :: rs)) : Holds w0 w (ndO T L i :: .own (Hole T L i) :: rs) := by
  have := Holds.starAt (i := i) (by rw [List.length_map, List.length_range]; exact hi) H
  rwa [List.getElem_map, List.getElem_range] at this
theorem Holds.nodeIn {w : World} {T' : Tr} {L' : Nat → Loc} (hi : i < T.ns.length) (hlen : T'.ns.length = T.ns.length) (hs : ∀ j, j < T.ns.length → j ≠ i → ndO T' L' j = ndO T L j) (H : Holds w0 w (ndO T' L' i :: .own (Hole T L i) :: rs)) : Holds w0 w (.own (NodesR T' L') :: rs) := by
  have := Holds.starBack (l := (List.range T.ns.length).map (ndO T L)) (i := i) (by rw [List.length_map, List.length_range]; exact hi) H
  have e : ((List.range T.ns.length).map (ndO T L)).set i (ndO T' L' i) = (List.range T'.ns.length).map (ndO T' L') := by
    rw [hlen]
    apply List.ext_getElem?
    intro j
    rw [List.getElem?_set, List.getElem?_map, List.getElem?_map, List.length_map, List.length_range]
    by_cases c : i = j
    · subst c
      rw [if_pos rfl, if_pos hi, List.getElem?_range hi]; rfl
    · rw [if_neg c]
      by_cases hj : j < T.ns.length
      · rw [List.getElem?_range hj]
        exact congrArg some (hs j hj (fun h => c h.symm)).symm
      · rw [List.getElem?_eq_none (by rw [List.length_range]; omega)]; rfl
  rw [e] at this
  exact this
theorem Holds.nodeNew {w : World} {T' : Tr} {L' : Nat → Loc} (hlen : T'.ns.length = T.ns.length + 1) (hs : ∀ j, j < T.ns.length → ndO T' L' j = ndO T L j) (H : Holds w0 w (ndO T' L' T.ns.length :: .own (NodesR T L) :: rs)) : Holds w0 w (.own (NodesR T' L') :: rs) := by
  have h1 := Holds.starIn H
  have e : (List.range T'.ns.length).map (ndO T' L') = (List.range T.ns.length).map (ndO T L) ++ [ndO T' L' T.ns.length] := by
    rw [hlen, List.range_succ, List.map_append]
    congr 1
    exact List.map_congr_left fun j hj => hs j (List.mem_range.1 hj)
  unfold NodesR
  rw [e]
  exact h1.starPerm (List.perm_append_singleton ..).symm
/-- one node lies elsewhere -/
def updL (L : Nat → Loc) (i : Nat) (x : Loc) : Nat → Loc := fun j => if j = i then x else L j
theorem updL_self (x : Loc) : updL L i x i = x := if_pos rfl
theorem updL_ne {j : Nat} (x : Loc) (h : j ≠ i) : updL L i x j = L j := if_neg h
theorem updL_b {x : Loc} (hx : x.b = (L i).b) (j : Nat) : (updL L i x j).b = (L j).b := by
  unfold updL; split
  · rename_i h; rw [h]; exact hx
  · rfl
theorem val_set {x : Nd} {y : Loc} (c : Int) (hy : y.b = (L i).b) (hk : ∀ b, kv x b = kv (T.nd i) b) : val ⟨T.ns.set i x, c⟩ (updL L i y) = val T L := by
  funext j
  unfold val
  rw [updL_b hy, nd_set]
  split
  · rename_i h; rw [← h.1]; exact hk _
  · rfl
theorem ndO_set {x : Nd} {y : Loc} (c : Int) (hy : y.b = (L i).b) (hk : ∀ b, kv x b = kv (T.nd i) b) {j : Nat} (hj : j ≠ i) : ndO ⟨T.ns.set i x, c⟩ (updL L i y) j = ndO T L j := by
  unfold ndO
  rw [val_set c hy hk, updL_ne _ hj, nd_set, if_neg (fun h => hj h.1.symm)]
theorem Holds.dirOut {w : World} {l : List (Nm × Nat)} (hi : T.nd i = .dir l) (H : Holds w0 w (.own (NodesR T L) :: rs)) : Holds w0 w (.blk (L i).b 76 [.map (some (L i).m)] :: .own (MapB (L i).m (entV (val T L) l) (L i).bs (L i).clk) :: .own (Hole T L i) :: rs) := by
  have h1 := Holds.nodeOut (nd_dir_lt hi) H
  unfold ndO at h1
  rw [hi] at h1
  have h2 := Holds.starOut h1
  have h3 : Holds w0 w (.own (Star [.own (MapB (L i).m (entV (val T L) l) (L i).bs (L i).clk)]) :: .blk (L i).b 76 [.map (some (L i).m)] :: .own (Hole T L i) :: rs) := h2.perm (List.Perm.swap ..)
  have h4 := (Holds.starOut h3)
  have h5 : Holds w0 w (.own (Star []) :: .own (MapB (L i).m (entV (val T L) l) (L i).bs (L i).clk) :: .blk (L i).b 76 [.map (some (L i).m)] :: .own (Hole T L i) :: rs) := h4.perm (List.Perm.swap ..)
  exact h5.tail.perm (List.Perm.swap ..)
theorem Holds.dirIn {w : World} {l l' : List (Nm × Nat)} {bs : List Nat} {clk : Nat} (c : Int) (hi : T.nd i = .dir l) (H : Holds w0 w (.blk (L i).b 76 [.map (some (L i).m)] :: .own (MapB (L i).m (entV (val T L) l') bs clk) :: .own (Hole T L i) :: rs)) :
    Holds w0 w (.own (NodesR ⟨T.ns.set i (.dir l'), c⟩ (updL L i { L i with bs := bs, clk := clk })) :: rs) := by
  have hk : ∀ b, kv (.dir l') b = kv (T.nd i) b := fun b => by rw [hi]; rfl
  refine Holds.nodeIn (i := i) (nd_dir_lt hi) (by show (T.ns.set i _).length = _; rw [List.length_set]) (fun j _ hj => ndO_set (T := T) (L := L) (i := i) (y := { L i with bs := bs, clk := clk }) c rfl hk hj) ?_
  have e : ndO ⟨T.ns.set i (.dir l'), c⟩ (updL L i { L i with bs := bs, clk := clk }) i = .own (Star [.blk (L i).b 76 [.map (some (L i).m)], .own (MapB (L i).m (entV (val T L) l') bs clk)]) := by
    unfold ndO
    rw [val_set (T := T) (L := L) (i := i) (y := { L i with bs := bs, clk := clk }) c rfl hk, updL_self, nd_set, if_pos ⟨rfl, nd_dir_lt hi⟩]
    rfl
  rw [e]
  have h1 : Holds w0 w (.own (Star []) :: .own (MapB (L i).m (entV (val T L) l') bs clk) :: .blk (L i).b 76 [.map (some (L i).m)] :: .own (Hole T L i) :: rs) := (H.perm (List.Perm.swap ..)).starNil
  have h2 := Holds.starIn (h1.perm (List.Perm.swap ..))
  exact Holds.starIn (h2.perm (List.Perm.swap ..))
theorem Holds.fileOut {w : World} {d : List UInt8} (hlt : i < T.ns.length) (hi : T.nd i = .file d) (H : Holds w0 w (.own (NodesR T L) :: rs)) : Holds w0 w (.blk (L i).b 93 [.slice (L i).ao d.length (L i).c] :: .vec 5 1 (L i).ao d.length (L i).c (flat eB d) :: .own (Hole T L i) :: rs) := by
  have h1 := Holds.nodeOut hlt H
  unfold ndO at h1
  rw [hi] at h1
  have h2 := Holds.starOut h1
  have h3 : Holds w0 w (.own (Star [.vec 5 1 (L i).ao d.length (L i).c (flat eB d)]) :: .blk (L i).b 93 [.slice (L i).ao d.length (L i).c] :: .own (Hole T L i) :: rs) := h2.perm (List.Perm.swap ..)
  have h4 := (Holds.starOut h3)
  have h5 : Holds w0 w (.own (Star []) :: .vec 5 1 (L i).ao d.length (L i).c (flat eB d) :: .blk (L i).b 93 [.slice (L i).ao d.length (L i).c] :: .own (Hole T L i) :: rs) := h4.perm (List.Perm.swap ..)
  exact h5.tail.perm (List.Perm.swap ..)
theorem Holds.fileIn {w : World} {d d' : List UInt8} {ao : Option Addr} {c : Nat} (cc : Int) (hlt : i < T.ns.length) (hi : T.nd i = .file d) (H : Holds w0 w (.blk (L i).b 93 [.slice ao d'.length c] :: .vec 5 1 ao d'.length c (flat eB d') :: .own (Hole T L i) :: rs)) :
    Holds w0 w (.own (NodesR ⟨T.ns.set i (.file d'), cc⟩ (updL L i { L i with ao := ao, c := c })) :: rs) := by
  have hk : ∀ b, kv (.file d') b = kv (T.nd i) b := fun b => by rw [hi]; rfl
  refine Holds.nodeIn (i := i) hlt (by show (T.ns.set i _).length = _; rw [List.length_set]) (fun j _ hj => ndO_set (T := T) (L := L) (i := i) (y := { L i with ao := ao, c := c }) cc rfl hk hj) ?_
  have e : ndO ⟨T.ns.set i (.file d'), cc⟩ (updL L i { L i with ao := ao, c := c }) i = .own (Star [.blk (L i).b 93 [.slice ao d'.length c], .vec 5 1 ao d'.length c (flat eB d')]) := by
    unfold ndO
    rw [val_set (T := T) (L := L) (i := i) (y := { L i with ao := ao, c := c }) cc rfl hk, updL_self, nd_set, if_pos ⟨rfl, hlt⟩]
    rfl
  rw [e]
  have h1 : Holds w0 w (.own (Star []) :: .vec 5 1 ao d'.length c (flat eB d') :: .blk (L i).b 93 [.slice ao d'.length c] :: .own (Hole T L i) :: rs) := (H.perm (List.Perm.swap ..)).starNil
  have h2 := Holds.starIn (h1.perm (List.Perm.swap ..))
  exact Holds.starIn (h2.perm (List.Perm.swap ..))
theorem ndR_congr {x : Nd} {V V' : Nat → Value} (l : Loc) (h : ∀ es, x = .dir es → ∀ e ∈ es, V e.2 = V' e.2) : ndR x V l = ndR x V' l := by
  cases x with
  | dir es =>
    have : entV V es = entV V' es := List.map_congr_left fun e he => by rw [h es rfl e he]
    unfold ndR
    simp only [this]
  | file d => rfl
  | link to => rfl
theorem val_grow (x : Nd) (lx : Loc) (c : Int) {j : Nat} (hj : j < T.ns.length) : val ⟨T.ns ++ [x], c⟩ (updL L T.ns.length lx) j = val T L j := by
  unfold val
  rw [updL_ne _ (by omega), nd_snoc, if_neg (by omega)]
theorem val_new (x : Nd) (lx : Loc) (c : Int) : val ⟨T.ns ++ [x], c⟩ (updL L T.ns.length lx) T.ns.length = kv x lx.b := by
  unfold val
  rw [updL_self, nd_snoc, if_pos rfl]
theorem Holds.grow {w : World} (k : TrOk T) {x : Nd} {lx : Loc} {V : Nat → Value} (hx : ∀ es, x = .dir es → es = []) (c : Int) (H : Holds w0 w (.own (Star (ndR x V lx)) :: .own (NodesR T L) :: rs)) : Holds w0 w (.own (NodesR ⟨T.ns ++ [x], c⟩ (updL L T.ns.length lx)) :: rs) := by
  refine Holds.nodeNew (T := T) (L := L) (by show (T.ns ++ [x]).length = _; rw [List.length_append]; rfl) (fun j hj => ?_) ?_
  · unfold ndO
    rw [updL_ne _ (by omega), nd_snoc, if_neg (by omega)]
    rw [ndR_congr (V' := val T L) (L j) fun es he e hm => val_grow x lx c (k.ins j es he e.1 e.2 hm).2.1]
  · have e : ndO ⟨T.ns ++ [x], c⟩ (updL L T.ns.length lx) T.ns.length = .own (Star (ndR x V lx)) := by
      unfold ndO
      rw [updL_self, nd_snoc, if_pos rfl]
      rw [ndR_congr (V' := V) lx fun es he e hm => by rw [hx es he] at hm; exact nomatch hm]
    rw [e]; exact H
end
theorem find_ow (T : Tr) (L : Nat → Loc) (bt : Nat) (k : TrOk T) (names : List Nm) (r : Res) (ao : Option Addr) (n c : Nat) [RdR r ao n c 1 (flat eO names)] (hn : names.length = n) (hk : NamesOk names) (follow : Bool) :
    Spec Tryz.prog 33 [ptr bt, .slice ao n c, .bool follow] [TreeB T L bt, .own (NodesR T L), r] fun v give => v = .tuple #[fv T L (T.find names follow), .int .i64 (T.find names follow).1] ∧ give = [TreeB T L bt, .own (NodesR T L), r] :=
  Spec.lendT Nat.one_pos (find_sp T L bt k names ao n c hn hk follow) fun v give ⟨hv, hg⟩ => ⟨[], give, (fun _ h => (nomatch h)), rfl, hv, rfl⟩
theorem place_ow (T : Tr) (L : Nat → Loc) (bt : Nat) (k : TrOk T) (names : List Nm) (r : Res) (ao : Option Addr) (n c : Nat) [RdR r ao n c 1 (flat eO names)] (hn : names.length = n) (hk : NamesOk names) (hne : names ≠ []) :
    Spec Tryz.prog 39 [ptr bt, .slice ao n c] [TreeB T L bt, .own (NodesR T L), r] fun v give => v = .tuple #[dv L (placeF T names).1 (placeF T names).2, .int .i64 (placeF T names).1] ∧ give = [TreeB T L bt, .own (NodesR T L), r] :=
  Spec.lendT Nat.one_pos (place_sp T L bt k names ao n c hn hk hne) fun v give ⟨hv, hg⟩ => ⟨[], give, (fun _ h => (nomatch h)), rfl, hv, rfl⟩
theorem free_ow (T : Tr) (L : Nat → Loc) (bt : Nat) (k : TrOk T) (names : List Nm) (r : Res) (ao : Option Addr) (n c : Nat) [RdR r ao n c 1 (flat eO names)] (hn : names.length = n) (hk : NamesOk names) :
    Spec Tryz.prog 38 [ptr bt, .slice ao n c] [TreeB T L bt, .own (NodesR T L), r] fun v give => v = .tuple #[dv L (freeF T names).1 (freeF T names).2.1, .string (sOf (freeF T names).2.2), .int .i64 (freeF T names).1] ∧ give = [TreeB T L bt, .own (NodesR T L), r] :=
  Spec.lendT Nat.one_pos (free_sp T L bt k names ao n c hn hk) fun v give ⟨hv, hg⟩ => ⟨[], give, (fun _ h => (nomatch h)), rfl, hv, rfl⟩
theorem lv_bound (f : Nat → Nat) : ∀ n, ∃ B, ∀ i, i < n → f i ≤ B
  | 0 => ⟨0, fun i h => absurd h (Nat.not_lt_zero i)⟩
  | n + 1 => by
    obtain ⟨B, hB⟩ := lv_bound f n
    refine ⟨max B (f n), fun i hi => ?_⟩
    rcases Nat.lt_or_ge i n with h | h
    · exact Nat.le_trans (hB i h) (Nat.le_max_left ..)
    · obtain rfl : i = n := by omega
      exact Nat.le_max_right ..
open Classical in
theorem within_ow (T : Tr) (L : Nat → Loc) (bt : Nat) (k : TrOk T) (i d : Nat) {ld : List (Nm × Nat)} (hd : T.nd d = .dir ld) (hi : i < T.ns.length) :
    Spec Tryz.prog 40 [val T L i, ptr (L d).b] [TreeB T L bt, .own (NodesR T L)] fun v give => v = .bool (decide (Reach T i d)) ∧ give = [TreeB T L bt, .own (NodesR T L)] := by
  obtain ⟨f, hf⟩ := k.lv
  obtain ⟨B, hB⟩ := lv_bound f T.ns.length
  exact Spec.lendT0 (within_sp T L bt k d hd _ i f B hf hB hi (Nat.lt_succ_self _)) fun v give ⟨hv, hg⟩ => ⟨[], give, (fun _ h => (nomatch h)), rfl, hv, rfl⟩
end tree
end Go.Proofs.YtmceappjldcbmaaGreatDoor
/-
  CONTRACTS of a tree's make, remove, rename, by the kit.
-/
namespace Go.Proofs.YtmceappjldcbmaaGreatDoor
open Go.RowKit
attribute [local irreducible] Ex G GC GE Gq FPost LPost
set_option linter.unusedVariables false
set_option linter.unusedSimpArgs false
namespace tree
open path
theorem lookV_none (V : Nat → Value) {l : List (Nm × Nat)} {k : Nm} (h : ent l k = none) : lookI k (entV V l) 0 = none := look_none V 0 h
theorem entV_snoc (V : Nat → Value) (l : List (Nm × Nat)) (k : Nm) (j : Nat) : entV V l ++ [(k, V j)] = entV V (l ++ [(k, j)]) := by unfold entV; rw [List.map_append]; rfl
theorem entV_erase (V : Nat → Value) : ∀ (l : List (Nm × Nat)) (j : Nat), (entV V l).eraseIdx j = entV V (l.eraseIdx j)
  | [], _ => rfl
  | e :: l, 0 => rfl
  | e :: l, j + 1 => congrArg (_ :: ·) (entV_erase V l j)
set_option maxHeartbeats 4000000 in
theorem make_sp (T : Tr) (L : Nat → Loc) (bt : Nat) (k : TrOk T) (names : List Nm) (r : Res) (ao : Option Addr) (n c : Nat) [RdR r ao n c 1 (flat eO names)] (hn : names.length = n) (hk : NamesOk names) (x : Nd) (lx : Loc) (V : Nat → Value) (hx : ∀ es, x = .dir es → es = []) :
    Spec Tryz.prog 30 [ptr bt, .slice ao n c, kv x lx.b] [TreeB T L bt, .own (NodesR T L), .own (Star (ndR x V lx)), r] fun v give => ∃ L', v = .int .i64 (makeF T names x).1 ∧ give = [TreeB (makeF T names x).2 L' bt, .own (NodesR (makeF T names x).2 L'), r] := by
  have hcnt := k.cnt
  refine Spec.intro Tryz.func30 rfl Tryz.ntmps30 rfl fun w0 rest rs_ hrs_ => ?_
  simp only [List.cons_append, List.nil_append] at hrs_
  subst hrs_
  repeat (first | (apply G.ex (hd := rfl); case h => (first | exact Ex.move rfl | exact Ex.assign rfl)) | refine G.nil ?_ | refine GC.seq ?_ | refine GC.region ?_ | refine GE.then_normal ?_)
  first | refine G.call (caps := []) (free_ow T L bt k names r ao n c hn hk) rfl rfl rfl rfl (by repeat first | exact tn_ | apply td_ rfl | apply tc_ | exact .here | apply Take1.there) ?_ | refine G.callU (caps := []) (free_ow T L bt k names r ao n c hn hk) rfl rfl rfl (by repeat first | exact tn_ | apply td_ rfl | apply tc_ | exact .here | apply Take1.there) ?_
  rintro v_ give_ ⟨rfl, rfl⟩ rs_ hrs_
  simp only [List.cons_append, List.nil_append] at hrs_
  subst hrs_
  unfold makeF
  by_cases h0 : (freeF T names).1 = 0
  · rw [if_neg (fun h => h h0)]
    obtain ⟨f1, f2, l, f3, f4⟩ := freeF_ok h0
    have e0 : dv L (freeF T names).1 (freeF T names).2.1 = ptr (L (freeF T names).2.1).b := if_pos h0
    rw [e0, h0]
    rw [← f2] at f4
    generalize (freeF T names).2.1 = d at *
    generalize (freeF T names).2.2 = nm at *
    by_cases hc : T.count = 40
    · rw [if_pos hc]
      repeat (first | (apply G.ex (hd := rfl); case h => (first | exact Ex.move rfl | exact Ex.nilCheck rfl | exact Ex.fieldB rfl | exact Ex.loadB rfl rfl | exact Ex.eqI rfl rfl | exact Ex.neI rfl rfl | exact Ex.extract rfl rfl | exact Ex.assign rfl)) | refine G.nil ?_ | refine GC.seq ?_ | refine GC.region ?_ | refine GC.block ?_ | refine GC.ret ?_ | refine GE.then_normal ?_ | refine GE.then_ret ?_ | refine GE.block_ret ?_ | refine GC.cond_yes rfl (by first | assumption | omega) ?_ | refine GC.cond_no rfl (by first | assumption | omega) ?_)
      refine GE.ret (by first | exact .inl rfl | exact .inr rfl) (res1 Tryz.results30 rfl) ⟨L, rfl, rfl⟩ (by repeat first | exact tn_ | apply td_ rfl | apply tc_ | exact .here | apply Take1.there) (by repeat (first | exact Subs.refl | refine Subs.skip ?_))
    · rw [if_neg hc]
      have hdl := nd_dir_lt f3
      have hdn : d ≠ T.ns.length := by omega
      have f3' : (⟨T.ns ++ [x], T.count + 1⟩ : Tr).nd d = .dir l := by rw [nd_snoc, if_neg hdn]; exact f3
      repeat ((fail_if_success (refine GC.region (id := 6) ?_)); first | (apply G.ex (hd := rfl); case h => (first | exact Ex.move rfl | exact Ex.nilCheck rfl | exact Ex.fieldB rfl | exact Ex.loadB rfl rfl | exact Ex.eqI rfl rfl | exact Ex.neI rfl rfl | exact Ex.extract rfl rfl | exact Ex.assign rfl)) | refine G.nil ?_ | refine GC.seq ?_ | refine GC.region ?_ | refine GC.block ?_ | refine GC.skip ?_ | refine GE.then_normal ?_ | refine GE.block_normal ?_ | refine GC.cond_no rfl (by first | assumption | omega) ?_)
      refine GC.conv (fun w_ H_ => Holds.grow k hx (T.count + 1) (H_.take (need := [.own (Star (ndR x V lx)), .own (NodesR T L)]) (by repeat first | exact tn_ | apply td_ rfl | apply tc_ | exact .here | apply Take1.there))) ?_
      try simp only [List.append_eq, List.nil_append, List.cons_append]
      generalize hL1 : updL L T.ns.length lx = L1
      generalize hT1 : (⟨T.ns ++ [x], T.count + 1⟩ : Tr) = T1
      rw [hT1] at f3'
      have hLd : L d = L1 d := by rw [← hL1]; exact (updL_ne lx hdn).symm
      have hL0 : (L 0).b = (L1 0).b := by rw [← hL1, updL_ne lx (by have := k.pos; omega)]
      have hvn : kv x lx.b = val T1 L1 T.ns.length := by rw [← hT1, ← hL1]; exact (val_new x lx _).symm
      rw [hLd, hvn]
      refine GC.conv (fun w_ H_ => Holds.dirOut (L := L1) f3' (H_.take (need := [.own (NodesR T1 L1)]) (by repeat first | exact tn_ | apply td_ rfl | apply tc_ | exact .here | apply Take1.there))) ?_
      try simp only [List.append_eq, List.nil_append, List.cons_append]
      repeat (first | (apply G.ex (hd := rfl); case h => (first | exact Ex.move rfl | exact Ex.nilCheck rfl | exact Ex.fieldB rfl | exact Ex.loadB rfl rfl)) | refine GC.region ?_)
      refine G.mapNew rfl rfl rfl (by repeat (first | exact Upd.here | apply Upd.there)) (lookV_none (val T1 L1) f4) ?_
      rw [entV_snoc (val T1 L1) l nm T.ns.length]
      refine G.conv (fun w_ H_ => Holds.dirIn (L := L1) (T.count + 1) f3' (H_.take (need := [.blk (L1 d).b 76 [.map (some (L1 d).m)], .own (MapB (L1 d).m (entV (val T1 L1) (l ++ [(nm, T.ns.length)])) ((L1 d).bs ++ [(L1 d).clk]) ((L1 d).clk + 1)), .own (Hole T1 L1 d)]) (by repeat first | exact tn_ | apply td_ rfl | apply tc_ | exact .here | apply Take1.there))) ?_
      try simp only [List.append_eq, List.nil_append, List.cons_append]
      have hT2 : (⟨T1.ns.set d (.dir (l ++ [(nm, T.ns.length)])), T.count + 1⟩ : Tr) = ⟨(T.add d nm T.ns.length).ns ++ [x], T.count + 1⟩ := by
        rw [add_ns f3, ← hT1]
        show (⟨(T.ns ++ [x]).set d _, _⟩ : Tr) = ⟨T.ns.set d _ ++ [x], _⟩
        rw [List.set_append_left _ _ hdl]
      rw [hT2]
      generalize hL2 : updL L1 d { L1 d with bs := (L1 d).bs ++ [(L1 d).clk], clk := (L1 d).clk + 1 } = L2
      have hL02 : (L 0).b = (L2 0).b := by rw [hL0, ← hL2]; exact (updL_b (L := L1) (i := d) (x := { L1 d with bs := (L1 d).bs ++ [(L1 d).clk], clk := (L1 d).clk + 1 }) rfl 0).symm
      repeat (first | refine G.storeB rfl rfl rfl rfl rfl ?_ | (apply G.ex (hd := rfl); case h => (first | exact Ex.move rfl | exact Ex.nilCheck rfl | exact Ex.fieldB rfl | exact Ex.loadB rfl rfl | exact Ex.add rfl rfl (by omega) | exact Ex.assign rfl)) | refine G.nil ?_ | refine GC.seq ?_ | refine GC.region ?_ | refine GC.ret ?_ | refine GE.then_normal ?_)
      rw [hL02]
      refine GE.ret (by first | exact .inl rfl | exact .inr rfl) (res1 Tryz.results30 rfl) ⟨L2, rfl, rfl⟩ (by repeat first | exact tn_ | apply td_ rfl | apply tc_ | exact .here | apply Take1.there) (by repeat (first | exact Subs.refl | refine Subs.skip ?_))
  · rw [if_pos h0]
    have e0 : dv L (freeF T names).1 (freeF T names).2.1 = .pointer none := if_neg h0
    rw [e0]
    repeat (first | (apply G.ex (hd := rfl); case h => (first | exact Ex.move rfl | exact Ex.neI rfl rfl | exact Ex.extract rfl rfl | exact Ex.assign rfl)) | refine G.nil ?_ | refine GC.seq ?_ | refine GC.region ?_ | refine GC.block ?_ | refine GC.ret ?_ | refine GE.then_normal ?_ | refine GE.then_ret ?_ | refine GE.block_ret ?_ | refine GC.cond_yes rfl (by first | assumption | omega) ?_)
    refine GE.ret (by first | exact .inl rfl | exact .inr rfl) (res1 Tryz.results30 rfl) ⟨L, rfl, rfl⟩ (by repeat first | exact tn_ | apply td_ rfl | apply tc_ | exact .here | apply Take1.there) (by repeat (first | exact Subs.refl | refine Subs.skip ?_))
theorem Holds.delIn {w0 w : World} {rs : List Res} {T : Tr} {L : Nat → Loc} {p i : Nat} {l : List (Nm × Nat)} {nm : Nm} (c : Int) (hl : T.nd p = .dir l) (he : l.eraseIdx i = l.filter fun e => decide (¬ e.1 = nm))
    (H : Holds w0 w (.blk (L p).b 76 [.map (some (L p).m)] :: .own (MapB (L p).m ((entV (val T L) l).eraseIdx i) ((L p).bs.eraseIdx i) (L p).clk) :: .own (Hole T L p) :: rs)) :
    Holds w0 w (.own (NodesR ⟨(T.del p nm).ns, c⟩ (updL L p { L p with bs := (L p).bs.eraseIdx i, clk := (L p).clk })) :: rs) := by
  rw [del_ns hl, ← he]
  rw [entV_erase] at H
  exact Holds.dirIn c hl H
set_option maxHeartbeats 4000000 in
theorem remove_sp (T : Tr) (L : Nat → Loc) (bt : Nat) (k : TrOk T) (names : List Nm) (r : Res) (ao : Option Addr) (n c : Nat) [RdR r ao n c 1 (flat eO names)] (hn : names.length = n) (hk : NamesOk names) :
    Spec Tryz.prog 31 [ptr bt, .slice ao n c] [TreeB T L bt, .own (NodesR T L), r] fun v give => ∃ L', v = .int .i64 (removeF T names).1 ∧ give = [TreeB (removeF T names).2 L' bt, .own (NodesR (removeF T names).2 L'), r] := by
  have hcnt := k.cnt
  have h12 := hk.1
  obtain ⟨R, hR⟩ : ∃ R, removeF T names = R := ⟨_, rfl⟩
  rw [hR]
  unfold removeF at hR
  refine Spec.intro Tryz.func31 rfl Tryz.ntmps31 rfl fun w0 rest rs_ hrs_ => ?_
  simp only [List.cons_append, List.nil_append] at hrs_
  subst hrs_
  by_cases h0 : names = []
  · rw [if_pos h0] at hR
    subst hR h0
    obtain rfl : 0 = n := hn
    repeat (first | (apply G.ex (hd := rfl); case h => (first | exact Ex.move rfl | exact Ex.eqI rfl rfl | exact Ex.lenSl rfl | exact Ex.assign rfl)) | refine G.nil ?_ | refine GC.seq ?_ | refine GC.region ?_ | refine GC.ret ?_ | refine GE.then_normal ?_ | refine GE.then_ret ?_ | refine GC.cond_yes rfl (by first | assumption | omega) ?_)
    refine GE.ret (by first | exact .inl rfl | exact .inr rfl) (res1 Tryz.results31 rfl) ⟨L, rfl, rfl⟩ (by repeat first | exact tn_ | apply td_ rfl | apply tc_ | exact .here | apply Take1.there) (by repeat (first | exact Subs.refl | refine Subs.skip ?_))
  · have hpos : 0 < names.length := List.length_pos_iff.2 h0
    rw [if_neg h0] at hR
    repeat (first | (apply G.ex (hd := rfl); case h => (first | exact Ex.move rfl | exact Ex.eqI rfl rfl | exact Ex.lenSl rfl | exact Ex.assign rfl)) | refine G.nil ?_ | refine GC.seq ?_ | refine GC.region ?_ | refine GC.skip ?_ | refine GE.then_normal ?_ | refine GC.cond_no rfl (by first | assumption | omega) ?_)
    first | refine G.call (caps := []) (find_ow T L bt k names r ao n c hn hk false) rfl rfl rfl rfl (by repeat first | exact tn_ | apply td_ rfl | apply tc_ | exact .here | apply Take1.there) ?_ | refine G.callU (caps := []) (find_ow T L bt k names r ao n c hn hk false) rfl rfl rfl (by repeat first | exact tn_ | apply td_ rfl | apply tc_ | exact .here | apply Take1.there) ?_
    rintro v_ give_ ⟨rfl, rfl⟩ rs_ hrs_
    simp only [List.cons_append, List.nil_append] at hrs_
    subst hrs_
    by_cases h1 : (T.find names false).1 = 0
    · rw [if_neg (fun h => h h1)] at hR
      obtain ⟨l, p1, p2, p3⟩ := place_of_find h0 (Prod.ext h1 rfl : T.find names false = (0, (T.find names false).2))
      have e0 : fv T L (T.find names false) = val T L (T.find names false).2 := if_pos h1
      rw [e0, h1]
      generalize (T.find names false).2 = x at *
      repeat ((fail_if_success (refine GC.seq ?_; refine GC.region (id := 6) ?_)); first | (apply G.ex (hd := rfl); case h => (first | exact Ex.move rfl | exact Ex.neI rfl rfl | exact Ex.extract rfl rfl | exact Ex.assign rfl)) | refine G.nil ?_ | refine GC.seq ?_ | refine GC.region ?_ | refine GC.skip ?_ | refine GE.then_normal ?_ | refine GC.cond_no rfl (by first | assumption | omega) ?_)
      refine GC.meet (ι := Unit) (fun _ => ¬ 0 < (T.names x).length) (fun _ => [(0, ptr bt), (1, .slice ao n c)]) (fun _ => [TreeB T L bt, .own (NodesR T L), r]) rest ?_ ?_
      · cases hnd : T.nd x with
        | dir es =>
          rw [val_dir hnd]
          rw [names_of hnd] at hR ⊢
          repeat (first | (apply G.ex (hd := rfl); case h => (first | exact Ex.move rfl | exact Ex.nilCheck rfl | exact Ex.fieldB rfl | exact Ex.extract rfl rfl | exact Ex.assign rfl | exact Ex.asYes rfl)) | refine G.yes rfl rfl ?_ | refine G.nil ?_ | refine GC.seq ?_ | refine GC.region ?_ | refine GE.then_normal ?_)
          refine G.ex (Ex.loadH rfl (own_dir (List.mem_cons_of_mem _ (List.mem_cons_self ..)) hnd)) rfl ?_
          repeat (first | refine G.yes rfl rfl ?_)
          refine G.ex (Ex.lenMapH rfl (own_map (List.mem_cons_of_mem _ (List.mem_cons_self ..)) hnd)) rfl ?_
          have hel : (entV (val T L) es).length = es.length := List.length_map ..
          rw [hel]
          by_cases h2 : 0 < es.length
          · rw [if_pos h2] at hR
            subst hR
            repeat (first | (apply G.ex (hd := rfl); case h => (first | exact Ex.gtr rfl rfl | exact Ex.assign rfl | exact Ex.pickLT rfl rfl)) | refine G.yes rfl rfl ?_ | refine G.nil ?_ | refine GC.seq ?_ | refine GC.region ?_ | refine GC.ret ?_ | refine GE.then_normal ?_ | refine GE.then_ret ?_ | refine GC.cond_yes rfl (by first | assumption | omega) ?_)
            refine GE.ret (by first | exact .inl rfl | exact .inr rfl) (res1 Tryz.results31 rfl) ⟨L, rfl, rfl⟩ (by repeat first | exact tn_ | apply td_ rfl | apply tc_ | exact .here | apply Take1.there) (by repeat (first | exact Subs.refl | refine Subs.skip ?_))
          · repeat (first | (apply G.ex (hd := rfl); case h => (first | exact Ex.gtr rfl rfl | exact Ex.pickLT rfl rfl)) | refine G.yes rfl rfl ?_ | refine G.nil ?_ | refine GC.skip ?_ | refine GE.then_normal ?_ | refine GC.cond_no rfl (by first | assumption | omega) ?_)
            refine GE.meet () h2 (by simp only [fits]; repeat (first | exact trivial | refine And.intro rfl ?_)) (by repeat first | exact tn_ | apply td_ rfl | apply tc_ | exact .here | apply Take1.there) (by repeat (first | exact Subs.refl | refine Subs.skip ?_))
        | file d =>
          rw [val_file hnd]
          repeat (first | (apply G.ex (hd := rfl); case h => (first | exact Ex.move rfl | exact Ex.extract rfl rfl | exact Ex.assign rfl | exact Ex.pickLF rfl rfl | exact Ex.asNo rfl rfl)) | refine G.l_tf rfl rfl rfl ?_ | refine G.nil ?_ | refine GC.seq ?_ | refine GC.region ?_ | refine GC.skip ?_ | refine GE.then_normal ?_ | refine GC.cond_f rfl ?_)
          have hnm : T.names x = [] := by unfold Tr.names; rw [hnd]
          refine GE.meet () (by rw [hnm]; exact Nat.lt_irrefl 0) (by simp only [fits]; repeat (first | exact trivial | refine And.intro rfl ?_)) (by repeat first | exact tn_ | apply td_ rfl | apply tc_ | exact .here | apply Take1.there) (by repeat (first | exact Subs.refl | refine Subs.skip ?_))
        | link to =>
          rw [val_link hnd]
          repeat (first | (apply G.ex (hd := rfl); case h => (first | exact Ex.move rfl | exact Ex.extract rfl rfl | exact Ex.assign rfl | exact Ex.pickLF rfl rfl | exact Ex.asNo rfl rfl)) | refine G.l_tf rfl rfl rfl ?_ | refine G.nil ?_ | refine GC.seq ?_ | refine GC.region ?_ | refine GC.skip ?_ | refine GE.then_normal ?_ | refine GC.cond_f rfl ?_)
          have hnm : T.names x = [] := by unfold Tr.names; rw [hnd]
          refine GE.meet () (by rw [hnm]; exact Nat.lt_irrefl 0) (by simp only [fits]; repeat (first | exact trivial | refine And.intro rfl ?_)) (by repeat first | exact tn_ | apply td_ rfl | apply tc_ | exact .here | apply Take1.there) (by repeat (first | exact Subs.refl | refine Subs.skip ?_))
      · rintro u h2 fr_ rs_ hfr_ hrs_
        simp only [List.cons_append, List.nil_append] at hfr_ hrs_
        subst hfr_ hrs_
        rw [if_neg h2] at hR
        obtain ⟨i, _, q2, q3⟩ := del_erase (k.nodup _ _ p2) p3
        have q3' := q3 (val T L) 0
        rw [Nat.zero_add] at q3'
        have hla := last_at h0
        rw [hn] at hla
        repeat (first | (apply G.ex (hd := rfl); case h => (first | exact Ex.move rfl)) | refine GC.seq ?_ | refine GC.region ?_ | refine GE.then_normal ?_)
        first | refine G.call (caps := []) (place_ow T L bt k names r ao n c hn hk h0) rfl rfl rfl rfl (by repeat first | exact tn_ | apply td_ rfl | apply tc_ | exact .here | apply Take1.there) ?_ | refine G.callU (caps := []) (place_ow T L bt k names r ao n c hn hk h0) rfl rfl rfl (by repeat first | exact tn_ | apply td_ rfl | apply tc_ | exact .here | apply Take1.there) ?_
        rintro v_ give_ ⟨rfl, rfl⟩ rs_ hrs_
        simp only [List.cons_append, List.nil_append] at hrs_
        subst hrs_
        have e1 : dv L (placeF T names).1 (placeF T names).2 = ptr (L (placeF T names).2).b := if_pos p1
        rw [e1, p1]
        generalize (placeF T names).2 = p at *
        generalize names.getLastD [] = nm at *
        repeat ((fail_if_success (refine GC.region (id := 10) ?_)); first | (apply G.ex (hd := rfl); case h => (first | exact Ex.move rfl | exact Ex.extract rfl rfl | exact Ex.assign rfl)) | refine G.nil ?_ | refine GC.seq ?_ | refine GE.then_normal ?_)
        refine GC.conv (fun w_ H_ => Holds.dirOut p2 (H_.take (need := [.own (NodesR T L)]) (by repeat first | exact tn_ | apply td_ rfl | apply tc_ | exact .here | apply Take1.there))) ?_
        try simp only [List.append_eq, List.nil_append, List.cons_append]
        refine GC.drawA [] [.blk (L p).b 76 [.map (some (L p).m)], r] (by repeat first | exact tn_ | apply td_ rfl | apply tc_ | exact .here | apply Take1.there) (by kernel_rfl) ?_
        first | (apply GA.take [] (hD := .inl rfl) (hsub := ⟨_, Takes.nil⟩) (i := 0) (hi := rfl) (hs := by kernel_rfl) (hfr := by kernel_rfl) (hr := by kernel_rfl) (hQ := np_) (hd := rfl); case hx => (first | exact Ex.move rfl))
        first | (apply GA.take [] (hD := .inl rfl) (hsub := ⟨_, Takes.nil⟩) (i := 1) (hi := rfl) (hs := by kernel_rfl) (hfr := by kernel_rfl) (hr := by kernel_rfl) (hQ := np_) (hd := rfl); case hx => (first | exact Ex.nilCheck rfl))
        first | (apply GA.take [] (hD := .inl rfl) (hsub := ⟨_, Takes.nil⟩) (i := 2) (hi := rfl) (hs := by kernel_rfl) (hfr := by kernel_rfl) (hr := by kernel_rfl) (hQ := np_) (hd := rfl); case hx => (first | exact Ex.fieldB rfl))
        first | (apply GA.take _ (hD := .inr ⟨rfl, by kernel_rfl⟩) (hsub := ⟨_, (by repeat first | exact tn_ | apply td_ rfl | apply tc_ | exact .here | apply Take1.there)⟩) (i := 3) (hi := rfl) (hs := by kernel_rfl) (hfr := by kernel_rfl) (hr := by kernel_rfl) (hQ := np_) (hd := rfl); case hx => (first | exact Ex.loadB rfl rfl))
        first | (apply GA.take [] (hD := .inl rfl) (hsub := ⟨_, Takes.nil⟩) (i := 4) (hi := rfl) (hs := by kernel_rfl) (hfr := by kernel_rfl) (hr := by kernel_rfl) (hQ := np_) (hd := rfl); case hx => (first | exact Ex.move rfl))
        first | (apply GA.take [] (hD := .inl rfl) (hsub := ⟨_, Takes.nil⟩) (i := 5) (hi := rfl) (hs := by kernel_rfl) (hfr := by kernel_rfl) (hr := by kernel_rfl) (hQ := np_) (hd := rfl); case hx => (first | exact Ex.move rfl))
        first | (apply GA.take [] (hD := .inl rfl) (hsub := ⟨_, Takes.nil⟩) (i := 6) (hi := rfl) (hs := by kernel_rfl) (hfr := by kernel_rfl) (hr := by kernel_rfl) (hQ := np_) (hd := rfl); case hx => (first | exact Ex.lenSl rfl))
        first | (apply GA.take [] (hD := .inl rfl) (hsub := ⟨_, Takes.nil⟩) (i := 7) (hi := rfl) (hs := by kernel_rfl) (hfr := by kernel_rfl) (hr := by kernel_rfl) (hQ := np_) (hd := rfl); case hx => (first | exact Ex.sub rfl rfl (by omega)))
        first | (apply GA.take _ (hD := .inr ⟨rfl, by kernel_rfl⟩) (hsub := ⟨_, (by repeat first | exact tn_ | apply td_ rfl | apply tc_ | exact .here | apply Take1.there)⟩) (i := 8) (hi := rfl) (hs := by kernel_rfl) (hfr := by kernel_rfl) (hr := by kernel_rfl) (hQ := np_) (hd := rfl); case hx => (first | exact Ex.indexI rfl rfl (by omega)))
        first | (apply GA.take _ (hD := .inr ⟨rfl, by kernel_rfl⟩) (hsub := ⟨_, (by repeat first | exact tn_ | apply td_ rfl | apply tc_ | exact .here | apply Take1.there)⟩) (i := 9) (hi := rfl) (hs := by kernel_rfl) (hfr := by kernel_rfl) (hr := by kernel_rfl) (hQ := np_) (hd := rfl); case hx => (first | exact Ex.loadT0 rfl (by first | omega | (simp; done) | (simp; omega)) rfl))
        rw [show ((n : Int) - 1).toNat = n - 1 by omega, hla]
        refine GA.one (i := 10) (by kernel_rfl) rfl ?_
        refine G.mapDel rfl rfl (by repeat (first | exact Upd.here | apply Upd.there)) q3' ?_
        try refine G.nil ?_
        refine GA.back (by first | exact .inl (by decide) | exact .inr ⟨_, (by repeat first | exact tn_ | apply td_ rfl | apply tc_ | exact .here | apply Take1.there)⟩) ?_
        refine GA.done (by kernel_rfl) ?_
        refine GE.conv (fun w_ H_ => Holds.delIn (T.count - 1) p2 q2 (H_.take (need := [.blk (L p).b 76 [.map (some (L p).m)], .own (MapB (L p).m ((entV (val T L) l).eraseIdx i) ((L p).bs.eraseIdx i) (L p).clk), .own (Hole T L p)]) (by repeat first | exact tn_ | apply td_ rfl | apply tc_ | exact .here | apply Take1.there))) ?_
        try simp only [List.append_eq, List.nil_append, List.cons_append]
        generalize hL2 : updL L p { L p with bs := (L p).bs.eraseIdx i, clk := (L p).clk } = L2
        have hL02 : (L 0).b = (L2 0).b := by rw [← hL2]; exact (updL_b (L := L) (i := p) (x := { L p with bs := (L p).bs.eraseIdx i, clk := (L p).clk }) rfl 0).symm
        repeat (first | refine G.storeB rfl rfl rfl rfl rfl ?_ | (apply G.ex (hd := rfl); case h => (first | exact Ex.move rfl | exact Ex.nilCheck rfl | exact Ex.fieldB rfl | exact Ex.loadB rfl rfl | exact Ex.sub rfl rfl (by omega) | exact Ex.assign rfl)) | refine G.nil ?_ | refine GC.seq ?_ | refine GC.region ?_ | refine GC.ret ?_ | refine GE.then_normal ?_)
        rw [hL02]
        subst hR
        refine GE.ret (by first | exact .inl rfl | exact .inr rfl) (res1 Tryz.results31 rfl) ⟨L2, rfl, rfl⟩ (by repeat first | exact tn_ | apply td_ rfl | apply tc_ | exact .here | apply Take1.there) (by repeat (first | exact Subs.refl | refine Subs.skip ?_))
    · rw [if_pos h1] at hR
      subst hR
      have e0 : fv T L (T.find names false) = .nilIface := if_neg h1
      rw [e0]
      repeat (first | (apply G.ex (hd := rfl); case h => (first | exact Ex.move rfl | exact Ex.neI rfl rfl | exact Ex.extract rfl rfl | exact Ex.assign rfl)) | refine G.nil ?_ | refine GC.seq ?_ | refine GC.region ?_ | refine GC.ret ?_ | refine GE.then_normal ?_ | refine GE.then_ret ?_ | refine GC.cond_yes rfl (by first | assumption | omega) ?_)
      refine GE.ret (by first | exact .inl rfl | exact .inr rfl) (res1 Tryz.results31 rfl) ⟨L, rfl, rfl⟩ (by repeat first | exact tn_ | apply td_ rfl | apply tc_ | exact .here | apply Take1.there) (by repeat (first | exact Subs.refl | refine Subs.skip ?_))
open Classical in
set_option maxHeartbeats 8000000 in
theorem rename_sp (T : Tr) (L : Nat → Loc) (bt : Nat) (k : TrOk T) (names : List Nm) (r : Res) (ao : Option Addr) (n c : Nat) [RdR r ao n c 1 (flat eO names)] (hn : names.length = n) (hk : NamesOk names) (to : Nm) (hto : to.length ≤ 9223372036854775807) :
    Spec Tryz.prog 32 [ptr bt, .slice ao n c, .string (sOf to)] [TreeB T L bt, .own (NodesR T L), r] fun v give => ∃ L', v = .int .i64 (renameF T names to).1 ∧ give = [TreeB (renameF T names to).2 L' bt, .own (NodesR (renameF T names to).2 L'), r] := by
  have hcnt := k.cnt
  have h12 := hk.1
  obtain ⟨R, hR⟩ : ∃ R, renameF T names to = R := ⟨_, rfl⟩
  rw [hR]
  unfold renameF at hR
  refine Spec.intro Tryz.func32 rfl Tryz.ntmps32 rfl fun w0 rest rs_ hrs_ => ?_
  simp only [List.cons_append, List.nil_append] at hrs_
  subst hrs_
  by_cases h0 : names = []
  · rw [if_pos h0] at hR
    subst hR h0
    obtain rfl : 0 = n := hn
    repeat (first | (apply G.ex (hd := rfl); case h => (first | exact Ex.move rfl | exact Ex.eqI rfl rfl | exact Ex.lenSl rfl | exact Ex.assign rfl)) | refine G.nil ?_ | refine GC.seq ?_ | refine GC.region ?_ | refine GC.ret ?_ | refine GE.then_normal ?_ | refine GE.then_ret ?_ | refine GC.cond_yes rfl (by first | assumption | omega) ?_)
    refine GE.ret (by first | exact .inl rfl | exact .inr rfl) (res1 Tryz.results32 rfl) ⟨L, rfl, rfl⟩ (by repeat first | exact tn_ | apply td_ rfl | apply tc_ | exact .here | apply Take1.there) (by repeat (first | exact Subs.refl | refine Subs.skip ?_))
  · have hpos : 0 < names.length := List.length_pos_iff.2 h0
    rw [if_neg h0] at hR
    repeat (first | (apply G.ex (hd := rfl); case h => (first | exact Ex.move rfl | exact Ex.eqI rfl rfl | exact Ex.lenSl rfl | exact Ex.assign rfl)) | refine G.nil ?_ | refine GC.seq ?_ | refine GC.region ?_ | refine GC.skip ?_ | refine GE.then_normal ?_ | refine GC.cond_no rfl (by first | assumption | omega) ?_)
    first | refine G.call (caps := []) (find_ow T L bt k names r ao n c hn hk false) rfl rfl rfl rfl (by repeat first | exact tn_ | apply td_ rfl | apply tc_ | exact .here | apply Take1.there) ?_ | refine G.callU (caps := []) (find_ow T L bt k names r ao n c hn hk false) rfl rfl rfl (by repeat first | exact tn_ | apply td_ rfl | apply tc_ | exact .here | apply Take1.there) ?_
    rintro v_ give_ ⟨rfl, rfl⟩ rs_ hrs_
    simp only [List.cons_append, List.nil_append] at hrs_
    subst hrs_
    by_cases h1 : (T.find names false).1 = 0
    · rw [if_neg (fun h => h h1)] at hR
      obtain ⟨l, p1, p2, p3⟩ := place_of_find h0 (Prod.ext h1 rfl : T.find names false = (0, (T.find names false).2))
      have e0 : fv T L (T.find names false) = val T L (T.find names false).2 := if_pos h1
      rw [e0, h1]
      generalize (T.find names false).2 = x at *
      obtain ⟨a, e, ha⟩ : ∃ a e, walkF [] to = (a, e) := ⟨_, _, rfl⟩
      rw [ha] at hR
      repeat (first | (apply G.ex (hd := rfl); case h => (first | exact Ex.move rfl | exact Ex.neI rfl rfl | exact Ex.extract rfl rfl | exact Ex.assign rfl)) | refine G.nil ?_ | refine GC.seq ?_ | refine GC.region ?_ | refine GC.skip ?_ | refine GE.then_normal ?_ | refine GC.cond_no rfl (by first | assumption | omega) ?_)
      first | refine G.call (caps := []) (clean_at to hto a e ha) rfl rfl rfl rfl (by repeat first | exact tn_ | apply td_ rfl | apply tc_ | exact .here | apply Take1.there) ?_ | refine G.callU (caps := []) (clean_at to hto a e ha) rfl rfl rfl (by repeat first | exact tn_ | apply td_ rfl | apply tc_ | exact .here | apply Take1.there) ?_
      rintro v_ give_ ⟨oa, oc, rfl, ha12, rfl⟩ rs_ hrs_
      simp only [List.cons_append, List.nil_append] at hrs_
      subst hrs_
      by_cases he : e = 0
      · rw [if_neg (fun h => h he)] at hR
        subst he
        have hka := walk_ok to a ha
        repeat (first | (apply G.ex (hd := rfl); case h => (first | exact Ex.move rfl | exact Ex.neI rfl rfl | exact Ex.extract rfl rfl | exact Ex.assign rfl)) | refine G.nil ?_ | refine GC.seq ?_ | refine GC.region ?_ | refine GC.skip ?_ | refine GE.then_normal ?_ | refine GC.cond_no rfl (by first | assumption | omega) ?_)
        first | refine G.call (caps := []) (free_ow T L bt k a (.vec 9 1 oa a.length oc (flat eO a)) oa a.length oc rfl hka) rfl rfl rfl rfl (by repeat first | exact tn_ | apply td_ rfl | apply tc_ | exact .here | apply Take1.there) ?_ | refine G.callU (caps := []) (free_ow T L bt k a (.vec 9 1 oa a.length oc (flat eO a)) oa a.length oc rfl hka) rfl rfl rfl (by repeat first | exact tn_ | apply td_ rfl | apply tc_ | exact .here | apply Take1.there) ?_
        rintro v_ give_ ⟨rfl, rfl⟩ rs_ hrs_
        simp only [List.cons_append, List.nil_append] at hrs_
        subst hrs_
        simp only at hR
        by_cases h3 : (freeF T a).1 = 0
        · rw [if_neg (fun h => h h3)] at hR
          obtain ⟨f1, f2, m, f3, f4⟩ := freeF_ok h3
          have e3 : dv L (freeF T a).1 (freeF T a).2.1 = ptr (L (freeF T a).2.1).b := if_pos h3
          rw [e3, h3]
          rw [← f2] at f4
          generalize (freeF T a).2.1 = d at *
          generalize (freeF T a).2.2 = nm at *
          have hx := (k.ins _ _ p2 _ _ (ent_mem p3)).2.1
          repeat (first | (apply G.ex (hd := rfl); case h => (first | exact Ex.move rfl | exact Ex.neI rfl rfl | exact Ex.extract rfl rfl | exact Ex.assign rfl)) | refine G.nil ?_ | refine GC.seq ?_ | refine GC.region ?_ | refine GC.block ?_ | refine GE.then_normal ?_ | refine GC.cond_no rfl (by first | assumption | omega) ?_)
          first | refine G.call (caps := []) (within_ow T L bt k x d f3 hx) rfl rfl rfl rfl (by repeat first | exact tn_ | apply td_ rfl | apply tc_ | exact .here | apply Take1.there) ?_ | refine G.callU (caps := []) (within_ow T L bt k x d f3 hx) rfl rfl rfl (by repeat first | exact tn_ | apply td_ rfl | apply tc_ | exact .here | apply Take1.there) ?_
          rintro v_ give_ ⟨rfl, rfl⟩ rs_ hrs_
          simp only [List.cons_append, List.nil_append] at hrs_
          subst hrs_
          by_cases h4 : Reach T x d
          · rw [if_pos h4] at hR
            rw [decide_eq_true h4]
            subst hR
            repeat (first | (apply G.ex (hd := rfl); case h => (first | exact Ex.assign rfl)) | refine G.nil ?_ | refine GC.seq ?_ | refine GC.region ?_ | refine GC.ret ?_ | refine GE.then_normal ?_ | refine GE.then_ret ?_ | refine GE.block_ret ?_ | refine GC.cond_t rfl ?_)
            refine GE.ret (by first | exact .inl rfl | exact .inr rfl) (res1 Tryz.results32 rfl) ⟨L, rfl, rfl⟩ (by repeat first | exact tn_ | apply td_ rfl | apply tc_ | exact .here | apply Take1.there) (by repeat (first | exact Subs.refl | refine Subs.skip ?_))
          · rw [if_neg h4] at hR
            rw [decide_eq_false h4]
            obtain ⟨i, _, q2, q3⟩ := del_erase (k.nodup _ _ p2) p3
            have q3' := q3 (val T L) 0
            rw [Nat.zero_add] at q3'
            have hla := last_at h0
            rw [hn] at hla
            repeat (first | (apply G.ex (hd := rfl); case h => (first | exact Ex.move rfl | exact Ex.assign rfl)) | refine G.nil ?_ | refine GC.seq ?_ | refine GC.region ?_ | refine GC.skip ?_ | refine GE.then_normal ?_ | refine GE.block_normal ?_ | refine GC.cond_f rfl ?_)
            first | refine G.call (caps := []) (place_ow T L bt k names r ao n c hn hk h0) rfl rfl rfl rfl (by repeat first | exact tn_ | apply td_ rfl | apply tc_ | exact .here | apply Take1.there) ?_ | refine G.callU (caps := []) (place_ow T L bt k names r ao n c hn hk h0) rfl rfl rfl (by repeat first | exact tn_ | apply td_ rfl | apply tc_ | exact .here | apply Take1.there) ?_
            rintro v_ give_ ⟨rfl, rfl⟩ rs_ hrs_
            simp only [List.cons_append, List.nil_append] at hrs_
            subst hrs_
            have e1 : dv L (placeF T names).1 (placeF T names).2 = ptr (L (placeF T names).2).b := if_pos p1
            rw [e1, p1]
            generalize (placeF T names).2 = p at *
            generalize names.getLastD [] = nm0 at *
            repeat ((fail_if_success (refine GC.region (id := 15) ?_)); first | (apply G.ex (hd := rfl); case h => (first | exact Ex.move rfl | exact Ex.extract rfl rfl | exact Ex.assign rfl)) | refine G.nil ?_ | refine GC.seq ?_ | refine GE.then_normal ?_)
            refine GC.conv (fun w_ H_ => Holds.dirOut p2 (H_.take (need := [.own (NodesR T L)]) (by repeat first | exact tn_ | apply td_ rfl | apply tc_ | exact .here | apply Take1.there))) ?_
            try simp only [List.append_eq, List.nil_append, List.cons_append]
            refine GC.drawA [] [.blk (L p).b 76 [.map (some (L p).m)], r] (by repeat first | exact tn_ | apply td_ rfl | apply tc_ | exact .here | apply Take1.there) (by kernel_rfl) ?_
            first | (apply GA.take [] (hD := .inl rfl) (hsub := ⟨_, Takes.nil⟩) (i := 0) (hi := rfl) (hs := by kernel_rfl) (hfr := by kernel_rfl) (hr := by kernel_rfl) (hQ := np_) (hd := rfl); case hx => (first | exact Ex.move rfl))
            first | (apply GA.take [] (hD := .inl rfl) (hsub := ⟨_, Takes.nil⟩) (i := 1) (hi := rfl) (hs := by kernel_rfl) (hfr := by kernel_rfl) (hr := by kernel_rfl) (hQ := np_) (hd := rfl); case hx => (first | exact Ex.nilCheck rfl))
            first | (apply GA.take [] (hD := .inl rfl) (hsub := ⟨_, Takes.nil⟩) (i := 2) (hi := rfl) (hs := by kernel_rfl) (hfr := by kernel_rfl) (hr := by kernel_rfl) (hQ := np_) (hd := rfl); case hx => (first | exact Ex.fieldB rfl))
            first | (apply GA.take _ (hD := .inr ⟨rfl, by kernel_rfl⟩) (hsub := ⟨_, (by repeat first | exact tn_ | apply td_ rfl | apply tc_ | exact .here | apply Take1.there)⟩) (i := 3) (hi := rfl) (hs := by kernel_rfl) (hfr := by kernel_rfl) (hr := by kernel_rfl) (hQ := np_) (hd := rfl); case hx => (first | exact Ex.loadB rfl rfl))
            first | (apply GA.take [] (hD := .inl rfl) (hsub := ⟨_, Takes.nil⟩) (i := 4) (hi := rfl) (hs := by kernel_rfl) (hfr := by kernel_rfl) (hr := by kernel_rfl) (hQ := np_) (hd := rfl); case hx => (first | exact Ex.move rfl))
            first | (apply GA.take [] (hD := .inl rfl) (hsub := ⟨_, Takes.nil⟩) (i := 5) (hi := rfl) (hs := by kernel_rfl) (hfr := by kernel_rfl) (hr := by kernel_rfl) (hQ := np_) (hd := rfl); case hx => (first | exact Ex.move rfl))
            first | (apply GA.take [] (hD := .inl rfl) (hsub := ⟨_, Takes.nil⟩) (i := 6) (hi := rfl) (hs := by kernel_rfl) (hfr := by kernel_rfl) (hr := by kernel_rfl) (hQ := np_) (hd := rfl); case hx => (first | exact Ex.lenSl rfl))
            first | (apply GA.take [] (hD := .inl rfl) (hsub := ⟨_, Takes.nil⟩) (i := 7) (hi := rfl) (hs := by kernel_rfl) (hfr := by kernel_rfl) (hr := by kernel_rfl) (hQ := np_) (hd := rfl); case hx => (first | exact Ex.sub rfl rfl (by omega)))
            first | (apply GA.take _ (hD := .inr ⟨rfl, by kernel_rfl⟩) (hsub := ⟨_, (by repeat first | exact tn_ | apply td_ rfl | apply tc_ | exact .here | apply Take1.there)⟩) (i := 8) (hi := rfl) (hs := by kernel_rfl) (hfr := by kernel_rfl) (hr := by kernel_rfl) (hQ := np_) (hd := rfl); case hx => (first | exact Ex.indexI rfl rfl (by omega)))
            first | (apply GA.take _ (hD := .inr ⟨rfl, by kernel_rfl⟩) (hsub := ⟨_, (by repeat first | exact tn_ | apply td_ rfl | apply tc_ | exact .here | apply Take1.there)⟩) (i := 9) (hi := rfl) (hs := by kernel_rfl) (hfr := by kernel_rfl) (hr := by kernel_rfl) (hQ := np_) (hd := rfl); case hx => (first | exact Ex.loadT0 rfl (by first | omega | (simp; done) | (simp; omega)) rfl))
            rw [show ((n : Int) - 1).toNat = n - 1 by omega, hla]
            refine GA.one (i := 10) (by kernel_rfl) rfl ?_
            refine G.mapDel rfl rfl (by repeat (first | exact Upd.here | apply Upd.there)) q3' ?_
            try refine G.nil ?_
            refine GA.back (by first | exact .inl (by decide) | exact .inr ⟨_, (by repeat first | exact tn_ | apply td_ rfl | apply tc_ | exact .here | apply Take1.there)⟩) ?_
            refine GA.done (by kernel_rfl) ?_
            refine GE.conv (fun w_ H_ => Holds.delIn T.count p2 q2 (H_.take (need := [.blk (L p).b 76 [.map (some (L p).m)], .own (MapB (L p).m ((entV (val T L) l).eraseIdx i) ((L p).bs.eraseIdx i) (L p).clk), .own (Hole T L p)]) (by repeat first | exact tn_ | apply td_ rfl | apply tc_ | exact .here | apply Take1.there))) ?_
            try simp only [List.append_eq, List.nil_append, List.cons_append]
            have hb1 : ∀ j, (updL L p { L p with bs := (L p).bs.eraseIdx i, clk := (L p).clk } j).b = (L j).b := updL_b (L := L) (i := p) (x := { L p with bs := (L p).bs.eraseIdx i, clk := (L p).clk }) rfl
            have hval : val ⟨(T.del p nm0).ns, T.count⟩ (updL L p { L p with bs := (L p).bs.eraseIdx i, clk := (L p).clk }) = val T L := by
              rw [del_ns p2]
              exact val_set (T := T) (L := L) (i := p) (y := { L p with bs := (L p).bs.eraseIdx i, clk := (L p).clk }) T.count rfl (fun b => by rw [p2]; rfl)
            generalize hL1 : updL L p { L p with bs := (L p).bs.eraseIdx i, clk := (L p).clk } = L1 at *
            obtain ⟨m', hm', hme⟩ : ∃ m', (⟨(T.del p nm0).ns, T.count⟩ : Tr).nd d = .dir m' ∧ ent m' nm = none := by
              rw [del_ns p2, nd_set]
              by_cases hpe : p = d
              · subst hpe
                rw [if_pos ⟨rfl, nd_dir_lt p2⟩]
                obtain rfl : m = l := by rw [f3] at p2; exact Nd.dir.inj p2
                refine ⟨_, rfl, ?_⟩
                rw [ent_filter]
                split
                · rfl
                · exact f4
              · rw [if_neg (fun h => hpe h.1)]
                exact ⟨m, f3, f4⟩
            generalize hT1 : (⟨(T.del p nm0).ns, T.count⟩ : Tr) = T1 at *
            rw [← hb1 d, ← hval]
            repeat ((fail_if_success (refine GC.region (id := 16) ?_)); first | refine GC.seq ?_ | refine GE.then_normal ?_)
            refine GC.conv (fun w_ H_ => Holds.dirOut (L := L1) hm' (H_.take (need := [.own (NodesR T1 L1)]) (by repeat first | exact tn_ | apply td_ rfl | apply tc_ | exact .here | apply Take1.there))) ?_
            try simp only [List.append_eq, List.nil_append, List.cons_append]
            repeat (first | (apply G.ex (hd := rfl); case h => (first | exact Ex.move rfl | exact Ex.nilCheck rfl | exact Ex.fieldB rfl | exact Ex.loadB rfl rfl)) | refine GC.region ?_)
            refine G.mapNew rfl rfl rfl (by repeat (first | exact Upd.here | apply Upd.there)) (lookV_none (val T1 L1) hme) ?_
            rw [entV_snoc (val T1 L1) m' nm x]
            refine G.conv (fun w_ H_ => Holds.dirIn (L := L1) T.count hm' (H_.take (need := [.blk (L1 d).b 76 [.map (some (L1 d).m)], .own (MapB (L1 d).m (entV (val T1 L1) (m' ++ [(nm, x)])) ((L1 d).bs ++ [(L1 d).clk]) ((L1 d).clk + 1)), .own (Hole T1 L1 d)]) (by repeat first | exact tn_ | apply td_ rfl | apply tc_ | exact .here | apply Take1.there))) ?_
            try simp only [List.append_eq, List.nil_append, List.cons_append]
            have hR2 : R = (0, ⟨T1.ns.set d (.dir (m' ++ [(nm, x)])), T.count⟩) := by
              rw [← hR]
              have e9 : T.del p nm0 = T1 := hT1
              rw [e9, add_ns hm', ← hT1]
            generalize hL2 : updL L1 d { L1 d with bs := (L1 d).bs ++ [(L1 d).clk], clk := (L1 d).clk + 1 } = L2
            have hL02 : (L 0).b = (L2 0).b := by rw [← hb1 0, ← hL2]; exact (updL_b (L := L1) (i := d) (x := { L1 d with bs := (L1 d).bs ++ [(L1 d).clk], clk := (L1 d).clk + 1 }) rfl 0).symm
            rw [show TreeB T L bt = .blk bt 78 [ptr (L 0).b, .int .i64 T.count] from rfl, hL02]
            subst hR2
            repeat (first | (apply G.ex (hd := rfl); case h => (first | exact Ex.assign rfl)) | refine G.nil ?_ | refine GC.seq ?_ | refine GC.region ?_ | refine GC.ret ?_ | refine GE.then_normal ?_)
            refine GE.ret (by first | exact .inl rfl | exact .inr rfl) (res1 Tryz.results32 rfl) ⟨L2, rfl, rfl⟩ (by repeat first | exact tn_ | apply td_ rfl | apply tc_ | exact .here | apply Take1.there) (by repeat (first | exact Subs.refl | refine Subs.skip ?_))
        · rw [if_pos h3] at hR
          subst hR
          have e3 : dv L (freeF T a).1 (freeF T a).2.1 = .pointer none := if_neg h3
          rw [e3]
          repeat (first | (apply G.ex (hd := rfl); case h => (first | exact Ex.move rfl | exact Ex.neI rfl rfl | exact Ex.extract rfl rfl | exact Ex.assign rfl)) | refine G.nil ?_ | refine GC.seq ?_ | refine GC.region ?_ | refine GC.block ?_ | refine GC.ret ?_ | refine GE.then_normal ?_ | refine GE.then_ret ?_ | refine GE.block_ret ?_ | refine GC.cond_yes rfl (by first | assumption | omega) ?_)
          refine GE.ret (by first | exact .inl rfl | exact .inr rfl) (res1 Tryz.results32 rfl) ⟨L, rfl, rfl⟩ (by repeat first | exact tn_ | apply td_ rfl | apply tc_ | exact .here | apply Take1.there) (by repeat (first | exact Subs.refl | refine Subs.skip ?_))
      · rw [if_pos he] at hR
        subst hR
        repeat (first | (apply G.ex (hd := rfl); case h => (first | exact Ex.move rfl | exact Ex.neI rfl rfl | exact Ex.extract rfl rfl | exact Ex.assign rfl)) | refine G.nil ?_ | refine GC.seq ?_ | refine GC.region ?_ | refine GC.ret ?_ | refine GE.then_normal ?_ | refine GE.then_ret ?_ | refine GC.cond_yes rfl (by first | assumption | omega) ?_)
        refine GE.ret (by first | exact .inl rfl | exact .inr rfl) (res1 Tryz.results32 rfl) ⟨L, rfl, rfl⟩ (by repeat first | exact tn_ | apply td_ rfl | apply tc_ | exact .here | apply Take1.there) (by repeat (first | exact Subs.refl | refine Subs.skip ?_))
    · rw [if_pos h1] at hR
      subst hR
      have e0 : fv T L (T.find names false) = .nilIface := if_neg h1
      rw [e0]
      repeat (first | (apply G.ex (hd := rfl); case h => (first | exact Ex.move rfl | exact Ex.neI rfl rfl | exact Ex.extract rfl rfl | exact Ex.assign rfl)) | refine G.nil ?_ | refine GC.seq ?_ | refine GC.region ?_ | refine GC.ret ?_ | refine GE.then_normal ?_ | refine GE.then_ret ?_ | refine GC.cond_yes rfl (by first | assumption | omega) ?_)
      refine GE.ret (by first | exact .inl rfl | exact .inr rfl) (res1 Tryz.results32 rfl) ⟨L, rfl, rfl⟩ (by repeat first | exact tn_ | apply td_ rfl | apply tc_ | exact .here | apply Take1.there) (by repeat (first | exact Subs.refl | refine Subs.skip ?_))
end tree
end Go.Proofs.YtmceappjldcbmaaGreatDoor
