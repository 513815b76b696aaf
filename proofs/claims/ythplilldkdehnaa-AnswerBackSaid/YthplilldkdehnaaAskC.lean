/-
  CONTRACTS of package msg over any layout of a message in memory: put, get and fits of a part; take and all of many, by the kit.
-/
import Derived.Test.YthplilldkdehnaaAskB
namespace Go.Proofs.Ythplilldkdehnaa
open Go.RowKit
attribute [local irreducible] Ex G GC GE Gq FPost LPost
set_option linter.unusedVariables false
set_option linter.unusedSimpArgs false

namespace msg
open frame
/-- a message in memory: what it says, and where its data lie -/
structure Ms where
  r : Rq
  ao : Option Addr
  n : Nat
  c : Nat
def Ms.setN (m : Ms) (k : Nat) (v : Int) : Ms := ⟨m.r.setN k v, m.ao, m.n, m.c⟩
def Ms.setT (m : Ms) (k : Nat) (s : List UInt8) : Ms := ⟨m.r.setT k s, m.ao, m.n, m.c⟩
def Ms.setD (m : Ms) (s : List UInt8) (ao : Option Addr) (n c : Nat) : Ms := ⟨{ m.r with data := s }, ao, n, c⟩
/-- a layout: blocks, and which cell is where -/
structure Lyt where
  bl : Ms → List Res
  ix : Nat → Nat
  pb : Nat → Nat
  pj : Nat → Nat
def ePl (L : Lyt) : Pt → List Value
  | .num w k => pN w (L.pb k) (L.pj k)
  | .text k => pT (L.pb k) (L.pj k)
  | .data => pD (L.pb 8) (L.pj 8)
instance (L : Lyt) : Enc (ePl L) 4 := ⟨fun p => by cases p <;> rfl, fun p u hu => by cases p <;> (simp only [ePl, pN, pT, pD, List.mem_cons, List.not_mem_nil, or_false] at hu; rcases hu with rfl | rfl | rfl | rfl <;> rfl)⟩
instance : Inhabited Pt := ⟨.data⟩
def LOk (L : Lyt) : Pt → Prop
  | .num w k => (w = 1 ∨ w = 2 ∨ w = 4) ∧ ∀ m, ∃ T cs, (L.bl m)[L.ix k]? = some (.blk (L.pb k) T cs) ∧ cs[L.pj k]? = some (.int .i64 (m.r.n k)) ∧ ∀ v, (L.bl m).set (L.ix k) (.blk (L.pb k) T (cs.set (L.pj k) (.int .i64 v))) = L.bl (m.setN k v)
  | .text k => ∀ m, ∃ T cs, (L.bl m)[L.ix k]? = some (.blk (L.pb k) T cs) ∧ cs[L.pj k]? = some (.string (sOf (m.r.t k))) ∧ ∀ s, (L.bl m).set (L.ix k) (.blk (L.pb k) T (cs.set (L.pj k) (.string (sOf s)))) = L.bl (m.setT k s)
  | .data => ∀ m, ∃ T cs, (L.bl m)[L.ix 8]? = some (.blk (L.pb 8) T cs) ∧ cs[L.pj 8]? = some (.slice m.ao m.n m.c) ∧ ∀ s ao n c, (L.bl m).set (L.ix 8) (.blk (L.pb 8) T (cs.set (L.pj 8) (.slice ao n c))) = L.bl (m.setD s ao n c)
theorem set_same {l : List Res} {i : Nat} {r : Res} (h : l[i]? = some r) : l.set i r = l := by
  obtain ⟨h1, h2⟩ := List.getElem?_eq_some_iff.1 h
  rw [← h2, List.set_getElem_self]
theorem fitP_sp (L : Lyt) (p : Pt) (hp : LOk L p) (m : Ms) (hm : m.r.data.length = m.n) :
    Spec Try.prog 30 [.agg (ePl L p).toArray] [.own (Star (L.bl m))] fun r give => r = .int .i64 (fit m.r p) ∧ give = [.own (Star (L.bl m))] := by
  cases p with
  | num w k =>
    obtain ⟨hw, hl⟩ := hp
    obtain ⟨T, cs, h1, h2, _⟩ := hl m
    refine Spec.star h1 (fitsN_sp w (L.pb k) (L.pj k) hw (m.r.n k) T cs h2) ?_
    rintro v give ⟨rfl, rfl⟩
    exact ⟨_, _, rfl, rfl, by rw [set_same h1]⟩
  | text k =>
    obtain ⟨T, cs, h1, h2, _⟩ := hp m
    refine Spec.star h1 (fitsT_sp (L.pb k) (L.pj k) (m.r.t k) T cs h2) ?_
    rintro v give ⟨rfl, rfl⟩
    exact ⟨_, _, rfl, rfl, by rw [set_same h1]⟩
  | data =>
    obtain ⟨T, cs, h1, h2, _⟩ := hp m
    refine Spec.star h1 (fitsD_sp (L.pb 8) (L.pj 8) m.ao m.n m.c T cs h2) ?_
    rintro v give ⟨rfl, rfl⟩
    exact ⟨_, _, rfl, by rw [← hm]; rfl, by rw [set_same h1]⟩
theorem fit_num {r : Rq} {w k : Nat} (hw : w = 1 ∨ w = 2 ∨ w = 4) (h : fit r (.num w k) = 0) : ((r.n k).toNat : Int) = r.n k ∧ (r.n k).toNat < 4294967296 := by
  have h' : (if r.n k < 0 ∨ (256 : Int) ^ w ≤ r.n k then (2 : Int) else 0) = 0 := h
  have h2 : (256 : Int) ^ w ≤ 4294967296 := by rcases hw with rfl | rfl | rfl <;> decide
  split at h'
  · omega
  · omega
theorem fit_text {r : Rq} {k : Nat} (h : fit r (.text k) = 0) : (r.t k).length ≤ 200 := by
  have h' : (if 200 < (r.t k).length then (1 : Int) else 0) = 0 := h
  split at h' <;> omega
theorem fit_data {r : Rq} (h : fit r .data = 0) : r.data.length ≤ 100 := by
  have h' : (if 100 < r.data.length then (1 : Int) else 0) = 0 := h
  split at h' <;> omega
theorem putP_sp (L : Lyt) (p : Pt) (hp : LOk L p) (m : Ms) (hm : m.r.data.length = m.n) (hf : fit m.r p = 0) (oa : Option Addr) (on oc : Nat) (ob : List UInt8) (hon : on ≤ 100000) :
    Spec Try.prog 21 [.agg (ePl L p).toArray, .slice oa on oc] [.own (Star (L.bl m)), .sl m.ao m.n m.c 1 (flat eB m.r.data), .vec 5 1 oa on oc (flat eB ob)]
      fun v give => ∃ ao c, v = .slice ao (on + (bytesF m.r p).length) c ∧ give = [.own (Star (L.bl m)), .vec 5 1 ao (on + (bytesF m.r p).length) c (flat eB (ob ++ bytesF m.r p))] := by
  cases p with
  | num w k =>
    obtain ⟨hw, hl⟩ := hp
    obtain ⟨T, cs, h1, h2, _⟩ := hl m
    obtain ⟨e1, e2⟩ := fit_num hw hf
    rw [← e1] at h2
    refine Spec.drop2 (Spec.star h1 (putN_sp w (L.pb k) (L.pj k) _ hw e2 T cs h2 oa on oc ob hon) ?_)
    rintro v give ⟨ao, c, rfl, rfl⟩
    refine ⟨_, _, rfl, ao, c, ?_, ?_⟩
    · show _ = Value.slice ao (on + (nb w (m.r.n k).toNat).length) c
      rw [nb_len]
    · rw [set_same h1]
      show _ = [_, Res.vec _ 1 ao (on + (nb w (m.r.n k).toNat).length) c _]
      rw [nb_len]; rfl
  | text k =>
    obtain ⟨T, cs, h1, h2, _⟩ := hp m
    refine Spec.drop2 (Spec.star h1 (putT_sp (L.pb k) (L.pj k) (m.r.t k) (fit_text hf) T cs h2 oa on oc ob hon) ?_)
    have e : (bytesF m.r (.text k)).length = 2 + (m.r.t k).length := by
      show (nb 2 _ ++ _).length = _
      rw [List.length_append, nb_len]
    rintro v give ⟨ao, c, rfl, rfl⟩
    exact ⟨_, _, rfl, ao, c, by rw [e], by rw [set_same h1, e]; rfl⟩
  | data =>
    obtain ⟨T, cs, h1, h2, _⟩ := hp m
    have e : (bytesF m.r .data).length = 2 + m.r.data.length := by
      show (nb 2 _ ++ _).length = _
      rw [List.length_append, nb_len]
    refine Spec.star h1 (putD_sp (L.pb 8) (L.pj 8) m.r.data m.ao m.n m.c hm (by have := fit_data hf; omega) T cs h2 oa on oc ob hon) ?_
    rintro v give ⟨ao, c, rfl, rfl⟩
    exact ⟨_, _, rfl, ao, c, by rw [e], by rw [set_same h1, e]; rfl⟩
theorem perm4 {α : Type} (a b c d : α) (l : List α) : ([a, b, c, d] ++ l).Perm (d :: ([a, b, c] ++ l)) := List.perm_middle (l₁ := [a, b, c])
theorem getP_sp (L : Lyt) (p : Pt) (hp : LOk L p) (m : Ms) (hm : m.r.data.length = m.n) (ao : Option Addr) (n c : Nat) (b : List UInt8) (hb : b.length = n) (hn : n ≤ 9223372036854775807) :
    Spec Try.prog 26 [.agg (ePl L p).toArray, .slice ao n c] [.own (Star (L.bl m)), .sl m.ao m.n m.c 1 (flat eB m.r.data), .sl ao n c 1 (flat eB b)]
      fun v give => (getF m.r b p = none ∧ v = .tuple #[.slice none 0 0, .bool false] ∧ give = [.own (Star (L.bl m)), .sl m.ao m.n m.c 1 (flat eB m.r.data)]) ∨
        ∃ (m' : Ms) (b' : List UInt8) (ao' : Option Addr) (c' : Nat), getF m.r b p = some (m'.r, b') ∧ m'.r.data.length = m'.n ∧ b'.length ≤ n ∧ v = .tuple #[.slice ao' b'.length c', .bool true] ∧ give = [.own (Star (L.bl m')), .sl ao' b'.length c' 1 (flat eB b'), .sl m'.ao m'.n m'.c 1 (flat eB m'.r.data)] := by
  have two : ∀ (f : List UInt8 → Rq), (¬ n < 2 ∧ ¬ n - 2 < num (b.take 2)) → (if b.length < 2 then none else if b.length - 2 < num (b.take 2) then none else some (f ((b.drop 2).take (num (b.take 2))), (b.drop 2).drop (num (b.take 2)))) = some (f ((b.drop 2).take (num (b.take 2))), (b.drop 2).drop (num (b.take 2))) := by
    intro f h
    rw [if_neg (by omega), if_neg (by omega)]
  have two' : ∀ (f : List UInt8 → Rq), (n < 2 ∨ n - 2 < num (b.take 2)) → (if b.length < 2 then none else if b.length - 2 < num (b.take 2) then none else some (f ((b.drop 2).take (num (b.take 2))), (b.drop 2).drop (num (b.take 2)))) = none := by
    intro f h
    by_cases h1 : n < 2
    · rw [if_pos (by omega)]
    · rw [if_neg (by omega), if_pos (by omega)]
  have el : ((b.drop 2).drop (num (b.take 2))).length = n - 2 - num (b.take 2) := by rw [List.length_drop, List.length_drop]; omega
  cases p with
  | num w k =>
    obtain ⟨hw, hl⟩ := hp
    obtain ⟨T, cs, h1, h2, h3⟩ := hl m
    refine (Spec.star h1 (Spec.keep2 (getN_sp w (L.pb k) (L.pj k) hw _ T cs h2 ao n c b hb hn)) ?_)
    rintro v give ⟨g, hg, rfl⟩
    rcases hg with ⟨hlt, rfl, rfl⟩ | ⟨hge, ao', c', rfl, rfl⟩
    · exact ⟨_, _, rfl, .inl ⟨by show (if b.length < w then none else _) = none; rw [if_pos (by omega)], rfl, by rw [set_same h1]; rfl⟩⟩
    · refine ⟨_, _, rfl, .inr ⟨m.setN k (num (b.take w) : Int), b.drop w, ao', c', ?_, ?_, by rw [List.length_drop]; omega, by rw [List.length_drop, hb], ?_⟩⟩
      · show (if b.length < w then none else _) = _
        rw [if_neg (by omega)]; rfl
      · exact (congrArg List.length (setN_d m.r k _)).trans hm
      · rw [h3, List.length_drop, hb, show (m.setN k (num (b.take w) : Int)).r.data = m.r.data from setN_d ..]; rfl
  | text k =>
    obtain ⟨T, cs, h1, h2, h3⟩ := hp m
    refine (Spec.star h1 (Spec.keep2 (getT_sp (L.pb k) (L.pj k) _ T cs h2 ao n c b hb hn)) ?_)
    rintro v give ⟨g, hg, rfl⟩
    rcases hg with ⟨hlt, rfl, rfl⟩ | ⟨hge, hge2, ao', c', rfl, rfl⟩
    · exact ⟨_, _, rfl, .inl ⟨two' _ hlt, rfl, by rw [set_same h1]; rfl⟩⟩
    · refine ⟨_, _, rfl, .inr ⟨m.setT k ((b.drop 2).take (num (b.take 2))), (b.drop 2).drop (num (b.take 2)), ao', c', two _ ⟨hge, hge2⟩, (congrArg List.length (setT_d m.r k _)).trans hm, by omega, by rw [el], ?_⟩⟩
      rw [h3, el, show (m.setT k ((b.drop 2).take (num (b.take 2)))).r.data = m.r.data from setT_d ..]; rfl
  | data =>
    obtain ⟨T, cs, h1, h2, h3⟩ := hp m
    refine Spec.conv (post := fun v give => (getF m.r b .data = none ∧ v = .tuple #[.slice none 0 0, .bool false] ∧ give = [.own (Star (L.bl m)), .sl m.ao m.n m.c 1 (flat eB m.r.data)]) ∨
        ∃ (m' : Ms) (b' : List UInt8) (ao' : Option Addr) (c' : Nat), getF m.r b .data = some (m'.r, b') ∧ m'.r.data.length = m'.n ∧ b'.length ≤ n ∧ v = .tuple #[.slice ao' b'.length c', .bool true] ∧ give = [.own (Star (L.bl m')), .sl ao' b'.length c' 1 (flat eB b'), .sl m'.ao m'.n m'.c 1 (flat eB m'.r.data), .sl m.ao m.n m.c 1 (flat eB m.r.data)])
      (Spec.star h1 (Spec.keep2 (getD_sp (L.pb 8) (L.pj 8) _ T cs h2 ao n c b hb hn)) ?_) (fun H => H) ?_
    · rintro v give ⟨g, hg, rfl⟩
      rcases hg with ⟨hlt, rfl, rfl⟩ | ⟨hge, hge2, ao', c', da, dc, rfl, rfl⟩
      · exact ⟨_, _, rfl, .inl ⟨two' _ hlt, rfl, by rw [set_same h1]; rfl⟩⟩
      · refine ⟨_, _, rfl, .inr ⟨m.setD ((b.drop 2).take (num (b.take 2))) da (num (b.take 2)) dc, (b.drop 2).drop (num (b.take 2)), ao', c', two _ ⟨hge, hge2⟩, by show ((b.drop 2).take _).length = _; rw [List.length_take, List.length_drop]; show _ = num (b.take 2); omega, by omega, by rw [el], ?_⟩⟩
        rw [h3 ((b.drop 2).take (num (b.take 2))), el]; rfl
    · rintro v give (⟨h4, rfl, rfl⟩ | ⟨m', b', ao', c', h4, h5, h6, rfl, rfl⟩)
      · exact ⟨_, .inl ⟨h4, rfl, rfl⟩, fun H => H⟩
      · refine ⟨_, .inr ⟨m', b', ao', c', h4, h5, h6, rfl, rfl⟩, fun {w0 w rest} H => ?_⟩
        exact (H.perm (perm4 ..)).tail
theorem getD_mem2 {α : Type} [Inhabited α] (l : List α) (k : Nat) (h : k < l.length) : l.getD k default ∈ l := by
  rw [List.getD_eq_getElem?_getD, List.getElem?_eq_getElem h]; exact List.getElem_mem h
theorem drop_getD {α : Type} [Inhabited α] (l : List α) (k : Nat) (h : k < l.length) : l.drop k = l.getD k default :: l.drop (k + 1) := by
  rw [List.drop_eq_getElem_cons h, List.getD_eq_getElem?_getD, List.getElem?_eq_getElem h]; rfl
theorem all_cons (r : Rq) (p : Pt) (t : List Pt) (o : Int) : allF r (p :: t) o = if fit r p = 2 then 2 else allF r t (if o = 0 then fit r p else o) := rfl
set_option maxHeartbeats 1000000 in
theorem all_sp (L : Lyt) (pts : List Pt) (hp : ∀ p ∈ pts, LOk L p) (hk : pts.length ≤ 1000) (m : Ms) (hm : m.r.data.length = m.n) (po : Option Addr) (pn pc : Nat) (hpn : pts.length = pn) :
    Spec Try.prog 20 [.slice po pn pc] [.own (Star (L.bl m)), .sl po pn pc 4 (flat (ePl L) pts)] fun v give => v = .int .i64 (allF m.r pts 0) ∧ give = [.own (Star (L.bl m))] := by
  refine Spec.intro Try.func20 rfl Try.ntmps20 rfl fun w0 rest rs_ hrs_ => ?_
  simp only [List.cons_append, List.nil_append] at hrs_
  subst hrs_
  repeat (first | (apply G.ex (hd := rfl); case h => (first | exact Ex.move rfl | exact Ex.lenSl rfl | exact Ex.assign rfl)) | refine G.nil ?_ | refine GC.seq ?_ | refine GC.region ?_ | refine GC.block ?_ | refine GE.then_normal ?_)
  refine GC.loop (ι := Nat × Int) (fun i => i.1 ≤ pn ∧ allF m.r (pts.drop i.1) i.2 = allF m.r pts 0) (fun i => pn - i.1) (fun i => [(3, .int .i64 i.2), (7, .slice po pn pc), (8, .int .i64 (pn : Int)), (9, .int .i64 (i.1 : Int))]) (fun i => [.own (Star (L.bl m)), .sl po pn pc 4 (flat (ePl L) pts)]) (0, 0) ⟨Nat.zero_le _, rfl⟩ (by simp only [fits]; repeat (first | exact trivial | refine And.intro rfl ?_)) (by repeat (first | exact Takes.nil | apply Takes.dup rfl | apply Takes.cons | exact Take1.here | apply Take1.there)) ?_
  rintro ⟨j, o⟩ ⟨hj, he⟩ fr_ rs_ hfr_ hrs_
  simp only [List.cons_append, List.nil_append] at hfr_ hrs_
  subst hfr_ hrs_
  simp only at hj he
  repeat (first | (apply G.ex (hd := rfl); case h => (first | exact Ex.lss rfl rfl)) | refine G.nil ?_ | refine GC.seq ?_ | refine GC.region ?_ | refine GE.then_normal ?_)
  refine GC.cond_dec rfl (fun hlt => ?_) (fun hlt => ?_)
  · have hlt : j < pn := by omega
    have hpj := hp _ (getD_mem2 pts j (by omega))
    rw [drop_getD pts j (by omega), all_cons] at he
    obtain ⟨p, hpp⟩ : ∃ p, pts.getD j default = p := ⟨_, rfl⟩
    repeat (first | (apply G.ex (hd := rfl); case h => (first | exact Ex.indexN rfl rfl (by first | omega | (simp; done) | (simp; omega)) | exact Ex.loadTA rfl (by first | omega | (simp; done) | (simp; omega)))) | refine GC.seq ?_ | refine GC.region ?_ | refine GC.block ?_ | refine GC.skip ?_ | refine GE.then_normal ?_)
    rw [hpp] at hpj he ⊢
    refine G.alloc rfl (fun q => ?_)
    refine G.storeWh (enc := (ePl L)) (q := p) rfl rfl (by repeat (first | exact Upd.here | apply Upd.there)) (by rfl) ?_
    repeat (first | refine G.nil ?_ | refine GC.seq ?_ | refine GC.region ?_ | refine GE.then_normal ?_)
    refine G.ex (Ex.loadWh (enc := (ePl L)) (q := p) rfl) rfl ?_
    first | refine G.call (caps := []) (fitP_sp L p hpj m hm) rfl rfl rfl rfl (by repeat (first | exact Takes.nil | apply Takes.dup rfl | apply Takes.cons | exact Take1.here | apply Take1.there)) ?_ | refine G.callU (caps := []) (fitP_sp L p hpj m hm) rfl rfl rfl (by repeat (first | exact Takes.nil | apply Takes.dup rfl | apply Takes.cons | exact Take1.here | apply Take1.there)) ?_
    rintro v_ give_ ⟨rfl, rfl⟩ rs_ hrs_
    simp only [List.cons_append, List.nil_append] at hrs_
    subst hrs_
    repeat (first | (apply G.ex (hd := rfl); case h => (first | exact Ex.move rfl | exact Ex.eqI rfl rfl | exact Ex.assign rfl)) | refine G.nil ?_ | refine GC.seq ?_ | refine GC.region ?_ | refine GC.block ?_ | refine GE.then_normal ?_)
    by_cases h2 : fit m.r p = 2
    · rw [if_pos h2] at he
      rw [h2]
      repeat (first | (apply G.ex (hd := rfl); case h => (first | exact Ex.move rfl | exact Ex.assign rfl)) | refine G.nil ?_ | refine GC.seq ?_ | refine GC.region ?_ | refine GC.ret ?_ | refine GE.then_normal ?_ | refine GE.then_ret ?_ | refine GE.block_ret ?_ | refine GC.cond_yes rfl (by first | assumption | omega) ?_)
      rw [← he]
      refine GE.ret (by first | exact .inl rfl | exact .inr rfl) (by first | exact res0 Try.results20 | exact res1 Try.results20 rfl | exact res2 Try.results20 rfl rfl | exact resR1 Try.results20 (by first | exact RV.tmp rfl | exact RV.cell rfl (eP_len _) | exact RV.cell rfl rfl | exact RV.cell1 rfl) | exact resR2 Try.results20 (by first | exact RV.tmp rfl | exact RV.cell rfl (eP_len _) | exact RV.cell rfl rfl | exact RV.cell1 rfl) (by first | exact RV.tmp rfl | exact RV.cell rfl (eP_len _) | exact RV.cell rfl rfl | exact RV.cell1 rfl) | exact resR3 Try.results20 (by first | exact RV.tmp rfl | exact RV.cell rfl (eP_len _) | exact RV.cell rfl rfl | exact RV.cell1 rfl) (by first | exact RV.tmp rfl | exact RV.cell rfl (eP_len _) | exact RV.cell rfl rfl | exact RV.cell1 rfl) (by first | exact RV.tmp rfl | exact RV.cell rfl (eP_len _) | exact RV.cell rfl rfl | exact RV.cell1 rfl)) ⟨rfl, rfl⟩ (by repeat (first | exact Takes.nil | apply Takes.dup rfl | apply Takes.cons | exact Take1.here | apply Take1.there)) (by repeat (first | exact Subs.refl | refine Subs.skip ?_))
    · rw [if_neg h2] at he
      by_cases h0 : o = 0
      · rw [if_pos h0] at he
        repeat (first | (apply G.ex (hd := rfl); case h => (first | exact Ex.move rfl | exact Ex.add rfl rfl (by omega) | exact Ex.eqI rfl rfl | exact Ex.assign rfl)) | refine G.nil ?_ | refine GC.seq ?_ | refine GC.region ?_ | refine GE.then_normal ?_ | refine GE.block_normal ?_ | refine GC.cond_yes rfl (by first | assumption | omega) ?_ | refine GC.cond_no rfl (by first | assumption | omega) ?_)
        refine GE.loop (j + 1, fit m.r p) ⟨by simp only; omega, he⟩ (by simp only; omega) (by simp only [fits]; repeat (first | exact trivial | refine And.intro rfl ?_)) (by repeat (first | exact Takes.nil | apply Takes.dup rfl | apply Takes.cons | exact Take1.here | apply Take1.there)) (by repeat (first | exact Subs.refl | refine Subs.skip ?_))
      · rw [if_neg h0] at he
        repeat (first | (apply G.ex (hd := rfl); case h => (first | exact Ex.move rfl | exact Ex.add rfl rfl (by omega) | exact Ex.eqI rfl rfl | exact Ex.assign rfl)) | refine G.nil ?_ | refine GC.seq ?_ | refine GC.region ?_ | refine GC.skip ?_ | refine GE.then_normal ?_ | refine GE.block_normal ?_ | refine GC.cond_no rfl (by first | assumption | omega) ?_)
        refine GE.loop (j + 1, o) ⟨by simp only; omega, he⟩ (by simp only; omega) (by simp only [fits]; repeat (first | exact trivial | refine And.intro rfl ?_)) (by repeat (first | exact Takes.nil | apply Takes.dup rfl | apply Takes.cons | exact Take1.here | apply Take1.there)) (by repeat (first | exact Subs.refl | refine Subs.skip ?_))
  · have hj4 : j = pn := by omega
    subst hj4
    rw [List.drop_of_length_le (by omega)] at he
    have he' : o = allF m.r pts 0 := he
    rw [he']
    repeat (first | (apply G.ex (hd := rfl); case h => (first | exact Ex.move rfl | exact Ex.assign rfl)) | refine G.nil ?_ | refine GC.seq ?_ | refine GC.region ?_ | refine GC.ret ?_ | refine GC.exit ?_ | refine GE.then_normal ?_ | refine GE.then_exit ?_ | refine GE.block_hit ?_)
    refine GE.ret (by first | exact .inl rfl | exact .inr rfl) (by first | exact res0 Try.results20 | exact res1 Try.results20 rfl | exact res2 Try.results20 rfl rfl | exact resR1 Try.results20 (by first | exact RV.tmp rfl | exact RV.cell rfl (eP_len _) | exact RV.cell rfl rfl | exact RV.cell1 rfl) | exact resR2 Try.results20 (by first | exact RV.tmp rfl | exact RV.cell rfl (eP_len _) | exact RV.cell rfl rfl | exact RV.cell1 rfl) (by first | exact RV.tmp rfl | exact RV.cell rfl (eP_len _) | exact RV.cell rfl rfl | exact RV.cell1 rfl) | exact resR3 Try.results20 (by first | exact RV.tmp rfl | exact RV.cell rfl (eP_len _) | exact RV.cell rfl rfl | exact RV.cell1 rfl) (by first | exact RV.tmp rfl | exact RV.cell rfl (eP_len _) | exact RV.cell rfl rfl | exact RV.cell1 rfl) (by first | exact RV.tmp rfl | exact RV.cell rfl (eP_len _) | exact RV.cell rfl rfl | exact RV.cell1 rfl)) ⟨rfl, rfl⟩ (by repeat (first | exact Takes.nil | apply Takes.dup rfl | apply Takes.cons | exact Take1.here | apply Take1.there)) (by repeat (first | exact Subs.refl | refine Subs.skip ?_))
set_option maxHeartbeats 1000000 in
theorem take_sp (L : Lyt) (pts : List Pt) (hp : ∀ p ∈ pts, LOk L p) (hk : pts.length ≤ 1000) (m : Ms) (hm : m.r.data.length = m.n) (po : Option Addr) (pn pc : Nat) (hpn : pts.length = pn) (ao : Option Addr) (n c : Nat) (b : List UInt8) (hb : b.length = n) (hn : n ≤ 9223372036854775807) :
    Spec Try.prog 22 [.slice ao n c, .slice po pn pc] [.own (Star (L.bl m)), .sl m.ao m.n m.c 1 (flat eB m.r.data), .sl ao n c 1 (flat eB b), .sl po pn pc 4 (flat (ePl L) pts)]
      fun v give => (takeF m.r b pts = none ∧ ∃ m' : Ms, m'.r.data.length = m'.n ∧ v = .tuple #[.slice none 0 0, .bool false] ∧ give = [.own (Star (L.bl m')), .sl m'.ao m'.n m'.c 1 (flat eB m'.r.data)]) ∨
        ∃ (m' : Ms) (b' : List UInt8) (ao' : Option Addr) (c' : Nat), takeF m.r b pts = some (m'.r, b') ∧ m'.r.data.length = m'.n ∧ b'.length ≤ n ∧ v = .tuple #[.slice ao' b'.length c', .bool true] ∧ give = [.own (Star (L.bl m')), .sl m'.ao m'.n m'.c 1 (flat eB m'.r.data), .sl ao' b'.length c' 1 (flat eB b')] := by
  subst hb
  refine Spec.intro Try.func22 rfl Try.ntmps22 rfl fun w0 rest rs_ hrs_ => ?_
  simp only [List.cons_append, List.nil_append] at hrs_
  subst hrs_
  repeat (first | (apply G.ex (hd := rfl); case h => (first | exact Ex.move rfl | exact Ex.lenSl rfl | exact Ex.assign rfl)) | refine G.nil ?_ | refine GC.seq ?_ | refine GC.region ?_ | refine GC.block ?_ | refine GE.then_normal ?_)
  refine GC.loop (ι := Nat × Ms × List UInt8 × Option Addr × Nat) (fun i => i.1 ≤ pn ∧ i.2.1.r.data.length = i.2.1.n ∧ i.2.2.1.length ≤ b.length ∧ takeF i.2.1.r i.2.2.1 (pts.drop i.1) = takeF m.r b pts) (fun i => pn - i.1) (fun i => [(0, .slice i.2.2.2.1 i.2.2.1.length i.2.2.2.2), (10, .slice po pn pc), (11, .int .i64 (pn : Int)), (12, .int .i64 (i.1 : Int))]) (fun i => [.own (Star (L.bl i.2.1)), .sl i.2.1.ao i.2.1.n i.2.1.c 1 (flat eB i.2.1.r.data), .sl i.2.2.2.1 i.2.2.1.length i.2.2.2.2 1 (flat eB i.2.2.1), .sl po pn pc 4 (flat (ePl L) pts)]) (0, m, b, ao, c) ⟨Nat.zero_le _, hm, Nat.le_refl _, rfl⟩ (by simp only [fits]; repeat (first | exact trivial | refine And.intro rfl ?_)) (by repeat (first | exact Takes.nil | apply Takes.dup rfl | apply Takes.cons | exact Take1.here | apply Take1.there)) ?_
  rintro ⟨j, u, d, ua, uc⟩ ⟨hj, hu, hd, he⟩ fr_ rs_ hfr_ hrs_
  simp only [List.cons_append, List.nil_append] at hfr_ hrs_
  subst hfr_ hrs_
  simp only at hj hu hd he
  repeat (first | (apply G.ex (hd := rfl); case h => (first | exact Ex.lss rfl rfl)) | refine G.nil ?_ | refine GC.seq ?_ | refine GC.region ?_ | refine GE.then_normal ?_)
  refine GC.cond_dec rfl (fun hlt => ?_) (fun hlt => ?_)
  · have hlt : j < pn := by omega
    have hpj := hp _ (getD_mem2 pts j (by omega))
    rw [drop_getD pts j (by omega), take_cons] at he
    obtain ⟨p, hpp⟩ : ∃ p, pts.getD j default = p := ⟨_, rfl⟩
    repeat (first | (apply G.ex (hd := rfl); case h => (first | exact Ex.indexN rfl rfl (by first | omega | (simp; done) | (simp; omega)) | exact Ex.loadTA rfl (by first | omega | (simp; done) | (simp; omega)))) | refine GC.seq ?_ | refine GC.region ?_ | refine GC.block ?_ | refine GC.skip ?_ | refine GE.then_normal ?_)
    rw [hpp] at hpj he ⊢
    refine G.alloc rfl (fun q => ?_)
    refine G.storeWh (enc := (ePl L)) (q := p) rfl rfl (by repeat (first | exact Upd.here | apply Upd.there)) (by rfl) ?_
    repeat (first | refine G.nil ?_ | refine GC.seq ?_ | refine GC.region ?_ | refine GE.then_normal ?_)
    refine G.ex (Ex.loadWh (enc := (ePl L)) (q := p) rfl) rfl ?_
    repeat (first | (apply G.ex (hd := rfl); case h => (first | exact Ex.move rfl)))
    first | refine G.call (caps := []) (getP_sp L p hpj u hu ua d.length uc d rfl (by omega)) rfl rfl rfl rfl (by repeat (first | exact Takes.nil | apply Takes.dup rfl | apply Takes.cons | exact Take1.here | apply Take1.there)) ?_ | refine G.callU (caps := []) (getP_sp L p hpj u hu ua d.length uc d rfl (by omega)) rfl rfl rfl (by repeat (first | exact Takes.nil | apply Takes.dup rfl | apply Takes.cons | exact Take1.here | apply Take1.there)) ?_
    rintro v_ give_ (⟨hg, rfl, rfl⟩ | ⟨u', d', va, vc, hg, h5, h6, rfl, rfl⟩) rs_ hrs_ <;> simp only [List.cons_append, List.nil_append] at hrs_ <;> subst hrs_
    · rw [hg] at he
      repeat (first | (apply G.ex (hd := rfl); case h => (first | exact Ex.move rfl | exact Ex.extract rfl rfl | exact Ex.assign rfl | exact Ex.notB rfl)) | refine G.nil ?_ | refine GC.seq ?_ | refine GC.region ?_ | refine GC.ret ?_ | refine GE.then_normal ?_ | refine GE.then_ret ?_ | refine GE.block_ret ?_ | refine GC.cond_t rfl ?_)
      refine GE.ret (by first | exact .inl rfl | exact .inr rfl) (by first | exact res0 Try.results22 | exact res1 Try.results22 rfl | exact res2 Try.results22 rfl rfl | exact resR1 Try.results22 (by first | exact RV.tmp rfl | exact RV.cell rfl (eP_len _) | exact RV.cell rfl rfl | exact RV.cell1 rfl) | exact resR2 Try.results22 (by first | exact RV.tmp rfl | exact RV.cell rfl (eP_len _) | exact RV.cell rfl rfl | exact RV.cell1 rfl) (by first | exact RV.tmp rfl | exact RV.cell rfl (eP_len _) | exact RV.cell rfl rfl | exact RV.cell1 rfl) | exact resR3 Try.results22 (by first | exact RV.tmp rfl | exact RV.cell rfl (eP_len _) | exact RV.cell rfl rfl | exact RV.cell1 rfl) (by first | exact RV.tmp rfl | exact RV.cell rfl (eP_len _) | exact RV.cell rfl rfl | exact RV.cell1 rfl) (by first | exact RV.tmp rfl | exact RV.cell rfl (eP_len _) | exact RV.cell rfl rfl | exact RV.cell1 rfl)) (.inl ⟨he.symm, u, hu, rfl, rfl⟩) (by repeat (first | exact Takes.nil | apply Takes.dup rfl | apply Takes.cons | exact Take1.here | apply Take1.there)) (by repeat (first | exact Subs.refl | refine Subs.skip ?_))
    · rw [hg] at he
      repeat (first | (apply G.ex (hd := rfl); case h => (first | exact Ex.move rfl | exact Ex.add rfl rfl (by omega) | exact Ex.extract rfl rfl | exact Ex.assign rfl | exact Ex.notB rfl)) | refine G.nil ?_ | refine GC.seq ?_ | refine GC.region ?_ | refine GC.skip ?_ | refine GE.then_normal ?_ | refine GE.block_normal ?_ | refine GC.cond_f rfl ?_)
      refine GE.loop (j + 1, u', d', va, vc) ⟨by simp only; omega, h5, by simp only; omega, he⟩ (by simp only; omega) (by simp only [fits]; repeat (first | exact trivial | refine And.intro rfl ?_)) (by repeat (first | exact Takes.nil | apply Takes.dup rfl | apply Takes.cons | exact Take1.here | apply Take1.there)) (by repeat (first | exact Subs.refl | refine Subs.skip ?_))
  · have hj4 : j = pn := by omega
    subst hj4
    rw [List.drop_of_length_le (by omega)] at he
    repeat (first | (apply G.ex (hd := rfl); case h => (first | exact Ex.move rfl | exact Ex.assign rfl)) | refine G.nil ?_ | refine GC.seq ?_ | refine GC.region ?_ | refine GC.ret ?_ | refine GC.exit ?_ | refine GE.then_normal ?_ | refine GE.then_exit ?_ | refine GE.block_hit ?_)
    refine GE.ret (by first | exact .inl rfl | exact .inr rfl) (by first | exact res0 Try.results22 | exact res1 Try.results22 rfl | exact res2 Try.results22 rfl rfl | exact resR1 Try.results22 (by first | exact RV.tmp rfl | exact RV.cell rfl (eP_len _) | exact RV.cell rfl rfl | exact RV.cell1 rfl) | exact resR2 Try.results22 (by first | exact RV.tmp rfl | exact RV.cell rfl (eP_len _) | exact RV.cell rfl rfl | exact RV.cell1 rfl) (by first | exact RV.tmp rfl | exact RV.cell rfl (eP_len _) | exact RV.cell rfl rfl | exact RV.cell1 rfl) | exact resR3 Try.results22 (by first | exact RV.tmp rfl | exact RV.cell rfl (eP_len _) | exact RV.cell rfl rfl | exact RV.cell1 rfl) (by first | exact RV.tmp rfl | exact RV.cell rfl (eP_len _) | exact RV.cell rfl rfl | exact RV.cell1 rfl) (by first | exact RV.tmp rfl | exact RV.cell rfl (eP_len _) | exact RV.cell rfl rfl | exact RV.cell1 rfl)) (.inr ⟨u, d, ua, uc, he.symm, hu, hd, rfl, rfl⟩) (by repeat (first | exact Takes.nil | apply Takes.dup rfl | apply Takes.cons | exact Take1.here | apply Take1.there)) (by repeat (first | exact Subs.refl | refine Subs.skip ?_))
end msg
end Go.Proofs.Ythplilldkdehnaa
