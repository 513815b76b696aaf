/-
  CONTRACT of packthreadkeep.Stream, by the kit.
-/
import Derived.Test.YtkinpmbokkfpbaaCom3
import Derived.Test.YtkinpmbokkfpbaaKit29
import Derived.Test.YtkinpmbokkfpbaaRecvP
import Derived.Test.YtkinpmbokkfpbaaSendHP
import Derived.Test.YtkinpmbokkfpbaaRecvF
import Derived.Test.YtkinpmbokkfpbaaSendE
namespace Go.Proofs.Ytkinpmbokkfpbaa
open Go.RowKit
attribute [local irreducible] Ex G GC GE Gq FPost LPost
set_option linter.unusedVariables false
set_option linter.unusedSimpArgs false
namespace strm
/-- a number's last byte -/
def byteZ (v : Int) : UInt8 := UInt8.ofNat (v % 256).toNat
theorem byteZ_toNat (v : Int) : ((byteZ v).toNat : Int) = v % 256 := by
  have h : (v % 256).toNat < 256 := by omega
  unfold byteZ
  rw [UInt8.toNat_ofNat_of_lt' (by simpa using h)]
  omega
theorem stream_sp (z : Int) (n : Nat) (hn : n ≤ 100000) : Spec Try.prog 4 [.int .i64 z, .int .i64 (n : Int)] [] fun v give => ∃ oa oc l, l.length = n ∧ v = .slice oa n oc ∧ give = [.vec 5 1 oa n oc (flat eB l)] := by
  have z1 := Int.emod_nonneg z (show (251 : Int) ≠ 0 by decide)
  have z2 := Int.emod_lt_of_pos z (show (0 : Int) < 251 by decide)
  refine Spec.intro Try.func4 rfl Try.ntmps4 rfl fun w0 rest rs_ hrs_ => ?_
  simp only [List.cons_append, List.nil_append] at hrs_
  subst hrs_
  first | refine G.nilvec 5 1 ?_ | refine GC.nilvec 5 1 ?_
  repeat (first | (apply G.ex (hd := rfl); case h => (first | exact Ex.assign rfl)) | refine G.nil ?_ | refine GC.seq ?_ | refine GC.region ?_ | refine GC.block ?_ | refine GE.then_normal ?_)
  refine GC.loop (ι := Nat × Option Addr × Nat × List UInt8) (fun x => x.1 ≤ n ∧ x.2.2.2.length = x.1) (fun x => n - x.1) (fun x => [(0, .int .i64 z), (1, .int .i64 (n : Int)), (5, .slice x.2.1 x.1 x.2.2.1), (6, .int .i64 (x.1 : Int))]) (fun x => [.vec 5 1 x.2.1 x.1 x.2.2.1 (flat eB x.2.2.2)]) (0, none, 0, []) ⟨Nat.zero_le _, rfl⟩ (by simp only [fits]; repeat (first | exact trivial | refine And.intro rfl ?_)) (by repeat (first | exact Takes.nil | apply Takes.dup rfl | apply Takes.cons | exact Take1.here | apply Take1.there)) ?_
  rintro ⟨k, oa, oc, l⟩ ⟨hk_, hl_⟩ fr_ rs_ hfr_ hrs_
  simp only [List.cons_append, List.nil_append] at hfr_ hrs_
  subst hfr_ hrs_
  obtain ⟨hk, hl⟩ : k ≤ n ∧ l.length = k := ⟨hk_, hl_⟩
  clear hk_ hl_
  repeat (first | (apply G.ex (hd := rfl); case h => (first | exact Ex.move rfl | exact Ex.lss rfl rfl)) | refine G.nil ?_ | refine GC.seq ?_ | refine GC.region ?_ | refine GE.then_normal ?_)
  refine GC.cond_dec rfl (fun hlt => ?_) (fun hlt => ?_)
  · have hlt : k < n := by omega
    repeat (first | (apply G.ex (hd := rfl); case h => (first | exact Ex.move rfl)) | refine GC.seq ?_ | refine GC.region ?_ | refine GC.block ?_ | refine GC.skip ?_ | refine GE.then_normal ?_)
    first | refine G.call (caps := []) (picked_sp z 251 (by omega) (by omega)) rfl rfl rfl rfl (by repeat (first | exact Takes.nil | apply Takes.dup rfl | apply Takes.cons | exact Take1.here | apply Take1.there)) ?_ | refine G.callU (caps := []) (picked_sp z 251 (by omega) (by omega)) rfl rfl rfl (by repeat (first | exact Takes.nil | apply Takes.dup rfl | apply Takes.cons | exact Take1.here | apply Take1.there)) ?_
    rintro v_ give_ ⟨rfl, rfl⟩ rs_ hrs_
    simp only [List.cons_append, List.nil_append] at hrs_
    subst hrs_
    repeat (first | (apply G.ex (hd := rfl); case h => (first | exact Ex.move rfl | exact Ex.add rfl rfl (by omega) | exact Ex.quo rfl rfl (by omega) | exact Ex.mul rfl rfl (by omega) | exact Ex.conv8 rfl)))
    rw [← byteZ_toNat]
    generalize byteZ _ = b
    have hcat : flat eB l ++ flat eB [b] = flat eB (l ++ [b]) := (flat_append ..).symm
    refine G.lit rfl (by rfl) (by rfl) (by rfl) (by rfl) (by rfl) (by rfl) rfl (fun y => ?_)
    repeat (first | fail)
    refine G.app rfl rfl (by rfl) (by omega) rfl (hcat) (fun o2 c2 rs_ hrs_ => ?_)
    try simp only at hrs_
    subst hrs_
    repeat (first | (apply G.ex (hd := rfl); case h => (first | exact Ex.move rfl | exact Ex.add rfl rfl (by omega) | exact Ex.assign rfl)) | refine G.nil ?_ | refine GC.region ?_ | refine GE.then_normal ?_ | refine GE.block_normal ?_)
    refine GE.loop (k + 1, o2, c2, l ++ [b]) ⟨by simp only; omega, by simp only [List.length_append, List.length_singleton]; omega⟩ (by simp only; omega) (by simp only [fits]; repeat (first | exact trivial | refine And.intro rfl ?_)) (by repeat (first | exact Takes.nil | apply Takes.dup rfl | apply Takes.cons | exact Take1.here | apply Take1.there)) (by repeat (first | exact Subs.refl | refine Subs.skip ?_))
  · have hkn : k = n := by omega
    subst hkn
    repeat (first | (apply G.ex (hd := rfl); case h => (first | exact Ex.move rfl | exact Ex.assign rfl)) | refine G.nil ?_ | refine GC.seq ?_ | refine GC.region ?_ | refine GC.ret ?_ | refine GC.exit ?_ | refine GE.then_normal ?_ | refine GE.then_exit ?_ | refine GE.block_hit ?_)
    refine GE.ret (by first | exact .inl rfl | exact .inr rfl) (by first | exact res0 Try.results4 | exact res1 Try.results4 rfl | exact res2 Try.results4 rfl rfl | exact resR1 Try.results4 (by first | exact RV.tmp rfl | exact RV.cell rfl (eP_len _) | exact RV.cell rfl rfl | exact RV.cell1 rfl) | exact resR2 Try.results4 (by first | exact RV.tmp rfl | exact RV.cell rfl (eP_len _) | exact RV.cell rfl rfl | exact RV.cell1 rfl) (by first | exact RV.tmp rfl | exact RV.cell rfl (eP_len _) | exact RV.cell rfl rfl | exact RV.cell1 rfl) | exact resR3 Try.results4 (by first | exact RV.tmp rfl | exact RV.cell rfl (eP_len _) | exact RV.cell rfl rfl | exact RV.cell1 rfl) (by first | exact RV.tmp rfl | exact RV.cell rfl (eP_len _) | exact RV.cell rfl rfl | exact RV.cell1 rfl) (by first | exact RV.tmp rfl | exact RV.cell rfl (eP_len _) | exact RV.cell rfl rfl | exact RV.cell1 rfl)) ⟨oa, oc, l, hl, rfl, rfl⟩ (by repeat (first | exact Takes.nil | apply Takes.dup rfl | apply Takes.cons | exact Take1.here | apply Take1.there)) (by repeat (first | exact Subs.refl | refine Subs.skip ?_))
end strm
end Go.Proofs.Ytkinpmbokkfpbaa
/-
  THE KIT OF MY OWN, THIRTIETH PART: a list of slices of which each is one of two that can be read; a list's entry set. Over any program; no condition.
-/
namespace Go.Proofs.Ytkinpmbokkfpbaa
open Go.RowKit Go.Sort
set_option linter.unusedVariables false
theorem Holds.rdTwo {w0 w : World} {rs : List Res} {α : Type} {enc : α → List Value} {s : Nat} (l : List (SlD α)) (x y : SlD α) (h : ∀ z ∈ l, z = x ∨ z = y) (H : Holds w0 w (.sl x.ao x.n x.c s (flat enc x.l) :: .sl y.ao y.n y.c s (flat enc y.l) :: rs)) : Holds w0 w (.per (Rd enc s l) :: rs) :=
  H.join fun f a b ha hb _ z hz => by
    rcases h z hz with rfl | rfl
    · exact ha
    · exact hb
theorem getD_set1 {α : Type} [Inhabited α] (l : List α) (i k : Nat) (x : α) (h : i < l.length) : (l.set i x).getD k default = if k = i then x else l.getD k default := by
  by_cases e : k = i
  · subst e
    rw [if_pos rfl, List.getD_eq_getElem?_getD, List.getElem?_set_self h]; rfl
  · rw [if_neg e, List.getD_eq_getElem?_getD, List.getElem?_set_ne (Ne.symm e), ← List.getD_eq_getElem?_getD]
theorem getD_mapT {α β : Type} [Inhabited α] [Inhabited β] (f : α → β) (l : List α) (k : Nat) (h : k < l.length) : (l.map f).getD k default = f (l.getD k default) := by
  rw [List.getD_eq_getElem?_getD, List.getElem?_map, List.getD_eq_getElem?_getD, List.getElem?_eq_getElem h]; rfl
end Go.Proofs.Ytkinpmbokkfpbaa
/-
  PLAIN LAW of packthreadtop.TopHeard: what who hears tells makes who sends know just what came; what did not come is sent again, once. No program in sight.
-/
namespace Go.Proofs.Ytkinpmbokkfpbaa
set_option linter.unusedVariables false
set_option linter.unusedSimpArgs false
namespace top
open hole
def arOf (x : Int × List UInt8) : recv.Ar := .arr x.1 x.2 false
def toH (t : recv.To) : send.De := .heard t.ack t.window t.sacks
/-- a place that came -/
def hit (L : List (Int × List UInt8)) (p : Int) : Bool := L.any fun x => decide (x.1 ≤ p) && decide (p < x.1 + x.2.length)
theorem hit_snoc (L : List (Int × List UInt8)) (x : Int × List UInt8) (p : Int) : hit (L ++ [x]) p = true ↔ hit L p = true ∨ (x.1 ≤ p ∧ p < x.1 + x.2.length) := by
  unfold hit
  rw [List.any_append, Bool.or_eq_true]
  simp
theorem edge_no : ∀ (l : List R) (d : Int), chain d l → ∀ r ∈ l, ¬ knows d l r.2
  | [], _, _, r, hr => by simp at hr
  | q :: t, d, h, r, hr => by
    have h1 := h.1
    have h2 := h.2.1
    have hc := h.2.2
    intro hk
    rcases List.mem_cons.1 hr with rfl | hr'
    · rcases hk with hk | hk
      · omega
      · rcases (inn_cons r t _).1 hk with hk | hk
        · omega
        · have := (inn_lt hc hk).1; omega
    · have hb := chain_mem t q.2 hc r hr'
      refine edge_no t q.2 hc r hr' ?_
      rcases hk with hk | hk
      · omega
      · rcases (inn_cons q t _).1 hk with hk | hk
        · omega
        · exact .inr hk
structure POk (n : Nat) (x : Int × List UInt8) : Prop where
  lo : 0 ≤ x.1
  hi : x.1 + x.2.length ≤ (n : Int)
  len : x.2.length ≤ 64
structure HInv (n : Nat) (L : List (Int × List UInt8)) (h : recv.He) : Prop where
  ok : recv.HOk h
  room : h.room = 1000
  taken : h.taken = 0
  en : h.end_ = -1
  kn : ∀ x, knows h.done h.more x ↔ x < 0 ∨ hit L x = true
  len : h.more.length ≤ L.length
  la : last h.done h.more ≤ n
theorem HInv.new (n : Nat) : HInv n [] (recv.newF 1000) :=
  ⟨recv.HOk.new (by omega), rfl, rfl, rfl, fun x => by simp [knows, recv.newF, inn_nil, hit], Nat.le_refl _, by simp [recv.newF, last]⟩
theorem HInv.step {n : Nat} {L : List (Int × List UInt8)} {h : recv.He} (k : HInv n L h) (hn : n ≤ 600) {x : Int × List UInt8} (hx : POk n x) (hL : L.length < 8) :
    recv.AOk h (arOf x) ∧ HInv n (L ++ [x]) (recv.doF h (arOf x)).1 := by
  obtain ⟨f, b⟩ := x
  obtain ⟨h1, h2, h3⟩ := hx
  simp only at h1 h2 h3
  have hr := k.room
  have ht := k.taken
  have he := k.en
  have hao : recv.AOk h (arOf (f, b)) := ⟨h1, by simp only; omega, h3, fun hh => by omega, fun hh => nomatch hh.1⟩
  refine ⟨hao, ?_⟩
  have hok := k.ok.step hao
  have hA := added h.done h.more (max f h.done, min (f + b.length) (h.taken + h.room)) k.ok.may.ch
  have hd0 := k.ok.may.d0
  have hla := k.la
  have hlen := k.len
  show HInv n (L ++ [(f, b)]) (recv.arrF h f b false).2
  have hok' : recv.HOk (recv.arrF h f b false).2 := hok
  unfold recv.arrF at hok' ⊢
  by_cases c : max f h.done < min (f + (b.length : Int)) (h.taken + h.room)
  · obtain ⟨c1, c2, c3, c4, c5, c6⟩ := hA
    simp only at c3 c5
    rw [if_pos c, if_neg (by omega)] at hok' ⊢
    refine ⟨hok', hr, ht, he, fun y => ?_, by simp only [List.length_append, List.length_singleton]; omega, by simp only; omega⟩
    simp only
    rw [c5, k.kn, hit_snoc]
    simp only
    constructor
    · rintro ((q | q) | q)
      · exact .inl q
      · exact .inr (.inl q)
      · exact .inr (.inr (by omega))
    · rintro (q | q | q)
      · exact .inl (.inl q)
      · exact .inl (.inr q)
      · by_cases e : y < h.done
        · exact .inl ((k.kn y).1 (.inl e))
        · exact .inr (by omega)
  · rw [if_neg c] at hok' ⊢
    refine ⟨hok', hr, ht, he, fun y => ?_, by simp only [List.length_append, List.length_singleton]; omega, hla⟩
    simp only
    rw [k.kn, hit_snoc]
    simp only
    constructor
    · rintro (q | q)
      · exact .inl q
      · exact .inr (.inl q)
    · rintro (q | q | q)
      · exact .inl q
      · exact .inr q
      · exact (k.kn y).1 (.inl (by omega))
structure Pair (n : Nat) (d : List UInt8) (h : recv.He) (s : send.Se) : Prop where
  ok : send.SOk s
  done : s.done = h.done
  more : s.more = h.more
  next : s.next = n
  again : s.again = n
  data : s.data = d
  closed : s.closed = false
  edge : s.edge = 1000
theorem Pair.step {n : Nat} {d : List UInt8} {L : List (Int × List UInt8)} {h : recv.He} {s : send.Se} (k : HInv n L h) (hn : n ≤ 600) {x : Int × List UInt8} (hx : POk n x) (hL : L.length < 8) (q : Pair n d h s) :
    Pair n d (recv.doF h (arOf x)).1 (send.doF s (toH (recv.doF h (arOf x)).2)).1 := by
  obtain ⟨_, k'⟩ := k.step hn hx hL
  obtain ⟨f, b⟩ := x
  obtain ⟨h1, h2, h3⟩ := hx
  simp only at h1 h2 h3
  have hkn : ∀ y, knows (recv.doF h (arOf (f, b))).1.done (recv.doF h (arOf (f, b))).1.more y ↔ knows h.done h.more y ∨ (f ≤ y ∧ y < f + b.length) := by
    intro y; rw [k'.kn, k.kn, hit_snoc, or_assoc]
  have ht : (recv.doF h (arOf (f, b))).2 = recv.told (recv.doF h (arOf (f, b))).1 (recv.arrF h f b false).1 f [] false := rfl
  rw [ht]
  generalize (recv.arrF h f b false).1 = cd at *
  generalize (recv.doF h (arOf (f, b))).1 = h' at *
  have hd0 := k'.ok.may.d0
  have hla := k'.la
  have hle := chain_le _ _ k'.ok.may.ch
  have hack : (recv.told h' cd f [] false).ack = h'.done := by
    unfold recv.told; simp only; rw [if_neg (by rw [k'.en]; omega)]
  have hwin : (recv.told h' cd f [] false).window = 1000 - h'.done := by
    unfold recv.told; simp only; rw [k'.taken, k'.room]; omega
  have hsk : (recv.told h' cd f [] false).sacks = sacks f h'.more 3 := rfl
  have hsl : (sacks f h'.more 3).length ≤ 3 := by rw [sacks_len]; omega
  have hmem : ∀ r ∈ sacks f h'.more 3, 0 ≤ r.1 ∧ r.1 < r.2 ∧ r.2 ≤ s.next := by
    intro r hr
    have := chain_mem _ _ k'.ok.may.ch r (sacks_mem hr)
    rw [q.next]; omega
  have hml := k.len
  have hH := send.heard_ok q.ok h'.done (1000 - h'.done) (sacks f h'.more 3) (by rw [q.next]; omega) hsl hmem (by rw [q.more]; omega)
  have hso := q.ok.heard h'.done (1000 - h'.done) (sacks f h'.more 3)
  have hdo : (send.doF s (toH (recv.told h' cd f [] false))).1 = (send.heardF s h'.done (1000 - h'.done) (sacks f h'.more 3)).2 := by
    show (send.heardF s (recv.told h' cd f [] false).ack (recv.told h' cd f [] false).window (recv.told h' cd f [] false).sacks).2 = _
    rw [hack, hwin, hsk]
  rw [hdo]
  generalize (send.heardF s h'.done (1000 - h'.done) (sacks f h'.more 3)).2 = s' at *
  have heq : ∀ y, knows s'.done s'.more y ↔ knows h'.done h'.more y := by
    intro y
    rw [hH.kn, q.done, q.more]
    constructor
    · rintro (e | e | e)
      · exact (hkn y).2 (.inl e)
      · exact .inl e.2
      · obtain ⟨r, hr, r1, r2⟩ := e
        exact .inr ⟨r, sacks_mem hr, r1, r2⟩
    · intro e
      rcases (hkn y).1 e with e1 | e1
      · exact .inl e1
      · by_cases c : y < h'.done
        · by_cases c0 : 0 ≤ y
          · exact .inr (.inl ⟨c0, c⟩)
          · omega
        · have hnd := knows_d k'.ok.may.ch
          have hfd : h'.done < f := by
            apply Classical.byContradiction
            intro hc
            exact hnd ((hkn _).2 (.inr ⟨by omega, by omega⟩))
          have hff : inn h'.more f := ((hkn f).2 (.inr ⟨by omega, by omega⟩)).resolve_left (by omega)
          have h0 := sacks_first (k := 3) (by omega) hff
          have hpos : 0 < (sacks f h'.more 3).length := by
            rw [sacks_len]
            obtain ⟨r, hr, _⟩ := hff
            have := List.length_pos_of_mem hr
            omega
          rw [getD_eq' _ _ hpos] at h0
          have hm := List.getElem_mem hpos
          refine .inr (.inr ⟨_, hm, by omega, ?_⟩)
          apply Classical.byContradiction
          intro hc
          exact edge_no _ _ k'.ok.may.ch _ (sacks_mem hm) ((hkn _).2 (.inr ⟨by omega, by omega⟩))
  obtain ⟨e1, e2⟩ := knows_eq hH.may.ch k'.ok.may.ch heq
  exact ⟨hso, e1, e2, by rw [hH.next, q.next], by rw [hH.again, q.again], by rw [hH.data, q.data], by rw [hH.closed, q.closed], by rw [hH.edge, q.edge]; omega⟩
theorem hears_run {n : Nat} (hn : n ≤ 600) {d : List UInt8} : ∀ (L2 L1 : List (Int × List UInt8)) (h : recv.He) (s : send.Se), HInv n L1 h → Pair n d h s → L1.length + L2.length ≤ 8 → (∀ x ∈ L2, POk n x) →
    recv.RunOk h (L2.map arOf) ∧ HInv n (L1 ++ L2) (recv.ends h (L2.map arOf)) ∧ Pair n d (recv.ends h (L2.map arOf)) (send.ends s ((recv.runs h (L2.map arOf)).map toH))
  | [], L1, h, s, k, q, _, _ => ⟨trivial, by rw [List.append_nil]; exact k, q⟩
  | x :: t, L1, h, s, k, q, hl, hx => by
    simp only [List.length_cons] at hl
    obtain ⟨a, k'⟩ := k.step hn (hx x (by simp)) (by omega)
    have q' := q.step k hn (hx x (by simp)) (by omega)
    obtain ⟨i1, i2, i3⟩ := hears_run hn t (L1 ++ [x]) _ _ k' q' (by simp only [List.length_append, List.length_singleton]; omega) (fun y hy => hx y (List.mem_cons_of_mem _ hy))
    rw [List.append_assoc] at i2
    exact ⟨⟨a, i1⟩, i2, i3⟩
/-- polls: what each tells -/
theorem polls_told : ∀ (j : Nat) (s : send.Se), send.SOk s → ∀ t ∈ send.runs s (send.polls j), t.idle = true ∨ (0 ≤ t.from_ ∧ t.data.length ≤ 64 ∧ t.from_ + t.data.length ≤ (s.data.length : Int))
  | 0, s, _, t, ht => by simp [send.polls, send.runs] at ht
  | j + 1, s, k, t, ht => by
    rw [send.polls_succ] at ht
    simp only [send.runs, send.doF] at ht
    have hp := send.poll_told k
    rcases List.mem_cons.1 ht with rfl | ht
    · cases e : (send.pollF s).2.idle with
      | true => exact .inl rfl
      | false => exact .inr ⟨(hp.bd e).1, (hp.bd e).2.1, (hp.bd e).2.2.1⟩
    · have := polls_told j _ k.poll t ht
      rwa [hp.data] at this
theorem polls_again : ∀ (j : Nat) (s : send.Se), send.SOk s → s.closed = false → s.next = s.data.length → ∀ t ∈ send.runs s (send.polls j), t.again = false → t.data = []
  | 0, s, _, _, _, t, ht, _ => by simp [send.polls, send.runs] at ht
  | j + 1, s, k, hc, hx, t, ht, ha => by
    rw [send.polls_succ] at ht
    simp only [send.runs, send.doF] at ht
    have hp := send.poll_told k
    have hkey : (send.pollF s).2.idle = false → (send.pollF s).2.again = false → (send.pollF s).2.data = [] ∧ (send.pollF s).1.next = s.next := by
      intro e1 e2
      obtain ⟨b1, b2, b3, b4, b5, b6⟩ := hp.bd e1
      obtain ⟨w1, w2, w3⟩ := hp.new e1 e2
      have hz : (send.pollF s).2.data.length = 0 := by omega
      have hf : ¬ (send.pollF s).2.fin = true := fun hh => by rw [(b5 hh).1] at hc; exact nomatch hc
      exact ⟨List.length_eq_zero_iff.1 hz, by rw [w3, if_neg hf]; omega⟩
    rcases List.mem_cons.1 ht with rfl | ht
    · cases e : (send.pollF s).2.idle with
      | true => exact (hp.idle e).2.1
      | false => exact (hkey e ha).1
    · refine polls_again j _ k.poll (by rw [hp.closed]; exact hc) ?_ t ht ha
      rw [hp.data, ← hx]
      cases e : (send.pollF s).2.idle with
      | true => rw [(hp.idle e).2.2.2.2]
      | false =>
        cases e2 : (send.pollF s).2.again with
        | true => exact (hp.old e e2).2
        | false => exact (hkey e e2).2
def firstD (d : List UInt8) : List send.De := [.submit d] ++ send.polls 12
def allD (d : List UInt8) (L : List (Int × List UInt8)) : List send.De := firstD d ++ (recv.runs (recv.newF 1000) (L.map arOf)).map toH ++ [.timeout] ++ send.polls 20
theorem firstD_len (d : List UInt8) : (firstD d).length = 13 := by unfold firstD; rw [List.length_append, send.polls_len]; rfl
theorem first_run (d : List UInt8) (hd : 1 ≤ d.length ∧ d.length ≤ 600) :
    Pair d.length d (recv.newF 1000) (send.ends (send.newF 1000) (firstD d)) ∧ ∀ k, k < 12 → ((send.runs (send.newF 1000) (firstD d)).getD (1 + k) default).idle = true ∨ POk d.length (((send.runs (send.newF 1000) (firstD d)).getD (1 + k) default).from_, ((send.runs (send.newF 1000) (firstD d)).getD (1 + k) default).data) := by
  have hH : send.SOk (send.newF 1000) := send.SOk.new (by omega)
  have e1 : (send.doF (send.newF 1000) (.submit d)).1 = (⟨d, false, 0, [], 0, 0, 1000⟩ : send.Se) := by
    show (send.submitF (send.newF 1000) d).2 = _
    unfold send.submitF send.newF
    rw [if_neg (by simp), if_neg (by omega), if_neg (by simp only [List.length_nil]; omega)]
    rfl
  have k1 : send.SOk (⟨d, false, 0, [], 0, 0, 1000⟩ : send.Se) := by rw [← e1]; exact hH.step _
  obtain ⟨n1, n2, n3, n4, n5, n6, n7⟩ := send.new_run 12 _ k1 rfl rfl rfl (by simp only; omega) (by simp only; omega)
  have k2 := send.SOk.ends (l := send.polls 12) k1
  have he : send.ends (send.newF 1000) (firstD d) = send.ends (⟨d, false, 0, [], 0, 0, 1000⟩ : send.Se) (send.polls 12) := by
    unfold firstD
    rw [send.ends_app]
    simp only [send.ends]
    rw [e1]
  rw [he]
  refine ⟨⟨k2, n3, n4, n5, n6, n1, n2, n7⟩, fun k hk => ?_⟩
  have hr : (send.runs (send.newF 1000) (firstD d)).getD (1 + k) default = (send.runs (⟨d, false, 0, [], 0, 0, 1000⟩ : send.Se) (send.polls 12)).getD k default := by
    unfold firstD
    rw [send.runs_app]
    simp only [send.runs, send.ends]
    rw [e1, List.getD_eq_getElem?_getD, List.getElem?_append_right (by simp), ← List.getD_eq_getElem?_getD]
    rw [show 1 + k - [(send.doF (send.newF 1000) (.submit d)).2].length = k by simp]
  rw [hr]
  have hl : (send.runs (⟨d, false, 0, [], 0, 0, 1000⟩ : send.Se) (send.polls 12)).length = 12 := by rw [send.runs_len, send.polls_len]
  have hm : (send.runs (⟨d, false, 0, [], 0, 0, 1000⟩ : send.Se) (send.polls 12)).getD k default ∈ send.runs (⟨d, false, 0, [], 0, 0, 1000⟩ : send.Se) (send.polls 12) := by
    rw [List.getD_eq_getElem?_getD, List.getElem?_eq_getElem (by omega)]; exact List.getElem_mem _
  rcases polls_told 12 _ k1 _ hm with h | ⟨h1, h2, h3⟩
  · exact .inl h
  · exact .inr ⟨h1, h3, h2⟩
structure TopL (n : Nat) (L : List (Int × List UInt8)) (out : List send.St) : Prop where
  len : out.length = 34 + L.length
  cov : ∀ p : Int, 0 ≤ p → p < (n : Int) → send.cov (out.drop (13 + L.length)) p = if hit L p = true then 0 else 1
  bd : ∀ t ∈ out.drop (13 + L.length), 0 ≤ t.from_ ∧ t.from_ + t.data.length ≤ (n : Int)
  ag : ∀ t ∈ out.drop (13 + L.length), t.again = false → t.data = []
theorem hears_ok (d : List UInt8) (hd : 1 ≤ d.length ∧ d.length ≤ 600) (L : List (Int × List UInt8)) (hL : L.length ≤ 8) (hx : ∀ x ∈ L, POk d.length x) : recv.RunOk (recv.newF 1000) (L.map arOf) :=
  (hears_run hd.2 L [] _ _ (HInv.new d.length) (first_run d hd).1 (by simpa using hL) hx).1
theorem heard_top (d : List UInt8) (hd : 1 ≤ d.length ∧ d.length ≤ 600) (L : List (Int × List UInt8)) (hL : L.length ≤ 8) (hx : ∀ x ∈ L, POk d.length x) : TopL d.length L (send.runs (send.newF 1000) (allD d L)) := by
  obtain ⟨_, i2, i3⟩ := hears_run hd.2 L [] _ _ (HInv.new d.length) (first_run d hd).1 (by simpa using hL) hx
  rw [List.nil_append] at i2
  generalize hhs : (recv.runs (recv.newF 1000) (L.map arOf)).map toH = hs at *
  have hhl : hs.length = L.length := by rw [← hhs, List.length_map, recv.runs_len, List.length_map]
  rw [← send.ends_app] at i3
  generalize recv.ends (recv.newF 1000) (L.map arOf) = h at *
  generalize hs3 : send.ends (send.newF 1000) (firstD d ++ hs) = s3 at *
  obtain ⟨k3, q1, q2, q3, q4, q5, q6, q7⟩ := i3
  have end3 : s3.end_ = d.length := by unfold send.Se.end_; rw [q6, q5]; rfl
  have t3 : send.timeoutF s3 = { s3 with again := s3.done } := by unfold send.timeoutF; rw [if_neg (by omega)]
  have k4 := k3.timeout
  rw [t3] at k4
  have hphi : send.phi ({ s3 with again := s3.done } : send.Se) ≤ 20 := by
    unfold send.phi
    have h1 := List.length_filter_le (fun r : R => decide (s3.done < r.1)) s3.more
    have h2 := k4.a0
    have h3 := i2.len
    rw [q2] at h1
    simp only at h1 h2 ⊢
    rw [q2]
    omega
  obtain ⟨r1, r2, r3, r4, r5, r6, r7, r8⟩ := send.again_run 20 ({ s3 with again := s3.done } : send.Se) k4 q6 (by simp only [send.Se.to2]; rw [show ({ s3 with again := s3.done } : send.Se).end_ = s3.end_ from rfl, end3]; omega) hphi
  have hag := polls_again 20 ({ s3 with again := s3.done } : send.Se) k4 q6 (by simp only; rw [q3, q5])
  simp only at r1 r2
  generalize hR : send.runs ({ s3 with again := s3.done } : send.Se) (send.polls 20) = L5 at *
  have hL5 : L5.length = 20 := by rw [← hR, send.runs_len, send.polls_len]
  have hall : send.runs (send.newF 1000) (allD d L) = send.runs (send.newF 1000) (firstD d ++ hs) ++ (send.plain 0 ({ s3 with again := s3.done } : send.Se) :: L5) := by
    unfold allD
    rw [hhs, List.append_assoc (firstD d ++ hs), send.runs_app, hs3]
    congr 1
    show (send.doF s3 .timeout).2 :: send.runs (send.doF s3 .timeout).1 (send.polls 20) = _
    simp only [send.doF]
    rw [t3, hR]
  have hl1 : (send.runs (send.newF 1000) (firstD d ++ hs)).length = 13 + L.length := by rw [send.runs_len, List.length_append, firstD_len, hhl]
  rw [hall]
  generalize send.runs (send.newF 1000) (firstD d ++ hs) = L1 at *
  have hdr : (L1 ++ (send.plain 0 ({ s3 with again := s3.done } : send.Se) :: L5)).drop (13 + L.length) = send.plain 0 ({ s3 with again := s3.done } : send.Se) :: L5 := by
    rw [← hl1, List.drop_left]
  refine ⟨by simp only [List.length_append, List.length_cons]; omega, fun p p0 p1 => ?_, fun t ht => ?_, fun t ht => ?_⟩
  · rw [hdr, send.cov_cons, if_neg (by simp only [send.plain, List.length_nil]; omega), Nat.zero_add]
    obtain ⟨v1, v2⟩ := r1 p p0 (by omega)
    have hkn := i2.kn p
    rw [← q1, ← q2] at hkn
    by_cases c : hit L p = true
    · rw [if_pos c]
      exact v2 fun h => h.2 (hkn.2 (.inr c))
    · rw [if_neg c]
      have hno : ¬ knows s3.done s3.more p := fun h => (hkn.1 h).elim (fun h => by omega) c
      refine v1 ⟨?_, hno⟩
      exact Classical.byContradiction fun h => hno (.inl (by omega))
  · rw [hdr] at ht
    rcases List.mem_cons.1 ht with rfl | ht
    · simp only [send.plain, List.length_nil]; omega
    · have := r2 t ht; omega
  · rw [hdr] at ht
    rcases List.mem_cons.1 ht with rfl | ht
    · intro _; rfl
    · exact hag t ht
end top
end Go.Proofs.Ytkinpmbokkfpbaa
/-
  CONTRACT of packthreadtop.TopHeard, by the kit.
-/
namespace Go.Proofs.Ytkinpmbokkfpbaa
open Go.RowKit
attribute [local irreducible] Ex G GC GE Gq FPost LPost
set_option linter.unusedVariables false
set_option linter.unusedSimpArgs false
namespace top
open hole strm
def eBo (b : Bool) : List Value := [.bool b]
instance : Enc eBo 1 := ⟨fun _ => rfl, fun x u hu => by simp [eBo] at hu; subst hu; rfl⟩
abbrev pM : send.DeM := ⟨3, ⟨none, 0, 0, []⟩, 0, 0, ⟨none, 0, 0, []⟩⟩
abbrev tM : send.DeM := ⟨4, ⟨none, 0, 0, []⟩, 0, 0, ⟨none, 0, 0, []⟩⟩
def hM (m : recv.ToM) : send.DeM := ⟨2, ⟨none, 0, 0, []⟩, m.t.ack, m.t.window, recv.soF m⟩
def pr (m : recv.ArM) : Int × List UInt8 := (m.f, m.d.l)
theorem rep_cells (A : List send.DeM) (i : Nat) : flat send.eD (A ++ List.replicate i pM) ++ flat send.eD [pM] = flat send.eD (A ++ List.replicate (i + 1) pM) := by
  rw [← flat_append, List.append_assoc, ← List.replicate_succ']
theorem take_snocT {α : Type} [Inhabited α] (l : List α) (k : Nat) (h : k < l.length) : l.take (k + 1) = l.take k ++ [l.getD k default] := by
  rw [List.getD_eq_getElem?_getD, List.getElem?_eq_getElem h]; simp
theorem cov_take (l : List send.St) (c : Nat) (p : Int) (h : c < l.length) : send.cov (l.take (c + 1)) p = send.cov (l.take c) p + (if (l.getD c default).from_ ≤ p ∧ p < (l.getD c default).from_ + (l.getD c default).data.length then 1 else 0) := by
  rw [take_snocT l c h]
  unfold send.cov
  rw [List.filter_append, List.length_append, List.filter_cons]
  congr 1
  by_cases e : (l.getD c default).from_ ≤ p ∧ p < (l.getD c default).from_ + (l.getD c default).data.length
  · rw [if_pos e, if_pos (by rw [decide_eq_true e.1, decide_eq_true e.2]; rfl)]; rfl
  · rw [if_neg e, if_neg (fun h => e (by rw [Bool.and_eq_true, decide_eq_true_eq, decide_eq_true_eq] at h; exact h))]; rfl
theorem cov_le (l : List send.St) (c : Nat) (p : Int) : send.cov (l.take c) p ≤ send.cov l p := by
  unfold send.cov
  exact ((List.take_sublist c l).filter _).length_le
theorem sacks3 : ∀ (l : List recv.Ar) (h : recv.He), ∀ t ∈ recv.runs h l, t.sacks.length ≤ 3
  | [], h, t, ht => by simp [recv.runs] at ht
  | a :: l, h, t, ht => by
    simp only [recv.runs] at ht
    rcases List.mem_cons.1 ht with rfl | ht
    · cases a with
      | arr f b fin => show (sacks _ _ 3).length ≤ 3; rw [sacks_len]; omega
      | take n => show (sacks _ _ 3).length ≤ 3; rw [sacks_len]; omega
    · exact sacks3 l _ t ht
theorem Holds.rdSub {w0 w : World} {rs : List Res} {α : Type} {enc : α → List Value} {s : Nat} {l : List (SlD α)} (l' : List (SlD α)) (y : SlD α) (h : ∀ z ∈ l', z = y ∨ z ∈ l) (H : Holds w0 w (.sl y.ao y.n y.c s (flat enc y.l) :: .per (Rd enc s l) :: rs)) : Holds w0 w (.per (Rd enc s l') :: rs) :=
  H.join fun f a b ha hb _ z hz => by
    rcases h z hz with rfl | hz
    · exact ha
    · exact hb z hz
theorem getD_mem1 {α : Type} [Inhabited α] (l : List α) (k : Nat) (h : k < l.length) : l.getD k default ∈ l := by
  rw [List.getD_eq_getElem?_getD, List.getElem?_eq_getElem h]; exact List.getElem_mem h
structure AM (n : Nat) (m : recv.ArM) : Prop where
  kind : m.kind = 1
  fin : m.fin = false
  len : m.d.l.length = m.d.n
  ok : POk n (pr m)
set_option maxHeartbeats 16000000 in
theorem topHeard_sp (a0 : Int) (ha0 : -9223372036854775808 ≤ a0 ∧ a0 ≤ 9223372036854775807) (a1 : Int) (ha1 : -9223372036854775808 ≤ a1 ∧ a1 ≤ 9223372036854775807) (a2 : Option Addr) (len2 cap2 : Nat) (z2 : List Int) (hl2 : z2.length = len2) (hb2 : len2 ≤ 9223372036854775807) (hw2 : ∀ z ∈ z2, -9223372036854775808 ≤ z ∧ z ≤ 9223372036854775807) :
    Spec Try.prog 3 [.int .i64 a0, .int .i64 a1, .slice a2 len2 cap2] [.sl a2 len2 cap2 1 (flat (eI .i64) z2)] fun v give => v = .bool true ∧ give = [] := by
  have s1 := Int.emod_nonneg a1 (show (600 : Int) ≠ 0 by omega)
  have s2 := Int.emod_lt_of_pos a1 (show (0 : Int) < 600 by omega)
  obtain ⟨n, hn⟩ : ∃ n : Nat, a1 % 600 = (n : Int) := ⟨(a1 % 600).toNat, by omega⟩
  have htt : ¬ ¬ true = true := fun h => h rfl
  refine Spec.intro Try.func3 rfl Try.ntmps3 rfl fun w0 rest rs_ hrs_ => ?_
  simp only [List.cons_append, List.nil_append] at hrs_
  subst hrs_
  repeat (first | (apply G.ex (hd := rfl); case h => (first | exact Ex.move rfl | exact Ex.assign rfl)) | refine G.nil ?_ | refine GC.seq ?_ | refine GC.region ?_ | refine GE.then_normal ?_)
  first | refine G.call (caps := []) (picked_sp a1 600 (by omega) (by omega)) rfl rfl rfl rfl (by repeat (first | exact Takes.nil | apply Takes.dup rfl | apply Takes.cons | exact Take1.here | apply Take1.there)) ?_ | refine G.callU (caps := []) (picked_sp a1 600 (by omega) (by omega)) rfl rfl rfl (by repeat (first | exact Takes.nil | apply Takes.dup rfl | apply Takes.cons | exact Take1.here | apply Take1.there)) ?_
  rintro v_ give_ ⟨rfl, rfl⟩ rs_ hrs_
  simp only [List.cons_append, List.nil_append] at hrs_
  subst hrs_
  rw [hn]
  first | (apply G.ex (hd := rfl); case h => (first | exact Ex.add rfl rfl (by omega)))
  rw [show (1 : Int) + (n : Int) = ((n + 1 : Nat) : Int) by omega]
  first | refine G.call (caps := []) (stream_sp a0 (n + 1) (by omega)) rfl rfl rfl rfl (by repeat (first | exact Takes.nil | apply Takes.dup rfl | apply Takes.cons | exact Take1.here | apply Take1.there)) ?_ | refine G.callU (caps := []) (stream_sp a0 (n + 1) (by omega)) rfl rfl rfl (by repeat (first | exact Takes.nil | apply Takes.dup rfl | apply Takes.cons | exact Take1.here | apply Take1.there)) ?_
  rintro v_ give_ ⟨so, sc, D, hD, rfl, rfl⟩ rs_ hrs_
  simp only [List.cons_append, List.nil_append] at hrs_
  subst hrs_
  first | refine G.frz so ?_ | refine GC.frz so ?_ | refine GE.frz so ?_
  have hDb : 1 ≤ D.length ∧ D.length ≤ 600 := by omega
  rw [← hD]
  obtain ⟨sM, hsM⟩ : ∃ sM : send.DeM, sM = ⟨1, ⟨so, D.length, sc, D⟩, 0, 0, ⟨none, 0, 0, []⟩⟩ := ⟨_, rfl⟩
  repeat (first | (apply G.ex (hd := rfl); case h => (first | exact Ex.move rfl | exact Ex.assign rfl | exact Ex.build rfl rfl)) | refine G.nil ?_ | refine GC.seq ?_ | refine GC.region ?_ | refine GE.then_normal ?_)
  refine G.lit (cells := flat send.eD [(⟨1, ⟨so, D.length, sc, D⟩, 0, 0, ⟨none, 0, 0, []⟩⟩ : send.DeM)]) rfl (by rfl) (by rfl) (by rfl) (by rfl) (by rfl) (by rfl) rfl (fun q1 => ?_)
  rw [← hsM]
  repeat (first | (apply G.ex (hd := rfl); case h => (first | exact Ex.assign rfl)) | refine G.nil ?_ | refine GC.seq ?_ | refine GC.region ?_ | refine GC.block ?_ | refine GE.then_normal ?_)
  rw [show flat send.eD [sM] = flat send.eD ([sM] ++ List.replicate 0 pM) by simp]
  refine GC.conv (rs' := [.vec 28 5 q1 1 1 (flat send.eD ([sM] ++ List.replicate 0 pM)), .sl so D.length sc 1 (flat eB D), .sl a2 len2 cap2 1 (flat (eI .i64) z2)] ++ rest) (fun w_ H_ => ?_) ?_
  · have h_ := H_.take (need := [.vec 28 5 q1 1 1 (flat send.eD ([sM] ++ List.replicate 0 pM)), .sl so D.length sc 1 (flat eB D), .sl a2 len2 cap2 1 (flat (eI .i64) z2)]) (by repeat (first | exact Takes.nil | apply Takes.dup rfl | apply Takes.cons | exact Take1.here | apply Take1.there))
    exact subs_app (by repeat (first | exact Subs.refl | refine Subs.skip ?_)) h_
  try simp only [List.append_eq, List.nil_append, List.cons_append]
  refine GC.loop (ι := Nat × Option Addr × Nat) (fun x => x.1 ≤ 12) (fun x => 12 - x.1) (fun x => [(2, .slice a2 len2 cap2), (7, .slice so D.length sc), (8, .slice x.2.1 (1 + x.1) x.2.2), (9, .int .i64 (x.1 : Int))]) (fun x => [.vec 28 5 x.2.1 (1 + x.1) x.2.2 (flat send.eD ([sM] ++ List.replicate x.1 pM)), .sl so D.length sc 1 (flat eB D), .sl a2 len2 cap2 1 (flat (eI .i64) z2)]) (0, q1, 1) (Nat.zero_le _) (by simp only [fits]; repeat (first | exact trivial | refine And.intro rfl ?_)) (by repeat (first | exact Takes.nil | apply Takes.dup rfl | apply Takes.cons | exact Take1.here | apply Take1.there)) ?_
  rintro ⟨i, o1, c1⟩ hi fr_ rs_ hfr_ hrs_
  simp only [List.cons_append, List.nil_append] at hfr_ hrs_
  subst hfr_ hrs_
  have hi' : i ≤ 12 := hi
  repeat (first | (apply G.ex (hd := rfl); case h => (first | exact Ex.move rfl | exact Ex.lss rfl rfl)) | refine G.nil ?_ | refine GC.seq ?_ | refine GC.region ?_ | refine GE.then_normal ?_)
  refine GC.cond_dec rfl (fun hlt => ?_) (fun hlt => ?_)
  · have hcat := rep_cells [sM] i
    repeat (first | (apply G.ex (hd := rfl); case h => (first | exact Ex.move rfl | exact Ex.build rfl rfl)) | refine GC.seq ?_ | refine GC.region ?_ | refine GC.block ?_ | refine GC.skip ?_ | refine GE.then_normal ?_)
    refine G.lit (cells := flat send.eD [pM]) rfl (by rfl) (by rfl) (by rfl) (by rfl) (by rfl) (by rfl) rfl (fun q => ?_)
    refine G.app rfl rfl (by rfl) (by omega) rfl (hcat) (fun o2 c2 rs_ hrs_ => ?_)
    try simp only at hrs_
    subst hrs_
    repeat (first | (apply G.ex (hd := rfl); case h => (first | exact Ex.move rfl | exact Ex.add rfl rfl (by omega) | exact Ex.assign rfl)) | refine G.nil ?_ | refine GC.region ?_ | refine GE.then_normal ?_ | refine GE.block_normal ?_)
    rw [show (i : Int) + 1 = ((i + 1 : Nat) : Int) by omega]
    refine GE.loop (i + 1, o2, c2) (by simp only; omega) (by simp only; omega) (by simp only [fits]; repeat (first | exact trivial | refine And.intro rfl ?_)) (by repeat (first | exact Takes.nil | apply Takes.dup rfl | apply Takes.cons | exact Take1.here | apply Take1.there)) (by repeat (first | exact Subs.refl | refine Subs.skip ?_))
  obtain rfl : i = 12 := by omega
  obtain ⟨D1, hD1⟩ : ∃ D1, D1 = sM :: List.replicate 12 pM := ⟨_, rfl⟩
  rw [← hD1, show 1 + 12 = 13 from rfl]
  have hD1l : D1.length = 13 := by rw [hD1]; simp
  have hmem1 : ∀ m ∈ D1, m = sM ∨ m = pM := by
    intro m hm
    rw [hD1] at hm
    simp only [List.mem_cons, List.mem_replicate] at hm
    rcases hm with h | h
    · exact .inl h
    · exact .inr h.2
  have hde1 : D1.map send.toDe = firstD D := by
    rw [hD1, hsM]
    unfold firstD send.polls
    simp only [List.map_append, List.map_cons, List.map_nil, List.map_replicate]
    rfl
  have hsMok : send.MOk sM := by rw [hsM]; exact ⟨by simp, rfl, rfl, by simp only; omega, by simp⟩
  have hpMok : send.MOk pM := ⟨by simp, rfl, rfl, by simp, by simp⟩
  have htMok : send.MOk tM := ⟨by simp, rfl, rfl, by simp, by simp⟩
  have hMs1 : ∀ m ∈ D1, send.MOk m := by
    intro m hm
    rcases hmem1 m hm with rfl | rfl
    · exact hsMok
    · exact hpMok
  have hrd1 : ∀ z ∈ D1.map (·.d), z = (⟨so, D.length, sc, D⟩) ∨ z = ⟨none, 0, 0, []⟩ := by
    intro z hz
    obtain ⟨m, hm, rfl⟩ := List.mem_map.1 hz
    rcases hmem1 m hm with rfl | rfl
    · exact .inl (by rw [hsM])
    · exact .inr rfl
  have hrd2 : ∀ z ∈ D1.map (·.sk), z = (⟨none, 0, 0, []⟩ : SlD R) ∨ z = ⟨none, 0, 0, []⟩ := by
    intro z hz
    obtain ⟨m, hm, rfl⟩ := List.mem_map.1 hz
    rcases hmem1 m hm with rfl | rfl
    · exact .inl (by rw [hsM])
    · exact .inr rfl
  repeat (first | (apply G.ex (hd := rfl); case h => (first | exact Ex.move rfl)) | refine GC.seq ?_ | refine GC.region ?_ | refine GC.exit ?_ | refine GE.then_normal ?_ | refine GE.then_exit ?_ | refine GE.block_hit ?_)
  refine G.appNil rfl rfl (by rfl) (by omega) rfl (rfl) (fun o3 c3 => ?_)
  first | refine G.nilvec 5 1 ?_ | refine GC.nilvec 5 1 ?_
  first | refine G.frz none ?_ | refine GC.frz none ?_ | refine GE.frz none ?_
  refine G.conv (fun w_ H_ => Holds.rdTwo (D1.map (·.d)) ⟨so, D.length, sc, D⟩ ⟨none, 0, 0, []⟩ hrd1 (H_.take (need := [.sl so D.length sc 1 (flat eB D), .sl none 0 0 1 (flat eB [])]) (by repeat (first | exact Takes.nil | apply Takes.dup rfl | apply Takes.cons | exact Take1.here | apply Take1.there)))) ?_
  try simp only [List.append_eq, List.nil_append, List.cons_append]
  first | refine G.nilvec 65 2 ?_ | refine GC.nilvec 65 2 ?_
  first | refine G.frz none ?_ | refine GC.frz none ?_ | refine GE.frz none ?_
  refine G.conv (fun w_ H_ => Holds.rdTwo (D1.map (·.sk)) ⟨none, 0, 0, []⟩ ⟨none, 0, 0, []⟩ hrd2 (H_.take (need := [.sl none 0 0 2 (flat eR []), .sl none 0 0 2 (flat eR [])]) (by repeat (first | exact Takes.nil | apply Takes.dup rfl | apply Takes.cons | exact Take1.here | apply Take1.there)))) ?_
  try simp only [List.append_eq, List.nil_append, List.cons_append]
  first | refine G.call (caps := []) (send.play_sp 1000 (by omega) (.vec 28 5 o3 13 c3 (flat send.eD D1)) o3 13 c3 D1 hD1l (by omega) hMs1) rfl rfl rfl rfl (by repeat (first | exact Takes.nil | apply Takes.dup rfl | apply Takes.cons | exact Take1.here | apply Take1.there)) ?_ | refine G.callU (caps := []) (send.play_sp 1000 (by omega) (.vec 28 5 o3 13 c3 (flat send.eD D1)) o3 13 c3 D1 hD1l (by omega) hMs1) rfl rfl rfl (by repeat (first | exact Takes.nil | apply Takes.dup rfl | apply Takes.cons | exact Take1.here | apply Take1.there)) ?_
  rintro v_ give_ ⟨T1, oT, oTc, hT1, rfl, rfl⟩ rs_ hrs_
  simp only [List.cons_append, List.nil_append] at hrs_
  subst hrs_
  rw [hde1] at hT1
  have hT1l : T1.length = 13 := by
    have := congrArg List.length hT1
    rw [List.length_map, send.runs_len, firstD_len] at this
    exact this
  have hfst : ∀ k, k < 12 → (T1.getD (1 + k) default).t.idle = true ∨ POk D.length ((T1.getD (1 + k) default).t.from_, (T1.getD (1 + k) default).t.data) := by
    intro k hk
    have := (first_run D hDb).2 k hk
    rw [← hT1, getD_mapT (fun x : send.StM => x.t) T1 (1 + k) (by omega)] at this
    exact this
  repeat (first | (apply G.ex (hd := rfl); case h => (first | exact Ex.move rfl | exact Ex.neI rfl rfl | exact Ex.lenSl rfl | exact Ex.extract rfl rfl | exact Ex.assign rfl | exact Ex.pickF rfl (by first | assumption | omega) rfl)) | refine G.g_ff rfl rfl (by first | assumption | omega) ?_ | refine G.nil ?_ | refine GC.seq ?_ | refine GC.region ?_ | refine GC.skip ?_ | refine GE.then_normal ?_ | refine GC.cond_no rfl (by first | assumption | omega) ?_)
  refine G.make rfl rfl (by omega) rfl rfl (fun sa => ?_)
  rw [show zrep [.bool false] D.length = flat eBo (List.replicate D.length false) from (flat_rep eBo false D.length).symm]
  repeat (first | (apply G.ex (hd := rfl); case h => (first | exact Ex.assign rfl)) | refine G.nil ?_ | refine GC.seq ?_ | refine GC.region ?_ | refine GC.block ?_ | refine GE.then_normal ?_)
  first | refine G.nilvec 39 5 ?_ | refine GC.nilvec 39 5 ?_
  refine GC.conv (fun w_ H_ => Holds.rdNil eB 1 H_) ?_
  refine GC.conv (rs' := [.vec 28 5 o1 13 c1 (flat send.eD D1), .vec 37 7 oT 13 oTc (flat send.eT T1), .per (Rd eB 1 (T1.map send.xF)), .vec 4 1 sa D.length D.length (flat eBo (List.replicate D.length false)), .vec 39 5 none 0 0 (flat recv.eAr []), .per (Rd eB 1 (([] : List recv.ArM).map (·.d))), .sl so D.length sc 1 (flat eB D), .sl a2 len2 cap2 1 (flat (eI .i64) z2)] ++ rest) (fun w_ H_ => ?_) ?_
  · have h_ := H_.take (need := [.vec 28 5 o1 13 c1 (flat send.eD D1), .vec 37 7 oT 13 oTc (flat send.eT T1), .per (Rd eB 1 (T1.map send.xF)), .vec 4 1 sa D.length D.length (flat eBo (List.replicate D.length false)), .vec 39 5 none 0 0 (flat recv.eAr []), .per (Rd eB 1 (([] : List recv.ArM).map (·.d))), .sl so D.length sc 1 (flat eB D), .sl a2 len2 cap2 1 (flat (eI .i64) z2)]) (by repeat (first | exact Takes.nil | apply Takes.dup rfl | apply Takes.cons | exact Take1.here | apply Take1.there))
    exact subs_app (by repeat (first | exact Subs.refl | refine Subs.skip ?_)) h_
  try simp only [List.append_eq, List.nil_append, List.cons_append]
  refine GC.loop (ι := Nat × (List recv.ArM × Option Addr × Nat) × List Bool) (fun x => x.1 ≤ len2 ∧ x.1 ≤ 8 ∧ x.2.1.1.length ≤ x.1 ∧ (∀ m ∈ x.2.1.1, AM D.length m) ∧ x.2.2.length = D.length ∧ ∀ p, p < D.length → x.2.2.getD p default = hit (x.2.1.1.map pr) (p : Int)) (fun x => 8 - x.1) (fun x => [(2, .slice a2 len2 cap2), (7, .slice so D.length sc), (8, .slice o1 13 c1), (10, .slice oT 13 oTc), (12, .slice sa D.length D.length), (13, .slice x.2.1.2.1 x.2.1.1.length x.2.1.2.2), (14, .int .i64 (x.1 : Int))]) (fun x => [.vec 28 5 o1 13 c1 (flat send.eD D1), .vec 37 7 oT 13 oTc (flat send.eT T1), .per (Rd eB 1 (T1.map send.xF)), .vec 4 1 sa D.length D.length (flat eBo x.2.2), .vec 39 5 x.2.1.2.1 x.2.1.1.length x.2.1.2.2 (flat recv.eAr x.2.1.1), .per (Rd eB 1 (x.2.1.1.map (·.d))), .sl so D.length sc 1 (flat eB D), .sl a2 len2 cap2 1 (flat (eI .i64) z2)]) (0, ([], none, 0), List.replicate D.length false) ⟨Nat.zero_le _, Nat.zero_le _, Nat.le_refl _, fun m h => (nomatch h), List.length_replicate, fun p hp => by simp only; rw [List.getD_eq_getElem?_getD, List.getElem?_replicate, if_pos hp]; rfl⟩ (by simp only [fits]; repeat (first | exact trivial | refine And.intro rfl ?_)) (by repeat (first | exact Takes.nil | apply Takes.dup rfl | apply Takes.cons | exact Take1.here | apply Take1.there)) ?_
  rintro ⟨i, ⟨A, oa, oac⟩, S⟩ ⟨hi, hi8, hAl, hA, hSl, hS⟩ fr_ rs_ hfr_ hrs_
  simp only [List.cons_append, List.nil_append] at hfr_ hrs_
  subst hfr_ hrs_
  simp only at hi hi8 hAl hA hSl hS
  by_cases g12 : i < len2 ∧ i < 8
  · obtain ⟨g1, g2⟩ := g12
    · have hg2 : (i : Int) < 8 := by omega
      have k1 := Int.emod_nonneg (z2.getD i default) (show (12 : Int) ≠ 0 by omega)
      have k2 := Int.emod_lt_of_pos (z2.getD i default) (show (0 : Int) < 12 by omega)
      obtain ⟨K, hK⟩ : ∃ K : Nat, z2.getD i default % 12 = (K : Int) := ⟨(z2.getD i default % 12).toNat, by omega⟩
      have hKf := hfst K (by omega)
      obtain ⟨tm, htm⟩ : ∃ tm, tm = T1.getD (1 + K) default := ⟨_, rfl⟩
      rw [← htm] at hKf
      have hbz := hw2 _ (getD_mem1 z2 i (by omega))
      repeat (first | (apply G.ex (hd := rfl); case h => (first | exact Ex.move rfl | exact Ex.lss rfl rfl | exact Ex.lenSl rfl | exact Ex.indexN rfl rfl (by first | omega | (simp; done) | (simp; omega)) | exact Ex.loadT0 rfl (by first | omega | (simp; done) | (simp; omega)) rfl | exact Ex.pickT rfl (by first | assumption | omega) rfl)) | refine G.g_tt rfl rfl (by first | assumption | omega) ?_ | refine G.nil ?_ | refine GC.seq ?_ | refine GC.region ?_ | refine GC.block ?_ | refine GC.skip ?_ | refine GE.then_normal ?_ | refine GC.cond_yes rfl (by first | assumption | omega) ?_)
      first | refine G.call (caps := []) (picked_sp (z2.getD i default) 12 (by omega) (by omega)) rfl rfl rfl rfl (by repeat (first | exact Takes.nil | apply Takes.dup rfl | apply Takes.cons | exact Take1.here | apply Take1.there)) ?_ | refine G.callU (caps := []) (picked_sp (z2.getD i default) 12 (by omega) (by omega)) rfl rfl rfl (by repeat (first | exact Takes.nil | apply Takes.dup rfl | apply Takes.cons | exact Take1.here | apply Take1.there)) ?_
      rintro v_ give_ ⟨rfl, rfl⟩ rs_ hrs_
      simp only [List.cons_append, List.nil_append] at hrs_
      subst hrs_
      rw [hK]
      first | (apply G.ex (hd := rfl); case h => (first | exact Ex.add rfl rfl (by omega)))
      rw [show (1 : Int) + (K : Int) = ((1 + K : Nat) : Int) by omega]
      refine G.conv (fun w_ H_ => H_.rdAt (l := T1.map send.xF) (enc := eB) (s := 1) (by simp) (1 + K) (by rw [List.length_map]; omega)) ?_
      rw [getD_mapT send.xF T1 (1 + K) (by omega), ← htm]
      repeat (first | (apply G.ex (hd := rfl); case h => (first | exact Ex.indexN rfl rfl (by first | omega | (simp; done) | (simp; omega)) | exact Ex.loadTA rfl (by first | omega | (simp; done) | (simp; omega)))))
      refine G.alloc rfl (fun pb => ?_)
      repeat ((fail_if_success (refine GC.region (id := 16) ?_)); first | refine G.storeBA rfl rfl rfl rfl rfl ?_ | refine G.nil ?_ | refine GC.seq ?_ | refine GE.then_normal ?_)
      cases hid : tm.t.idle with
      | true =>
        refine GC.reblk [.int .i64 tm.t.code, .int .i64 tm.t.from_, .slice tm.xo tm.t.data.length tm.xc, .bool tm.t.fin, .bool tm.t.again, .bool true, .int .i64 tm.t.left] (by rw [← hid, htm]; rfl) ?_
        repeat (first | (apply G.ex (hd := rfl); case h => (first | exact Ex.move rfl | exact Ex.fieldB rfl | exact Ex.loadB rfl rfl | exact Ex.add rfl rfl (by omega) | exact Ex.assign rfl)) | refine G.nil ?_ | refine GC.region ?_ | refine GC.exit ?_ | refine GE.then_normal ?_ | refine GE.then_exit ?_ | refine GE.block_hit ?_ | refine GC.cond_t rfl ?_)
        refine GE.loop (i + 1, (A, oa, oac), S) ⟨by simp only; omega, by simp only; omega, by simp only; omega, hA, hSl, hS⟩ (by simp only; omega) (by simp only [fits]; repeat (first | exact trivial | refine And.intro rfl ?_)) (by repeat (first | exact Takes.nil | apply Takes.dup rfl | apply Takes.cons | exact Take1.here | apply Take1.there)) (by repeat (first | exact Subs.refl | refine Subs.skip ?_))
      | false =>
        obtain ⟨w1, w2, w3⟩ := hKf.resolve_left (by rw [hid]; decide)
        simp only at w1 w2 w3
        obtain ⟨F, hF⟩ : ∃ F : Nat, tm.t.from_ = (F : Int) := ⟨tm.t.from_.toNat, by omega⟩
        rw [hF] at w1 w2
        refine GC.reblk [.int .i64 tm.t.code, .int .i64 (F : Int), .slice tm.xo tm.t.data.length tm.xc, .bool tm.t.fin, .bool tm.t.again, .bool false, .int .i64 tm.t.left] (by rw [← hid, ← hF, htm]; rfl) ?_
        simp only [send.xF]
        obtain ⟨am, ham⟩ : ∃ am : recv.ArM, am = ⟨1, (F : Int), ⟨tm.xo, tm.t.data.length, tm.xc, tm.t.data⟩, false, 0⟩ := ⟨_, rfl⟩
        have hcat : flat recv.eAr A ++ flat recv.eAr [am] = flat recv.eAr (A ++ [am]) := (flat_append ..).symm
        repeat (first | (apply G.ex (hd := rfl); case h => (first | exact Ex.move rfl | exact Ex.fieldB rfl | exact Ex.loadB rfl rfl | exact Ex.add rfl rfl (by omega) | exact Ex.lss rfl rfl | exact Ex.gtr rfl rfl | exact Ex.lenSl rfl | exact Ex.pickF rfl (by first | assumption | omega) rfl | exact Ex.build rfl rfl)) | refine G.g_ff rfl rfl (by first | assumption | omega) ?_ | refine G.nil ?_ | refine GC.seq ?_ | refine GC.region ?_ | refine GC.skip ?_ | refine GE.then_normal ?_ | refine GC.cond_no rfl (by first | assumption | omega) ?_)
        refine G.lit (cells := flat recv.eAr [(⟨1, (F : Int), ⟨tm.xo, tm.t.data.length, tm.xc, tm.t.data⟩, false, 0⟩ : recv.ArM)]) rfl (by rfl) (by rfl) (by rfl) (by rfl) (by rfl) (by rfl) rfl (fun q5 => ?_)
        rw [← ham]
        refine G.app rfl rfl (by rfl) (by omega) rfl (hcat) (fun o5 c5 rs_ hrs_ => ?_)
        try simp only at hrs_
        subst hrs_
        refine G.conv (fun w_ H_ => Holds.rdSnoc (x := ⟨tm.xo, tm.t.data.length, tm.xc, tm.t.data⟩) (H_.take (need := [.sl tm.xo tm.t.data.length tm.xc 1 (flat eB tm.t.data), .per (Rd eB 1 (A.map (·.d)))]) (by repeat (first | exact Takes.nil | apply Takes.dup rfl | apply Takes.cons | exact Take1.here | apply Take1.there)))) ?_
        try simp only [List.append_eq, List.nil_append, List.cons_append]
        rw [show A.map (·.d) ++ [⟨tm.xo, tm.t.data.length, tm.xc, tm.t.data⟩] = (A ++ [am]).map (·.d) by rw [List.map_append, ham]; rfl]
        repeat (first | (apply G.ex (hd := rfl); case h => (first | exact Ex.assign rfl)) | refine G.nil ?_ | refine GC.seq ?_ | refine GC.region ?_ | refine GC.block ?_ | refine GE.then_normal ?_)
        refine GC.conv (rs' := [.blk pb 37 [.int .i64 tm.t.code, .int .i64 (F : Int), .slice tm.xo tm.t.data.length tm.xc, .bool tm.t.fin, .bool tm.t.again, .bool false, .int .i64 tm.t.left], .vec 4 1 sa D.length D.length (flat eBo S), .vec 28 5 o1 13 c1 (flat send.eD D1), .vec 37 7 oT 13 oTc (flat send.eT T1), .per (Rd eB 1 (T1.map send.xF)), .vec 39 5 o5 (A.length + 1) c5 (flat recv.eAr (A ++ [am])), .per (Rd eB 1 ((A ++ [am]).map (·.d))), .sl so D.length sc 1 (flat eB D), .sl a2 len2 cap2 1 (flat (eI .i64) z2), .per (Rd eB 1 (T1.map send.xF)), .per (Rd eB 1 (([] : List recv.ArM).map (·.d))), .sl so D.length sc 1 (flat eB D), .sl a2 len2 cap2 1 (flat (eI .i64) z2)] ++ rest) (fun w_ H_ => ?_) ?_
        · have h_ := H_.take (need := [.blk pb 37 [.int .i64 tm.t.code, .int .i64 (F : Int), .slice tm.xo tm.t.data.length tm.xc, .bool tm.t.fin, .bool tm.t.again, .bool false, .int .i64 tm.t.left], .vec 4 1 sa D.length D.length (flat eBo S), .vec 28 5 o1 13 c1 (flat send.eD D1), .vec 37 7 oT 13 oTc (flat send.eT T1), .per (Rd eB 1 (T1.map send.xF)), .vec 39 5 o5 (A.length + 1) c5 (flat recv.eAr (A ++ [am])), .per (Rd eB 1 ((A ++ [am]).map (·.d))), .sl so D.length sc 1 (flat eB D), .sl a2 len2 cap2 1 (flat (eI .i64) z2), .per (Rd eB 1 (T1.map send.xF)), .per (Rd eB 1 (([] : List recv.ArM).map (·.d))), .sl so D.length sc 1 (flat eB D), .sl a2 len2 cap2 1 (flat (eI .i64) z2)]) (by repeat (first | exact Takes.nil | apply Takes.dup rfl | apply Takes.cons | exact Take1.here | apply Take1.there))
          exact subs_app (by repeat (first | exact Subs.refl | refine Subs.skip ?_)) h_
        try simp only [List.append_eq, List.nil_append, List.cons_append]
        refine GC.loop (ι := Nat × List Bool) (fun x => x.1 ≤ tm.t.data.length ∧ x.2.length = D.length ∧ ∀ p, p < D.length → x.2.getD p default = (hit (A.map pr) (p : Int) || decide (F ≤ p ∧ p < F + x.1))) (fun x => tm.t.data.length - x.1) (fun x => [(2, .slice a2 len2 cap2), (7, .slice so D.length sc), (8, .slice o1 13 c1), (10, .slice oT 13 oTc), (12, .slice sa D.length D.length), (13, .slice o5 (A.length + 1) c5), (14, .int .i64 (i : Int)), (15, .pointer (some (badr pb 0))), (16, .int .i64 (x.1 : Int))]) (fun x => [.blk pb 37 [.int .i64 tm.t.code, .int .i64 (F : Int), .slice tm.xo tm.t.data.length tm.xc, .bool tm.t.fin, .bool tm.t.again, .bool false, .int .i64 tm.t.left], .vec 4 1 sa D.length D.length (flat eBo x.2), .vec 28 5 o1 13 c1 (flat send.eD D1), .vec 37 7 oT 13 oTc (flat send.eT T1), .per (Rd eB 1 (T1.map send.xF)), .vec 39 5 o5 (A.length + 1) c5 (flat recv.eAr (A ++ [am])), .per (Rd eB 1 ((A ++ [am]).map (·.d))), .sl so D.length sc 1 (flat eB D), .sl a2 len2 cap2 1 (flat (eI .i64) z2)]) (0, S) ⟨Nat.zero_le _, hSl, fun p hp => by simp only; rw [hS p hp, decide_eq_false (by omega), Bool.or_false]⟩ (by simp only [fits]; repeat (first | exact trivial | refine And.intro rfl ?_)) (by repeat (first | exact Takes.nil | apply Takes.dup rfl | apply Takes.cons | exact Take1.here | apply Take1.there)) ?_
        rintro ⟨k, S1⟩ ⟨hk, hS1l, hS1⟩ fr_ rs_ hfr_ hrs_
        simp only [List.cons_append, List.nil_append] at hfr_ hrs_
        subst hfr_ hrs_
        simp only at hk hS1l hS1
        by_cases hkl : (k : Int) < (tm.t.data.length : Int)
        · have hFk : F + k < D.length := by omega
          repeat ((fail_if_success (refine GC.region (id := 23) ?_)); first | (apply G.ex (hd := rfl); case h => (first | exact Ex.move rfl | exact Ex.fieldB rfl | exact Ex.loadB rfl rfl | exact Ex.lss rfl rfl | exact Ex.lenSl rfl)) | refine G.nil ?_ | refine GC.seq ?_ | refine GC.region ?_ | refine GC.block ?_ | refine GC.skip ?_ | refine GE.then_normal ?_ | refine GC.cond_yes rfl (by first | assumption | omega) ?_)
          refine GC.region ?_
          iterate 5 (first | (apply G.ex (hd := rfl); case h => (first | exact Ex.move rfl | exact Ex.fieldB rfl | exact Ex.loadB rfl rfl | exact Ex.add rfl rfl (by omega))))
          rw [show (F : Int) + (k : Int) = ((F + k : Nat) : Int) by omega]
          repeat (first | (apply G.ex (hd := rfl); case h => (first | exact Ex.indexN rfl rfl (by first | omega | (simp; done) | (simp; omega)))))
          first | refine G.storeT0 rfl rfl rfl rfl (by first | omega | (simp; omega)) rfl (true) (rfl) (fun rs_ hrs_ => ?_) | refine G.storeT rfl rfl rfl rfl (by first | omega | (simp; omega)) rfl (true) (rfl) (fun rs_ hrs_ => ?_) | refine G.storeTA rfl rfl (by first | omega | (simp; omega)) rfl (true) (rfl) (fun rs_ hrs_ => ?_)
          try simp only at hrs_
          subst hrs_
          repeat (first | (apply G.ex (hd := rfl); case h => (first | exact Ex.move rfl | exact Ex.add rfl rfl (by omega) | exact Ex.assign rfl)) | refine G.nil ?_ | refine GC.region ?_ | refine GE.then_normal ?_ | refine GE.block_normal ?_)
          have hnx : ∀ p, p < D.length → (S1.set (F + k) true).getD p default = (hit (A.map pr) (p : Int) || decide (F ≤ p ∧ p < F + (k + 1))) := by
            intro p hp
            rw [getD_set1 _ _ _ _ (by omega)]
            by_cases e : p = F + k
            · rw [if_pos e, decide_eq_true (by omega), Bool.or_true]
            · rw [if_neg e, hS1 p hp]
              congr 1
              exact decide_eq_decide.2 (by omega)
          refine GE.loop (k + 1, S1.set (F + k) true) ⟨by simp only; omega, by simp only [List.length_set]; exact hS1l, hnx⟩ (by simp only; omega) (by simp only [fits]; repeat (first | exact trivial | refine And.intro rfl ?_)) (by repeat (first | exact Takes.nil | apply Takes.dup rfl | apply Takes.cons | exact Take1.here | apply Take1.there)) (by repeat (first | exact Subs.refl | refine Subs.skip ?_))
        · have hke : k = tm.t.data.length := by omega
          have hfin : ∀ p, p < D.length → S1.getD p default = hit ((A ++ [am]).map pr) (p : Int) := by
            intro p hp
            rw [hS1 p hp, hke, List.map_append]
            have hs := hit_snoc (A.map pr) (pr am) (p : Int)
            have hp2 : (pr am).1 = (F : Int) ∧ (pr am).2 = tm.t.data := by rw [ham]; exact ⟨rfl, rfl⟩
            rw [hp2.1, hp2.2] at hs
            show _ = hit (A.map pr ++ [pr am]) (p : Int)
            apply Bool.eq_iff_iff.2
            rw [hs, Bool.or_eq_true, decide_eq_true_eq]
            constructor
            · rintro (h | h)
              · exact .inl h
              · exact .inr (by omega)
            · rintro (h | h)
              · exact .inl h
              · exact .inr (by omega)
          have hA2 : ∀ m ∈ A ++ [am], AM D.length m := by
            intro m hm
            rcases List.mem_append.1 hm with hm | hm
            · exact hA m hm
            · obtain rfl := List.mem_singleton.1 hm
              rw [ham]
              exact ⟨rfl, rfl, rfl, ⟨w1, w2, w3⟩⟩
          have hAl2 : (A ++ [am]).length = A.length + 1 := by rw [List.length_append]; rfl
          rw [← hAl2]
          repeat (first | (apply G.ex (hd := rfl); case h => (first | exact Ex.move rfl | exact Ex.fieldB rfl | exact Ex.loadB rfl rfl | exact Ex.add rfl rfl (by omega) | exact Ex.lss rfl rfl | exact Ex.lenSl rfl | exact Ex.assign rfl)) | refine G.nil ?_ | refine GC.seq ?_ | refine GC.region ?_ | refine GC.exit ?_ | refine GE.then_normal ?_ | refine GE.then_exit ?_ | refine GE.block_normal ?_ | refine GE.block_hit ?_ | refine GC.cond_no rfl (by first | assumption | omega) ?_)
          refine GE.loop (i + 1, (A ++ [am], o5, c5), S1) ⟨by simp only; omega, by simp only; omega, by simp only; omega, hA2, hS1l, hfin⟩ (by simp only; omega) (by simp only [fits]; repeat (first | exact trivial | refine And.intro rfl ?_)) (by repeat (first | exact Takes.nil | apply Takes.dup rfl | apply Takes.cons | exact Take1.here | apply Take1.there)) (by repeat (first | exact Subs.refl | refine Subs.skip ?_))
  · refine GC.seq ?_
    refine GC.seq ?_
    refine GC.meet (ι := Unit) (fun _ => True) (fun _ => [(7, .slice so D.length sc), (8, .slice o1 13 c1), (12, .slice sa D.length D.length), (13, .slice oa A.length oac), (66, .bool false)]) (fun _ => [.vec 28 5 o1 13 c1 (flat send.eD D1), .vec 4 1 sa D.length D.length (flat eBo S), .vec 39 5 oa A.length oac (flat recv.eAr A), .per (Rd eB 1 (A.map (·.d))), .sl so D.length sc 1 (flat eB D)]) rest ?_ ?_
    · rcases (show ¬ (i : Int) < (len2 : Int) ∨ ((i : Int) < (len2 : Int) ∧ ¬ (i : Int) < 8) by omega) with e | ⟨e1, e2⟩
      · repeat (first | (apply G.ex (hd := rfl); case h => (first | exact Ex.move rfl | exact Ex.lss rfl rfl | exact Ex.lenSl rfl | exact Ex.pickF rfl (by first | assumption | omega) rfl)) | refine G.g_tf rfl rfl (by first | assumption | omega) rfl ?_ | refine G.nil ?_ | refine GC.region ?_)
        refine GE.meet () trivial (by simp only [fits]; repeat (first | exact trivial | refine And.intro rfl ?_)) (by repeat (first | exact Takes.nil | apply Takes.dup rfl | apply Takes.cons | exact Take1.here | apply Take1.there)) (by repeat (first | exact Subs.refl | refine Subs.skip ?_))
      · repeat (first | (apply G.ex (hd := rfl); case h => (first | exact Ex.move rfl | exact Ex.lss rfl rfl | exact Ex.lenSl rfl | exact Ex.pickT rfl (by first | assumption | omega) rfl)) | refine G.g_tt rfl rfl (by first | assumption | omega) ?_ | refine G.nil ?_ | refine GC.region ?_)
        rw [decide_eq_false e2]
        refine GE.meet () trivial (by simp only [fits]; repeat (first | exact trivial | refine And.intro rfl ?_)) (by repeat (first | exact Takes.nil | apply Takes.dup rfl | apply Takes.cons | exact Take1.here | apply Take1.there)) (by repeat (first | exact Subs.refl | refine Subs.skip ?_))
    rintro ⟨⟩ - fr_ rs_ hfr_ hrs_
    simp only [List.cons_append, List.nil_append] at hfr_ hrs_
    subst hfr_ hrs_
    have hMr : ∀ m ∈ A, recv.MOk m := fun m hm => ⟨.inl (hA m hm).kind, (hA m hm).len⟩
    have hAr : A.map recv.toAr = (A.map pr).map arOf := by
      rw [List.map_map]
      refine List.map_congr_left fun m hm => ?_
      show recv.toAr m = .arr m.f m.d.l false
      unfold recv.toAr
      rw [if_pos (hA m hm).kind, (hA m hm).fin]
    have hAok : ∀ x ∈ A.map pr, POk D.length x := by
      intro x hx
      obtain ⟨m, hm, rfl⟩ := List.mem_map.1 hx
      exact (hA m hm).ok
    have hPl : (A.map pr).length = A.length := List.length_map ..
    have hRun : recv.RunOk (recv.newF 1000) (A.map recv.toAr) := by rw [hAr]; exact hears_ok D hDb (A.map pr) (by omega) hAok
    have htop := heard_top D hDb (A.map pr) (by omega) hAok
    have hAA : ¬ ¬ (A.length : Int) = (A.length : Int) := fun h => h rfl
    repeat (first | (apply G.ex (hd := rfl); case h => (first | exact Ex.move rfl)) | refine GC.seq ?_ | refine GC.region ?_ | refine GC.exit ?_ | refine GE.then_normal ?_ | refine GE.then_exit ?_ | refine GE.block_hit ?_ | refine GC.cond_f rfl ?_)
    refine G.appNil rfl rfl (by rfl) (by omega) rfl (rfl) (fun o6 c6 => ?_)
    repeat (first | fail)
    first | refine G.call (caps := []) (recv.play_sp 1000 (by omega) (.vec 39 5 o6 A.length c6 (flat recv.eAr A)) o6 A.length c6 A rfl (by omega) hMr hRun) rfl rfl rfl rfl (by repeat (first | exact Takes.nil | apply Takes.dup rfl | apply Takes.cons | exact Take1.here | apply Take1.there)) ?_ | refine G.callU (caps := []) (recv.play_sp 1000 (by omega) (.vec 39 5 o6 A.length c6 (flat recv.eAr A)) o6 A.length c6 A rfl (by omega) hMr hRun) rfl rfl rfl (by repeat (first | exact Takes.nil | apply Takes.dup rfl | apply Takes.cons | exact Take1.here | apply Take1.there)) ?_
    rintro v_ give_ ⟨T, oR, oRc, hT, rfl, rfl⟩ rs_ hrs_
    simp only [List.cons_append, List.nil_append] at hrs_
    subst hrs_
    rw [hAr] at hT
    have hTl : T.length = A.length := by
      have := congrArg List.length hT
      rw [List.length_map, recv.runs_len, List.length_map, List.length_map] at this
      exact this
    repeat (first | (apply G.ex (hd := rfl); case h => (first | exact Ex.move rfl | exact Ex.neI rfl rfl | exact Ex.lenSl rfl | exact Ex.extract rfl rfl | exact Ex.assign rfl | exact Ex.pickF rfl (by first | assumption | omega) rfl)) | refine G.g_ff rfl rfl (by first | assumption | omega) ?_ | refine G.nil ?_ | refine GC.seq ?_ | refine GC.region ?_ | refine GC.block ?_ | refine GC.skip ?_ | refine GE.then_normal ?_ | refine GC.cond_no rfl (by first | assumption | omega) ?_)
    rw [show flat send.eD D1 = flat send.eD (D1 ++ (T.take 0).map hM) by simp]
    refine GC.conv (rs' := [.vec 28 5 o1 13 c1 (flat send.eD (D1 ++ (T.take 0).map hM)), .vec 44 6 oR A.length oRc (flat recv.eTo T), .per (Rd eR 2 (T.map recv.soF)), .vec 4 1 sa D.length D.length (flat eBo S), .sl so D.length sc 1 (flat eB D)] ++ rest) (fun w_ H_ => ?_) ?_
    · have h_ := H_.take (need := [.vec 28 5 o1 13 c1 (flat send.eD (D1 ++ (T.take 0).map hM)), .vec 44 6 oR A.length oRc (flat recv.eTo T), .per (Rd eR 2 (T.map recv.soF)), .vec 4 1 sa D.length D.length (flat eBo S), .sl so D.length sc 1 (flat eB D)]) (by repeat (first | exact Takes.nil | apply Takes.dup rfl | apply Takes.cons | exact Take1.here | apply Take1.there))
      exact subs_app (by repeat (first | exact Subs.refl | refine Subs.skip ?_)) h_
    try simp only [List.append_eq, List.nil_append, List.cons_append]
    refine GC.loop (ι := Nat × Option Addr × Nat) (fun x => x.1 ≤ A.length) (fun x => A.length - x.1) (fun x => [(7, .slice so D.length sc), (8, .slice x.2.1 (13 + x.1) x.2.2), (12, .slice sa D.length D.length), (17, .slice oR A.length oRc), (19, .int .i64 (x.1 : Int))]) (fun x => [.vec 28 5 x.2.1 (13 + x.1) x.2.2 (flat send.eD (D1 ++ (T.take x.1).map hM)), .vec 44 6 oR A.length oRc (flat recv.eTo T), .per (Rd eR 2 (T.map recv.soF)), .vec 4 1 sa D.length D.length (flat eBo S), .sl so D.length sc 1 (flat eB D)]) (0, o1, c1) (Nat.zero_le _) (by simp only [fits]; repeat (first | exact trivial | refine And.intro rfl ?_)) (by repeat (first | exact Takes.nil | apply Takes.dup rfl | apply Takes.cons | exact Take1.here | apply Take1.there)) ?_
    rintro ⟨j, od, dc⟩ hj fr_ rs_ hfr_ hrs_
    simp only [List.cons_append, List.nil_append] at hfr_ hrs_
    subst hfr_ hrs_
    have hj' : j ≤ A.length := hj
    by_cases hjl : (j : Int) < (A.length : Int)
    · have hjT : j < T.length := by omega
      have hcat : flat send.eD (D1 ++ (T.take j).map hM) ++ flat send.eD [hM (T.getD j default)] = flat send.eD (D1 ++ (T.take (j + 1)).map hM) := by
        rw [take_snocT T j hjT, List.map_append, ← List.append_assoc]; exact (flat_append ..).symm
      repeat (first | (apply G.ex (hd := rfl); case h => (first | exact Ex.move rfl | exact Ex.lss rfl rfl | exact Ex.lenSl rfl)) | refine G.nil ?_ | refine GC.seq ?_ | refine GC.region ?_ | refine GC.block ?_ | refine GC.skip ?_ | refine GE.then_normal ?_ | refine GC.cond_yes rfl (by first | assumption | omega) ?_)
      refine GC.drawA [] [.vec 44 6 oR A.length oRc (flat recv.eTo T)] (by repeat (first | exact Takes.nil | apply Takes.dup rfl | apply Takes.cons | exact Take1.here | apply Take1.there)) (by kernel_rfl) ?_
      first | (apply GA.take [] (hD := .inl rfl) (hsub := ⟨_, Takes.nil⟩) (i := 0) (hi := rfl) (hs := by kernel_rfl) (hfr := by kernel_rfl) (hr := by kernel_rfl) (hQ := (by repeat (first | exact NoPanic.np | exact NoPanic.fpost | apply NoPanic.then_ | apply NoPanic.block))) (hd := rfl); case hx => (first | exact Ex.move rfl))
      first | (apply GA.take [] (hD := .inl rfl) (hsub := ⟨_, Takes.nil⟩) (i := 1) (hi := rfl) (hs := by kernel_rfl) (hfr := by kernel_rfl) (hr := by kernel_rfl) (hQ := (by repeat (first | exact NoPanic.np | exact NoPanic.fpost | apply NoPanic.then_ | apply NoPanic.block))) (hd := rfl); case hx => (first | exact Ex.move rfl))
      first | (apply GA.take [] (hD := .inl rfl) (hsub := ⟨_, Takes.nil⟩) (i := 2) (hi := rfl) (hs := by kernel_rfl) (hfr := by kernel_rfl) (hr := by kernel_rfl) (hQ := (by repeat (first | exact NoPanic.np | exact NoPanic.fpost | apply NoPanic.then_ | apply NoPanic.block))) (hd := rfl); case hx => (first | exact Ex.move rfl))
      first | (apply GA.take _ (hD := .inr ⟨rfl, by kernel_rfl⟩) (hsub := ⟨_, (by repeat (first | exact Takes.nil | apply Takes.dup rfl | apply Takes.cons | exact Take1.here | apply Take1.there))⟩) (i := 3) (hi := rfl) (hs := by kernel_rfl) (hfr := by kernel_rfl) (hr := by kernel_rfl) (hQ := (by repeat (first | exact NoPanic.np | exact NoPanic.fpost | apply NoPanic.then_ | apply NoPanic.block))) (hd := rfl); case hx => (first | exact Ex.indexN rfl rfl (by first | omega | (simp; done) | (simp; omega))))
      first | (apply GA.take [] (hD := .inl rfl) (hsub := ⟨_, Takes.nil⟩) (i := 4) (hi := rfl) (hs := by kernel_rfl) (hfr := by kernel_rfl) (hr := by kernel_rfl) (hQ := (by repeat (first | exact NoPanic.np | exact NoPanic.fpost | apply NoPanic.then_ | apply NoPanic.block))) (hd := rfl); case hx => (first | exact Ex.fieldE rfl))
      first | (apply GA.take _ (hD := .inr ⟨rfl, by kernel_rfl⟩) (hsub := ⟨_, (by repeat (first | exact Takes.nil | apply Takes.dup rfl | apply Takes.cons | exact Take1.here | apply Take1.there))⟩) (i := 5) (hi := rfl) (hs := by kernel_rfl) (hfr := by kernel_rfl) (hr := by kernel_rfl) (hQ := (by repeat (first | exact NoPanic.np | exact NoPanic.fpost | apply NoPanic.then_ | apply NoPanic.block))) (hd := rfl); case hx => (first | exact Ex.loadT rfl (by first | omega | (simp; done) | (simp; omega)) rfl))
      first | (apply GA.take [] (hD := .inl rfl) (hsub := ⟨_, Takes.nil⟩) (i := 6) (hi := rfl) (hs := by kernel_rfl) (hfr := by kernel_rfl) (hr := by kernel_rfl) (hQ := (by repeat (first | exact NoPanic.np | exact NoPanic.fpost | apply NoPanic.then_ | apply NoPanic.block))) (hd := rfl); case hx => (first | exact Ex.move rfl))
      first | (apply GA.take [] (hD := .inl rfl) (hsub := ⟨_, Takes.nil⟩) (i := 7) (hi := rfl) (hs := by kernel_rfl) (hfr := by kernel_rfl) (hr := by kernel_rfl) (hQ := (by repeat (first | exact NoPanic.np | exact NoPanic.fpost | apply NoPanic.then_ | apply NoPanic.block))) (hd := rfl); case hx => (first | exact Ex.move rfl))
      first | (apply GA.take _ (hD := .inr ⟨rfl, by kernel_rfl⟩) (hsub := ⟨_, (by repeat (first | exact Takes.nil | apply Takes.dup rfl | apply Takes.cons | exact Take1.here | apply Take1.there))⟩) (i := 8) (hi := rfl) (hs := by kernel_rfl) (hfr := by kernel_rfl) (hr := by kernel_rfl) (hQ := (by repeat (first | exact NoPanic.np | exact NoPanic.fpost | apply NoPanic.then_ | apply NoPanic.block))) (hd := rfl); case hx => (first | exact Ex.indexN rfl rfl (by first | omega | (simp; done) | (simp; omega))))
      first | (apply GA.take [] (hD := .inl rfl) (hsub := ⟨_, Takes.nil⟩) (i := 9) (hi := rfl) (hs := by kernel_rfl) (hfr := by kernel_rfl) (hr := by kernel_rfl) (hQ := (by repeat (first | exact NoPanic.np | exact NoPanic.fpost | apply NoPanic.then_ | apply NoPanic.block))) (hd := rfl); case hx => (first | exact Ex.fieldE rfl))
      first | (apply GA.take _ (hD := .inr ⟨rfl, by kernel_rfl⟩) (hsub := ⟨_, (by repeat (first | exact Takes.nil | apply Takes.dup rfl | apply Takes.cons | exact Take1.here | apply Take1.there))⟩) (i := 10) (hi := rfl) (hs := by kernel_rfl) (hfr := by kernel_rfl) (hr := by kernel_rfl) (hQ := (by repeat (first | exact NoPanic.np | exact NoPanic.fpost | apply NoPanic.then_ | apply NoPanic.block))) (hd := rfl); case hx => (first | exact Ex.loadT rfl (by first | omega | (simp; done) | (simp; omega)) rfl))
      first | (apply GA.take [] (hD := .inl rfl) (hsub := ⟨_, Takes.nil⟩) (i := 11) (hi := rfl) (hs := by kernel_rfl) (hfr := by kernel_rfl) (hr := by kernel_rfl) (hQ := (by repeat (first | exact NoPanic.np | exact NoPanic.fpost | apply NoPanic.then_ | apply NoPanic.block))) (hd := rfl); case hx => (first | exact Ex.move rfl))
      first | (apply GA.take [] (hD := .inl rfl) (hsub := ⟨_, Takes.nil⟩) (i := 12) (hi := rfl) (hs := by kernel_rfl) (hfr := by kernel_rfl) (hr := by kernel_rfl) (hQ := (by repeat (first | exact NoPanic.np | exact NoPanic.fpost | apply NoPanic.then_ | apply NoPanic.block))) (hd := rfl); case hx => (first | exact Ex.move rfl))
      first | (apply GA.take _ (hD := .inr ⟨rfl, by kernel_rfl⟩) (hsub := ⟨_, (by repeat (first | exact Takes.nil | apply Takes.dup rfl | apply Takes.cons | exact Take1.here | apply Take1.there))⟩) (i := 13) (hi := rfl) (hs := by kernel_rfl) (hfr := by kernel_rfl) (hr := by kernel_rfl) (hQ := (by repeat (first | exact NoPanic.np | exact NoPanic.fpost | apply NoPanic.then_ | apply NoPanic.block))) (hd := rfl); case hx => (first | exact Ex.indexN rfl rfl (by first | omega | (simp; done) | (simp; omega))))
      first | (apply GA.take [] (hD := .inl rfl) (hsub := ⟨_, Takes.nil⟩) (i := 14) (hi := rfl) (hs := by kernel_rfl) (hfr := by kernel_rfl) (hr := by kernel_rfl) (hQ := (by repeat (first | exact NoPanic.np | exact NoPanic.fpost | apply NoPanic.then_ | apply NoPanic.block))) (hd := rfl); case hx => (first | exact Ex.fieldE rfl))
      first | (apply GA.take _ (hD := .inr ⟨rfl, by kernel_rfl⟩) (hsub := ⟨_, (by repeat (first | exact Takes.nil | apply Takes.dup rfl | apply Takes.cons | exact Take1.here | apply Take1.there))⟩) (i := 15) (hi := rfl) (hs := by kernel_rfl) (hfr := by kernel_rfl) (hr := by kernel_rfl) (hQ := (by repeat (first | exact NoPanic.np | exact NoPanic.fpost | apply NoPanic.then_ | apply NoPanic.block))) (hd := rfl); case hx => (first | exact Ex.loadT rfl (by first | omega | (simp; done) | (simp; omega)) rfl))
      first | (apply GA.take [] (hD := .inl rfl) (hsub := ⟨_, Takes.nil⟩) (i := 16) (hi := rfl) (hs := by kernel_rfl) (hfr := by kernel_rfl) (hr := by kernel_rfl) (hQ := (by repeat (first | exact NoPanic.np | exact NoPanic.fpost | apply NoPanic.then_ | apply NoPanic.block))) (hd := rfl); case hx => (first | exact Ex.build rfl rfl))
      refine GA.one (i := 17) (by kernel_rfl) rfl ?_
      refine G.lit (cells := flat send.eD [hM (T.getD j default)]) rfl (by rfl) (by rfl) (by rfl) (by rfl) (by rfl) (by rfl) rfl (fun q7 => ?_)
      try refine G.nil ?_
      refine GA.back (by first | exact .inl (by decide) | exact .inr ⟨_, (by repeat (first | exact Takes.nil | apply Takes.dup rfl | apply Takes.cons | exact Take1.here | apply Take1.there))⟩) ?_
      refine GA.one (i := 18) (by kernel_rfl) rfl ?_
      refine G.app rfl rfl (by rfl) (by omega) rfl (hcat) (fun o8 c8 rs_ hrs_ => ?_)
      try simp only at hrs_
      subst hrs_
      try refine G.nil ?_
      refine GA.back (by first | exact .inl (by decide) | exact .inr ⟨_, (by repeat (first | exact Takes.nil | apply Takes.dup rfl | apply Takes.cons | exact Take1.here | apply Take1.there))⟩) ?_
      first | (apply GA.take [] (hD := .inl rfl) (hsub := ⟨_, Takes.nil⟩) (i := 19) (hi := rfl) (hs := by kernel_rfl) (hfr := by kernel_rfl) (hr := by kernel_rfl) (hQ := (by repeat (first | exact NoPanic.np | exact NoPanic.fpost | apply NoPanic.then_ | apply NoPanic.block))) (hd := rfl); case hx => (first | exact Ex.assign rfl))
      refine GA.done (by kernel_rfl) ?_
      repeat (first | (apply G.ex (hd := rfl); case h => (first | exact Ex.move rfl | exact Ex.add rfl rfl (by omega) | exact Ex.assign rfl)) | refine G.nil ?_ | refine GC.region ?_ | refine GE.then_normal ?_ | refine GE.block_normal ?_)
      refine GE.loop (j + 1, o8, c8) (by simp only; omega) (by simp only; omega) (by simp only [fits]; repeat (first | exact trivial | refine And.intro rfl ?_)) (by repeat (first | exact Takes.nil | apply Takes.dup rfl | apply Takes.cons | exact Take1.here | apply Take1.there)) (by repeat (first | exact Subs.refl | refine Subs.skip ?_))
    · obtain rfl : j = A.length := by omega
      obtain ⟨D3, hD3⟩ : ∃ D3, D3 = D1 ++ T.map hM ++ [tM] := ⟨_, rfl⟩
      rw [show T.take A.length = T by rw [← hTl, List.take_length]]
      have hcat2 : flat send.eD (D1 ++ T.map hM) ++ flat send.eD [tM] = flat send.eD D3 := by rw [hD3]; exact (flat_append ..).symm
      have hD3l : D3.length = 14 + A.length := by rw [hD3]; simp only [List.length_append, List.length_map, List.length_singleton]; omega
      repeat (first | (apply G.ex (hd := rfl); case h => (first | exact Ex.move rfl | exact Ex.lss rfl rfl | exact Ex.lenSl rfl | exact Ex.assign rfl | exact Ex.build rfl rfl)) | refine G.nil ?_ | refine GC.seq ?_ | refine GC.region ?_ | refine GC.exit ?_ | refine GE.then_normal ?_ | refine GE.then_exit ?_ | refine GE.block_hit ?_ | refine GC.cond_no rfl (by first | assumption | omega) ?_)
      refine G.lit (cells := flat send.eD [tM]) rfl (by rfl) (by rfl) (by rfl) (by rfl) (by rfl) (by rfl) rfl (fun q8 => ?_)
      refine G.app rfl rfl (by rfl) (by omega) rfl (hcat2) (fun o9 c9 rs_ hrs_ => ?_)
      try simp only at hrs_
      subst hrs_
      rw [show 13 + A.length + 1 = 14 + A.length by omega]
      repeat (first | (apply G.ex (hd := rfl); case h => (first | exact Ex.assign rfl)) | refine G.nil ?_ | refine GC.seq ?_ | refine GC.region ?_ | refine GC.block ?_ | refine GE.then_normal ?_)
      rw [show flat send.eD D3 = flat send.eD (D3 ++ List.replicate 0 pM) by simp]
      refine GC.conv (rs' := [.vec 28 5 o9 (14 + A.length) c9 (flat send.eD (D3 ++ List.replicate 0 pM)), .per (Rd eR 2 (T.map recv.soF)), .vec 4 1 sa D.length D.length (flat eBo S), .sl so D.length sc 1 (flat eB D)] ++ rest) (fun w_ H_ => ?_) ?_
      · have h_ := H_.take (need := [.vec 28 5 o9 (14 + A.length) c9 (flat send.eD (D3 ++ List.replicate 0 pM)), .per (Rd eR 2 (T.map recv.soF)), .vec 4 1 sa D.length D.length (flat eBo S), .sl so D.length sc 1 (flat eB D)]) (by repeat (first | exact Takes.nil | apply Takes.dup rfl | apply Takes.cons | exact Take1.here | apply Take1.there))
        exact subs_app (by repeat (first | exact Subs.refl | refine Subs.skip ?_)) h_
      try simp only [List.append_eq, List.nil_append, List.cons_append]
      refine GC.loop (ι := Nat × Option Addr × Nat) (fun x => x.1 ≤ 20) (fun x => 20 - x.1) (fun x => [(7, .slice so D.length sc), (8, .slice x.2.1 (14 + A.length + x.1) x.2.2), (12, .slice sa D.length D.length), (20, .int .i64 ((13 + A.length : Nat) : Int)), (21, .int .i64 (x.1 : Int))]) (fun x => [.vec 28 5 x.2.1 (14 + A.length + x.1) x.2.2 (flat send.eD (D3 ++ List.replicate x.1 pM)), .per (Rd eR 2 (T.map recv.soF)), .vec 4 1 sa D.length D.length (flat eBo S), .sl so D.length sc 1 (flat eB D)]) (0, o9, c9) (Nat.zero_le _) (by simp only [fits]; repeat (first | exact trivial | refine And.intro rfl ?_)) (by repeat (first | exact Takes.nil | apply Takes.dup rfl | apply Takes.cons | exact Take1.here | apply Take1.there)) ?_
      rintro ⟨y, oy, yc⟩ hy fr_ rs_ hfr_ hrs_
      simp only [List.cons_append, List.nil_append] at hfr_ hrs_
      subst hfr_ hrs_
      have hy' : y ≤ 20 := hy
      repeat (first | (apply G.ex (hd := rfl); case h => (first | exact Ex.move rfl | exact Ex.lss rfl rfl)) | refine G.nil ?_ | refine GC.seq ?_ | refine GC.region ?_ | refine GE.then_normal ?_)
      refine GC.cond_dec rfl (fun hlt => ?_) (fun hlt => ?_)
      · have hcat := rep_cells D3 y
        repeat (first | (apply G.ex (hd := rfl); case h => (first | exact Ex.move rfl | exact Ex.build rfl rfl)) | refine GC.seq ?_ | refine GC.region ?_ | refine GC.block ?_ | refine GC.skip ?_ | refine GE.then_normal ?_)
        refine G.lit (cells := flat send.eD [pM]) rfl (by rfl) (by rfl) (by rfl) (by rfl) (by rfl) (by rfl) rfl (fun q => ?_)
        refine G.app rfl rfl (by rfl) (by omega) rfl (hcat) (fun o2 c2 rs_ hrs_ => ?_)
        try simp only at hrs_
        subst hrs_
        repeat (first | (apply G.ex (hd := rfl); case h => (first | exact Ex.move rfl | exact Ex.add rfl rfl (by omega) | exact Ex.assign rfl)) | refine G.nil ?_ | refine GC.region ?_ | refine GE.then_normal ?_ | refine GE.block_normal ?_)
        rw [show (y : Int) + 1 = ((y + 1 : Nat) : Int) by omega]
        refine GE.loop (y + 1, o2, c2) (by simp only; omega) (by simp only; omega) (by simp only [fits]; repeat (first | exact trivial | refine And.intro rfl ?_)) (by repeat (first | exact Takes.nil | apply Takes.dup rfl | apply Takes.cons | exact Take1.here | apply Take1.there)) (by repeat (first | exact Subs.refl | refine Subs.skip ?_))
      obtain rfl : y = 20 := by omega
      obtain ⟨D4, hD4⟩ : ∃ D4, D4 = D3 ++ List.replicate 20 pM := ⟨_, rfl⟩
      rw [← hD4, show 14 + A.length + 20 = 34 + A.length by omega]
      have hD4l : D4.length = 34 + A.length := by rw [hD4, List.length_append, hD3l, List.length_replicate]; omega
      have hmem4 : ∀ m ∈ D4, m = sM ∨ m = pM ∨ m = tM ∨ ∃ x ∈ T, m = hM x := by
        intro m hm
        rw [hD4, hD3] at hm
        rcases List.mem_append.1 hm with hm | hm
        · rcases List.mem_append.1 hm with hm | hm
          · rcases List.mem_append.1 hm with hm | hm
            · rcases hmem1 m hm with h | h
              · exact .inl h
              · exact .inr (.inl h)
            · obtain ⟨x, hx, rfl⟩ := List.mem_map.1 hm
              exact .inr (.inr (.inr ⟨x, hx, rfl⟩))
          · exact .inr (.inr (.inl (List.mem_singleton.1 hm)))
        · exact .inr (.inl (List.eq_of_mem_replicate hm))
      have hde4 : D4.map send.toDe = allD D (A.map pr) := by
        rw [hD4, hD3]
        unfold allD send.polls
        simp only [List.map_append, List.map_cons, List.map_nil, List.map_replicate]
        rw [hde1, ← hT, List.map_map, List.map_map]
        rfl
      have hMs4 : ∀ m ∈ D4, send.MOk m := by
        intro m hm
        rcases hmem4 m hm with rfl | rfl | rfl | ⟨x, hx, rfl⟩
        · exact hsMok
        · exact hpMok
        · exact htMok
        · have hs3 : x.t.sacks.length ≤ 3 := sacks3 _ _ _ (by rw [← hT]; exact List.mem_map_of_mem hx)
          exact ⟨by simp [hM], rfl, rfl, by simp [hM], by simp only [hM, recv.soF]; omega⟩
      have hrd41 : ∀ z ∈ D4.map (·.d), z = (⟨so, D.length, sc, D⟩) ∨ z = ⟨none, 0, 0, []⟩ := by
        intro z hz
        obtain ⟨m, hm, rfl⟩ := List.mem_map.1 hz
        rcases hmem4 m hm with rfl | rfl | rfl | ⟨x, hx, rfl⟩
        · exact .inl (by rw [hsM])
        · exact .inr rfl
        · exact .inr rfl
        · exact .inr rfl
      have hrd42 : ∀ z ∈ D4.map (·.sk), z = (⟨none, 0, 0, []⟩ : SlD R) ∨ z ∈ T.map recv.soF := by
        intro z hz
        obtain ⟨m, hm, rfl⟩ := List.mem_map.1 hz
        rcases hmem4 m hm with rfl | rfl | rfl | ⟨x, hx, rfl⟩
        · exact .inl (by rw [hsM])
        · exact .inl rfl
        · exact .inl rfl
        · exact .inr (List.mem_map_of_mem hx)
      repeat (first | (apply G.ex (hd := rfl); case h => (first | exact Ex.move rfl)) | refine GC.seq ?_ | refine GC.region ?_ | refine GC.exit ?_ | refine GE.then_normal ?_ | refine GE.then_exit ?_ | refine GE.block_hit ?_)
      refine G.appNil rfl rfl (by rfl) (by omega) rfl (rfl) (fun o10 c10 => ?_)
      first | refine G.nilvec 5 1 ?_ | refine GC.nilvec 5 1 ?_
      first | refine G.frz none ?_ | refine GC.frz none ?_ | refine GE.frz none ?_
      refine G.conv (fun w_ H_ => Holds.rdTwo (D4.map (·.d)) ⟨so, D.length, sc, D⟩ ⟨none, 0, 0, []⟩ hrd41 (H_.take (need := [.sl so D.length sc 1 (flat eB D), .sl none 0 0 1 (flat eB [])]) (by repeat (first | exact Takes.nil | apply Takes.dup rfl | apply Takes.cons | exact Take1.here | apply Take1.there)))) ?_
      try simp only [List.append_eq, List.nil_append, List.cons_append]
      first | refine G.nilvec 65 2 ?_ | refine GC.nilvec 65 2 ?_
      first | refine G.frz none ?_ | refine GC.frz none ?_ | refine GE.frz none ?_
      refine G.conv (fun w_ H_ => Holds.rdSub (D4.map (·.sk)) ⟨none, 0, 0, []⟩ hrd42 (H_.take (need := [.sl none 0 0 2 (flat eR []), .per (Rd eR 2 (T.map recv.soF))]) (by repeat (first | exact Takes.nil | apply Takes.dup rfl | apply Takes.cons | exact Take1.here | apply Take1.there)))) ?_
      try simp only [List.append_eq, List.nil_append, List.cons_append]
      first | refine G.call (caps := []) (send.play_sp 1000 (by omega) (.vec 28 5 o10 (34 + A.length) c10 (flat send.eD D4)) o10 (34 + A.length) c10 D4 hD4l (by omega) hMs4) rfl rfl rfl rfl (by repeat (first | exact Takes.nil | apply Takes.dup rfl | apply Takes.cons | exact Take1.here | apply Take1.there)) ?_ | refine G.callU (caps := []) (send.play_sp 1000 (by omega) (.vec 28 5 o10 (34 + A.length) c10 (flat send.eD D4)) o10 (34 + A.length) c10 D4 hD4l (by omega) hMs4) rfl rfl rfl (by repeat (first | exact Takes.nil | apply Takes.dup rfl | apply Takes.cons | exact Take1.here | apply Take1.there)) ?_
      rintro v_ give_ ⟨T2, oU, oUc, hT2, rfl, rfl⟩ rs_ hrs_
      simp only [List.cons_append, List.nil_append] at hrs_
      subst hrs_
      rw [hde4] at hT2
      rw [← hT2] at htop
      have hT2l : T2.length = 34 + A.length := by
        have := htop.len
        rw [List.length_map, hPl] at this
        exact this
      obtain ⟨Z, hZ⟩ : ∃ Z, Z = (T2.map (·.t)).drop (13 + A.length) := ⟨_, rfl⟩
      have hZl : Z.length = 21 := by rw [hZ, List.length_drop, List.length_map, hT2l]; omega
      have hZa : ∀ c, c < 21 → Z.getD c default = (T2.getD (13 + A.length + c) default).t := by
        intro c hc
        rw [hZ, List.getD_eq_getElem?_getD, List.getElem?_drop, ← List.getD_eq_getElem?_getD, getD_mapT (fun x : send.StM => x.t) T2 _ (by omega)]
      have hcov := htop.cov
      have hbd := htop.bd
      have hag := htop.ag
      rw [hPl, ← hZ] at hcov hbd hag
      obtain ⟨L, hL⟩ : ∃ L, L = A.map pr := ⟨_, rfl⟩
      rw [← hL] at hS hcov
      have hZm : ∀ c, c < 21 → Z.getD c default ∈ Z := fun c hc => getD_mem1 Z c (by omega)
      repeat (first | (apply G.ex (hd := rfl); case h => (first | exact Ex.move rfl | exact Ex.neI rfl rfl | exact Ex.lenSl rfl | exact Ex.extract rfl rfl | exact Ex.assign rfl | exact Ex.pickF rfl (by first | assumption | omega) rfl)) | refine G.g_ff rfl rfl (by first | assumption | omega) ?_ | refine G.nil ?_ | refine GC.seq ?_ | refine GC.region ?_ | refine GC.block ?_ | refine GC.skip ?_ | refine GE.then_normal ?_ | refine GC.cond_no rfl (by first | assumption | omega) ?_)
      refine GC.conv (rs' := [.vec 37 7 oU (34 + A.length) oUc (flat send.eT T2), .vec 4 1 sa D.length D.length (flat eBo S), .sl so D.length sc 1 (flat eB D)] ++ rest) (fun w_ H_ => ?_) ?_
      · have h_ := H_.take (need := [.vec 37 7 oU (34 + A.length) oUc (flat send.eT T2), .vec 4 1 sa D.length D.length (flat eBo S), .sl so D.length sc 1 (flat eB D)]) (by repeat (first | exact Takes.nil | apply Takes.dup rfl | apply Takes.cons | exact Take1.here | apply Take1.there))
        exact subs_app (by repeat (first | exact Subs.refl | refine Subs.skip ?_)) h_
      try simp only [List.append_eq, List.nil_append, List.cons_append]
      refine GC.loop (ι := Nat × List Bool) (fun x => x.1 ≤ 21 ∧ x.2.length = D.length ∧ ∀ p : Nat, p < D.length → x.2.getD p default = (hit L (p : Int) || decide (0 < send.cov (Z.take x.1) (p : Int)))) (fun x => 21 - x.1) (fun x => [(7, .slice so D.length sc), (10, .slice oU (34 + A.length) oUc), (12, .slice sa D.length D.length), (22, .int .i64 ((13 + A.length + x.1 : Nat) : Int))]) (fun x => [.vec 37 7 oU (34 + A.length) oUc (flat send.eT T2), .vec 4 1 sa D.length D.length (flat eBo x.2), .sl so D.length sc 1 (flat eB D)]) (0, S) ⟨Nat.zero_le _, hSl, fun p hp => by simp only; rw [hS p hp, decide_eq_false (by simp [send.cov]), Bool.or_false]⟩ (by simp only [fits]; repeat (first | exact trivial | refine And.intro rfl ?_)) (by repeat (first | exact Takes.nil | apply Takes.dup rfl | apply Takes.cons | exact Take1.here | apply Take1.there)) ?_
      rintro ⟨c, S1⟩ ⟨hc, hS1l, hS1⟩ fr_ rs_ hfr_ hrs_
      simp only [List.cons_append, List.nil_append] at hfr_ hrs_
      subst hfr_ hrs_
      simp only at hc hS1l hS1
      by_cases hcl : ((13 + A.length + c : Nat) : Int) < ((34 + A.length : Nat) : Int)
      · have hlt : c < 21 := by omega
        have hTi : 13 + A.length + c < T2.length := by omega
        obtain ⟨x1, x2⟩ := hbd _ (hZm c hlt)
        have x3 := hag _ (hZm c hlt)
        have hct : ∀ p : Int, send.cov (Z.take (c + 1)) p = send.cov (Z.take c) p + (if (T2.getD (13 + A.length + c) default).t.from_ ≤ p ∧ p < (T2.getD (13 + A.length + c) default).t.from_ + (T2.getD (13 + A.length + c) default).t.data.length then 1 else 0) := by
          intro p
          rw [cov_take Z c p (by omega), hZa c hlt]
        rw [hZa c hlt] at x1 x2 x3
        repeat (first | (apply G.ex (hd := rfl); case h => (first | exact Ex.move rfl | exact Ex.fieldE rfl | exact Ex.lss rfl rfl | exact Ex.lenSl rfl | exact Ex.indexN rfl rfl (by first | omega | (simp; done) | (simp; omega)) | exact Ex.loadT rfl (by first | omega | (simp; done) | (simp; omega)) rfl | exact Ex.notB rfl)) | refine G.nil ?_ | refine GC.seq ?_ | refine GC.region ?_ | refine GC.block ?_ | refine GC.skip ?_ | refine GE.then_normal ?_ | refine GC.cond_yes rfl (by first | assumption | omega) ?_)
        refine GC.cond_bool rfl (fun hb => ?_) (fun hb => ?_)
        · have ha : (T2.getD (13 + A.length + c) default).t.again = false := by simpa using hb
          have hd := x3 ha
          have hnx : ∀ p : Nat, p < D.length → S1.getD p default = (hit L (p : Int) || decide (0 < send.cov (Z.take (c + 1)) (p : Int))) := by
            intro p hp
            rw [hS1 p hp, hct, hd, if_neg (by simp only [List.length_nil]; omega), Nat.add_zero]
          repeat (first | (apply G.ex (hd := rfl); case h => (first | exact Ex.move rfl | exact Ex.add rfl rfl (by omega) | exact Ex.assign rfl)) | refine G.nil ?_ | refine GC.region ?_ | refine GC.exit ?_ | refine GE.then_normal ?_ | refine GE.then_exit ?_ | refine GE.block_hit ?_)
          rw [show ((13 + A.length + c : Nat) : Int) + 1 = ((13 + A.length + (c + 1) : Nat) : Int) by omega]
          refine GE.loop (c + 1, S1) ⟨by simp only; omega, hS1l, hnx⟩ (by simp only; omega) (by simp only [fits]; repeat (first | exact trivial | refine And.intro rfl ?_)) (by repeat (first | exact Takes.nil | apply Takes.dup rfl | apply Takes.cons | exact Take1.here | apply Take1.there)) (by repeat (first | exact Subs.refl | refine Subs.skip ?_))
        · obtain ⟨X, hX⟩ : ∃ X : Nat, (T2.getD (13 + A.length + c) default).t.from_ = (X : Int) := ⟨(T2.getD (13 + A.length + c) default).t.from_.toNat, by omega⟩
          repeat (first | (apply G.ex (hd := rfl); case h => (first | exact Ex.assign rfl)) | refine G.nil ?_ | (apply Gq.ex (hd := rfl); case h => (first | exact Ex.move rfl | exact Ex.fieldE rfl | exact Ex.add rfl rfl (by omega) | exact Ex.lss rfl rfl | exact Ex.gtr rfl rfl | exact Ex.lenSl rfl | exact Ex.indexN rfl rfl (by first | omega | (simp; done) | (simp; omega)) | exact Ex.loadT rfl (by first | omega | (simp; done) | (simp; omega)) rfl | exact Ex.pickF rfl (by first | assumption | omega) rfl)) | refine Gq.g_ff rfl rfl (by first | assumption | omega) ?_ | refine Gq.nil ?_ | refine GC.seq ?_ | refine GC.region ?_ | refine GC.draw (by kernel_rfl) (by kernel_rfl) ?_ | refine GC.block ?_ | refine GC.skip ?_ | refine GE.then_normal ?_ | refine GC.cond_no rfl (by first | assumption | omega) ?_)
          refine GC.loop (ι := Nat × List Bool) (fun x => x.1 ≤ (T2.getD (13 + A.length + c) default).t.data.length ∧ x.2.length = D.length ∧ ∀ p : Nat, p < D.length → x.2.getD p default = (hit L (p : Int) || decide (0 < send.cov (Z.take c) (p : Int)) || decide (X ≤ p ∧ p < X + x.1))) (fun x => (T2.getD (13 + A.length + c) default).t.data.length - x.1) (fun x => [(7, .slice so D.length sc), (10, .slice oU (34 + A.length) oUc), (12, .slice sa D.length D.length), (22, .int .i64 ((13 + A.length + c : Nat) : Int)), (23, .int .i64 (x.1 : Int))]) (fun x => [.vec 37 7 oU (34 + A.length) oUc (flat send.eT T2), .vec 4 1 sa D.length D.length (flat eBo x.2), .sl so D.length sc 1 (flat eB D)]) (0, S1) ⟨Nat.zero_le _, hS1l, fun p hp => by simp only; rw [hS1 p hp, decide_eq_false (show ¬ (X ≤ p ∧ p < X + 0) by omega), Bool.or_false]⟩ (by simp only [fits]; repeat (first | exact trivial | refine And.intro rfl ?_)) (by repeat (first | exact Takes.nil | apply Takes.dup rfl | apply Takes.cons | exact Take1.here | apply Take1.there)) ?_
          rintro ⟨j, S2⟩ ⟨hj, hS2l, hS2⟩ fr_ rs_ hfr_ hrs_
          simp only [List.cons_append, List.nil_append] at hfr_ hrs_
          subst hfr_ hrs_
          simp only at hj hS2l hS2
          by_cases hjl : (j : Int) < ((T2.getD (13 + A.length + c) default).t.data.length : Int)
          · have hXj : X + j < D.length := by omega
            have hv : S2.getD (X + j) default = false := by
              rw [hS2 _ hXj]
              have h1 := hcov ((X + j : Nat) : Int) (by omega) (by omega)
              have h2 := cov_le Z (c + 1) ((X + j : Nat) : Int)
              rw [hct, if_pos (by omega)] at h2
              have hh : hit L ((X + j : Nat) : Int) = false := by
                cases e : hit L ((X + j : Nat) : Int) with
                | false => rfl
                | true => rw [if_pos e] at h1; omega
              rw [if_neg (by rw [hh]; decide)] at h1
              rw [hh, decide_eq_false (by omega), decide_eq_false (by omega)]; rfl
            repeat ((fail_if_success (refine GC.region (id := 49) ?_)); first | (apply G.ex (hd := rfl); case h => (first | exact Ex.move rfl | exact Ex.fieldE rfl | exact Ex.lss rfl rfl | exact Ex.lenSl rfl | exact Ex.indexN rfl rfl (by first | omega | (simp; done) | (simp; omega)) | exact Ex.loadT rfl (by first | omega | (simp; done) | (simp; omega)) rfl)) | refine G.nil ?_ | refine GC.seq ?_ | refine GC.region ?_ | refine GC.block ?_ | refine GC.skip ?_ | refine GE.then_normal ?_ | refine GC.cond_yes rfl (by first | assumption | omega) ?_)
            refine GC.region ?_
            iterate 8 (first | (apply G.ex (hd := rfl); case h => (first | exact Ex.move rfl | exact Ex.fieldE rfl | exact Ex.add rfl rfl (by omega) | exact Ex.indexN rfl rfl (by first | omega | (simp; done) | (simp; omega)) | exact Ex.loadT rfl (by first | omega | (simp; done) | (simp; omega)) rfl)))
            rw [hX, show (X : Int) + (j : Int) = ((X + j : Nat) : Int) by omega]
            repeat (first | (apply G.ex (hd := rfl); case h => (first | exact Ex.indexN rfl rfl (by first | omega | (simp; done) | (simp; omega)) | exact Ex.loadT0 rfl (by first | omega | (simp; done) | (simp; omega)) rfl)) | refine G.nil ?_ | refine GE.then_normal ?_)
            rw [hv]
            repeat ((fail_if_success (refine GC.region (id := 51) ?_)); first | refine GC.skip ?_ | refine GE.then_normal ?_ | refine GC.cond_no rfl (by first | assumption | omega) ?_)
            refine GC.region ?_
            iterate 8 (first | (apply G.ex (hd := rfl); case h => (first | exact Ex.move rfl | exact Ex.fieldE rfl | exact Ex.add rfl rfl (by omega) | exact Ex.indexN rfl rfl (by first | omega | (simp; done) | (simp; omega)) | exact Ex.loadT rfl (by first | omega | (simp; done) | (simp; omega)) rfl)))
            rw [hX, show (X : Int) + (j : Int) = ((X + j : Nat) : Int) by omega]
            repeat (first | (apply G.ex (hd := rfl); case h => (first | exact Ex.indexN rfl rfl (by first | omega | (simp; done) | (simp; omega)))))
            first | refine G.storeT0 rfl rfl rfl rfl (by first | omega | (simp; omega)) rfl (true) (rfl) (fun rs_ hrs_ => ?_) | refine G.storeT rfl rfl rfl rfl (by first | omega | (simp; omega)) rfl (true) (rfl) (fun rs_ hrs_ => ?_) | refine G.storeTA rfl rfl (by first | omega | (simp; omega)) rfl (true) (rfl) (fun rs_ hrs_ => ?_)
            try simp only at hrs_
            subst hrs_
            repeat (first | (apply G.ex (hd := rfl); case h => (first | exact Ex.move rfl | exact Ex.add rfl rfl (by omega) | exact Ex.assign rfl)) | refine G.nil ?_ | refine GC.region ?_ | refine GE.then_normal ?_ | refine GE.block_normal ?_)
            have hnx : ∀ p : Nat, p < D.length → (S2.set (X + j) true).getD p default = (hit L (p : Int) || decide (0 < send.cov (Z.take c) (p : Int)) || decide (X ≤ p ∧ p < X + (j + 1))) := by
              intro p hp
              rw [getD_set1 _ _ _ _ (by omega)]
              by_cases e : p = X + j
              · rw [if_pos e, decide_eq_true (show X ≤ p ∧ p < X + (j + 1) by omega), Bool.or_true]
              · rw [if_neg e, hS2 p hp]
                congr 1
                exact decide_eq_decide.2 (by omega)
            rw [show (j : Int) + 1 = ((j + 1 : Nat) : Int) by omega]
            refine GE.loop (j + 1, S2.set (X + j) true) ⟨by simp only; omega, by simp only [List.length_set]; exact hS2l, hnx⟩ (by simp only; omega) (by simp only [fits]; repeat (first | exact trivial | refine And.intro rfl ?_)) (by repeat (first | exact Takes.nil | apply Takes.dup rfl | apply Takes.cons | exact Take1.here | apply Take1.there)) (by repeat (first | exact Subs.refl | refine Subs.skip ?_))
          · have hje : j = (T2.getD (13 + A.length + c) default).t.data.length := by omega
            have hnx : ∀ p : Nat, p < D.length → S2.getD p default = (hit L (p : Int) || decide (0 < send.cov (Z.take (c + 1)) (p : Int))) := by
              intro p hp
              rw [hS2 p hp, hct, hX, hje, Bool.or_assoc]
              congr 1
              apply Bool.eq_iff_iff.2
              rw [Bool.or_eq_true, decide_eq_true_eq, decide_eq_true_eq, decide_eq_true_eq]
              split <;> omega
            repeat (first | (apply G.ex (hd := rfl); case h => (first | exact Ex.move rfl | exact Ex.fieldE rfl | exact Ex.add rfl rfl (by omega) | exact Ex.lss rfl rfl | exact Ex.lenSl rfl | exact Ex.indexN rfl rfl (by first | omega | (simp; done) | (simp; omega)) | exact Ex.loadT rfl (by first | omega | (simp; done) | (simp; omega)) rfl | exact Ex.assign rfl)) | refine G.nil ?_ | refine GC.seq ?_ | refine GC.region ?_ | refine GC.exit ?_ | refine GE.then_normal ?_ | refine GE.then_exit ?_ | refine GE.block_normal ?_ | refine GE.block_hit ?_ | refine GC.cond_no rfl (by first | assumption | omega) ?_)
            rw [show ((13 + A.length + c : Nat) : Int) + 1 = ((13 + A.length + (c + 1) : Nat) : Int) by omega]
            refine GE.loop (c + 1, S2) ⟨by simp only; omega, hS2l, hnx⟩ (by simp only; omega) (by simp only [fits]; repeat (first | exact trivial | refine And.intro rfl ?_)) (by repeat (first | exact Takes.nil | apply Takes.dup rfl | apply Takes.cons | exact Take1.here | apply Take1.there)) (by repeat (first | exact Subs.refl | refine Subs.skip ?_))
      · obtain rfl : c = 21 := by omega
        rw [show Z.take 21 = Z by rw [← hZl, List.take_length]] at hS1
        have hall : ∀ p : Nat, p < D.length → S1.getD p default = true := by
          intro p hp
          rw [hS1 p hp]
          cases e : hit L (p : Int) with
          | true => rfl
          | false =>
            rw [hcov (p : Int) (by omega) (by omega), if_neg (by rw [e]; decide)]; rfl
        repeat (first | (apply G.ex (hd := rfl); case h => (first | exact Ex.move rfl | exact Ex.lss rfl rfl | exact Ex.lenSl rfl | exact Ex.assign rfl)) | refine G.nil ?_ | refine GC.seq ?_ | refine GC.region ?_ | refine GC.block ?_ | refine GC.exit ?_ | refine GE.then_normal ?_ | refine GE.then_exit ?_ | refine GE.block_hit ?_ | refine GC.cond_no rfl (by first | assumption | omega) ?_)
        refine GC.loop (ι := Nat) (fun k => k ≤ D.length) (fun k => D.length - k) (fun k => [(7, .slice so D.length sc), (12, .slice sa D.length D.length), (24, .int .i64 (k : Int))]) (fun k => [.vec 4 1 sa D.length D.length (flat eBo S1), .sl so D.length sc 1 (flat eB D)]) 0 (Nat.zero_le _) (by simp only [fits]; repeat (first | exact trivial | refine And.intro rfl ?_)) (by repeat (first | exact Takes.nil | apply Takes.dup rfl | apply Takes.cons | exact Take1.here | apply Take1.there)) ?_
        rintro k hk fr_ rs_ hfr_ hrs_
        simp only [List.cons_append, List.nil_append] at hfr_ hrs_
        subst hfr_ hrs_
        have hk' : k ≤ D.length := hk
        by_cases hkl : (k : Int) < (D.length : Int)
        · have hka := hall k (by omega)
          repeat (first | (apply G.ex (hd := rfl); case h => (first | exact Ex.move rfl | exact Ex.lss rfl rfl | exact Ex.lenSl rfl | exact Ex.indexN rfl rfl (by first | omega | (simp; done) | (simp; omega)) | exact Ex.loadT0 rfl (by first | omega | (simp; done) | (simp; omega)) rfl | exact Ex.notB rfl)) | refine G.nil ?_ | refine GC.seq ?_ | refine GC.region ?_ | refine GC.block ?_ | refine GC.skip ?_ | refine GE.then_normal ?_ | refine GC.cond_yes rfl (by first | assumption | omega) ?_)
          rw [hka]
          repeat (first | (apply G.ex (hd := rfl); case h => (first | exact Ex.move rfl | exact Ex.add rfl rfl (by omega) | exact Ex.assign rfl)) | refine G.nil ?_ | refine GC.region ?_ | refine GC.skip ?_ | refine GE.then_normal ?_ | refine GE.block_normal ?_ | refine GC.cond_no rfl (by first | assumption | omega) ?_)
          rw [show (k : Int) + 1 = ((k + 1 : Nat) : Int) by omega]
          refine GE.loop (k + 1) (by omega : k + 1 ≤ D.length) (by omega) (by simp only [fits]; repeat (first | exact trivial | refine And.intro rfl ?_)) (by repeat (first | exact Takes.nil | apply Takes.dup rfl | apply Takes.cons | exact Take1.here | apply Take1.there)) (by repeat (first | exact Subs.refl | refine Subs.skip ?_))
        · repeat (first | (apply G.ex (hd := rfl); case h => (first | exact Ex.move rfl | exact Ex.lss rfl rfl | exact Ex.lenSl rfl | exact Ex.assign rfl)) | refine G.nil ?_ | refine GC.seq ?_ | refine GC.region ?_ | refine GC.ret ?_ | refine GC.exit ?_ | refine GE.then_normal ?_ | refine GE.then_exit ?_ | refine GE.block_hit ?_ | refine GC.cond_no rfl (by first | assumption | omega) ?_)
          refine GE.ret (by first | exact .inl rfl | exact .inr rfl) (by first | exact res0 Try.results3 | exact res1 Try.results3 rfl | exact res2 Try.results3 rfl rfl | exact resR1 Try.results3 (by first | exact RV.tmp rfl | exact RV.cell rfl (eP_len _) | exact RV.cell rfl rfl | exact RV.cell1 rfl) | exact resR2 Try.results3 (by first | exact RV.tmp rfl | exact RV.cell rfl (eP_len _) | exact RV.cell rfl rfl | exact RV.cell1 rfl) (by first | exact RV.tmp rfl | exact RV.cell rfl (eP_len _) | exact RV.cell rfl rfl | exact RV.cell1 rfl) | exact resR3 Try.results3 (by first | exact RV.tmp rfl | exact RV.cell rfl (eP_len _) | exact RV.cell rfl rfl | exact RV.cell1 rfl) (by first | exact RV.tmp rfl | exact RV.cell rfl (eP_len _) | exact RV.cell rfl rfl | exact RV.cell1 rfl) (by first | exact RV.tmp rfl | exact RV.cell rfl (eP_len _) | exact RV.cell rfl rfl | exact RV.cell1 rfl)) ⟨rfl, rfl⟩ (by repeat (first | exact Takes.nil | apply Takes.dup rfl | apply Takes.cons | exact Take1.here | apply Take1.there)) (by repeat (first | exact Subs.refl | refine Subs.skip ?_))
end top
end Go.Proofs.Ytkinpmbokkfpbaa
