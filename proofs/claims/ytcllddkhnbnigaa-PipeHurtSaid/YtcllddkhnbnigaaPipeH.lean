/-
  ROWS OF Move as arguments; CONTRACTS of Hops and LineOf, by the kit.
-/
import Derived.Test.YtcllddkhnbnigaaPipeG
import Derived.Test.YtcllddkhnbnigaaKitM2
import Derived.Test.YtcllddkhnbnigaaKitM1
namespace Go.Proofs.Ytcllddkhnbnigaa
open Go.RowKit
attribute [local irreducible] Ex G GC GE Gq FPost LPost
set_option linter.unusedVariables false
set_option linter.unusedSimpArgs false
/-- a move as it lies in memory -/
structure MvM where
  kind : Int
  d : SlD UInt8
  id : Int
  by_ : UInt8
instance : Inhabited MvM := ⟨⟨0, default, 0, 0⟩⟩
def eMv (m : MvM) : List Value := [.int .i64 m.kind, .slice m.d.ao m.d.n m.d.c, .int .i64 m.id, .int .u8 (m.by_.toNat : Int)]
instance : Enc eMv 4 := ⟨fun _ => rfl, fun x u hu => by simp [eMv] at hu; rcases hu with rfl | rfl | rfl | rfl <;> rfl⟩
structure MvOk (m : MvM) : Prop where
  k : -9223372036854775808 ≤ m.kind ∧ m.kind ≤ 9223372036854775807
  i : -9223372036854775808 ≤ m.id ∧ m.id ≤ 9223372036854775807
  len : m.d.l.length = m.d.n
  le : m.d.n ≤ 9223372036854775807
abbrev moveS : List (Option IntKind) := [[some .i64], [none], [some .i64], [some .u8]].flatten
theorem byteZ_of {z : Int} (h : 0 ≤ z ∧ z ≤ 255) : ((byteZ z).toNat : Int) = z := by
  have h1 : (byteZ z).toNat = z.toNat % 256 := by
    unfold byteZ
    simp [show z % 256 = z by omega]
  rw [h1]; omega
theorem move_rows {w : World} {a : Option Addr} {len cap : Nat} {A : List (List Value)} (h : IsRecs moveS w a len cap A) :
    ∃ L : List MvM, L.length = len ∧ len ≤ maxLen ∧ (∀ m ∈ L, MvOk m) ∧ ∀ rs, Holds w w rs → Holds w w (.sl a len cap 4 (flat eMv L) :: .per (Rd eB 1 (L.map (·.d))) :: rs) := by
  obtain ⟨L, h1, h2, h3⟩ := recs_list eMv (fun m => MvOk m ∧ rowB m.d w) A fun c hc => by
    obtain ⟨k, c1, rfl, wk, q1⟩ := (h.2.2 c hc).int
    obtain ⟨ao, n, cp, zs, c2, rfl, hr, q2⟩ := q1.row
    obtain ⟨x, c3, rfl, wx, q3⟩ := q2.int
    obtain ⟨y, c4, rfl, wy, q4⟩ := q3.int
    obtain rfl := q4.nil
    obtain ⟨d, rfl, rfl, rfl, d4, d5, d6⟩ := row_of hr
    exact ⟨⟨k, d, x, byteZ y⟩, by show _ = [Value.int .i64 k, .slice d.ao d.n d.c, .int .i64 x, .int .u8 ((byteZ y).toNat : Int)]; rw [byteZ_of (bd_u8 wy)], ⟨bd_i64 wk, bd_i64 wx, d4, by unfold maxLen at d5; simp only; omega⟩, d6⟩
  refine ⟨L, by rw [h2]; exact h.1, Nat.le_trans h.2.1.le h.2.1.cap, fun m hm => (h3 m hm).1, fun rs H => ?_⟩
  exact H.argRecs h eMv (·.d) L (by decide) h1 fun m hm => (h3 m hm).2
namespace pipe
open hole
/-- a hop that may come of a move -/
structure HBd (m : HoM) : Prop where
  k : HMOk m
  o : HoOk (toHo m)
  d : m.d.n ≤ 80
  nd : ¬ m.kind = 1 → m.d = ⟨none, 0, 0, []⟩
theorem getD_memH {α : Type} [Inhabited α] (L : List α) (k : Nat) (h : k < L.length) : L.getD k default ∈ L := by
  rw [List.getD_eq_getElem?_getD, List.getElem?_eq_getElem h]; exact List.getElem_mem h
theorem HBd.plain {k id at_ cnt : Int} {b : UInt8} (hk : 2 ≤ k ∧ k ≤ 7) : HBd ⟨k, ⟨none, 0, 0, []⟩, id, at_, b, cnt⟩ := by
  refine ⟨⟨by simp only; omega, rfl, Nat.zero_le _⟩, ?_, Nat.zero_le _, fun _ => rfl⟩
  rcases (show k = 2 ∨ k = 3 ∨ k = 4 ∨ k = 5 ∨ k = 6 ∨ k = 7 by omega) with rfl | rfl | rfl | rfl | rfl | rfl <;> exact trivial
set_option maxHeartbeats 16000000 in
theorem hops_sp (ao : Option Addr) (n c : Nat) (L : List MvM) (hl : L.length = n) (hn : n ≤ 9223372036854775807) (hL : ∀ m ∈ L, MvOk m) (N : Nat) (hN : N ≤ 300) :
    Spec Try.prog 8 [.slice ao n c, .int .i64 (N : Int)] [.sl ao n c 4 (flat eMv L), .per (Rd eB 1 (L.map (·.d)))] fun v give => ∃ (H : List HoM) (oa : Option Addr) (oc : Nat), H.length ≤ N ∧ (∀ m ∈ H, HBd m) ∧ v = .slice oa H.length oc ∧ give = [.vec 36 6 oa H.length oc (flat eHo H), .per (Rd eB 1 (H.map (·.d)))] := by
  refine Spec.intro Try.func8 rfl Try.ntmps8 rfl fun w0 rest rs_ hrs_ => ?_
  simp only [List.cons_append, List.nil_append] at hrs_
  subst hrs_
  repeat (first | (apply G.ex (hd := rfl); case h => (first | exact Ex.assign rfl)) | refine G.nil ?_ | refine GC.seq ?_ | refine GC.region ?_ | refine GC.block ?_ | refine GE.then_normal ?_)
  first | refine G.nilvec 36 6 ?_ | refine GC.nilvec 36 6 ?_
  refine GC.conv (fun w_ H_ => Holds.rdNil eB 1 H_) ?_
  refine GC.loop (ι := Nat × Nat × List HoM × Option Addr × Nat) (fun x => x.1 ≤ n ∧ x.1 ≤ N ∧ x.2.1 ≤ x.1 ∧ x.2.2.1.length = x.1 ∧ (∀ m ∈ x.2.2.1, HBd m)) (fun x => n - x.1) (fun x => [(0, .slice ao n c), (1, .int .i64 (N : Int)), (5, .slice x.2.2.2.1 x.1 x.2.2.2.2), (6, .int .i64 (x.2.1 : Int)), (7, .int .i64 (x.1 : Int))]) (fun x => [.vec 36 6 x.2.2.2.1 x.1 x.2.2.2.2 (flat eHo x.2.2.1), .per (Rd eB 1 (x.2.2.1.map (·.d))), .sl ao n c 4 (flat eMv L), .per (Rd eB 1 (L.map (·.d)))]) (0, 0, [], none, 0) ⟨Nat.zero_le _, Nat.zero_le _, Nat.zero_le _, rfl, fun m h => nomatch h⟩ (by simp only [fits]; repeat (first | exact trivial | refine And.intro rfl ?_)) (by repeat first | exact tn_ | apply td_ rfl | apply tc_ | exact .here | apply Take1.there) ?_
  rintro ⟨k, fr, H, oa, oc⟩ ⟨hk, hkN, hfr, hHl, hM⟩ fr_ rs_ hfr_ hrs_
  simp only [List.cons_append, List.nil_append] at hfr_ hrs_
  subst hfr_ hrs_
  simp only at hk hkN hfr hHl hM
  by_cases g1 : k < n
  · by_cases g2 : k < N
    · have hz := hL (L.getD k default) (getD_memH L k (by omega))
      obtain ⟨z1, z2, z3, z4⟩ := hz
      have hdk : (L.map (·.d)).getD k default = (L.getD k default).d := by
        rw [List.getD_eq_getElem?_getD, List.getElem?_map, List.getD_eq_getElem?_getD, List.getElem?_eq_getElem (show k < L.length by omega)]; rfl
      repeat (first | (apply G.ex (hd := rfl); case h => (first | exact Ex.move rfl | exact Ex.lss rfl rfl | exact Ex.lenSl rfl | exact Ex.indexN rfl rfl (by first | omega | (simp; done) | (simp; omega)) | exact Ex.pickT rfl (by first | assumption | omega) rfl | exact Ex.loadTA rfl (by first | omega | (simp; done) | (simp; omega)))) | refine G.g_tt rfl rfl (by first | assumption | omega) ?_ | refine G.nil ?_ | refine GC.seq ?_ | refine GC.region ?_ | refine GC.block ?_ | refine GC.skip ?_ | refine GE.then_normal ?_ | refine GC.cond_yes rfl (by first | assumption | omega) ?_)
      refine G.alloc rfl (fun mb => ?_)
      repeat (first | refine G.storeBA rfl rfl rfl rfl rfl ?_ | (apply G.ex (hd := rfl); case h => (first | exact Ex.build rfl rfl)) | refine G.nil ?_ | refine GC.seq ?_ | refine GC.region ?_ | refine GE.then_normal ?_)
      refine G.alloc rfl (fun xb => ?_)
      repeat (first | refine G.storeBA rfl rfl rfl rfl rfl ?_ | (apply G.ex (hd := rfl); case h => (first | exact Ex.fieldB rfl | exact Ex.loadB rfl rfl)) | refine G.nil ?_ | refine GC.seq ?_ | refine GC.region ?_ | refine GE.then_normal ?_)
      first | refine G.call (caps := []) (picked_sp (L.getD k default).kind 20 (by omega) (by omega)) rfl rfl rfl rfl (by repeat first | exact tn_ | apply td_ rfl | apply tc_ | exact .here | apply Take1.there) ?_ | refine G.callU (caps := []) (picked_sp (L.getD k default).kind 20 (by omega) (by omega)) rfl rfl rfl (by repeat first | exact tn_ | apply td_ rfl | apply tc_ | exact .here | apply Take1.there) ?_
      rintro v_ give_ ⟨rfl, rfl⟩ rs_ hrs_
      simp only [List.cons_append, List.nil_append] at hrs_
      subst hrs_
      have hp1 := Int.emod_nonneg (L.getD k default).kind (show (20 : Int) ≠ 0 by omega)
      have hp2 := Int.emod_lt_of_pos (L.getD k default).kind (show (0 : Int) < 20 by omega)
      generalize (L.getD k default).kind % 20 = κ at *
      have hpf := picked_sp (L.getD k default).id ((fr : Int) + 1) (by omega) (by omega)
      refine G.conv (fun w_ H_ => H_.rdAt (l := L.map (·.d)) (enc := eB) (s := 1) (by simp) k (by rw [List.length_map]; omega)) ?_
      rw [hdk]
      first | (apply G.ex (hd := rfl); case h => (first | exact Ex.assign rfl))
      refine G.nil ?_
      refine GE.then_normal ?_
      refine GC.meet (ι := HoM) HBd (fun m => [(0, .slice ao n c), (1, .int .i64 (N : Int)), (5, .slice oa k oc), (6, .int .i64 (fr : Int)), (7, .int .i64 (k : Int)), (9, .pointer (some (badr xb 0)))]) (fun m => [.blk xb 36 (eHo m), .sl m.d.ao m.d.n m.d.c 1 (flat eB m.d.l), .vec 36 6 oa k oc (flat eHo H), .per (Rd eB 1 (H.map (·.d))), .sl ao n c 4 (flat eMv L), .per (Rd eB 1 (L.map (·.d)))]) (.per (Rd eB 1 ([] : List (SlD UInt8))) :: .sl ao n c 4 (flat eMv L) :: .per (Rd eB 1 (L.map (·.d))) :: rest) ?_ ?_
      · by_cases c0 : κ < 2
        · repeat (first | (apply G.ex (hd := rfl); case h => (first | exact Ex.move rfl | exact Ex.fieldB rfl | exact Ex.loadB rfl rfl | exact Ex.lss rfl rfl | exact Ex.assign rfl)) | refine G.nil ?_ | refine GC.seq ?_ | refine GC.region ?_ | refine GC.block ?_ | refine GE.then_normal ?_ | refine GC.cond_yes rfl (by first | assumption | omega) ?_)
          first | refine G.call (caps := []) (octets_sp (L.getD k default).d.ao (L.getD k default).d.n (L.getD k default).d.c (L.getD k default).d.l z3 (by omega) 80 (by omega)) rfl rfl rfl rfl (by repeat first | exact tn_ | apply td_ rfl | apply tc_ | exact .here | apply Take1.there) ?_ | refine G.callU (caps := []) (octets_sp (L.getD k default).d.ao (L.getD k default).d.n (L.getD k default).d.c (L.getD k default).d.l z3 (by omega) 80 (by omega)) rfl rfl rfl (by repeat first | exact tn_ | apply td_ rfl | apply tc_ | exact .here | apply Take1.there) ?_
          rintro v_ give_ ⟨xo, xc, rfl, rfl⟩ rs_ hrs_
          simp only [List.cons_append, List.nil_append] at hrs_
          subst hrs_
          first | refine G.frz xo ?_ | refine GC.frz xo ?_ | refine GE.frz xo ?_
          repeat (first | refine G.storeBA rfl rfl rfl rfl rfl ?_ | (apply G.ex (hd := rfl); case h => (first | exact Ex.build rfl rfl)) | refine G.nil ?_ | refine GE.block_normal ?_)
          refine GE.meet ⟨1, ⟨xo, min (L.getD k default).d.n 80, xc, (L.getD k default).d.l.take 80⟩, 0, 0, 0, 0⟩ ⟨⟨by simp only; omega, by simp only [List.length_take]; omega, by simp only; omega⟩, trivial, by simp only; omega, fun h => absurd rfl h⟩ (by simp only [fits]; repeat (first | exact trivial | refine And.intro rfl ?_)) (by repeat first | exact tn_ | apply td_ rfl | apply tc_ | exact .here | apply Take1.there) (by repeat (first | exact Subs.refl | refine Subs.skip ?_))
        · refine GC.nilsl 1 ?_
          by_cases c1 : κ = 2
          · subst c1
            by_cases g3 : 20 < k
            · have g3' : (20 : Int) < (k : Int) := by omega
              repeat (first | refine G.storeBA rfl rfl rfl rfl rfl ?_ | (apply G.ex (hd := rfl); case h => (first | exact Ex.move rfl | exact Ex.lss rfl rfl | exact Ex.gtr rfl rfl | exact Ex.eqI rfl rfl | exact Ex.assign rfl | exact Ex.pickT rfl (by first | assumption | omega) rfl | exact Ex.build rfl rfl)) | refine G.g_tt rfl rfl (by first | assumption | omega) ?_ | refine G.nil ?_ | refine GC.seq ?_ | refine GC.region ?_ | refine GC.block ?_ | refine GE.then_normal ?_ | refine GE.block_normal ?_ | refine GC.cond_yes rfl (by first | assumption | omega) ?_ | refine GC.cond_no rfl (by first | assumption | omega) ?_)
              refine GE.meet ⟨2, ⟨none, 0, 0, []⟩, 0, 0, 0, 0⟩ (HBd.plain (by omega)) (by simp only [fits]; repeat (first | exact trivial | refine And.intro rfl ?_)) (by repeat first | exact tn_ | apply td_ rfl | apply tc_ | exact .here | apply Take1.there) (by repeat (first | exact Subs.refl | refine Subs.skip ?_))
            · have g3' : ¬ (20 : Int) < (k : Int) := by omega
              repeat (first | (apply G.ex (hd := rfl); case h => (first | exact Ex.move rfl | exact Ex.fieldB rfl | exact Ex.loadB rfl rfl | exact Ex.add rfl rfl (by omega) | exact Ex.lss rfl rfl | exact Ex.gtr rfl rfl | exact Ex.eqI rfl rfl | exact Ex.assign rfl | exact Ex.pickT rfl (by first | assumption | omega) rfl)) | refine G.g_tt rfl rfl (by first | assumption | omega) ?_ | refine G.nil ?_ | refine GC.seq ?_ | refine GC.region ?_ | refine GC.block ?_ | refine GE.then_normal ?_ | refine GC.cond_yes rfl (by first | assumption | omega) ?_ | refine GC.cond_no rfl (by first | assumption | omega) ?_)
              first | refine G.call (caps := []) (hpf) rfl rfl rfl rfl (by repeat first | exact tn_ | apply td_ rfl | apply tc_ | exact .here | apply Take1.there) ?_ | refine G.callU (caps := []) (hpf) rfl rfl rfl (by repeat first | exact tn_ | apply td_ rfl | apply tc_ | exact .here | apply Take1.there) ?_
              rintro v_ give_ ⟨rfl, rfl⟩ rs_ hrs_
              simp only [List.cons_append, List.nil_append] at hrs_
              subst hrs_
              repeat (first | refine G.storeBA rfl rfl rfl rfl rfl ?_ | (apply G.ex (hd := rfl); case h => (first | exact Ex.build rfl rfl)) | refine G.nil ?_ | refine GE.block_normal ?_)
              refine GE.meet ⟨5, ⟨none, 0, 0, []⟩, (L.getD k default).id % ((fr : Int) + 1), 0, 0, 0⟩ (HBd.plain (by omega)) (by simp only [fits]; repeat (first | exact trivial | refine And.intro rfl ?_)) (by repeat first | exact tn_ | apply td_ rfl | apply tc_ | exact .here | apply Take1.there) (by repeat (first | exact Subs.refl | refine Subs.skip ?_))
          · by_cases c3 : κ = 3
            · subst c3
              repeat (first | refine G.storeBA rfl rfl rfl rfl rfl ?_ | (apply G.ex (hd := rfl); case h => (first | exact Ex.move rfl | exact Ex.lss rfl rfl | exact Ex.eqI rfl rfl | exact Ex.assign rfl | exact Ex.pickF rfl (by first | assumption | omega) rfl | exact Ex.build rfl rfl)) | refine G.g_tf rfl rfl (by first | assumption | omega) rfl ?_ | refine G.nil ?_ | refine GC.seq ?_ | refine GC.region ?_ | refine GC.block ?_ | refine GE.then_normal ?_ | refine GE.block_normal ?_ | refine GC.cond_yes rfl (by first | assumption | omega) ?_ | refine GC.cond_no rfl (by first | assumption | omega) ?_)
              refine GE.meet ⟨7, ⟨none, 0, 0, []⟩, 0, 0, 0, 0⟩ (HBd.plain (by omega)) (by simp only [fits]; repeat (first | exact trivial | refine And.intro rfl ?_)) (by repeat first | exact tn_ | apply td_ rfl | apply tc_ | exact .here | apply Take1.there) (by repeat (first | exact Subs.refl | refine Subs.skip ?_))
            · by_cases c4 : κ = 4
              · subst c4
                have hp3 := picked_sp ((L.getD k default).id.tdiv 50) 30 (by omega) (by omega)
                repeat (first | (apply G.ex (hd := rfl); case h => (first | exact Ex.move rfl | exact Ex.lss rfl rfl | exact Ex.eqI rfl rfl | exact Ex.assign rfl | exact Ex.pickF rfl (by first | assumption | omega) rfl)) | refine G.g_tf rfl rfl (by first | assumption | omega) rfl ?_ | refine G.nil ?_ | refine GC.seq ?_ | refine GC.region ?_ | refine GC.block ?_ | refine GE.then_normal ?_ | refine GC.cond_yes rfl (by first | assumption | omega) ?_ | refine GC.cond_no rfl (by first | assumption | omega) ?_)
                refine GC.drawA [] [.blk mb 48 (eMv (L.getD k default))] (by repeat first | exact tn_ | apply td_ rfl | apply tc_ | exact .here | apply Take1.there) (by kernel_rfl) ?_
                first | (apply GA.take [] (hD := .inl rfl) (hsub := ⟨_, Takes.nil⟩) (i := 0) (hi := rfl) (hs := by kernel_rfl) (hfr := by kernel_rfl) (hr := by kernel_rfl) (hQ := np_) (hd := rfl); case hx => (first | exact Ex.fieldB rfl))
                first | (apply GA.take _ (hD := .inr ⟨rfl, by kernel_rfl⟩) (hsub := ⟨_, (by repeat first | exact tn_ | apply td_ rfl | apply tc_ | exact .here | apply Take1.there)⟩) (i := 1) (hi := rfl) (hs := by kernel_rfl) (hfr := by kernel_rfl) (hr := by kernel_rfl) (hQ := np_) (hd := rfl); case hx => (first | exact Ex.loadB rfl rfl))
                first | (apply GA.take [] (hD := .inl rfl) (hsub := ⟨_, Takes.nil⟩) (i := 2) (hi := rfl) (hs := by kernel_rfl) (hfr := by kernel_rfl) (hr := by kernel_rfl) (hQ := np_) (hd := rfl); case hx => (first | exact Ex.move rfl))
                first | (apply GA.take [] (hD := .inl rfl) (hsub := ⟨_, Takes.nil⟩) (i := 3) (hi := rfl) (hs := by kernel_rfl) (hfr := by kernel_rfl) (hr := by kernel_rfl) (hQ := np_) (hd := rfl); case hx => (first | exact Ex.add rfl rfl (by omega)))
                first | (apply GA.take [] (hD := .inl rfl) (hsub := ⟨_, Takes.nil⟩) (i := 5) (hi := rfl) (hs := by kernel_rfl) (hfr := by kernel_rfl) (hr := by kernel_rfl) (hQ := np_) (hd := rfl); case hx => (first | exact Ex.fieldB rfl))
                first | (apply GA.take _ (hD := .inr ⟨rfl, by kernel_rfl⟩) (hsub := ⟨_, (by repeat first | exact tn_ | apply td_ rfl | apply tc_ | exact .here | apply Take1.there)⟩) (i := 6) (hi := rfl) (hs := by kernel_rfl) (hfr := by kernel_rfl) (hr := by kernel_rfl) (hQ := np_) (hd := rfl); case hx => (first | exact Ex.loadB rfl rfl))
                first | (apply GA.take [] (hD := .inl rfl) (hsub := ⟨_, Takes.nil⟩) (i := 7) (hi := rfl) (hs := by kernel_rfl) (hfr := by kernel_rfl) (hr := by kernel_rfl) (hQ := np_) (hd := rfl); case hx => (first | exact Ex.quotB rfl rfl (by omega)))
                first | (apply GA.take [] (hD := .inl rfl) (hsub := ⟨_, Takes.nil⟩) (i := 9) (hi := rfl) (hs := by kernel_rfl) (hfr := by kernel_rfl) (hr := by kernel_rfl) (hQ := np_) (hd := rfl); case hx => (first | exact Ex.fieldB rfl))
                first | (apply GA.take _ (hD := .inr ⟨rfl, by kernel_rfl⟩) (hsub := ⟨_, (by repeat first | exact tn_ | apply td_ rfl | apply tc_ | exact .here | apply Take1.there)⟩) (i := 10) (hi := rfl) (hs := by kernel_rfl) (hfr := by kernel_rfl) (hr := by kernel_rfl) (hQ := np_) (hd := rfl); case hx => (first | exact Ex.loadB rfl rfl))
                refine GA.one (i := 4) (by kernel_rfl) rfl ?_
                first | refine G.call (caps := []) (hpf) rfl rfl rfl rfl (by repeat first | exact tn_ | apply td_ rfl | apply tc_ | exact .here | apply Take1.there) ?_ | refine G.callU (caps := []) (hpf) rfl rfl rfl (by repeat first | exact tn_ | apply td_ rfl | apply tc_ | exact .here | apply Take1.there) ?_
                rintro v_ give_ ⟨rfl, rfl⟩ rs_ hrs_
                simp only [List.cons_append, List.nil_append] at hrs_
                subst hrs_
                try refine G.nil ?_
                refine GA.back (by first | exact .inl (by decide) | exact .inr ⟨_, (by repeat first | exact tn_ | apply td_ rfl | apply tc_ | exact .here | apply Take1.there)⟩) ?_
                refine GA.one (i := 8) (by kernel_rfl) rfl ?_
                first | refine G.call (caps := []) (hp3) rfl rfl rfl rfl (by repeat first | exact tn_ | apply td_ rfl | apply tc_ | exact .here | apply Take1.there) ?_ | refine G.callU (caps := []) (hp3) rfl rfl rfl (by repeat first | exact tn_ | apply td_ rfl | apply tc_ | exact .here | apply Take1.there) ?_
                rintro v_ give_ ⟨rfl, rfl⟩ rs_ hrs_
                simp only [List.cons_append, List.nil_append] at hrs_
                subst hrs_
                try refine G.nil ?_
                refine GA.back (by first | exact .inl (by decide) | exact .inr ⟨_, (by repeat first | exact tn_ | apply td_ rfl | apply tc_ | exact .here | apply Take1.there)⟩) ?_
                first | (apply GA.take [] (hD := .inl rfl) (hsub := ⟨_, Takes.nil⟩) (i := 11) (hi := rfl) (hs := by kernel_rfl) (hfr := by kernel_rfl) (hr := by kernel_rfl) (hQ := np_) (hd := rfl); case hx => (first | exact Ex.build rfl rfl))
                refine GA.one (i := 12) (by kernel_rfl) rfl ?_
                first | refine G.storeBA rfl rfl rfl rfl rfl ?_
                try refine G.nil ?_
                refine GA.back (by first | exact .inl (by decide) | exact .inr ⟨_, (by repeat first | exact tn_ | apply td_ rfl | apply tc_ | exact .here | apply Take1.there)⟩) ?_
                refine GA.done (by kernel_rfl) ?_
                repeat (first | refine GE.block_normal ?_)
                refine GE.meet ⟨4, ⟨none, 0, 0, []⟩, (L.getD k default).id % ((fr : Int) + 1), ((L.getD k default).id.tdiv 50) % 30, (L.getD k default).by_, 0⟩ (HBd.plain (by omega)) (by simp only [fits]; repeat (first | exact trivial | refine And.intro rfl ?_)) (by repeat first | exact tn_ | apply td_ rfl | apply tc_ | exact .here | apply Take1.there) (by repeat (first | exact Subs.refl | refine Subs.skip ?_))
              · by_cases c5 : κ < 10
                · repeat (first | (apply G.ex (hd := rfl); case h => (first | exact Ex.move rfl | exact Ex.fieldB rfl | exact Ex.loadB rfl rfl | exact Ex.add rfl rfl (by omega) | exact Ex.lss rfl rfl | exact Ex.eqI rfl rfl | exact Ex.assign rfl | exact Ex.pickF rfl (by first | assumption | omega) rfl)) | refine G.g_tf rfl rfl (by first | assumption | omega) rfl ?_ | refine G.nil ?_ | refine GC.seq ?_ | refine GC.region ?_ | refine GC.block ?_ | refine GE.then_normal ?_ | refine GC.cond_yes rfl (by first | assumption | omega) ?_ | refine GC.cond_no rfl (by first | assumption | omega) ?_ | refine GC.cond_f rfl ?_)
                  first | refine G.call (caps := []) (hpf) rfl rfl rfl rfl (by repeat first | exact tn_ | apply td_ rfl | apply tc_ | exact .here | apply Take1.there) ?_ | refine G.callU (caps := []) (hpf) rfl rfl rfl (by repeat first | exact tn_ | apply td_ rfl | apply tc_ | exact .here | apply Take1.there) ?_
                  rintro v_ give_ ⟨rfl, rfl⟩ rs_ hrs_
                  simp only [List.cons_append, List.nil_append] at hrs_
                  subst hrs_
                  repeat (first | refine G.storeBA rfl rfl rfl rfl rfl ?_ | (apply G.ex (hd := rfl); case h => (first | exact Ex.build rfl rfl)) | refine G.nil ?_ | refine GE.block_normal ?_)
                  refine GE.meet ⟨5, ⟨none, 0, 0, []⟩, (L.getD k default).id % ((fr : Int) + 1), 0, 0, 0⟩ (HBd.plain (by omega)) (by simp only [fits]; repeat (first | exact trivial | refine And.intro rfl ?_)) (by repeat first | exact tn_ | apply td_ rfl | apply tc_ | exact .here | apply Take1.there) (by repeat (first | exact Subs.refl | refine Subs.skip ?_))
                · by_cases c6 : κ < 14
                  · repeat (first | (apply G.ex (hd := rfl); case h => (first | exact Ex.move rfl | exact Ex.fieldB rfl | exact Ex.loadB rfl rfl | exact Ex.add rfl rfl (by omega) | exact Ex.lss rfl rfl | exact Ex.eqI rfl rfl | exact Ex.assign rfl | exact Ex.pickF rfl (by first | assumption | omega) rfl)) | refine G.g_tf rfl rfl (by first | assumption | omega) rfl ?_ | refine G.nil ?_ | refine GC.seq ?_ | refine GC.region ?_ | refine GC.block ?_ | refine GE.then_normal ?_ | refine GC.cond_yes rfl (by first | assumption | omega) ?_ | refine GC.cond_no rfl (by first | assumption | omega) ?_ | refine GC.cond_f rfl ?_)
                    first | refine G.call (caps := []) (hpf) rfl rfl rfl rfl (by repeat first | exact tn_ | apply td_ rfl | apply tc_ | exact .here | apply Take1.there) ?_ | refine G.callU (caps := []) (hpf) rfl rfl rfl (by repeat first | exact tn_ | apply td_ rfl | apply tc_ | exact .here | apply Take1.there) ?_
                    rintro v_ give_ ⟨rfl, rfl⟩ rs_ hrs_
                    simp only [List.cons_append, List.nil_append] at hrs_
                    subst hrs_
                    repeat (first | refine G.storeBA rfl rfl rfl rfl rfl ?_ | (apply G.ex (hd := rfl); case h => (first | exact Ex.build rfl rfl)) | refine G.nil ?_ | refine GE.block_normal ?_)
                    refine GE.meet ⟨6, ⟨none, 0, 0, []⟩, (L.getD k default).id % ((fr : Int) + 1), 0, 0, 0⟩ (HBd.plain (by omega)) (by simp only [fits]; repeat (first | exact trivial | refine And.intro rfl ?_)) (by repeat first | exact tn_ | apply td_ rfl | apply tc_ | exact .here | apply Take1.there) (by repeat (first | exact Subs.refl | refine Subs.skip ?_))
                  · by_cases c7 : κ = 14
                    · subst c7
                      have hq1 := Int.emod_nonneg (L.getD k default).id (show (100 : Int) ≠ 0 by omega)
                      have hq2 := Int.emod_lt_of_pos (L.getD k default).id (show (0 : Int) < 100 by omega)
                      repeat (first | (apply G.ex (hd := rfl); case h => (first | exact Ex.move rfl | exact Ex.fieldB rfl | exact Ex.loadB rfl rfl | exact Ex.lss rfl rfl | exact Ex.eqI rfl rfl | exact Ex.assign rfl | exact Ex.pickF rfl (by first | assumption | omega) rfl)) | refine G.g_tf rfl rfl (by first | assumption | omega) rfl ?_ | refine G.nil ?_ | refine GC.seq ?_ | refine GC.region ?_ | refine GC.block ?_ | refine GE.then_normal ?_ | refine GC.cond_yes rfl (by first | assumption | omega) ?_ | refine GC.cond_no rfl (by first | assumption | omega) ?_)
                      first | refine G.call (caps := []) (picked_sp (L.getD k default).id 100 (by omega) (by omega)) rfl rfl rfl rfl (by repeat first | exact tn_ | apply td_ rfl | apply tc_ | exact .here | apply Take1.there) ?_ | refine G.callU (caps := []) (picked_sp (L.getD k default).id 100 (by omega) (by omega)) rfl rfl rfl (by repeat first | exact tn_ | apply td_ rfl | apply tc_ | exact .here | apply Take1.there) ?_
                      rintro v_ give_ ⟨rfl, rfl⟩ rs_ hrs_
                      simp only [List.cons_append, List.nil_append] at hrs_
                      subst hrs_
                      repeat (first | refine G.storeBA rfl rfl rfl rfl rfl ?_ | (apply G.ex (hd := rfl); case h => (first | exact Ex.build rfl rfl)) | refine G.nil ?_ | refine GE.block_normal ?_)
                      refine GE.meet ⟨8, ⟨none, 0, 0, []⟩, 0, 0, 0, (L.getD k default).id % 100⟩ ⟨⟨by simp only; omega, rfl, Nat.zero_le _⟩, ⟨hq1, by show (L.getD k default).id % 100 ≤ (4096 : Int); omega⟩, Nat.zero_le _, fun _ => rfl⟩ (by simp only [fits]; repeat (first | exact trivial | refine And.intro rfl ?_)) (by repeat first | exact tn_ | apply td_ rfl | apply tc_ | exact .here | apply Take1.there) (by repeat (first | exact Subs.refl | refine Subs.skip ?_))
                    · repeat (first | (apply G.ex (hd := rfl); case h => (first | exact Ex.move rfl | exact Ex.lss rfl rfl | exact Ex.eqI rfl rfl | exact Ex.assign rfl | exact Ex.pickF rfl (by first | assumption | omega) rfl)) | refine G.g_tf rfl rfl (by first | assumption | omega) rfl ?_ | refine G.nil ?_ | refine GC.seq ?_ | refine GC.region ?_ | refine GC.block ?_ | refine GC.skip ?_ | refine GE.then_normal ?_ | refine GE.block_normal ?_ | refine GC.cond_no rfl (by first | assumption | omega) ?_ | refine GC.cond_f rfl ?_)
                      refine GE.meet ⟨3, ⟨none, 0, 0, []⟩, 0, 0, 0, 0⟩ (HBd.plain (by omega)) (by simp only [fits]; repeat (first | exact trivial | refine And.intro rfl ?_)) (by repeat first | exact tn_ | apply td_ rfl | apply tc_ | exact .here | apply Take1.there) (by repeat (first | exact Subs.refl | refine Subs.skip ?_))
      rintro m hm fr_ rs_ hfr_ hrs_
      simp only [List.cons_append, List.nil_append] at hfr_ hrs_
      subst hfr_ hrs_
      have hmk := hm.k.kind
      refine GE.then_normal ?_
      refine GC.seq ?_
      refine GC.meet (ι := Nat) (fun f => f ≤ k + 1) (fun f => [(0, .slice ao n c), (1, .int .i64 (N : Int)), (5, .slice oa k oc), (6, .int .i64 (f : Int)), (7, .int .i64 (k : Int)), (9, .pointer (some (badr xb 0)))]) (fun _ => [.blk xb 36 (eHo m), .sl m.d.ao m.d.n m.d.c 1 (flat eB m.d.l), .vec 36 6 oa k oc (flat eHo H), .per (Rd eB 1 (H.map (·.d))), .sl ao n c 4 (flat eMv L), .per (Rd eB 1 (L.map (·.d)))]) (.per (Rd eB 1 ([] : List (SlD UInt8))) :: .sl ao n c 4 (flat eMv L) :: .per (Rd eB 1 (L.map (·.d))) :: rest) ?_ ?_
      · by_cases d3 : m.kind = 3
        · repeat (first | (apply G.ex (hd := rfl); case h => (first | exact Ex.move rfl | exact Ex.fieldB rfl | exact Ex.loadB rfl rfl | exact Ex.add rfl rfl (by omega) | exact Ex.eqI rfl rfl | exact Ex.assign rfl | exact Ex.pickT rfl (by first | assumption | omega) rfl | exact Ex.pickLT rfl rfl)) | refine G.g_ft rfl rfl (by first | assumption | omega) rfl ?_ | refine G.l_ft rfl rfl rfl ?_ | refine G.nil ?_ | refine GC.seq ?_ | refine GC.region ?_ | refine GE.then_normal ?_ | refine GC.cond_t rfl ?_)
          rw [show (fr : Int) + 1 = ((fr + 1 : Nat) : Int) by omega]
          refine GE.meet (fr + 1) (by omega) (by simp only [fits]; repeat (first | exact trivial | refine And.intro rfl ?_)) (by repeat first | exact tn_ | apply td_ rfl | apply tc_ | exact .here | apply Take1.there) (by repeat (first | exact Subs.refl | refine Subs.skip ?_))
        · by_cases d5 : m.kind = 5
          · repeat (first | (apply G.ex (hd := rfl); case h => (first | exact Ex.move rfl | exact Ex.fieldB rfl | exact Ex.loadB rfl rfl | exact Ex.add rfl rfl (by omega) | exact Ex.eqI rfl rfl | exact Ex.assign rfl | exact Ex.pickT rfl (by first | assumption | omega) rfl | exact Ex.pickF rfl (by first | assumption | omega) rfl)) | refine G.g_ft rfl rfl (by first | assumption | omega) rfl ?_ | refine G.g_ff rfl rfl (by first | assumption | omega) ?_ | refine G.nil ?_ | refine GC.seq ?_ | refine GC.region ?_ | refine GE.then_normal ?_ | refine GC.cond_t rfl ?_)
            rw [show (fr : Int) + 1 = ((fr + 1 : Nat) : Int) by omega]
            refine GE.meet (fr + 1) (by omega) (by simp only [fits]; repeat (first | exact trivial | refine And.intro rfl ?_)) (by repeat first | exact tn_ | apply td_ rfl | apply tc_ | exact .here | apply Take1.there) (by repeat (first | exact Subs.refl | refine Subs.skip ?_))
          · by_cases d8 : m.kind = 8
            · repeat (first | (apply G.ex (hd := rfl); case h => (first | exact Ex.move rfl | exact Ex.fieldB rfl | exact Ex.loadB rfl rfl | exact Ex.add rfl rfl (by omega) | exact Ex.eqI rfl rfl | exact Ex.assign rfl | exact Ex.pickF rfl (by first | assumption | omega) rfl)) | refine G.g_ff rfl rfl (by first | assumption | omega) ?_ | refine G.nil ?_ | refine GC.seq ?_ | refine GC.region ?_ | refine GE.then_normal ?_ | refine GC.cond_yes rfl (by first | assumption | omega) ?_)
              rw [show (fr : Int) + 1 = ((fr + 1 : Nat) : Int) by omega]
              refine GE.meet (fr + 1) (by omega) (by simp only [fits]; repeat (first | exact trivial | refine And.intro rfl ?_)) (by repeat first | exact tn_ | apply td_ rfl | apply tc_ | exact .here | apply Take1.there) (by repeat (first | exact Subs.refl | refine Subs.skip ?_))
            · repeat (first | (apply G.ex (hd := rfl); case h => (first | exact Ex.move rfl | exact Ex.fieldB rfl | exact Ex.loadB rfl rfl | exact Ex.eqI rfl rfl | exact Ex.pickF rfl (by first | assumption | omega) rfl)) | refine G.g_ff rfl rfl (by first | assumption | omega) ?_ | refine G.nil ?_ | refine GC.seq ?_ | refine GC.region ?_ | refine GC.skip ?_ | refine GE.then_normal ?_ | refine GC.cond_no rfl (by first | assumption | omega) ?_)
              refine GE.meet fr (by omega) (by simp only [fits]; repeat (first | exact trivial | refine And.intro rfl ?_)) (by repeat first | exact tn_ | apply td_ rfl | apply tc_ | exact .here | apply Take1.there) (by repeat (first | exact Subs.refl | refine Subs.skip ?_))
      · rintro f hf fr_ rs_ hfr_ hrs_
        simp only [List.cons_append, List.nil_append] at hfr_ hrs_
        subst hfr_ hrs_
        repeat (first | (apply G.ex (hd := rfl); case h => (first | exact Ex.move rfl | exact Ex.loadBA rfl rfl rfl)) | refine GC.region ?_ | refine GE.then_normal ?_)
        have hcat : flat eHo H ++ flat eHo [m] = flat eHo (H ++ [m]) := (flat_append ..).symm
        refine G.lit (cells := flat eHo [m]) rfl (by rfl) (by rfl) (by rfl) (by rfl) (by rfl) (by rfl) rfl (fun q => ?_)
        refine G.app rfl rfl (by rfl) (by omega) rfl (hcat) (fun o2 oc2 rs_ hrs_ => ?_)
        try simp only at hrs_
        subst hrs_
        refine G.conv (fun w_ H_ => Holds.rdSnoc (x := ⟨m.d.ao, m.d.n, m.d.c, m.d.l⟩) (H_.take (need := [.sl m.d.ao m.d.n m.d.c 1 (flat eB m.d.l), .per (Rd eB 1 (H.map (·.d)))]) (by repeat first | exact tn_ | apply td_ rfl | apply tc_ | exact .here | apply Take1.there))) ?_
        try simp only [List.append_eq, List.nil_append, List.cons_append]
        rw [show H.map (·.d) ++ [⟨m.d.ao, m.d.n, m.d.c, m.d.l⟩] = (H ++ [m]).map (·.d) by rw [List.map_append]; rfl]
        repeat (first | (apply G.ex (hd := rfl); case h => (first | exact Ex.move rfl | exact Ex.add rfl rfl (by omega) | exact Ex.assign rfl)) | refine G.nil ?_ | refine GC.region ?_ | refine GE.then_normal ?_ | refine GE.block_normal ?_)
        rw [show (k : Int) + 1 = ((k + 1 : Nat) : Int) by omega]
        refine GE.loop (k + 1, f, H ++ [m], o2, oc2) ⟨by simp only; omega, by simp only; omega, by simp only; omega, by simp only [List.length_append, hHl]; rfl, fun x hx => (List.mem_append.1 hx).elim (hM x) (fun h => by rw [List.mem_singleton] at h; rw [h]; exact hm)⟩ (by simp only; omega) (by simp only [fits]; repeat (first | exact trivial | refine And.intro rfl ?_)) (by repeat first | exact tn_ | apply td_ rfl | apply tc_ | exact .here | apply Take1.there) (by repeat (first | exact Subs.refl | refine Subs.skip ?_))
    · have e : k = H.length := hHl.symm
      subst e
      have g2' : ¬ (H.length : Int) < (N : Int) := by omega
      repeat (first | (apply G.ex (hd := rfl); case h => (first | exact Ex.move rfl | exact Ex.lss rfl rfl | exact Ex.lenSl rfl | exact Ex.assign rfl | exact Ex.pickT rfl (by first | assumption | omega) rfl)) | refine G.g_tt rfl rfl (by first | assumption | omega) ?_ | refine G.nil ?_ | refine GC.seq ?_ | refine GC.region ?_ | refine GC.ret ?_ | refine GC.exit ?_ | refine GE.then_normal ?_ | refine GE.then_exit ?_ | refine GE.block_hit ?_ | refine GC.cond_no rfl (by first | assumption | omega) ?_)
      refine GE.ret (by first | exact .inl rfl | exact .inr rfl) (res1 Try.results8 rfl) ⟨H, oa, oc, hkN, hM, rfl, rfl⟩ (by repeat first | exact tn_ | apply td_ rfl | apply tc_ | exact .here | apply Take1.there) (by repeat (first | exact Subs.refl | refine Subs.skip ?_))
  · have e : k = H.length := hHl.symm
    subst e
    have g1' : ¬ (H.length : Int) < (n : Int) := by omega
    repeat (first | (apply G.ex (hd := rfl); case h => (first | exact Ex.move rfl | exact Ex.lss rfl rfl | exact Ex.lenSl rfl | exact Ex.assign rfl | exact Ex.pickF rfl (by first | assumption | omega) rfl)) | refine G.g_tf rfl rfl (by first | assumption | omega) rfl ?_ | refine G.nil ?_ | refine GC.seq ?_ | refine GC.region ?_ | refine GC.ret ?_ | refine GC.exit ?_ | refine GE.then_normal ?_ | refine GE.then_exit ?_ | refine GE.block_hit ?_ | refine GC.cond_f rfl ?_)
    refine GE.ret (by first | exact .inl rfl | exact .inr rfl) (res1 Try.results8 rfl) ⟨H, oa, oc, hkN, hM, rfl, rfl⟩ (by repeat first | exact tn_ | apply td_ rfl | apply tc_ | exact .here | apply Take1.there) (by repeat (first | exact Subs.refl | refine Subs.skip ?_))
theorem lineOf_sp (a b : Int) : Spec Try.prog 10 [.int .i64 a, .int .i64 b] [] fun v give => v = .agg #[.int .i64 (a % 65536), .int .i64 (1 + b % 300)] ∧ give = [] := by
  have h1 := Int.emod_nonneg b (show (300 : Int) ≠ 0 by omega)
  have h2 := Int.emod_lt_of_pos b (show (0 : Int) < 300 by omega)
  refine Spec.intro Try.func10 rfl Try.ntmps10 rfl fun w0 rest rs_ hrs_ => ?_
  simp only [List.cons_append, List.nil_append] at hrs_
  subst hrs_
  repeat (first | refine GC.seq ?_ | refine GC.region ?_)
  refine G.alloc rfl (fun rb => ?_)
  repeat (first | (apply G.ex (hd := rfl); case h => (first | exact Ex.move rfl)) | refine G.nil ?_ | refine GC.seq ?_ | refine GC.region ?_ | refine GE.then_normal ?_)
  first | refine G.call (caps := []) (picked_sp a 65536 (by omega) (by omega)) rfl rfl rfl rfl (by repeat first | exact tn_ | apply td_ rfl | apply tc_ | exact .here | apply Take1.there) ?_ | refine G.callU (caps := []) (picked_sp a 65536 (by omega) (by omega)) rfl rfl rfl (by repeat first | exact tn_ | apply td_ rfl | apply tc_ | exact .here | apply Take1.there) ?_
  rintro v_ give_ ⟨rfl, rfl⟩ rs_ hrs_
  simp only [List.cons_append, List.nil_append] at hrs_
  subst hrs_
  repeat (first | (apply G.ex (hd := rfl); case h => (first | exact Ex.move rfl)))
  first | refine G.call (caps := []) (picked_sp b 300 (by omega) (by omega)) rfl rfl rfl rfl (by repeat first | exact tn_ | apply td_ rfl | apply tc_ | exact .here | apply Take1.there) ?_ | refine G.callU (caps := []) (picked_sp b 300 (by omega) (by omega)) rfl rfl rfl (by repeat first | exact tn_ | apply td_ rfl | apply tc_ | exact .here | apply Take1.there) ?_
  rintro v_ give_ ⟨rfl, rfl⟩ rs_ hrs_
  simp only [List.cons_append, List.nil_append] at hrs_
  subst hrs_
  repeat (first | refine G.storeBA rfl rfl rfl rfl rfl ?_ | (apply G.ex (hd := rfl); case h => (first | exact Ex.add rfl rfl (by omega) | exact Ex.build rfl rfl)) | refine G.nil ?_ | refine GC.ret ?_ | refine GE.then_normal ?_)
  refine GE.ret (by first | exact .inl rfl | exact .inr rfl) (resR1 Try.results10 (by first | exact RV.cell rfl (eP_len _) | exact RV.cell rfl rfl | exact RV.cell1 rfl)) ⟨rfl, rfl⟩ (by repeat first | exact tn_ | apply td_ rfl | apply tc_ | exact .here | apply Take1.there) (by repeat (first | exact Subs.refl | refine Subs.skip ?_))
end pipe
end Go.Proofs.Ytcllddkhnbnigaa
