/-
  CONTRACTS of package pipe: no, mark, place, put, taken, by the kit.
-/
import Derived.Test.YtcllddkhnbnigaaPlainM
import Derived.Test.YtcllddkhnbnigaaRecvN
import Derived.Test.YtcllddkhnbnigaaSendE
import Derived.Test.YtcllddkhnbnigaaSeg3
import Derived.Test.YtcllddkhnbnigaaNear
import Derived.Test.YtcllddkhnbnigaaKitM2
namespace Go.Proofs.Ytcllddkhnbnigaa
open Go.RowKit
attribute [local irreducible] Ex G GC GE Gq FPost LPost
set_option linter.unusedVariables false
set_option linter.unusedSimpArgs false
namespace pipe
open hole
/-- what a hop came to, as it lies in memory -/
structure PaM where
  p : Pa
  xo : Option Addr
  xc : Nat
instance : Inhabited PaM := ⟨⟨default, none, 0⟩⟩
def ePa (m : PaM) : List Value := [.int .i64 m.p.code, .bool m.p.put, .int .i64 m.p.id, .slice m.xo m.p.data.length m.xc, .bool m.p.fin, .int .i64 m.p.left]
instance : Enc ePa 6 := ⟨fun _ => rfl, fun x u hu => by simp [ePa] at hu; rcases hu with rfl | rfl | rfl | rfl | rfl | rfl <;> rfl⟩
/-- a frame as it lies in memory -/
structure FrM where
  f : Fr
  ao : Option Addr
  c : Nat
instance : Inhabited FrM := ⟨⟨default, none, 0⟩⟩
def eFr (m : FrM) : List Value := [.slice m.ao m.f.bytes.length m.c, .bool m.f.back, .bool m.f.hit]
instance : Enc eFr 3 := ⟨fun _ => rfl, fun x u hu => by simp [eFr] at hu; rcases hu with rfl | rfl | rfl <;> rfl⟩
def rFr (m : FrM) : Res := .vec 5 1 m.ao m.f.bytes.length m.c (flat eB m.f.bytes)
theorem no_sp (e : Int) : Spec Try.prog 24 [.int .i64 e] [] fun v give => v = .agg (ePa ⟨no e, none, 0⟩).toArray ∧ give = [] := by
  refine Spec.intro Try.func24 rfl Try.ntmps24 rfl fun w0 rest rs_ hrs_ => ?_
  simp only [List.cons_append, List.nil_append] at hrs_
  subst hrs_
  repeat (first | refine GC.seq ?_ | refine GC.region ?_)
  refine G.alloc rfl (fun b => ?_)
  repeat (first | refine G.storeBA rfl rfl rfl rfl rfl ?_ | (apply G.ex (hd := rfl); case h => (first | exact Ex.move rfl | exact Ex.build rfl rfl)) | refine G.nil ?_ | refine GC.seq ?_ | refine GC.region ?_ | refine GC.ret ?_ | refine GE.then_normal ?_)
  refine GE.ret (by first | exact .inl rfl | exact .inr rfl) (resR1 Try.results24 (by first | exact RV.cell rfl (eP_len _) | exact RV.cell rfl rfl | exact RV.cell1 rfl)) ⟨rfl, rfl⟩ (by repeat first | exact tn_ | apply td_ rfl | apply tc_ | exact .here | apply Take1.there) (by repeat (first | exact Subs.refl | refine Subs.skip ?_))
theorem near_sp (s p : Int) (hs : 0 ≤ s ∧ s < 65536) (hp : 0 ≤ p ∧ p ≤ 1048576) : Spec Try.prog 56 [.int .i64 s, .int .i64 p] [] fun v give => v = .tuple #[.int .i64 (near s p), .int .i64 0] ∧ give = [] := by
  have e : near s p = serial.near s p := by unfold near serial.near serial.far; split <;> rfl
  rw [e]
  exact Spec.kept fun w0 rest w H => serial.near_any s p w hs hp
theorem mark_sp (wb : Nat) (first : Int) (hf : 0 ≤ first ∧ first < 65536) (x y z : Value) (p : Int) (hp : 0 ≤ p ∧ p ≤ 2000000) :
    Spec Try.prog 36 [.pointer (some (badr wb 0)), .int .i64 p] [.blk wb 60 [.int .i64 first, x, y, z]] fun v give => v = .int .i64 (mk first p) ∧ give = [.blk wb 60 [.int .i64 first, x, y, z]] := by
  refine Spec.intro Try.func36 rfl Try.ntmps36 rfl fun w0 rest rs_ hrs_ => ?_
  simp only [List.cons_append, List.nil_append] at hrs_
  subst hrs_
  repeat (first | (apply G.ex (hd := rfl); case h => (first | exact Ex.move rfl | exact Ex.nilCheck rfl | exact Ex.fieldB rfl | exact Ex.loadB rfl rfl | exact Ex.add rfl rfl (by omega) | exact Ex.assign rfl | exact Ex.rem rfl rfl (by omega))) | refine G.nil ?_ | refine GC.seq ?_ | refine GC.region ?_ | refine GC.ret ?_ | refine GE.then_normal ?_)
  refine GE.ret (by first | exact .inl rfl | exact .inr rfl) (res1 Try.results36 rfl) ⟨rfl, rfl⟩ (by repeat first | exact tn_ | apply td_ rfl | apply tc_ | exact .here | apply Take1.there) (by repeat (first | exact Subs.refl | refine Subs.skip ?_))
theorem place_sp (wb : Nat) (first : Int) (hf : 0 ≤ first ∧ first < 65536) (x y z : Value) (s p : Int) (hs : 0 ≤ s ∧ s < 65536) (hp : 0 ≤ p ∧ p ≤ 1048576) :
    Spec Try.prog 38 [.pointer (some (badr wb 0)), .int .i64 s, .int .i64 p] [.blk wb 60 [.int .i64 first, x, y, z]] fun v give => v = .tuple #[.int .i64 (pl first s p), .bool (decide (0 ≤ pl first s p))] ∧ give = [.blk wb 60 [.int .i64 first, x, y, z]] := by
  refine Spec.intro Try.func38 rfl Try.ntmps38 rfl fun w0 rest rs_ hrs_ => ?_
  simp only [List.cons_append, List.nil_append] at hrs_
  subst hrs_
  repeat (first | (apply G.ex (hd := rfl); case h => (first | exact Ex.move rfl | exact Ex.nilCheck rfl | exact Ex.fieldB rfl | exact Ex.loadB rfl rfl | exact Ex.add rfl rfl (by omega) | exact Ex.sub rfl rfl (by omega) | exact Ex.assign rfl | exact Ex.rem rfl rfl (by omega))) | refine G.nil ?_ | refine GC.seq ?_ | refine GC.region ?_ | refine GE.then_normal ?_)
  first | refine G.call (caps := []) (near_sp ((s - first + 65536) % 65536) p (by omega) hp) rfl rfl rfl rfl (by repeat first | exact tn_ | apply td_ rfl | apply tc_ | exact .here | apply Take1.there) ?_ | refine G.callU (caps := []) (near_sp ((s - first + 65536) % 65536) p (by omega) hp) rfl rfl rfl (by repeat first | exact tn_ | apply td_ rfl | apply tc_ | exact .here | apply Take1.there) ?_
  rintro v_ give_ ⟨rfl, rfl⟩ rs_ hrs_
  simp only [List.cons_append, List.nil_append] at hrs_
  subst hrs_
  repeat (first | (apply G.ex (hd := rfl); case h => (first | exact Ex.move rfl | exact Ex.geq rfl rfl | exact Ex.extract rfl rfl | exact Ex.assign rfl)) | refine G.nil ?_ | refine GC.seq ?_ | refine GC.region ?_ | refine GC.ret ?_ | refine GE.then_normal ?_)
  refine GE.ret (by first | exact .inl rfl | exact .inr rfl) (res2 Try.results38 rfl rfl) ⟨rfl, rfl⟩ (by repeat first | exact tn_ | apply td_ rfl | apply tc_ | exact .here | apply Take1.there) (by repeat (first | exact Subs.refl | refine Subs.skip ?_))
theorem decode_any (r : Res) (ao : Option Addr) (n c : Nat) (l : List UInt8) [hr : RdR r ao n c 1 (flat eB l)] (hl : l.length = n) (hn : n ≤ 140737488351232) (e : Int) (s : seg.Sg) (hdec : seg.dec l = (e, s)) :
    Spec Try.prog 55 [.slice ao n c] [r] fun v give => ∃ ra rc da dc, v = .tuple #[.agg (seg.eSg s ra rc da dc).toArray, .int .i64 e] ∧ give = [.vec 102 2 ra s.sk.length rc (flat eR s.sk), .vec 5 1 da s.d.length dc (flat eB s.d), r] := by
  refine Spec.lendSl (by decide) (seg.decode_sp ao n c l hl hn e s hdec) ?_
  rintro v give ⟨ra, rc, da, dc, rfl, rfl⟩
  exact ⟨[.vec 102 2 ra s.sk.length rc (flat eR s.sk), .vec 5 1 da s.d.length dc (flat eB s.d)], _, fun r hr => by
    rcases List.mem_cons.1 hr with rfl | hr
    · exact OwnR.vec
    · rw [List.mem_singleton] at hr; subst hr; exact OwnR.vec, rfl, ra, rc, da, dc, rfl, rfl⟩
theorem Holds.starSnoc {w0 w : World} {rs : List Res} {FM : List FrM} {m : FrM} (H : Holds w0 w (rFr m :: .own (Star (FM.map rFr)) :: rs)) : Holds w0 w (.own (Star ((FM ++ [m]).map rFr)) :: rs) := by
  refine Holds.starPerm ?_ (Holds.starIn H)
  rw [List.map_append]
  exact (List.perm_append_comm (l₁ := [rFr m]))
set_option maxHeartbeats 1000000 in
theorem put_sp (wb : Nat) (first : Value) (x y : Value) (fo : Option Addr) (fc : Nat) (FM : List FrM) (hF : FM.length ≤ 1000) (s : seg.Sg) (h : seg.Rng s) (h0 : seg.flt s = 0) (back : Bool) (r rd : Res) (ra : Option Addr) (rc : Nat) (da : Option Addr) (dc : Nat) [hr : RdR r ra s.sk.length rc 2 (flat eR s.sk)] [hd : RdR rd da s.d.length dc 1 (flat eB s.d)] :
    Spec Try.prog 35 [.pointer (some (badr wb 0)), .agg (seg.eSg s ra rc da dc).toArray, .bool back] [.blk wb 60 [first, x, y, .slice fo FM.length fc], .vec 92 3 fo FM.length fc (flat eFr FM), .own (Star (FM.map rFr)), r, rd]
      fun v give => ∃ (m : FrM) (fo' : Option Addr) (fc' : Nat), m.f = ⟨seg.enc s, back, false⟩ ∧ v = .int .i64 (FM.length : Int) ∧ give = [.blk wb 60 [first, x, y, .slice fo' (FM ++ [m]).length fc'], .vec 92 3 fo' (FM ++ [m]).length fc' (flat eFr (FM ++ [m])), .own (Star ((FM ++ [m]).map rFr)), r, rd] := by
  have hel := seg.enc_len s
  obtain ⟨h3, h64⟩ := seg.flt_len h0
  refine Spec.intro Try.func35 rfl Try.ntmps35 rfl fun w0 rest rs_ hrs_ => ?_
  simp only [List.cons_append, List.nil_append] at hrs_
  subst hrs_
  repeat (first | refine GC.seq ?_ | refine GC.region ?_)
  refine G.box rfl rfl rfl (fun sb => ?_)
  rw [show (Value.agg (seg.eSg s ra rc da dc).toArray).cells.toList = seg.eSg s ra rc da dc from rfl]
  repeat (first | (apply G.ex (hd := rfl); case h => (first | exact Ex.assign rfl | exact Ex.loadBA rfl rfl rfl)) | refine G.nil ?_ | refine GC.seq ?_ | refine GC.region ?_ | refine GE.then_normal ?_)
  rw [show List.take 9 (List.drop 0 (seg.eSg s ra rc da dc)) = seg.eSg s ra rc da dc from rfl]
  first | refine G.call (caps := []) (seg.encode_sp s h h0 r rd ra rc da dc) rfl rfl rfl rfl (by repeat first | exact tn_ | apply td_ rfl | apply tc_ | exact .here | apply Take1.there) ?_ | refine G.callU (caps := []) (seg.encode_sp s h h0 r rd ra rc da dc) rfl rfl rfl (by repeat first | exact tn_ | apply td_ rfl | apply tc_ | exact .here | apply Take1.there) ?_
  rintro v_ give_ ⟨ea, ec, rfl, rfl⟩ rs_ hrs_
  simp only [List.cons_append, List.nil_append] at hrs_
  subst hrs_
  rw [← hel]
  have hcat : flat eFr FM ++ flat eFr [(⟨⟨seg.enc s, back, false⟩, ea, ec⟩ : FrM)] = flat eFr (FM ++ [⟨⟨seg.enc s, back, false⟩, ea, ec⟩]) := (flat_append ..).symm
  have hlen : (FM ++ [(⟨⟨seg.enc s, back, false⟩, ea, ec⟩ : FrM)]).length = FM.length + 1 := by simp
  repeat (first | (apply G.ex (hd := rfl); case h => (first | exact Ex.move rfl | exact Ex.nilCheck rfl | exact Ex.fieldB rfl | exact Ex.loadB rfl rfl | exact Ex.extract rfl rfl | exact Ex.assign rfl | exact Ex.build rfl rfl)) | refine G.nil ?_ | refine GC.seq ?_ | refine GC.region ?_ | refine GE.then_normal ?_)
  refine G.lit rfl (by rfl) (by rfl) (by rfl) (by rfl) (by rfl) (by rfl) rfl (fun y1 => ?_)
  repeat (first | fail)
  refine G.app rfl rfl (by rfl) (by omega) rfl (hcat) (fun a2 c2 rs_ hrs_ => ?_)
  try simp only at hrs_
  subst hrs_
  repeat (first | refine G.storeB rfl rfl rfl rfl rfl ?_ | (apply G.ex (hd := rfl); case h => (first | exact Ex.move rfl | exact Ex.nilCheck rfl | exact Ex.fieldB rfl | exact Ex.loadB rfl rfl | exact Ex.sub rfl rfl (by omega) | exact Ex.lenSl rfl | exact Ex.assign rfl)) | refine G.nil ?_ | refine GC.seq ?_ | refine GC.region ?_ | refine GC.ret ?_ | refine GE.then_normal ?_)
  rw [show ((FM.length + 1 : Nat) : Int) - 1 = (FM.length : Int) by omega]
  refine GE.conv (fun w_ H_ => Holds.starSnoc (m := ⟨⟨seg.enc s, back, false⟩, ea, ec⟩) (H_.take (need := [.vec 5 1 ea (seg.enc s).length ec (flat eB (seg.enc s)), .own (Star (FM.map rFr))]) (by repeat first | exact tn_ | apply td_ rfl | apply tc_ | exact .here | apply Take1.there))) ?_
  try simp only [List.append_eq, List.nil_append, List.cons_append]
  rw [← hlen]
  refine GE.ret (by first | exact .inl rfl | exact .inr rfl) (res1 Try.results35 rfl) ⟨⟨⟨seg.enc s, back, false⟩, ea, ec⟩, a2, c2, rfl, rfl, rfl⟩ (by repeat first | exact tn_ | apply td_ rfl | apply tc_ | exact .here | apply Take1.there) (by repeat (first | exact Subs.refl | refine Subs.skip ?_))
/-- a frame's segment -/
def takenL (fs : List Fr) (id : Int) (back : Bool) : Int × seg.Sg :=
  if id < 0 ∨ (fs.length : Int) ≤ id ∨ ¬ (fs.getD id.toNat default).back = back then (7, default) else seg.dec (fs.getD id.toNat default).bytes
theorem getD_fr (FM : List FrM) (i : Nat) (h : i < FM.length) : (FM.map (·.f)).getD i default = (FM.getD i default).f := by
  rw [List.getD_eq_getElem?_getD, List.getD_eq_getElem?_getD, List.getElem?_map, List.getElem?_eq_getElem h]; rfl
theorem dec_at (FM : List FrM) (i : Nat) (h : i < FM.length) (hb : (FM.getD i default).f.bytes.length ≤ 1000) (e : Int) (s : seg.Sg) (hdec : seg.dec (FM.getD i default).f.bytes = (e, s)) :
    Spec Try.prog 55 [.slice (FM.getD i default).ao (FM.getD i default).f.bytes.length (FM.getD i default).c] [.own (Star (FM.map rFr))] fun v give => ∃ ra rc da dc, v = .tuple #[.agg (seg.eSg s ra rc da dc).toArray, .int .i64 e] ∧ give = [.own (Star (FM.map rFr)), .vec 102 2 ra s.sk.length rc (flat eR s.sk), .vec 5 1 da s.d.length dc (flat eB s.d)] := by
  have hi : (FM.map rFr)[i]? = some (rFr (FM.getD i default)) := by
    rw [List.getElem?_map, List.getD_eq_getElem?_getD, List.getElem?_eq_getElem h]; rfl
  have hd := decode_any (rFr (FM.getD i default)) _ _ _ _ (hr := RdR.vec) rfl (by omega) e s hdec
  refine Spec.star hi (hd.turn (post' := fun v g => ∃ ra rc da dc, v = .tuple #[.agg (seg.eSg s ra rc da dc).toArray, .int .i64 e] ∧ g = [rFr (FM.getD i default), .vec 102 2 ra s.sk.length rc (flat eR s.sk), .vec 5 1 da s.d.length dc (flat eB s.d)]) ?_) ?_
  · rintro v g ⟨ra, rc, da, dc, rfl, rfl⟩
    exact ⟨_, ⟨ra, rc, da, dc, rfl, rfl⟩, (List.perm_append_comm (l₁ := [_, _]) (l₂ := [_]))⟩
  · rintro v g ⟨ra, rc, da, dc, rfl, rfl⟩
    refine ⟨_, _, rfl, ra, rc, da, dc, rfl, ?_⟩
    rw [show (FM.map rFr).set i (rFr (FM.getD i default)) = FM.map rFr from ?_]
    obtain ⟨h1, h2⟩ := List.getElem?_eq_some_iff.1 hi
    rw [← h2]; exact List.set_getElem_self h1
set_option maxHeartbeats 2000000 in
theorem taken_sp (wb : Nat) (first : Value) (x y : Value) (fo : Option Addr) (fc : Nat) (FM : List FrM) (hF : FM.length ≤ 1000) (hB : ∀ m ∈ FM, m.f.bytes.length ≤ 1000) (id : Int) (back : Bool) (e : Int) (s : seg.Sg) (ht : takenL (FM.map (·.f)) id back = (e, s)) :
    Spec Try.prog 37 [.pointer (some (badr wb 0)), .int .i64 id, .bool back] [.blk wb 60 [first, x, y, .slice fo FM.length fc], .vec 92 3 fo FM.length fc (flat eFr FM), .own (Star (FM.map rFr))]
      fun v give => ∃ ra rc da dc, v = .tuple #[.agg (seg.eSg s ra rc da dc).toArray, .int .i64 e] ∧ give = [.blk wb 60 [first, x, y, .slice fo FM.length fc], .vec 92 3 fo FM.length fc (flat eFr FM), .own (Star (FM.map rFr)), .vec 102 2 ra s.sk.length rc (flat eR s.sk), .vec 5 1 da s.d.length dc (flat eB s.d)] := by
  unfold takenL at ht
  rw [List.length_map] at ht
  refine Spec.intro Try.func37 rfl Try.ntmps37 rfl fun w0 rest rs_ hrs_ => ?_
  simp only [List.cons_append, List.nil_append] at hrs_
  subst hrs_
  repeat (first | refine GC.seq ?_ | refine GC.region ?_)
  refine G.alloc rfl (fun b6 => ?_)
  by_cases c1 : id < 0
  · rw [if_pos (.inl c1)] at ht
    obtain ⟨rfl, rfl⟩ := Prod.mk.inj ht
    repeat (first | refine G.storeBA rfl rfl rfl rfl rfl ?_ | (apply G.ex (hd := rfl); case h => (first | exact Ex.move rfl | exact Ex.lss rfl rfl | exact Ex.assign rfl | exact Ex.pickT rfl (by first | assumption | omega) rfl | exact Ex.build rfl rfl | exact Ex.pickLT rfl rfl)) | refine G.g_ft rfl rfl (by first | assumption | omega) rfl ?_ | refine G.l_ft rfl rfl rfl ?_ | refine G.nil ?_ | refine GC.seq ?_ | refine GC.region ?_ | refine GC.ret ?_ | refine GE.then_normal ?_ | refine GE.then_ret ?_ | refine GC.cond_t rfl ?_)
    refine GE.nilvec 102 2 ?_
    refine GE.nilvec 5 1 ?_
    refine GE.ret (by first | exact .inl rfl | exact .inr rfl) (resR2 Try.results37 (by first | exact RV.cell rfl (eP_len _) | exact RV.cell rfl rfl | exact RV.cell1 rfl) (RV.tmp rfl)) ⟨none, 0, none, 0, rfl, rfl⟩ (by repeat first | exact tn_ | apply td_ rfl | apply tc_ | exact .here | apply Take1.there) (by repeat (first | exact Subs.refl | refine Subs.skip ?_))
  · obtain ⟨i, rfl⟩ : ∃ i : Nat, id = (i : Int) := ⟨id.toNat, by omega⟩
    by_cases c2 : FM.length ≤ i
    · rw [if_pos (.inr (.inl (by omega)))] at ht
      obtain ⟨rfl, rfl⟩ := Prod.mk.inj ht
      repeat (first | refine G.storeBA rfl rfl rfl rfl rfl ?_ | (apply G.ex (hd := rfl); case h => (first | exact Ex.move rfl | exact Ex.nilCheck rfl | exact Ex.fieldB rfl | exact Ex.loadB rfl rfl | exact Ex.lss rfl rfl | exact Ex.geq rfl rfl | exact Ex.lenSl rfl | exact Ex.assign rfl | exact Ex.pickT rfl (by first | assumption | omega) rfl | exact Ex.pickF rfl (by first | assumption | omega) rfl | exact Ex.build rfl rfl)) | refine G.g_ft rfl rfl (by first | assumption | omega) rfl ?_ | refine G.g_ff rfl rfl (by first | assumption | omega) ?_ | refine G.nil ?_ | refine GC.seq ?_ | refine GC.region ?_ | refine GC.ret ?_ | refine GE.then_normal ?_ | refine GE.then_ret ?_ | refine GC.cond_t rfl ?_)
      refine GE.nilvec 102 2 ?_
      refine GE.nilvec 5 1 ?_
      refine GE.ret (by first | exact .inl rfl | exact .inr rfl) (resR2 Try.results37 (by first | exact RV.cell rfl (eP_len _) | exact RV.cell rfl rfl | exact RV.cell1 rfl) (RV.tmp rfl)) ⟨none, 0, none, 0, rfl, rfl⟩ (by repeat first | exact tn_ | apply td_ rfl | apply tc_ | exact .here | apply Take1.there) (by repeat (first | exact Subs.refl | refine Subs.skip ?_))
    · have hi : i < FM.length := by omega
      have hmem : (FM.getD i default) ∈ FM := by rw [List.getD_eq_getElem?_getD, List.getElem?_eq_getElem hi]; exact List.getElem_mem hi
      rw [show ((i : Int)).toNat = i by omega, getD_fr FM i hi] at ht
      by_cases c3 : (FM.getD i default).f.back = back
      · have c3' : ¬ ¬ (FM.getD i default).f.back = back := fun h => h c3
        rw [if_neg (fun h => h.elim (fun h => by omega) (fun h => h.elim (fun h => by omega) c3'))] at ht
        repeat (first | (apply G.ex (hd := rfl); case h => (first | exact Ex.move rfl | exact Ex.nilCheck rfl | exact Ex.fieldE rfl | exact Ex.fieldB rfl | exact Ex.loadB rfl rfl | exact Ex.lss rfl rfl | exact Ex.geq rfl rfl | exact Ex.lenSl rfl | exact Ex.indexN rfl rfl (by first | omega | (simp; done) | (simp; omega)) | exact Ex.loadT0 rfl (by first | omega | (simp; done) | (simp; omega)) rfl | exact Ex.loadT rfl (by first | omega | (simp; done) | (simp; omega)) rfl | exact Ex.assign rfl | exact Ex.neB rfl rfl | exact Ex.pickF rfl (by first | assumption | omega) rfl)) | refine G.g_ff rfl rfl (by first | assumption | omega) ?_ | refine G.nil ?_ | refine GC.seq ?_ | refine GC.region ?_ | refine GC.skip ?_ | refine GE.then_normal ?_ | refine GC.cond_no rfl (by first | assumption | omega) ?_)
        first | refine G.call (caps := []) (dec_at FM i hi (hB _ hmem) e s ht) rfl rfl rfl rfl (by repeat first | exact tn_ | apply td_ rfl | apply tc_ | exact .here | apply Take1.there) ?_ | refine G.callU (caps := []) (dec_at FM i hi (hB _ hmem) e s ht) rfl rfl rfl (by repeat first | exact tn_ | apply td_ rfl | apply tc_ | exact .here | apply Take1.there) ?_
        rintro v_ give_ ⟨ra, rc, da, dc, rfl, rfl⟩ rs_ hrs_
        simp only [List.cons_append, List.nil_append] at hrs_
        subst hrs_
        repeat (first | refine G.storeBA rfl rfl rfl rfl rfl ?_ | (apply G.ex (hd := rfl); case h => (first | exact Ex.extract rfl rfl | exact Ex.assign rfl)) | refine G.nil ?_ | refine GC.ret ?_ | refine GE.then_normal ?_)
        refine GE.ret (by first | exact .inl rfl | exact .inr rfl) (resR2 Try.results37 (by first | exact RV.cell rfl (eP_len _) | exact RV.cell rfl rfl | exact RV.cell1 rfl) (RV.tmp rfl)) ⟨ra, rc, da, dc, rfl, rfl⟩ (by repeat first | exact tn_ | apply td_ rfl | apply tc_ | exact .here | apply Take1.there) (by repeat (first | exact Subs.refl | refine Subs.skip ?_))
      · rw [if_pos (.inr (.inr c3))] at ht
        obtain ⟨rfl, rfl⟩ := Prod.mk.inj ht
        repeat (first | refine G.storeBA rfl rfl rfl rfl rfl ?_ | (apply G.ex (hd := rfl); case h => (first | exact Ex.move rfl | exact Ex.nilCheck rfl | exact Ex.fieldE rfl | exact Ex.fieldB rfl | exact Ex.loadB rfl rfl | exact Ex.lss rfl rfl | exact Ex.geq rfl rfl | exact Ex.lenSl rfl | exact Ex.indexN rfl rfl (by first | omega | (simp; done) | (simp; omega)) | exact Ex.loadT rfl (by first | omega | (simp; done) | (simp; omega)) rfl | exact Ex.assign rfl | exact Ex.neB rfl rfl | exact Ex.pickF rfl (by first | assumption | omega) rfl | exact Ex.build rfl rfl)) | refine G.g_ff rfl rfl (by first | assumption | omega) ?_ | refine G.nil ?_ | refine GC.seq ?_ | refine GC.region ?_ | refine GC.ret ?_ | refine GE.then_normal ?_ | refine GE.then_ret ?_ | refine GC.cond_yes rfl (by first | assumption | omega) ?_)
        refine GE.nilvec 102 2 ?_
        refine GE.nilvec 5 1 ?_
        refine GE.ret (by first | exact .inl rfl | exact .inr rfl) (resR2 Try.results37 (by first | exact RV.cell rfl (eP_len _) | exact RV.cell rfl rfl | exact RV.cell1 rfl) (RV.tmp rfl)) ⟨none, 0, none, 0, rfl, rfl⟩ (by repeat first | exact tn_ | apply td_ rfl | apply tc_ | exact .here | apply Take1.there) (by repeat (first | exact Subs.refl | refine Subs.skip ?_))
end pipe
end Go.Proofs.Ytcllddkhnbnigaa
