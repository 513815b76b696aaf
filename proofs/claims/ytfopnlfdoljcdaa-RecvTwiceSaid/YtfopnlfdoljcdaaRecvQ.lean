/-
  WHO HEARS A STREAM, IN PLAIN LEAN: what is known is the stream's; what is told. No condition.
-/
import Derived.Test.YtfopnlfdoljcdaaRecvH
namespace Go.Proofs.Ytfopnlfdoljcdaa
set_option linter.unusedVariables false
set_option linter.unusedSimpArgs false

namespace recv
open hole
def ackOf (h : He) : Int := if h.done = h.end_ then h.done + 1 else h.done
/-- who hears has what the stream s has, as far as it knows -/
structure Tru (s : List UInt8) (cl : Bool) (h : He) : Prop where
  ok : HOk h
  hi : last h.done h.more ≤ s.length
  eq : ∀ p : Nat, knows h.done h.more (p : Int) → h.data.getD p default = s.getD p default
  en : h.end_ = -1 ∨ (cl = true ∧ h.end_ = s.length)
/-- an arrival of the stream -/
def OfS (s : List UInt8) (cl : Bool) : Ar → Prop
  | .arr f b fin => ∃ F E : Nat, f = (F : Int) ∧ F ≤ E ∧ E ≤ s.length ∧ E - F ≤ 64 ∧ b = (s.drop F).take (E - F) ∧ (fin = true → cl = true ∧ E = s.length)
  | .take n => 0 ≤ n ∧ n ≤ 4096
theorem arOf_ofS (s : List UInt8) (cl : Bool) (z : Int) : OfS s cl (arOf s cl z) := by
  unfold arOf
  by_cases h5 : z % 5 = 0
  · rw [if_pos h5]
    exact ⟨by omega, by omega⟩
  · rw [if_neg h5]
    have hf1 := Int.emod_nonneg (z.tdiv 5) (show (s.length : Int) + 1 ≠ 0 by omega)
    have hf2 := Int.emod_lt_of_pos (z.tdiv 5) (show (0 : Int) < (s.length : Int) + 1 by omega)
    have hg1 := Int.emod_nonneg (z.tdiv 1000) (show (64 : Int) ≠ 0 by omega)
    have hg2 := Int.emod_lt_of_pos (z.tdiv 1000) (show (0 : Int) < 64 by omega)
    generalize z.tdiv 5 % ((s.length : Int) + 1) = f at *
    generalize z.tdiv 1000 % 64 = g at *
    refine ⟨f.toNat, (min (s.length : Int) (f + 1 + g)).toNat, by omega, by omega, by omega, by omega, rfl, fun h => ?_⟩
    simp only [Bool.and_eq_true, decide_eq_true_eq] at h
    exact ⟨h.1, by omega⟩
theorem OfS.len {s : List UInt8} {F E : Nat} (h : E ≤ s.length) : ((s.drop F).take (E - F)).length = E - F := by
  rw [List.length_take, List.length_drop]; omega
theorem Tru.aok {s : List UInt8} {cl : Bool} {h : He} (k : Tru s cl h) (hs : s.length ≤ 10000) {a : Ar} (ha : OfS s cl a) : AOk h a := by
  cases a with
  | take n => exact ha
  | arr f b fin =>
    obtain ⟨F, E, rfl, h1, h2, h3, rfl, h4⟩ := ha
    have hl := OfS.len (F := F) h2
    have hi := k.hi
    refine ⟨by omega, by rw [hl]; omega, by rw [hl]; omega, ?_, ?_⟩
    · rintro ⟨g1, g2⟩
      rcases k.en with g | ⟨_, g⟩
      · omega
      · rw [hl, g] at g2
        rcases g2 with g2 | ⟨g2, g3⟩
        · omega
        · have := (h4 g2).2; omega
    · rintro ⟨g1, g2⟩
      have := (h4 g1).2
      rw [hl] at g2; omega
theorem getD_cut (s : List UInt8) (a n i : Nat) (h : i < n) : ((s.drop a).take n).getD i default = s.getD (a + i) default := by
  rw [List.getD_eq_getElem?_getD, List.getElem?_take_of_lt h, List.getElem?_drop, ← List.getD_eq_getElem?_getD]
theorem keep_eq {s : List UInt8} {h : He} (hk : HOk h) (heq : ∀ p : Nat, knows h.done h.more (p : Int) → h.data.getD p default = s.getD p default) {F E : Nat} (hE : E ≤ s.length) (hFE : F ≤ E)
    {fr up : Nat} (h1 : (fr : Int) = max (F : Int) h.done) (h2 : up ≤ E) (hlt : fr < up) (p : Nat) (hp : knows h.done h.more (p : Int) ∨ (fr ≤ p ∧ p < up)) :
    (keepF h.data h.more fr ((((s.drop F).take (E - F)).drop (fr - F)).take (up - fr))).getD p default = s.getD p default := by
  have hd := hk.dat
  have hpl : ((((s.drop F).take (E - F)).drop (fr - F)).take (up - fr)).length = up - fr := by
    simp only [List.length_take, List.length_drop]; omega
  have hdl : ∀ q : Nat, knows h.done h.more (q : Int) → q < h.data.length := by
    intro q hq
    have hle := hk.dle
    rcases hq with hq | hq
    · omega
    · have := (inn_lt hk.may.ch hq).2; omega
  have hcase : p < h.data.length ∨ fr ≤ p := hp.elim (fun q => .inl (hdl p q)) (fun q => .inr q.1)
  rw [keepF_at _ _ _ _ p hcase, hpl]
  by_cases hin : fr ≤ p ∧ p < fr + (up - fr) ∧ innB h.more (p : Int) = false
  · rw [if_pos hin, getD_cut _ _ _ _ (by omega), getD_cut _ _ _ _ (by omega)]
    congr 1; omega
  · rw [if_neg hin]
    have hkn : knows h.done h.more (p : Int) := by
      rcases hp with q | ⟨q1, q2⟩
      · exact q
      · right
        rw [← innB_iff]
        cases e : innB h.more (p : Int) with
        | true => rfl
        | false => exact absurd ⟨q1, by omega, e⟩ hin
    rw [ext_at _ _ _ (hdl p hkn)]
    exact heq p hkn
theorem Tru.arr {s : List UInt8} {cl : Bool} {h : He} (k : Tru s cl h) (hs : s.length ≤ 10000) {f : Int} {b : List UInt8} {fin : Bool} (ha : OfS s cl (.arr f b fin)) : Tru s cl (arrF h f b fin).2 ∧ h.done ≤ (arrF h f b fin).2.done ∧ (arrF h f b fin).2.taken = h.taken ∧ (arrF h f b fin).2.room = h.room ∧ (h.end_ = s.length → (arrF h f b fin).2.end_ = s.length) ∧ ((arrF h f b fin).1 = 0 ∨ (arrF h f b fin).1 = 9) := by
  have hok := k.ok.arr (k.aok hs ha)
  have hk := k.ok
  have hd0 := hk.may.d0
  have hdle := hk.dle
  have ht0 := hk.t0
  have hr0 := hk.r0
  obtain ⟨F, E, rfl, h1, h2, h3, rfl, h4⟩ := ha
  have hl := OfS.len (F := F) h2
  have hto : (F : Int) + (((s.drop F).take (E - F)).length : Int) = (E : Int) := by rw [hl]; omega
  have hen : (if fin = true then (E : Int) else h.end_) = -1 ∨ (cl = true ∧ (if fin = true then (E : Int) else h.end_) = s.length) := by
    split
    · rename_i hf
      exact .inr ⟨(h4 hf).1, by rw [(h4 hf).2]⟩
    · exact k.en
  have hen2 : h.end_ = s.length → (if fin = true then (E : Int) else h.end_) = s.length := by
    intro e
    split
    · rename_i hf
      rw [(h4 hf).2]
    · exact e
  have hA := added h.done h.more (max (F : Int) h.done, min (F + ((s.drop F).take (E - F)).length) (h.taken + h.room)) hk.may.ch
  unfold arrF at hok ⊢
  rw [hto] at hok hA ⊢
  by_cases hlt : max (F : Int) h.done < min (E : Int) (h.taken + h.room)
  · rw [if_pos hlt] at hok ⊢
    by_cases hfull : 16 < (add h.done h.more (max (F : Int) h.done, min (E : Int) (h.taken + h.room))).2.length
    · rw [if_pos hfull]
      exact ⟨k, Int.le_refl _, rfl, rfl, fun e => e, .inr rfl⟩
    · rw [if_neg hfull] at hok ⊢
      refine ⟨⟨hok, ?_, ?_, hen⟩, hA.ge, rfl, rfl, hen2, .inl rfl⟩
      · have c3 := hA.hi
        have hi := k.hi
        simp only at c3 ⊢
        omega
      · intro p hp
        simp only at hp ⊢
        rw [hA.kn] at hp
        obtain ⟨fr, hfr⟩ : ∃ fr : Nat, max (F : Int) h.done = (fr : Int) := ⟨(max (F : Int) h.done).toNat, by omega⟩
        obtain ⟨up, hup⟩ : ∃ up : Nat, min (E : Int) (h.taken + h.room) = (up : Int) := ⟨(min (E : Int) (h.taken + h.room)).toNat, by omega⟩
        have := keep_eq (s := s) hk k.eq (F := F) (E := E) h2 h1 (fr := fr) (up := up) (by omega) (by omega) (by omega) p (by rw [hfr, hup] at hp; exact hp.imp id (fun q => ⟨by simp only at q; omega, by simp only at q; omega⟩))
        rw [hfr, hup, show (fr : Int).toNat = fr by omega, show ((fr : Int) - (F : Int)).toNat = fr - F by omega, show ((up : Int) - (fr : Int)).toNat = up - fr by omega]
        exact this
  · rw [if_neg hlt] at hok ⊢
    exact ⟨⟨hok, k.hi, k.eq, hen⟩, Int.le_refl _, rfl, rfl, hen2, .inl rfl⟩
theorem Tru.take {s : List UInt8} {cl : Bool} {h : He} (k : Tru s cl h) {n : Int} (ha : AOk h (.take n)) : Tru s cl (takeF h n).2 := ⟨k.ok.take ha, k.hi, k.eq, k.en⟩
theorem Tru.new {s : List UInt8} {cl : Bool} {room : Int} (h : 1 ≤ room ∧ room ≤ 4096) : Tru s cl (newF room) :=
  ⟨HOk.new h, by simp [newF, last], fun p hp => by
    rcases hp with hp | ⟨r, hr, _⟩
    · simp [newF] at hp; omega
    · simp [newF] at hr, .inl rfl⟩
theorem take_data {s : List UInt8} {cl : Bool} {h : He} (k : Tru s cl h) {n : Int} (ha : AOk h (.take n)) : ∃ T E : Nat, h.taken = (T : Int) ∧ (takeF h n).2.taken = (E : Int) ∧ T ≤ E ∧ E ≤ s.length ∧ (takeF h n).1 = (s.drop T).take (E - T) := by
  have t0 := k.ok.t0
  have t1 := k.ok.t1
  have dl := k.ok.dle
  have dd := k.ok.dat
  have hi := k.hi
  obtain ⟨n0, n1⟩ := ha
  obtain ⟨T, hT⟩ : ∃ T : Nat, h.taken = (T : Int) := ⟨h.taken.toNat, by omega⟩
  obtain ⟨E, hE⟩ : ∃ E : Nat, h.taken + min n (h.done - h.taken) = (E : Int) := ⟨(h.taken + min n (h.done - h.taken)).toNat, by omega⟩
  refine ⟨T, E, hT, hE, by omega, by omega, ?_⟩
  have e : (takeF h n).1 = (h.data.drop T).take (E - T) := by
    unfold takeF
    simp only
    rw [show h.taken.toNat = T by omega, show (min n (h.done - h.taken)).toNat = E - T by omega]
  rw [e]
  apply List.ext_getElem?
  intro i
  by_cases hi2 : i < E - T
  · rw [List.getElem?_take_of_lt hi2, List.getElem?_take_of_lt hi2, List.getElem?_drop, List.getElem?_drop]
    have := k.eq (T + i) (.inl (by omega))
    rw [List.getD_eq_getElem?_getD, List.getD_eq_getElem?_getD, List.getElem?_eq_getElem (show T + i < h.data.length by omega), List.getElem?_eq_getElem (show T + i < s.length by omega)] at this
    rw [List.getElem?_eq_getElem (show T + i < h.data.length by omega), List.getElem?_eq_getElem (show T + i < s.length by omega)]
    exact congrArg some this
  · rw [List.getElem?_take_eq_none (by omega), List.getElem?_take_eq_none (by omega)]
/-- what is told of a step -/
structure Said (s : List UInt8) (cl : Bool) (r : Int) (h : He) (t : To) (h' : He) : Prop where
  tru : Tru s cl h'
  room : h'.room = r
  code : t.code = 0 ∨ t.code = 9
  took : h'.taken = h.taken + t.data.length
  le : h'.taken ≤ s.length
  data : t.data = (s.drop h.taken.toNat).take t.data.length
  low : ackOf h ≤ t.ack
  ack : t.ack = ackOf h'
  hi : t.ack ≤ s.length + 1
  w0 : 0 ≤ t.window
  w1 : t.window ≤ r
  fin : t.fin = true → cl = true ∧ h'.taken = s.length
  win : t.window = h'.taken + r - min t.ack s.length
theorem Tru.ackle {s : List UInt8} {cl : Bool} {h : He} (k : Tru s cl h) : ackOf h ≤ s.length + 1 ∧ min (ackOf h) s.length = h.done := by
  have dl := k.ok.dle
  have hi := k.hi
  have d0 := k.ok.may.d0
  unfold ackOf
  rcases k.en with e | ⟨_, e⟩
  · rw [if_neg (by omega)]; omega
  · split <;> omega
theorem ack_mono {s : List UInt8} {cl : Bool} {h h' : He} (k : Tru s cl h) (k' : Tru s cl h') (hd : h.done ≤ h'.done) (he : h.end_ = s.length → h'.end_ = s.length) : ackOf h ≤ ackOf h' := by
  have dl := k'.ok.dle
  have hi := k'.hi
  have d0 := k.ok.may.d0
  unfold ackOf
  by_cases e : h.done = h.end_
  · have hs : h.end_ = s.length := by rcases k.en with g | ⟨_, g⟩ <;> omega
    have := he hs
    rw [if_pos e, if_pos (by omega)]; omega
  · rw [if_neg e]; split <;> omega
theorem Tru.step {s : List UInt8} {cl : Bool} {h : He} (k : Tru s cl h) (hs : s.length ≤ 10000) {a : Ar} (ha : OfS s cl a) : Said s cl h.room h (doF h a).2 (doF h a).1 := by
  have hao := k.aok hs ha
  cases a with
  | arr f b fin =>
    obtain ⟨k', hd, ht, hr, he, hc⟩ := k.arr hs ha
    obtain ⟨q1, q2⟩ := k'.ackle
    have t1 := k'.ok.t1
    have win := k'.ok.win
    have dle := k'.ok.dle
    have hi := k'.hi
    refine ⟨k', hr, hc, by rw [show (doF h (.arr f b fin)).1 = (arrF h f b fin).2 from rfl, ht]; simp [doF, told], by show (arrF h f b fin).2.taken ≤ _; omega, by simp [doF, told], ack_mono k k' hd he, rfl, q1, ?_, ?_, fun h => (nomatch h), ?_⟩
    · show 0 ≤ (arrF h f b fin).2.taken + (arrF h f b fin).2.room - (arrF h f b fin).2.done; omega
    · show (arrF h f b fin).2.taken + (arrF h f b fin).2.room - (arrF h f b fin).2.done ≤ h.room; omega
    · show (arrF h f b fin).2.taken + (arrF h f b fin).2.room - (arrF h f b fin).2.done = (arrF h f b fin).2.taken + h.room - min (ackOf (arrF h f b fin).2) s.length
      rw [q2, hr]
  | take n =>
    have k' := k.take hao
    obtain ⟨T, E, hT, hE, h1, h2, h3⟩ := take_data k hao
    obtain ⟨q1, q2⟩ := k'.ackle
    have t1 := k'.ok.t1
    have win := k'.ok.win
    have dle := k'.ok.dle
    have hl : (takeF h n).1.length = E - T := by rw [h3, List.length_take, List.length_drop]; omega
    refine ⟨k', rfl, .inl rfl, ?_, ?_, ?_, ack_mono k k' (Int.le_refl _) (fun e => e), rfl, q1, ?_, ?_, fun hf => ?_, ?_⟩
    · show (takeF h n).2.taken = h.taken + ((takeF h n).1.length : Int); rw [hl, hE, hT]; omega
    · show (takeF h n).2.taken ≤ _; omega
    · show (takeF h n).1 = _
      rw [show (doF h (.take n)).2.data = (takeF h n).1 from rfl, hl, hT]
      exact h3
    · show 0 ≤ (takeF h n).2.taken + h.room - h.done
      have : (takeF h n).2.room = h.room := rfl
      have : (takeF h n).2.done = h.done := rfl
      omega
    · show (takeF h n).2.taken + h.room - h.done ≤ h.room
      have : (takeF h n).2.done = h.done := rfl
      omega
    · have hf' : (takeF h n).2.taken = (takeF h n).2.end_ := of_decide_eq_true hf
      have t0 := k'.ok.t0
      rcases k'.en with g | ⟨g1, g2⟩
      · omega
      · exact ⟨g1, by rw [show (doF h (.take n)).1 = (takeF h n).2 from rfl]; omega⟩
    · show (takeF h n).2.taken + h.room - h.done = (takeF h n).2.taken + h.room - min (ackOf (takeF h n).2) s.length
      rw [q2]; rfl
theorem Tru.run {s : List UInt8} {cl : Bool} (hs : s.length ≤ 10000) : ∀ {l : List Ar} {h : He}, Tru s cl h → (∀ a ∈ l, OfS s cl a) → RunOk h l ∧ Tru s cl (ends h l)
  | [], h, k, _ => ⟨trivial, k⟩
  | a :: t, h, k, ha => by
    have h1 := ha a (List.mem_cons_self ..)
    obtain ⟨i1, i2⟩ := Tru.run hs (k.step hs h1).tru (fun x hx => ha x (List.mem_cons_of_mem _ hx))
    exact ⟨⟨k.aok hs h1, i1⟩, i2⟩
theorem ends_room {s : List UInt8} {cl : Bool} (hs : s.length ≤ 10000) : ∀ {l : List Ar} {h : He}, Tru s cl h → (∀ a ∈ l, OfS s cl a) → (ends h l).room = h.room
  | [], h, k, _ => rfl
  | a :: t, h, k, ha => by
    have h1 := ha a (List.mem_cons_self ..)
    have st := k.step hs h1
    have := ends_room hs (l := t) st.tru (fun x hx => ha x (List.mem_cons_of_mem _ hx))
    show (ends (doF h a).1 t).room = _
    rw [this]; exact st.room
end recv
end Go.Proofs.Ytfopnlfdoljcdaa
