/-
  WHAT COMES IN ORDER ALL COMES, IN PLAIN LEAN: a piece at the edge of what is known is taken whole. No condition.
-/
import Derived.Test.YtfopnlfdoljcdaaRecvQ
namespace Go.Proofs.Ytfopnlfdoljcdaa
set_option linter.unusedVariables false
set_option linter.unusedSimpArgs false

namespace recv
open hole
/-- the whole stream is there -/
structure Full (s : List UInt8) (h : He) : Prop where
  done : h.done = s.length
  en : h.end_ = s.length
  taken : h.taken = s.length
theorem Full.step {s : List UInt8} {h : He} (k : Tru s true h) (hs : s.length ≤ 10000) (f : Full s h) {a : Ar} (ha : OfS s true a) : Full s (doF h a).1 := by
  have f1 := f.done
  have f3 := f.taken
  cases a with
  | arr f' b fin =>
    obtain ⟨k', hd, ht, hr, he, _⟩ := k.arr hs ha
    have q1 := k'.ok.dle
    have q2 := k'.hi
    exact ⟨by show (arrF h f' b fin).2.done = _; omega, he f.en, ht.trans f.taken⟩
  | take n =>
    obtain ⟨n0, _⟩ := ha
    exact ⟨f.done, f.en, by show h.taken + min n (h.done - h.taken) = _; omega⟩
theorem ends_snoc (h : He) (l : List Ar) (a : Ar) : ends h (l ++ [a]) = (doF (ends h l) a).1 := by rw [ends_app]; rfl
/-- the piece [F, E) of the stream, and all is taken -/
def piece (s : List UInt8) (F E : Nat) : Ar := .arr (F : Int) ((s.drop F).take (E - F)) (decide ((E : Int) = s.length))
theorem piece_ofS (s : List UInt8) (F E : Nat) (h1 : F ≤ E) (h2 : E ≤ s.length) (h3 : E - F ≤ 64) : OfS s true (piece s F E) :=
  ⟨F, E, rfl, h1, h2, h3, rfl, fun h => ⟨rfl, by have := of_decide_eq_true h; omega⟩⟩
theorem piece_done {s : List UInt8} {h : He} (k : HOk h) {F E : Nat} {fin : Bool} (h1 : F ≤ E) (h2 : E ≤ s.length) (hF : (F : Int) ≤ h.done) (hE : (E : Int) ≤ h.taken + h.room) :
    (E : Int) ≤ (arrF h F ((s.drop F).take (E - F)) fin).2.done ∧ (fin = true → (arrF h F ((s.drop F).take (E - F)) fin).2.end_ = E) := by
  have hl := OfS.len (F := F) h2
  have hto : (F : Int) + (((s.drop F).take (E - F)).length : Int) = (E : Int) := by rw [hl]; omega
  have hmx : max (F : Int) h.done = h.done := by omega
  have hmn : min (E : Int) (h.taken + h.room) = (E : Int) := by omega
  have hA := added h.done h.more (h.done, (E : Int)) k.may.ch
  unfold arrF
  rw [hto, hmx, hmn]
  by_cases hlt : h.done < (E : Int)
  · rw [if_pos hlt]
    have hn : ¬ 16 < (add h.done h.more (h.done, (E : Int))).2.length := by
      have := hA.len' (.inr (Int.le_refl _))
      have := k.may.len
      omega
    rw [if_neg hn]
    refine ⟨?_, fun hf => by simp only; rw [if_pos hf]⟩
    simp only
    rcases Int.lt_or_le (add h.done h.more (h.done, (E : Int))).1 (E : Int) with hc | hc
    · exact absurd ((hA.kn _).2 (.inr ⟨hA.ge, hc⟩)) (knows_d hA.ch)
    · exact hc
  · rw [if_neg hlt]
    exact ⟨by simp only; omega, fun hf => by simp only; rw [if_pos hf]⟩
/-- at F: all ahead of it is known, and there is room for a piece; behind the end all is there -/
structure Cont (s : List UInt8) (h : He) (F : Nat) : Prop where
  f : F ≤ s.length → (F : Int) ≤ h.done
  r : F ≤ s.length → (F : Int) + 64 ≤ h.taken + h.room
  e : s.length < F → Full s h
theorem Cont.zero {s : List UInt8} {h : He} (k : HOk h) (hr : 64 ≤ h.room) : Cont s h 0 := by
  have := k.t0
  have := k.t1
  exact ⟨fun _ => by omega, fun _ => by omega, fun h => absurd h (by omega)⟩
theorem Cont.two {s : List UInt8} {h : He} (k : Tru s true h) (hs : s.length ≤ 10000) (hr : 64 ≤ h.room) {F K : Nat} (hF : F ≤ s.length) (hK : 1 ≤ K ∧ K ≤ 64) (c : Cont s h F) :
    Cont s (ends h [piece s F (min (F + K) s.length), .take 4096]) (F + K) := by
  have hE1 : F ≤ min (F + K) s.length := by omega
  have hE2 : min (F + K) s.length ≤ s.length := by omega
  have hE3 : min (F + K) s.length - F ≤ 64 := by omega
  have hEm : (min (F + K) s.length = s.length ∧ s.length ≤ F + K) ∨ (min (F + K) s.length = F + K ∧ F + K ≤ s.length) := by omega
  have c1 := c.f hF
  have c2 := c.r hF
  generalize min (F + K) s.length = E at *
  obtain ⟨d1, d2⟩ := piece_done (s := s) k.ok (fin := decide ((E : Int) = s.length)) hE1 hE2 c1 (by omega)
  obtain ⟨k', hd, ht, hrm, he, _⟩ := k.arr (f := (F : Int)) (b := (s.drop F).take (E - F)) (fin := decide ((E : Int) = s.length)) hs (piece_ofS s F E hE1 hE2 hE3)
  show Cont s (takeF (arrF h F ((s.drop F).take (E - F)) (decide ((E : Int) = s.length))).2 4096).2 (F + K)
  generalize (arrF h F ((s.drop F).take (E - F)) (decide ((E : Int) = s.length))).2 = h' at *
  have q1 := k'.ok.dle
  have q2 := k'.hi
  have q3 := k'.ok.t0
  have q4 := k'.ok.t1
  have q5 := k'.ok.win
  have q6 := k'.ok.r1
  have ht2 : (takeF h' 4096).2.taken = h'.done := by
    show h'.taken + min 4096 (h'.done - h'.taken) = h'.done
    omega
  have hd2 : (takeF h' 4096).2.done = h'.done := rfl
  have hr2 : (takeF h' 4096).2.room = h'.room := rfl
  have he2 : (takeF h' 4096).2.end_ = h'.end_ := rfl
  have hfl : E = s.length → Full s (takeF h' 4096).2 := by
    intro e
    have e2 := d2 (decide_eq_true (by omega))
    exact ⟨by omega, by omega, by omega⟩
  refine ⟨fun g => by rw [hd2]; omega, fun g => by rw [ht2, hr2]; omega, fun g => hfl (by omega)⟩
theorem more_nil {s : List UInt8} {cl : Bool} {h : He} (k : Tru s cl h) (f : h.done = s.length) : h.more = [] := by
  cases e : h.more with
  | nil => rfl
  | cons r t =>
    have hm := chain_mem _ _ k.ok.may.ch r (by rw [e]; exact List.mem_cons_self ..)
    have := k.hi
    omega
/-- what is told last, when all is there -/
theorem full_told {s : List UInt8} {h : He} (k : Tru s true (takeF h 4096).2) (f : Full s (takeF h 4096).2) : (doF h (.take 4096)).2.fin = true ∧ (doF h (.take 4096)).2.ack = s.length + 1 ∧ (doF h (.take 4096)).2.window = h.room ∧ (doF h (.take 4096)).2.sacks = [] := by
  have hm := more_nil k f.done
  have f1 := f.done
  have f2 := f.en
  have f3 := f.taken
  have hr : (takeF h 4096).2.room = h.room := rfl
  show decide ((takeF h 4096).2.taken = (takeF h 4096).2.end_) = true ∧ (if (takeF h 4096).2.done = (takeF h 4096).2.end_ then (takeF h 4096).2.done + 1 else (takeF h 4096).2.done) = s.length + 1 ∧ (takeF h 4096).2.taken + (takeF h 4096).2.room - (takeF h 4096).2.done = h.room ∧ sacks (-1) (takeF h 4096).2.more 3 = []
  rw [hm]
  exact ⟨decide_eq_true (by omega), by rw [if_pos (by omega), f1], by omega, by decide⟩
theorem piece_getD {Z : List Ar} {i : Nat} (h : i < Z.length) : Z.getD i default ∈ Z := by
  rw [List.getD_eq_getElem?_getD, List.getElem?_eq_getElem h]; exact List.getElem_mem _
theorem runs_at (h : He) (Z : List Ar) (i : Nat) (hi : i < Z.length) : (runs h Z).getD i default = (doF (ends h (Z.take i)) (Z.getD i default)).2 := by
  obtain ⟨e1, e2⟩ := takes_cons h Z i hi
  have h3 : runs h Z = runs h (Z.take (i + 1)) ++ runs (ends h (Z.take (i + 1))) (Z.drop (i + 1)) := by
    rw [← runs_app, List.take_append_drop]
  rw [h3, e1, List.append_assoc, List.getD_eq_getElem?_getD, List.getElem?_append_right (by rw [runs_len, List.length_take]; omega), runs_len, List.length_take, show i - min i Z.length = 0 by omega]
  rfl
theorem said_at {s : List UInt8} {cl : Bool} (hs : s.length ≤ 10000) {r : Int} (hnew : Tru s cl (newF r)) {Z : List Ar} (hof : ∀ a ∈ Z, OfS s cl a) {i : Nat} (hi : i < Z.length) :
    Said s cl r (ends (newF r) (Z.take i)) ((runs (newF r) Z).getD i default) (ends (newF r) (Z.take (i + 1))) := by
  obtain ⟨e1, e2⟩ := takes_cons (newF r) Z i hi
  have hsub : ∀ a ∈ Z.take i, OfS s cl a := fun a ha => hof a (List.mem_of_mem_take ha)
  have k := (Tru.run hs hnew hsub).2
  have hroom := ends_room hs hnew hsub
  have h1 := k.step hs (hof _ (piece_getD hi))
  rw [hroom] at h1
  rw [e2, runs_at _ _ _ hi]
  exact h1
/-- all that was taken, up to the i-th step -/
def gotF (s : List UInt8) (r : Int) (Z : List Ar) (i : Nat) : List UInt8 := s.take (ends (newF r) (Z.take i)).taken.toNat
theorem got_succ {s : List UInt8} {cl : Bool} (hs : s.length ≤ 10000) {r : Int} (hnew : Tru s cl (newF r)) {Z : List Ar} (hof : ∀ a ∈ Z, OfS s cl a) {i : Nat} (hi : i < Z.length) :
    gotF s r Z i ++ ((runs (newF r) Z).getD i default).data = gotF s r Z (i + 1) := by
  have h := said_at hs hnew hof hi
  have hsub : ∀ a ∈ Z.take i, OfS s cl a := fun a ha => hof a (List.mem_of_mem_take ha)
  have t0 := ((Tru.run hs hnew hsub).2).ok.t0
  have h1 := h.took
  have h2 := h.data
  unfold gotF
  rw [show (ends (newF r) (Z.take (i + 1))).taken.toNat = (ends (newF r) (Z.take i)).taken.toNat + ((runs (newF r) Z).getD i default).data.length by omega, List.take_add, ← h2]
theorem got_len {s : List UInt8} {cl : Bool} (hs : s.length ≤ 10000) {r : Int} (hnew : Tru s cl (newF r)) {Z : List Ar} (hof : ∀ a ∈ Z, OfS s cl a) (i : Nat) : (gotF s r Z i).length ≤ 10000 := by
  unfold gotF; rw [List.length_take]; omega
def mPc (s : List UInt8) (F E : Nat) (a : Option Addr) (c : Nat) : ArM := ⟨1, (F : Int), ⟨a, E - F, c, (s.drop F).take (E - F)⟩, decide ((E : Int) = s.length), 0⟩
def mTk : ArM := ⟨2, 0, ⟨none, 0, 0, []⟩, false, 4096⟩
/-- within a round that began with pieces of k1 -/
structure Rnd (s : List UInt8) (r : Int) (k1 : Nat) (fl : Prop) (A : List ArM) (k F : Nat) : Prop where
  kb : 1 ≤ k ∧ k ≤ 64
  kk : k = k1 ∨ k = 64
  fb : F ≤ s.length + 64
  mok : ∀ m ∈ A, MOk m
  ofs : ∀ a ∈ A.map toAr, OfS s true a
  con : k = k1 → Cont s (ends (newF r) (A.map toAr)) F
  full : fl → Full s (ends (newF r) (A.map toAr))
  tl : 0 < F → ∃ B, A.map toAr = B ++ [.take 4096]
/-- behind j rounds -/
structure Out (s : List UInt8) (r : Int) (j : Nat) (A : List ArM) (k : Nat) : Prop where
  kb : 1 ≤ k ∧ k ≤ 64
  mok : ∀ m ∈ A, MOk m
  ofs : ∀ a ∈ A.map toAr, OfS s true a
  one : 1 ≤ j → Full s (ends (newF r) (A.map toAr)) ∨ k = 64
  two : 2 ≤ j → Full s (ends (newF r) (A.map toAr))
  tl : 1 ≤ j → ∃ B, A.map toAr = B ++ [.take 4096]
theorem Out.rnd {s : List UInt8} {r : Int} {j : Nat} {A : List ArM} {k : Nat} (o : Out s r j A k) (hs : s.length ≤ 10000) (hr : 64 ≤ r ∧ r ≤ 4096) : Rnd s r k (Full s (ends (newF r) (A.map toAr))) A k 0 := by
  have hnew : Tru s true (newF r) := Tru.new (by omega)
  have k' := (Tru.run hs hnew o.ofs).2
  have hrm := ends_room hs hnew o.ofs
  exact ⟨o.kb, .inl rfl, by omega, o.mok, o.ofs, fun _ => Cont.zero k'.ok (by rw [hrm]; exact hr.1), fun f => f, fun h => absurd h (by omega)⟩
theorem Rnd.out {s : List UInt8} {r : Int} {j k1 : Nat} {A A1 : List ArM} {k F : Nat} (o : Out s r j A1 k1) (q : Rnd s r k1 (Full s (ends (newF r) (A1.map toAr))) A k F) (hj : j < 2) (hF : s.length < F) : Out s r (j + 1) A k := by
  refine ⟨q.kb, q.mok, q.ofs, fun _ => ?_, fun h => ?_, fun _ => q.tl (by omega)⟩
  · rcases q.kk with e | e
    · exact .inl ((q.con e).e hF)
    · exact .inr e
  · rcases o.one (by omega) with f | e
    · exact q.full f
    · exact (q.con (by rcases q.kk with e1 | e1 <;> omega)).e hF
theorem Rnd.step {s : List UInt8} {r : Int} {k1 : Nat} {fl : Prop} {A : List ArM} {k F : Nat} (q : Rnd s r k1 fl A k F) (hs : s.length ≤ 10000) (hr : 64 ≤ r ∧ r ≤ 4096) (hF : F ≤ s.length) {k' : Nat} (hk : k' = k ∨ k' = 64) {E : Nat} (hE : E = min (F + k) s.length) (a : Option Addr) (c : Nat) :
    Rnd s r k1 fl (A ++ [mPc s F E a c, mTk]) k' (F + k') := by
  have hnew : Tru s true (newF r) := Tru.new (by omega)
  have kb := q.kb
  have kk := q.kk
  have hZ : (A ++ [mPc s F E a c, mTk]).map toAr = A.map toAr ++ [piece s F E, .take 4096] := by rw [List.map_append]; rfl
  have hp : OfS s true (piece s F E) := piece_ofS s F E (by omega) (by omega) (by omega)
  have ht : OfS s true (.take 4096) := ⟨by decide, by decide⟩
  have hk' := (Tru.run hs hnew q.ofs).2
  have hrm := ends_room hs hnew q.ofs
  refine ⟨by omega, by omega, by omega, ?_, ?_, fun e => ?_, fun f => ?_, fun _ => ⟨A.map toAr ++ [piece s F E], by rw [hZ, List.append_assoc]; rfl⟩⟩
  · intro m hm
    rcases List.mem_append.1 hm with h | h
    · exact q.mok m h
    · rcases List.mem_cons.1 h with rfl | h
      · exact ⟨.inl rfl, OfS.len (by omega)⟩
      · obtain rfl := List.mem_singleton.1 h
        exact ⟨.inr rfl, rfl⟩
  · rw [hZ]
    intro x hx
    rcases List.mem_append.1 hx with h | h
    · exact q.ofs x h
    · rcases List.mem_cons.1 h with rfl | h
      · exact hp
      · obtain rfl := List.mem_singleton.1 h
        exact ht
  · have e1 : k = k1 := by omega
    have e2 : k' = k := by omega
    rw [hZ, ends_app, e2, hE]
    exact Cont.two hk' hs (by show 64 ≤ (ends (newF r) (A.map toAr)).room; rw [hrm]; exact hr.1) hF kb (q.con e1)
  · rw [hZ, ends_app]
    have f1 := q.full f
    have f2 := f1.step hk' hs hp
    exact f2.step (hk'.step hs hp).tru hs ht
/-- what is told last -/
theorem Out.last {s : List UInt8} {r : Int} {A : List ArM} {k : Nat} (o : Out s r 2 A k) (hs : s.length ≤ 10000) (hr : 64 ≤ r ∧ r ≤ 4096) :
    ∃ n, (A.map toAr).length = n + 1 ∧ gotF s r (A.map toAr) (n + 1) = s ∧ ((runs (newF r) (A.map toAr)).getD n default).fin = true ∧ ((runs (newF r) (A.map toAr)).getD n default).ack = s.length + 1 ∧ ((runs (newF r) (A.map toAr)).getD n default).window = r ∧ ((runs (newF r) (A.map toAr)).getD n default).sacks = [] := by
  have hnew : Tru s true (newF r) := Tru.new (by omega)
  have f := o.two (by omega)
  have ofs := o.ofs
  obtain ⟨B, hB⟩ := o.tl (by omega)
  generalize A.map toAr = Z at *
  subst hB
  have ofB : ∀ a ∈ B, OfS s true a := fun a ha => ofs a (List.mem_append_left _ ha)
  have hk := (Tru.run hs hnew ofs).2
  have hrm := ends_room hs hnew ofB
  have f3 := f.taken
  rw [ends_snoc] at f hk
  obtain ⟨g1, g2, g3, g4⟩ := full_told (h := ends (newF r) B) hk f
  refine ⟨B.length, by simp, ?_, ?_⟩
  · unfold gotF
    rw [show (B ++ [Ar.take 4096]).take (B.length + 1) = B ++ [Ar.take 4096] from List.take_of_length_le (by simp), f3]
    exact List.take_of_length_le (by omega)
  · rw [runs_at _ _ _ (by simp), List.take_left', List.getD_eq_getElem?_getD, List.getElem?_append_right (Nat.le_refl _), Nat.sub_self]
    · rw [hrm] at g3
      exact ⟨g1, g2, g3, g4⟩
    · rfl
end recv
end Go.Proofs.Ytfopnlfdoljcdaa
