/-
  THE WIRE WITHOUT SERIALS AND BYTES, IN PLAIN LEAN: frames are what they bear ('doA'); whatever the first serial, the same comes of hops ('doF_rel').
-/
import Derived.Test.YtcllddkhnbnigaaPipeL
namespace Go.Proofs.Ytcllddkhnbnigaa
set_option linter.unusedVariables false
set_option linter.unusedSimpArgs false
namespace pipe
open hole
/-- what a frame bears -/
inductive Bd where
  | fwd (t : send.St)
  | bwd (t : recv.To)
def Bd.isB : Bd → Bool
  | .fwd _ => false
  | .bwd _ => true
def Bd.len : Bd → Nat
  | .fwd t => 10 + t.data.length
  | .bwd t => 10 + 4 * t.sacks.length
def Bd.seg (f : Int) : Bd → seg.Sg
  | .fwd t => segS f t
  | .bwd t => segR f t
structure AF where
  b : Bd
  hit : Bool
  bad : Bool
instance : Inhabited AF := ⟨⟨.bwd default, false, false⟩⟩
structure Aw where
  se : send.Se
  he : recv.He
  fs : List AF
def replyA (w : Aw) (t : recv.To) : Aw × Pa := if ¬ t.code = 0 then (w, no t.code) else ({ w with fs := w.fs ++ [⟨.bwd t, false, false⟩] }, ⟨0, true, w.fs.length, t.data, t.fin, 0⟩)
def sendA (w : Aw) : Aw × Pa :=
  if (send.doF w.se .poll).2.idle = true then ({ w with se := (send.doF w.se .poll).1 }, no 7)
  else (⟨(send.doF w.se .poll).1, w.he, w.fs ++ [⟨.fwd (send.doF w.se .poll).2, false, false⟩]⟩, ⟨0, true, w.fs.length, [], false, (send.doF w.se .poll).2.left⟩)
def hitA (w : Aw) (id at_ : Int) (by_ : UInt8) : Aw × Pa :=
  if id < 0 ∨ (w.fs.length : Int) ≤ id then (w, no 7)
  else if at_ < 0 ∨ ((w.fs.getD id.toNat default).b.len : Int) ≤ at_ then (w, no 2)
  else if (w.fs.getD id.toNat default).hit = true then (w, no 8)
  else ({ w with fs := w.fs.set id.toNat ⟨(w.fs.getD id.toNat default).b, true, decide (by_ ≠ 0)⟩ }, no 0)
/-- a frame that may be taken, or why not -/
def takenA (w : Aw) (id : Int) (back : Bool) : Int ⊕ Bd :=
  if id < 0 ∨ (w.fs.length : Int) ≤ id ∨ ¬ (w.fs.getD id.toNat default).b.isB = back then .inl 7
  else if (w.fs.getD id.toNat default).bad = true then .inl 6
  else .inr (w.fs.getD id.toNat default).b
def carryA (w : Aw) (id : Int) : Aw × Pa := match takenA w id false with
  | .inl e => (w, no e)
  | .inr (.bwd _) => (w, no 7)
  | .inr (.fwd t) => replyA { w with he := (recv.doF w.he (.arr t.from_ t.data t.fin)).1 } (recv.doF w.he (.arr t.from_ t.data t.fin)).2
def heardA (w : Aw) (id : Int) : Aw × Pa := match takenA w id true with
  | .inl e => (w, no e)
  | .inr (.fwd _) => (w, no 7)
  | .inr (.bwd t) => ({ w with se := (send.doF w.se (.heard t.ack t.window t.sacks)).1 }, no (send.doF w.se (.heard t.ack t.window t.sacks)).2.code)
def doA (w : Aw) : Ho → Aw × Pa
  | .give b => ({ w with se := (send.doF w.se (.submit b)).1 }, ⟨(send.doF w.se (.submit b)).2.code, false, 0, [], false, (send.doF w.se (.submit b)).2.left⟩)
  | .shut => ({ w with se := (send.doF w.se .close).1 }, ⟨(send.doF w.se .close).2.code, false, 0, [], false, (send.doF w.se .close).2.left⟩)
  | .send => sendA w
  | .hit id a b => hitA w id a b
  | .carry id => carryA w id
  | .back id => ((heardA w id).1, { (heardA w id).2 with left := (heardA w id).1.se.left })
  | .expire => ({ w with se := (send.doF w.se .timeout).1 }, ⟨(send.doF w.se .timeout).2.code, false, 0, [], false, (send.doF w.se .timeout).2.left⟩)
  | .drain n => replyA { w with he := (recv.doF w.he (.take n)).1 } (recv.doF w.he (.take n)).2
def runsA : Aw → List Ho → List Pa
  | _, [] => []
  | w, h :: t => (doA w h).2 :: runsA (doA w h).1 t
def endsA : Aw → List Ho → Aw
  | w, [] => w
  | w, h :: t => endsA (doA w h).1 t
def newA (room : Int) : Aw := ⟨send.newF room, recv.newF room, []⟩
/-- the places that a frame tells are within the numbers -/
def BOk : Bd → Prop
  | .fwd t => 0 ≤ t.from_ ∧ t.from_ ≤ 30001
  | .bwd t => (0 ≤ t.ack ∧ t.ack ≤ 30001) ∧ ∀ r ∈ t.sacks, (0 ≤ r.1 ∧ r.1 ≤ 30001) ∧ 0 ≤ r.2 ∧ r.2 ≤ 30001
/-- a frame, and what it bears -/
structure FRel (f : Int) (x : Fr) (y : AF) : Prop where
  back : x.back = y.b.isB
  hit : x.hit = y.hit
  rng : seg.Rng (y.b.seg f)
  flt : seg.flt (y.b.seg f) = 0
  own : y.hit = false → x.bytes = seg.enc (y.b.seg f)
  good : y.bad = false → x.bytes = seg.enc (y.b.seg f)
  bad : y.bad = true → seg.dec x.bytes = (6, default)
  len : x.bytes.length = y.b.len
  ok : BOk y.b
structure Rel (w : Wi) (a : Aw) : Prop where
  se : w.se = a.se
  he : w.he = a.he
  len : w.fs.length = a.fs.length
  fs : ∀ i, i < a.fs.length → FRel w.first (w.fs.getD i default) (a.fs.getD i default)
theorem seg_len (f : Int) (b : Bd) : (seg.enc (b.seg f)).length = b.len := by
  rw [seg.enc_len]
  cases b with
  | fwd t => show 10 + 4 * 0 + t.data.length = 10 + t.data.length; omega
  | bwd t => show 10 + 4 * (t.sacks.map (mkR f)).length + 0 = 10 + 4 * t.sacks.length; rw [List.length_map]; rfl
theorem getD_app {α : Type} [Inhabited α] (l : List α) (x : α) (i : Nat) (h : i < (l ++ [x]).length) : (l ++ [x]).getD i default = if i < l.length then l.getD i default else x := by
  rw [List.length_append, List.length_singleton] at h
  rw [List.getD_eq_getElem?_getD]
  split
  · rename_i c; rw [List.getElem?_append_left c, List.getD_eq_getElem?_getD]
  · rw [List.getElem?_append_right (by omega), show i - l.length = 0 by omega]; rfl
theorem getD_setG {α : Type} [Inhabited α] (l : List α) (x : α) (i j : Nat) : (l.set i x).getD j default = if i = j ∧ i < l.length then x else l.getD j default := by
  rw [List.getD_eq_getElem?_getD, List.getElem?_set]
  by_cases e : i = j
  · subst e
    rw [if_pos rfl]
    by_cases h : i < l.length
    · rw [if_pos h, if_pos ⟨rfl, h⟩]; rfl
    · rw [if_neg h, if_neg (fun g => h g.2), List.getD_eq_getElem?_getD, List.getElem?_eq_none (by omega)]
  · rw [if_neg e, if_neg (fun g => e g.1), ← List.getD_eq_getElem?_getD]
theorem Rel.snoc {w : Wi} {a : Aw} (h : Rel w a) {w' : Wi} {a' : Aw} (hf : w'.first = w.first) (h1 : w'.se = a'.se) (h2 : w'.he = a'.he) (x : Fr) (y : AF) (hx : w'.fs = w.fs ++ [x]) (hy : a'.fs = a.fs ++ [y]) (hr : FRel w.first x y) : Rel w' a' := by
  refine ⟨h1, h2, by rw [hx, hy, List.length_append, List.length_append, h.len]; rfl, fun i hi => ?_⟩
  rw [hy] at hi ⊢
  rw [hx, getD_app _ _ _ (by rw [List.length_append, List.length_singleton] at hi ⊢; rw [h.len]; exact hi), getD_app _ _ _ hi, hf, h.len]
  split
  · rename_i c; exact h.fs i c
  · exact hr
theorem Rel.same {w : Wi} {a : Aw} (h : Rel w a) {w' : Wi} {a' : Aw} (hf : w'.first = w.first) (h1 : w'.se = a'.se) (h2 : w'.he = a'.he) (hx : w'.fs = w.fs) (hy : a'.fs = a.fs) : Rel w' a' :=
  ⟨h1, h2, by rw [hx, hy]; exact h.len, fun i hi => by rw [hy] at hi ⊢; rw [hx, hf]; exact h.fs i hi⟩
theorem FRel.new {f : Int} {b : Bd} {bk : Bool} (hb : bk = b.isB) (h1 : seg.Rng (b.seg f)) (h2 : seg.flt (b.seg f) = 0) (h3 : BOk b) : FRel f ⟨seg.enc (b.seg f), bk, false⟩ ⟨b, false, false⟩ :=
  ⟨hb, rfl, h1, h2, fun _ => rfl, fun _ => rfl, (fun h => nomatch h), seg_len f b, h3⟩
theorem taken_rel {w : Wi} {a : Aw} (h : Rel w a) (id : Int) (back : Bool) :
    match takenA a id back with
    | .inl e => takenF w id back = (e, default) ∧ e ≠ 0
    | .inr b => takenF w id back = (0, b.seg w.first) ∧ b.isB = back ∧ BOk b ∧ seg.Rng (b.seg w.first) ∧ seg.flt (b.seg w.first) = 0 := by
  by_cases c1 : id < 0 ∨ (a.fs.length : Int) ≤ id
  · have hA : takenA a id back = .inl 7 := by
      unfold takenA
      rw [if_pos (by rcases c1 with c | c; exact .inl c; exact .inr (.inl c))]
    have hF : takenF w id back = (7, default) := by
      unfold takenF
      rw [if_pos (by rw [h.len]; rcases c1 with c | c; exact .inl c; exact .inr (.inl c))]
    rw [hA]
    exact ⟨hF, by decide⟩
  · have hi : id.toNat < a.fs.length := by omega
    have r := h.fs _ hi
    by_cases c2 : (a.fs.getD id.toNat default).b.isB = back
    · have n1 : ¬ (id < 0 ∨ (a.fs.length : Int) ≤ id ∨ ¬ (a.fs.getD id.toNat default).b.isB = back) := by
        rintro (c | c | c)
        · exact c1 (.inl c)
        · exact c1 (.inr c)
        · exact c c2
      have hF : takenF w id back = seg.dec (w.fs.getD id.toNat default).bytes := by
        unfold takenF
        rw [if_neg (by rw [h.len, r.back]; exact n1)]
      cases hb : (a.fs.getD id.toNat default).bad with
      | true =>
        have hA : takenA a id back = .inl 6 := by
          unfold takenA
          rw [if_neg n1, if_pos hb]
        rw [hA]
        exact ⟨by rw [hF]; exact r.bad hb, by decide⟩
      | false =>
        have hA : takenA a id back = .inr (a.fs.getD id.toNat default).b := by
          unfold takenA
          rw [if_neg n1, if_neg (by rw [hb]; exact fun h => nomatch h)]
        rw [hA]
        exact ⟨by rw [hF, r.good hb, seg.dec_enc r.rng r.flt], c2, r.ok, r.rng, r.flt⟩
    · have hA : takenA a id back = .inl 7 := by
        unfold takenA
        rw [if_pos (.inr (.inr c2))]
      have hF : takenF w id back = (7, default) := by
        unfold takenF
        rw [if_pos (.inr (.inr (by rw [r.back]; exact c2)))]
      rw [hA]
      exact ⟨hF, by decide⟩
theorem told_small {h : recv.He} (k : recv.HOk h) (c lst : Int) (d : List UInt8) (f : Bool) : BOk (.bwd (recv.told h c lst d f)) := by
  have h1 := k.dle
  have h2 := k.dat
  have h3 := k.cap
  have h4 := k.may.d0
  refine ⟨?_, fun r hr => ?_⟩
  · show 0 ≤ (if h.done = h.end_ then h.done + 1 else h.done) ∧ (if h.done = h.end_ then h.done + 1 else h.done) ≤ 30001
    split <;> omega
  · have := chain_mem _ _ k.may.ch r (sacks_mem hr)
    omega
theorem said_small {h : recv.He} (k : recv.HOk h) {a : recv.Ar} (ha : recv.AOk h a) : BOk (.bwd (recv.doF h a).2) := by
  have k1 := k.step ha
  cases a with
  | arr f b fin => exact told_small k1 _ _ _ _
  | take n => exact told_small k1 _ _ _ _
theorem reply_rel {w : Wi} {a : Aw} (h : Rel w a) {t : recv.To} (ht : TOk t) (hb : BOk (.bwd t)) : (replyF w t).2 = (replyA a t).2 ∧ Rel (replyF w t).1 (replyA a t).1 := by
  unfold replyF replyA
  split
  · exact ⟨rfl, h⟩
  · obtain ⟨h1, h2⟩ := told_seg (f := w.first) ht
    exact ⟨by rw [h.len], h.snoc rfl h.se h.he _ _ rfl rfl (FRel.new (b := .bwd t) rfl h1 h2 hb)⟩
theorem bt_fin (b : Bool) : seg.bt (if b = true then 2 else 0) 1 = b := by cases b <;> decide
theorem map_back {f q : Int} (hf : 0 ≤ f ∧ f < 65536) (hq : 0 ≤ q ∧ q ≤ 30001) : ∀ l : List R, (∀ r ∈ l, (0 ≤ r.1 ∧ r.1 ≤ 30001) ∧ 0 ≤ r.2 ∧ r.2 ≤ 30001) → (l.map (mkR f)).map (plR f q) = l
  | [], _ => rfl
  | r :: l, h => by
    have hr := h r (List.mem_cons_self ..)
    rw [List.map_cons, List.map_cons, map_back hf hq l (fun x hx => h x (List.mem_cons_of_mem _ hx))]
    congr 1
    unfold plR mkR
    rw [pl_mk hf hr.1.1 hq.1 (by omega), pl_mk hf hr.2.1 hq.1 (by omega)]
theorem doF_rel {w : Wi} {a : Aw} {N : Nat} (h : Rel w a) (k : WOk w N) (x : Ho) (hN : N + given x ≤ 30000) (ho : HoOk x) : (doF w x).2 = (doA a x).2 ∧ Rel (doF w x).1 (doA a x).1 := by
  have hl := k.len
  have hse := h.se
  have hhe := h.he
  have hdn : 0 ≤ w.se.done ∧ w.se.done ≤ 30001 := by
    have h1 := k.se.may.d0
    have h2 := k.se.dle
    have h3 := k.se.la
    have h4 := k.se.ne
    have h5 := send.Se.end_ w.se
    have : w.se.end_ ≤ w.se.data.length + 1 := send.SOk.len_end.1
    omega
  cases x with
  | give b => exact ⟨by show (ownF w _).2 = _; unfold ownF; rw [hse]; rfl, h.same rfl (by show (ownF w _).1.se = _; unfold ownF; rw [hse]; rfl) hhe rfl rfl⟩
  | shut => exact ⟨by show (ownF w _).2 = _; unfold ownF; rw [hse]; rfl, h.same rfl (by show (ownF w _).1.se = _; unfold ownF; rw [hse]; rfl) hhe rfl rfl⟩
  | expire => exact ⟨by show (ownF w _).2 = _; unfold ownF; rw [hse]; rfl, h.same rfl (by show (ownF w _).1.se = _; unfold ownF; rw [hse]; rfl) hhe rfl rfl⟩
  | send =>
    show (sendF w).2 = (sendA a).2 ∧ Rel (sendF w).1 (sendA a).1
    have hp := poll_piece (w := w) k.se
    unfold sendF sendA
    rw [← hse]
    by_cases c : (send.doF w.se .poll).2.idle = true
    · rw [if_pos c, if_pos c]
      exact ⟨rfl, h.same rfl rfl hhe rfl rfl⟩
    · rw [if_neg c, if_neg c]
      obtain ⟨h1, h2, F, E, hF, p⟩ := hp c
      have hle := p.le
      have hhi := p.hi
      exact ⟨by rw [h.len], h.snoc rfl rfl hhe _ _ rfl rfl (FRel.new (b := .fwd (send.doF w.se .poll).2) rfl h1 h2 (by show 0 ≤ (send.doF w.se .poll).2.from_ ∧ (send.doF w.se .poll).2.from_ ≤ 30001; simp only [given] at hN; omega))⟩
  | hit id at_ by_ =>
    show (hitF w id at_ by_).2 = (hitA a id at_ by_).2 ∧ Rel (hitF w id at_ by_).1 (hitA a id at_ by_).1
    unfold hitF hitA
    by_cases c1 : id < 0 ∨ (a.fs.length : Int) ≤ id
    · rw [if_pos c1, if_pos (by rw [h.len]; exact c1)]
      exact ⟨rfl, h⟩
    · have hi : id.toNat < a.fs.length := by omega
      have r := h.fs _ hi
      rw [if_neg c1, if_neg (by rw [h.len]; exact c1), r.len, r.hit]
      by_cases c2 : at_ < 0 ∨ ((a.fs.getD id.toNat default).b.len : Int) ≤ at_
      · rw [if_pos c2, if_pos c2]; exact ⟨rfl, h⟩
      · rw [if_neg c2, if_neg c2]
        by_cases c3 : (a.fs.getD id.toNat default).hit = true
        · rw [if_pos c3, if_pos c3]; exact ⟨rfl, h⟩
        · rw [if_neg c3, if_neg c3]
          have c3' : (a.fs.getD id.toNat default).hit = false := by simpa using c3
          have hown := r.own c3'
          refine ⟨rfl, hse, hhe, by show (w.fs.set _ _).length = (a.fs.set _ _).length; rw [List.length_set, List.length_set, h.len], fun i hi' => ?_⟩
          have hi2 : i < a.fs.length := by
            have : i < (a.fs.set id.toNat _).length := hi'
            rwa [List.length_set] at this
          show FRel w.first ((w.fs.set id.toNat _).getD i default) ((a.fs.set id.toNat _).getD i default)
          rw [getD_setG, getD_setG]
          by_cases e : id.toNat = i
          · subst e
            rw [if_pos ⟨rfl, by rw [h.len]; exact hi2⟩, if_pos ⟨rfl, hi2⟩]
            have hat : at_.toNat < (seg.enc ((a.fs.getD id.toNat default).b.seg w.first)).length := by rw [seg_len]; omega
            refine ⟨r.back, rfl, r.rng, r.flt, (fun e => nomatch e), fun e => ?_, fun e => ?_, by rw [List.length_set]; exact r.len, r.ok⟩
            · have hb : by_ = 0 := by simpa using e
              rw [hown, hb, xor0, set_own hat]
            · have hb : by_ ≠ 0 := by simpa using e
              rw [hown]
              exact seg.dec_seen hat (xor_ne0 hb)
          · rw [if_neg (fun h => e h.1), if_neg (fun h => e h.1)]
            exact h.fs i hi2
  | carry id =>
    show (carryF w id).2 = (carryA a id).2 ∧ Rel (carryF w id).1 (carryA a id).1
    have ht := taken_rel h id false
    have hco := carry_ofS k (N := N) (by simp only [given] at hN; omega) (id := id)
    unfold carryF carryA
    cases hta : takenA a id false with
    | inl e =>
      rw [hta] at ht
      simp only at ht ⊢
      rw [ht.1, if_pos ht.2]
      exact ⟨rfl, h⟩
    | inr b =>
      rw [hta] at ht
      simp only at ht ⊢
      obtain ⟨h1, h2, h3, h4, h5⟩ := ht
      cases b with
      | bwd t => exact nomatch h2
      | fwd t =>
        rw [h1] at hco
        obtain ⟨F, hF, hof⟩ := hco rfl
        rw [h1]
        simp only
        have hq : pl w.first ((Bd.fwd t).seg w.first).q w.he.done = t.from_ := by
          have d0 := k.he.ok.may.d0
          have d1 := k.he.ok.dle
          have d2 := k.he.ok.dat
          have d3 := k.he.ok.cap
          exact pl_mk k.f h3.1 d0 (by have := h3.2; have := h3.1; omega)
        have hd : ((Bd.fwd t).seg w.first).d = t.data := rfl
        have hfn : seg.bt ((Bd.fwd t).seg w.first).f 1 = t.fin := bt_fin t.fin
        rw [hq, hd, hfn] at hof
        rw [hq, hd, hfn, if_neg (fun h => h trivial), if_neg (by have := h3.1; omega)]
        obtain ⟨k1, t1, ao⟩ := k.hear (N := N) (by simp only [given] at hN; omega) hof
        have hb := said_small k.he.ok ao
        rw [← hhe]
        exact reply_rel (w := { w with he := (recv.doF w.he (.arr t.from_ t.data t.fin)).1 }) (a := { a with he := (recv.doF w.he (.arr t.from_ t.data t.fin)).1 }) (h.same rfl hse rfl rfl rfl) t1 hb
  | back id =>
    have key : (heardF w id).2 = (heardA a id).2 ∧ Rel (heardF w id).1 (heardA a id).1 := by
      have ht := taken_rel h id true
      unfold heardF heardA
      cases hta : takenA a id true with
      | inl e =>
        rw [hta] at ht
        simp only at ht ⊢
        rw [ht.1, if_pos ht.2]
        exact ⟨rfl, h⟩
      | inr b =>
        rw [hta] at ht
        simp only at ht ⊢
        obtain ⟨h1, h2, h3, h4, h5⟩ := ht
        cases b with
        | fwd t => exact nomatch h2
        | bwd t =>
          rw [h1]
          simp only
          have hq : pl w.first ((Bd.bwd t).seg w.first).a w.se.done = t.ack := pl_mk k.f h3.1.1 hdn.1 (by have := h3.1.2; have := h3.1.1; omega)
          have hs : ((Bd.bwd t).seg w.first).sk.map (plR w.first w.se.done) = t.sacks := map_back k.f hdn t.sacks h3.2
          have hno : ¬ (pl w.first ((Bd.bwd t).seg w.first).a w.se.done < 0 ∨ ∃ r ∈ ((Bd.bwd t).seg w.first).sk, pl w.first r.1 w.se.done < 0 ∨ pl w.first r.2 w.se.done < 0) := by
            rintro (c | ⟨r, hr, c⟩)
            · rw [hq] at c; have := h3.1.1; omega
            · have hm : plR w.first w.se.done r ∈ t.sacks := by rw [← hs]; exact List.mem_map.2 ⟨r, hr, rfl⟩
              have := h3.2 _ hm
              unfold plR at this
              simp only at this
              omega
          rw [if_neg (fun h => h trivial), if_neg hno]
          have hd : heardD w.first w.se.done ((Bd.bwd t).seg w.first) = .heard t.ack t.window t.sacks := by
            unfold heardD
            rw [hq, hs]
            rfl
          rw [hd, hse]
          exact ⟨rfl, h.same rfl rfl hhe rfl rfl⟩
    exact ⟨by show ({ (heardF w id).2 with left := (heardF w id).1.se.left } : Pa) = { (heardA a id).2 with left := (heardA a id).1.se.left }; rw [key.1, key.2.se], key.2⟩
  | drain n =>
    obtain ⟨k1, t1, ao⟩ := k.hear (N := N) (a := .take n) (by simp only [given] at hN; omega) ho
    have hb := said_small k.he.ok ao
    show (replyF _ _).2 = (replyA _ _).2 ∧ Rel (replyF _ _).1 (replyA _ _).1
    rw [← hhe]
    exact reply_rel (w := { w with he := (recv.doF w.he (.take n)).1 }) (a := { a with he := (recv.doF w.he (.take n)).1 }) (h.same rfl hse rfl rfl rfl) t1 hb
theorem runs_rel : ∀ (l : List Ho) {w : Wi} {a : Aw} {N : Nat}, Rel w a → WOk w N → N + (l.map given).sum ≤ 30000 → (∀ x ∈ l, HoOk x) → runs w l = runsA a l ∧ Rel (ends w l) (endsA a l)
  | [], w, a, N, h, _, _, _ => ⟨rfl, h⟩
  | x :: l, w, a, N, h, k, hs, ho => by
    rw [List.map_cons, List.sum_cons] at hs
    obtain ⟨h1, h2⟩ := doF_rel h k x (by omega) (ho x (List.mem_cons_self ..))
    have k1 := k.step x (by omega) (ho x (List.mem_cons_self ..))
    obtain ⟨h3, h4⟩ := runs_rel l h2 k1 (by omega) (fun y hy => ho y (List.mem_cons_of_mem _ hy))
    exact ⟨by show _ :: _ = _ :: _; rw [h1, h3], h4⟩
theorem Rel.new (first room : Int) : Rel (newW first room) (newA room) := ⟨rfl, rfl, rfl, fun i hi => by have : i < 0 := hi; omega⟩
/-- where serials begin does not matter -/
theorem serial_law {first other room : Int} (hf : 0 ≤ first ∧ first < 65536) (hg : 0 ≤ other ∧ other < 65536) (hr : 1 ≤ room ∧ room ≤ 4096) {H : List HoM} (hL : LOk H) : runs (newW first room) (H.map toHo) = runs (newW other room) (H.map toHo) := by
  have hs := hL.s
  have ho : ∀ x ∈ H.map toHo, HoOk x := fun x hx => by
    obtain ⟨m, hm, rfl⟩ := List.mem_map.1 hx
    exact hL.o m hm
  rw [(runs_rel _ (Rel.new first room) (WOk.new hf hr) (by omega) ho).1, (runs_rel _ (Rel.new other room) (WOk.new hg hr) (by omega) ho).1]
end pipe
end Go.Proofs.Ytcllddkhnbnigaa
