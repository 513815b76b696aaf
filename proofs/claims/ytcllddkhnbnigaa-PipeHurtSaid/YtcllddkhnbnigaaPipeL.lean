/-
  THE WIRE'S LAWS, IN PLAIN LEAN: what comes out is what went in (PipeTrue); nothing comes of nothing (PipeQuiet).
-/
import Derived.Test.YtcllddkhnbnigaaPipeI
namespace Go.Proofs.Ytcllddkhnbnigaa
set_option linter.unusedVariables false
set_option linter.unusedSimpArgs false
namespace pipe
open hole
structure Step (w : Wi) (h : Ho) (w' : Wi) (p : Pa) : Prop where
  gin : (∃ b, h = .give b ∧ p.code = 0 ∧ w'.se.data = w.se.data ++ b) ∨ ((∀ b, h = .give b → ¬ p.code = 0) ∧ w'.se.data = w.se.data)
  clo : w.se.closed = true → w'.se.closed = true ∧ w'.se.data = w.se.data
  cls : w'.se.closed = true → w.se.closed = true ∨ (h = .shut ∧ p.code = 0)
  out : (∀ n, h ≠ .drain n) → w'.he.taken = w.he.taken
  dra : ∀ n, h = .drain n → w'.he.taken = w.he.taken + p.data.length ∧ p.data = (w.se.data.drop w.he.taken.toNat).take p.data.length ∧ w'.he.taken ≤ w.se.data.length
  fin : p.fin = true → w'.se.closed = true ∧ w'.he.taken = w'.se.data.length
/-- a step in which who sends keeps what it has, and nothing is taken -/
theorem Step.calm {w w' : Wi} {h : Ho} {p : Pa} (hg : ∀ b, h ≠ .give b) (hd : ∀ n, h ≠ .drain n) (h1 : w'.se.data = w.se.data) (h2 : w'.se.closed = w.se.closed) (h3 : w'.he.taken = w.he.taken) (hf : p.fin = false) : Step w h w' p :=
  ⟨.inr ⟨fun b e => absurd e (hg b), h1⟩, fun e => ⟨by rw [h2]; exact e, h1⟩, fun e => .inl (by rw [← h2]; exact e), fun _ => h3, fun n e => absurd e (hd n), fun e => by rw [hf] at e; exact nomatch e⟩
theorem poll_same (s : send.Se) : (send.doF s .poll).1.data = s.data ∧ (send.doF s .poll).1.closed = s.closed := by
  show (send.pollF s).1.data = s.data ∧ (send.pollF s).1.closed = s.closed
  unfold send.pollF
  split
  · exact ⟨rfl, rfl⟩
  · split <;> exact ⟨rfl, rfl⟩
theorem timeout_same (s : send.Se) : (send.doF s .timeout).1.data = s.data ∧ (send.doF s .timeout).1.closed = s.closed := by
  show (send.timeoutF s).data = s.data ∧ (send.timeoutF s).closed = s.closed
  unfold send.timeoutF
  split <;> exact ⟨rfl, rfl⟩
theorem heard_same {s : send.Se} (k : send.SOk s) (a v : Int) (l : List R) : (send.doF s (.heard a v l)).1.data = s.data ∧ (send.doF s (.heard a v l)).1.closed = s.closed := by
  rcases send.heard_spec k a v l with ⟨h, _⟩ | ⟨_, h⟩
  · exact ⟨congrArg send.Se.data h, congrArg send.Se.closed h⟩
  · exact ⟨h.data, h.closed⟩
theorem WOk.said {w : Wi} {N : Nat} (k : WOk w N) (h : Ho) (hN : N + given h ≤ 30000) (ho : HoOk h) : Step w h (doF w h).1 (doF w h).2 := by
  have hl := k.len
  cases h with
  | give b =>
    have e : (doF w (.give b)) = ({ w with se := (send.submitF w.se b).2 }, ⟨(send.submitF w.se b).1, false, 0, [], false, (send.submitF w.se b).2.left⟩) := rfl
    rw [e]
    unfold send.submitF
    by_cases c1 : w.se.closed = true
    · rw [if_pos c1]
      exact ⟨.inr ⟨fun _ _ (h : (10 : Int) = 0) => by omega, rfl⟩, fun h => ⟨h, rfl⟩, fun h => .inl h, fun _ => rfl, fun _ h => (nomatch h), fun h => (nomatch h)⟩
    · rw [if_neg c1]
      by_cases c2 : 4096 < b.length
      · rw [if_pos c2]
        exact ⟨.inr ⟨fun _ _ (h : (1 : Int) = 0) => by omega, rfl⟩, fun h => ⟨h, rfl⟩, fun h => .inl h, fun _ => rfl, fun _ h => (nomatch h), fun h => (nomatch h)⟩
      · rw [if_neg c2]
        by_cases c3 : 1048576 ≤ w.se.data.length + b.length
        · rw [if_pos c3]
          exact ⟨.inr ⟨fun _ _ (h : (9 : Int) = 0) => by omega, rfl⟩, fun h => ⟨h, rfl⟩, fun h => .inl h, fun _ => rfl, fun _ h => (nomatch h), fun h => (nomatch h)⟩
        · rw [if_neg c3]
          exact ⟨.inl ⟨b, rfl, rfl, rfl⟩, fun h => absurd h c1, fun h => .inl h, fun _ => rfl, fun _ h => (nomatch h), fun h => (nomatch h)⟩
  | shut =>
    refine ⟨.inr ⟨fun b h => (nomatch h), rfl⟩, fun h => ⟨rfl, rfl⟩, fun _ => ?_, fun _ => rfl, fun _ h => (nomatch h), fun h => (nomatch h)⟩
    cases hc : w.se.closed with
    | true => exact .inl rfl
    | false =>
      refine .inr ⟨rfl, ?_⟩
      show (if w.se.closed = true then (10 : Int) else 0) = 0
      rw [hc]; rfl
  | expire =>
    obtain ⟨h1, h2⟩ := timeout_same w.se
    exact Step.calm (fun _ h => (nomatch h)) (fun _ h => (nomatch h)) h1 h2 rfl rfl
  | send =>
    obtain ⟨h1, h2⟩ := poll_same w.se
    show Step w .send (sendF w).1 (sendF w).2
    unfold sendF
    split
    · exact Step.calm (fun _ h => (nomatch h)) (fun _ h => (nomatch h)) h1 h2 rfl rfl
    · exact Step.calm (fun _ h => (nomatch h)) (fun _ h => (nomatch h)) h1 h2 rfl rfl
  | hit id a b =>
    show Step w _ (hitF w id a b).1 (hitF w id a b).2
    unfold hitF
    repeat (first | exact Step.calm (fun _ h => (nomatch h)) (fun _ h => (nomatch h)) rfl rfl rfl rfl | split)
  | carry id =>
    show Step w _ (carryF w id).1 (carryF w id).2
    unfold carryF
    split
    · exact Step.calm (fun _ h => (nomatch h)) (fun _ h => (nomatch h)) rfl rfl rfl rfl
    · rename_i c
      split
      · exact Step.calm (fun _ h => (nomatch h)) (fun _ h => (nomatch h)) rfl rfl rfl rfl
      · obtain ⟨F, hF, hof⟩ := carry_ofS k (by simp only [given] at hN; omega) (Decidable.not_not.1 c)
        have st := k.he.step (by omega) hof
        have ht : (recv.doF w.he (.arr (pl w.first (takenF w id false).2.q w.he.done) (takenF w id false).2.d (seg.bt (takenF w id false).2.f 1))).1.taken = w.he.taken := by
          rw [st.took]
          show w.he.taken + (([] : List UInt8).length : Int) = _
          simp
        unfold replyF
        split
        · exact Step.calm (fun _ h => (nomatch h)) (fun _ h => (nomatch h)) rfl rfl ht rfl
        · exact Step.calm (fun _ h => (nomatch h)) (fun _ h => (nomatch h)) rfl rfl ht rfl
  | back id =>
    have e : ∀ p : Wi × Pa, p = heardF w id → p.1.se.data = w.se.data ∧ p.1.se.closed = w.se.closed ∧ p.1.he = w.he ∧ p.2.fin = false := by
      rintro p rfl
      unfold heardF
      split
      · exact ⟨rfl, rfl, rfl, rfl⟩
      · split
        · exact ⟨rfl, rfl, rfl, rfl⟩
        · obtain ⟨h1, h2⟩ := heard_same k.se (pl w.first (takenF w id true).2.a w.se.done) (takenF w id true).2.w ((takenF w id true).2.sk.map (plR w.first w.se.done))
          exact ⟨h1, h2, rfl, rfl⟩
    obtain ⟨h1, h2, h3, h4⟩ := e _ rfl
    exact Step.calm (fun _ h => (nomatch h)) (fun _ h => (nomatch h)) h1 h2 (congrArg recv.He.taken h3) h4
  | drain n =>
    have st := k.he.step (a := .take n) (by omega) ho
    have hc : (recv.doF w.he (.take n)).2.code = 0 := rfl
    have e : doF w (.drain n) = (({ w with he := (recv.doF w.he (.take n)).1 } : Wi).put (segR w.first (recv.doF w.he (.take n)).2) true, ⟨0, true, w.fs.length, (recv.doF w.he (.take n)).2.data, (recv.doF w.he (.take n)).2.fin, 0⟩) := by
      show replyF { w with he := (recv.doF w.he (.take n)).1 } (recv.doF w.he (.take n)).2 = _
      unfold replyF
      rw [if_neg (fun h => h hc)]
    rw [e]
    exact ⟨.inr ⟨fun _ h => (nomatch h), rfl⟩, fun h => ⟨h, rfl⟩, fun h => .inl h, fun h => absurd rfl (h n), fun m hm => ⟨st.took, st.data, st.le⟩, fun h => st.fin h⟩
def shutB (H : List HoM) (T : List PaM) : Nat → Bool
  | 0 => false
  | k + 1 => shutB H T k || (decide ((H.getD k default).kind = 2) && decide ((T.getD k default).p.code = 0))
theorem toHo_give {m : HoM} (b : List UInt8) (hk : HMOk m) : toHo m = .give b ↔ m.kind = 1 ∧ m.d.l = b := by
  obtain ⟨k, d, id, a, y, c⟩ := m
  have := hk.kind
  simp only at this
  rcases (show k = 1 ∨ k = 2 ∨ k = 3 ∨ k = 4 ∨ k = 5 ∨ k = 6 ∨ k = 7 ∨ k = 8 by omega) with rfl | rfl | rfl | rfl | rfl | rfl | rfl | rfl <;> simp [toHo]
theorem toHo_drain {m : HoM} (n : Int) (hk : HMOk m) : toHo m = .drain n ↔ m.kind = 8 ∧ m.cnt = n := by
  obtain ⟨k, d, id, a, y, c⟩ := m
  have := hk.kind
  simp only at this
  rcases (show k = 1 ∨ k = 2 ∨ k = 3 ∨ k = 4 ∨ k = 5 ∨ k = 6 ∨ k = 7 ∨ k = 8 by omega) with rfl | rfl | rfl | rfl | rfl | rfl | rfl | rfl <;> simp [toHo]
theorem toHo_shut {m : HoM} (hk : HMOk m) : toHo m = .shut ↔ m.kind = 2 := by
  obtain ⟨k, d, id, a, y, c⟩ := m
  have := hk.kind
  simp only at this
  rcases (show k = 1 ∨ k = 2 ∨ k = 3 ∨ k = 4 ∨ k = 5 ∨ k = 6 ∨ k = 7 ∨ k = 8 by omega) with rfl | rfl | rfl | rfl | rfl | rfl | rfl | rfl <;> simp [toHo]
/-- the wire behind the first k hops -/
structure At (first room : Int) (H : List HoM) (T : List PaM) (k : Nat) (w : Wi) : Prop where
  ok : WOk w (((H.map toHo).take k).map given).sum
  ins : givenIn H T k = w.se.data
  outs : givenOut H T k = w.se.data.take w.he.taken.toNat
  le : w.he.taken ≤ w.se.data.length
  clo : w.se.closed = true → shutB H T k = true
theorem said_at {first room : Int} {H : List HoM} {T : List PaM} (hL : LOk H) (hT : T.map (·.p) = runs (newW first room) (H.map toHo)) {k : Nat} (hk : k < H.length) : (T.getD k default).p = (doF (ends (newW first room) ((H.map toHo).take k)) (toHo (H.getD k default))).2 := by
  have hLl : (H.map toHo).length = H.length := List.length_map ..
  have hTl : T.length = H.length := by
    have := congrArg List.length hT
    rw [runs_len, List.length_map, List.length_map] at this
    exact this
  obtain ⟨hr, he⟩ := takes_cons (newW first room) (H.map toHo) k (by omega)
  have hak : (H.map toHo).getD k default = toHo (H.getD k default) := by
    rw [List.getD_eq_getElem?_getD, List.getElem?_map, List.getD_eq_getElem?_getD, List.getElem?_eq_getElem hk]; rfl
  rw [hak] at hr he
  have h1 : (T.map (·.p)).getD k default = (T.getD k default).p := by
    rw [List.getD_eq_getElem?_getD, List.getElem?_map, List.getD_eq_getElem?_getD, List.getElem?_eq_getElem (show k < T.length by omega)]; rfl
  have h2 : (runs (newW first room) (H.map toHo)).getD k default = (runs (newW first room) ((H.map toHo).take (k + 1))).getD k default := by
    conv => lhs; rw [← List.take_append_drop (k + 1) (H.map toHo), runs_app]
    rw [List.getD_eq_getElem?_getD, List.getD_eq_getElem?_getD, List.getElem?_append_left (by rw [runs_len, List.length_take]; omega)]
  rw [← h1, hT, h2, hr, List.getD_eq_getElem?_getD, List.getElem?_append_right (by rw [runs_len, List.length_take]; omega), runs_len, List.length_take, Nat.min_eq_left (by omega), Nat.sub_self]
  rfl
theorem at_step {first room : Int} {H : List HoM} {T : List PaM} (hL : LOk H) (hT : T.map (·.p) = runs (newW first room) (H.map toHo)) {k : Nat} (hk : k < H.length) (a : At first room H T k (ends (newW first room) ((H.map toHo).take k))) :
    Step (ends (newW first room) ((H.map toHo).take k)) (toHo (H.getD k default)) (ends (newW first room) ((H.map toHo).take (k + 1))) (T.getD k default).p ∧ At first room H T (k + 1) (ends (newW first room) ((H.map toHo).take (k + 1))) := by
  have hLl : (H.map toHo).length = H.length := List.length_map ..
  have hTl : T.length = H.length := by
    have := congrArg List.length hT
    rw [runs_len, List.length_map, List.length_map] at this
    exact this
  obtain ⟨hr, he⟩ := takes_cons (newW first room) (H.map toHo) k (by omega)
  have hak : (H.map toHo).getD k default = toHo (H.getD k default) := by
    rw [List.getD_eq_getElem?_getD, List.getElem?_map, List.getD_eq_getElem?_getD, List.getElem?_eq_getElem hk]; rfl
  rw [hak] at hr he
  have hmem := getD_memH H k hk
  have hm := hL.m _ hmem
  have ho := hL.o _ hmem
  have hst := sum_take ((H.map toHo).map given) k (by rw [List.length_map]; omega)
  rw [show ((H.map toHo).map given).getD k 0 = given (toHo (H.getD k default)) by rw [← hak, List.getD_eq_getElem?_getD, List.getElem?_map, List.getD_eq_getElem?_getD, List.getElem?_eq_getElem (show k < (H.map toHo).length by omega)]; rfl, ← List.map_take] at hst
  have hLs := hL.s
  have hsum : (((H.map toHo).take (k + 1)).map given).sum = (((H.map toHo).take k).map given).sum + given (toHo (H.getD k default)) := by
    rw [List.take_succ_eq_append_getElem (show k < (H.map toHo).length by omega), List.map_append, List.sum_append, ← hak, List.getD_eq_getElem?_getD, List.getElem?_eq_getElem (show k < (H.map toHo).length by omega)]
    simp
  have hp := said_at hL hT hk
  have st := a.ok.said (toHo (H.getD k default)) (by omega) ho
  have k1 := a.ok.step (toHo (H.getD k default)) (by omega) ho
  rw [← he, ← hp] at st
  rw [← he, ← hsum] at k1
  refine ⟨st, ⟨k1, ?_, ?_, ?_, ?_⟩⟩
  · rcases st.gin with ⟨b, hb, hc, hd⟩ | ⟨hb, hd⟩
    · obtain ⟨h1, h2⟩ := (toHo_give b hm).1 hb
      rw [show givenIn H T (k + 1) = givenIn H T k ++ (H.getD k default).d.l from if_pos ⟨h1, hc⟩, a.ins, h2, hd]
    · rw [show givenIn H T (k + 1) = givenIn H T k from if_neg (fun h => hb _ ((toHo_give _ hm).2 ⟨h.1, rfl⟩) h.2), a.ins, hd]
  · have hdat : ∀ n : Nat, n ≤ (ends (newW first room) ((H.map toHo).take k)).se.data.length → (ends (newW first room) ((H.map toHo).take (k + 1))).se.data.take n = (ends (newW first room) ((H.map toHo).take k)).se.data.take n := by
      intro n hn
      rcases st.gin with ⟨b, hb, hc, hd⟩ | ⟨hb, hd⟩
      · rw [hd, List.take_append_of_le_length hn]
      · rw [hd]
    have t0 := a.ok.he.ok.t0
    have hle := a.le
    by_cases c : (H.getD k default).kind = 8
    · obtain ⟨h1, h2, h3⟩ := st.dra _ ((toHo_drain _ hm).2 ⟨c, rfl⟩)
      rw [show givenOut H T (k + 1) = givenOut H T k ++ (T.getD k default).p.data from if_pos c, a.outs, hdat _ (by omega), show (ends (newW first room) ((H.map toHo).take (k + 1))).he.taken.toNat = (ends (newW first room) ((H.map toHo).take k)).he.taken.toNat + (T.getD k default).p.data.length by omega, List.take_add, ← h2]
    · have := st.out (fun n h => c ((toHo_drain n hm).1 h).1)
      rw [show givenOut H T (k + 1) = givenOut H T k from if_neg c, a.outs, this, hdat _ (by omega)]
  · have hle := a.le
    have hge : (ends (newW first room) ((H.map toHo).take k)).se.data.length ≤ (ends (newW first room) ((H.map toHo).take (k + 1))).se.data.length := by
      rcases st.gin with ⟨b, hb, hc, hd⟩ | ⟨hb, hd⟩
      · rw [hd, List.length_append]; omega
      · rw [hd]; omega
    by_cases c : (H.getD k default).kind = 8
    · obtain ⟨h1, h2, h3⟩ := st.dra _ ((toHo_drain _ hm).2 ⟨c, rfl⟩)
      omega
    · have := st.out (fun n h => c ((toHo_drain n hm).1 h).1)
      omega
  · intro hc
    show (shutB H T k || (decide ((H.getD k default).kind = 2) && decide ((T.getD k default).p.code = 0))) = true
    rcases st.cls hc with h | ⟨h1, h2⟩
    · rw [a.clo h]; rfl
    · rw [decide_eq_true ((toHo_shut hm).1 h1), decide_eq_true h2]; simp
theorem at_all {first room : Int} {H : List HoM} {T : List PaM} (hf : 0 ≤ first ∧ first < 65536) (hr : 1 ≤ room ∧ room ≤ 4096) (hL : LOk H) (hT : T.map (·.p) = runs (newW first room) (H.map toHo)) : ∀ k : Nat, k ≤ H.length → At first room H T k (ends (newW first room) ((H.map toHo).take k))
  | 0, _ => ⟨WOk.new hf hr, rfl, rfl, Int.le_refl _, fun h => (nomatch h)⟩
  | k + 1, hk => (at_step hL hT (by omega) (at_all hf hr hL hT k (by omega))).2
theorem sum_bd (c : Nat) : ∀ l : List Nat, (∀ x ∈ l, x ≤ c) → l.sum ≤ c * l.length
  | [], _ => Nat.zero_le _
  | a :: l, h => by
    have h1 := h a (List.mem_cons_self ..)
    have h2 := sum_bd c l (fun x hx => h x (List.mem_cons_of_mem _ hx))
    rw [List.sum_cons, List.length_cons, Nat.mul_succ]; omega
theorem given_bd {m : HoM} (h : HBd m) : given (toHo m) ≤ 80 := by
  obtain ⟨k, d, id, a, y, c⟩ := m
  have h1 := h.k.kind
  have h2 := h.k.len
  have h3 := h.d
  simp only at h1 h2 h3
  rcases (show k = 1 ∨ k = 2 ∨ k = 3 ∨ k = 4 ∨ k = 5 ∨ k = 6 ∨ k = 7 ∨ k = 8 by omega) with rfl | rfl | rfl | rfl | rfl | rfl | rfl | rfl
  · show d.l.length ≤ 80; omega
  all_goals exact Nat.zero_le _
theorem LOk.of {H : List HoM} (h : ∀ m ∈ H, HBd m) (hn : H.length ≤ 300) : LOk H := by
  refine ⟨fun m hm => (h m hm).k, fun m hm => (h m hm).o, ?_, hn⟩
  have := sum_bd 80 ((H.map toHo).map given) (fun x hx => by
    obtain ⟨y, hy, rfl⟩ := List.mem_map.1 hx
    obtain ⟨m, hm, rfl⟩ := List.mem_map.1 hy
    exact given_bd (h m hm))
  rw [List.length_map, List.length_map] at this
  omega
/-- what is drained at once is little -/
theorem said_len {first room : Int} {H : List HoM} {T : List PaM} (hf : 0 ≤ first ∧ first < 65536) (hr : 1 ≤ room ∧ room ≤ 4096) (hL : LOk H) (hT : T.map (·.p) = runs (newW first room) (H.map toHo)) : ∀ m ∈ T, m.p.data.length ≤ 5000 := by
  have hTl : T.length = H.length := by
    have := congrArg List.length hT
    rw [runs_len, List.length_map, List.length_map] at this
    exact this
  intro m hm
  obtain ⟨i, hi, rfl⟩ := List.getElem_of_mem hm
  have a := at_all hf hr hL hT i (by omega)
  have hp := said_at hL hT (show i < H.length by omega)
  have hmem := getD_memH H i (by omega)
  rw [List.getD_eq_getElem?_getD, List.getElem?_eq_getElem hi] at hp
  simp only [Option.getD_some] at hp
  rw [hp]
  generalize ends (newW first room) ((H.map toHo).take i) = w at *
  have ho := hL.o _ hmem
  have hm2 := hL.m _ hmem
  have hst := sum_take ((H.map toHo).map given) i (by rw [List.length_map, List.length_map]; omega)
  have hLs := hL.s
  rw [← List.map_take] at hst
  have hNb : (((H.map toHo).take i).map given).sum ≤ 30000 := by omega
  generalize toHo (H.getD i default) = h at *
  cases h with
  | give b => exact Nat.zero_le _
  | shut => exact Nat.zero_le _
  | expire => exact Nat.zero_le _
  | send => rw [show (doF w .send).2.data = [] from send_nil w]; exact Nat.zero_le _
  | hit id a b => rw [show (doF w (.hit id a b)).2.data = [] from by show (hitF w id a b).2.data = []; rw [hit_no]; rfl]; exact Nat.zero_le _
  | carry id =>
    rw [show (doF w (.carry id)).2.data = [] from by
      show (carryF w id).2.data = []
      unfold carryF replyF
      repeat (first | rfl | split)]
    exact Nat.zero_le _
  | back id => rw [show (doF w (.back id)).2.data = [] from heard_nil w id]; exact Nat.zero_le _
  | drain n =>
    have num := (recv.said_num a.ok.he.ok (a := .take n) ho).2.2
    show (replyF { w with he := (recv.doF w.he (.take n)).1 } (recv.doF w.he (.take n)).2).2.data.length ≤ 5000
    unfold replyF
    split
    · exact Nat.zero_le _
    · show (recv.doF w.he (.take n)).2.data.length ≤ 5000; omega
end pipe
end Go.Proofs.Ytcllddkhnbnigaa
