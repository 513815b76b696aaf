/-
  PLAIN LAWS of who serves, over whole lists of requests.
-/
import Derived.Test.YtmceappjldcbmaaDoorServeL
namespace Go.Proofs.YtmceappjldcbmaaDoor
set_option linter.unusedVariables false
set_option linter.unusedSimpArgs false
namespace serve
open tree path msg
theorem told_small {t : Tr} (k : TrOk t) (c : Cnt t) (a : Ac) (m : Int) : ({ told (doF t a).2 with mark := m } : Rp).d.length ≤ 2048 ∧ ({ told (doF t a).2 with mark := m } : Rp).names.length ≤ 39 := small k c a
theorem svF_small {s : Sv} {N : Nat} (k : SvOk s N) (r : Rq) : (svF s r).2.d.length ≤ 2048 ∧ (svF s r).2.names.length ≤ 39 := by
  have hrp : ∀ (e m : Int), ({ rp e with mark := m } : Rp).d.length ≤ 2048 ∧ ({ rp e with mark := m } : Rp).names.length ≤ 39 := fun e m => ⟨Nat.zero_le _, Nat.zero_le _⟩
  have hop : ∀ (ps : List Pl) (t : Tr) (i : Nat) (m : Int), ({ (opened ps t i r).2 with mark := m } : Rp).d.length ≤ 2048 ∧ ({ (opened ps t i r).2 with mark := m } : Rp).names.length ≤ 39 := fun ps t i m => ⟨Nat.zero_le _, Nat.zero_le _⟩
  unfold svF replyF
  simp only
  split
  · exact told_small k.tr k.cn _ _
  split
  · unfold openF
    split
    · exact hrp _ _
    split
    · exact hrp _ _
    split
    · exact hrp _ _
    split
    · exact hrp _ _
    split
    · split
      · exact hrp _ _
      · exact hop s.ps (doF s.t (fileA r.path)).1 _ _
    split
    · exact hrp _ _
    · exact hop s.ps s.t _ _
  split
  · unfold handleF
    split
    · exact hrp _ _
    split
    · exact hrp _ _
    split
    · exact hrp _ _
    split
    · exact hrp _ _
    split
    · exact hrp _ _
    split
    · exact told_small k.tr k.cn _ _
    · exact told_small k.tr k.cn _ _
  · exact hrp _ _
theorem sruns_small : ∀ {s : Sv} {N : Nat} (l : List Rq), SvOk s N → (∀ r ∈ l, RqOk r) → ∀ x ∈ sruns s l, x.d.length ≤ 2048 ∧ x.names.length ≤ 39
  | s, N, [], _, _, x, hx => nomatch hx
  | s, N, r :: l, k, h, x, hx => by
    rcases List.mem_cons.1 hx with rfl | hx
    · exact svF_small k r
    · exact sruns_small l (k.do_ (h r (List.mem_cons_self ..))) (fun q hq => h q (List.mem_cons_of_mem _ hq)) x hx
theorem svF_hb {s : Sv} {N : Nat} (k : SvOk s N) (r : Rq) : (svF s r).2.handle ≤ 7 + 8 * (N : Int) := by
  have hrp : ∀ (e m : Int), ({ rp e with mark := m } : Rp).handle ≤ 7 + 8 * (N : Int) := fun e m => by show (0 : Int) ≤ _; omega
  have htd : ∀ (x : Sn) (m : Int), ({ told x with mark := m } : Rp).handle ≤ 7 + 8 * (N : Int) := fun e m => by show (0 : Int) ≤ _; omega
  have hop : ∀ (t : Tr) (i : Nat) (m : Int), i < 8 → ({ (opened s.ps t i r).2 with mark := m } : Rp).handle ≤ 7 + 8 * (N : Int) := fun t i m hi => by
    have hf : (s.ps.getD i default).freed ≤ N := freed_at k.freed
    show (i : Int) + 8 * ((s.ps.getD i default).freed : Int) ≤ _
    omega
  unfold svF replyF
  simp only
  split
  · exact htd _ _
  split
  · unfold openF
    split
    · exact hrp _ _
    split
    · exact hrp _ _
    rename_i i hv
    obtain ⟨_, hi, _⟩ := vac_some hv
    rw [Nat.zero_add, k.len] at hi
    split
    · exact hrp _ _
    split
    · exact hrp _ _
    split
    · split
      · exact hrp _ _
      · exact hop (doF s.t (fileA r.path)).1 _ _ hi
    split
    · exact hrp _ _
    · exact hop s.t _ _ hi
  split
  · unfold handleF
    split
    · exact hrp _ _
    split
    · exact hrp _ _
    split
    · exact hrp _ _
    split
    · exact hrp _ _
    split
    · exact hrp _ _
    split
    · exact htd _ _
    · exact htd _ _
  · exact hrp _ _
theorem sruns_hb : ∀ {s : Sv} {N : Nat} (l : List Rq), SvOk s N → (∀ r ∈ l, RqOk r) → ∀ x ∈ sruns s l, x.handle ≤ 7 + 8 * ((N + l.length : Nat) : Int)
  | s, N, [], _, _, x, hx => nomatch hx
  | s, N, r :: l, k, h, x, hx => by
    rcases List.mem_cons.1 hx with rfl | hx
    · have := svF_hb k r
      rw [List.length_cons]; omega
    · have := sruns_hb l (k.do_ (h r (List.mem_cons_self ..))) (fun q hq => h q (List.mem_cons_of_mem _ hq)) x hx
      rw [List.length_cons]; omega
theorem getD_app_left {α : Type} [Inhabited α] (l m : List α) (i : Nat) (h : i < l.length) : (l ++ m).getD i default = l.getD i default := by
  rw [List.getD_eq_getElem?_getD, List.getElem?_append_left h, List.getD_eq_getElem?_getD]
theorem getD_app_right {α : Type} [Inhabited α] (l m : List α) (i : Nat) (h : l.length ≤ i) : (l ++ m).getD i default = m.getD (i - l.length) default := by
  rw [List.getD_eq_getElem?_getD, List.getElem?_append_right h, List.getD_eq_getElem?_getD]
theorem openR_ok {p : Nm} {how : Int} (hp : p.length ≤ 1000000) (h0 : 0 ≤ how) (h1 : how ≤ 31) : RqOk (openR p how) := ⟨hp, Nat.zero_le _, Nat.zero_le _, h0, h1⟩
theorem plain_ok {r : Rq} (h1 : r.path = []) (h2 : r.to_ = []) (h3 : r.data.length ≤ 1000000) (h4 : r.how = 0) : RqOk r := ⟨by rw [h1]; exact Nat.zero_le _, by rw [h2]; exact Nat.zero_le _, h3, by rw [h4]; decide, by rw [h4]; decide⟩
theorem shutR_ok (h : Int) : RqOk (shutR h) := plain_ok rfl rfl (Nat.zero_le _) rfl
theorem readR_ok (h k n : Int) : RqOk (readR h k n) := plain_ok rfl rfl (Nat.zero_le _) rfl
theorem writeR_ok (h k : Int) (d : List UInt8) (hd : d.length ≤ 1000000) : RqOk (writeR h k d) := plain_ok rfl rfl hd rfl
theorem delR_ok : RqOk (delR zzP) := ⟨by decide, Nat.zero_le _, Nat.zero_le _, Int.le_refl _, (by decide : (0 : Int) ≤ 31)⟩
/-- who asks for an old handle, at the end -/
def oldT (h : Int) (K : Nat) : List Rq := [shutR h] ++ List.replicate K (openR zzP 7) ++ [readR h 0 1, shutR h]
theorem oldT_len (h : Int) (K : Nat) : (oldT h K).length = K + 3 := by unfold oldT; simp <;> omega
theorem oldT_ok (h : Int) (K : Nat) : ∀ r ∈ oldT h K, RqOk r := fun r hr => by
  unfold oldT at hr
  rcases List.mem_append.1 hr with hr | hr
  · rcases List.mem_append.1 hr with hr | hr
    · rw [List.mem_singleton.1 hr]; exact shutR_ok h
    · rw [List.eq_of_mem_replicate hr]; exact openR_ok (by decide) (by decide) (by decide)
  · simp only [List.mem_cons, List.not_mem_nil, or_false] at hr
    rcases hr with rfl | rfl
    · exact readR_ok _ _ _
    · exact shutR_ok h
theorem old_all (R : List Rq) (hR : ∀ r ∈ R, RqOk r) (hA : ∀ r ∈ R, RqA r) (K : Nat) :
    let x := (sruns svNew (R ++ [delR zzP, openR zzP 7])).getD (R.length + 1) default
    x.code = 9 ∨ (x.code = 0 ∧ (∀ i, R.length + 2 ≤ i → i < R.length + 2 + (K + 3) → ((R ++ [delR zzP, openR zzP 7] ++ oldT x.handle K).getD i default).kind = 1 → ((sruns svNew (R ++ [delR zzP, openR zzP 7] ++ oldT x.handle K)).getD i default).code = 0 → ¬ ((sruns svNew (R ++ [delR zzP, openR zzP 7] ++ oldT x.handle K)).getD i default).handle = x.handle) ∧
      ((sruns svNew (R ++ [delR zzP, openR zzP 7] ++ oldT x.handle K)).getD (R.length + K + 4) default).code = 17 ∧ ((sruns svNew (R ++ [delR zzP, openR zzP 7] ++ oldT x.handle K)).getD (R.length + K + 3) default).code = 17) := by
  have k := SvOk.ends R SvOk.new hR
  have hab := abcd_ends (s := svNew) R Abcd.new hA
  have h := old_law k hab
  simp only at h ⊢
  have e : (sruns svNew (R ++ [delR zzP, openR zzP 7])).getD (R.length + 1) default = (svF (svF (sends svNew R) (delR zzP)).1 (openR zzP 7)).2 := by
    rw [sruns_app, getD_app_right _ _ _ (by rw [sruns_len]; omega), sruns_len, Nat.add_sub_cancel_left]; rfl
  rw [e]
  rcases h with h | ⟨h0, i, f, hi, hh, ho⟩
  · exact .inl h
  · refine .inr ⟨h0, ?_⟩
    have hk2 := ((k.do_ delR_ok).do_ (openR_ok (p := zzP) (how := 7) (by decide) (by decide) (by decide)))
    rw [hh] at ho ⊢
    generalize hs2 : (svF (svF (sends svNew R) (delR zzP)).1 (openR zzP 7)).1 = s2 at ho hk2
    have hse : sends svNew (R ++ [delR zzP, openR zzP 7]) = s2 := by rw [sends_app]; exact hs2
    have hlen : (sruns svNew (R ++ [delR zzP, openR zzP 7])).length = R.length + 2 := by rw [sruns_len]; simp
    have hl2 : (R ++ [delR zzP, openR zzP 7]).length = R.length + 2 := by simp
    have hk3 := hk2.do_ (shutR_ok (hnd i f))
    have at_ : ∀ q, R.length + 2 ≤ q → (sruns svNew (R ++ [delR zzP, openR zzP 7] ++ oldT (hnd i f) K)).getD q default = (sruns s2 (oldT (hnd i f) K)).getD (q - (R.length + 2)) default := fun q hq => by
      rw [sruns_app, getD_app_right _ _ _ (by rw [hlen]; exact hq), hlen, hse]
    have hrs : sruns s2 (oldT (hnd i f) K) = (svF s2 (shutR (hnd i f))).2 :: sruns (svF s2 (shutR (hnd i f))).1 (List.replicate K (openR zzP 7) ++ [readR (hnd i f) 0 1, shutR (hnd i f)]) := rfl
    have hok : ∀ r ∈ List.replicate K (openR zzP 7) ++ [readR (hnd i f) 0 1, shutR (hnd i f)], RqOk r := fun r hr => oldT_ok (hnd i f) K r (by unfold oldT; rw [List.append_assoc]; exact List.mem_append_right _ hr)
    have hb := sends_app (svF s2 (shutR (hnd i f))).1 (List.replicate K (openR zzP 7)) [readR (hnd i f) 0 1, shutR (hnd i f)]
    have hO1 := Old.ends (List.replicate K (openR zzP 7)) ho
    generalize hs3 : sends (svF s2 (shutR (hnd i f))).1 (List.replicate K (openR zzP 7)) = s3 at hO1
    have last : ∀ q, q < 2 → (sruns s2 (oldT (hnd i f) K)).getD (K + 1 + q) default = (sruns s3 [readR (hnd i f) 0 1, shutR (hnd i f)]).getD q default := fun q hq => by
      rw [hrs, show K + 1 + q = (K + q) + 1 by omega, List.getD_cons_succ, sruns_app, getD_app_right _ _ _ (by rw [sruns_len, List.length_replicate]; omega), sruns_len, List.length_replicate, Nat.add_sub_cancel_left, hs3]
    refine ⟨fun q hq hq2 hkind hcode => ?_, ?_, ?_⟩
    · rw [at_ q hq] at hcode ⊢
      rw [getD_app_right _ _ _ (by rw [hl2]; exact hq), hl2] at hkind
      obtain ⟨z, hz⟩ : ∃ z, q - (R.length + 2) = z := ⟨_, rfl⟩
      rw [hz] at hkind hcode ⊢
      cases z with
      | zero => exact absurd hkind (by show ¬ (2 : Int) = 1; decide)
      | succ z =>
        rw [hrs, List.getD_cons_succ] at hcode ⊢
        exact Old.runs _ hk3 hok ho hi z (by rw [List.length_append, List.length_replicate]; simp only [List.length_cons, List.length_nil]; omega) hkind hcode
    · rw [at_ _ (by omega), show R.length + K + 4 - (R.length + 2) = K + 1 + 1 by omega, last 1 (by decide)]
      exact (hO1.do_ (readR (hnd i f) 0 1)).told hi (r := shutR (hnd i f)) ⟨by show (2 : Int) ≤ 2; decide, by show (2 : Int) ≤ 4; decide⟩ rfl
    · rw [at_ _ (by omega), show R.length + K + 3 - (R.length + 2) = K + 1 + 0 by omega, last 0 (by decide)]
      exact hO1.told hi (r := readR (hnd i f) 0 1) ⟨by show (2 : Int) ≤ 3; decide, by show (3 : Int) ≤ 4; decide⟩ rfl
/-- room for handles -/
def shuts (n : Nat) : List Rq := (List.range n).map fun i : Nat => shutR (i : Int)
theorem shuts_ok (n : Nat) : (∀ r ∈ shuts n, RqOk r) ∧ ∀ r ∈ shuts n, RqA r := by
  have nil : ∀ x ∈ (walkF [] []).1, x ∈ abcd := fun x hx => by rw [show (walkF [] []).1 = [] by decide] at hx; exact absurd hx List.not_mem_nil
  refine ⟨fun r hr => ?_, fun r hr => ?_⟩
  · obtain ⟨i, _, rfl⟩ := List.mem_map.1 hr; exact shutR_ok _
  · obtain ⟨i, _, rfl⟩ := List.mem_map.1 hr; exact ⟨nil, nil⟩
theorem bytes_all (R : List Rq) (hR : ∀ r ∈ R, RqOk r) (hA : ∀ r ∈ R, RqA r) (q : Nat) (hq : q < 200) (d : List UInt8) (hd : d.length ≤ 100) :
    let a := sruns svNew (R ++ [openR zzP 6, openR zzP 1])
    let w := a.getD R.length default
    let g := a.getD (R.length + 1) default
    w.code = 9 ∨ g.code = 9 ∨ (w.code = 0 ∧ g.code = 0 ∧
      let b := sruns svNew (R ++ [openR zzP 6, openR zzP 1] ++ [writeR w.handle q d, readR g.handle q 100, readR w.handle q 1, writeR g.handle 0 d])
      (b.getD (R.length + 2) default).code = 0 ∧ (b.getD (R.length + 2) default).size = (q : Int) + d.length ∧ (b.getD (R.length + 3) default).d = d ∧ (b.getD (R.length + 4) default).code = 12 ∧ (b.getD (R.length + 5) default).code = 12) := by
  have k := SvOk.ends R SvOk.new hR
  have hab := abcd_ends (s := svNew) R Abcd.new hA
  have h := bytes_law k hab q hq d hd
  simp only at h ⊢
  have e0 : (sruns svNew (R ++ [openR zzP 6, openR zzP 1])).getD R.length default = (svF (sends svNew R) (openR zzP 6)).2 := by
    rw [sruns_app, getD_app_right _ _ _ (by rw [sruns_len]; exact Nat.le_refl _), sruns_len, Nat.sub_self]; rfl
  have e1 : (sruns svNew (R ++ [openR zzP 6, openR zzP 1])).getD (R.length + 1) default = (svF (svF (sends svNew R) (openR zzP 6)).1 (openR zzP 1)).2 := by
    rw [sruns_app, getD_app_right _ _ _ (by rw [sruns_len]; omega), sruns_len, Nat.add_sub_cancel_left]; rfl
  rw [e0, e1]
  rcases h with h | h | ⟨h0, h1, h2, h3, h4, h5, h6⟩
  · exact .inl h
  · exact .inr (.inl h)
  · refine .inr (.inr ⟨h0, h1, ?_⟩)
    have hse : sends svNew (R ++ [openR zzP 6, openR zzP 1]) = (svF (svF (sends svNew R) (openR zzP 6)).1 (openR zzP 1)).1 := by rw [sends_app]; rfl
    have at_ : ∀ (M : List Rq) (j : Nat), (sruns svNew (R ++ [openR zzP 6, openR zzP 1] ++ M)).getD (R.length + 2 + j) default = (sruns (svF (svF (sends svNew R) (openR zzP 6)).1 (openR zzP 1)).1 M).getD j default := fun M j => by
      rw [sruns_app, getD_app_right _ _ _ (by rw [sruns_len]; simp only [List.length_append, List.length_cons, List.length_nil]; omega), sruns_len, hse, show R.length + 2 + j - (R ++ [openR zzP 6, openR zzP 1]).length = j by simp only [List.length_append, List.length_cons, List.length_nil]; omega]
    have b0 := at_ [writeR (svF (sends svNew R) (openR zzP 6)).2.handle q d, readR (svF (svF (sends svNew R) (openR zzP 6)).1 (openR zzP 1)).2.handle q 100, readR (svF (sends svNew R) (openR zzP 6)).2.handle q 1, writeR (svF (svF (sends svNew R) (openR zzP 6)).1 (openR zzP 1)).2.handle 0 d]
    rw [show R.length + 2 = R.length + 2 + 0 by omega, b0 0, show R.length + 3 = R.length + 2 + 1 by omega, b0 1, show R.length + 4 = R.length + 2 + 2 by omega, b0 2, show R.length + 5 = R.length + 2 + 3 by omega, b0 3]
    exact ⟨h2, h3, h4, h5, h6⟩
end serve
end Go.Proofs.YtmceappjldcbmaaDoor
