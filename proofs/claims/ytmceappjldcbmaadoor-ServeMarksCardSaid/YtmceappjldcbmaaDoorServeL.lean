/-
  PLAIN LAWS of who serves: what was shut is old for ever; what was written by a handle is read by another one.
-/
import Derived.Test.YtmceappjldcbmaaDoorServeP
namespace Go.Proofs.YtmceappjldcbmaaDoor
set_option linter.unusedVariables false
set_option linter.unusedSimpArgs false
namespace tree
open path
theorem Abcd.do' {t : Tr} (h : Abcd t) (a : Ac) (hp : a.kind < 3 ∨ 7 < a.kind → ∀ x ∈ (walkF [] a.path).1, x ∈ abcd) (hto : a.kind = 9 → ∀ x ∈ (walkF [] a.to).1, x ∈ abcd) : Abcd (doF t a).1 := by
  unfold doF
  split
  · exact h
  split
  · exact h
  split
  · exact h
  split
  · rename_i c; exact h.make (hp (by omega)) fun es e => (Nd.dir.inj e).symm
  split
  · rename_i c; exact h.make (hp (by omega)) fun es e => nomatch e
  split
  · rename_i c; exact h.make (hp (by omega)) fun es e => nomatch e
  split
  · exact h.remove _
  split
  · rename_i c; exact h.rename _ (hto c)
  split
  · exact h
  · exact h.at_ _ _
theorem zz_none {t : Tr} (h : Abcd t) {l : List (Nm × Nat)} (h0 : t.nd 0 = .dir l) : ent l zz = none :=
  ent_none.2 fun j hj => absurd (h 0 l h0 zz j hj) (by decide)
theorem look_none1 {t : Tr} {l : List (Nm × Nat)} (h0 : t.nd 0 = .dir l) {x : Nm} (hx : ent l x = none) (f lp : Bool) : lookF t f lp 0 [] [x] = .err 7 := by
  unfold lookF; rw [h0]; simp only; rw [hx]
theorem find_none1 {t : Tr} {l : List (Nm × Nat)} (h0 : t.nd 0 = .dir l) {x : Nm} (hx : ent l x = none) (f : Bool) : t.find [x] f = (7, 0) := by
  show findF t f (7 + 1) [x] = _
  unfold findF
  rw [look_none1 h0 hx]
theorem find_some1 {t : Tr} {l : List (Nm × Nat)} (h0 : t.nd 0 = .dir l) {x : Nm} {i : Nat} (hx : ent l x = some i) (hn : ∀ to, t.nd i ≠ .link to) (f : Bool) : t.find [x] f = (0, i) := by
  show findF t f (7 + 1) [x] = _
  unfold findF
  have : lookF t f false 0 [] [x] = .node i := by
    unfold lookF
    rw [h0]
    simp only
    rw [hx]
    simp only
    cases hnd : t.nd i with
    | link to => exact absurd hnd (hn to)
    | dir l2 => rfl
    | file b => rfl
  rw [this]
theorem doF_at {t : Tr} {a : Ac} (hk : 3 ≤ a.kind ∧ a.kind ≤ 7) {ns : List Nm} (hw : walkF [] a.path = (ns, 0)) {i : Nat} (hf : t.find ns true = (0, i)) : doF t a = atF t i a := by
  rw [doF_io hk hw, hf, if_neg (fun h => h rfl)]
theorem doF_no {t : Tr} {a : Ac} (hk : 3 ≤ a.kind ∧ a.kind ≤ 7) {ns : List Nm} (hw : walkF [] a.path = (ns, 0)) {e : Int} {i : Nat} (hf : t.find ns true = (e, i)) (he : ¬ e = 0) : doF t a = (t, no e) := by
  rw [doF_io hk hw, hf, if_pos he]
end tree
namespace serve
open tree path msg
/-- the names in a request's paths are a, b, c, d -/
def RqA (r : Rq) : Prop := (∀ x ∈ (walkF [] r.path).1, x ∈ abcd) ∧ (∀ x ∈ (walkF [] r.to_).1, x ∈ abcd)
theorem abcd_opened {t : Tr} (h : Abcd t) (ps : List Pl) (i : Nat) (r : Rq) : Abcd (opened ps t i r).1.t := by
  unfold opened
  simp only
  split
  · exact h.do' _ (fun c => absurd c (by show ¬ ((5 : Int) < 3 ∨ 7 < (5 : Int)); decide)) (fun c => absurd c (by show ¬ (5 : Int) = 9; decide))
  · exact h
theorem abcd_do {s : Sv} (h : Abcd s.t) {r : Rq} (hr : RqA r) : Abcd (svF s r).1.t := by
  unfold svF replyF
  simp only
  split
  · exact h.do' _ (fun _ => hr.1) (fun _ => hr.2)
  split
  · unfold openF
    split
    · exact h
    split
    · exact h
    split
    · exact h
    split
    · exact h
    have hf : Abcd (doF s.t (fileA r.path)).1 := h.do' _ (fun _ => hr.1) (fun _ => fun x hx => absurd hx (by show ¬ x ∈ (walkF [] []).1; rw [show (walkF [] []).1 = [] by decide]; exact List.not_mem_nil))
    split
    · split
      · exact hf
      · exact abcd_opened hf _ _ _
    split
    · exact h
    · exact abcd_opened h _ _ _
  split
  · unfold handleF
    split
    · exact h
    split
    · exact h
    split
    · exact h
    split
    · exact h
    split
    · exact h
    split
    · exact h.do' _ (fun c => absurd c (by show ¬ ((4 : Int) < 3 ∨ 7 < (4 : Int)); decide)) (fun c => absurd c (by show ¬ (4 : Int) = 9; decide))
    · exact h.do' _ (fun c => absurd c (by show ¬ ((3 : Int) < 3 ∨ 7 < (3 : Int)); decide)) (fun c => absurd c (by show ¬ (3 : Int) = 9; decide))
  · exact h
theorem abcd_ends : ∀ {s : Sv} (l : List Rq), Abcd s.t → (∀ r ∈ l, RqA r) → Abcd (sends s l).t
  | s, [], h, _ => h
  | s, r :: l, h, hr => abcd_ends l (abcd_do h (hr r (List.mem_cons_self ..))) (fun q hq => hr q (List.mem_cons_of_mem _ hq))
/-- a place was freed more often -/
def Old (s : Sv) (i f : Nat) : Prop := f < (s.ps.getD i default).freed
theorem set_freed (ps : List Pl) (j : Nat) (p : Pl) (h : (ps.getD j default).freed ≤ p.freed) (i : Nat) : (ps.getD i default).freed ≤ ((ps.set j p).getD i default).freed := by
  rw [getD_set']
  split
  · rename_i c; rw [← c.1]; exact h
  · exact Nat.le_refl _
theorem freed_mono (s : Sv) (r : Rq) (i : Nat) : (s.ps.getD i default).freed ≤ ((svF s r).1.ps.getD i default).freed := by
  have ho : ∀ (t : Tr) (j : Nat), (s.ps.getD i default).freed ≤ ((opened s.ps t j r).1.ps.getD i default).freed := fun t j => set_freed s.ps j ⟨(s.ps.getD j default).freed, true, r.path, r.how⟩ (Nat.le_refl _) i
  unfold svF replyF
  simp only
  split
  · exact Nat.le_refl _
  split
  · unfold openF
    split
    · exact Nat.le_refl _
    split
    · exact Nat.le_refl _
    split
    · exact Nat.le_refl _
    split
    · exact Nat.le_refl _
    split
    · split
      · exact Nat.le_refl _
      · exact ho _ _
    split
    · exact Nat.le_refl _
    · exact ho _ _
  split
  · unfold handleF
    split
    · exact Nat.le_refl _
    split
    · exact Nat.le_refl _
    split
    · exact set_freed _ _ _ (Nat.le_succ _) i
    split
    · exact Nat.le_refl _
    split
    · exact Nat.le_refl _
    split
    · exact Nat.le_refl _
    · exact Nat.le_refl _
  · exact Nat.le_refl _
theorem Old.do_ {s : Sv} {i f : Nat} (h : Old s i f) (r : Rq) : Old (svF s r).1 i f := Nat.lt_of_lt_of_le h (freed_mono s r i)
theorem Old.ends : ∀ {s : Sv} {i f : Nat} (l : List Rq), Old s i f → Old (sends s l) i f
  | s, i, f, [], h => h
  | s, i, f, r :: l, h => Old.ends l (h.do_ r)
theorem open_handle {s : Sv} {N : Nat} (k : SvOk s N) {r : Rq} (hk : r.kind = 1) (h : (svF s r).2.code = 0) : ∃ j : Nat, j < 8 ∧ (svF s r).2.handle = (j : Int) + 8 * ((s.ps.getD j default).freed : Int) := by
  unfold svF replyF at h ⊢
  simp only at h ⊢
  rw [if_neg (by omega), if_pos hk] at h ⊢
  unfold openF at h ⊢
  split at h
  · exact absurd h (show ¬ (4 : Int) = 0 by decide)
  rename_i c1
  rw [if_neg c1]
  cases hv : vac 0 s.ps with
  | none => rw [hv] at h; exact absurd h (show ¬ (9 : Int) = 0 by decide)
  | some i =>
  rw [hv] at h
  obtain ⟨a, b, c⟩ := vac_some hv
  rw [Nat.zero_add, k.len] at b
  simp only at h ⊢
  split at h
  · exact absurd h (show ¬ (8 : Int) = 0 by decide)
  rename_i c2
  rw [if_neg c2]
  split at h
  · exact absurd h (show ¬ (14 : Int) = 0 by decide)
  rename_i c3
  rw [if_neg c3]
  split at h
  · rename_i c4
    rw [if_pos c4]
    split at h
    · rename_i c5; exact absurd h c5
    · rename_i c5; rw [if_neg c5]; exact ⟨i, b, rfl⟩
  · rename_i c4
    rw [if_neg c4]
    split at h
    · rename_i c5; exact absurd h c5
    · rename_i c5; rw [if_neg c5]; exact ⟨i, b, rfl⟩
theorem Old.open_ {s : Sv} {N i f : Nat} (k : SvOk s N) (h : Old s i f) (hi : i < 8) {r : Rq} (hk : r.kind = 1) (hc : (svF s r).2.code = 0) : (svF s r).2.handle ≠ (i : Int) + 8 * (f : Int) := fun e => by
  obtain ⟨j, hj, e'⟩ := open_handle k hk hc
  rw [e'] at e
  have : j = i := by omega
  subst this
  unfold Old at h
  omega
theorem Old.runs : ∀ {s : Sv} {N i f : Nat} (l : List Rq), SvOk s N → (∀ r ∈ l, RqOk r) → Old s i f → i < 8 → ∀ q, q < l.length → (l.getD q default).kind = 1 → ((sruns s l).getD q default).code = 0 → ((sruns s l).getD q default).handle ≠ (i : Int) + 8 * (f : Int)
  | s, N, i, f, [], _, _, _, _, q, hq, _, _ => absurd hq (Nat.not_lt_zero _)
  | s, N, i, f, r :: l, k, hr, h, hi, 0, _, hk, hc => h.open_ k hi hk hc
  | s, N, i, f, r :: l, k, hr, h, hi, q + 1, hq, hk, hc => Old.runs l (k.do_ (hr r (List.mem_cons_self ..))) (fun x hx => hr x (List.mem_cons_of_mem _ hx)) (h.do_ r) hi q (Nat.lt_of_succ_lt_succ hq) hk hc
theorem mod8 (i f : Nat) (hi : i < 8) : (((i : Int) + 8 * (f : Int)) % 8).toNat = i ∧ ((i : Int) + 8 * (f : Int)) / 8 = f ∧ ¬ ((i : Int) + 8 * (f : Int)) < 0 := by omega
theorem Old.told {s : Sv} {i f : Nat} (h : Old s i f) (hi : i < 8) {r : Rq} (hk : 2 ≤ r.kind ∧ r.kind ≤ 4) (hh : r.handle = (i : Int) + 8 * (f : Int)) : (svF s r).2.code = 17 := by
  obtain ⟨a, b, c⟩ := mod8 i f hi
  unfold svF replyF
  simp only
  rw [if_neg (by omega), if_neg (by omega), if_pos hk]
  unfold handleF
  rw [hh, if_neg c, a, b, if_pos (.inr (fun e => by unfold Old at h; omega))]
  rfl
def openR (p : Nm) (how : Int) : Rq := { Rq.zero with kind := 1, path := p, how := how }
def shutR (h : Int) : Rq := { Rq.zero with kind := 2, handle := h }
def readR (h at_ n : Int) : Rq := { Rq.zero with kind := 3, handle := h, at_ := at_, count := n }
def writeR (h at_ : Int) (d : List UInt8) : Rq := { Rq.zero with kind := 4, handle := h, at_ := at_, data := d }
def delR (p : Nm) : Rq := { Rq.zero with kind := 8, path := p }
def statR (p : Nm) : Rq := { Rq.zero with kind := 5, path := p }
theorem svF_open (s : Sv) (p : Nm) (how : Int) : svF s (openR p how) = openF s (openR p how) := by
  have e : (replyF s (openR p how)) = openF s (openR p how) := by
    unfold replyF
    rw [if_neg (by show ¬ (5 ≤ (1 : Int) ∧ (1 : Int) ≤ 10); decide), if_pos (show (openR p how).kind = 1 from rfl)]
  unfold svF
  rw [e]
  unfold openF opened
  split
  · rfl
  split
  · rfl
  split
  · rfl
  split
  · rfl
  split
  · split
    · rfl
    · rfl
  split
  · rfl
  · rfl
theorem svF_handle (s : Sv) {r : Rq} (hk : 2 ≤ r.kind ∧ r.kind ≤ 4) (hm : r.mark = 0) : svF s r = handleF s r := by
  have e : (replyF s r) = handleF s r := by
    unfold replyF
    rw [if_neg (by omega), if_neg (by omega), if_pos hk]
  unfold svF
  rw [e, hm]
  unfold handleF
  split
  · rfl
  split
  · rfl
  split
  · rfl
  split
  · rfl
  split
  · rfl
  split
  · rfl
  · rfl
/-- a file that is not there is opened, and made -/
theorem open_new {s : Sv} (k : TrOk s.t) {l : List (Nm × Nat)} (h0 : s.t.nd 0 = .dir l) {x : Nm} (hx : ent l x = none) (hw : walkF [] (47 :: x) = ([x], 0)) {how : Int} (hm : mayF how) (h4 : has how 4) :
    ((vac 0 s.ps = none ∨ s.t.count = 40) ∧ (svF s (openR (47 :: x) how)).2.code = 9 ∧ (svF s (openR (47 :: x) how)).1 = s) ∨ ∃ i, vac 0 s.ps = some i ∧ ¬ s.t.count = 40 ∧ svF s (openR (47 :: x) how) = opened s.ps ⟨s.t.ns.set 0 (.dir (l ++ [(x, s.t.ns.length)])) ++ [.file []], s.t.count + 1⟩ i (openR (47 :: x) how) := by
  rw [svF_open]
  unfold openF
  rw [if_neg (fun h => h hm)]
  cases hv : vac 0 s.ps with
  | none => exact .inl ⟨.inl rfl, rfl, rfl⟩
  | some i =>
    simp only
    have hst : doF s.t (statA (47 :: x)) = (s.t, no 7) := doF_no ⟨by show (3 : Int) ≤ 6; decide, by show (6 : Int) ≤ 7; decide⟩ hw (find_none1 h0 hx true) (by decide)
    have hfi : doF s.t (fileA (47 :: x)) = ((makeF s.t [x] (.file [])).2, no (makeF s.t [x] (.file [])).1) := by
      unfold doF fileA
      simp only
      rw [if_neg (by decide), if_neg (fun h => by omega), hw, if_neg (fun h => h rfl), if_neg (by decide), if_pos trivial]
    have hp : (openR (47 :: x) how).path = 47 :: x := rfl
    have hh : (openR (47 :: x) how).how = how := rfl
    rw [hp, hh, hst, hfi, make_one h0 hx]
    simp only
    rw [if_neg (fun h => absurd h.1 (by decide)), if_neg (fun h => absurd h.1 (by decide)), if_pos ⟨rfl, h4⟩]
    by_cases hc : s.t.count = 40
    · rw [if_pos hc]
      rw [if_pos (show ¬ (no ((9 : Int), s.t).1).code = 0 from (by decide : ¬ (9 : Int) = 0))]
      exact .inl ⟨.inr hc, rfl, rfl⟩
    · rw [if_neg hc]
      rw [if_neg (fun h => h rfl)]
      exact .inr ⟨i, rfl, hc, rfl⟩
def zzP : Nm := 47 :: zz
theorem del_zz {s : Sv} (k : TrOk s.t) (h : Abcd s.t) : (svF s (delR zzP)).1 = s := by
  obtain ⟨l, h0⟩ := k.root
  have e : doF s.t ⟨8, zzP, [], 0, 0, []⟩ = (s.t, no 7) := by
    unfold doF
    simp only
    rw [if_neg (by decide), if_neg (fun h => by omega), show zzP = 47 :: zz from rfl, walk_zz, if_neg (fun h => h rfl), if_neg (by decide), if_neg (by decide), if_neg (by decide), if_pos trivial]
    unfold removeF
    rw [if_neg (by decide), find_none1 h0 (zz_none h h0), if_pos (by decide)]
  show (replyF s (delR zzP)).1 = s
  unfold replyF
  rw [if_pos (by show 5 ≤ (8 : Int) ∧ (8 : Int) ≤ 10; decide)]
  show (⟨(doF s.t ⟨8, zzP, [], 0, 0, []⟩).1, s.ps⟩ : Sv) = s
  rw [e]
/-- WHAT WAS SHUT IS OLD FOR EVER -/
theorem old_law {s : Sv} {N : Nat} (k : SvOk s N) (h : Abcd s.t) : let r := svF (svF s (delR zzP)).1 (openR zzP 7)
    r.2.code = 9 ∨ (r.2.code = 0 ∧ ∃ i f : Nat, i < 8 ∧ r.2.handle = (i : Int) + 8 * (f : Int) ∧ Old (svF r.1 (shutR r.2.handle)).1 i f) := by
  simp only
  rw [del_zz k.tr h]
  obtain ⟨l, h0⟩ := k.tr.root
  rcases open_new k.tr h0 (zz_none h h0) walk_zz (how := 7) (by decide) (by decide) with ⟨_, c, _⟩ | ⟨i, hv, hc, e⟩
  · exact .inl c
  · rw [show zzP = 47 :: zz from rfl, e]
    obtain ⟨a, b, c⟩ := vac_some hv
    rw [Nat.zero_add, k.len] at b
    refine .inr ⟨rfl, i, (s.ps.getD i default).freed, b, rfl, ?_⟩
    obtain ⟨m1, m2, m3⟩ := mod8 i (s.ps.getD i default).freed b
    have hat : (s.ps.set i (⟨(s.ps.getD i default).freed, true, 47 :: zz, 7⟩ : Pl)).getD i default = ⟨(s.ps.getD i default).freed, true, 47 :: zz, 7⟩ := by rw [getD_set', if_pos ⟨rfl, by rw [k.len]; exact b⟩]
    rw [svF_handle _ ⟨by show (2 : Int) ≤ 2; decide, by show (2 : Int) ≤ 4; decide⟩ rfl]
    unfold handleF opened shutR openR
    simp only
    rw [if_neg m3, m1, m2, hat, if_neg (fun h => by rcases h with h | h; exact nomatch h; exact h rfl), if_pos trivial]
    unfold Old
    simp only
    rw [getD_set', if_pos ⟨rfl, by rw [List.length_set, k.len]; exact b⟩]
    exact Nat.lt_succ_self _
/-- a file at a path -/
def FileAt (t : Tr) (p : Nm) (b : List UInt8) : Prop := b.length ≤ 2048 ∧ ∃ ns i, walkF [] p = (ns, 0) ∧ t.find ns true = (0, i) ∧ t.nd i = .file b ∧ i < t.ns.length
def putA' (p : Nm) (k : Int) (d : List UInt8) : Ac := ⟨3, p, [], k, 0, d⟩
def getA' (p : Nm) (k n : Int) : Ac := ⟨4, p, [], k, n, []⟩
theorem put_file {t : Tr} {p : Nm} {b : List UInt8} (h : FileAt t p b) (k : Nat) (d : List UInt8) (hk : k + d.length ≤ 2048) :
    (doF t (putA' p k d)).2 = ⟨0, 0, ((wantF b d k).length : Int), [], []⟩ ∧ FileAt (doF t (putA' p k d)).1 p (wantF b d k) := by
  obtain ⟨hb, ns, i, hw, hf, hn, hi⟩ := h
  have hput : fileF b (putA' p k d) = (wantF b d k, ⟨0, 0, (wantF b d k).length, [], []⟩) := by
    rw [wantF_eq]
    have hfit : k + d.length ≤ (if (b.length : Int) < (k : Int) + d.length then long b ((k : Int) + d.length).toNat else b).length := by
      split
      · rw [long_len]; omega
      · omega
    unfold fileF putA'
    rw [if_neg (by unfold inB; simp; omega), if_neg (fun h => by have := h.2; simp only at this; omega), if_pos rfl]
    simp only [Int.toNat_natCast]
    rw [lay_len _ _ _ hfit]
  have hwl : (wantF b d k).length ≤ 2048 := by
    have := fileF_len hb (putA' p k d)
    rw [hput] at this; exact this
  have a2 : atF t i (putA' p k d) = (⟨t.ns.set i (.file (wantF b d k)), t.count⟩, ⟨0, 0, (wantF b d k).length, [], []⟩) := by
    unfold atF
    rw [hn]
    simp only
    rw [if_neg (show ¬ (putA' p k d).kind = 7 from (by decide : ¬ (3 : Int) = 7)), if_neg (show ¬ (putA' p k d).kind = 6 from (by decide : ¬ (3 : Int) = 6)), hput]
  rw [doF_at (a := putA' p k d) ⟨by show (3 : Int) ≤ 3; decide, by show (3 : Int) ≤ 7; decide⟩ hw hf, a2]
  refine ⟨rfl, hwl, ns, i, hw, ?_, ?_, by rw [List.length_set]; exact hi⟩
  · rw [← hf]; exact find_congr (fun j => E_set hn _ j) (fun j => K_set hn _ j) true ns
  · rw [nd_set, if_pos ⟨rfl, hi⟩]
theorem get_file {t : Tr} {p : Nm} {b : List UInt8} (h : FileAt t p b) (k n : Nat) (hk : k ≤ 2048) (hn : n ≤ 2048) : doF t (getA' p k n) = (t, ⟨0, 0, 0, (b.drop k).take n, []⟩) := by
  obtain ⟨hb, ns, i, hw, hf, hnd, hi⟩ := h
  rw [doF_at (a := getA' p k n) ⟨by show (3 : Int) ≤ 4; decide, by show (4 : Int) ≤ 7; decide⟩ hw hf]
  have e : fileF b (getA' p k n) = (b, ⟨0, 0, 0, (b.drop k).take n, []⟩) := by
    unfold fileF getA'
    rw [if_neg (by unfold inB; simp; omega), if_neg (fun h => absurd h.1 (show ¬ (4 : Int) = 3 by decide)), if_neg (show ¬ (4 : Int) = 3 by decide), if_pos rfl]
    simp only [Int.toNat_natCast]
    congr 2
    rcases Nat.le_total k b.length with c | c
    · rw [Nat.min_eq_left c, List.take_eq_take_iff, List.length_drop]; omega
    · rw [Nat.min_eq_right c, List.drop_of_length_le (Nat.le_refl _), List.drop_of_length_le c, List.take_nil, List.take_nil]
  unfold atF
  rw [hnd]
  simp only
  rw [if_neg (show ¬ (getA' p k n).kind = 7 from (by decide : ¬ (4 : Int) = 7)), if_neg (show ¬ (getA' p k n).kind = 6 from (by decide : ¬ (4 : Int) = 6)), e, set_self t i b hnd]
theorem stat_file {t : Tr} {p : Nm} {b : List UInt8} (h : FileAt t p b) : doF t (statA p) = (t, ⟨0, 2, b.length, [], []⟩) := by
  obtain ⟨hb, ns, i, hw, hf, hnd, hi⟩ := h
  rw [doF_at (a := statA p) ⟨by show (3 : Int) ≤ 6; decide, by show (6 : Int) ≤ 7; decide⟩ hw hf]
  unfold atF
  rw [hnd]
  simp only
  rw [if_neg (show ¬ (statA p).kind = 7 from (by decide : ¬ (6 : Int) = 7)), if_pos (show (statA p).kind = 6 from rfl)]
theorem cut_file {t : Tr} {p : Nm} {b : List UInt8} (h : FileAt t p b) : FileAt (doF t (cutA p)).1 p [] := by
  obtain ⟨hb, ns, i, hw, hf, hnd, hi⟩ := h
  rw [doF_at (a := cutA p) ⟨by show (3 : Int) ≤ 5; decide, by show (5 : Int) ≤ 7; decide⟩ hw hf]
  have e : (atF t i (cutA p)).1 = ⟨t.ns.set i (.file []), t.count⟩ := by
    unfold atF
    rw [hnd]
    simp only
    rw [if_neg (show ¬ (cutA p).kind = 7 from (by decide : ¬ (5 : Int) = 7)), if_neg (show ¬ (cutA p).kind = 6 from (by decide : ¬ (5 : Int) = 6))]
    have : (fileF b (cutA p)).1 = [] := by
      unfold fileF cutA
      rw [if_neg (by unfold inB; simp), if_neg (fun h => absurd h.1 (show ¬ (5 : Int) = 3 by decide)), if_neg (show ¬ (5 : Int) = 3 by decide), if_neg (show ¬ (5 : Int) = 4 by decide)]
      unfold long
      simp
    rw [this]
  rw [e]
  refine ⟨Nat.zero_le _, ns, i, hw, ?_, ?_, by rw [List.length_set]; exact hi⟩
  · rw [← hf]; exact find_congr (fun j => E_set hnd _ j) (fun j => K_set hnd _ j) true ns
  · rw [nd_set, if_pos ⟨rfl, hi⟩]
/-- a new file in the root -/
theorem new_file {t : Tr} (k : TrOk t) {l : List (Nm × Nat)} (h0 : t.nd 0 = .dir l) {x : Nm} (hx : ent l x = none) (hw : walkF [] (47 :: x) = ([x], 0)) (c : Int) : FileAt ⟨t.ns.set 0 (.dir (l ++ [(x, t.ns.length)])) ++ [.file []], c⟩ (47 :: x) [] := by
  have hpos := k.pos
  have hl1 : (t.ns.set 0 (.dir (l ++ [(x, t.ns.length)]))).length = t.ns.length := List.length_set ..
  have n0 : (⟨t.ns.set 0 (.dir (l ++ [(x, t.ns.length)])) ++ [.file []], c⟩ : Tr).nd 0 = .dir (l ++ [(x, t.ns.length)]) := by
    have := nd_snoc ⟨t.ns.set 0 (.dir (l ++ [(x, t.ns.length)])), t.count⟩ (.file []) c 0
    simp only [hl1] at this
    rw [this, if_neg (by omega), nd_set, if_pos ⟨rfl, hpos⟩]
  have nN : (⟨t.ns.set 0 (.dir (l ++ [(x, t.ns.length)])) ++ [.file []], c⟩ : Tr).nd t.ns.length = .file [] := by
    have := nd_snoc ⟨t.ns.set 0 (.dir (l ++ [(x, t.ns.length)])), t.count⟩ (.file []) c t.ns.length
    simp only [hl1] at this
    rw [this, if_pos True.intro]
  have he : ent (l ++ [(x, t.ns.length)]) x = some t.ns.length := by rw [ent_snoc, hx]; exact if_pos rfl
  exact ⟨Nat.zero_le _, [x], t.ns.length, hw, find_some1 n0 he (fun to h => by rw [nN] at h; exact nomatch h) true, nN, by simp⟩
/-- an open place -/
def HAt (s : Sv) (i f : Nat) (p : Nm) (how : Int) : Prop := i < 8 ∧ s.ps.getD i default = ⟨f, true, p, how⟩
abbrev hnd (i f : Nat) : Int := (i : Int) + 8 * (f : Int)
theorem write_at {s : Sv} {i f : Nat} {p : Nm} {how : Int} (h : HAt s i f p how) (k : Nat) (d : List UInt8) (hd : d.length ≤ 100) :
    svF s (writeR (hnd i f) k d) = if has how 2 then (⟨(doF s.t (putA' p k d)).1, s.ps⟩, told (doF s.t (putA' p k d)).2) else (s, rp 12) := by
  obtain ⟨m1, m2, m3⟩ := mod8 i f h.1
  rw [svF_handle _ ⟨by show (2 : Int) ≤ 4; decide, by show (4 : Int) ≤ 4; decide⟩ rfl]
  unfold handleF
  have e1 : (writeR (hnd i f) k d).handle = hnd i f := rfl
  have e2 : (writeR (hnd i f) k d).kind = 4 := rfl
  have e3 : (writeR (hnd i f) k d).data = d := rfl
  rw [e1, e2, e3, if_neg m3, m1, m2, h.2, if_neg (fun h => by rcases h with h | h; exact nomatch h; exact h rfl), if_neg (by decide)]
  simp only
  by_cases c : has how 2
  · rw [if_pos c, if_neg (fun h => by rcases h with h | h; exact absurd h.1 (by decide); exact h.2 c), if_neg (fun h => by rcases h with h | h; exact absurd h.1 (by decide); omega), if_neg (by decide)]; rfl
  · rw [if_neg c, if_pos (.inr ⟨trivial, c⟩)]
theorem read_at {s : Sv} {i f : Nat} {p : Nm} {how : Int} (h : HAt s i f p how) (k n : Nat) (hn : 1 ≤ n ∧ n ≤ 100) :
    svF s (readR (hnd i f) k n) = if has how 1 then (⟨(doF s.t (getA' p k n)).1, s.ps⟩, told (doF s.t (getA' p k n)).2) else (s, rp 12) := by
  obtain ⟨m1, m2, m3⟩ := mod8 i f h.1
  rw [svF_handle _ ⟨by show (2 : Int) ≤ 3; decide, by show (3 : Int) ≤ 4; decide⟩ rfl]
  unfold handleF
  have e1 : (readR (hnd i f) k n).handle = hnd i f := rfl
  have e2 : (readR (hnd i f) k n).kind = 3 := rfl
  have e3 : (readR (hnd i f) k n).count = (n : Int) := rfl
  rw [e1, e2, e3, if_neg m3, m1, m2, h.2, if_neg (fun h => by rcases h with h | h; exact nomatch h; exact h rfl), if_neg (by decide)]
  simp only
  by_cases c : has how 1
  · rw [if_pos c, if_neg (fun h => by rcases h with h | h; exact h.2 c; exact absurd h.1 (by decide)), if_neg (fun h => by rcases h with h | h; omega; exact absurd h.1 (by decide)), if_pos trivial]; rfl
  · rw [if_neg c, if_pos (.inl ⟨trivial, c⟩)]
theorem want_drop (b d : List UInt8) (k n : Nat) (hd : d.length ≤ n) (hb : b.length ≤ k + d.length) : ((wantF b d k).drop k).take n = d := by
  unfold wantF lay
  have hl : (b ++ List.replicate (k + d.length - b.length) 0).length = k + d.length := by simp; omega
  rw [List.append_assoc, List.drop_append_of_le_length (by rw [List.length_take, hl]; omega), List.drop_of_length_le (by rw [List.length_take]; omega), List.nil_append, List.drop_of_length_le (by omega), List.append_nil, List.take_of_length_le hd]
theorem want_len (b d : List UInt8) (k : Nat) (hb : b.length ≤ k + d.length) : (wantF b d k).length = k + d.length := by
  unfold wantF lay
  have hl : (b ++ List.replicate (k + d.length - b.length) (0 : UInt8)).length = k + d.length := by simp; omega
  rw [List.length_append, List.length_append, List.length_take, List.length_drop, hl]; omega
/-- a file that is there is opened for reading -/
theorem open_old {s : Sv} {p : Nm} {b : List UInt8} (h : FileAt s.t p b) : (vac 0 s.ps = none ∧ svF s (openR p 1) = (s, rp 9)) ∨ ∃ j, vac 0 s.ps = some j ∧ svF s (openR p 1) = opened s.ps s.t j (openR p 1) := by
  rw [svF_open]
  unfold openF
  rw [if_neg (fun h => h (by show mayF 1; decide))]
  cases hv : vac 0 s.ps with
  | none => exact .inl ⟨rfl, rfl⟩
  | some j =>
    simp only
    have hp : (openR p 1).path = p := rfl
    have hh : (openR p 1).how = 1 := rfl
    rw [hp, hh, stat_file h]
    simp only
    rw [if_neg (fun h => absurd h.2 (by decide)), if_neg (fun h => absurd h.2 (by decide)), if_neg (fun h => absurd h.1 (by decide)), if_neg (fun h => h trivial)]
    exact .inr ⟨j, rfl, rfl⟩
/-- WHAT WAS WRITTEN BY A HANDLE IS READ BY ANOTHER ONE -/
theorem bytes_law {s : Sv} {N : Nat} (k : SvOk s N) (h : Abcd s.t) (q : Nat) (hq : q < 200) (d : List UInt8) (hd : d.length ≤ 100) :
    let r1 := svF s (openR zzP 6)
    let r2 := svF r1.1 (openR zzP 1)
    r1.2.code = 9 ∨ r2.2.code = 9 ∨ (r1.2.code = 0 ∧ r2.2.code = 0 ∧
      let w := svF r2.1 (writeR r1.2.handle q d)
      let g := svF w.1 (readR r2.2.handle q 100)
      let g1 := svF g.1 (readR r1.2.handle q 1)
      let g2 := svF g1.1 (writeR r2.2.handle 0 d)
      w.2.code = 0 ∧ w.2.size = (q : Int) + d.length ∧ g.2.d = d ∧ g1.2.code = 12 ∧ g2.2.code = 12) := by
  simp only
  obtain ⟨l, h0⟩ := k.tr.root
  rcases open_new k.tr h0 (zz_none h h0) walk_zz (how := 6) (by decide) (by decide) with ⟨_, c, _⟩ | ⟨i, hv, hc, e⟩
  · exact .inl c
  · rw [show zzP = 47 :: zz from rfl, e]
    refine .inr ?_
    obtain ⟨_, hi, _⟩ := vac_some hv
    rw [Nat.zero_add, k.len] at hi
    have hfile := new_file k.tr h0 (zz_none h h0) walk_zz (s.t.count + 1)
    generalize (⟨s.t.ns.set 0 (.dir (l ++ [(zz, s.t.ns.length)])) ++ [.file []], s.t.count + 1⟩ : Tr) = t2 at hfile ⊢
    have eo : opened s.ps t2 i (openR (47 :: zz) 6) = (⟨t2, s.ps.set i ⟨(s.ps.getD i default).freed, true, 47 :: zz, 6⟩⟩, ⟨0, 0, hnd i (s.ps.getD i default).freed, 0, 0, [], []⟩) := by
      unfold opened
      rw [if_neg (by show ¬ has 6 16; decide)]; rfl
    rw [eo]
    generalize hf : (s.ps.getD i default).freed = f
    have hat : (s.ps.set i (⟨f, true, 47 :: zz, 6⟩ : Pl)).getD i default = ⟨f, true, 47 :: zz, 6⟩ := by rw [getD_set', if_pos ⟨rfl, by rw [k.len]; exact hi⟩]
    have hlen : (s.ps.set i (⟨f, true, 47 :: zz, 6⟩ : Pl)).length = 8 := by rw [List.length_set, k.len]
    generalize s.ps.set i (⟨f, true, 47 :: zz, 6⟩ : Pl) = ps2 at hat hlen ⊢
    simp only
    rcases open_old (s := ⟨t2, ps2⟩) hfile with ⟨_, e2⟩ | ⟨j, hv2, e2⟩
    · rw [e2]; exact .inl rfl
    · rw [e2]
      obtain ⟨_, hj, hop⟩ := vac_some hv2
      rw [Nat.zero_add, show (⟨t2, ps2⟩ : Sv).ps = ps2 from rfl, hlen] at hj
      rw [Nat.sub_zero] at hop
      have hne : j ≠ i := fun e => by
        rw [e] at hop
        rw [show (⟨t2, ps2⟩ : Sv).ps.getD i default = _ from hat] at hop
        exact nomatch hop
      have eo2 : opened ps2 t2 j (openR (47 :: zz) 1) = (⟨t2, ps2.set j ⟨(ps2.getD j default).freed, true, 47 :: zz, 1⟩⟩, ⟨0, 0, hnd j (ps2.getD j default).freed, 0, 0, [], []⟩) := by
        unfold opened
        rw [if_neg (by show ¬ has 1 16; decide)]; rfl
      show _ ∨ _
      rw [show (⟨t2, ps2⟩ : Sv).ps = ps2 from rfl, show (⟨t2, ps2⟩ : Sv).t = t2 from rfl, eo2]
      generalize hf2 : (ps2.getD j default).freed = f2
      have a1 : (ps2.set j (⟨f2, true, 47 :: zz, 1⟩ : Pl)).getD i default = ⟨f, true, 47 :: zz, 6⟩ := by rw [getD_set', if_neg (fun h => hne h.1), hat]
      have a2 : (ps2.set j (⟨f2, true, 47 :: zz, 1⟩ : Pl)).getD j default = ⟨f2, true, 47 :: zz, 1⟩ := by rw [getD_set', if_pos ⟨rfl, by rw [hlen]; exact hj⟩]
      generalize ps2.set j (⟨f2, true, 47 :: zz, 1⟩ : Pl) = ps3 at a1 a2 ⊢
      refine .inr ⟨by first | exact rfl | trivial, by first | exact rfl | trivial, ?_⟩
      simp only
      have w1 := write_at (s := ⟨t2, ps3⟩) (p := 47 :: zz) (how := 6) ⟨hi, a1⟩ q d hd
      rw [if_pos (by decide)] at w1
      obtain ⟨p1, p2⟩ := put_file hfile q d (by omega)
      rw [w1]
      simp only
      rw [p1]
      generalize (doF t2 (putA' (47 :: zz) q d)).1 = t3 at p2 ⊢
      have g1 := read_at (s := ⟨t3, ps3⟩) (p := 47 :: zz) (how := 1) ⟨hj, a2⟩ q 100 (by decide)
      rw [if_pos (by decide), show (⟨t3, ps3⟩ : Sv).t = t3 from rfl, get_file p2 q 100 (by omega) (by decide)] at g1
      rw [show ((100 : Int)) = ((100 : Nat) : Int) from rfl, g1]
      simp only
      have g2 := read_at (s := ⟨t3, ps3⟩) (p := 47 :: zz) (how := 6) ⟨hi, a1⟩ q 1 (by decide)
      rw [if_neg (by decide)] at g2
      rw [show ((1 : Int)) = ((1 : Nat) : Int) from rfl, g2]
      simp only
      have g3 := write_at (s := ⟨t3, ps3⟩) (p := 47 :: zz) (how := 1) ⟨hj, a2⟩ 0 d hd
      rw [if_neg (by decide)] at g3
      rw [show ((0 : Int)) = ((0 : Nat) : Int) from rfl, g3]
      refine ⟨rfl, ?_, want_drop [] d q 100 hd (Nat.zero_le _), rfl, rfl⟩
      show ((wantF [] d q).length : Int) = _
      rw [want_len [] d q (Nat.zero_le _)]; omega
/-- a small talk with who serves -/
def xP : Nm := [47, 120]
theorem one_law : (sruns svNew [openR xP 7, writeR 0 0 [5], setM (readR 0 0 9) 4]).getD 2 default = ⟨4, 0, 0, 0, 0, [5], []⟩ := by
  rcases open_new (s := svNew) (l := []) TrOk.new rfl (x := [120]) rfl (by decide) (how := 7) (by decide) (by decide) with ⟨c, _⟩ | ⟨i, hv, hc, e⟩
  · rcases c with c | c
    · exact nomatch c
    · exact absurd c (by decide : ¬ (1 : Int) = 40)
  · have hi : i = 0 := (Option.some.inj ((show vac 0 svNew.ps = some 0 from rfl).symm.trans hv)).symm
    subst hi
    have hfile := new_file (t := svNew.t) TrOk.new (l := []) rfl (x := [120]) rfl (by decide) (svNew.t.count + 1)
    have hH : HAt (opened svNew.ps ⟨svNew.t.ns.set 0 (.dir ([] ++ [([120], svNew.t.ns.length)])) ++ [.file []], svNew.t.count + 1⟩ 0 (openR (47 :: [120]) 7)).1 0 0 (47 :: [120]) 7 := ⟨by decide, rfl⟩
    have ht : (opened svNew.ps ⟨svNew.t.ns.set 0 (.dir ([] ++ [([120], svNew.t.ns.length)])) ++ [.file []], svNew.t.count + 1⟩ 0 (openR (47 :: [120]) 7)).1.t = ⟨svNew.t.ns.set 0 (.dir ([] ++ [([120], svNew.t.ns.length)])) ++ [.file []], svNew.t.count + 1⟩ := by
      unfold opened
      rw [if_neg (by show ¬ has 7 16; decide)]
    show (svF (svF (svF svNew (openR xP 7)).1 (writeR 0 0 [5])).1 (setM (readR 0 0 9) 4)).2 = _
    rw [show xP = 47 :: [120] from rfl, e]
    generalize (opened svNew.ps ⟨svNew.t.ns.set 0 (.dir ([] ++ [([120], svNew.t.ns.length)])) ++ [.file []], svNew.t.count + 1⟩ 0 (openR (47 :: [120]) 7)).1 = s1 at hH ht ⊢
    rw [← ht] at hfile
    have w := write_at hH 0 [5] (by decide)
    rw [if_pos (by decide)] at w
    obtain ⟨p1, p2⟩ := put_file hfile 0 [5] (by decide)
    rw [show (writeR 0 0 [5]) = writeR (hnd 0 0) ((0 : Nat) : Int) [5] from rfl, w]
    have g := read_at (s := ⟨(doF s1.t (putA' (47 :: [120]) (0 : Nat) [5])).1, s1.ps⟩) (i := 0) (f := 0) (p := 47 :: [120]) (how := 7) ⟨hH.1, hH.2⟩ 0 9 (by decide)
    rw [if_pos (by decide), show (⟨(doF s1.t (putA' (47 :: [120]) (0 : Nat) [5])).1, s1.ps⟩ : Sv).t = (doF s1.t (putA' (47 :: [120]) (0 : Nat) [5])).1 from rfl, get_file (p := 47 :: [120]) p2 0 9 (by decide) (by decide)] at g
    rw [svF_mark, show (readR 0 0 9) = readR (hnd 0 0) ((0 : Nat) : Int) ((9 : Nat) : Int) from rfl]
    simp only
    rw [g]
    rfl
end serve
end Go.Proofs.YtmceappjldcbmaaDoor
