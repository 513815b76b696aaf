/-
  PLAIN LAWS of who serves: what was shut is old for ever; what was written by a handle is read by another one.
-/
import Derived.Test.YtmceappjldcbmaaGreatDoorServeP
namespace Go.Proofs.YtmceappjldcbmaaGreatDoor
set_option linter.unusedVariables false
set_option linter.unusedSimpArgs false
namespace tree
open path
theorem look_none1 {t : Tr} {l : List (Nm × Nat)} (h0 : t.nd 0 = .dir l) {x : Nm} (hx : ent l x = none) (f lp : Bool) : lookF t f lp 0 [] [x] = .err 7 := by
  unfold lookF; rw [h0]; simp only; rw [hx]
theorem find_none1 {t : Tr} {l : List (Nm × Nat)} (h0 : t.nd 0 = .dir l) {x : Nm} (hx : ent l x = none) (f : Bool) : t.find [x] f = (7, 0) := by
  show findF t f (7 + 1) [x] = _
  unfold findF
  rw [look_none1 h0 hx]
theorem find_some1 {t : Tr} {l : List (Nm × Nat)} (h0 : t.nd 0 = .dir l) {x : Nm} {i : Nat} (hx : ent l x = some i) (hn : ∀ to, t.nd i ≠ .link to) (f : Bool) : t.find [x] f = (0, i) := by
  show findF t f (7 + 1) [x] = _
  unfold findF
  have : lookF t f false 0 [] [x] = .node i := by
    unfold lookF
    rw [h0]
    simp only
    rw [hx]
    simp only
    cases hnd : t.nd i with
    | link to => exact absurd hnd (hn to)
    | dir l2 => rfl
    | file b => rfl
  rw [this]
theorem doF_at {t : Tr} {a : Ac} (hk : 3 ≤ a.kind ∧ a.kind ≤ 7) {ns : List Nm} (hw : walkF [] a.path = (ns, 0)) {i : Nat} (hf : t.find ns true = (0, i)) : doF t a = atF t i a := by
  rw [doF_io hk hw, hf, if_neg (fun h => h rfl)]
theorem doF_no {t : Tr} {a : Ac} (hk : 3 ≤ a.kind ∧ a.kind ≤ 7) {ns : List Nm} (hw : walkF [] a.path = (ns, 0)) {e : Int} {i : Nat} (hf : t.find ns true = (e, i)) (he : ¬ e = 0) : doF t a = (t, no e) := by
  rw [doF_io hk hw, hf, if_pos he]
end tree
namespace serve
open tree path msg
/-- the names in a request's paths are a, b, c, d -/
def RqA (r : Rq) : Prop := (∀ x ∈ (walkF [] r.path).1, x ∈ abcd) ∧ (∀ x ∈ (walkF [] r.to_).1, x ∈ abcd)
/-- a place was freed more often -/
def Old (s : Sv) (i f : Nat) : Prop := f < (s.ps.getD i default).freed
theorem mod8 (i f : Nat) (hi : i < 8) : (((i : Int) + 8 * (f : Int)) % 8).toNat = i ∧ ((i : Int) + 8 * (f : Int)) / 8 = f ∧ ¬ ((i : Int) + 8 * (f : Int)) < 0 := by omega
def openR (p : Nm) (how : Int) : Rq := { Rq.zero with kind := 1, path := p, how := how }
def shutR (h : Int) : Rq := { Rq.zero with kind := 2, handle := h }
def readR (h at_ n : Int) : Rq := { Rq.zero with kind := 3, handle := h, at_ := at_, count := n }
def writeR (h at_ : Int) (d : List UInt8) : Rq := { Rq.zero with kind := 4, handle := h, at_ := at_, data := d }
def delR (p : Nm) : Rq := { Rq.zero with kind := 8, path := p }
def statR (p : Nm) : Rq := { Rq.zero with kind := 5, path := p }
theorem svF_open (s : Sv) (p : Nm) (how : Int) : svF s (openR p how) = openF s (openR p how) := by
  have e : (replyF s (openR p how)) = openF s (openR p how) := by
    unfold replyF
    rw [if_neg (by show ¬ (5 ≤ (1 : Int) ∧ (1 : Int) ≤ 10); decide), if_pos (show (openR p how).kind = 1 from rfl)]
  unfold svF
  rw [e]
  unfold openF opened
  split
  · rfl
  split
  · rfl
  split
  · rfl
  split
  · rfl
  split
  · split
    · rfl
    · rfl
  split
  · rfl
  · rfl
theorem svF_handle (s : Sv) {r : Rq} (hk : 2 ≤ r.kind ∧ r.kind ≤ 4) (hm : r.mark = 0) : svF s r = handleF s r := by
  have e : (replyF s r) = handleF s r := by
    unfold replyF
    rw [if_neg (by omega), if_neg (by omega), if_pos hk]
  unfold svF
  rw [e, hm]
  unfold handleF
  split
  · rfl
  split
  · rfl
  split
  · rfl
  split
  · rfl
  split
  · rfl
  split
  · rfl
  · rfl
/-- a file that is not there is opened, and made -/
theorem open_new {s : Sv} (k : TrOk s.t) {l : List (Nm × Nat)} (h0 : s.t.nd 0 = .dir l) {x : Nm} (hx : ent l x = none) (hw : walkF [] (47 :: x) = ([x], 0)) {how : Int} (hm : mayF how) (h4 : has how 4) :
    ((vac 0 s.ps = none ∨ s.t.count = 40) ∧ (svF s (openR (47 :: x) how)).2.code = 9 ∧ (svF s (openR (47 :: x) how)).1 = s) ∨ ∃ i, vac 0 s.ps = some i ∧ ¬ s.t.count = 40 ∧ svF s (openR (47 :: x) how) = opened s.ps ⟨s.t.ns.set 0 (.dir (l ++ [(x, s.t.ns.length)])) ++ [.file []], s.t.count + 1⟩ i (openR (47 :: x) how) := by
  rw [svF_open]
  unfold openF
  rw [if_neg (fun h => h hm)]
  cases hv : vac 0 s.ps with
  | none => exact .inl ⟨.inl rfl, rfl, rfl⟩
  | some i =>
    simp only
    have hst : doF s.t (statA (47 :: x)) = (s.t, no 7) := doF_no ⟨by show (3 : Int) ≤ 6; decide, by show (6 : Int) ≤ 7; decide⟩ hw (find_none1 h0 hx true) (by decide)
    have hfi : doF s.t (fileA (47 :: x)) = ((makeF s.t [x] (.file [])).2, no (makeF s.t [x] (.file [])).1) := by
      unfold doF fileA
      simp only
      rw [if_neg (by decide), if_neg (fun h => by omega), hw, if_neg (fun h => h rfl), if_neg (by decide), if_pos trivial]
    have hp : (openR (47 :: x) how).path = 47 :: x := rfl
    have hh : (openR (47 :: x) how).how = how := rfl
    rw [hp, hh, hst, hfi, make_one h0 hx]
    simp only
    rw [if_neg (fun h => absurd h.1 (by decide)), if_neg (fun h => absurd h.1 (by decide)), if_pos ⟨rfl, h4⟩]
    by_cases hc : s.t.count = 40
    · rw [if_pos hc]
      rw [if_pos (show ¬ (no ((9 : Int), s.t).1).code = 0 from (by decide : ¬ (9 : Int) = 0))]
      exact .inl ⟨.inr hc, rfl, rfl⟩
    · rw [if_neg hc]
      rw [if_neg (fun h => h rfl)]
      exact .inr ⟨i, rfl, hc, rfl⟩
def zzP : Nm := 47 :: zz
/-- a file at a path -/
def FileAt (t : Tr) (p : Nm) (b : List UInt8) : Prop := b.length ≤ 2048 ∧ ∃ ns i, walkF [] p = (ns, 0) ∧ t.find ns true = (0, i) ∧ t.nd i = .file b ∧ i < t.ns.length
def putA' (p : Nm) (k : Int) (d : List UInt8) : Ac := ⟨3, p, [], k, 0, d⟩
def getA' (p : Nm) (k n : Int) : Ac := ⟨4, p, [], k, n, []⟩
theorem put_file {t : Tr} {p : Nm} {b : List UInt8} (h : FileAt t p b) (k : Nat) (d : List UInt8) (hk : k + d.length ≤ 2048) :
    (doF t (putA' p k d)).2 = ⟨0, 0, ((wantF b d k).length : Int), [], []⟩ ∧ FileAt (doF t (putA' p k d)).1 p (wantF b d k) := by
  obtain ⟨hb, ns, i, hw, hf, hn, hi⟩ := h
  have hput : fileF b (putA' p k d) = (wantF b d k, ⟨0, 0, (wantF b d k).length, [], []⟩) := by
    rw [wantF_eq]
    have hfit : k + d.length ≤ (if (b.length : Int) < (k : Int) + d.length then long b ((k : Int) + d.length).toNat else b).length := by
      split
      · rw [long_len]; omega
      · omega
    unfold fileF putA'
    rw [if_neg (by unfold inB; simp; omega), if_neg (fun h => by have := h.2; simp only at this; omega), if_pos rfl]
    simp only [Int.toNat_natCast]
    rw [lay_len _ _ _ hfit]
  have hwl : (wantF b d k).length ≤ 2048 := by
    have := fileF_len hb (putA' p k d)
    rw [hput] at this; exact this
  have a2 : atF t i (putA' p k d) = (⟨t.ns.set i (.file (wantF b d k)), t.count⟩, ⟨0, 0, (wantF b d k).length, [], []⟩) := by
    unfold atF
    rw [hn]
    simp only
    rw [if_neg (show ¬ (putA' p k d).kind = 7 from (by decide : ¬ (3 : Int) = 7)), if_neg (show ¬ (putA' p k d).kind = 6 from (by decide : ¬ (3 : Int) = 6)), hput]
  rw [doF_at (a := putA' p k d) ⟨by show (3 : Int) ≤ 3; decide, by show (3 : Int) ≤ 7; decide⟩ hw hf, a2]
  refine ⟨rfl, hwl, ns, i, hw, ?_, ?_, by rw [List.length_set]; exact hi⟩
  · rw [← hf]; exact find_congr (fun j => E_set hn _ j) (fun j => K_set hn _ j) true ns
  · rw [nd_set, if_pos ⟨rfl, hi⟩]
theorem get_file {t : Tr} {p : Nm} {b : List UInt8} (h : FileAt t p b) (k n : Nat) (hk : k ≤ 2048) (hn : n ≤ 2048) : doF t (getA' p k n) = (t, ⟨0, 0, 0, (b.drop k).take n, []⟩) := by
  obtain ⟨hb, ns, i, hw, hf, hnd, hi⟩ := h
  rw [doF_at (a := getA' p k n) ⟨by show (3 : Int) ≤ 4; decide, by show (4 : Int) ≤ 7; decide⟩ hw hf]
  have e : fileF b (getA' p k n) = (b, ⟨0, 0, 0, (b.drop k).take n, []⟩) := by
    unfold fileF getA'
    rw [if_neg (by unfold inB; simp; omega), if_neg (fun h => absurd h.1 (show ¬ (4 : Int) = 3 by decide)), if_neg (show ¬ (4 : Int) = 3 by decide), if_pos rfl]
    simp only [Int.toNat_natCast]
    congr 2
    rcases Nat.le_total k b.length with c | c
    · rw [Nat.min_eq_left c, List.take_eq_take_iff, List.length_drop]; omega
    · rw [Nat.min_eq_right c, List.drop_of_length_le (Nat.le_refl _), List.drop_of_length_le c, List.take_nil, List.take_nil]
  unfold atF
  rw [hnd]
  simp only
  rw [if_neg (show ¬ (getA' p k n).kind = 7 from (by decide : ¬ (4 : Int) = 7)), if_neg (show ¬ (getA' p k n).kind = 6 from (by decide : ¬ (4 : Int) = 6)), e, set_self t i b hnd]
theorem cut_file {t : Tr} {p : Nm} {b : List UInt8} (h : FileAt t p b) : FileAt (doF t (cutA p)).1 p [] := by
  obtain ⟨hb, ns, i, hw, hf, hnd, hi⟩ := h
  rw [doF_at (a := cutA p) ⟨by show (3 : Int) ≤ 5; decide, by show (5 : Int) ≤ 7; decide⟩ hw hf]
  have e : (atF t i (cutA p)).1 = ⟨t.ns.set i (.file []), t.count⟩ := by
    unfold atF
    rw [hnd]
    simp only
    rw [if_neg (show ¬ (cutA p).kind = 7 from (by decide : ¬ (5 : Int) = 7)), if_neg (show ¬ (cutA p).kind = 6 from (by decide : ¬ (5 : Int) = 6))]
    have : (fileF b (cutA p)).1 = [] := by
      unfold fileF cutA
      rw [if_neg (by unfold inB; simp), if_neg (fun h => absurd h.1 (show ¬ (5 : Int) = 3 by decide)), if_neg (show ¬ (5 : Int) = 3 by decide), if_neg (show ¬ (5 : Int) = 4 by decide)]
      unfold long
      simp
    rw [this]
  rw [e]
  refine ⟨Nat.zero_le _, ns, i, hw, ?_, ?_, by rw [List.length_set]; exact hi⟩
  · rw [← hf]; exact find_congr (fun j => E_set hnd _ j) (fun j => K_set hnd _ j) true ns
  · rw [nd_set, if_pos ⟨rfl, hi⟩]
/-- a new file in the root -/
theorem new_file {t : Tr} (k : TrOk t) {l : List (Nm × Nat)} (h0 : t.nd 0 = .dir l) {x : Nm} (hx : ent l x = none) (hw : walkF [] (47 :: x) = ([x], 0)) (c : Int) : FileAt ⟨t.ns.set 0 (.dir (l ++ [(x, t.ns.length)])) ++ [.file []], c⟩ (47 :: x) [] := by
  have hpos := k.pos
  have hl1 : (t.ns.set 0 (.dir (l ++ [(x, t.ns.length)]))).length = t.ns.length := List.length_set ..
  have n0 : (⟨t.ns.set 0 (.dir (l ++ [(x, t.ns.length)])) ++ [.file []], c⟩ : Tr).nd 0 = .dir (l ++ [(x, t.ns.length)]) := by
    have := nd_snoc ⟨t.ns.set 0 (.dir (l ++ [(x, t.ns.length)])), t.count⟩ (.file []) c 0
    simp only [hl1] at this
    rw [this, if_neg (by omega), nd_set, if_pos ⟨rfl, hpos⟩]
  have nN : (⟨t.ns.set 0 (.dir (l ++ [(x, t.ns.length)])) ++ [.file []], c⟩ : Tr).nd t.ns.length = .file [] := by
    have := nd_snoc ⟨t.ns.set 0 (.dir (l ++ [(x, t.ns.length)])), t.count⟩ (.file []) c t.ns.length
    simp only [hl1] at this
    rw [this, if_pos True.intro]
  have he : ent (l ++ [(x, t.ns.length)]) x = some t.ns.length := by rw [ent_snoc, hx]; exact if_pos rfl
  exact ⟨Nat.zero_le _, [x], t.ns.length, hw, find_some1 n0 he (fun to h => by rw [nN] at h; exact nomatch h) true, nN, by simp⟩
/-- an open place -/
def HAt (s : Sv) (i f : Nat) (p : Nm) (how : Int) : Prop := i < 8 ∧ s.ps.getD i default = ⟨f, true, p, how⟩
abbrev hnd (i f : Nat) : Int := (i : Int) + 8 * (f : Int)
theorem write_at {s : Sv} {i f : Nat} {p : Nm} {how : Int} (h : HAt s i f p how) (k : Nat) (d : List UInt8) (hd : d.length ≤ 100) :
    svF s (writeR (hnd i f) k d) = if has how 2 then (⟨(doF s.t (putA' p k d)).1, s.ps⟩, told (doF s.t (putA' p k d)).2) else (s, rp 12) := by
  obtain ⟨m1, m2, m3⟩ := mod8 i f h.1
  rw [svF_handle _ ⟨by show (2 : Int) ≤ 4; decide, by show (4 : Int) ≤ 4; decide⟩ rfl]
  unfold handleF
  have e1 : (writeR (hnd i f) k d).handle = hnd i f := rfl
  have e2 : (writeR (hnd i f) k d).kind = 4 := rfl
  have e3 : (writeR (hnd i f) k d).data = d := rfl
  rw [e1, e2, e3, if_neg m3, m1, m2, h.2, if_neg (fun h => by rcases h with h | h; exact nomatch h; exact h rfl), if_neg (by decide)]
  simp only
  by_cases c : has how 2
  · rw [if_pos c, if_neg (fun h => by rcases h with h | h; exact absurd h.1 (by decide); exact h.2 c), if_neg (fun h => by rcases h with h | h; exact absurd h.1 (by decide); omega), if_neg (by decide)]; rfl
  · rw [if_neg c, if_pos (.inr ⟨trivial, c⟩)]
theorem read_at {s : Sv} {i f : Nat} {p : Nm} {how : Int} (h : HAt s i f p how) (k n : Nat) (hn : 1 ≤ n ∧ n ≤ 100) :
    svF s (readR (hnd i f) k n) = if has how 1 then (⟨(doF s.t (getA' p k n)).1, s.ps⟩, told (doF s.t (getA' p k n)).2) else (s, rp 12) := by
  obtain ⟨m1, m2, m3⟩ := mod8 i f h.1
  rw [svF_handle _ ⟨by show (2 : Int) ≤ 3; decide, by show (3 : Int) ≤ 4; decide⟩ rfl]
  unfold handleF
  have e1 : (readR (hnd i f) k n).handle = hnd i f := rfl
  have e2 : (readR (hnd i f) k n).kind = 3 := rfl
  have e3 : (readR (hnd i f) k n).count = (n : Int) := rfl
  rw [e1, e2, e3, if_neg m3, m1, m2, h.2, if_neg (fun h => by rcases h with h | h; exact nomatch h; exact h rfl), if_neg (by decide)]
  simp only
  by_cases c : has how 1
  · rw [if_pos c, if_neg (fun h => by rcases h with h | h; exact h.2 c; exact absurd h.1 (by decide)), if_neg (fun h => by rcases h with h | h; omega; exact absurd h.1 (by decide)), if_pos trivial]; rfl
  · rw [if_neg c, if_pos (.inl ⟨trivial, c⟩)]
/-- a small talk with who serves -/
def xP : Nm := [47, 120]
end serve
end Go.Proofs.YtmceappjldcbmaaGreatDoor
