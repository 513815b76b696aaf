/-
  WHO SERVES, IN PLAIN LEAN: what a request comes to ('svF'), what is kept ('SvOk'). No program in sight.
-/
import Derived.Test.YtmceappjldcbmaaGreatDoorTreeN4
import Derived.Test.YtmceappjldcbmaaGreatDoorRq
namespace Go.Proofs.YtmceappjldcbmaaGreatDoor
set_option linter.unusedVariables false
set_option linter.unusedSimpArgs false
namespace serve
open tree path msg
/-- a place of a handle -/
structure Pl where
  freed : Nat
  op : Bool
  path : Nm
  how : Int
instance : Inhabited Pl := ⟨⟨0, false, [], 0⟩⟩
structure Sv where
  t : Tr
  ps : List Pl
structure Rp where
  mark : Int
  code : Int
  handle : Int
  kind : Int
  size : Int
  d : List UInt8
  names : List Nm
instance : Inhabited Rp := ⟨⟨0, 0, 0, 0, 0, [], []⟩⟩
def rp (e : Int) : Rp := ⟨0, e, 0, 0, 0, [], []⟩
def told (x : Sn) : Rp := ⟨0, x.code, 0, x.kind, x.size, x.d, x.names⟩
def plainK (k : Int) : Int := if k = 5 then 6 else if k = 6 then 7 else if k = 7 then 1 else k
abbrev has (h : Int) (b : Nat) : Prop := (h.toNat / b) % 2 = 1
abbrev mayF (h : Int) : Prop := 0 ≤ h ∧ h ≤ 31 ∧ (has h 1 ∨ has h 2) ∧ (has h 4 ∨ ¬ has h 8) ∧ (has h 2 ∨ ¬ has h 16)
/-- the first place that is free -/
def vac : Nat → List Pl → Option Nat
  | _, [] => none
  | i, p :: l => if p.op = true then vac (i + 1) l else some i
def statA (p : Nm) : Ac := ⟨6, p, [], 0, 0, []⟩
def fileA (p : Nm) : Ac := ⟨2, p, [], 0, 0, []⟩
def cutA (p : Nm) : Ac := ⟨5, p, [], 0, 0, []⟩
noncomputable def opened (ps : List Pl) (t : Tr) (i : Nat) (r : Rq) : Sv × Rp :=
  (⟨if has r.how 16 then (doF t (cutA r.path)).1 else t, ps.set i ⟨(ps.getD i default).freed, true, r.path, r.how⟩⟩, ⟨0, 0, (i : Int) + 8 * ((ps.getD i default).freed : Int), 0, 0, [], []⟩)
noncomputable def openF (s : Sv) (r : Rq) : Sv × Rp :=
  if ¬ mayF r.how then (s, rp 4)
  else match vac 0 s.ps with
  | none => (s, rp 9)
  | some i =>
    if (doF s.t (statA r.path)).2.code = 0 ∧ has r.how 8 then (s, rp 8)
    else if (doF s.t (statA r.path)).2.code = 0 ∧ (doF s.t (statA r.path)).2.kind = 1 then (s, rp 14)
    else if (doF s.t (statA r.path)).2.code = 7 ∧ has r.how 4 then
      if ¬ (doF s.t (fileA r.path)).2.code = 0 then (⟨(doF s.t (fileA r.path)).1, s.ps⟩, rp (doF s.t (fileA r.path)).2.code)
      else opened s.ps (doF s.t (fileA r.path)).1 i r
    else if ¬ (doF s.t (statA r.path)).2.code = 0 then (s, rp (doF s.t (statA r.path)).2.code)
    else opened s.ps s.t i r
noncomputable def handleF (s : Sv) (r : Rq) : Sv × Rp :=
  if r.handle < 0 then (s, rp 17)
  else if (s.ps.getD (r.handle % 8).toNat default).op = false ∨ ¬ ((s.ps.getD (r.handle % 8).toNat default).freed : Int) = r.handle / 8 then (s, rp 17)
  else if r.kind = 2 then (⟨s.t, s.ps.set (r.handle % 8).toNat ⟨(s.ps.getD (r.handle % 8).toNat default).freed + 1, false, [], 0⟩⟩, rp 0)
  else if (r.kind = 3 ∧ ¬ has (s.ps.getD (r.handle % 8).toNat default).how 1) ∨ (r.kind = 4 ∧ ¬ has (s.ps.getD (r.handle % 8).toNat default).how 2) then (s, rp 12)
  else if (r.kind = 3 ∧ (r.count < 1 ∨ 100 < r.count)) ∨ (r.kind = 4 ∧ 100 < r.data.length) then (s, rp 1)
  else if r.kind = 3 then (⟨(doF s.t ⟨4, (s.ps.getD (r.handle % 8).toNat default).path, [], r.at_, r.count, []⟩).1, s.ps⟩, told (doF s.t ⟨4, (s.ps.getD (r.handle % 8).toNat default).path, [], r.at_, r.count, []⟩).2)
  else (⟨(doF s.t ⟨3, (s.ps.getD (r.handle % 8).toNat default).path, [], r.at_, 0, r.data⟩).1, s.ps⟩, told (doF s.t ⟨3, (s.ps.getD (r.handle % 8).toNat default).path, [], r.at_, 0, r.data⟩).2)
noncomputable def replyF (s : Sv) (r : Rq) : Sv × Rp :=
  if 5 ≤ r.kind ∧ r.kind ≤ 10 then (⟨(doF s.t ⟨plainK r.kind, r.path, r.to_, 0, 0, []⟩).1, s.ps⟩, told (doF s.t ⟨plainK r.kind, r.path, r.to_, 0, 0, []⟩).2)
  else if r.kind = 1 then openF s r
  else if 2 ≤ r.kind ∧ r.kind ≤ 4 then handleF s r
  else (s, rp 3)
noncomputable def svF (s : Sv) (r : Rq) : Sv × Rp := ((replyF s r).1, { (replyF s r).2 with mark := r.mark })
def svNew : Sv := ⟨newT, List.replicate 8 default⟩
noncomputable def sruns : Sv → List Rq → List Rp
  | _, [] => []
  | s, r :: l => (svF s r).2 :: sruns (svF s r).1 l
noncomputable def sends : Sv → List Rq → Sv
  | s, [] => s
  | s, r :: l => sends (svF s r).1 l
/-- what is kept: so many requests were made at most -/
structure SvOk (s : Sv) (N : Nat) : Prop where
  tr : TrOk s.t
  cn : Cnt s.t
  len : s.ps.length = 8
  freed : ∀ p ∈ s.ps, p.freed ≤ N
  path : ∀ p ∈ s.ps, p.path.length ≤ 1000000
  how : ∀ p ∈ s.ps, 0 ≤ p.how ∧ p.how ≤ 31
theorem SvOk.new : SvOk svNew 0 :=
  ⟨TrOk.new, Cnt.new, rfl, fun p hp => by rw [List.eq_of_mem_replicate hp]; exact Nat.le_refl _, fun p hp => by rw [List.eq_of_mem_replicate hp]; exact Nat.zero_le _, fun p hp => by rw [List.eq_of_mem_replicate hp]; exact ⟨Int.le_refl _, by decide⟩⟩
theorem getD_mem {α : Type} [Inhabited α] {l : List α} {i : Nat} (h : i < l.length) : l.getD i default ∈ l := by
  rw [List.getD_eq_getElem?_getD, List.getElem?_eq_getElem h]; exact List.getElem_mem h
theorem getD_set' (l : List Pl) (i j : Nat) (x : Pl) : (l.set i x).getD j default = if i = j ∧ i < l.length then x else l.getD j default := by
  rw [List.getD_eq_getElem?_getD, List.getD_eq_getElem?_getD, List.getElem?_set]
  by_cases h : i = j
  · subst h
    rw [if_pos rfl]
    by_cases c : i < l.length
    · rw [if_pos c, if_pos ⟨rfl, c⟩]; rfl
    · rw [if_neg c, if_neg (fun h => c h.2), List.getElem?_eq_none (by omega)]
  · rw [if_neg h, if_neg (fun c => h c.1)]
theorem vac_some : ∀ {l : List Pl} {i k : Nat}, vac i l = some k → i ≤ k ∧ k < i + l.length ∧ (l.getD (k - i) default).op = false
  | [], i, k, h => nomatch h
  | p :: l, i, k, h => by
    unfold vac at h
    split at h
    · obtain ⟨a, b, c⟩ := vac_some h
      refine ⟨by omega, by rw [List.length_cons]; omega, ?_⟩
      rw [show k - i = (k - (i + 1)) + 1 by omega]; exact c
    · rename_i c
      obtain rfl := Option.some.inj h
      rw [Nat.sub_self]
      exact ⟨Nat.le_refl _, by rw [List.length_cons]; omega, by simpa using c⟩
theorem vac_at : ∀ {l : List Pl} {i k : Nat}, k < l.length → (∀ j, j < k → (l.getD j default).op = true) → (l.getD k default).op = false → vac i l = some (i + k)
  | p :: l, i, 0, h, _, h0 => by
    unfold vac
    rw [if_neg (fun c => by rw [show p.op = false from h0] at c; exact nomatch c)]; rfl
  | p :: l, i, k + 1, h, hj, h0 => by
    unfold vac
    rw [if_pos (show p.op = true from hj 0 (Nat.zero_lt_succ _)), vac_at (l := l) (i := i + 1) (k := k) (by rw [List.length_cons] at h; omega) (fun j hj' => hj (j + 1) (by omega)) h0]
    congr 1; omega
theorem vac_none : ∀ {l : List Pl} {i : Nat}, (∀ j, j < l.length → (l.getD j default).op = true) → vac i l = none
  | [], i, _ => rfl
  | p :: l, i, h => by
    unfold vac
    rw [if_pos (show p.op = true from h 0 (by rw [List.length_cons]; omega))]
    exact vac_none (fun j hj => h (j + 1) (by rw [List.length_cons]; omega))
theorem SvOk.more {s : Sv} {N M : Nat} (k : SvOk s N) (h : N ≤ M) : SvOk s M := ⟨k.tr, k.cn, k.len, fun p hp => Nat.le_trans (k.freed p hp) h, k.path, k.how⟩
theorem SvOk.tree {s : Sv} {N : Nat} (k : SvOk s N) (a : Ac) : SvOk ⟨(doF s.t a).1, s.ps⟩ (N + 1) :=
  ⟨(k.tr.do_ k.cn a).1, (k.tr.do_ k.cn a).2, k.len, fun p hp => Nat.le_succ_of_le (k.freed p hp), k.path, k.how⟩
theorem SvOk.place {t : Tr} {ps : List Pl} {N : Nat} (k : SvOk ⟨t, ps⟩ N) (i : Nat) (p : Pl) (h1 : p.freed ≤ N + 1) (h2 : p.path.length ≤ 1000000) (h3 : 0 ≤ p.how ∧ p.how ≤ 31) : SvOk ⟨t, ps.set i p⟩ (N + 1) := by
  refine ⟨k.tr, k.cn, (List.length_set ..).trans k.len, fun q hq => ?_, fun q hq => ?_, fun q hq => ?_⟩
  · rcases List.mem_or_eq_of_mem_set hq with h | rfl
    · exact Nat.le_succ_of_le (k.freed q h)
    · exact h1
  · rcases List.mem_or_eq_of_mem_set hq with h | rfl
    · exact k.path q h
    · exact h2
  · rcases List.mem_or_eq_of_mem_set hq with h | rfl
    · exact k.how q h
    · exact h3
def RqOk (r : Rq) : Prop := r.path.length ≤ 1000000 ∧ r.to_.length ≤ 1000000 ∧ r.data.length ≤ 1000000 ∧ 0 ≤ r.how ∧ r.how ≤ 31
theorem freed_at {ps : List Pl} {N i : Nat} (h : ∀ p ∈ ps, p.freed ≤ N) : (ps.getD i default).freed ≤ N := by
  rcases Nat.lt_or_ge i ps.length with c | c
  · exact h _ (getD_mem c)
  · rw [List.getD_eq_getElem?_getD, List.getElem?_eq_none c]; exact Nat.zero_le _
theorem SvOk.opened {t : Tr} {ps : List Pl} {N : Nat} (k : SvOk ⟨t, ps⟩ N) (i : Nat) {r : Rq} (hr : RqOk r) : SvOk (opened ps t i r).1 (N + 1) := by
  unfold serve.opened
  have hf : (ps.getD i default).freed ≤ N := freed_at (i := i) k.freed
  by_cases c : has r.how 16
  · rw [if_pos c]
    have h1 := (k.tree (cutA r.path))
    have h2 : SvOk ⟨(doF t (cutA r.path)).1, ps⟩ N := ⟨h1.tr, h1.cn, k.len, k.freed, k.path, k.how⟩
    exact h2.place i _ (by simp only; omega) hr.1 hr.2.2.2
  · rw [if_neg c]
    exact k.place i _ (by simp only; omega) hr.1 hr.2.2.2
theorem SvOk.do_ {s : Sv} {N : Nat} (k : SvOk s N) {r : Rq} (hr : RqOk r) : SvOk (svF s r).1 (N + 1) := by
  unfold svF replyF
  simp only
  split
  · exact k.tree _
  split
  · unfold openF
    split
    · exact k.more (by omega)
    split
    · exact k.more (by omega)
    split
    · exact k.more (by omega)
    split
    · exact k.more (by omega)
    split
    · split
      · exact k.tree _
      · refine SvOk.opened ?_ _ hr
        have h1 := k.tree (fileA r.path)
        exact ⟨h1.tr, h1.cn, k.len, k.freed, k.path, k.how⟩
    split
    · exact k.more (by omega)
    · exact SvOk.opened k _ hr
  split
  · unfold handleF
    split
    · exact k.more (by omega)
    split
    · exact k.more (by omega)
    split
    · have hf := freed_at (i := (r.handle % 8).toNat) k.freed
      exact SvOk.place k _ _ (by simp only; omega) (Nat.zero_le _) ⟨Int.le_refl _, (by decide : (0 : Int) ≤ 31)⟩
    split
    · exact k.more (by omega)
    split
    · exact k.more (by omega)
    split
    · exact k.tree _
    · exact k.tree _
  · exact k.more (by omega)
theorem SvOk.ends : ∀ {s : Sv} {N : Nat} (l : List Rq), SvOk s N → (∀ r ∈ l, RqOk r) → SvOk (sends s l) (N + l.length)
  | s, N, [], k, _ => k
  | s, N, r :: l, k, h => by
    have := SvOk.ends l (k.do_ (h r (List.mem_cons_self ..))) (fun q hq => h q (List.mem_cons_of_mem _ hq))
    rw [List.length_cons, show N + (l.length + 1) = N + 1 + l.length by omega]
    exact this
theorem sruns_app : ∀ (t : Sv) (l m : List Rq), sruns t (l ++ m) = sruns t l ++ sruns (sends t l) m
  | t, [], m => rfl
  | t, a :: l, m => congrArg (_ :: ·) (sruns_app _ l m)
theorem sends_app : ∀ (t : Sv) (l m : List Rq), sends t (l ++ m) = sends (sends t l) m
  | t, [], m => rfl
  | t, a :: l, m => sends_app _ l m
theorem sruns_len : ∀ (t : Sv) (l : List Rq), (sruns t l).length = l.length
  | t, [] => rfl
  | t, a :: l => congrArg Nat.succ (sruns_len _ l)
/-- MARKS DO NOT MATTER -/
def setM (r : Rq) (m : Int) : Rq := { r with mark := m }
def setMp (r : Rp) (m : Int) : Rp := { r with mark := m }
/-- stat and get leave all as it is -/
theorem atF_look {t : Tr} {i : Nat} {a : Ac} (h : a.kind = 6 ∨ a.kind = 4) : (atF t i a).1 = t := by
  unfold atF
  split
  · split
    · rfl
    split
    · rfl
    · rfl
  · rename_i b hb
    split
    · rfl
    split
    · rfl
    · rename_i c1 c2
      have hk : a.kind = 4 := by rcases h with h | h; exact absurd h c2; exact h
      have e : (fileF b a).1 = b := by
        unfold fileF
        split
        · rfl
        split
        · rfl
        split
        · rename_i c; rw [hk] at c; exact absurd c (by decide)
        first
          | rfl
          | (split
             · rfl
             · rename_i c; exact absurd hk c)
      rw [e, set_self t i b hb]
  · rfl
theorem do_look {t : Tr} {a : Ac} (h : a.kind = 6 ∨ a.kind = 4) : (doF t a).1 = t := by
  unfold doF
  split
  · rfl
  split
  · rfl
  split
  · rfl
  split
  · rename_i c; omega
  split
  · rename_i c; omega
  split
  · rename_i c; omega
  split
  · rename_i c; omega
  split
  · rename_i c; omega
  split
  · rfl
  · exact atF_look h
end serve
end Go.Proofs.YtmceappjldcbmaaGreatDoor
