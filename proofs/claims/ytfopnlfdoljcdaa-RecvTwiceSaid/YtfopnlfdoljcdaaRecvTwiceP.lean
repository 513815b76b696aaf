/-
  WHAT CAME COMES AGAIN IN VAIN, IN PLAIN LEAN. No condition.
-/
import Derived.Test.YtfopnlfdoljcdaaRecvAllP
namespace Go.Proofs.Ytfopnlfdoljcdaa
set_option linter.unusedVariables false
set_option linter.unusedSimpArgs false

namespace recv
open hole
theorem add_same {d : Int} {l : List R} {r : R} (hc : chain d l) (hk : ∀ n, r.1 ≤ n → n < r.2 → knows d l n) : add d l r = (d, l) := by
  have hA := added d l r hc
  have := knows_eq hA.ch hc (fun n => by rw [hA.kn]; exact ⟨fun h => h.elim id (fun q => hk n q.1 q.2), .inl⟩)
  exact Prod.ext this.1 this.2
theorem putN_none (more : List R) (f : Nat) (b d : List UInt8) : ∀ k, (∀ i, i < k → innB more ((f + i : Nat) : Int) = true) → putN more f b d k = d
  | 0, _ => rfl
  | k + 1, h => by
    rw [putN_succ, if_pos (h k (by omega))]
    exact putN_none more f b d k (fun i hi => h i (by omega))
theorem keepF_none (d : List UInt8) (more : List R) (f : Nat) (b : List UInt8) (hl : f + b.length ≤ d.length) (h : ∀ i, i < b.length → innB more ((f + i : Nat) : Int) = true) : keepF d more f b = d := by
  unfold keepF
  rw [ext_le _ _ hl]
  exact putN_none _ _ _ _ _ h
theorem dup_same {h : He} (k : HOk h) {f : Int} {b b' : List UInt8} (hb : b'.length = b.length) (ha : AOk h (.arr f b false)) : (arrF (arrF h f b false).2 f b' false).2 = (arrF h f b false).2 := by
  have hok := k.arr ha
  have hf0 := ha.1
  have k2 := k.t0
  have k3 := k.t1
  by_cases hlt : max f h.done < min (f + b.length) (h.taken + h.room)
  · by_cases hfull : 16 < (add h.done h.more (max f h.done, min (f + b.length) (h.taken + h.room))).2.length
    · have e : arrF h f b false = (9, h) := by unfold arrF; rw [if_pos hlt, if_pos hfull]
      have e' : arrF h f b' false = (9, h) := by unfold arrF; rw [hb, if_pos hlt, if_pos hfull]
      rw [e, e']
    · have hA := added h.done h.more (max f h.done, min (f + b.length) (h.taken + h.room)) k.may.ch
      have e : arrF h f b false = (0, ⟨h.room, keepF h.data h.more (max f h.done).toNat ((b.drop (max f h.done - f).toNat).take (min (f + b.length) (h.taken + h.room) - max f h.done).toNat), (add h.done h.more (max f h.done, min (f + b.length) (h.taken + h.room))).1, (add h.done h.more (max f h.done, min (f + b.length) (h.taken + h.room))).2, h.taken, h.end_⟩) := by
        unfold arrF; rw [if_pos hlt, if_neg hfull]; rfl
      rw [e] at hok ⊢
      generalize keepF h.data h.more (max f h.done).toNat ((b.drop (max f h.done - f).toNat).take (min (f + b.length) (h.taken + h.room) - max f h.done).toNat) = D at *
      generalize (add h.done h.more (max f h.done, min (f + b.length) (h.taken + h.room))).1 = d' at *
      generalize (add h.done h.more (max f h.done, min (f + b.length) (h.taken + h.room))).2 = m' at *
      have hge := hA.ge
      have hch := hA.ch
      have hkn := hA.kn
      have hdat := hok.dat
      simp only at hdat hkn ⊢
      unfold arrF
      simp only
      rw [hb]
      by_cases hlt2 : max f d' < min (f + b.length) (h.taken + h.room)
      · have hin : ∀ n, max f d' ≤ n → n < min (f + b.length) (h.taken + h.room) → knows d' m' n := fun n h1 h2 => (hkn n).2 (.inr ⟨by omega, h2⟩)
        have hin2 : ∀ n, max f d' ≤ n → n < min (f + b.length) (h.taken + h.room) → inn m' n := fun n h1 h2 => (hin n h1 h2).elim (fun q => absurd q (by omega)) id
        rw [if_pos hlt2, add_same hch hin, if_neg hfull]
        have hlast := inn_lt hch (hin2 (min (f + b.length) (h.taken + h.room) - 1) (by omega) (by omega))
        have hpl : ((b'.drop (max f d' - f).toNat).take (min (f + b.length) (h.taken + h.room) - max f d').toNat).length = (min (f + b.length) (h.taken + h.room) - max f d').toNat := by
          rw [List.length_take, List.length_drop]; omega
        rw [keepF_none _ _ _ _ (by rw [hpl]; omega) (fun i hi => by rw [hpl] at hi; rw [innB_iff]; exact hin2 _ (by omega) (by omega))]
        rfl
      · rw [if_neg hlt2]; rfl
  · have e : arrF h f b false = (0, h) := by unfold arrF; rw [if_neg hlt]; rfl
    have e' : arrF h f b' false = (0, h) := by unfold arrF; rw [hb, if_neg hlt]; rfl
    rw [e, e']
/-- who hears while no end is told -/
structure Tw (h : He) : Prop where
  ok : HOk h
  en : h.end_ = -1
def Plain : Ar → Prop
  | .arr f b fin => 0 ≤ f ∧ f + b.length ≤ 10000 ∧ b.length ≤ 64 ∧ fin = false
  | .take n => 0 ≤ n ∧ n ≤ 4096
theorem OfS.plain {s : List UInt8} (hs : s.length ≤ 10000) {a : Ar} (h : OfS s false a) : Plain a := by
  cases a with
  | take n => exact h
  | arr f b fin =>
    obtain ⟨F, E, rfl, h1, h2, h3, rfl, h4⟩ := h
    have hl := OfS.len (F := F) h2
    refine ⟨by omega, by rw [hl]; omega, by rw [hl]; omega, ?_⟩
    cases fin with
    | false => rfl
    | true => exact absurd (h4 rfl).1 (by decide)
theorem Tw.aok {h : He} (k : Tw h) {a : Ar} (ha : Plain a) : AOk h a := by
  cases a with
  | take n => exact ha
  | arr f b fin =>
    obtain ⟨h1, h2, h3, rfl⟩ := ha
    exact ⟨h1, h2, h3, fun q => by have := k.en; omega, fun q => nomatch q.1⟩
theorem arrF_end (h : He) (f : Int) (b : List UInt8) : (arrF h f b false).2.end_ = h.end_ := by
  unfold arrF
  split
  · split <;> rfl
  · rfl
theorem Tw.step {h : He} (k : Tw h) {a : Ar} (ha : Plain a) : Tw (doF h a).1 := by
  refine ⟨k.ok.step (k.aok ha), ?_⟩
  cases a with
  | take n => exact k.en
  | arr f b fin =>
    obtain ⟨h1, h2, h3, rfl⟩ := ha
    exact (arrF_end h f b).trans k.en
theorem Tw.run : ∀ {l : List Ar} {h : He}, Tw h → (∀ a ∈ l, Plain a) → RunOk h l ∧ Tw (ends h l)
  | [], h, k, _ => ⟨trivial, k⟩
  | a :: t, h, k, ha => by
    have h1 := ha a (List.mem_cons_self ..)
    obtain ⟨i1, i2⟩ := Tw.run (k.step h1) (fun x hx => ha x (List.mem_cons_of_mem _ hx))
    exact ⟨⟨k.aok h1, i1⟩, i2⟩
theorem Tw.new {room : Int} (h : 1 ≤ room ∧ room ≤ 4096) : Tw (newF room) := ⟨HOk.new h, rfl⟩
/-- W comes to what Z comes to -/
structure Same (Z W : List Ar) : Prop where
  pz : ∀ a ∈ Z, Plain a
  pw : ∀ a ∈ W, Plain a
  eq : ∀ h, Tw h → ends h W = ends h Z
theorem Same.nil : Same [] [] := ⟨fun a h => (nomatch h), fun a h => (nomatch h), fun h _ => rfl⟩
theorem mem_snoc {α : Type} {p : α → Prop} {l : List α} {a : α} (h : ∀ x ∈ l, p x) (ha : p a) : ∀ x ∈ l ++ [a], p x := fun x hx => (List.mem_append.1 hx).elim (h x) (fun q => by obtain rfl := List.mem_singleton.1 q; exact ha)
theorem Same.snoc {Z W : List Ar} (k : Same Z W) {a : Ar} (ha : Plain a) : Same (Z ++ [a]) (W ++ [a]) :=
  ⟨mem_snoc k.pz ha, mem_snoc k.pw ha, fun h t => by rw [ends_snoc, ends_snoc, k.eq h t]⟩
theorem Same.dup {Z W : List Ar} {f : Int} {b b' : List UInt8} (hb : b'.length = b.length) (k : Same Z (W ++ [.arr f b false])) : Same Z (W ++ [.arr f b false] ++ [.arr f b' false]) := by
  have hp : Plain (.arr f b false) := k.pw _ (List.mem_append_right _ (List.mem_singleton.2 rfl))
  have hp' : Plain (.arr f b' false) := by
    obtain ⟨h1, h2, h3, h4⟩ := hp
    exact ⟨h1, by rw [hb]; exact h2, by rw [hb]; exact h3, rfl⟩
  refine ⟨k.pz, mem_snoc k.pw hp', fun h t => ?_⟩
  have tw := (Tw.run t (fun a ha => k.pw a (List.mem_append_left _ ha)) (l := W)).2
  rw [← k.eq h t, ends_snoc, ends_snoc]
  exact dup_same tw.ok hb (tw.aok hp)
/-- what is told last is the same -/
theorem Same.last {Z W : List Ar} (k : Same Z W) {room : Int} (h : 1 ≤ room ∧ room ≤ 4096) (a : Ar) : (runs (newF room) (W ++ [a])).getD W.length default = (runs (newF room) (Z ++ [a])).getD Z.length default := by
  have g : ∀ l : List Ar, (runs (newF room) (l ++ [a])).getD l.length default = (doF (ends (newF room) l) a).2 := fun l => by
    rw [runs_at _ _ _ (by simp), List.take_left', List.getD_eq_getElem?_getD, List.getElem?_append_right (Nat.le_refl _), Nat.sub_self]
    · rfl
    · rfl
  rw [g, g, k.eq _ (Tw.new h)]
/-- an arrival in memory, without an end -/
structure PlM (m : ArM) : Prop where
  ok : MOk m
  pl : Plain (toAr m)
theorem PlM.zero {m : ArM} (h : PlM m) (hk : m.kind = 2) : PlM ⟨m.kind, m.f, m.d, m.fin, 0⟩ :=
  ⟨⟨h.ok.kind, h.ok.len⟩, by unfold toAr; rw [if_neg (by simp only; omega)]; exact ⟨by simp only; omega, by simp only; omega⟩⟩
theorem PlM.arr {m : ArM} (h : PlM m) (hk : m.kind = 1) : toAr m = .arr m.f m.d.l false := by
  have := h.pl
  unfold toAr at this ⊢
  rw [if_pos hk] at this ⊢
  rw [this.2.2.2]
theorem PlM.fin {m : ArM} (h : PlM m) (hk : m.kind = 1) : m.fin = false := by
  have := h.pl
  unfold toAr at this
  rw [if_pos hk] at this
  exact this.2.2.2
theorem told_small (h : He) {a : Ar} (ha : Plain a) : (doF h a).2.data.length ≤ 4096 ∧ (doF h a).2.sacks.length ≤ 3 := by
  cases a with
  | arr f b fin =>
    refine ⟨Nat.zero_le _, ?_⟩
    show (sacks f (arrF h f b fin).2.more 3).length ≤ 3
    rw [sacks_len]; omega
  | take n =>
    obtain ⟨n0, n1⟩ := ha
    refine ⟨?_, ?_⟩
    · show ((h.data.drop h.taken.toNat).take (min n (h.done - h.taken)).toNat).length ≤ 4096
      rw [List.length_take]; omega
    · show (sacks (-1) h.more 3).length ≤ 3
      rw [sacks_len]; omega
end recv
end Go.Proofs.Ytfopnlfdoljcdaa
