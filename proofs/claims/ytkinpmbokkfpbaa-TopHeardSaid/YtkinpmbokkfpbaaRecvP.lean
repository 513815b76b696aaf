/-
  WHO HEARS, IN PLAIN LEAN: what an arrival does ('doF'), what is kept ('HOk'). No program in sight.
-/
import Derived.Test.YtkinpmbokkfpbaaSacksP
namespace Go.Proofs.Ytkinpmbokkfpbaa
set_option linter.unusedVariables false
set_option linter.unusedSimpArgs false

namespace recv
open hole
structure He where
  room : Int
  data : List UInt8
  done : Int
  more : List R
  taken : Int
  end_ : Int
inductive Ar where
  | arr (f : Int) (b : List UInt8) (fin : Bool)
  | take (n : Int)
structure To where
  code : Int
  ack : Int
  window : Int
  sacks : List R
  data : List UInt8
  fin : Bool
instance : Inhabited To := ⟨⟨0, 0, 0, [], [], false⟩⟩
instance : Inhabited Ar := ⟨.take 0⟩
def innB (l : List R) (x : Int) : Bool := l.any (inx x)
theorem innB_iff (l : List R) (x : Int) : innB l x = true ↔ inn l x := by
  unfold innB inn
  rw [List.any_eq_true]
  exact exists_congr fun r => and_congr Iff.rfl (inx_iff x r)
/-- the first k bytes of b put from f on, where nothing is known -/
def putN (more : List R) (f : Nat) (b d : List UInt8) (k : Nat) : List UInt8 :=
  (List.range k).foldl (fun d i => if innB more ((f + i : Nat) : Int) then d else d.set (f + i) (b.getD i default)) d
theorem putN_zero (more : List R) (f : Nat) (b d : List UInt8) : putN more f b d 0 = d := rfl
theorem putN_succ (more : List R) (f : Nat) (b d : List UInt8) (k : Nat) : putN more f b d (k + 1) = if innB more ((f + k : Nat) : Int) then putN more f b d k else (putN more f b d k).set (f + k) (b.getD k default) := by
  unfold putN
  rw [List.range_succ, List.foldl_append]; rfl
theorem putN_len (more : List R) (f : Nat) (b d : List UInt8) : ∀ k, (putN more f b d k).length = d.length
  | 0 => rfl
  | k + 1 => by
    rw [putN_succ]
    split
    · exact putN_len more f b d k
    · rw [List.length_set]; exact putN_len more f b d k
theorem putN_at (more : List R) (f : Nat) (b d : List UInt8) : ∀ (k p : Nat), f + k ≤ d.length → (putN more f b d k).getD p default = if f ≤ p ∧ p < f + k ∧ innB more (p : Int) = false then b.getD (p - f) default else d.getD p default
  | 0, p, h => by rw [if_neg (by omega)]; rfl
  | k + 1, p, h => by
    have ih := putN_at more f b d k p (by omega)
    have hl := putN_len more f b d k
    rw [putN_succ]
    by_cases e : p = f + k
    · subst e
      cases hi : innB more ((f + k : Nat) : Int) with
      | true => rw [if_pos rfl, if_neg (by simp), ih, if_neg (by omega)]
      | false =>
        rw [if_neg (by simp), if_pos ⟨by omega, by omega, rfl⟩, show f + k - f = k by omega]
        rw [List.getD_eq_getElem?_getD, List.getElem?_set_self (by omega)]; rfl
    · have hsame : (if innB more ((f + k : Nat) : Int) = true then putN more f b d k else (putN more f b d k).set (f + k) (b.getD k default)).getD p default = (putN more f b d k).getD p default := by
        split
        · rfl
        · rw [List.getD_eq_getElem?_getD, List.getElem?_set_ne (Ne.symm e), ← List.getD_eq_getElem?_getD]
      rw [hsame, ih]
      by_cases c : f ≤ p ∧ p < f + k ∧ innB more (p : Int) = false
      · rw [if_pos c, if_pos ⟨c.1, by omega, c.2.2⟩]
      · rw [if_neg c, if_neg (fun h => c ⟨h.1, by omega, h.2.2⟩)]
/-- with zeros up to m -/
def ext (d : List UInt8) (m : Nat) : List UInt8 := d ++ List.replicate (m - d.length) 0
theorem ext_len (d : List UInt8) (m : Nat) : (ext d m).length = max d.length m := by
  unfold ext; rw [List.length_append, List.length_replicate]; omega
theorem ext_at (d : List UInt8) (m p : Nat) (h : p < d.length) : (ext d m).getD p default = d.getD p default := by
  unfold ext
  rw [List.getD_eq_getElem?_getD, List.getElem?_append_left h, ← List.getD_eq_getElem?_getD]
theorem ext_le (d : List UInt8) (m : Nat) (h : m ≤ d.length) : ext d m = d := by
  unfold ext; rw [show m - d.length = 0 by omega]; simp
def keepF (d : List UInt8) (more : List R) (f : Nat) (b : List UInt8) : List UInt8 := putN more f b (ext d (f + b.length)) b.length
theorem keepF_len (d : List UInt8) (more : List R) (f : Nat) (b : List UInt8) : (keepF d more f b).length = max d.length (f + b.length) := by
  unfold keepF; rw [putN_len, ext_len]
theorem keepF_at (d : List UInt8) (more : List R) (f : Nat) (b : List UInt8) (p : Nat) (hp : p < d.length ∨ f ≤ p) : (keepF d more f b).getD p default = if f ≤ p ∧ p < f + b.length ∧ innB more (p : Int) = false then b.getD (p - f) default else (ext d (f + b.length)).getD p default := by
  unfold keepF
  rw [putN_at more f b _ _ p (by rw [ext_len]; omega)]
/-- what an arrival comes to: the error's number, and how who hears then is -/
def arrF (h : He) (f : Int) (b : List UInt8) (fin : Bool) : Int × He :=
  if max f h.done < min (f + b.length) (h.taken + h.room) then
    if 16 < (add h.done h.more (max f h.done, min (f + b.length) (h.taken + h.room))).2.length then (9, h)
    else (0, ⟨h.room, keepF h.data h.more (max f h.done).toNat ((b.drop (max f h.done - f).toNat).take (min (f + b.length) (h.taken + h.room) - max f h.done).toNat),
      (add h.done h.more (max f h.done, min (f + b.length) (h.taken + h.room))).1, (add h.done h.more (max f h.done, min (f + b.length) (h.taken + h.room))).2, h.taken, if fin then f + b.length else h.end_⟩)
  else (0, ⟨h.room, h.data, h.done, h.more, h.taken, if fin then f + b.length else h.end_⟩)
def told (h : He) (code last : Int) (data : List UInt8) (fin : Bool) : To := ⟨code, if h.done = h.end_ then h.done + 1 else h.done, h.taken + h.room - h.done, sacks last h.more 3, data, fin⟩
def takeF (h : He) (n : Int) : List UInt8 × He := ((h.data.drop h.taken.toNat).take (min n (h.done - h.taken)).toNat, ⟨h.room, h.data, h.done, h.more, h.taken + min n (h.done - h.taken), h.end_⟩)
def doF (h : He) : Ar → He × To
  | .arr f b fin => ((arrF h f b fin).2, told (arrF h f b fin).2 (arrF h f b fin).1 f [] false)
  | .take n => ((takeF h n).2, told (takeF h n).2 0 (-1) (takeF h n).1 (decide ((takeF h n).2.taken = (takeF h n).2.end_)))
structure HOk (h : He) : Prop where
  may : May h.done h.more
  t0 : 0 ≤ h.taken
  t1 : h.taken ≤ h.done
  r0 : 1 ≤ h.room
  r1 : h.room ≤ 4096
  win : last h.done h.more ≤ h.taken + h.room
  dat : last h.done h.more ≤ h.data.length
  cap : (h.data.length : Int) ≤ 10000
def AOk (h : He) : Ar → Prop
  | .arr f b fin => 0 ≤ f ∧ f + b.length ≤ 10000 ∧ b.length ≤ 64 ∧ ¬ (0 ≤ h.end_ ∧ (h.end_ < f + b.length ∨ fin = true ∧ ¬ f + b.length = h.end_)) ∧ ¬ (fin = true ∧ f + b.length < last h.done h.more)
  | .take n => 0 ≤ n ∧ n ≤ 4096
theorem HOk.dle {h : He} (k : HOk h) : h.done ≤ last h.done h.more := chain_le _ _ k.may.ch
theorem HOk.arr {h : He} (k : HOk h) {f : Int} {b : List UInt8} {fin : Bool} (ha : AOk h (.arr f b fin)) : HOk (arrF h f b fin).2 := by
  obtain ⟨a1, a2, a3, a4, a5⟩ := ha
  have hd := k.dle
  have hA := added h.done h.more (max f h.done, min (f + b.length) (h.taken + h.room)) k.may.ch
  unfold arrF
  have k2 := k.t0
  have k3 := k.t1
  have kw := k.win
  have kd := k.dat
  have kc := k.cap
  have khi := k.may.hi
  have kd0 := k.may.d0
  split
  · rename_i hlt
    split
    · exact k
    · rename_i hf
      obtain ⟨c1, c2, c3, c4, c5, c6⟩ := hA
      simp only at c3
      have hle := chain_le _ _ c1
      refine ⟨⟨by simp only; omega, c1, by simp only; omega, by simp only; omega⟩, k2, by simp only; omega, k.r0, k.r1, by simp only; omega, ?_, ?_⟩
      · simp only [keepF_len, List.length_take, List.length_drop]
        omega
      · simp only [keepF_len, List.length_take, List.length_drop]
        omega
  · exact ⟨k.may, k.t0, k.t1, k.r0, k.r1, k.win, k.dat, k.cap⟩
theorem HOk.take {h : He} (k : HOk h) {n : Int} (ha : AOk h (.take n)) : HOk (takeF h n).2 := by
  obtain ⟨a1, a2⟩ := ha
  have k2 := k.t0
  have k3 := k.t1
  have kw := k.win
  exact ⟨k.may, by simp only [takeF]; omega, by simp only [takeF]; omega, k.r0, k.r1, by simp only [takeF]; omega, k.dat, k.cap⟩
theorem HOk.step {h : He} (k : HOk h) {a : Ar} (ha : AOk h a) : HOk (doF h a).1 := by
  cases a with
  | arr f b fin => exact k.arr ha
  | take n => exact k.take ha
def newF (room : Int) : He := ⟨room, [], 0, [], 0, -1⟩
theorem HOk.new {room : Int} (h : 1 ≤ room ∧ room ≤ 4096) : HOk (newF room) :=
  ⟨⟨by simp [newF], trivial, by simp [newF, last], by simp [newF]⟩, by simp [newF], by simp [newF], h.1, h.2, by simp [newF, last]; omega, by simp [newF, last], by simp [newF]⟩
/-- arrivals that may come, one behind the other; what is told -/
def runs : He → List Ar → List To
  | _, [] => []
  | h, a :: t => (doF h a).2 :: runs (doF h a).1 t
def ends : He → List Ar → He
  | h, [] => h
  | h, a :: t => ends (doF h a).1 t
def RunOk : He → List Ar → Prop
  | _, [] => True
  | h, a :: t => AOk h a ∧ RunOk (doF h a).1 t
theorem runs_len : ∀ (l : List Ar) (h : He), (runs h l).length = l.length
  | [], _ => rfl
  | a :: t, h => by simp [runs, runs_len t]
theorem runs_app : ∀ (l m : List Ar) (h : He), runs h (l ++ m) = runs h l ++ runs (ends h l) m
  | [], m, h => rfl
  | a :: t, m, h => by simp only [List.cons_append, runs, ends, runs_app t m]
theorem ends_app : ∀ (l m : List Ar) (h : He), ends h (l ++ m) = ends (ends h l) m
  | [], m, h => rfl
  | a :: t, m, h => by simp only [List.cons_append, ends, ends_app t m]
theorem RunOk_app : ∀ (l m : List Ar) (h : He), RunOk h (l ++ m) ↔ RunOk h l ∧ RunOk (ends h l) m
  | [], m, h => by simp [RunOk, ends]
  | a :: t, m, h => by simp only [List.cons_append, RunOk, ends, RunOk_app t m, and_assoc]
theorem HOk.ends : ∀ {l : List Ar} {h : He}, HOk h → RunOk h l → HOk (ends h l)
  | [], _, k, _ => k
  | a :: t, h, k, ha => HOk.ends (l := t) (k.step ha.1) ha.2
end recv
end Go.Proofs.Ytkinpmbokkfpbaa
