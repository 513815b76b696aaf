/-
  PLAIN LAW of inet's folds, over bytes: sums of pairs, what stands where, turned round, one changed. No program in sight.
-/
import Derived.Test.YthplilldkdehnaaCom
namespace Go.Proofs.Ythplilldkdehnaa
open Go.RowKit
set_option linter.unusedVariables false

theorem flat_cut {α : Type} {enc : α → List Value} {s : Nat} (h : Enc enc s) (l : List α) (a b : Nat) : ((flat enc l).drop (a * s)).take ((b - a) * s) = flat enc ((l.drop a).take (b - a)) := by
  rw [flat_drop h, flat_take h]
/-- a number's last byte -/
def byteZ (v : Int) : UInt8 := UInt8.ofNat (v % 256).toNat
theorem byteZ_toNat (v : Int) : ((byteZ v).toNat : Int) = v % 256 := by
  have h : (v % 256).toNat < 256 := by omega
  unfold byteZ
  rw [UInt8.toNat_ofNat_of_lt' (by simpa using h)]
  omega
theorem set_eB (l : List Value) (x : UInt8) (v : Int) (b : UInt8) (h : ((b.toNat : Int)) = v) : (eB x).set 0 (.int .u8 v) = eB b := by simp [eB, h]

namespace inet
def ofold (n : Int) : Int := if n ≤ 0 then 0 else (n - 1) % 65535 + 1
theorem ofold_le (n : Int) (h0 : 0 ≤ n) (h : n ≤ 65535) : ofold n = n := by unfold ofold; split <;> omega
theorem ofold_step (n : Int) (h : 65535 < n) : ofold (n / 65536 + n % 65536) = ofold n := by
  unfold ofold; rw [if_neg (by omega), if_neg (by omega)]; omega
theorem ofold_bd (n : Int) (h : 0 ≤ n) : 0 ≤ ofold n ∧ ofold n ≤ 65535 := by unfold ofold; split <;> omega
def ws : Bool → List UInt8 → Int
  | _, [] => 0
  | false, a :: t => (a.toNat : Int) * 256 + ws true t
  | true, a :: t => (a.toNat : Int) + ws false t
theorem ws_bd (l : List UInt8) : ∀ o, 0 ≤ ws o l ∧ ws o l ≤ 65280 * l.length := by
  induction l with
  | nil => intro o; cases o <;> simp [ws]
  | cons a t ih =>
    have ha := UInt8.toNat_lt a
    intro o
    cases o
    · have := ih true; simp only [ws, List.length_cons]; omega
    · have := ih false; simp only [ws, List.length_cons]; omega
theorem ws_append (l m : List UInt8) : ∀ o, ws o (l ++ m) = ws o l + ws (if l.length % 2 = 1 then !o else o) m := by
  induction l with
  | nil => intro o; cases o <;> simp [ws]
  | cons a t ih =>
    intro o
    have e : ∀ p : Bool, (if (t.length + 1) % 2 = 1 then !p else p) = (if t.length % 2 = 1 then !(!p) else !p) := by
      intro p
      by_cases h : t.length % 2 = 1
      · rw [if_neg (by omega), if_pos h]; simp
      · rw [if_pos (by omega), if_neg h]
    cases o
    · show _ + ws true (t ++ m) = _ + ws true t + _
      rw [ih true, List.length_cons, e false]; simp only [Bool.not_false]; omega
    · show _ + ws false (t ++ m) = _ + ws false t + _
      rw [ih false, List.length_cons, e true]; simp only [Bool.not_true]; omega
theorem take_get (l : List UInt8) (k : Nat) (hk : k < l.length) : l.take (k + 1) = l.take k ++ [l.getD k default] := by
  rw [List.take_succ_eq_append_getElem hk, List.getD_eq_getElem?_getD, List.getElem?_eq_getElem hk]; rfl
theorem ws_take (l : List UInt8) (k : Nat) (hk : k < l.length) : ws false (l.take (k + 1)) = ws false (l.take k) + (if k % 2 = 0 then ((l.getD k default).toNat : Int) * 256 else ((l.getD k default).toNat : Int)) := by
  rw [take_get l k hk, ws_append, List.length_take, Nat.min_eq_left (by omega)]
  by_cases h : k % 2 = 0
  · rw [if_neg (by omega), if_pos h]; simp [ws]
  · rw [if_pos (by omega), if_neg h]; simp [ws]
/-- sums -/
def S (f : Nat → Int) : Nat → Int
  | 0 => 0
  | n + 1 => S f n + f n
theorem S_add (f : Nat → Int) (a : Nat) : ∀ b, S f (a + b) = S f a + S (fun i => f (a + i)) b
  | 0 => by simp [S]
  | b + 1 => by
    show S f (a + b) + f (a + b) = _ + (S _ b + f (a + b))
    rw [S_add f a b]; omega
theorem S_congr {f g : Nat → Int} : ∀ n, (∀ i, i < n → f i = g i) → S f n = S g n
  | 0, _ => rfl
  | n + 1, h => by
    show S f n + f n = S g n + g n
    rw [S_congr n (fun i hi => h i (by omega)), h n (by omega)]
theorem S_turn (f : Nat → Int) (n t : Nat) (h : t < n) : S (fun i => f ((i + t) % n)) n = S f n := by
  have e1 : S (fun i => f ((i + t) % n)) n = S (fun i => f ((i + t) % n)) (n - t) + S (fun i => f ((n - t + i + t) % n)) t := by
    have := S_add (fun i => f ((i + t) % n)) (n - t) t
    rwa [show n - t + t = n by omega] at this
  have e2 : S f n = S f t + S (fun i => f (t + i)) (n - t) := by
    have := S_add f t (n - t)
    rwa [show t + (n - t) = n by omega] at this
  rw [e1, e2]
  have e3 : S (fun i => f ((i + t) % n)) (n - t) = S (fun i => f (t + i)) (n - t) := S_congr _ fun i hi => by
    rw [Nat.mod_eq_of_lt (by omega), Nat.add_comm]
  have e4 : S (fun i => f ((n - t + i + t) % n)) t = S f t := S_congr _ fun i hi => by
    rw [show n - t + i + t = i + n by omega, Nat.add_mod_right, Nat.mod_eq_of_lt (by omega)]
  rw [e3, e4]; omega
/-- the number at a place -/
def pr (l : List UInt8) (i : Nat) : Int := ((l.getD (2 * i) default).toNat : Int) * 256 + ((l.getD (2 * i + 1) default).toNat : Int)
theorem pr_bd (l : List UInt8) (i : Nat) : 0 ≤ pr l i ∧ pr l i ≤ 65535 := by
  unfold pr
  have h1 := UInt8.toNat_lt (l.getD (2 * i) default)
  have h2 := UInt8.toNat_lt (l.getD (2 * i + 1) default)
  omega
theorem ws_pairs (l : List UInt8) : ∀ n, 2 * n ≤ l.length → ws false (l.take (2 * n)) = S (pr l) n
  | 0, _ => by simp [S, ws]
  | n + 1, h => by
    show ws false (l.take (2 * n + 1 + 1)) = S (pr l) n + pr l n
    rw [ws_take l (2 * n + 1) (by omega), ws_take l (2 * n) (by omega), ws_pairs l n (by omega), if_pos (by omega), if_neg (by omega)]
    unfold pr; omega
theorem ws_set (l : List UInt8) (p : Nat) (hp : 2 * p + 1 < l.length) (a b : UInt8) :
    ws false ((l.set (2 * p) a).set (2 * p + 1) b) = ws false l - pr l p + ((a.toNat : Int) * 256 + (b.toNat : Int)) := by
  induction p generalizing l with
  | zero =>
    match l, hp with
    | x :: y :: t, _ => simp [ws, pr]; omega
  | succ p ih =>
    match l, hp with
    | x :: y :: t, hp =>
      have := ih t (by simp at hp; omega)
      have e1 : 2 * (p + 1) = 2 * p + 1 + 1 := by omega
      rw [e1]
      simp only [List.set_cons_succ, ws]
      rw [this]
      have e2 : pr (x :: y :: t) (p + 1) = pr t p := by unfold pr; rw [e1]; simp
      rw [e2]; omega
/-- one number is another one -/
theorem turned (s was v : Int) (h1 : 0 ≤ was ∧ was ≤ 65535) (h2 : 0 ≤ v ∧ v ≤ 65535) (h3 : was ≤ s) :
    (was = v → ofold (s - was + v) = ofold s) ∧ (was ≠ v → was + v = 65535 → (was = 0 ∨ v = 0) → ofold (s - was + v) = ofold s ∨ ofold s = 0 ∨ ofold (s - was + v) = 0) ∧
    (was ≠ v → ¬ (was + v = 65535 ∧ (was = 0 ∨ v = 0)) → ofold (s - was + v) ≠ ofold s) := by
  unfold ofold
  refine ⟨fun h => by rw [h]; simp, fun h h' h'' => ?_, fun h h' => ?_⟩
  · split <;> split <;> omega
  · split <;> split <;> omega
theorem S_ge (f : Nat → Int) (hf : ∀ i, 0 ≤ f i) : ∀ n i, i < n → f i ≤ S f n
  | n + 1, i, h => by
    show f i ≤ S f n + f n
    have h0 : ∀ m, 0 ≤ S f m := fun m => by
      induction m with
      | zero => exact Int.le_refl _
      | succ m ih => have := hf m; show 0 ≤ S f m + f m; omega
    by_cases hi : i < n
    · have := S_ge f hf n i hi; have := hf n; omega
    · obtain rfl : i = n := by omega
      have := h0 i; omega
end inet
end Go.Proofs.Ythplilldkdehnaa
