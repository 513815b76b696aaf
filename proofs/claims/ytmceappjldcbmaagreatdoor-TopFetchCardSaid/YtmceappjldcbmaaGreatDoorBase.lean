/-
  SHARED BASE OF MY OWN: how a walk keeps its postcondition out of reach; small laws on integers and new blocks. Conditions: none.
-/
import Derived.Test.YtmceappjldcbmaaGreatDoorRows
import Derived.WalkKit
import Derived.ProofKit
import Derived.OpenShut
import Derived.Below
import Derived.WalkSpells
import Derived.WalkLawsBesides
import Derived.Outline
import Derived.Lib.Hide
import Derived.ShutString
import Derived.ChangeOld
import Derived.BigFrame
import Derived.BigQuiet
import Derived.Deep.QuietTactic
import Derived.StillTailTactics
import Derived.Deep.RegionLaw
import Derived.Lib.QuietBelow
import Derived.Laws.BitsLemmas
import Derived.Laws.BitsAllLaws
namespace Go.Proofs.YtmceappjldcbmaaGreatDoor
open Go.RowKit Go.Sort
set_option linter.unusedVariables false





theorem tmod_bd (a n : Int) (hn : 0 < n) (h0 : a < 0) : -n < a.tmod n ∧ a.tmod n ≤ 0 ∧ (a.tmod n < 0 → a % n = a.tmod n + n) ∧ (¬ a.tmod n < 0 → a % n = a.tmod n) := by
  have h1 := Int.lt_tmod_of_pos a hn
  have h2 : a.tmod n ≤ 0 := by
    have := Int.tmod_nonneg (a := -a) n (by omega)
    rw [Int.neg_tmod] at this; omega
  have h3 := @Int.emod_eq_tmod a n
  refine ⟨by omega, h2, ?_, ?_⟩
  · intro h
    have hd : ¬ n ∣ a := by
      intro hd; have := Int.tmod_eq_zero_of_dvd hd; omega
    rw [h3, if_neg (by omega)]; omega
  · intro h
    have hz : a.tmod n = 0 := by omega
    have hd : n ∣ a := Int.dvd_of_tmod_eq_zero hz
    rw [h3, if_pos (by omega)]; omega


/-- a slice of integers that came in: nil; or a row of 'cap' cells, the numbers 'zs' (the first 'len' are its elements) -/
def IsRow (k : IntKind) (w : World) (a : Option Addr) (len cap : Nat) (zs : List Int) : Prop :=
  (a = none ∧ len = 0 ∧ cap = 0 ∧ zs = []) ∨
  ∃ x, a = some x ∧ len ≤ cap ∧ cap ≤ maxLen ∧ zs.length = cap ∧ (∀ i, i < zs.length → w.cell? (x.add i) = some (.int k (zs.getD i 0))) ∧ ∀ n ∈ zs, (Lit.int k n).wf = true

/-- a bound on a wf integer -/
theorem bd_i64 {a : Int} (h : (Lit.int .i64 a).wf = true) : -9223372036854775808 ≤ a ∧ a ≤ 9223372036854775807 := by
  simpa [Lit.wf, IntKind.min, IntKind.max, IntKind.signed, IntKind.bits] using h

theorem i64_mask (n : Int) (k : Nat) (hk : k ≤ 32) : bits .and .i64 n (2 ^ k - 1 : Nat) = n % (2 ^ k : Nat) := by
  have hp : (2 : Nat) ^ k ≤ 2 ^ 32 := Nat.pow_le_pow_right (by decide) hk
  have hp0 : 0 < (2 : Nat) ^ k := Nat.pow_pos (by decide)
  have h127 : (BitVec.ofInt 64 ((2 ^ k - 1 : Nat) : Int)).toNat = 2 ^ k - 1 := by
    rw [BitVec.ofInt_natCast, BitVec.toNat_ofNat]; exact Nat.mod_eq_of_lt (by omega)
  have key : (BitVec.ofInt 64 n &&& BitVec.ofInt 64 ((2 ^ k - 1 : Nat) : Int)).toNat = (n % ((2 ^ 64 : Nat) : Int)).toNat % 2 ^ k := by
    rw [BitVec.toNat_and, BitVec.toNat_ofInt, h127, Nat.and_two_pow_sub_one_eq_mod]
  show IntKind.i64.wrap ((BitVec.ofInt 64 n &&& BitVec.ofInt 64 ((2 ^ k - 1 : Nat) : Int)).toNat : Nat) = _
  rw [key, IntKind.wrap_i64]
  have hd : ((2 ^ k : Nat) : Int) ∣ ((2 ^ 64 : Nat) : Int) := by
    have : (2 : Nat) ^ k ∣ 2 ^ 64 := Nat.pow_dvd_pow 2 (by omega)
    exact_mod_cast this
  have h1 : (((n % ((2 ^ 64 : Nat) : Int)).toNat % 2 ^ k : Nat) : Int) = n % (2 ^ k : Nat) := by
    rw [Int.natCast_emod, Int.toNat_of_nonneg (Int.emod_nonneg _ (by decide)), Int.emod_emod_of_dvd _ hd]
  have h2 : ((n % ((2 ^ 64 : Nat) : Int)).toNat % 2 ^ k) < 2 ^ k := Nat.mod_lt _ hp0
  omega
@[go_sem] theorem i64_mask16 (n : Int) : bits .and .i64 n 65535 = n % 65536 := i64_mask n 16 (by decide)
@[go_sem] theorem i64_mask8 (n : Int) : bits .and .i64 n 255 = n % 256 := i64_mask n 8 (by decide)
end Go.Proofs.YtmceappjldcbmaaGreatDoor
