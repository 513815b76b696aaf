/-
  PLAIN LAW: a file that is uploaded, and another one over it, is read chunk by chunk.
-/
import Derived.Test.YtmceappjldcbmaaGreatDoorServeU
import Derived.Test.YtmceappjldcbmaaGreatDoorServeV
namespace Go.Proofs.YtmceappjldcbmaaGreatDoor
set_option linter.unusedVariables false
set_option linter.unusedSimpArgs false
namespace serve
open tree path msg
/-- requests that read a file chunk by chunk -/
def rdR (L j : Nat) : Rq := readR 0 ((100 * j : Nat) : Int) ((min 100 (L - 100 * j) : Nat) : Int)
def rds (L m : Nat) : List Rq := (List.range m).map (rdR L)
def upl (d : List UInt8) : List Rq := openR fxP 23 :: chunks d (nch d.length)
theorem upl_file (d : List UInt8) (hd : d.length ≤ 2048) : UpS (sends svNew (upl d)) d := by
  have h := up_chunks up_new.2 hd (nch d.length) (by unfold nch; omega)
  rw [over_all, List.drop_nil, List.append_nil] at h
  exact h
end serve
end Go.Proofs.YtmceappjldcbmaaGreatDoor
