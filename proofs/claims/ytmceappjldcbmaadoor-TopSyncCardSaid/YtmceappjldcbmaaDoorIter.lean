/-
  slices.Sorted(maps.Keys(m)): CONTRACTS OF THE LIBRARY's SHELF, laid at this program in plain words (wip/layiter.py).
-/
import Derived.Shelf.SlIter.Nil
import Derived.Shelf.SortM.Plain
import Derived.Shelf.SortM.SortNone
import Derived.Test.YtmceappjldcbmaaDoorProg
namespace Go.Proofs
open Go.Shelf
def Tryd.keys49_ren : Go.Shelf.Ren := ⟨fun | 7 => 49 | 10 => 58 | n => n, fun | 23 => 76 | 26 => 9 | 3 => 102 | 28 => 122 | 0 => 0 | 27 => 121 | 33 => 126 | 4 => 4 | n => n, fun | n => n⟩
theorem Tryd.keys49 : Go.Proofs.SlLaysZ.n7 Tryd.prog Tryd.keys49_ren := {
  mixed := by kernel_rfl
  f7 := ⟨Tryd.f49.name, by decide, Tryd.func49.trans (congrArg some (by kernel_rfl))⟩
  f10 := ⟨Tryd.f58.name, by decide, Tryd.func58.trans (congrArg some (by kernel_rfl))⟩
  t0 := Tryd.underlying0
  a0 := Tryd.isAgg0
  z0 := Tryd.sizeOf0
  v0 := Tryd.zeroValue0
  t4 := Tryd.underlying4
  a4 := Tryd.isAgg4
  z4 := Tryd.sizeOf4
  v4 := Tryd.zeroValue4
  t23 := Tryd.underlying76
  a23 := Tryd.isAgg76
  z23 := Tryd.sizeOf76
  v23 := Tryd.zeroValue76
  t26 := Tryd.underlying9
  a26 := Tryd.isAgg9
  z26 := Tryd.sizeOf9
  v26 := Tryd.zeroValue9
  t27 := Tryd.underlying121
  a27 := Tryd.isAgg121
  z27 := Tryd.sizeOf121
  v27 := Tryd.zeroValue121
  t28 := Tryd.underlying122
  a28 := Tryd.isAgg122
  z28 := Tryd.sizeOf122
  v28 := Tryd.zeroValue122
  t33 := Tryd.underlying126
  a33 := Tryd.isAgg126
  z33 := Tryd.sizeOf126
  v33 := Tryd.zeroValue126 }
def Tryd.sorted48_ren : Go.Shelf.Ren := ⟨fun | 6 => 48 | 8 => 56 | 9 => 57 | 11 => 65 | 13 => 67 | 12 => 66 | 23 => 84 | 24 => 85 | 14 => 75 | 15 => 76 | 16 => 77 | 17 => 78 | 18 => 79 | 19 => 80 | 20 => 81 | 21 => 82 | 22 => 83 | 25 => 93 | 26 => 94 | 27 => 95 | 28 => 96 | 29 => 97 | 30 => 98 | 31 => 105 | n => n, fun | 26 => 9 | 28 => 122 | 24 => 33 | 0 => 0 | 3 => 3 | 37 => 56 | 48 => 149 | 50 => 151 | 4 => 4 | 40 => 142 | 39 => 141 | 45 => 146 | 5 => 5 | 9 => 9 | 51 => 159 | 55 => 163 | 57 => 173 | 58 => 174 | 33 => 126 | n => n, fun | n => n⟩
theorem Tryd.sorted48 : Go.Proofs.SlLaysZ.n6 Tryd.prog Tryd.sorted48_ren := {
  mixed := by kernel_rfl
  f6 := ⟨Tryd.f48.name, by decide, Tryd.func48.trans (congrArg some (by kernel_rfl))⟩
  f8 := ⟨Tryd.f56.name, by decide, Tryd.func56.trans (congrArg some (by kernel_rfl))⟩
  f11 := ⟨Tryd.f65.name, by decide, Tryd.func65.trans (congrArg some (by kernel_rfl))⟩
  t0 := Tryd.underlying0
  a0 := Tryd.isAgg0
  z0 := Tryd.sizeOf0
  v0 := Tryd.zeroValue0
  t24 := Tryd.underlying33
  a24 := Tryd.isAgg33
  z24 := Tryd.sizeOf33
  v24 := Tryd.zeroValue33
  t26 := Tryd.underlying9
  a26 := Tryd.isAgg9
  z26 := Tryd.sizeOf9
  v26 := Tryd.zeroValue9
  t28 := Tryd.underlying122
  a28 := Tryd.isAgg122
  z28 := Tryd.sizeOf122
  v28 := Tryd.zeroValue122
  i26 := by kernel_rfl }
def Tryd.sort57_ren : Go.Shelf.Ren := ⟨fun | 6 => 57 | 8 => 67 | 9 => 66 | 19 => 84 | 20 => 85 | 21 => 75 | 22 => 76 | 23 => 77 | 24 => 78 | 25 => 79 | 26 => 80 | 27 => 81 | 28 => 82 | 29 => 83 | 36 => 93 | 31 => 94 | 32 => 95 | 37 => 96 | 38 => 97 | 39 => 98 | 41 => 105 | n => n, fun | 27 => 33 | 29 => 9 | 3 => 3 | 32 => 56 | 26 => 33 | 0 => 0 | 44 => 149 | 46 => 151 | 4 => 4 | 36 => 142 | 35 => 141 | 41 => 146 | 5 => 5 | 9 => 9 | 53 => 159 | 57 => 163 | 63 => 173 | 64 => 174 | n => n, fun | n => n⟩
theorem Tryd.sort57 : Go.Proofs.SlLaysM.n6 Tryd.prog Tryd.sort57_ren := {
  mixed := by kernel_rfl
  f6 := ⟨Tryd.f57.name, by decide, Tryd.func57.trans (congrArg some (by kernel_rfl))⟩
  f8 := Tryd.func67.trans (congrArg some (by kernel_rfl))
  f9 := ⟨Tryd.f66.name, by decide, Tryd.func66.trans (congrArg some (by kernel_rfl))⟩
  f19 := Tryd.func84.trans (congrArg some (by kernel_rfl))
  f20 := Tryd.func85.trans (congrArg some (by kernel_rfl))
  f21 := ⟨Tryd.f75.name, by decide, Tryd.func75.trans (congrArg some (by kernel_rfl))⟩
  f22 := ⟨Tryd.f76.name, by decide, Tryd.func76.trans (congrArg some (by kernel_rfl))⟩
  f23 := ⟨Tryd.f77.name, by decide, Tryd.func77.trans (congrArg some (by kernel_rfl))⟩
  f24 := ⟨Tryd.f78.name, by decide, Tryd.func78.trans (congrArg some (by kernel_rfl))⟩
  f25 := ⟨Tryd.f79.name, by decide, Tryd.func79.trans (congrArg some (by kernel_rfl))⟩
  f26 := ⟨Tryd.f80.name, by decide, Tryd.func80.trans (congrArg some (by kernel_rfl))⟩
  f27 := ⟨Tryd.f81.name, by decide, Tryd.func81.trans (congrArg some (by kernel_rfl))⟩
  f28 := ⟨Tryd.f82.name, by decide, Tryd.func82.trans (congrArg some (by kernel_rfl))⟩
  f29 := ⟨Tryd.f83.name, by decide, Tryd.func83.trans (congrArg some (by kernel_rfl))⟩
  f31 := Tryd.func94.trans (congrArg some (by kernel_rfl))
  f32 := Tryd.func95.trans (congrArg some (by kernel_rfl))
  f36 := ⟨Tryd.f93.name, by decide, Tryd.func93.trans (congrArg some (by kernel_rfl))⟩
  f37 := ⟨Tryd.f96.name, by decide, Tryd.func96.trans (congrArg some (by kernel_rfl))⟩
  f38 := ⟨Tryd.f97.name, by decide, Tryd.func97.trans (congrArg some (by kernel_rfl))⟩
  f39 := ⟨Tryd.f98.name, by decide, Tryd.func98.trans (congrArg some (by kernel_rfl))⟩
  f41 := ⟨Tryd.f105.name, by decide, Tryd.func105.trans (congrArg some (by kernel_rfl))⟩
  t0 := Tryd.underlying0
  a0 := Tryd.isAgg0
  z0 := Tryd.sizeOf0
  v0 := Tryd.zeroValue0
  t3 := Tryd.underlying3
  a3 := Tryd.isAgg3
  z3 := Tryd.sizeOf3
  v3 := Tryd.zeroValue3
  t4 := Tryd.underlying4
  a4 := Tryd.isAgg4
  z4 := Tryd.sizeOf4
  v4 := Tryd.zeroValue4
  t5 := Tryd.underlying5
  a5 := Tryd.isAgg5
  z5 := Tryd.sizeOf5
  v5 := Tryd.zeroValue5
  t9 := Tryd.underlying9
  a9 := Tryd.isAgg9
  z9 := Tryd.sizeOf9
  v9 := Tryd.zeroValue9
  t26 := Tryd.underlying33
  a26 := Tryd.isAgg33
  z26 := Tryd.sizeOf33
  v26 := Tryd.zeroValue33
  t27 := Tryd.underlying33
  a27 := Tryd.isAgg33
  z27 := Tryd.sizeOf33
  v27 := Tryd.zeroValue33
  t29 := Tryd.underlying9
  a29 := Tryd.isAgg9
  z29 := Tryd.sizeOf9
  v29 := Tryd.zeroValue9
  t32 := Tryd.underlying56
  a32 := Tryd.isAgg56
  z32 := Tryd.sizeOf56
  v32 := Tryd.zeroValue56
  t35 := Tryd.underlying141
  a35 := Tryd.isAgg141
  z35 := Tryd.sizeOf141
  v35 := Tryd.zeroValue141
  t36 := Tryd.underlying142
  a36 := Tryd.isAgg142
  z36 := Tryd.sizeOf142
  v36 := Tryd.zeroValue142
  t41 := Tryd.underlying146
  a41 := Tryd.isAgg146
  z41 := Tryd.sizeOf146
  v41 := Tryd.zeroValue146
  t44 := Tryd.underlying149
  a44 := Tryd.isAgg149
  z44 := Tryd.sizeOf149
  v44 := Tryd.zeroValue149
  t46 := Tryd.underlying151
  a46 := Tryd.isAgg151
  z46 := Tryd.sizeOf151
  v46 := Tryd.zeroValue151
  t53 := Tryd.underlying159
  a53 := Tryd.isAgg159
  z53 := Tryd.sizeOf159
  v53 := Tryd.zeroValue159
  t57 := Tryd.underlying163
  a57 := Tryd.isAgg163
  z57 := Tryd.sizeOf163
  v57 := Tryd.zeroValue163
  t63 := Tryd.underlying173
  a63 := Tryd.isAgg173
  z63 := Tryd.sizeOf173
  v63 := Tryd.zeroValue173
  t64 := Tryd.underlying174
  a64 := Tryd.isAgg174
  z64 := Tryd.sizeOf174
  v64 := Tryd.zeroValue174 }
open Go.RowKit Go.Maps Go.Sort in
theorem Tryd.sorts48 (m : Nat) : AnyZ.SortsIn Tryd.prog Tryd.sorted48_ren Fence.wide m :=
  ⟨fun blk off cap ss W hH hblk hsz => callsIn_wide.2 (AnyM.slices_Sort_string Tryd.sort57 blk off cap ss W hH hblk hsz),
   fun p cap W => callsIn_wide.2 (AnyM.slices_Sort_string_none Tryd.sort57 p cap W)⟩
open Go.RowKit Go.Maps Go.Sort in
theorem Tryd.sortedK {H : Type} (kb b nn : Nat) (D0 : DataW H) (R : Value → Option (DataW H × List MemPlace)) (W : World) (hkb : kb < W.heap.size) (hc : W.cell? ⟨kb, 0, none⟩ = some (.map (some b))) (hown : W.ownsMap Tryd.prog 9 R b nn D0) (hmax : Maps.size D0 ≤ maxLen) (hbytes : Maps.size D0 * 16 ≤ 140737488355328) :
    CallsIn Fence.wide 5 Tryd.prog 48 #[.func (.func 58) #[] #[.pointer (some ⟨kb, 0, none⟩)]] W fun e w' => ∃ (v : Value) (ss : List (List UInt8)), e = .returned v ∧ ss.Perm (strKeys D0) ∧
      w'.ownsRow W.heap.size 9 1 v ss.length ((ss.mergeSort (fun x y => decide (x ≤ y))).map encStr) ∧ (v = .slice none 0 0 ↔ ss = []) ∧ Below W.heap.size W w' := by
  have hseq : SeqGives Fence.wide 2 Tryd.prog 58 #[.pointer (some ⟨kb, 0, none⟩)] encStr (fun ss => ss.Perm (strKeys D0)) (Maps.size D0) W :=
    AnyZ.keys_gives (ρ := Tryd.keys49_ren) { Tryd.keys49 with } Fence.wide _ trivial rfl (by omega) kb b nn D0 _ hkb hc hown
  exact AnyZ.sorted_in Tryd.sorted48 Fence.wide 5 trivial trivial trivial trivial rfl (by omega) (Tryd.sorts48 _) (enters_of Tryd.func57 (by kernel_rfl) rfl) 58 #[.pointer (some ⟨kb, 0, none⟩)] trivial (enters_of Tryd.func58 (by kernel_rfl) rfl) _ _ hmax hbytes _ hseq
end Go.Proofs
