/-
  WHAT THE PROGRAM's TABLES SAY of each type and each function, as instances. No condition.
-/
import Derived.Test.YtablmmihngfeaaaKit9
namespace Go.Proofs.Ytablmmihngfeaaa
open Go.RowKit

instance : Sca Try.prog 1 := ⟨by kernel_rfl⟩
instance : Inf Try.prog 1 1 8 [.nilFunc] := ⟨by kernel_rfl⟩
instance : Und Try.prog 2 (TypeDesc.int IntKind.i64) := ⟨Try.underlying2⟩
instance : Sca Try.prog 2 := ⟨by kernel_rfl⟩
instance : Inf Try.prog 2 1 8 [.int .i64 0] := ⟨by kernel_rfl⟩
instance : Und Try.prog 3 (TypeDesc.int IntKind.i64) := ⟨Try.underlying3⟩
instance : Sca Try.prog 3 := ⟨by kernel_rfl⟩
instance : Inf Try.prog 3 1 8 [.int .i64 0] := ⟨by kernel_rfl⟩
instance : Und Try.prog 4 (TypeDesc.bool) := ⟨Try.underlying4⟩
instance : Sca Try.prog 4 := ⟨by kernel_rfl⟩
instance : Inf Try.prog 4 1 1 [.bool false] := ⟨by kernel_rfl⟩
instance : Und Try.prog 5 (TypeDesc.int IntKind.u8) := ⟨Try.underlying5⟩
instance : Sca Try.prog 5 := ⟨by kernel_rfl⟩
instance : Inf Try.prog 5 1 1 [.int .u8 0] := ⟨by kernel_rfl⟩
instance : Und Try.prog 6 (TypeDesc.int IntKind.u8) := ⟨Try.underlying6⟩
instance : Sca Try.prog 6 := ⟨by kernel_rfl⟩
instance : Inf Try.prog 6 1 1 [.int .u8 0] := ⟨by kernel_rfl⟩
instance : Agg Try.prog 7 := ⟨by kernel_rfl⟩
instance : Inf Try.prog 7 4 24 [.int .i64 0, .int .i64 0, .bool false, .int .u8 0] := ⟨by kernel_rfl⟩
instance : Lay Try.prog 7 [(0, 1), (1, 1), (2, 1), (3, 1)] := ⟨⟨_, Try.underlying7, fun w => by kernel_rfl⟩⟩
instance : SEq Try.prog 7 [(0, 0), (1, 0), (2, 1), (3, 0)] := ⟨by kernel_rfl, by kernel_rfl, by kernel_rfl, by kernel_rfl, by kernel_rfl⟩
instance : Fld Try.prog 7 0 0 2 := ⟨⟨_, _, Try.underlying7, rfl, rfl, rfl⟩⟩
instance : Fld Try.prog 7 1 1 3 := ⟨⟨_, _, Try.underlying7, rfl, rfl, rfl⟩⟩
instance : Fld Try.prog 7 2 2 4 := ⟨⟨_, _, Try.underlying7, rfl, rfl, rfl⟩⟩
instance : Fld Try.prog 7 3 3 6 := ⟨⟨_, _, Try.underlying7, rfl, rfl, rfl⟩⟩
instance : Agg Try.prog 8 := ⟨by kernel_rfl⟩
instance : Inf Try.prog 8 4 24 [.int .i64 0, .int .i64 0, .bool false, .int .u8 0] := ⟨by kernel_rfl⟩
instance : Lay Try.prog 8 [(0, 1), (1, 1), (2, 1), (3, 1)] := ⟨⟨_, Try.underlying8, fun w => by kernel_rfl⟩⟩
instance : SEq Try.prog 8 [(0, 0), (1, 0), (2, 1), (3, 0)] := ⟨by kernel_rfl, by kernel_rfl, by kernel_rfl, by kernel_rfl, by kernel_rfl⟩
instance : Fld Try.prog 8 0 0 2 := ⟨⟨_, _, Try.underlying8, rfl, rfl, rfl⟩⟩
instance : Fld Try.prog 8 1 1 3 := ⟨⟨_, _, Try.underlying8, rfl, rfl, rfl⟩⟩
instance : Fld Try.prog 8 2 2 4 := ⟨⟨_, _, Try.underlying8, rfl, rfl, rfl⟩⟩
instance : Fld Try.prog 8 3 3 6 := ⟨⟨_, _, Try.underlying8, rfl, rfl, rfl⟩⟩
instance : Und Try.prog 9 (TypeDesc.string) := ⟨Try.underlying9⟩
instance : Sca Try.prog 9 := ⟨by kernel_rfl⟩
instance : Inf Try.prog 9 1 16 [.string ByteArray.empty] := ⟨by kernel_rfl⟩
instance : Und Try.prog 10 (TypeDesc.string) := ⟨Try.underlying10⟩
instance : Sca Try.prog 10 := ⟨by kernel_rfl⟩
instance : Inf Try.prog 10 1 16 [.string ByteArray.empty] := ⟨by kernel_rfl⟩
instance : Und Try.prog 11 (TypeDesc.string) := ⟨Try.underlying11⟩
instance : Sca Try.prog 11 := ⟨by kernel_rfl⟩
instance : Inf Try.prog 11 1 16 [.string ByteArray.empty] := ⟨by kernel_rfl⟩
instance : Und Try.prog 12 (TypeDesc.int IntKind.u64) := ⟨Try.underlying12⟩
instance : Sca Try.prog 12 := ⟨by kernel_rfl⟩
instance : Inf Try.prog 12 1 8 [.int .u64 0] := ⟨by kernel_rfl⟩
instance : Agg Try.prog 13 := ⟨by kernel_rfl⟩
instance : Inf Try.prog 13 2 24 [.string ByteArray.empty, .int .u64 0] := ⟨by kernel_rfl⟩
instance : Lay Try.prog 13 [(0, 1), (1, 1)] := ⟨⟨_, Try.underlying13, fun w => by kernel_rfl⟩⟩
instance : Fld Try.prog 13 0 0 9 := ⟨⟨_, _, Try.underlying13, rfl, rfl, rfl⟩⟩
instance : Fld Try.prog 13 1 1 12 := ⟨⟨_, _, Try.underlying13, rfl, rfl, rfl⟩⟩
instance : Agg Try.prog 14 := ⟨by kernel_rfl⟩
instance : Inf Try.prog 14 2 24 [.string ByteArray.empty, .int .u64 0] := ⟨by kernel_rfl⟩
instance : Lay Try.prog 14 [(0, 1), (1, 1)] := ⟨⟨_, Try.underlying14, fun w => by kernel_rfl⟩⟩
instance : Fld Try.prog 14 0 0 9 := ⟨⟨_, _, Try.underlying14, rfl, rfl, rfl⟩⟩
instance : Fld Try.prog 14 1 1 12 := ⟨⟨_, _, Try.underlying14, rfl, rfl, rfl⟩⟩
instance : Und Try.prog 15 (TypeDesc.pointer 40) := ⟨Try.underlying15⟩
instance : Sca Try.prog 15 := ⟨by kernel_rfl⟩
instance : Inf Try.prog 15 1 8 [.pointer none] := ⟨by kernel_rfl⟩
instance : Und Try.prog 16 (TypeDesc.pointer 43) := ⟨Try.underlying16⟩
instance : Sca Try.prog 16 := ⟨by kernel_rfl⟩
instance : Inf Try.prog 16 1 8 [.pointer none] := ⟨by kernel_rfl⟩
instance : Und Try.prog 17 (TypeDesc.pointer 53) := ⟨Try.underlying17⟩
instance : Sca Try.prog 17 := ⟨by kernel_rfl⟩
instance : Inf Try.prog 17 1 8 [.pointer none] := ⟨by kernel_rfl⟩
instance : Agg Try.prog 18 := ⟨by kernel_rfl⟩
instance : Inf Try.prog 18 1 8 [.pointer none] := ⟨by kernel_rfl⟩
instance : Lay Try.prog 18 [(0, 1)] := ⟨⟨_, Try.underlying18, fun w => by kernel_rfl⟩⟩
instance : Fld Try.prog 18 0 0 17 := ⟨⟨_, _, Try.underlying18, rfl, rfl, rfl⟩⟩
instance : Agg Try.prog 19 := ⟨by kernel_rfl⟩
instance : Inf Try.prog 19 1 8 [.pointer none] := ⟨by kernel_rfl⟩
instance : Lay Try.prog 19 [(0, 1)] := ⟨⟨_, Try.underlying19, fun w => by kernel_rfl⟩⟩
instance : Fld Try.prog 19 0 0 17 := ⟨⟨_, _, Try.underlying19, rfl, rfl, rfl⟩⟩
instance : Sca Try.prog 20 := ⟨by kernel_rfl⟩
instance : Inf Try.prog 20 1 16 [.nilIface] := ⟨by kernel_rfl⟩
instance : Und Try.prog 21 (TypeDesc.int IntKind.i32) := ⟨Try.underlying21⟩
instance : Sca Try.prog 21 := ⟨by kernel_rfl⟩
instance : Inf Try.prog 21 1 4 [.int .i32 0] := ⟨by kernel_rfl⟩
instance : Und Try.prog 22 (TypeDesc.slice 5) := ⟨Try.underlying22⟩
instance : Sca Try.prog 22 := ⟨by kernel_rfl⟩
instance : Inf Try.prog 22 1 24 [.slice none 0 0] := ⟨by kernel_rfl⟩
instance : Sca Try.prog 23 := ⟨by kernel_rfl⟩
instance : Inf Try.prog 23 1 8 [.nilFunc] := ⟨by kernel_rfl⟩
instance : Sca Try.prog 24 := ⟨by kernel_rfl⟩
instance : Inf Try.prog 24 1 8 [.nilFunc] := ⟨by kernel_rfl⟩
instance : Sca Try.prog 25 := ⟨by kernel_rfl⟩
instance : Inf Try.prog 25 1 8 [.nilFunc] := ⟨by kernel_rfl⟩
instance : Und Try.prog 26 (TypeDesc.slice 31) := ⟨Try.underlying26⟩
instance : Sca Try.prog 26 := ⟨by kernel_rfl⟩
instance : Inf Try.prog 26 1 24 [.slice none 0 0] := ⟨by kernel_rfl⟩
instance : Und Try.prog 27 (TypeDesc.int IntKind.i64) := ⟨Try.underlying27⟩
instance : Sca Try.prog 27 := ⟨by kernel_rfl⟩
instance : Inf Try.prog 27 1 8 [.int .i64 0] := ⟨by kernel_rfl⟩
instance : Sca Try.prog 29 := ⟨by kernel_rfl⟩
instance : Inf Try.prog 29 1 8 [.nilFunc] := ⟨by kernel_rfl⟩
instance : Agg Try.prog 30 := ⟨by kernel_rfl⟩
instance : Inf Try.prog 30 4 48 [.bool false, .int .i64 0, .int .i64 0, .slice none 0 0] := ⟨by kernel_rfl⟩
instance : Lay Try.prog 30 [(0, 1), (1, 1), (2, 1), (3, 1)] := ⟨⟨_, Try.underlying30, fun w => by kernel_rfl⟩⟩
instance : Fld Try.prog 30 0 0 4 := ⟨⟨_, _, Try.underlying30, rfl, rfl, rfl⟩⟩
instance : Fld Try.prog 30 1 1 3 := ⟨⟨_, _, Try.underlying30, rfl, rfl, rfl⟩⟩
instance : Fld Try.prog 30 2 2 3 := ⟨⟨_, _, Try.underlying30, rfl, rfl, rfl⟩⟩
instance : Fld Try.prog 30 3 3 22 := ⟨⟨_, _, Try.underlying30, rfl, rfl, rfl⟩⟩
instance : Agg Try.prog 31 := ⟨by kernel_rfl⟩
instance : Inf Try.prog 31 4 48 [.bool false, .int .i64 0, .int .i64 0, .slice none 0 0] := ⟨by kernel_rfl⟩
instance : Lay Try.prog 31 [(0, 1), (1, 1), (2, 1), (3, 1)] := ⟨⟨_, Try.underlying31, fun w => by kernel_rfl⟩⟩
instance : Fld Try.prog 31 0 0 4 := ⟨⟨_, _, Try.underlying31, rfl, rfl, rfl⟩⟩
instance : Fld Try.prog 31 1 1 3 := ⟨⟨_, _, Try.underlying31, rfl, rfl, rfl⟩⟩
instance : Fld Try.prog 31 2 2 3 := ⟨⟨_, _, Try.underlying31, rfl, rfl, rfl⟩⟩
instance : Fld Try.prog 31 3 3 22 := ⟨⟨_, _, Try.underlying31, rfl, rfl, rfl⟩⟩
instance : Sca Try.prog 32 := ⟨by kernel_rfl⟩
instance : Inf Try.prog 32 1 8 [.nilFunc] := ⟨by kernel_rfl⟩
instance : Und Try.prog 33 (TypeDesc.map 9 35) := ⟨Try.underlying33⟩
instance : Sca Try.prog 33 := ⟨by kernel_rfl⟩
instance : Inf Try.prog 33 1 8 [.map none] := ⟨by kernel_rfl⟩
instance : Sca Try.prog 34 := ⟨by kernel_rfl⟩
instance : Inf Try.prog 34 1 8 [.nilFunc] := ⟨by kernel_rfl⟩
instance : Und Try.prog 35 (TypeDesc.slice 3) := ⟨Try.underlying35⟩
instance : Sca Try.prog 35 := ⟨by kernel_rfl⟩
instance : Inf Try.prog 35 1 24 [.slice none 0 0] := ⟨by kernel_rfl⟩
instance : Sca Try.prog 36 := ⟨by kernel_rfl⟩
instance : Inf Try.prog 36 1 8 [.nilFunc] := ⟨by kernel_rfl⟩
instance : Und Try.prog 37 (TypeDesc.pointer 31) := ⟨Try.underlying37⟩
instance : Sca Try.prog 37 := ⟨by kernel_rfl⟩
instance : Inf Try.prog 37 1 8 [.pointer none] := ⟨by kernel_rfl⟩
instance : Sca Try.prog 38 := ⟨by kernel_rfl⟩
instance : Inf Try.prog 38 1 8 [.nilFunc] := ⟨by kernel_rfl⟩
instance : Agg Try.prog 39 := ⟨by kernel_rfl⟩
instance : Inf Try.prog 39 4 40 [.pointer none, .pointer none, .pointer none, .string ByteArray.empty] := ⟨by kernel_rfl⟩
instance : Lay Try.prog 39 [(0, 1), (1, 1), (2, 1), (3, 1)] := ⟨⟨_, Try.underlying39, fun w => by kernel_rfl⟩⟩
instance : Fld Try.prog 39 0 0 17 := ⟨⟨_, _, Try.underlying39, rfl, rfl, rfl⟩⟩
instance : Fld Try.prog 39 1 1 17 := ⟨⟨_, _, Try.underlying39, rfl, rfl, rfl⟩⟩
instance : Fld Try.prog 39 2 2 17 := ⟨⟨_, _, Try.underlying39, rfl, rfl, rfl⟩⟩
instance : Fld Try.prog 39 3 3 9 := ⟨⟨_, _, Try.underlying39, rfl, rfl, rfl⟩⟩
instance : Agg Try.prog 40 := ⟨by kernel_rfl⟩
instance : Inf Try.prog 40 4 40 [.pointer none, .pointer none, .pointer none, .string ByteArray.empty] := ⟨by kernel_rfl⟩
instance : Lay Try.prog 40 [(0, 1), (1, 1), (2, 1), (3, 1)] := ⟨⟨_, Try.underlying40, fun w => by kernel_rfl⟩⟩
instance : Fld Try.prog 40 0 0 17 := ⟨⟨_, _, Try.underlying40, rfl, rfl, rfl⟩⟩
instance : Fld Try.prog 40 1 1 17 := ⟨⟨_, _, Try.underlying40, rfl, rfl, rfl⟩⟩
instance : Fld Try.prog 40 2 2 17 := ⟨⟨_, _, Try.underlying40, rfl, rfl, rfl⟩⟩
instance : Fld Try.prog 40 3 3 9 := ⟨⟨_, _, Try.underlying40, rfl, rfl, rfl⟩⟩
instance : Und Try.prog 41 (TypeDesc.array 0 16) := ⟨Try.underlying41⟩
instance : Agg Try.prog 41 := ⟨by kernel_rfl⟩
instance : Inf Try.prog 41 0 0 [] := ⟨by kernel_rfl⟩
instance : Agg Try.prog 42 := ⟨by kernel_rfl⟩
instance : Inf Try.prog 42 0 0 [] := ⟨by kernel_rfl⟩
instance : Lay Try.prog 42 [(0, 0)] := ⟨⟨_, Try.underlying42, fun w => by kernel_rfl⟩⟩
instance : Fld Try.prog 42 0 0 41 := ⟨⟨_, _, Try.underlying42, rfl, rfl, rfl⟩⟩
instance : Agg Try.prog 43 := ⟨by kernel_rfl⟩
instance : Inf Try.prog 43 0 0 [] := ⟨by kernel_rfl⟩
instance : Lay Try.prog 43 [(0, 0)] := ⟨⟨_, Try.underlying43, fun w => by kernel_rfl⟩⟩
instance : Fld Try.prog 43 0 0 41 := ⟨⟨_, _, Try.underlying43, rfl, rfl, rfl⟩⟩
instance : Sca Try.prog 44 := ⟨by kernel_rfl⟩
instance : Inf Try.prog 44 1 8 [.nilFunc] := ⟨by kernel_rfl⟩
instance : Und Try.prog 45 (TypeDesc.int IntKind.u32) := ⟨Try.underlying45⟩
instance : Sca Try.prog 45 := ⟨by kernel_rfl⟩
instance : Inf Try.prog 45 1 4 [.int .u32 0] := ⟨by kernel_rfl⟩
instance : Und Try.prog 46 (TypeDesc.int IntKind.u8) := ⟨Try.underlying46⟩
instance : Sca Try.prog 46 := ⟨by kernel_rfl⟩
instance : Inf Try.prog 46 1 1 [.int .u8 0] := ⟨by kernel_rfl⟩
instance : Und Try.prog 47 (TypeDesc.int IntKind.u8) := ⟨Try.underlying47⟩
instance : Sca Try.prog 47 := ⟨by kernel_rfl⟩
instance : Inf Try.prog 47 1 1 [.int .u8 0] := ⟨by kernel_rfl⟩
instance : Sca Try.prog 48 := ⟨by kernel_rfl⟩
instance : Inf Try.prog 48 1 8 [.nilFunc] := ⟨by kernel_rfl⟩
instance : Und Try.prog 49 (TypeDesc.pointer 5) := ⟨Try.underlying49⟩
instance : Sca Try.prog 49 := ⟨by kernel_rfl⟩
instance : Inf Try.prog 49 1 8 [.pointer none] := ⟨by kernel_rfl⟩
instance : Und Try.prog 50 (TypeDesc.int IntKind.i32) := ⟨Try.underlying50⟩
instance : Sca Try.prog 50 := ⟨by kernel_rfl⟩
instance : Inf Try.prog 50 1 4 [.int .i32 0] := ⟨by kernel_rfl⟩
instance : Und Try.prog 51 (TypeDesc.int IntKind.i32) := ⟨Try.underlying51⟩
instance : Sca Try.prog 51 := ⟨by kernel_rfl⟩
instance : Inf Try.prog 51 1 4 [.int .i32 0] := ⟨by kernel_rfl⟩
instance : Agg Try.prog 52 := ⟨by kernel_rfl⟩
instance : Inf Try.prog 52 11 48 [.int .u64 0, .int .u64 0, .int .u32 0, .int .u8 0, .int .u8 0, .int .u8 0, .int .u8 0, .nilFunc, .pointer none, .int .i32 0, .int .i32 0] := ⟨by kernel_rfl⟩
instance : Lay Try.prog 52 [(0, 1), (1, 1), (2, 1), (3, 1), (4, 1), (5, 1), (6, 1), (7, 1), (8, 1), (9, 1), (10, 1)] := ⟨⟨_, Try.underlying52, fun w => by kernel_rfl⟩⟩
instance : Fld Try.prog 52 0 0 12 := ⟨⟨_, _, Try.underlying52, rfl, rfl, rfl⟩⟩
instance : Fld Try.prog 52 1 1 12 := ⟨⟨_, _, Try.underlying52, rfl, rfl, rfl⟩⟩
instance : Fld Try.prog 52 2 2 45 := ⟨⟨_, _, Try.underlying52, rfl, rfl, rfl⟩⟩
instance : Fld Try.prog 52 3 3 46 := ⟨⟨_, _, Try.underlying52, rfl, rfl, rfl⟩⟩
instance : Fld Try.prog 52 4 4 5 := ⟨⟨_, _, Try.underlying52, rfl, rfl, rfl⟩⟩
instance : Fld Try.prog 52 5 5 5 := ⟨⟨_, _, Try.underlying52, rfl, rfl, rfl⟩⟩
instance : Fld Try.prog 52 6 6 47 := ⟨⟨_, _, Try.underlying52, rfl, rfl, rfl⟩⟩
instance : Fld Try.prog 52 7 7 48 := ⟨⟨_, _, Try.underlying52, rfl, rfl, rfl⟩⟩
instance : Fld Try.prog 52 8 8 49 := ⟨⟨_, _, Try.underlying52, rfl, rfl, rfl⟩⟩
instance : Fld Try.prog 52 9 9 50 := ⟨⟨_, _, Try.underlying52, rfl, rfl, rfl⟩⟩
instance : Fld Try.prog 52 10 10 51 := ⟨⟨_, _, Try.underlying52, rfl, rfl, rfl⟩⟩
instance : Agg Try.prog 53 := ⟨by kernel_rfl⟩
instance : Inf Try.prog 53 11 48 [.int .u64 0, .int .u64 0, .int .u32 0, .int .u8 0, .int .u8 0, .int .u8 0, .int .u8 0, .nilFunc, .pointer none, .int .i32 0, .int .i32 0] := ⟨by kernel_rfl⟩
instance : Lay Try.prog 53 [(0, 1), (1, 1), (2, 1), (3, 1), (4, 1), (5, 1), (6, 1), (7, 1), (8, 1), (9, 1), (10, 1)] := ⟨⟨_, Try.underlying53, fun w => by kernel_rfl⟩⟩
instance : Fld Try.prog 53 0 0 12 := ⟨⟨_, _, Try.underlying53, rfl, rfl, rfl⟩⟩
instance : Fld Try.prog 53 1 1 12 := ⟨⟨_, _, Try.underlying53, rfl, rfl, rfl⟩⟩
instance : Fld Try.prog 53 2 2 45 := ⟨⟨_, _, Try.underlying53, rfl, rfl, rfl⟩⟩
instance : Fld Try.prog 53 3 3 46 := ⟨⟨_, _, Try.underlying53, rfl, rfl, rfl⟩⟩
instance : Fld Try.prog 53 4 4 5 := ⟨⟨_, _, Try.underlying53, rfl, rfl, rfl⟩⟩
instance : Fld Try.prog 53 5 5 5 := ⟨⟨_, _, Try.underlying53, rfl, rfl, rfl⟩⟩
instance : Fld Try.prog 53 6 6 47 := ⟨⟨_, _, Try.underlying53, rfl, rfl, rfl⟩⟩
instance : Fld Try.prog 53 7 7 48 := ⟨⟨_, _, Try.underlying53, rfl, rfl, rfl⟩⟩
instance : Fld Try.prog 53 8 8 49 := ⟨⟨_, _, Try.underlying53, rfl, rfl, rfl⟩⟩
instance : Fld Try.prog 53 9 9 50 := ⟨⟨_, _, Try.underlying53, rfl, rfl, rfl⟩⟩
instance : Fld Try.prog 53 10 10 51 := ⟨⟨_, _, Try.underlying53, rfl, rfl, rfl⟩⟩
instance : Fun Try.prog 2 := ⟨⟨_, Try.func2, by kernel_rfl, by kernel_rfl⟩⟩
instance : Fun Try.prog 3 := ⟨⟨_, Try.func3, by kernel_rfl, by kernel_rfl⟩⟩
instance : Fun Try.prog 4 := ⟨⟨_, Try.func4, by kernel_rfl, by kernel_rfl⟩⟩
instance : Fun Try.prog 5 := ⟨⟨_, Try.func5, by kernel_rfl, by kernel_rfl⟩⟩
instance : Fun Try.prog 6 := ⟨⟨_, Try.func6, by kernel_rfl, by kernel_rfl⟩⟩
instance : Fun Try.prog 7 := ⟨⟨_, Try.func7, by kernel_rfl, by kernel_rfl⟩⟩
instance : Fun Try.prog 8 := ⟨⟨_, Try.func8, by kernel_rfl, by kernel_rfl⟩⟩
instance : Fun Try.prog 9 := ⟨⟨_, Try.func9, by kernel_rfl, by kernel_rfl⟩⟩
end Go.Proofs.Ytablmmihngfeaaa
