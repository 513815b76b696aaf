/-
  WHAT THE PROGRAM's TABLES SAY of each type and each function, as instances. No condition.
-/
import Derived.Test.YtpeidlaejjfmeaaKit9
namespace Go.Proofs.Ytpeidlaejjfmeaa
open Go.RowKit

instance : Sca Try.prog 1 := ⟨by kernel_rfl⟩
instance : Inf Try.prog 1 1 8 [.nilFunc] := ⟨by kernel_rfl⟩
instance : Und Try.prog 2 (TypeDesc.int IntKind.i64) := ⟨Try.underlying2⟩
instance : Sca Try.prog 2 := ⟨by kernel_rfl⟩
instance : Inf Try.prog 2 1 8 [.int .i64 0] := ⟨by kernel_rfl⟩
instance : Und Try.prog 3 (TypeDesc.int IntKind.i64) := ⟨Try.underlying3⟩
instance : Sca Try.prog 3 := ⟨by kernel_rfl⟩
instance : Inf Try.prog 3 1 8 [.int .i64 0] := ⟨by kernel_rfl⟩
instance : Und Try.prog 4 (TypeDesc.bool) := ⟨Try.underlying4⟩
instance : Sca Try.prog 4 := ⟨by kernel_rfl⟩
instance : Inf Try.prog 4 1 1 [.bool false] := ⟨by kernel_rfl⟩
instance : Und Try.prog 5 (TypeDesc.int IntKind.u8) := ⟨Try.underlying5⟩
instance : Sca Try.prog 5 := ⟨by kernel_rfl⟩
instance : Inf Try.prog 5 1 1 [.int .u8 0] := ⟨by kernel_rfl⟩
instance : Und Try.prog 6 (TypeDesc.int IntKind.u8) := ⟨Try.underlying6⟩
instance : Sca Try.prog 6 := ⟨by kernel_rfl⟩
instance : Inf Try.prog 6 1 1 [.int .u8 0] := ⟨by kernel_rfl⟩
instance : Agg Try.prog 7 := ⟨by kernel_rfl⟩
instance : Inf Try.prog 7 4 24 [.int .i64 0, .int .i64 0, .bool false, .int .u8 0] := ⟨by kernel_rfl⟩
instance : Lay Try.prog 7 [(0, 1), (1, 1), (2, 1), (3, 1)] := ⟨⟨_, Try.underlying7, fun w => by kernel_rfl⟩⟩
instance : SEq Try.prog 7 [(0, 0), (1, 0), (2, 1), (3, 0)] := ⟨by kernel_rfl, by kernel_rfl, by kernel_rfl, by kernel_rfl, by kernel_rfl⟩
instance : Fld Try.prog 7 0 0 2 := ⟨⟨_, _, Try.underlying7, rfl, rfl, rfl⟩⟩
instance : Fld Try.prog 7 1 1 3 := ⟨⟨_, _, Try.underlying7, rfl, rfl, rfl⟩⟩
instance : Fld Try.prog 7 2 2 4 := ⟨⟨_, _, Try.underlying7, rfl, rfl, rfl⟩⟩
instance : Fld Try.prog 7 3 3 6 := ⟨⟨_, _, Try.underlying7, rfl, rfl, rfl⟩⟩
instance : Agg Try.prog 8 := ⟨by kernel_rfl⟩
instance : Inf Try.prog 8 4 24 [.int .i64 0, .int .i64 0, .bool false, .int .u8 0] := ⟨by kernel_rfl⟩
instance : Lay Try.prog 8 [(0, 1), (1, 1), (2, 1), (3, 1)] := ⟨⟨_, Try.underlying8, fun w => by kernel_rfl⟩⟩
instance : SEq Try.prog 8 [(0, 0), (1, 0), (2, 1), (3, 0)] := ⟨by kernel_rfl, by kernel_rfl, by kernel_rfl, by kernel_rfl, by kernel_rfl⟩
instance : Fld Try.prog 8 0 0 2 := ⟨⟨_, _, Try.underlying8, rfl, rfl, rfl⟩⟩
instance : Fld Try.prog 8 1 1 3 := ⟨⟨_, _, Try.underlying8, rfl, rfl, rfl⟩⟩
instance : Fld Try.prog 8 2 2 4 := ⟨⟨_, _, Try.underlying8, rfl, rfl, rfl⟩⟩
instance : Fld Try.prog 8 3 3 6 := ⟨⟨_, _, Try.underlying8, rfl, rfl, rfl⟩⟩
instance : Und Try.prog 9 (TypeDesc.string) := ⟨Try.underlying9⟩
instance : Sca Try.prog 9 := ⟨by kernel_rfl⟩
instance : Inf Try.prog 9 1 16 [.string ByteArray.empty] := ⟨by kernel_rfl⟩
instance : Und Try.prog 10 (TypeDesc.string) := ⟨Try.underlying10⟩
instance : Sca Try.prog 10 := ⟨by kernel_rfl⟩
instance : Inf Try.prog 10 1 16 [.string ByteArray.empty] := ⟨by kernel_rfl⟩
instance : Und Try.prog 11 (TypeDesc.string) := ⟨Try.underlying11⟩
instance : Sca Try.prog 11 := ⟨by kernel_rfl⟩
instance : Inf Try.prog 11 1 16 [.string ByteArray.empty] := ⟨by kernel_rfl⟩
instance : Und Try.prog 12 (TypeDesc.int IntKind.u64) := ⟨Try.underlying12⟩
instance : Sca Try.prog 12 := ⟨by kernel_rfl⟩
instance : Inf Try.prog 12 1 8 [.int .u64 0] := ⟨by kernel_rfl⟩
instance : Agg Try.prog 13 := ⟨by kernel_rfl⟩
instance : Inf Try.prog 13 2 24 [.string ByteArray.empty, .int .u64 0] := ⟨by kernel_rfl⟩
instance : Lay Try.prog 13 [(0, 1), (1, 1)] := ⟨⟨_, Try.underlying13, fun w => by kernel_rfl⟩⟩
instance : Fld Try.prog 13 0 0 9 := ⟨⟨_, _, Try.underlying13, rfl, rfl, rfl⟩⟩
instance : Fld Try.prog 13 1 1 12 := ⟨⟨_, _, Try.underlying13, rfl, rfl, rfl⟩⟩
instance : Agg Try.prog 14 := ⟨by kernel_rfl⟩
instance : Inf Try.prog 14 2 24 [.string ByteArray.empty, .int .u64 0] := ⟨by kernel_rfl⟩
instance : Lay Try.prog 14 [(0, 1), (1, 1)] := ⟨⟨_, Try.underlying14, fun w => by kernel_rfl⟩⟩
instance : Fld Try.prog 14 0 0 9 := ⟨⟨_, _, Try.underlying14, rfl, rfl, rfl⟩⟩
instance : Fld Try.prog 14 1 1 12 := ⟨⟨_, _, Try.underlying14, rfl, rfl, rfl⟩⟩
instance : Und Try.prog 15 (TypeDesc.pointer 58) := ⟨Try.underlying15⟩
instance : Sca Try.prog 15 := ⟨by kernel_rfl⟩
instance : Inf Try.prog 15 1 8 [.pointer none] := ⟨by kernel_rfl⟩
instance : Und Try.prog 16 (TypeDesc.pointer 61) := ⟨Try.underlying16⟩
instance : Sca Try.prog 16 := ⟨by kernel_rfl⟩
instance : Inf Try.prog 16 1 8 [.pointer none] := ⟨by kernel_rfl⟩
instance : Und Try.prog 17 (TypeDesc.pointer 71) := ⟨Try.underlying17⟩
instance : Sca Try.prog 17 := ⟨by kernel_rfl⟩
instance : Inf Try.prog 17 1 8 [.pointer none] := ⟨by kernel_rfl⟩
instance : Agg Try.prog 18 := ⟨by kernel_rfl⟩
instance : Inf Try.prog 18 1 8 [.pointer none] := ⟨by kernel_rfl⟩
instance : Lay Try.prog 18 [(0, 1)] := ⟨⟨_, Try.underlying18, fun w => by kernel_rfl⟩⟩
instance : Fld Try.prog 18 0 0 17 := ⟨⟨_, _, Try.underlying18, rfl, rfl, rfl⟩⟩
instance : Agg Try.prog 19 := ⟨by kernel_rfl⟩
instance : Inf Try.prog 19 1 8 [.pointer none] := ⟨by kernel_rfl⟩
instance : Lay Try.prog 19 [(0, 1)] := ⟨⟨_, Try.underlying19, fun w => by kernel_rfl⟩⟩
instance : Fld Try.prog 19 0 0 17 := ⟨⟨_, _, Try.underlying19, rfl, rfl, rfl⟩⟩
instance : Sca Try.prog 20 := ⟨by kernel_rfl⟩
instance : Inf Try.prog 20 1 16 [.nilIface] := ⟨by kernel_rfl⟩
instance : Und Try.prog 21 (TypeDesc.int IntKind.i32) := ⟨Try.underlying21⟩
instance : Sca Try.prog 21 := ⟨by kernel_rfl⟩
instance : Inf Try.prog 21 1 4 [.int .i32 0] := ⟨by kernel_rfl⟩
instance : Und Try.prog 22 (TypeDesc.slice 3) := ⟨Try.underlying22⟩
instance : Sca Try.prog 22 := ⟨by kernel_rfl⟩
instance : Inf Try.prog 22 1 24 [.slice none 0 0] := ⟨by kernel_rfl⟩
instance : Und Try.prog 23 (TypeDesc.slice 5) := ⟨Try.underlying23⟩
instance : Sca Try.prog 23 := ⟨by kernel_rfl⟩
instance : Inf Try.prog 23 1 24 [.slice none 0 0] := ⟨by kernel_rfl⟩
instance : Sca Try.prog 24 := ⟨by kernel_rfl⟩
instance : Inf Try.prog 24 1 8 [.nilFunc] := ⟨by kernel_rfl⟩
instance : Sca Try.prog 25 := ⟨by kernel_rfl⟩
instance : Inf Try.prog 25 1 8 [.nilFunc] := ⟨by kernel_rfl⟩
instance : Sca Try.prog 27 := ⟨by kernel_rfl⟩
instance : Inf Try.prog 27 1 8 [.nilFunc] := ⟨by kernel_rfl⟩
instance : Sca Try.prog 28 := ⟨by kernel_rfl⟩
instance : Inf Try.prog 28 1 8 [.nilFunc] := ⟨by kernel_rfl⟩
instance : Sca Try.prog 29 := ⟨by kernel_rfl⟩
instance : Inf Try.prog 29 1 8 [.nilFunc] := ⟨by kernel_rfl⟩
instance : Und Try.prog 30 (TypeDesc.slice 32) := ⟨Try.underlying30⟩
instance : Sca Try.prog 30 := ⟨by kernel_rfl⟩
instance : Inf Try.prog 30 1 24 [.slice none 0 0] := ⟨by kernel_rfl⟩
instance : Agg Try.prog 31 := ⟨by kernel_rfl⟩
instance : Inf Try.prog 31 3 40 [.int .i64 0, .int .i64 0, .slice none 0 0] := ⟨by kernel_rfl⟩
instance : Lay Try.prog 31 [(0, 1), (1, 1), (2, 1)] := ⟨⟨_, Try.underlying31, fun w => by kernel_rfl⟩⟩
instance : Fld Try.prog 31 0 0 3 := ⟨⟨_, _, Try.underlying31, rfl, rfl, rfl⟩⟩
instance : Fld Try.prog 31 1 1 3 := ⟨⟨_, _, Try.underlying31, rfl, rfl, rfl⟩⟩
instance : Fld Try.prog 31 2 2 23 := ⟨⟨_, _, Try.underlying31, rfl, rfl, rfl⟩⟩
instance : Agg Try.prog 32 := ⟨by kernel_rfl⟩
instance : Inf Try.prog 32 3 40 [.int .i64 0, .int .i64 0, .slice none 0 0] := ⟨by kernel_rfl⟩
instance : Lay Try.prog 32 [(0, 1), (1, 1), (2, 1)] := ⟨⟨_, Try.underlying32, fun w => by kernel_rfl⟩⟩
instance : Fld Try.prog 32 0 0 3 := ⟨⟨_, _, Try.underlying32, rfl, rfl, rfl⟩⟩
instance : Fld Try.prog 32 1 1 3 := ⟨⟨_, _, Try.underlying32, rfl, rfl, rfl⟩⟩
instance : Fld Try.prog 32 2 2 23 := ⟨⟨_, _, Try.underlying32, rfl, rfl, rfl⟩⟩
instance : Und Try.prog 33 (TypeDesc.slice 39) := ⟨Try.underlying33⟩
instance : Sca Try.prog 33 := ⟨by kernel_rfl⟩
instance : Inf Try.prog 33 1 24 [.slice none 0 0] := ⟨by kernel_rfl⟩
instance : Und Try.prog 34 (TypeDesc.int IntKind.i64) := ⟨Try.underlying34⟩
instance : Sca Try.prog 34 := ⟨by kernel_rfl⟩
instance : Inf Try.prog 34 1 8 [.int .i64 0] := ⟨by kernel_rfl⟩
instance : Sca Try.prog 36 := ⟨by kernel_rfl⟩
instance : Inf Try.prog 36 1 8 [.nilFunc] := ⟨by kernel_rfl⟩
instance : Und Try.prog 37 (TypeDesc.slice 42) := ⟨Try.underlying37⟩
instance : Sca Try.prog 37 := ⟨by kernel_rfl⟩
instance : Inf Try.prog 37 1 24 [.slice none 0 0] := ⟨by kernel_rfl⟩
instance : Agg Try.prog 38 := ⟨by kernel_rfl⟩
instance : Inf Try.prog 38 4 64 [.int .i64 0, .slice none 0 0, .bool false, .slice none 0 0] := ⟨by kernel_rfl⟩
instance : Lay Try.prog 38 [(0, 1), (1, 1), (2, 1), (3, 1)] := ⟨⟨_, Try.underlying38, fun w => by kernel_rfl⟩⟩
instance : Fld Try.prog 38 0 0 34 := ⟨⟨_, _, Try.underlying38, rfl, rfl, rfl⟩⟩
instance : Fld Try.prog 38 1 1 37 := ⟨⟨_, _, Try.underlying38, rfl, rfl, rfl⟩⟩
instance : Fld Try.prog 38 2 2 4 := ⟨⟨_, _, Try.underlying38, rfl, rfl, rfl⟩⟩
instance : Fld Try.prog 38 3 3 23 := ⟨⟨_, _, Try.underlying38, rfl, rfl, rfl⟩⟩
instance : Agg Try.prog 39 := ⟨by kernel_rfl⟩
instance : Inf Try.prog 39 4 64 [.int .i64 0, .slice none 0 0, .bool false, .slice none 0 0] := ⟨by kernel_rfl⟩
instance : Lay Try.prog 39 [(0, 1), (1, 1), (2, 1), (3, 1)] := ⟨⟨_, Try.underlying39, fun w => by kernel_rfl⟩⟩
instance : Fld Try.prog 39 0 0 34 := ⟨⟨_, _, Try.underlying39, rfl, rfl, rfl⟩⟩
instance : Fld Try.prog 39 1 1 37 := ⟨⟨_, _, Try.underlying39, rfl, rfl, rfl⟩⟩
instance : Fld Try.prog 39 2 2 4 := ⟨⟨_, _, Try.underlying39, rfl, rfl, rfl⟩⟩
instance : Fld Try.prog 39 3 3 23 := ⟨⟨_, _, Try.underlying39, rfl, rfl, rfl⟩⟩
instance : Sca Try.prog 40 := ⟨by kernel_rfl⟩
instance : Inf Try.prog 40 1 8 [.nilFunc] := ⟨by kernel_rfl⟩
instance : Agg Try.prog 41 := ⟨by kernel_rfl⟩
instance : Inf Try.prog 41 2 16 [.int .i64 0, .int .i64 0] := ⟨by kernel_rfl⟩
instance : Lay Try.prog 41 [(0, 1), (1, 1)] := ⟨⟨_, Try.underlying41, fun w => by kernel_rfl⟩⟩
instance : SEq Try.prog 41 [(0, 0), (1, 0)] := ⟨by kernel_rfl, by kernel_rfl, by kernel_rfl, by kernel_rfl, by kernel_rfl⟩
instance : Fld Try.prog 41 0 0 3 := ⟨⟨_, _, Try.underlying41, rfl, rfl, rfl⟩⟩
instance : Fld Try.prog 41 1 1 3 := ⟨⟨_, _, Try.underlying41, rfl, rfl, rfl⟩⟩
instance : Agg Try.prog 42 := ⟨by kernel_rfl⟩
instance : Inf Try.prog 42 2 16 [.int .i64 0, .int .i64 0] := ⟨by kernel_rfl⟩
instance : Lay Try.prog 42 [(0, 1), (1, 1)] := ⟨⟨_, Try.underlying42, fun w => by kernel_rfl⟩⟩
instance : SEq Try.prog 42 [(0, 0), (1, 0)] := ⟨by kernel_rfl, by kernel_rfl, by kernel_rfl, by kernel_rfl, by kernel_rfl⟩
instance : Fld Try.prog 42 0 0 3 := ⟨⟨_, _, Try.underlying42, rfl, rfl, rfl⟩⟩
instance : Fld Try.prog 42 1 1 3 := ⟨⟨_, _, Try.underlying42, rfl, rfl, rfl⟩⟩
instance : Und Try.prog 43 (TypeDesc.pointer 45) := ⟨Try.underlying43⟩
instance : Sca Try.prog 43 := ⟨by kernel_rfl⟩
instance : Inf Try.prog 43 1 8 [.pointer none] := ⟨by kernel_rfl⟩
instance : Agg Try.prog 44 := ⟨by kernel_rfl⟩
instance : Inf Try.prog 44 4 64 [.slice none 0 0, .int .i64 0, .int .i64 0, .slice none 0 0] := ⟨by kernel_rfl⟩
instance : Lay Try.prog 44 [(0, 1), (1, 1), (2, 1), (3, 1)] := ⟨⟨_, Try.underlying44, fun w => by kernel_rfl⟩⟩
instance : Fld Try.prog 44 0 0 37 := ⟨⟨_, _, Try.underlying44, rfl, rfl, rfl⟩⟩
instance : Fld Try.prog 44 1 1 3 := ⟨⟨_, _, Try.underlying44, rfl, rfl, rfl⟩⟩
instance : Fld Try.prog 44 2 2 3 := ⟨⟨_, _, Try.underlying44, rfl, rfl, rfl⟩⟩
instance : Fld Try.prog 44 3 3 23 := ⟨⟨_, _, Try.underlying44, rfl, rfl, rfl⟩⟩
instance : Agg Try.prog 45 := ⟨by kernel_rfl⟩
instance : Inf Try.prog 45 4 64 [.slice none 0 0, .int .i64 0, .int .i64 0, .slice none 0 0] := ⟨by kernel_rfl⟩
instance : Lay Try.prog 45 [(0, 1), (1, 1), (2, 1), (3, 1)] := ⟨⟨_, Try.underlying45, fun w => by kernel_rfl⟩⟩
instance : Fld Try.prog 45 0 0 37 := ⟨⟨_, _, Try.underlying45, rfl, rfl, rfl⟩⟩
instance : Fld Try.prog 45 1 1 3 := ⟨⟨_, _, Try.underlying45, rfl, rfl, rfl⟩⟩
instance : Fld Try.prog 45 2 2 3 := ⟨⟨_, _, Try.underlying45, rfl, rfl, rfl⟩⟩
instance : Fld Try.prog 45 3 3 23 := ⟨⟨_, _, Try.underlying45, rfl, rfl, rfl⟩⟩
instance : Sca Try.prog 46 := ⟨by kernel_rfl⟩
instance : Inf Try.prog 46 1 8 [.nilFunc] := ⟨by kernel_rfl⟩
instance : Und Try.prog 47 (TypeDesc.pointer 39) := ⟨Try.underlying47⟩
instance : Sca Try.prog 47 := ⟨by kernel_rfl⟩
instance : Inf Try.prog 47 1 8 [.pointer none] := ⟨by kernel_rfl⟩
instance : Sca Try.prog 48 := ⟨by kernel_rfl⟩
instance : Inf Try.prog 48 1 8 [.nilFunc] := ⟨by kernel_rfl⟩
instance : Sca Try.prog 49 := ⟨by kernel_rfl⟩
instance : Inf Try.prog 49 1 8 [.nilFunc] := ⟨by kernel_rfl⟩
instance : Sca Try.prog 50 := ⟨by kernel_rfl⟩
instance : Inf Try.prog 50 1 8 [.nilFunc] := ⟨by kernel_rfl⟩
instance : Sca Try.prog 51 := ⟨by kernel_rfl⟩
instance : Inf Try.prog 51 1 8 [.nilFunc] := ⟨by kernel_rfl⟩
instance : Sca Try.prog 52 := ⟨by kernel_rfl⟩
instance : Inf Try.prog 52 1 8 [.nilFunc] := ⟨by kernel_rfl⟩
instance : Sca Try.prog 53 := ⟨by kernel_rfl⟩
instance : Inf Try.prog 53 1 8 [.nilFunc] := ⟨by kernel_rfl⟩
instance : Sca Try.prog 54 := ⟨by kernel_rfl⟩
instance : Inf Try.prog 54 1 8 [.nilFunc] := ⟨by kernel_rfl⟩
instance : Sca Try.prog 55 := ⟨by kernel_rfl⟩
instance : Inf Try.prog 55 1 8 [.nilFunc] := ⟨by kernel_rfl⟩
instance : Sca Try.prog 56 := ⟨by kernel_rfl⟩
instance : Inf Try.prog 56 1 8 [.nilFunc] := ⟨by kernel_rfl⟩
instance : Agg Try.prog 57 := ⟨by kernel_rfl⟩
instance : Inf Try.prog 57 4 40 [.pointer none, .pointer none, .pointer none, .string ByteArray.empty] := ⟨by kernel_rfl⟩
instance : Lay Try.prog 57 [(0, 1), (1, 1), (2, 1), (3, 1)] := ⟨⟨_, Try.underlying57, fun w => by kernel_rfl⟩⟩
instance : Fld Try.prog 57 0 0 17 := ⟨⟨_, _, Try.underlying57, rfl, rfl, rfl⟩⟩
instance : Fld Try.prog 57 1 1 17 := ⟨⟨_, _, Try.underlying57, rfl, rfl, rfl⟩⟩
instance : Fld Try.prog 57 2 2 17 := ⟨⟨_, _, Try.underlying57, rfl, rfl, rfl⟩⟩
instance : Fld Try.prog 57 3 3 9 := ⟨⟨_, _, Try.underlying57, rfl, rfl, rfl⟩⟩
instance : Agg Try.prog 58 := ⟨by kernel_rfl⟩
instance : Inf Try.prog 58 4 40 [.pointer none, .pointer none, .pointer none, .string ByteArray.empty] := ⟨by kernel_rfl⟩
instance : Lay Try.prog 58 [(0, 1), (1, 1), (2, 1), (3, 1)] := ⟨⟨_, Try.underlying58, fun w => by kernel_rfl⟩⟩
instance : Fld Try.prog 58 0 0 17 := ⟨⟨_, _, Try.underlying58, rfl, rfl, rfl⟩⟩
instance : Fld Try.prog 58 1 1 17 := ⟨⟨_, _, Try.underlying58, rfl, rfl, rfl⟩⟩
instance : Fld Try.prog 58 2 2 17 := ⟨⟨_, _, Try.underlying58, rfl, rfl, rfl⟩⟩
instance : Fld Try.prog 58 3 3 9 := ⟨⟨_, _, Try.underlying58, rfl, rfl, rfl⟩⟩
instance : Und Try.prog 59 (TypeDesc.array 0 16) := ⟨Try.underlying59⟩
instance : Agg Try.prog 59 := ⟨by kernel_rfl⟩
instance : Inf Try.prog 59 0 0 [] := ⟨by kernel_rfl⟩
instance : Agg Try.prog 60 := ⟨by kernel_rfl⟩
instance : Inf Try.prog 60 0 0 [] := ⟨by kernel_rfl⟩
instance : Lay Try.prog 60 [(0, 0)] := ⟨⟨_, Try.underlying60, fun w => by kernel_rfl⟩⟩
instance : Fld Try.prog 60 0 0 59 := ⟨⟨_, _, Try.underlying60, rfl, rfl, rfl⟩⟩
instance : Agg Try.prog 61 := ⟨by kernel_rfl⟩
instance : Inf Try.prog 61 0 0 [] := ⟨by kernel_rfl⟩
instance : Lay Try.prog 61 [(0, 0)] := ⟨⟨_, Try.underlying61, fun w => by kernel_rfl⟩⟩
instance : Fld Try.prog 61 0 0 59 := ⟨⟨_, _, Try.underlying61, rfl, rfl, rfl⟩⟩
instance : Sca Try.prog 62 := ⟨by kernel_rfl⟩
instance : Inf Try.prog 62 1 8 [.nilFunc] := ⟨by kernel_rfl⟩
instance : Und Try.prog 63 (TypeDesc.int IntKind.u32) := ⟨Try.underlying63⟩
instance : Sca Try.prog 63 := ⟨by kernel_rfl⟩
instance : Inf Try.prog 63 1 4 [.int .u32 0] := ⟨by kernel_rfl⟩
instance : Und Try.prog 64 (TypeDesc.int IntKind.u8) := ⟨Try.underlying64⟩
instance : Sca Try.prog 64 := ⟨by kernel_rfl⟩
instance : Inf Try.prog 64 1 1 [.int .u8 0] := ⟨by kernel_rfl⟩
instance : Und Try.prog 65 (TypeDesc.int IntKind.u8) := ⟨Try.underlying65⟩
instance : Sca Try.prog 65 := ⟨by kernel_rfl⟩
instance : Inf Try.prog 65 1 1 [.int .u8 0] := ⟨by kernel_rfl⟩
instance : Sca Try.prog 66 := ⟨by kernel_rfl⟩
instance : Inf Try.prog 66 1 8 [.nilFunc] := ⟨by kernel_rfl⟩
instance : Und Try.prog 67 (TypeDesc.pointer 5) := ⟨Try.underlying67⟩
instance : Sca Try.prog 67 := ⟨by kernel_rfl⟩
instance : Inf Try.prog 67 1 8 [.pointer none] := ⟨by kernel_rfl⟩
instance : Und Try.prog 68 (TypeDesc.int IntKind.i32) := ⟨Try.underlying68⟩
instance : Sca Try.prog 68 := ⟨by kernel_rfl⟩
instance : Inf Try.prog 68 1 4 [.int .i32 0] := ⟨by kernel_rfl⟩
instance : Und Try.prog 69 (TypeDesc.int IntKind.i32) := ⟨Try.underlying69⟩
instance : Sca Try.prog 69 := ⟨by kernel_rfl⟩
instance : Inf Try.prog 69 1 4 [.int .i32 0] := ⟨by kernel_rfl⟩
instance : Agg Try.prog 70 := ⟨by kernel_rfl⟩
instance : Inf Try.prog 70 11 48 [.int .u64 0, .int .u64 0, .int .u32 0, .int .u8 0, .int .u8 0, .int .u8 0, .int .u8 0, .nilFunc, .pointer none, .int .i32 0, .int .i32 0] := ⟨by kernel_rfl⟩
instance : Lay Try.prog 70 [(0, 1), (1, 1), (2, 1), (3, 1), (4, 1), (5, 1), (6, 1), (7, 1), (8, 1), (9, 1), (10, 1)] := ⟨⟨_, Try.underlying70, fun w => by kernel_rfl⟩⟩
instance : Fld Try.prog 70 0 0 12 := ⟨⟨_, _, Try.underlying70, rfl, rfl, rfl⟩⟩
instance : Fld Try.prog 70 1 1 12 := ⟨⟨_, _, Try.underlying70, rfl, rfl, rfl⟩⟩
instance : Fld Try.prog 70 2 2 63 := ⟨⟨_, _, Try.underlying70, rfl, rfl, rfl⟩⟩
instance : Fld Try.prog 70 3 3 64 := ⟨⟨_, _, Try.underlying70, rfl, rfl, rfl⟩⟩
instance : Fld Try.prog 70 4 4 5 := ⟨⟨_, _, Try.underlying70, rfl, rfl, rfl⟩⟩
instance : Fld Try.prog 70 5 5 5 := ⟨⟨_, _, Try.underlying70, rfl, rfl, rfl⟩⟩
instance : Fld Try.prog 70 6 6 65 := ⟨⟨_, _, Try.underlying70, rfl, rfl, rfl⟩⟩
instance : Fld Try.prog 70 7 7 66 := ⟨⟨_, _, Try.underlying70, rfl, rfl, rfl⟩⟩
instance : Fld Try.prog 70 8 8 67 := ⟨⟨_, _, Try.underlying70, rfl, rfl, rfl⟩⟩
instance : Fld Try.prog 70 9 9 68 := ⟨⟨_, _, Try.underlying70, rfl, rfl, rfl⟩⟩
instance : Fld Try.prog 70 10 10 69 := ⟨⟨_, _, Try.underlying70, rfl, rfl, rfl⟩⟩
instance : Agg Try.prog 71 := ⟨by kernel_rfl⟩
instance : Inf Try.prog 71 11 48 [.int .u64 0, .int .u64 0, .int .u32 0, .int .u8 0, .int .u8 0, .int .u8 0, .int .u8 0, .nilFunc, .pointer none, .int .i32 0, .int .i32 0] := ⟨by kernel_rfl⟩
instance : Lay Try.prog 71 [(0, 1), (1, 1), (2, 1), (3, 1), (4, 1), (5, 1), (6, 1), (7, 1), (8, 1), (9, 1), (10, 1)] := ⟨⟨_, Try.underlying71, fun w => by kernel_rfl⟩⟩
instance : Fld Try.prog 71 0 0 12 := ⟨⟨_, _, Try.underlying71, rfl, rfl, rfl⟩⟩
instance : Fld Try.prog 71 1 1 12 := ⟨⟨_, _, Try.underlying71, rfl, rfl, rfl⟩⟩
instance : Fld Try.prog 71 2 2 63 := ⟨⟨_, _, Try.underlying71, rfl, rfl, rfl⟩⟩
instance : Fld Try.prog 71 3 3 64 := ⟨⟨_, _, Try.underlying71, rfl, rfl, rfl⟩⟩
instance : Fld Try.prog 71 4 4 5 := ⟨⟨_, _, Try.underlying71, rfl, rfl, rfl⟩⟩
instance : Fld Try.prog 71 5 5 5 := ⟨⟨_, _, Try.underlying71, rfl, rfl, rfl⟩⟩
instance : Fld Try.prog 71 6 6 65 := ⟨⟨_, _, Try.underlying71, rfl, rfl, rfl⟩⟩
instance : Fld Try.prog 71 7 7 66 := ⟨⟨_, _, Try.underlying71, rfl, rfl, rfl⟩⟩
instance : Fld Try.prog 71 8 8 67 := ⟨⟨_, _, Try.underlying71, rfl, rfl, rfl⟩⟩
instance : Fld Try.prog 71 9 9 68 := ⟨⟨_, _, Try.underlying71, rfl, rfl, rfl⟩⟩
instance : Fld Try.prog 71 10 10 69 := ⟨⟨_, _, Try.underlying71, rfl, rfl, rfl⟩⟩
instance : Fun Try.prog 2 := ⟨⟨_, Try.func2, by kernel_rfl, by kernel_rfl⟩⟩
instance : Fun Try.prog 3 := ⟨⟨_, Try.func3, by kernel_rfl, by kernel_rfl⟩⟩
instance : Fun Try.prog 4 := ⟨⟨_, Try.func4, by kernel_rfl, by kernel_rfl⟩⟩
instance : Fun Try.prog 5 := ⟨⟨_, Try.func5, by kernel_rfl, by kernel_rfl⟩⟩
instance : Fun Try.prog 6 := ⟨⟨_, Try.func6, by kernel_rfl, by kernel_rfl⟩⟩
instance : Fun Try.prog 7 := ⟨⟨_, Try.func7, by kernel_rfl, by kernel_rfl⟩⟩
instance : Fun Try.prog 8 := ⟨⟨_, Try.func8, by kernel_rfl, by kernel_rfl⟩⟩
instance : Fun Try.prog 9 := ⟨⟨_, Try.func9, by kernel_rfl, by kernel_rfl⟩⟩
instance : Fun Try.prog 10 := ⟨⟨_, Try.func10, by kernel_rfl, by kernel_rfl⟩⟩
instance : Fun Try.prog 11 := ⟨⟨_, Try.func11, by kernel_rfl, by kernel_rfl⟩⟩
instance : Fun Try.prog 12 := ⟨⟨_, Try.func12, by kernel_rfl, by kernel_rfl⟩⟩
instance : Fun Try.prog 13 := ⟨⟨_, Try.func13, by kernel_rfl, by kernel_rfl⟩⟩
instance : Fun Try.prog 14 := ⟨⟨_, Try.func14, by kernel_rfl, by kernel_rfl⟩⟩
instance : Fun Try.prog 15 := ⟨⟨_, Try.func15, by kernel_rfl, by kernel_rfl⟩⟩
instance : Fun Try.prog 16 := ⟨⟨_, Try.func16, by kernel_rfl, by kernel_rfl⟩⟩
instance : Fun Try.prog 17 := ⟨⟨_, Try.func17, by kernel_rfl, by kernel_rfl⟩⟩
instance : Fun Try.prog 18 := ⟨⟨_, Try.func18, by kernel_rfl, by kernel_rfl⟩⟩
end Go.Proofs.Ytpeidlaejjfmeaa
