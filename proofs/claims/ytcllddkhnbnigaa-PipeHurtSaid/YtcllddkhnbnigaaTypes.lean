/-
  WHAT THE PROGRAM's TABLES SAY of each type and each function, as instances. No condition.
-/
import Derived.Test.YtcllddkhnbnigaaKit9
namespace Go.Proofs.Ytcllddkhnbnigaa
open Go.RowKit

instance : Und Try.prog 3 (TypeDesc.int IntKind.i64) := ⟨Try.underlying3⟩
instance : Sca Try.prog 3 := ⟨by kernel_rfl⟩
instance : Inf Try.prog 3 1 8 [.int .i64 0] := ⟨by kernel_rfl⟩
instance : Und Try.prog 4 (TypeDesc.bool) := ⟨Try.underlying4⟩
instance : Sca Try.prog 4 := ⟨by kernel_rfl⟩
instance : Inf Try.prog 4 1 1 [.bool false] := ⟨by kernel_rfl⟩
instance : Und Try.prog 5 (TypeDesc.int IntKind.u8) := ⟨Try.underlying5⟩
instance : Sca Try.prog 5 := ⟨by kernel_rfl⟩
instance : Inf Try.prog 5 1 1 [.int .u8 0] := ⟨by kernel_rfl⟩
instance : Und Try.prog 22 (TypeDesc.slice 48) := ⟨Try.underlying22⟩
instance : Und Try.prog 23 (TypeDesc.slice 36) := ⟨Try.underlying23⟩
instance : Und Try.prog 25 (TypeDesc.slice 39) := ⟨Try.underlying25⟩
instance : Agg Try.prog 29 := ⟨by kernel_rfl⟩
instance : Inf Try.prog 29 2 16 [.int .i64 0, .int .i64 0] := ⟨by kernel_rfl⟩
instance : Lay Try.prog 29 [(0, 1), (1, 1)] := ⟨⟨_, Try.underlying29, fun w => by kernel_rfl⟩⟩
instance : Fld Try.prog 29 0 0 3 := ⟨⟨_, _, Try.underlying29, rfl, rfl, rfl⟩⟩
instance : Fld Try.prog 29 1 1 3 := ⟨⟨_, _, Try.underlying29, rfl, rfl, rfl⟩⟩
instance : Und Try.prog 31 (TypeDesc.slice 5) := ⟨Try.underlying31⟩
instance : Sca Try.prog 31 := ⟨by kernel_rfl⟩
instance : Inf Try.prog 31 1 24 [.slice none 0 0] := ⟨by kernel_rfl⟩
instance : Agg Try.prog 36 := ⟨by kernel_rfl⟩
instance : Inf Try.prog 36 6 64 [.int .i64 0, .slice none 0 0, .int .i64 0, .int .i64 0, .int .u8 0, .int .i64 0] := ⟨by kernel_rfl⟩
instance : Lay Try.prog 36 [(0, 1), (1, 1), (2, 1), (3, 1), (4, 1), (5, 1)] := ⟨⟨_, Try.underlying36, fun w => by kernel_rfl⟩⟩
instance : Fld Try.prog 36 0 0 3 := ⟨⟨_, _, Try.underlying36, rfl, rfl, rfl⟩⟩
instance : Fld Try.prog 36 1 1 31 := ⟨⟨_, _, Try.underlying36, rfl, rfl, rfl⟩⟩
instance : Fld Try.prog 36 2 2 3 := ⟨⟨_, _, Try.underlying36, rfl, rfl, rfl⟩⟩
instance : Fld Try.prog 36 3 3 3 := ⟨⟨_, _, Try.underlying36, rfl, rfl, rfl⟩⟩
instance : Fld Try.prog 36 4 4 5 := ⟨⟨_, _, Try.underlying36, rfl, rfl, rfl⟩⟩
instance : Fld Try.prog 36 5 5 3 := ⟨⟨_, _, Try.underlying36, rfl, rfl, rfl⟩⟩
instance : Sca Try.prog 37 := ⟨by kernel_rfl⟩
instance : Inf Try.prog 37 1 8 [.int .i64 0] := ⟨by kernel_rfl⟩
instance : Agg Try.prog 39 := ⟨by kernel_rfl⟩
instance : Inf Try.prog 39 6 64 [.int .i64 0, .bool false, .int .i64 0, .slice none 0 0, .bool false, .int .i64 0] := ⟨by kernel_rfl⟩
instance : Lay Try.prog 39 [(0, 1), (1, 1), (2, 1), (3, 1), (4, 1), (5, 1)] := ⟨⟨_, Try.underlying39, fun w => by kernel_rfl⟩⟩
instance : Fld Try.prog 39 0 0 37 := ⟨⟨_, _, Try.underlying39, rfl, rfl, rfl⟩⟩
instance : Fld Try.prog 39 1 1 4 := ⟨⟨_, _, Try.underlying39, rfl, rfl, rfl⟩⟩
instance : Fld Try.prog 39 2 2 3 := ⟨⟨_, _, Try.underlying39, rfl, rfl, rfl⟩⟩
instance : Fld Try.prog 39 3 3 31 := ⟨⟨_, _, Try.underlying39, rfl, rfl, rfl⟩⟩
instance : Fld Try.prog 39 4 4 4 := ⟨⟨_, _, Try.underlying39, rfl, rfl, rfl⟩⟩
instance : Fld Try.prog 39 5 5 3 := ⟨⟨_, _, Try.underlying39, rfl, rfl, rfl⟩⟩
instance : Agg Try.prog 48 := ⟨by kernel_rfl⟩
instance : Inf Try.prog 48 4 48 [.int .i64 0, .slice none 0 0, .int .i64 0, .int .u8 0] := ⟨by kernel_rfl⟩
instance : Fld Try.prog 48 0 0 3 := ⟨⟨_, _, Try.underlying48, rfl, rfl, rfl⟩⟩
instance : Fld Try.prog 48 1 1 31 := ⟨⟨_, _, Try.underlying48, rfl, rfl, rfl⟩⟩
instance : Fld Try.prog 48 2 2 3 := ⟨⟨_, _, Try.underlying48, rfl, rfl, rfl⟩⟩
instance : Fld Try.prog 48 3 3 5 := ⟨⟨_, _, Try.underlying48, rfl, rfl, rfl⟩⟩
instance : Sca Try.prog 51 := ⟨by kernel_rfl⟩
instance : Sca Try.prog 54 := ⟨by kernel_rfl⟩
instance : Inf Try.prog 54 1 8 [.pointer none] := ⟨by kernel_rfl⟩
instance : Sca Try.prog 56 := ⟨by kernel_rfl⟩
instance : Inf Try.prog 56 1 8 [.pointer none] := ⟨by kernel_rfl⟩
instance : Und Try.prog 58 (TypeDesc.slice 92) := ⟨Try.underlying58⟩
instance : Sca Try.prog 58 := ⟨by kernel_rfl⟩
instance : Inf Try.prog 58 1 24 [.slice none 0 0] := ⟨by kernel_rfl⟩
instance : Inf Try.prog 60 4 48 [.int .i64 0, .pointer none, .pointer none, .slice none 0 0] := ⟨by kernel_rfl⟩
instance : Lay Try.prog 60 [(0, 1), (1, 1), (2, 1), (3, 1)] := ⟨⟨_, Try.underlying60, fun w => by kernel_rfl⟩⟩
instance : Fld Try.prog 60 0 0 3 := ⟨⟨_, _, Try.underlying60, rfl, rfl, rfl⟩⟩
instance : Fld Try.prog 60 1 1 54 := ⟨⟨_, _, Try.underlying60, rfl, rfl, rfl⟩⟩
instance : Fld Try.prog 60 2 2 56 := ⟨⟨_, _, Try.underlying60, rfl, rfl, rfl⟩⟩
instance : Fld Try.prog 60 3 3 58 := ⟨⟨_, _, Try.underlying60, rfl, rfl, rfl⟩⟩
instance : Und Try.prog 61 (TypeDesc.slice 102) := ⟨Try.underlying61⟩
instance : Sca Try.prog 61 := ⟨by kernel_rfl⟩
instance : Inf Try.prog 61 1 24 [.slice none 0 0] := ⟨by kernel_rfl⟩
instance : Agg Try.prog 63 := ⟨by kernel_rfl⟩
instance : Inf Try.prog 63 5 72 [.int .i64 0, .slice none 0 0, .int .i64 0, .int .i64 0, .slice none 0 0] := ⟨by kernel_rfl⟩
instance : Lay Try.prog 63 [(0, 1), (1, 1), (2, 1), (3, 1), (4, 1)] := ⟨⟨_, Try.underlying63, fun w => by kernel_rfl⟩⟩
instance : Fld Try.prog 63 0 0 3 := ⟨⟨_, _, Try.underlying63, rfl, rfl, rfl⟩⟩
instance : Fld Try.prog 63 1 1 31 := ⟨⟨_, _, Try.underlying63, rfl, rfl, rfl⟩⟩
instance : Fld Try.prog 63 2 2 3 := ⟨⟨_, _, Try.underlying63, rfl, rfl, rfl⟩⟩
instance : Fld Try.prog 63 3 3 3 := ⟨⟨_, _, Try.underlying63, rfl, rfl, rfl⟩⟩
instance : Fld Try.prog 63 4 4 61 := ⟨⟨_, _, Try.underlying63, rfl, rfl, rfl⟩⟩
instance : Agg Try.prog 65 := ⟨by kernel_rfl⟩
instance : Inf Try.prog 65 7 56 [.int .i64 0, .int .i64 0, .slice none 0 0, .bool false, .bool false, .bool false, .int .i64 0] := ⟨by kernel_rfl⟩
instance : Lay Try.prog 65 [(0, 1), (1, 1), (2, 1), (3, 1), (4, 1), (5, 1), (6, 1)] := ⟨⟨_, Try.underlying65, fun w => by kernel_rfl⟩⟩
instance : Fld Try.prog 65 0 0 37 := ⟨⟨_, _, Try.underlying65, rfl, rfl, rfl⟩⟩
instance : Fld Try.prog 65 1 1 3 := ⟨⟨_, _, Try.underlying65, rfl, rfl, rfl⟩⟩
instance : Fld Try.prog 65 2 2 31 := ⟨⟨_, _, Try.underlying65, rfl, rfl, rfl⟩⟩
instance : Fld Try.prog 65 3 3 4 := ⟨⟨_, _, Try.underlying65, rfl, rfl, rfl⟩⟩
instance : Fld Try.prog 65 4 4 4 := ⟨⟨_, _, Try.underlying65, rfl, rfl, rfl⟩⟩
instance : Fld Try.prog 65 5 5 4 := ⟨⟨_, _, Try.underlying65, rfl, rfl, rfl⟩⟩
instance : Fld Try.prog 65 6 6 3 := ⟨⟨_, _, Try.underlying65, rfl, rfl, rfl⟩⟩
instance : Agg Try.prog 73 := ⟨by kernel_rfl⟩
instance : Inf Try.prog 73 6 80 [.int .i64 0, .int .i64 0, .int .i64 0, .slice none 0 0, .slice none 0 0, .bool false] := ⟨by kernel_rfl⟩
instance : Lay Try.prog 73 [(0, 1), (1, 1), (2, 1), (3, 1), (4, 1), (5, 1)] := ⟨⟨_, Try.underlying73, fun w => by kernel_rfl⟩⟩
instance : Fld Try.prog 73 0 0 37 := ⟨⟨_, _, Try.underlying73, rfl, rfl, rfl⟩⟩
instance : Fld Try.prog 73 1 1 3 := ⟨⟨_, _, Try.underlying73, rfl, rfl, rfl⟩⟩
instance : Fld Try.prog 73 2 2 3 := ⟨⟨_, _, Try.underlying73, rfl, rfl, rfl⟩⟩
instance : Fld Try.prog 73 3 3 61 := ⟨⟨_, _, Try.underlying73, rfl, rfl, rfl⟩⟩
instance : Fld Try.prog 73 4 4 31 := ⟨⟨_, _, Try.underlying73, rfl, rfl, rfl⟩⟩
instance : Fld Try.prog 73 5 5 4 := ⟨⟨_, _, Try.underlying73, rfl, rfl, rfl⟩⟩
instance : Agg Try.prog 76 := ⟨by kernel_rfl⟩
instance : Inf Try.prog 76 5 56 [.int .i64 0, .int .i64 0, .slice none 0 0, .bool false, .int .i64 0] := ⟨by kernel_rfl⟩
instance : Lay Try.prog 76 [(0, 1), (1, 1), (2, 1), (3, 1), (4, 1)] := ⟨⟨_, Try.underlying76, fun w => by kernel_rfl⟩⟩
instance : Fld Try.prog 76 0 0 3 := ⟨⟨_, _, Try.underlying76, rfl, rfl, rfl⟩⟩
instance : Fld Try.prog 76 1 1 3 := ⟨⟨_, _, Try.underlying76, rfl, rfl, rfl⟩⟩
instance : Fld Try.prog 76 2 2 31 := ⟨⟨_, _, Try.underlying76, rfl, rfl, rfl⟩⟩
instance : Fld Try.prog 76 3 3 4 := ⟨⟨_, _, Try.underlying76, rfl, rfl, rfl⟩⟩
instance : Fld Try.prog 76 4 4 3 := ⟨⟨_, _, Try.underlying76, rfl, rfl, rfl⟩⟩
instance : Inf Try.prog 79 7 88 [.slice none 0 0, .bool false, .int .i64 0, .slice none 0 0, .int .i64 0, .int .i64 0, .int .i64 0] := ⟨by kernel_rfl⟩
instance : Lay Try.prog 79 [(0, 1), (1, 1), (2, 1), (3, 1), (4, 1), (5, 1), (6, 1)] := ⟨⟨_, Try.underlying79, fun w => by kernel_rfl⟩⟩
instance : Fld Try.prog 79 0 0 31 := ⟨⟨_, _, Try.underlying79, rfl, rfl, rfl⟩⟩
instance : Fld Try.prog 79 1 1 4 := ⟨⟨_, _, Try.underlying79, rfl, rfl, rfl⟩⟩
instance : Fld Try.prog 79 2 2 3 := ⟨⟨_, _, Try.underlying79, rfl, rfl, rfl⟩⟩
instance : Fld Try.prog 79 3 3 61 := ⟨⟨_, _, Try.underlying79, rfl, rfl, rfl⟩⟩
instance : Fld Try.prog 79 4 4 3 := ⟨⟨_, _, Try.underlying79, rfl, rfl, rfl⟩⟩
instance : Fld Try.prog 79 5 5 3 := ⟨⟨_, _, Try.underlying79, rfl, rfl, rfl⟩⟩
instance : Fld Try.prog 79 6 6 3 := ⟨⟨_, _, Try.underlying79, rfl, rfl, rfl⟩⟩
instance : Inf Try.prog 81 6 80 [.int .i64 0, .slice none 0 0, .int .i64 0, .slice none 0 0, .int .i64 0, .int .i64 0] := ⟨by kernel_rfl⟩
instance : Lay Try.prog 81 [(0, 1), (1, 1), (2, 1), (3, 1), (4, 1), (5, 1)] := ⟨⟨_, Try.underlying81, fun w => by kernel_rfl⟩⟩
instance : Fld Try.prog 81 0 0 3 := ⟨⟨_, _, Try.underlying81, rfl, rfl, rfl⟩⟩
instance : Fld Try.prog 81 1 1 31 := ⟨⟨_, _, Try.underlying81, rfl, rfl, rfl⟩⟩
instance : Fld Try.prog 81 2 2 3 := ⟨⟨_, _, Try.underlying81, rfl, rfl, rfl⟩⟩
instance : Fld Try.prog 81 3 3 61 := ⟨⟨_, _, Try.underlying81, rfl, rfl, rfl⟩⟩
instance : Fld Try.prog 81 4 4 3 := ⟨⟨_, _, Try.underlying81, rfl, rfl, rfl⟩⟩
instance : Fld Try.prog 81 5 5 3 := ⟨⟨_, _, Try.underlying81, rfl, rfl, rfl⟩⟩
instance : Agg Try.prog 89 := ⟨by kernel_rfl⟩
instance : Inf Try.prog 89 9 80 [.int .i64 0, .int .i64 0, .int .i64 0, .bool false, .bool false, .bool false, .bool false, .slice none 0 0, .slice none 0 0] := ⟨by kernel_rfl⟩
instance : Lay Try.prog 89 [(0, 1), (1, 1), (2, 1), (3, 1), (4, 1), (5, 1), (6, 1), (7, 1), (8, 1)] := ⟨⟨_, Try.underlying89, fun w => by kernel_rfl⟩⟩
instance : Fld Try.prog 89 0 0 3 := ⟨⟨_, _, Try.underlying89, rfl, rfl, rfl⟩⟩
instance : Fld Try.prog 89 1 1 3 := ⟨⟨_, _, Try.underlying89, rfl, rfl, rfl⟩⟩
instance : Fld Try.prog 89 2 2 3 := ⟨⟨_, _, Try.underlying89, rfl, rfl, rfl⟩⟩
instance : Fld Try.prog 89 3 3 4 := ⟨⟨_, _, Try.underlying89, rfl, rfl, rfl⟩⟩
instance : Fld Try.prog 89 4 4 4 := ⟨⟨_, _, Try.underlying89, rfl, rfl, rfl⟩⟩
instance : Fld Try.prog 89 5 5 4 := ⟨⟨_, _, Try.underlying89, rfl, rfl, rfl⟩⟩
instance : Fld Try.prog 89 6 6 4 := ⟨⟨_, _, Try.underlying89, rfl, rfl, rfl⟩⟩
instance : Fld Try.prog 89 7 7 61 := ⟨⟨_, _, Try.underlying89, rfl, rfl, rfl⟩⟩
instance : Fld Try.prog 89 8 8 31 := ⟨⟨_, _, Try.underlying89, rfl, rfl, rfl⟩⟩
instance : Inf Try.prog 92 3 32 [.slice none 0 0, .bool false, .bool false] := ⟨by kernel_rfl⟩
instance : Lay Try.prog 92 [(0, 1), (1, 1), (2, 1)] := ⟨⟨_, Try.underlying92, fun w => by kernel_rfl⟩⟩
instance : Fld Try.prog 92 0 0 31 := ⟨⟨_, _, Try.underlying92, rfl, rfl, rfl⟩⟩
instance : Fld Try.prog 92 1 1 4 := ⟨⟨_, _, Try.underlying92, rfl, rfl, rfl⟩⟩
instance : Fld Try.prog 92 2 2 4 := ⟨⟨_, _, Try.underlying92, rfl, rfl, rfl⟩⟩
instance : Agg Try.prog 102 := ⟨by kernel_rfl⟩
instance : Inf Try.prog 102 2 16 [.int .i64 0, .int .i64 0] := ⟨by kernel_rfl⟩
instance : Lay Try.prog 102 [(0, 1), (1, 1)] := ⟨⟨_, Try.underlying102, fun w => by kernel_rfl⟩⟩
instance : Fld Try.prog 102 0 0 3 := ⟨⟨_, _, Try.underlying102, rfl, rfl, rfl⟩⟩
instance : Fld Try.prog 102 1 1 3 := ⟨⟨_, _, Try.underlying102, rfl, rfl, rfl⟩⟩
instance : Und Try.prog 122 (TypeDesc.slice 61) := ⟨Try.underlying122⟩
instance : Sca Try.prog 129 := ⟨by kernel_rfl⟩
instance : Inf Try.prog 129 1 8 [.pointer none] := ⟨by kernel_rfl⟩
instance : Und Try.prog 130 (TypeDesc.array 4 129) := ⟨Try.underlying130⟩
instance : Agg Try.prog 130 := ⟨by kernel_rfl⟩
instance : Inf Try.prog 130 4 32 [.pointer none, .pointer none, .pointer none, .pointer none] := ⟨by kernel_rfl⟩
instance : Fun Try.prog 8 := ⟨⟨_, Try.func8, by kernel_rfl, by kernel_rfl⟩⟩
instance : Fun Try.prog 9 := ⟨⟨_, Try.func9, by kernel_rfl, by kernel_rfl⟩⟩
instance : Fun Try.prog 10 := ⟨⟨_, Try.func10, by kernel_rfl, by kernel_rfl⟩⟩
instance : Fun Try.prog 12 := ⟨⟨_, Try.func12, by kernel_rfl, by kernel_rfl⟩⟩
instance : Fun Try.prog 13 := ⟨⟨_, Try.func13, by kernel_rfl, by kernel_rfl⟩⟩
instance : Fun Try.prog 15 := ⟨⟨_, Try.func15, by kernel_rfl, by kernel_rfl⟩⟩
instance : Fun Try.prog 16 := ⟨⟨_, Try.func16, by kernel_rfl, by kernel_rfl⟩⟩
instance : Fun Try.prog 17 := ⟨⟨_, Try.func17, by kernel_rfl, by kernel_rfl⟩⟩
instance : Fun Try.prog 18 := ⟨⟨_, Try.func18, by kernel_rfl, by kernel_rfl⟩⟩
instance : Fun Try.prog 19 := ⟨⟨_, Try.func19, by kernel_rfl, by kernel_rfl⟩⟩
instance : Fun Try.prog 20 := ⟨⟨_, Try.func20, by kernel_rfl, by kernel_rfl⟩⟩
instance : Fun Try.prog 21 := ⟨⟨_, Try.func21, by kernel_rfl, by kernel_rfl⟩⟩
instance : Fun Try.prog 22 := ⟨⟨_, Try.func22, by kernel_rfl, by kernel_rfl⟩⟩
instance : Fun Try.prog 23 := ⟨⟨_, Try.func23, by kernel_rfl, by kernel_rfl⟩⟩
instance : Fun Try.prog 24 := ⟨⟨_, Try.func24, by kernel_rfl, by kernel_rfl⟩⟩
instance : Fun Try.prog 25 := ⟨⟨_, Try.func25, by kernel_rfl, by kernel_rfl⟩⟩
instance : Fun Try.prog 26 := ⟨⟨_, Try.func26, by kernel_rfl, by kernel_rfl⟩⟩
instance : Fun Try.prog 27 := ⟨⟨_, Try.func27, by kernel_rfl, by kernel_rfl⟩⟩
instance : Fun Try.prog 28 := ⟨⟨_, Try.func28, by kernel_rfl, by kernel_rfl⟩⟩
instance : Fun Try.prog 29 := ⟨⟨_, Try.func29, by kernel_rfl, by kernel_rfl⟩⟩
instance : Fun Try.prog 30 := ⟨⟨_, Try.func30, by kernel_rfl, by kernel_rfl⟩⟩
instance : Fun Try.prog 31 := ⟨⟨_, Try.func31, by kernel_rfl, by kernel_rfl⟩⟩
instance : Fun Try.prog 32 := ⟨⟨_, Try.func32, by kernel_rfl, by kernel_rfl⟩⟩
instance : Fun Try.prog 33 := ⟨⟨_, Try.func33, by kernel_rfl, by kernel_rfl⟩⟩
instance : Fun Try.prog 34 := ⟨⟨_, Try.func34, by kernel_rfl, by kernel_rfl⟩⟩
instance : Fun Try.prog 35 := ⟨⟨_, Try.func35, by kernel_rfl, by kernel_rfl⟩⟩
instance : Fun Try.prog 36 := ⟨⟨_, Try.func36, by kernel_rfl, by kernel_rfl⟩⟩
instance : Fun Try.prog 37 := ⟨⟨_, Try.func37, by kernel_rfl, by kernel_rfl⟩⟩
instance : Fun Try.prog 38 := ⟨⟨_, Try.func38, by kernel_rfl, by kernel_rfl⟩⟩
instance : Fun Try.prog 39 := ⟨⟨_, Try.func39, by kernel_rfl, by kernel_rfl⟩⟩
instance : Fun Try.prog 40 := ⟨⟨_, Try.func40, by kernel_rfl, by kernel_rfl⟩⟩
instance : Fun Try.prog 41 := ⟨⟨_, Try.func41, by kernel_rfl, by kernel_rfl⟩⟩
instance : Fun Try.prog 42 := ⟨⟨_, Try.func42, by kernel_rfl, by kernel_rfl⟩⟩
instance : Fun Try.prog 43 := ⟨⟨_, Try.func43, by kernel_rfl, by kernel_rfl⟩⟩
instance : Fun Try.prog 44 := ⟨⟨_, Try.func44, by kernel_rfl, by kernel_rfl⟩⟩
instance : Fun Try.prog 45 := ⟨⟨_, Try.func45, by kernel_rfl, by kernel_rfl⟩⟩
instance : Fun Try.prog 46 := ⟨⟨_, Try.func46, by kernel_rfl, by kernel_rfl⟩⟩
instance : Fun Try.prog 47 := ⟨⟨_, Try.func47, by kernel_rfl, by kernel_rfl⟩⟩
instance : Fun Try.prog 48 := ⟨⟨_, Try.func48, by kernel_rfl, by kernel_rfl⟩⟩
instance : Fun Try.prog 49 := ⟨⟨_, Try.func49, by kernel_rfl, by kernel_rfl⟩⟩
instance : Fun Try.prog 50 := ⟨⟨_, Try.func50, by kernel_rfl, by kernel_rfl⟩⟩
instance : Fun Try.prog 51 := ⟨⟨_, Try.func51, by kernel_rfl, by kernel_rfl⟩⟩
instance : Fun Try.prog 52 := ⟨⟨_, Try.func52, by kernel_rfl, by kernel_rfl⟩⟩
instance : Fun Try.prog 53 := ⟨⟨_, Try.func53, by kernel_rfl, by kernel_rfl⟩⟩
instance : Fun Try.prog 54 := ⟨⟨_, Try.func54, by kernel_rfl, by kernel_rfl⟩⟩
instance : Fun Try.prog 55 := ⟨⟨_, Try.func55, by kernel_rfl, by kernel_rfl⟩⟩
instance : Fun Try.prog 56 := ⟨⟨_, Try.func56, by kernel_rfl, by kernel_rfl⟩⟩
instance : Fun Try.prog 57 := ⟨⟨_, Try.func57, by kernel_rfl, by kernel_rfl⟩⟩
instance : Fun Try.prog 58 := ⟨⟨_, Try.func58, by kernel_rfl, by kernel_rfl⟩⟩
instance : Fun Try.prog 59 := ⟨⟨_, Try.func59, by kernel_rfl, by kernel_rfl⟩⟩
instance : Fun Try.prog 60 := ⟨⟨_, Try.func60, by kernel_rfl, by kernel_rfl⟩⟩
instance : Fun Try.prog 61 := ⟨⟨_, Try.func61, by kernel_rfl, by kernel_rfl⟩⟩
instance : Fun Try.prog 62 := ⟨⟨_, Try.func62, by kernel_rfl, by kernel_rfl⟩⟩
instance : Fun Try.prog 63 := ⟨⟨_, Try.func63, by kernel_rfl, by kernel_rfl⟩⟩
instance : Fun Try.prog 64 := ⟨⟨_, Try.func64, by kernel_rfl, by kernel_rfl⟩⟩
instance : Fun Try.prog 65 := ⟨⟨_, Try.func65, by kernel_rfl, by kernel_rfl⟩⟩
instance : Fun Try.prog 66 := ⟨⟨_, Try.func66, by kernel_rfl, by kernel_rfl⟩⟩
instance : Fun Try.prog 67 := ⟨⟨_, Try.func67, by kernel_rfl, by kernel_rfl⟩⟩
instance : Fun Try.prog 68 := ⟨⟨_, Try.func68, by kernel_rfl, by kernel_rfl⟩⟩
instance : Fun Try.prog 69 := ⟨⟨_, Try.func69, by kernel_rfl, by kernel_rfl⟩⟩
instance : Fun Try.prog 70 := ⟨⟨_, Try.func70, by kernel_rfl, by kernel_rfl⟩⟩
instance : Fun Try.prog 71 := ⟨⟨_, Try.func71, by kernel_rfl, by kernel_rfl⟩⟩
instance : Fun Try.prog 74 := ⟨⟨_, Try.func74, by kernel_rfl, by kernel_rfl⟩⟩
instance : Fun Try.prog 75 := ⟨⟨_, Try.func75, by kernel_rfl, by kernel_rfl⟩⟩
instance : Fun Try.prog 76 := ⟨⟨_, Try.func76, by kernel_rfl, by kernel_rfl⟩⟩
instance : Fun Try.prog 77 := ⟨⟨_, Try.func77, by kernel_rfl, by kernel_rfl⟩⟩
instance : Fun Try.prog 78 := ⟨⟨_, Try.func78, by kernel_rfl, by kernel_rfl⟩⟩
end Go.Proofs.Ytcllddkhnbnigaa
