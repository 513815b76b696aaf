/-
  WHAT THE PROGRAM's TABLES SAY of each type and each function, as instances. No condition.
-/
import Derived.Test.YtmceappjldcbmaaGreatDoorKit9
namespace Go.Proofs.YtmceappjldcbmaaGreatDoor
open Go.RowKit

instance : Und Tryz.prog 3 (TypeDesc.int IntKind.i64) := ⟨Tryz.underlying3⟩
instance : Sca Tryz.prog 3 := ⟨by kernel_rfl⟩
instance : Inf Tryz.prog 3 1 8 [.int .i64 0] := ⟨by kernel_rfl⟩
instance : Sca Tryz.prog 4 := ⟨by kernel_rfl⟩
instance : Inf Tryz.prog 4 1 1 [.bool false] := ⟨by kernel_rfl⟩
instance : Und Tryz.prog 5 (TypeDesc.int IntKind.u8) := ⟨Tryz.underlying5⟩
instance : Sca Tryz.prog 5 := ⟨by kernel_rfl⟩
instance : Inf Tryz.prog 5 1 1 [.int .u8 0] := ⟨by kernel_rfl⟩
instance : Und Tryz.prog 9 (TypeDesc.string) := ⟨Tryz.underlying9⟩
instance : Sca Tryz.prog 9 := ⟨by kernel_rfl⟩
instance : Inf Tryz.prog 9 1 16 [.string ByteArray.empty] := ⟨by kernel_rfl⟩
instance : Und Tryz.prog 21 (TypeDesc.int IntKind.i32) := ⟨Tryz.underlying21⟩
instance : Und Tryz.prog 22 (TypeDesc.slice 3) := ⟨Tryz.underlying22⟩
instance : Und Tryz.prog 23 (TypeDesc.slice 5) := ⟨Tryz.underlying23⟩
instance : Sca Tryz.prog 23 := ⟨by kernel_rfl⟩
instance : Inf Tryz.prog 23 1 24 [.slice none 0 0] := ⟨by kernel_rfl⟩
instance : Und Tryz.prog 26 (TypeDesc.slice 39) := ⟨Tryz.underlying26⟩
instance : Und Tryz.prog 28 (TypeDesc.slice 34) := ⟨Tryz.underlying28⟩
instance : Sca Tryz.prog 29 := ⟨by kernel_rfl⟩
instance : Inf Tryz.prog 29 1 8 [.int .i64 0] := ⟨by kernel_rfl⟩
instance : Und Tryz.prog 32 (TypeDesc.slice 37) := ⟨Tryz.underlying32⟩
instance : Sca Tryz.prog 32 := ⟨by kernel_rfl⟩
instance : Inf Tryz.prog 32 1 24 [.slice none 0 0] := ⟨by kernel_rfl⟩
instance : Agg Tryz.prog 34 := ⟨by kernel_rfl⟩
instance : Inf Tryz.prog 34 4 64 [.int .i64 0, .slice none 0 0, .bool false, .slice none 0 0] := ⟨by kernel_rfl⟩
instance : Lay Tryz.prog 34 [(0, 1), (1, 1), (2, 1), (3, 1)] := ⟨⟨_, Tryz.underlying34, fun w => by kernel_rfl⟩⟩
instance : Fld Tryz.prog 34 0 0 29 := ⟨⟨_, _, Tryz.underlying34, rfl, rfl, rfl⟩⟩
instance : Fld Tryz.prog 34 1 1 32 := ⟨⟨_, _, Tryz.underlying34, rfl, rfl, rfl⟩⟩
instance : Fld Tryz.prog 34 2 2 4 := ⟨⟨_, _, Tryz.underlying34, rfl, rfl, rfl⟩⟩
instance : Fld Tryz.prog 34 3 3 23 := ⟨⟨_, _, Tryz.underlying34, rfl, rfl, rfl⟩⟩
instance : Und Tryz.prog 35 (TypeDesc.slice 47) := ⟨Tryz.underlying35⟩
instance : Agg Tryz.prog 37 := ⟨by kernel_rfl⟩
instance : Inf Tryz.prog 37 2 16 [.int .i64 0, .int .i64 0] := ⟨by kernel_rfl⟩
instance : Lay Tryz.prog 37 [(0, 1), (1, 1)] := ⟨⟨_, Tryz.underlying37, fun w => by kernel_rfl⟩⟩
instance : SEq Tryz.prog 37 [(0, 0), (1, 0)] := ⟨by kernel_rfl, by kernel_rfl, by kernel_rfl, by kernel_rfl, by kernel_rfl⟩
instance : Fld Tryz.prog 37 0 0 3 := ⟨⟨_, _, Tryz.underlying37, rfl, rfl, rfl⟩⟩
instance : Fld Tryz.prog 37 1 1 3 := ⟨⟨_, _, Tryz.underlying37, rfl, rfl, rfl⟩⟩
instance : Agg Tryz.prog 39 := ⟨by kernel_rfl⟩
instance : Inf Tryz.prog 39 9 104 [.int .i64 0, .int .i64 0, .string ByteArray.empty, .string ByteArray.empty, .int .i64 0, .int .i64 0, .int .i64 0, .int .i64 0, .slice none 0 0] := ⟨by kernel_rfl⟩
instance : Lay Tryz.prog 39 [(0, 1), (1, 1), (2, 1), (3, 1), (4, 1), (5, 1), (6, 1), (7, 1), (8, 1)] := ⟨⟨_, Tryz.underlying39, fun w => by kernel_rfl⟩⟩
instance : Fld Tryz.prog 39 0 0 3 := ⟨⟨_, _, Tryz.underlying39, rfl, rfl, rfl⟩⟩
instance : Fld Tryz.prog 39 1 1 3 := ⟨⟨_, _, Tryz.underlying39, rfl, rfl, rfl⟩⟩
instance : Fld Tryz.prog 39 2 2 9 := ⟨⟨_, _, Tryz.underlying39, rfl, rfl, rfl⟩⟩
instance : Fld Tryz.prog 39 3 3 9 := ⟨⟨_, _, Tryz.underlying39, rfl, rfl, rfl⟩⟩
instance : Fld Tryz.prog 39 4 4 3 := ⟨⟨_, _, Tryz.underlying39, rfl, rfl, rfl⟩⟩
instance : Fld Tryz.prog 39 5 5 3 := ⟨⟨_, _, Tryz.underlying39, rfl, rfl, rfl⟩⟩
instance : Fld Tryz.prog 39 6 6 3 := ⟨⟨_, _, Tryz.underlying39, rfl, rfl, rfl⟩⟩
instance : Fld Tryz.prog 39 7 7 3 := ⟨⟨_, _, Tryz.underlying39, rfl, rfl, rfl⟩⟩
instance : Fld Tryz.prog 39 8 8 23 := ⟨⟨_, _, Tryz.underlying39, rfl, rfl, rfl⟩⟩
instance : Und Tryz.prog 40 (TypeDesc.slice 45) := ⟨Tryz.underlying40⟩
instance : Und Tryz.prog 43 (TypeDesc.slice 9) := ⟨Tryz.underlying43⟩
instance : Sca Tryz.prog 43 := ⟨by kernel_rfl⟩
instance : Inf Tryz.prog 43 1 24 [.slice none 0 0] := ⟨by kernel_rfl⟩
instance : Agg Tryz.prog 45 := ⟨by kernel_rfl⟩
instance : Inf Tryz.prog 45 7 88 [.int .i64 0, .int .i64 0, .int .i64 0, .int .i64 0, .int .i64 0, .slice none 0 0, .slice none 0 0] := ⟨by kernel_rfl⟩
instance : Lay Tryz.prog 45 [(0, 1), (1, 1), (2, 1), (3, 1), (4, 1), (5, 1), (6, 1)] := ⟨⟨_, Tryz.underlying45, fun w => by kernel_rfl⟩⟩
instance : Fld Tryz.prog 45 0 0 3 := ⟨⟨_, _, Tryz.underlying45, rfl, rfl, rfl⟩⟩
instance : Fld Tryz.prog 45 1 1 29 := ⟨⟨_, _, Tryz.underlying45, rfl, rfl, rfl⟩⟩
instance : Fld Tryz.prog 45 5 5 23 := ⟨⟨_, _, Tryz.underlying45, rfl, rfl, rfl⟩⟩
instance : Agg Tryz.prog 47 := ⟨by kernel_rfl⟩
instance : Inf Tryz.prog 47 3 40 [.int .i64 0, .int .i64 0, .slice none 0 0] := ⟨by kernel_rfl⟩
instance : Lay Tryz.prog 47 [(0, 1), (1, 1), (2, 1)] := ⟨⟨_, Tryz.underlying47, fun w => by kernel_rfl⟩⟩
instance : Fld Tryz.prog 47 0 0 3 := ⟨⟨_, _, Tryz.underlying47, rfl, rfl, rfl⟩⟩
instance : Fld Tryz.prog 47 1 1 3 := ⟨⟨_, _, Tryz.underlying47, rfl, rfl, rfl⟩⟩
instance : Fld Tryz.prog 47 2 2 23 := ⟨⟨_, _, Tryz.underlying47, rfl, rfl, rfl⟩⟩
instance : Sca Tryz.prog 50 := ⟨by kernel_rfl⟩
instance : Inf Tryz.prog 52 4 64 [.slice none 0 0, .int .i64 0, .int .i64 0, .slice none 0 0] := ⟨by kernel_rfl⟩
instance : Lay Tryz.prog 52 [(0, 1), (1, 1), (2, 1), (3, 1)] := ⟨⟨_, Tryz.underlying52, fun w => by kernel_rfl⟩⟩
instance : Fld Tryz.prog 52 0 0 32 := ⟨⟨_, _, Tryz.underlying52, rfl, rfl, rfl⟩⟩
instance : Fld Tryz.prog 52 1 1 3 := ⟨⟨_, _, Tryz.underlying52, rfl, rfl, rfl⟩⟩
instance : Fld Tryz.prog 52 2 2 3 := ⟨⟨_, _, Tryz.underlying52, rfl, rfl, rfl⟩⟩
instance : Fld Tryz.prog 52 3 3 23 := ⟨⟨_, _, Tryz.underlying52, rfl, rfl, rfl⟩⟩
instance : Sca Tryz.prog 65 := ⟨by kernel_rfl⟩
instance : Inf Tryz.prog 65 1 8 [.pointer none] := ⟨by kernel_rfl⟩
instance : Inf Tryz.prog 68 4 40 [.int .i64 0, .bool false, .string ByteArray.empty, .int .i64 0] := ⟨by kernel_rfl⟩
instance : Lay Tryz.prog 68 [(0, 1), (1, 1), (2, 1), (3, 1)] := ⟨⟨_, Tryz.underlying68, fun w => by kernel_rfl⟩⟩
instance : Fld Tryz.prog 68 0 0 3 := ⟨⟨_, _, Tryz.underlying68, rfl, rfl, rfl⟩⟩
instance : Fld Tryz.prog 68 1 1 4 := ⟨⟨_, _, Tryz.underlying68, rfl, rfl, rfl⟩⟩
instance : Fld Tryz.prog 68 2 2 9 := ⟨⟨_, _, Tryz.underlying68, rfl, rfl, rfl⟩⟩
instance : Fld Tryz.prog 68 3 3 3 := ⟨⟨_, _, Tryz.underlying68, rfl, rfl, rfl⟩⟩
instance : Und Tryz.prog 69 (TypeDesc.array 8 68) := ⟨Tryz.underlying69⟩
instance : Inf Tryz.prog 69 32 320 [.int .i64 0, .bool false, .string ByteArray.empty, .int .i64 0, .int .i64 0, .bool false, .string ByteArray.empty, .int .i64 0, .int .i64 0, .bool false, .string ByteArray.empty, .int .i64 0, .int .i64 0, .bool false, .string ByteArray.empty, .int .i64 0, .int .i64 0, .bool false, .string ByteArray.empty, .int .i64 0, .int .i64 0, .bool false, .string ByteArray.empty, .int .i64 0, .int .i64 0, .bool false, .string ByteArray.empty, .int .i64 0, .int .i64 0, .bool false, .string ByteArray.empty, .int .i64 0] := ⟨by kernel_rfl⟩
instance : Inf Tryz.prog 71 33 328 [.pointer none, .int .i64 0, .bool false, .string ByteArray.empty, .int .i64 0, .int .i64 0, .bool false, .string ByteArray.empty, .int .i64 0, .int .i64 0, .bool false, .string ByteArray.empty, .int .i64 0, .int .i64 0, .bool false, .string ByteArray.empty, .int .i64 0, .int .i64 0, .bool false, .string ByteArray.empty, .int .i64 0, .int .i64 0, .bool false, .string ByteArray.empty, .int .i64 0, .int .i64 0, .bool false, .string ByteArray.empty, .int .i64 0, .int .i64 0, .bool false, .string ByteArray.empty, .int .i64 0] := ⟨by kernel_rfl⟩
instance : Lay Tryz.prog 71 [(0, 1), (1, 32)] := ⟨⟨_, Tryz.underlying71, fun w => by kernel_rfl⟩⟩
instance : Fld Tryz.prog 71 0 0 65 := ⟨⟨_, _, Tryz.underlying71, rfl, rfl, rfl⟩⟩
instance : Fld Tryz.prog 71 1 1 69 := ⟨⟨_, _, Tryz.underlying71, rfl, rfl, rfl⟩⟩
instance : Und Tryz.prog 73 (TypeDesc.pointer 76) := ⟨Tryz.underlying73⟩
instance : Sca Tryz.prog 73 := ⟨by kernel_rfl⟩
instance : Inf Tryz.prog 73 1 8 [.pointer none] := ⟨by kernel_rfl⟩
instance : Und Tryz.prog 74 (TypeDesc.map 9 100) := ⟨Tryz.underlying74⟩
instance : Sca Tryz.prog 74 := ⟨by kernel_rfl⟩
instance : Inf Tryz.prog 74 1 8 [.map none] := ⟨by kernel_rfl⟩
instance : Inf Tryz.prog 76 1 8 [.map none] := ⟨by kernel_rfl⟩
instance : Lay Tryz.prog 76 [(0, 1)] := ⟨⟨_, Tryz.underlying76, fun w => by kernel_rfl⟩⟩
instance : Fld Tryz.prog 76 0 0 74 := ⟨⟨_, _, Tryz.underlying76, rfl, rfl, rfl⟩⟩
instance : Inf Tryz.prog 78 2 16 [.pointer none, .int .i64 0] := ⟨by kernel_rfl⟩
instance : Lay Tryz.prog 78 [(0, 1), (1, 1)] := ⟨⟨_, Tryz.underlying78, fun w => by kernel_rfl⟩⟩
instance : Fld Tryz.prog 78 0 0 73 := ⟨⟨_, _, Tryz.underlying78, rfl, rfl, rfl⟩⟩
instance : Fld Tryz.prog 78 1 1 3 := ⟨⟨_, _, Tryz.underlying78, rfl, rfl, rfl⟩⟩
instance : Agg Tryz.prog 81 := ⟨by kernel_rfl⟩
instance : Inf Tryz.prog 81 5 72 [.int .i64 0, .int .i64 0, .int .i64 0, .slice none 0 0, .slice none 0 0] := ⟨by kernel_rfl⟩
instance : Lay Tryz.prog 81 [(0, 1), (1, 1), (2, 1), (3, 1), (4, 1)] := ⟨⟨_, Tryz.underlying81, fun w => by kernel_rfl⟩⟩
instance : Fld Tryz.prog 81 0 0 29 := ⟨⟨_, _, Tryz.underlying81, rfl, rfl, rfl⟩⟩
instance : Fld Tryz.prog 81 1 1 3 := ⟨⟨_, _, Tryz.underlying81, rfl, rfl, rfl⟩⟩
instance : Fld Tryz.prog 81 2 2 3 := ⟨⟨_, _, Tryz.underlying81, rfl, rfl, rfl⟩⟩
instance : Fld Tryz.prog 81 3 3 23 := ⟨⟨_, _, Tryz.underlying81, rfl, rfl, rfl⟩⟩
instance : Fld Tryz.prog 81 4 4 43 := ⟨⟨_, _, Tryz.underlying81, rfl, rfl, rfl⟩⟩
instance : Und Tryz.prog 83 (TypeDesc.array 11 3) := ⟨Tryz.underlying83⟩
instance : Agg Tryz.prog 85 := ⟨by kernel_rfl⟩
instance : Inf Tryz.prog 85 6 80 [.int .i64 0, .string ByteArray.empty, .string ByteArray.empty, .int .i64 0, .int .i64 0, .slice none 0 0] := ⟨by kernel_rfl⟩
instance : Lay Tryz.prog 85 [(0, 1), (1, 1), (2, 1), (3, 1), (4, 1), (5, 1)] := ⟨⟨_, Tryz.underlying85, fun w => by kernel_rfl⟩⟩
instance : Fld Tryz.prog 85 0 0 3 := ⟨⟨_, _, Tryz.underlying85, rfl, rfl, rfl⟩⟩
instance : Fld Tryz.prog 85 1 1 9 := ⟨⟨_, _, Tryz.underlying85, rfl, rfl, rfl⟩⟩
instance : Fld Tryz.prog 85 2 2 9 := ⟨⟨_, _, Tryz.underlying85, rfl, rfl, rfl⟩⟩
instance : Fld Tryz.prog 85 3 3 3 := ⟨⟨_, _, Tryz.underlying85, rfl, rfl, rfl⟩⟩
instance : Fld Tryz.prog 85 4 4 3 := ⟨⟨_, _, Tryz.underlying85, rfl, rfl, rfl⟩⟩
instance : Fld Tryz.prog 85 5 5 23 := ⟨⟨_, _, Tryz.underlying85, rfl, rfl, rfl⟩⟩
instance : Und Tryz.prog 91 (TypeDesc.pointer 93) := ⟨Tryz.underlying91⟩
instance : Inf Tryz.prog 93 1 24 [.slice none 0 0] := ⟨by kernel_rfl⟩
instance : Lay Tryz.prog 93 [(0, 1)] := ⟨⟨_, Tryz.underlying93, fun w => by kernel_rfl⟩⟩
instance : Fld Tryz.prog 93 0 0 23 := ⟨⟨_, _, Tryz.underlying93, rfl, rfl, rfl⟩⟩
instance : Und Tryz.prog 94 (TypeDesc.pointer 96) := ⟨Tryz.underlying94⟩
instance : Inf Tryz.prog 96 1 16 [.string ByteArray.empty] := ⟨by kernel_rfl⟩
instance : Lay Tryz.prog 96 [(0, 1)] := ⟨⟨_, Tryz.underlying96, fun w => by kernel_rfl⟩⟩
instance : Fld Tryz.prog 96 0 0 9 := ⟨⟨_, _, Tryz.underlying96, rfl, rfl, rfl⟩⟩
instance : Und Tryz.prog 114 (TypeDesc.pointer 43) := ⟨Tryz.underlying114⟩
instance : Und Tryz.prog 153 (TypeDesc.array 256 4) := ⟨Tryz.underlying153⟩
instance : Agg Tryz.prog 153 := ⟨by kernel_rfl⟩
instance : Fun Tryz.prog 4 := ⟨⟨_, Tryz.func4, by kernel_rfl, by kernel_rfl⟩⟩
instance : Fun Tryz.prog 5 := ⟨⟨_, Tryz.func5, by kernel_rfl, by kernel_rfl⟩⟩
instance : Fun Tryz.prog 6 := ⟨⟨_, Tryz.func6, by kernel_rfl, by kernel_rfl⟩⟩
instance : Fun Tryz.prog 7 := ⟨⟨_, Tryz.func7, by kernel_rfl, by kernel_rfl⟩⟩
instance : Fun Tryz.prog 8 := ⟨⟨_, Tryz.func8, by kernel_rfl, by kernel_rfl⟩⟩
instance : Fun Tryz.prog 9 := ⟨⟨_, Tryz.func9, by kernel_rfl, by kernel_rfl⟩⟩
instance : Fun Tryz.prog 10 := ⟨⟨_, Tryz.func10, by kernel_rfl, by kernel_rfl⟩⟩
instance : Fun Tryz.prog 11 := ⟨⟨_, Tryz.func11, by kernel_rfl, by kernel_rfl⟩⟩
instance : Fun Tryz.prog 12 := ⟨⟨_, Tryz.func12, by kernel_rfl, by kernel_rfl⟩⟩
instance : Fun Tryz.prog 13 := ⟨⟨_, Tryz.func13, by kernel_rfl, by kernel_rfl⟩⟩
instance : Fun Tryz.prog 14 := ⟨⟨_, Tryz.func14, by kernel_rfl, by kernel_rfl⟩⟩
instance : Fun Tryz.prog 15 := ⟨⟨_, Tryz.func15, by kernel_rfl, by kernel_rfl⟩⟩
instance : Fun Tryz.prog 16 := ⟨⟨_, Tryz.func16, by kernel_rfl, by kernel_rfl⟩⟩
instance : Fun Tryz.prog 17 := ⟨⟨_, Tryz.func17, by kernel_rfl, by kernel_rfl⟩⟩
instance : Fun Tryz.prog 18 := ⟨⟨_, Tryz.func18, by kernel_rfl, by kernel_rfl⟩⟩
instance : Fun Tryz.prog 19 := ⟨⟨_, Tryz.func19, by kernel_rfl, by kernel_rfl⟩⟩
instance : Fun Tryz.prog 20 := ⟨⟨_, Tryz.func20, by kernel_rfl, by kernel_rfl⟩⟩
instance : Fun Tryz.prog 21 := ⟨⟨_, Tryz.func21, by kernel_rfl, by kernel_rfl⟩⟩
instance : Fun Tryz.prog 22 := ⟨⟨_, Tryz.func22, by kernel_rfl, by kernel_rfl⟩⟩
instance : Fun Tryz.prog 23 := ⟨⟨_, Tryz.func23, by kernel_rfl, by kernel_rfl⟩⟩
instance : Fun Tryz.prog 24 := ⟨⟨_, Tryz.func24, by kernel_rfl, by kernel_rfl⟩⟩
instance : Fun Tryz.prog 25 := ⟨⟨_, Tryz.func25, by kernel_rfl, by kernel_rfl⟩⟩
instance : Fun Tryz.prog 26 := ⟨⟨_, Tryz.func26, by kernel_rfl, by kernel_rfl⟩⟩
instance : Fun Tryz.prog 27 := ⟨⟨_, Tryz.func27, by kernel_rfl, by kernel_rfl⟩⟩
instance : Fun Tryz.prog 28 := ⟨⟨_, Tryz.func28, by kernel_rfl, by kernel_rfl⟩⟩
instance : Fun Tryz.prog 29 := ⟨⟨_, Tryz.func29, by kernel_rfl, by kernel_rfl⟩⟩
instance : Fun Tryz.prog 30 := ⟨⟨_, Tryz.func30, by kernel_rfl, by kernel_rfl⟩⟩
instance : Fun Tryz.prog 31 := ⟨⟨_, Tryz.func31, by kernel_rfl, by kernel_rfl⟩⟩
instance : Fun Tryz.prog 32 := ⟨⟨_, Tryz.func32, by kernel_rfl, by kernel_rfl⟩⟩
instance : Fun Tryz.prog 33 := ⟨⟨_, Tryz.func33, by kernel_rfl, by kernel_rfl⟩⟩
instance : Fun Tryz.prog 34 := ⟨⟨_, Tryz.func34, by kernel_rfl, by kernel_rfl⟩⟩
instance : Fun Tryz.prog 35 := ⟨⟨_, Tryz.func35, by kernel_rfl, by kernel_rfl⟩⟩
instance : Fun Tryz.prog 36 := ⟨⟨_, Tryz.func36, by kernel_rfl, by kernel_rfl⟩⟩
instance : Fun Tryz.prog 37 := ⟨⟨_, Tryz.func37, by kernel_rfl, by kernel_rfl⟩⟩
instance : Fun Tryz.prog 38 := ⟨⟨_, Tryz.func38, by kernel_rfl, by kernel_rfl⟩⟩
instance : Fun Tryz.prog 39 := ⟨⟨_, Tryz.func39, by kernel_rfl, by kernel_rfl⟩⟩
instance : Fun Tryz.prog 40 := ⟨⟨_, Tryz.func40, by kernel_rfl, by kernel_rfl⟩⟩
instance : Fun Tryz.prog 41 := ⟨⟨_, Tryz.func41, by kernel_rfl, by kernel_rfl⟩⟩
instance : Fun Tryz.prog 42 := ⟨⟨_, Tryz.func42, by kernel_rfl, by kernel_rfl⟩⟩
instance : Fun Tryz.prog 43 := ⟨⟨_, Tryz.func43, by kernel_rfl, by kernel_rfl⟩⟩
instance : Fun Tryz.prog 44 := ⟨⟨_, Tryz.func44, by kernel_rfl, by kernel_rfl⟩⟩
instance : Fun Tryz.prog 45 := ⟨⟨_, Tryz.func45, by kernel_rfl, by kernel_rfl⟩⟩
instance : Fun Tryz.prog 46 := ⟨⟨_, Tryz.func46, by kernel_rfl, by kernel_rfl⟩⟩
instance : Fun Tryz.prog 47 := ⟨⟨_, Tryz.func47, by kernel_rfl, by kernel_rfl⟩⟩
instance : Fun Tryz.prog 48 := ⟨⟨_, Tryz.func48, by kernel_rfl, by kernel_rfl⟩⟩
instance : Fun Tryz.prog 49 := ⟨⟨_, Tryz.func49, by kernel_rfl, by kernel_rfl⟩⟩
instance : Fun Tryz.prog 53 := ⟨⟨_, Tryz.func53, by kernel_rfl, by kernel_rfl⟩⟩
instance : Fun Tryz.prog 54 := ⟨⟨_, Tryz.func54, by kernel_rfl, by kernel_rfl⟩⟩
instance : Fun Tryz.prog 55 := ⟨⟨_, Tryz.func55, by kernel_rfl, by kernel_rfl⟩⟩
instance : Fun Tryz.prog 56 := ⟨⟨_, Tryz.func56, by kernel_rfl, by kernel_rfl⟩⟩
instance : Fun Tryz.prog 57 := ⟨⟨_, Tryz.func57, by kernel_rfl, by kernel_rfl⟩⟩
instance : Fun Tryz.prog 58 := ⟨⟨_, Tryz.func58, by kernel_rfl, by kernel_rfl⟩⟩
instance : Fun Tryz.prog 62 := ⟨⟨_, Tryz.func62, by kernel_rfl, by kernel_rfl⟩⟩
instance : Fun Tryz.prog 64 := ⟨⟨_, Tryz.func64, by kernel_rfl, by kernel_rfl⟩⟩
instance : Fun Tryz.prog 65 := ⟨⟨_, Tryz.func65, by kernel_rfl, by kernel_rfl⟩⟩
instance : Fun Tryz.prog 66 := ⟨⟨_, Tryz.func66, by kernel_rfl, by kernel_rfl⟩⟩
instance : Fun Tryz.prog 67 := ⟨⟨_, Tryz.func67, by kernel_rfl, by kernel_rfl⟩⟩
instance : Fun Tryz.prog 68 := ⟨⟨_, Tryz.func68, by kernel_rfl, by kernel_rfl⟩⟩
instance : Fun Tryz.prog 81 := ⟨⟨_, Tryz.func81, by kernel_rfl, by kernel_rfl⟩⟩
instance : Fun Tryz.prog 82 := ⟨⟨_, Tryz.func82, by kernel_rfl, by kernel_rfl⟩⟩
instance : Fun Tryz.prog 83 := ⟨⟨_, Tryz.func83, by kernel_rfl, by kernel_rfl⟩⟩
instance : Fun Tryz.prog 84 := ⟨⟨_, Tryz.func84, by kernel_rfl, by kernel_rfl⟩⟩
instance : Fun Tryz.prog 85 := ⟨⟨_, Tryz.func85, by kernel_rfl, by kernel_rfl⟩⟩
instance : Fun Tryz.prog 86 := ⟨⟨_, Tryz.func86, by kernel_rfl, by kernel_rfl⟩⟩
instance : Fun Tryz.prog 93 := ⟨⟨_, Tryz.func93, by kernel_rfl, by kernel_rfl⟩⟩
instance : Fun Tryz.prog 97 := ⟨⟨_, Tryz.func97, by kernel_rfl, by kernel_rfl⟩⟩
instance : Fun Tryz.prog 98 := ⟨⟨_, Tryz.func98, by kernel_rfl, by kernel_rfl⟩⟩
end Go.Proofs.YtmceappjldcbmaaGreatDoor
