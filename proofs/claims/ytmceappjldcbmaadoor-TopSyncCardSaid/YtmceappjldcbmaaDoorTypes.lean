/-
  WHAT THE PROGRAM's TABLES SAY of each type and each function, as instances. No condition.
-/
import Derived.Test.YtmceappjldcbmaaDoorKit9
namespace Go.Proofs.YtmceappjldcbmaaDoor
open Go.RowKit

instance : Und Tryd.prog 3 (TypeDesc.int IntKind.i64) := ⟨Tryd.underlying3⟩
instance : Sca Tryd.prog 3 := ⟨by kernel_rfl⟩
instance : Inf Tryd.prog 3 1 8 [.int .i64 0] := ⟨by kernel_rfl⟩
instance : Sca Tryd.prog 4 := ⟨by kernel_rfl⟩
instance : Inf Tryd.prog 4 1 1 [.bool false] := ⟨by kernel_rfl⟩
instance : Und Tryd.prog 5 (TypeDesc.int IntKind.u8) := ⟨Tryd.underlying5⟩
instance : Sca Tryd.prog 5 := ⟨by kernel_rfl⟩
instance : Inf Tryd.prog 5 1 1 [.int .u8 0] := ⟨by kernel_rfl⟩
instance : Und Tryd.prog 9 (TypeDesc.string) := ⟨Tryd.underlying9⟩
instance : Sca Tryd.prog 9 := ⟨by kernel_rfl⟩
instance : Inf Tryd.prog 9 1 16 [.string ByteArray.empty] := ⟨by kernel_rfl⟩
instance : Und Tryd.prog 21 (TypeDesc.int IntKind.i32) := ⟨Tryd.underlying21⟩
instance : Und Tryd.prog 23 (TypeDesc.slice 30) := ⟨Tryd.underlying23⟩
instance : Und Tryd.prog 25 (TypeDesc.slice 35) := ⟨Tryd.underlying25⟩
instance : Und Tryd.prog 28 (TypeDesc.slice 5) := ⟨Tryd.underlying28⟩
instance : Sca Tryd.prog 28 := ⟨by kernel_rfl⟩
instance : Inf Tryd.prog 28 1 24 [.slice none 0 0] := ⟨by kernel_rfl⟩
instance : Agg Tryd.prog 30 := ⟨by kernel_rfl⟩
instance : Inf Tryd.prog 30 9 104 [.int .i64 0, .int .i64 0, .string ByteArray.empty, .string ByteArray.empty, .int .i64 0, .int .i64 0, .int .i64 0, .int .i64 0, .slice none 0 0] := ⟨by kernel_rfl⟩
instance : Lay Tryd.prog 30 [(0, 1), (1, 1), (2, 1), (3, 1), (4, 1), (5, 1), (6, 1), (7, 1), (8, 1)] := ⟨⟨_, Tryd.underlying30, fun w => by kernel_rfl⟩⟩
instance : Fld Tryd.prog 30 0 0 3 := ⟨⟨_, _, Tryd.underlying30, rfl, rfl, rfl⟩⟩
instance : Fld Tryd.prog 30 1 1 3 := ⟨⟨_, _, Tryd.underlying30, rfl, rfl, rfl⟩⟩
instance : Fld Tryd.prog 30 2 2 9 := ⟨⟨_, _, Tryd.underlying30, rfl, rfl, rfl⟩⟩
instance : Fld Tryd.prog 30 3 3 9 := ⟨⟨_, _, Tryd.underlying30, rfl, rfl, rfl⟩⟩
instance : Fld Tryd.prog 30 4 4 3 := ⟨⟨_, _, Tryd.underlying30, rfl, rfl, rfl⟩⟩
instance : Fld Tryd.prog 30 5 5 3 := ⟨⟨_, _, Tryd.underlying30, rfl, rfl, rfl⟩⟩
instance : Fld Tryd.prog 30 6 6 3 := ⟨⟨_, _, Tryd.underlying30, rfl, rfl, rfl⟩⟩
instance : Fld Tryd.prog 30 7 7 3 := ⟨⟨_, _, Tryd.underlying30, rfl, rfl, rfl⟩⟩
instance : Fld Tryd.prog 30 8 8 28 := ⟨⟨_, _, Tryd.underlying30, rfl, rfl, rfl⟩⟩
instance : Sca Tryd.prog 32 := ⟨by kernel_rfl⟩
instance : Inf Tryd.prog 32 1 8 [.int .i64 0] := ⟨by kernel_rfl⟩
instance : Und Tryd.prog 33 (TypeDesc.slice 9) := ⟨Tryd.underlying33⟩
instance : Sca Tryd.prog 33 := ⟨by kernel_rfl⟩
instance : Inf Tryd.prog 33 1 24 [.slice none 0 0] := ⟨by kernel_rfl⟩
instance : Agg Tryd.prog 35 := ⟨by kernel_rfl⟩
instance : Inf Tryd.prog 35 7 88 [.int .i64 0, .int .i64 0, .int .i64 0, .int .i64 0, .int .i64 0, .slice none 0 0, .slice none 0 0] := ⟨by kernel_rfl⟩
instance : Lay Tryd.prog 35 [(0, 1), (1, 1), (2, 1), (3, 1), (4, 1), (5, 1), (6, 1)] := ⟨⟨_, Tryd.underlying35, fun w => by kernel_rfl⟩⟩
instance : Fld Tryd.prog 35 0 0 3 := ⟨⟨_, _, Tryd.underlying35, rfl, rfl, rfl⟩⟩
instance : Fld Tryd.prog 35 1 1 32 := ⟨⟨_, _, Tryd.underlying35, rfl, rfl, rfl⟩⟩
instance : Fld Tryd.prog 35 4 4 3 := ⟨⟨_, _, Tryd.underlying35, rfl, rfl, rfl⟩⟩
instance : Fld Tryd.prog 35 5 5 28 := ⟨⟨_, _, Tryd.underlying35, rfl, rfl, rfl⟩⟩
instance : Und Tryd.prog 41 (TypeDesc.slice 3) := ⟨Tryd.underlying41⟩
instance : Und Tryd.prog 43 (TypeDesc.slice 60) := ⟨Tryd.underlying43⟩
instance : Und Tryd.prog 57 (TypeDesc.map 9 41) := ⟨Tryd.underlying57⟩
instance : Agg Tryd.prog 60 := ⟨by kernel_rfl⟩
instance : Inf Tryd.prog 60 4 48 [.bool false, .int .i64 0, .int .i64 0, .slice none 0 0] := ⟨by kernel_rfl⟩
instance : Lay Tryd.prog 60 [(0, 1), (1, 1), (2, 1), (3, 1)] := ⟨⟨_, Tryd.underlying60, fun w => by kernel_rfl⟩⟩
instance : Fld Tryd.prog 60 0 0 4 := ⟨⟨_, _, Tryd.underlying60, rfl, rfl, rfl⟩⟩
instance : Fld Tryd.prog 60 1 1 3 := ⟨⟨_, _, Tryd.underlying60, rfl, rfl, rfl⟩⟩
instance : Fld Tryd.prog 60 2 2 3 := ⟨⟨_, _, Tryd.underlying60, rfl, rfl, rfl⟩⟩
instance : Fld Tryd.prog 60 3 3 28 := ⟨⟨_, _, Tryd.underlying60, rfl, rfl, rfl⟩⟩
instance : Sca Tryd.prog 68 := ⟨by kernel_rfl⟩
instance : Inf Tryd.prog 68 1 8 [.pointer none] := ⟨by kernel_rfl⟩
instance : Inf Tryd.prog 71 4 40 [.int .i64 0, .bool false, .string ByteArray.empty, .int .i64 0] := ⟨by kernel_rfl⟩
instance : Lay Tryd.prog 71 [(0, 1), (1, 1), (2, 1), (3, 1)] := ⟨⟨_, Tryd.underlying71, fun w => by kernel_rfl⟩⟩
instance : Fld Tryd.prog 71 0 0 3 := ⟨⟨_, _, Tryd.underlying71, rfl, rfl, rfl⟩⟩
instance : Fld Tryd.prog 71 1 1 4 := ⟨⟨_, _, Tryd.underlying71, rfl, rfl, rfl⟩⟩
instance : Fld Tryd.prog 71 2 2 9 := ⟨⟨_, _, Tryd.underlying71, rfl, rfl, rfl⟩⟩
instance : Fld Tryd.prog 71 3 3 3 := ⟨⟨_, _, Tryd.underlying71, rfl, rfl, rfl⟩⟩
instance : Und Tryd.prog 72 (TypeDesc.array 8 71) := ⟨Tryd.underlying72⟩
instance : Inf Tryd.prog 72 32 320 [.int .i64 0, .bool false, .string ByteArray.empty, .int .i64 0, .int .i64 0, .bool false, .string ByteArray.empty, .int .i64 0, .int .i64 0, .bool false, .string ByteArray.empty, .int .i64 0, .int .i64 0, .bool false, .string ByteArray.empty, .int .i64 0, .int .i64 0, .bool false, .string ByteArray.empty, .int .i64 0, .int .i64 0, .bool false, .string ByteArray.empty, .int .i64 0, .int .i64 0, .bool false, .string ByteArray.empty, .int .i64 0, .int .i64 0, .bool false, .string ByteArray.empty, .int .i64 0] := ⟨by kernel_rfl⟩
instance : Inf Tryd.prog 74 33 328 [.pointer none, .int .i64 0, .bool false, .string ByteArray.empty, .int .i64 0, .int .i64 0, .bool false, .string ByteArray.empty, .int .i64 0, .int .i64 0, .bool false, .string ByteArray.empty, .int .i64 0, .int .i64 0, .bool false, .string ByteArray.empty, .int .i64 0, .int .i64 0, .bool false, .string ByteArray.empty, .int .i64 0, .int .i64 0, .bool false, .string ByteArray.empty, .int .i64 0, .int .i64 0, .bool false, .string ByteArray.empty, .int .i64 0, .int .i64 0, .bool false, .string ByteArray.empty, .int .i64 0] := ⟨by kernel_rfl⟩
instance : Lay Tryd.prog 74 [(0, 1), (1, 32)] := ⟨⟨_, Tryd.underlying74, fun w => by kernel_rfl⟩⟩
instance : Fld Tryd.prog 74 0 0 68 := ⟨⟨_, _, Tryd.underlying74, rfl, rfl, rfl⟩⟩
instance : Fld Tryd.prog 74 1 1 72 := ⟨⟨_, _, Tryd.underlying74, rfl, rfl, rfl⟩⟩
instance : Und Tryd.prog 75 (TypeDesc.pointer 78) := ⟨Tryd.underlying75⟩
instance : Sca Tryd.prog 75 := ⟨by kernel_rfl⟩
instance : Inf Tryd.prog 75 1 8 [.pointer none] := ⟨by kernel_rfl⟩
instance : Und Tryd.prog 76 (TypeDesc.map 9 102) := ⟨Tryd.underlying76⟩
instance : Sca Tryd.prog 76 := ⟨by kernel_rfl⟩
instance : Inf Tryd.prog 76 1 8 [.map none] := ⟨by kernel_rfl⟩
instance : Inf Tryd.prog 78 1 8 [.map none] := ⟨by kernel_rfl⟩
instance : Lay Tryd.prog 78 [(0, 1)] := ⟨⟨_, Tryd.underlying78, fun w => by kernel_rfl⟩⟩
instance : Fld Tryd.prog 78 0 0 76 := ⟨⟨_, _, Tryd.underlying78, rfl, rfl, rfl⟩⟩
instance : Inf Tryd.prog 80 2 16 [.pointer none, .int .i64 0] := ⟨by kernel_rfl⟩
instance : Lay Tryd.prog 80 [(0, 1), (1, 1)] := ⟨⟨_, Tryd.underlying80, fun w => by kernel_rfl⟩⟩
instance : Fld Tryd.prog 80 0 0 75 := ⟨⟨_, _, Tryd.underlying80, rfl, rfl, rfl⟩⟩
instance : Fld Tryd.prog 80 1 1 3 := ⟨⟨_, _, Tryd.underlying80, rfl, rfl, rfl⟩⟩
instance : Agg Tryd.prog 83 := ⟨by kernel_rfl⟩
instance : Inf Tryd.prog 83 5 72 [.int .i64 0, .int .i64 0, .int .i64 0, .slice none 0 0, .slice none 0 0] := ⟨by kernel_rfl⟩
instance : Lay Tryd.prog 83 [(0, 1), (1, 1), (2, 1), (3, 1), (4, 1)] := ⟨⟨_, Tryd.underlying83, fun w => by kernel_rfl⟩⟩
instance : Fld Tryd.prog 83 0 0 32 := ⟨⟨_, _, Tryd.underlying83, rfl, rfl, rfl⟩⟩
instance : Fld Tryd.prog 83 1 1 3 := ⟨⟨_, _, Tryd.underlying83, rfl, rfl, rfl⟩⟩
instance : Fld Tryd.prog 83 2 2 3 := ⟨⟨_, _, Tryd.underlying83, rfl, rfl, rfl⟩⟩
instance : Fld Tryd.prog 83 3 3 28 := ⟨⟨_, _, Tryd.underlying83, rfl, rfl, rfl⟩⟩
instance : Fld Tryd.prog 83 4 4 33 := ⟨⟨_, _, Tryd.underlying83, rfl, rfl, rfl⟩⟩
instance : Und Tryd.prog 85 (TypeDesc.array 11 3) := ⟨Tryd.underlying85⟩
instance : Agg Tryd.prog 87 := ⟨by kernel_rfl⟩
instance : Inf Tryd.prog 87 6 80 [.int .i64 0, .string ByteArray.empty, .string ByteArray.empty, .int .i64 0, .int .i64 0, .slice none 0 0] := ⟨by kernel_rfl⟩
instance : Lay Tryd.prog 87 [(0, 1), (1, 1), (2, 1), (3, 1), (4, 1), (5, 1)] := ⟨⟨_, Tryd.underlying87, fun w => by kernel_rfl⟩⟩
instance : Fld Tryd.prog 87 0 0 3 := ⟨⟨_, _, Tryd.underlying87, rfl, rfl, rfl⟩⟩
instance : Fld Tryd.prog 87 1 1 9 := ⟨⟨_, _, Tryd.underlying87, rfl, rfl, rfl⟩⟩
instance : Fld Tryd.prog 87 2 2 9 := ⟨⟨_, _, Tryd.underlying87, rfl, rfl, rfl⟩⟩
instance : Fld Tryd.prog 87 3 3 3 := ⟨⟨_, _, Tryd.underlying87, rfl, rfl, rfl⟩⟩
instance : Fld Tryd.prog 87 4 4 3 := ⟨⟨_, _, Tryd.underlying87, rfl, rfl, rfl⟩⟩
instance : Fld Tryd.prog 87 5 5 28 := ⟨⟨_, _, Tryd.underlying87, rfl, rfl, rfl⟩⟩
instance : Und Tryd.prog 93 (TypeDesc.pointer 95) := ⟨Tryd.underlying93⟩
instance : Inf Tryd.prog 95 1 24 [.slice none 0 0] := ⟨by kernel_rfl⟩
instance : Lay Tryd.prog 95 [(0, 1)] := ⟨⟨_, Tryd.underlying95, fun w => by kernel_rfl⟩⟩
instance : Fld Tryd.prog 95 0 0 28 := ⟨⟨_, _, Tryd.underlying95, rfl, rfl, rfl⟩⟩
instance : Und Tryd.prog 96 (TypeDesc.pointer 98) := ⟨Tryd.underlying96⟩
instance : Inf Tryd.prog 98 1 16 [.string ByteArray.empty] := ⟨by kernel_rfl⟩
instance : Lay Tryd.prog 98 [(0, 1)] := ⟨⟨_, Tryd.underlying98, fun w => by kernel_rfl⟩⟩
instance : Fld Tryd.prog 98 0 0 9 := ⟨⟨_, _, Tryd.underlying98, rfl, rfl, rfl⟩⟩
instance : Und Tryd.prog 116 (TypeDesc.pointer 33) := ⟨Tryd.underlying116⟩
instance : Und Tryd.prog 154 (TypeDesc.array 256 4) := ⟨Tryd.underlying154⟩
instance : Agg Tryd.prog 154 := ⟨by kernel_rfl⟩
instance : Fun Tryd.prog 9 := ⟨⟨_, Tryd.func9, by kernel_rfl, by kernel_rfl⟩⟩
instance : Fun Tryd.prog 11 := ⟨⟨_, Tryd.func11, by kernel_rfl, by kernel_rfl⟩⟩
instance : Fun Tryd.prog 13 := ⟨⟨_, Tryd.func13, by kernel_rfl, by kernel_rfl⟩⟩
instance : Fun Tryd.prog 14 := ⟨⟨_, Tryd.func14, by kernel_rfl, by kernel_rfl⟩⟩
instance : Fun Tryd.prog 15 := ⟨⟨_, Tryd.func15, by kernel_rfl, by kernel_rfl⟩⟩
instance : Fun Tryd.prog 16 := ⟨⟨_, Tryd.func16, by kernel_rfl, by kernel_rfl⟩⟩
instance : Fun Tryd.prog 17 := ⟨⟨_, Tryd.func17, by kernel_rfl, by kernel_rfl⟩⟩
instance : Fun Tryd.prog 18 := ⟨⟨_, Tryd.func18, by kernel_rfl, by kernel_rfl⟩⟩
instance : Fun Tryd.prog 21 := ⟨⟨_, Tryd.func21, by kernel_rfl, by kernel_rfl⟩⟩
instance : Fun Tryd.prog 22 := ⟨⟨_, Tryd.func22, by kernel_rfl, by kernel_rfl⟩⟩
instance : Fun Tryd.prog 23 := ⟨⟨_, Tryd.func23, by kernel_rfl, by kernel_rfl⟩⟩
instance : Fun Tryd.prog 24 := ⟨⟨_, Tryd.func24, by kernel_rfl, by kernel_rfl⟩⟩
instance : Fun Tryd.prog 25 := ⟨⟨_, Tryd.func25, by kernel_rfl, by kernel_rfl⟩⟩
instance : Fun Tryd.prog 27 := ⟨⟨_, Tryd.func27, by kernel_rfl, by kernel_rfl⟩⟩
instance : Fun Tryd.prog 28 := ⟨⟨_, Tryd.func28, by kernel_rfl, by kernel_rfl⟩⟩
instance : Fun Tryd.prog 29 := ⟨⟨_, Tryd.func29, by kernel_rfl, by kernel_rfl⟩⟩
instance : Fun Tryd.prog 30 := ⟨⟨_, Tryd.func30, by kernel_rfl, by kernel_rfl⟩⟩
instance : Fun Tryd.prog 31 := ⟨⟨_, Tryd.func31, by kernel_rfl, by kernel_rfl⟩⟩
instance : Fun Tryd.prog 32 := ⟨⟨_, Tryd.func32, by kernel_rfl, by kernel_rfl⟩⟩
instance : Fun Tryd.prog 33 := ⟨⟨_, Tryd.func33, by kernel_rfl, by kernel_rfl⟩⟩
instance : Fun Tryd.prog 34 := ⟨⟨_, Tryd.func34, by kernel_rfl, by kernel_rfl⟩⟩
instance : Fun Tryd.prog 35 := ⟨⟨_, Tryd.func35, by kernel_rfl, by kernel_rfl⟩⟩
instance : Fun Tryd.prog 36 := ⟨⟨_, Tryd.func36, by kernel_rfl, by kernel_rfl⟩⟩
instance : Fun Tryd.prog 37 := ⟨⟨_, Tryd.func37, by kernel_rfl, by kernel_rfl⟩⟩
instance : Fun Tryd.prog 38 := ⟨⟨_, Tryd.func38, by kernel_rfl, by kernel_rfl⟩⟩
instance : Fun Tryd.prog 39 := ⟨⟨_, Tryd.func39, by kernel_rfl, by kernel_rfl⟩⟩
instance : Fun Tryd.prog 40 := ⟨⟨_, Tryd.func40, by kernel_rfl, by kernel_rfl⟩⟩
instance : Fun Tryd.prog 41 := ⟨⟨_, Tryd.func41, by kernel_rfl, by kernel_rfl⟩⟩
instance : Fun Tryd.prog 42 := ⟨⟨_, Tryd.func42, by kernel_rfl, by kernel_rfl⟩⟩
instance : Fun Tryd.prog 43 := ⟨⟨_, Tryd.func43, by kernel_rfl, by kernel_rfl⟩⟩
instance : Fun Tryd.prog 44 := ⟨⟨_, Tryd.func44, by kernel_rfl, by kernel_rfl⟩⟩
instance : Fun Tryd.prog 45 := ⟨⟨_, Tryd.func45, by kernel_rfl, by kernel_rfl⟩⟩
instance : Fun Tryd.prog 46 := ⟨⟨_, Tryd.func46, by kernel_rfl, by kernel_rfl⟩⟩
instance : Fun Tryd.prog 47 := ⟨⟨_, Tryd.func47, by kernel_rfl, by kernel_rfl⟩⟩
instance : Fun Tryd.prog 48 := ⟨⟨_, Tryd.func48, by kernel_rfl, by kernel_rfl⟩⟩
instance : Fun Tryd.prog 49 := ⟨⟨_, Tryd.func49, by kernel_rfl, by kernel_rfl⟩⟩
instance : Fun Tryd.prog 50 := ⟨⟨_, Tryd.func50, by kernel_rfl, by kernel_rfl⟩⟩
instance : Fun Tryd.prog 51 := ⟨⟨_, Tryd.func51, by kernel_rfl, by kernel_rfl⟩⟩
instance : Fun Tryd.prog 52 := ⟨⟨_, Tryd.func52, by kernel_rfl, by kernel_rfl⟩⟩
instance : Fun Tryd.prog 53 := ⟨⟨_, Tryd.func53, by kernel_rfl, by kernel_rfl⟩⟩
instance : Fun Tryd.prog 54 := ⟨⟨_, Tryd.func54, by kernel_rfl, by kernel_rfl⟩⟩
instance : Fun Tryd.prog 55 := ⟨⟨_, Tryd.func55, by kernel_rfl, by kernel_rfl⟩⟩
instance : Fun Tryd.prog 59 := ⟨⟨_, Tryd.func59, by kernel_rfl, by kernel_rfl⟩⟩
instance : Fun Tryd.prog 60 := ⟨⟨_, Tryd.func60, by kernel_rfl, by kernel_rfl⟩⟩
instance : Fun Tryd.prog 61 := ⟨⟨_, Tryd.func61, by kernel_rfl, by kernel_rfl⟩⟩
instance : Fun Tryd.prog 62 := ⟨⟨_, Tryd.func62, by kernel_rfl, by kernel_rfl⟩⟩
instance : Fun Tryd.prog 63 := ⟨⟨_, Tryd.func63, by kernel_rfl, by kernel_rfl⟩⟩
instance : Fun Tryd.prog 64 := ⟨⟨_, Tryd.func64, by kernel_rfl, by kernel_rfl⟩⟩
instance : Fun Tryd.prog 68 := ⟨⟨_, Tryd.func68, by kernel_rfl, by kernel_rfl⟩⟩
instance : Fun Tryd.prog 70 := ⟨⟨_, Tryd.func70, by kernel_rfl, by kernel_rfl⟩⟩
instance : Fun Tryd.prog 71 := ⟨⟨_, Tryd.func71, by kernel_rfl, by kernel_rfl⟩⟩
instance : Fun Tryd.prog 72 := ⟨⟨_, Tryd.func72, by kernel_rfl, by kernel_rfl⟩⟩
instance : Fun Tryd.prog 73 := ⟨⟨_, Tryd.func73, by kernel_rfl, by kernel_rfl⟩⟩
instance : Fun Tryd.prog 74 := ⟨⟨_, Tryd.func74, by kernel_rfl, by kernel_rfl⟩⟩
instance : Fun Tryd.prog 87 := ⟨⟨_, Tryd.func87, by kernel_rfl, by kernel_rfl⟩⟩
instance : Fun Tryd.prog 88 := ⟨⟨_, Tryd.func88, by kernel_rfl, by kernel_rfl⟩⟩
instance : Fun Tryd.prog 89 := ⟨⟨_, Tryd.func89, by kernel_rfl, by kernel_rfl⟩⟩
instance : Fun Tryd.prog 90 := ⟨⟨_, Tryd.func90, by kernel_rfl, by kernel_rfl⟩⟩
instance : Fun Tryd.prog 91 := ⟨⟨_, Tryd.func91, by kernel_rfl, by kernel_rfl⟩⟩
instance : Fun Tryd.prog 92 := ⟨⟨_, Tryd.func92, by kernel_rfl, by kernel_rfl⟩⟩
instance : Fun Tryd.prog 99 := ⟨⟨_, Tryd.func99, by kernel_rfl, by kernel_rfl⟩⟩
instance : Fun Tryd.prog 103 := ⟨⟨_, Tryd.func103, by kernel_rfl, by kernel_rfl⟩⟩
instance : Fun Tryd.prog 104 := ⟨⟨_, Tryd.func104, by kernel_rfl, by kernel_rfl⟩⟩
end Go.Proofs.YtmceappjldcbmaaDoor
