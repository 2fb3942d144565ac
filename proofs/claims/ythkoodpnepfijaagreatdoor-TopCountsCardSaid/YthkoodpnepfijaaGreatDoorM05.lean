/-
  Steps towards TopCounts (no conditions of their own): What the walk knows of each type (printed by gen_vt.py).
-/
import Derived.Test.YthkoodpnepfijaaGreatDoorM04
/- VT: What the walk knows of each type (printed by gen_vt.py). -/
namespace Go.Proofs.YthkoodpnepfijaaGreatDoor
instance : FlT 1 := ⟨by kernel_rfl, by kernel_rfl⟩
instance : ZrT 1 [.nilFunc] := ⟨by kernel_rfl⟩
instance : ByT 1 8 := ⟨by kernel_rfl⟩
instance : FlT 2 := ⟨by kernel_rfl, by kernel_rfl⟩
instance : InT 2 .i64 := ⟨by kernel_rfl⟩
instance : ZrT 2 [.int .i64 0] := ⟨by kernel_rfl⟩
instance : ByT 2 8 := ⟨by kernel_rfl⟩
instance : FlT 3 := ⟨by kernel_rfl, by kernel_rfl⟩
instance : InT 3 .i64 := ⟨by kernel_rfl⟩
instance : ZrT 3 [.int .i64 0] := ⟨by kernel_rfl⟩
instance : ByT 3 8 := ⟨by kernel_rfl⟩
instance : FlT 4 := ⟨by kernel_rfl, by kernel_rfl⟩
instance : ZrT 4 [.bool false] := ⟨by kernel_rfl⟩
instance : ByT 4 1 := ⟨by kernel_rfl⟩
instance : FlT 5 := ⟨by kernel_rfl, by kernel_rfl⟩
instance : InT 5 .u8 := ⟨by kernel_rfl⟩
instance : ZrT 5 [.int .u8 0] := ⟨by kernel_rfl⟩
instance : ByT 5 1 := ⟨by kernel_rfl⟩
instance : FlT 6 := ⟨by kernel_rfl, by kernel_rfl⟩
instance : InT 6 .u8 := ⟨by kernel_rfl⟩
instance : ZrT 6 [.int .u8 0] := ⟨by kernel_rfl⟩
instance : ByT 6 1 := ⟨by kernel_rfl⟩
instance : AgT 7 4 := ⟨by kernel_rfl, by kernel_rfl⟩
instance : StT 7 [(0, 1), (1, 1), (2, 1), (3, 1)] := ⟨by kernel_rfl, by kernel_rfl⟩
instance : ZrT 7 [.int .i64 0, .int .i64 0, .bool false, .int .u8 0] := ⟨by kernel_rfl⟩
instance : ByT 7 24 := ⟨by kernel_rfl⟩
instance : AgT 8 4 := ⟨by kernel_rfl, by kernel_rfl⟩
instance : StT 8 [(0, 1), (1, 1), (2, 1), (3, 1)] := ⟨by kernel_rfl, by kernel_rfl⟩
instance : ZrT 8 [.int .i64 0, .int .i64 0, .bool false, .int .u8 0] := ⟨by kernel_rfl⟩
instance : ByT 8 24 := ⟨by kernel_rfl⟩
instance : FlT 9 := ⟨by kernel_rfl, by kernel_rfl⟩
instance : ByT 9 16 := ⟨by kernel_rfl⟩
instance : FlT 10 := ⟨by kernel_rfl, by kernel_rfl⟩
instance : ByT 10 16 := ⟨by kernel_rfl⟩
instance : FlT 11 := ⟨by kernel_rfl, by kernel_rfl⟩
instance : ByT 11 16 := ⟨by kernel_rfl⟩
instance : FlT 12 := ⟨by kernel_rfl, by kernel_rfl⟩
instance : InT 12 .u64 := ⟨by kernel_rfl⟩
instance : ZrT 12 [.int .u64 0] := ⟨by kernel_rfl⟩
instance : ByT 12 8 := ⟨by kernel_rfl⟩
instance : AgT 13 2 := ⟨by kernel_rfl, by kernel_rfl⟩
instance : StT 13 [(0, 1), (1, 1)] := ⟨by kernel_rfl, by kernel_rfl⟩
instance : ByT 13 24 := ⟨by kernel_rfl⟩
instance : AgT 14 2 := ⟨by kernel_rfl, by kernel_rfl⟩
instance : StT 14 [(0, 1), (1, 1)] := ⟨by kernel_rfl, by kernel_rfl⟩
instance : ByT 14 24 := ⟨by kernel_rfl⟩
instance : FlT 15 := ⟨by kernel_rfl, by kernel_rfl⟩
instance : ZrT 15 [.pointer none] := ⟨by kernel_rfl⟩
instance : ByT 15 8 := ⟨by kernel_rfl⟩
instance : FlT 16 := ⟨by kernel_rfl, by kernel_rfl⟩
instance : ZrT 16 [.pointer none] := ⟨by kernel_rfl⟩
instance : ByT 16 8 := ⟨by kernel_rfl⟩
instance : FlT 17 := ⟨by kernel_rfl, by kernel_rfl⟩
instance : ZrT 17 [.pointer none] := ⟨by kernel_rfl⟩
instance : ByT 17 8 := ⟨by kernel_rfl⟩
instance : AgT 18 1 := ⟨by kernel_rfl, by kernel_rfl⟩
instance : StT 18 [(0, 1)] := ⟨by kernel_rfl, by kernel_rfl⟩
instance : ZrT 18 [.pointer none] := ⟨by kernel_rfl⟩
instance : ByT 18 8 := ⟨by kernel_rfl⟩
instance : AgT 19 1 := ⟨by kernel_rfl, by kernel_rfl⟩
instance : StT 19 [(0, 1)] := ⟨by kernel_rfl, by kernel_rfl⟩
instance : ZrT 19 [.pointer none] := ⟨by kernel_rfl⟩
instance : ByT 19 8 := ⟨by kernel_rfl⟩
instance : FlT 20 := ⟨by kernel_rfl, by kernel_rfl⟩
instance : ZrT 20 [.nilIface] := ⟨by kernel_rfl⟩
instance : ByT 20 16 := ⟨by kernel_rfl⟩
instance : FlT 21 := ⟨by kernel_rfl, by kernel_rfl⟩
instance : InT 21 .i32 := ⟨by kernel_rfl⟩
instance : ZrT 21 [.int .i32 0] := ⟨by kernel_rfl⟩
instance : ByT 21 4 := ⟨by kernel_rfl⟩
instance : SlT 22 75 2 := ⟨by kernel_rfl, by kernel_rfl⟩
instance : FlT 22 := ⟨by kernel_rfl, by kernel_rfl⟩
instance : ZrT 22 [.slice none 0 0] := ⟨by kernel_rfl⟩
instance : ByT 22 24 := ⟨by kernel_rfl⟩
instance : FlT 23 := ⟨by kernel_rfl, by kernel_rfl⟩
instance : ZrT 23 [.nilFunc] := ⟨by kernel_rfl⟩
instance : ByT 23 8 := ⟨by kernel_rfl⟩
instance : SlT 24 119 5 := ⟨by kernel_rfl, by kernel_rfl⟩
instance : FlT 24 := ⟨by kernel_rfl, by kernel_rfl⟩
instance : ZrT 24 [.slice none 0 0] := ⟨by kernel_rfl⟩
instance : ByT 24 24 := ⟨by kernel_rfl⟩
instance : SlT 25 3 1 := ⟨by kernel_rfl, by kernel_rfl⟩
instance : FlT 25 := ⟨by kernel_rfl, by kernel_rfl⟩
instance : ZrT 25 [.slice none 0 0] := ⟨by kernel_rfl⟩
instance : ByT 25 24 := ⟨by kernel_rfl⟩
instance : AgT 26 4 := ⟨by kernel_rfl, by kernel_rfl⟩
instance : StT 26 [(0, 1), (1, 1), (2, 1), (3, 1)] := ⟨by kernel_rfl, by kernel_rfl⟩
instance : ZrT 26 [.int .i64 0, .int .i64 0, .slice none 0 0, .slice none 0 0] := ⟨by kernel_rfl⟩
instance : ByT 26 64 := ⟨by kernel_rfl⟩
instance : AgT 27 4 := ⟨by kernel_rfl, by kernel_rfl⟩
instance : FdT 27 0 0 3 := ⟨by kernel_rfl, by kernel_rfl⟩
instance : FdT 27 1 1 3 := ⟨by kernel_rfl, by kernel_rfl⟩
instance : FdT 27 2 2 24 := ⟨by kernel_rfl, by kernel_rfl⟩
instance : FdT 27 3 3 25 := ⟨by kernel_rfl, by kernel_rfl⟩
instance : StT 27 [(0, 1), (1, 1), (2, 1), (3, 1)] := ⟨by kernel_rfl, by kernel_rfl⟩
instance : ZrT 27 [.int .i64 0, .int .i64 0, .slice none 0 0, .slice none 0 0] := ⟨by kernel_rfl⟩
instance : ByT 27 64 := ⟨by kernel_rfl⟩
instance : AgT 28 15 := ⟨by kernel_rfl, by kernel_rfl⟩
instance : StT 28 [(0, 1), (1, 1), (2, 1), (3, 4), (7, 4), (11, 4)] := ⟨by kernel_rfl, by kernel_rfl⟩
instance : ZrT 28 [.int .i64 0, .int .i64 0, .slice none 0 0, .int .i64 0, .int .i64 0, .slice none 0 0, .slice none 0 0, .int .i64 0, .int .i64 0, .slice none 0 0, .slice none 0 0, .int .i64 0, .int .i64 0, .slice none 0 0, .slice none 0 0] := ⟨by kernel_rfl⟩
instance : ByT 28 232 := ⟨by kernel_rfl⟩
instance : AgT 29 15 := ⟨by kernel_rfl, by kernel_rfl⟩
instance : FdT 29 0 0 3 := ⟨by kernel_rfl, by kernel_rfl⟩
instance : FdT 29 1 1 3 := ⟨by kernel_rfl, by kernel_rfl⟩
instance : FdT 29 2 2 22 := ⟨by kernel_rfl, by kernel_rfl⟩
instance : FdT 29 3 3 27 := ⟨by kernel_rfl, by kernel_rfl⟩
instance : FdT 29 4 7 27 := ⟨by kernel_rfl, by kernel_rfl⟩
instance : FdT 29 5 11 27 := ⟨by kernel_rfl, by kernel_rfl⟩
instance : StT 29 [(0, 1), (1, 1), (2, 1), (3, 4), (7, 4), (11, 4)] := ⟨by kernel_rfl, by kernel_rfl⟩
instance : ZrT 29 [.int .i64 0, .int .i64 0, .slice none 0 0, .int .i64 0, .int .i64 0, .slice none 0 0, .slice none 0 0, .int .i64 0, .int .i64 0, .slice none 0 0, .slice none 0 0, .int .i64 0, .int .i64 0, .slice none 0 0, .slice none 0 0] := ⟨by kernel_rfl⟩
instance : ByT 29 232 := ⟨by kernel_rfl⟩
instance : FlT 30 := ⟨by kernel_rfl, by kernel_rfl⟩
instance : InT 30 .i64 := ⟨by kernel_rfl⟩
instance : ZrT 30 [.int .i64 0] := ⟨by kernel_rfl⟩
instance : ByT 30 8 := ⟨by kernel_rfl⟩
instance : FlT 32 := ⟨by kernel_rfl, by kernel_rfl⟩
instance : ZrT 32 [.nilFunc] := ⟨by kernel_rfl⟩
instance : ByT 32 8 := ⟨by kernel_rfl⟩
instance : FlT 33 := ⟨by kernel_rfl, by kernel_rfl⟩
instance : ZrT 33 [.pointer none] := ⟨by kernel_rfl⟩
instance : ByT 33 8 := ⟨by kernel_rfl⟩
instance : FlT 35 := ⟨by kernel_rfl, by kernel_rfl⟩
instance : ZrT 35 [.nilFunc] := ⟨by kernel_rfl⟩
instance : ByT 35 8 := ⟨by kernel_rfl⟩
instance : AgT 36 4 := ⟨by kernel_rfl, by kernel_rfl⟩
instance : StT 36 [(0, 1), (1, 1), (2, 1), (3, 1)] := ⟨by kernel_rfl, by kernel_rfl⟩
instance : ZrT 36 [.int .i64 0, .int .i64 0, .int .i64 0, .int .i64 0] := ⟨by kernel_rfl⟩
instance : ByT 36 32 := ⟨by kernel_rfl⟩
instance : AgT 37 4 := ⟨by kernel_rfl, by kernel_rfl⟩
instance : FdT 37 0 0 3 := ⟨by kernel_rfl, by kernel_rfl⟩
instance : FdT 37 1 1 3 := ⟨by kernel_rfl, by kernel_rfl⟩
instance : FdT 37 2 2 3 := ⟨by kernel_rfl, by kernel_rfl⟩
instance : FdT 37 3 3 3 := ⟨by kernel_rfl, by kernel_rfl⟩
instance : StT 37 [(0, 1), (1, 1), (2, 1), (3, 1)] := ⟨by kernel_rfl, by kernel_rfl⟩
instance : ZrT 37 [.int .i64 0, .int .i64 0, .int .i64 0, .int .i64 0] := ⟨by kernel_rfl⟩
instance : ByT 37 32 := ⟨by kernel_rfl⟩
instance : FlT 39 := ⟨by kernel_rfl, by kernel_rfl⟩
instance : ZrT 39 [.nilFunc] := ⟨by kernel_rfl⟩
instance : ByT 39 8 := ⟨by kernel_rfl⟩
instance : SlT 40 2 1 := ⟨by kernel_rfl, by kernel_rfl⟩
instance : FlT 40 := ⟨by kernel_rfl, by kernel_rfl⟩
instance : ZrT 40 [.slice none 0 0] := ⟨by kernel_rfl⟩
instance : ByT 40 24 := ⟨by kernel_rfl⟩
instance : FlT 41 := ⟨by kernel_rfl, by kernel_rfl⟩
instance : ZrT 41 [.nilFunc] := ⟨by kernel_rfl⟩
instance : ByT 41 8 := ⟨by kernel_rfl⟩
instance : SlT 42 70 2 := ⟨by kernel_rfl, by kernel_rfl⟩
instance : FlT 42 := ⟨by kernel_rfl, by kernel_rfl⟩
instance : ZrT 42 [.slice none 0 0] := ⟨by kernel_rfl⟩
instance : ByT 42 24 := ⟨by kernel_rfl⟩
instance : FlT 44 := ⟨by kernel_rfl, by kernel_rfl⟩
instance : ZrT 44 [.nilFunc] := ⟨by kernel_rfl⟩
instance : ByT 44 8 := ⟨by kernel_rfl⟩
instance : FlT 45 := ⟨by kernel_rfl, by kernel_rfl⟩
instance : ZrT 45 [.nilFunc] := ⟨by kernel_rfl⟩
instance : ByT 45 8 := ⟨by kernel_rfl⟩
instance : FlT 46 := ⟨by kernel_rfl, by kernel_rfl⟩
instance : ZrT 46 [.nilFunc] := ⟨by kernel_rfl⟩
instance : ByT 46 8 := ⟨by kernel_rfl⟩
instance : FlT 47 := ⟨by kernel_rfl, by kernel_rfl⟩
instance : ZrT 47 [.nilFunc] := ⟨by kernel_rfl⟩
instance : ByT 47 8 := ⟨by kernel_rfl⟩
instance : FlT 48 := ⟨by kernel_rfl, by kernel_rfl⟩
instance : ZrT 48 [.nilFunc] := ⟨by kernel_rfl⟩
instance : ByT 48 8 := ⟨by kernel_rfl⟩
instance : FlT 49 := ⟨by kernel_rfl, by kernel_rfl⟩
instance : ZrT 49 [.nilFunc] := ⟨by kernel_rfl⟩
instance : ByT 49 8 := ⟨by kernel_rfl⟩
instance : SlT 50 53 1 := ⟨by kernel_rfl, by kernel_rfl⟩
instance : FlT 50 := ⟨by kernel_rfl, by kernel_rfl⟩
instance : ZrT 50 [.slice none 0 0] := ⟨by kernel_rfl⟩
instance : ByT 50 24 := ⟨by kernel_rfl⟩
instance : FlT 51 := ⟨by kernel_rfl, by kernel_rfl⟩
instance : ZrT 51 [.nilFunc] := ⟨by kernel_rfl⟩
instance : ByT 51 8 := ⟨by kernel_rfl⟩
instance : FlT 52 := ⟨by kernel_rfl, by kernel_rfl⟩
instance : ZrT 52 [.pointer none] := ⟨by kernel_rfl⟩
instance : ByT 52 8 := ⟨by kernel_rfl⟩
instance : FlT 53 := ⟨by kernel_rfl, by kernel_rfl⟩
instance : ZrT 53 [.pointer none] := ⟨by kernel_rfl⟩
instance : ByT 53 8 := ⟨by kernel_rfl⟩
instance : FlT 55 := ⟨by kernel_rfl, by kernel_rfl⟩
instance : ZrT 55 [.nilFunc] := ⟨by kernel_rfl⟩
instance : ByT 55 8 := ⟨by kernel_rfl⟩
instance : FlT 57 := ⟨by kernel_rfl, by kernel_rfl⟩
instance : ZrT 57 [.nilFunc] := ⟨by kernel_rfl⟩
instance : ByT 57 8 := ⟨by kernel_rfl⟩
instance : FlT 58 := ⟨by kernel_rfl, by kernel_rfl⟩
instance : ZrT 58 [.nilFunc] := ⟨by kernel_rfl⟩
instance : ByT 58 8 := ⟨by kernel_rfl⟩
instance : AgT 59 15 := ⟨by kernel_rfl, by kernel_rfl⟩
instance : StT 59 [(0, 15)] := ⟨by kernel_rfl, by kernel_rfl⟩
instance : ZrT 59 [.int .i64 0, .int .i64 0, .slice none 0 0, .int .i64 0, .int .i64 0, .slice none 0 0, .slice none 0 0, .int .i64 0, .int .i64 0, .slice none 0 0, .slice none 0 0, .int .i64 0, .int .i64 0, .slice none 0 0, .slice none 0 0] := ⟨by kernel_rfl⟩
instance : ByT 59 232 := ⟨by kernel_rfl⟩
instance : AgT 60 15 := ⟨by kernel_rfl, by kernel_rfl⟩
instance : FdT 60 0 0 29 := ⟨by kernel_rfl, by kernel_rfl⟩
instance : StT 60 [(0, 15)] := ⟨by kernel_rfl, by kernel_rfl⟩
instance : ZrT 60 [.int .i64 0, .int .i64 0, .slice none 0 0, .int .i64 0, .int .i64 0, .slice none 0 0, .slice none 0 0, .int .i64 0, .int .i64 0, .slice none 0 0, .slice none 0 0, .int .i64 0, .int .i64 0, .slice none 0 0, .slice none 0 0] := ⟨by kernel_rfl⟩
instance : ByT 60 232 := ⟨by kernel_rfl⟩
instance : FlT 61 := ⟨by kernel_rfl, by kernel_rfl⟩
instance : ZrT 61 [.nilFunc] := ⟨by kernel_rfl⟩
instance : ByT 61 8 := ⟨by kernel_rfl⟩
instance : FlT 62 := ⟨by kernel_rfl, by kernel_rfl⟩
instance : ZrT 62 [.nilFunc] := ⟨by kernel_rfl⟩
instance : ByT 62 8 := ⟨by kernel_rfl⟩
instance : FlT 63 := ⟨by kernel_rfl, by kernel_rfl⟩
instance : ZrT 63 [.nilFunc] := ⟨by kernel_rfl⟩
instance : ByT 63 8 := ⟨by kernel_rfl⟩
instance : FlT 64 := ⟨by kernel_rfl, by kernel_rfl⟩
instance : ZrT 64 [.nilFunc] := ⟨by kernel_rfl⟩
instance : ByT 64 8 := ⟨by kernel_rfl⟩
instance : FlT 66 := ⟨by kernel_rfl, by kernel_rfl⟩
instance : ZrT 66 [.nilFunc] := ⟨by kernel_rfl⟩
instance : ByT 66 8 := ⟨by kernel_rfl⟩
instance : FlT 67 := ⟨by kernel_rfl, by kernel_rfl⟩
instance : ZrT 67 [.pointer none] := ⟨by kernel_rfl⟩
instance : ByT 67 8 := ⟨by kernel_rfl⟩
instance : SlT 68 108 1 := ⟨by kernel_rfl, by kernel_rfl⟩
instance : FlT 68 := ⟨by kernel_rfl, by kernel_rfl⟩
instance : ZrT 68 [.slice none 0 0] := ⟨by kernel_rfl⟩
instance : ByT 68 24 := ⟨by kernel_rfl⟩
instance : AgT 69 2 := ⟨by kernel_rfl, by kernel_rfl⟩
instance : StT 69 [(0, 1), (1, 1)] := ⟨by kernel_rfl, by kernel_rfl⟩
instance : ZrT 69 [.bool false, .slice none 0 0] := ⟨by kernel_rfl⟩
instance : ByT 69 32 := ⟨by kernel_rfl⟩
instance : AgT 70 2 := ⟨by kernel_rfl, by kernel_rfl⟩
instance : FdT 70 0 0 4 := ⟨by kernel_rfl, by kernel_rfl⟩
instance : FdT 70 1 1 68 := ⟨by kernel_rfl, by kernel_rfl⟩
instance : StT 70 [(0, 1), (1, 1)] := ⟨by kernel_rfl, by kernel_rfl⟩
instance : ZrT 70 [.bool false, .slice none 0 0] := ⟨by kernel_rfl⟩
instance : ByT 70 32 := ⟨by kernel_rfl⟩
instance : FlT 71 := ⟨by kernel_rfl, by kernel_rfl⟩
instance : ZrT 71 [.nilFunc] := ⟨by kernel_rfl⟩
instance : ByT 71 8 := ⟨by kernel_rfl⟩
instance : FlT 73 := ⟨by kernel_rfl, by kernel_rfl⟩
instance : ZrT 73 [.nilFunc] := ⟨by kernel_rfl⟩
instance : ByT 73 8 := ⟨by kernel_rfl⟩
instance : AgT 74 2 := ⟨by kernel_rfl, by kernel_rfl⟩
instance : StT 74 [(0, 1), (1, 1)] := ⟨by kernel_rfl, by kernel_rfl⟩
instance : ZrT 74 [.int .i64 0, .int .i64 0] := ⟨by kernel_rfl⟩
instance : ByT 74 16 := ⟨by kernel_rfl⟩
instance : AgT 75 2 := ⟨by kernel_rfl, by kernel_rfl⟩
instance : FdT 75 0 0 3 := ⟨by kernel_rfl, by kernel_rfl⟩
instance : FdT 75 1 1 3 := ⟨by kernel_rfl, by kernel_rfl⟩
instance : StT 75 [(0, 1), (1, 1)] := ⟨by kernel_rfl, by kernel_rfl⟩
instance : ZrT 75 [.int .i64 0, .int .i64 0] := ⟨by kernel_rfl⟩
instance : ByT 75 16 := ⟨by kernel_rfl⟩
instance : FlT 76 := ⟨by kernel_rfl, by kernel_rfl⟩
instance : ZrT 76 [.pointer none] := ⟨by kernel_rfl⟩
instance : ByT 76 8 := ⟨by kernel_rfl⟩
instance : FlT 78 := ⟨by kernel_rfl, by kernel_rfl⟩
instance : ZrT 78 [.nilFunc] := ⟨by kernel_rfl⟩
instance : ByT 78 8 := ⟨by kernel_rfl⟩
instance : FlT 79 := ⟨by kernel_rfl, by kernel_rfl⟩
instance : ZrT 79 [.nilFunc] := ⟨by kernel_rfl⟩
instance : ByT 79 8 := ⟨by kernel_rfl⟩
instance : FlT 80 := ⟨by kernel_rfl, by kernel_rfl⟩
instance : ZrT 80 [.nilFunc] := ⟨by kernel_rfl⟩
instance : ByT 80 8 := ⟨by kernel_rfl⟩
instance : FlT 81 := ⟨by kernel_rfl, by kernel_rfl⟩
instance : ZrT 81 [.nilFunc] := ⟨by kernel_rfl⟩
instance : ByT 81 8 := ⟨by kernel_rfl⟩
instance : FlT 82 := ⟨by kernel_rfl, by kernel_rfl⟩
instance : ZrT 82 [.nilFunc] := ⟨by kernel_rfl⟩
instance : ByT 82 8 := ⟨by kernel_rfl⟩
instance : FlT 83 := ⟨by kernel_rfl, by kernel_rfl⟩
instance : ZrT 83 [.nilFunc] := ⟨by kernel_rfl⟩
instance : ByT 83 8 := ⟨by kernel_rfl⟩
instance : FlT 84 := ⟨by kernel_rfl, by kernel_rfl⟩
instance : ZrT 84 [.nilFunc] := ⟨by kernel_rfl⟩
instance : ByT 84 8 := ⟨by kernel_rfl⟩
instance : FlT 85 := ⟨by kernel_rfl, by kernel_rfl⟩
instance : ZrT 85 [.nilFunc] := ⟨by kernel_rfl⟩
instance : ByT 85 8 := ⟨by kernel_rfl⟩
instance : SlT 86 90 5 := ⟨by kernel_rfl, by kernel_rfl⟩
instance : FlT 86 := ⟨by kernel_rfl, by kernel_rfl⟩
instance : ZrT 86 [.slice none 0 0] := ⟨by kernel_rfl⟩
instance : ByT 86 24 := ⟨by kernel_rfl⟩
instance : FlT 87 := ⟨by kernel_rfl, by kernel_rfl⟩
instance : ZrT 87 [.nilFunc] := ⟨by kernel_rfl⟩
instance : ByT 87 8 := ⟨by kernel_rfl⟩
instance : FlT 88 := ⟨by kernel_rfl, by kernel_rfl⟩
instance : ZrT 88 [.nilFunc] := ⟨by kernel_rfl⟩
instance : ByT 88 8 := ⟨by kernel_rfl⟩
instance : AgT 89 5 := ⟨by kernel_rfl, by kernel_rfl⟩
instance : StT 89 [(0, 4), (4, 1)] := ⟨by kernel_rfl, by kernel_rfl⟩
instance : ZrT 89 [.int .i64 0, .int .i64 0, .slice none 0 0, .slice none 0 0, .nilFunc] := ⟨by kernel_rfl⟩
instance : ByT 89 72 := ⟨by kernel_rfl⟩
instance : AgT 90 5 := ⟨by kernel_rfl, by kernel_rfl⟩
instance : FdT 90 0 0 27 := ⟨by kernel_rfl, by kernel_rfl⟩
instance : FdT 90 1 4 88 := ⟨by kernel_rfl, by kernel_rfl⟩
instance : StT 90 [(0, 4), (4, 1)] := ⟨by kernel_rfl, by kernel_rfl⟩
instance : ZrT 90 [.int .i64 0, .int .i64 0, .slice none 0 0, .slice none 0 0, .nilFunc] := ⟨by kernel_rfl⟩
instance : ByT 90 72 := ⟨by kernel_rfl⟩
instance : AgT 92 3 := ⟨by kernel_rfl, by kernel_rfl⟩
instance : ZrT 92 [.pointer none, .pointer none, .pointer none] := ⟨by kernel_rfl⟩
instance : ByT 92 24 := ⟨by kernel_rfl⟩
instance : FlT 93 := ⟨by kernel_rfl, by kernel_rfl⟩
instance : ZrT 93 [.nilFunc] := ⟨by kernel_rfl⟩
instance : ByT 93 8 := ⟨by kernel_rfl⟩
instance : FlT 95 := ⟨by kernel_rfl, by kernel_rfl⟩
instance : ZrT 95 [.nilFunc] := ⟨by kernel_rfl⟩
instance : ByT 95 8 := ⟨by kernel_rfl⟩
instance : FlT 97 := ⟨by kernel_rfl, by kernel_rfl⟩
instance : ZrT 97 [.nilFunc] := ⟨by kernel_rfl⟩
instance : ByT 97 8 := ⟨by kernel_rfl⟩
instance : SlT 98 103 2 := ⟨by kernel_rfl, by kernel_rfl⟩
instance : FlT 98 := ⟨by kernel_rfl, by kernel_rfl⟩
instance : ZrT 98 [.slice none 0 0] := ⟨by kernel_rfl⟩
instance : ByT 98 24 := ⟨by kernel_rfl⟩
instance : FlT 100 := ⟨by kernel_rfl, by kernel_rfl⟩
instance : ZrT 100 [.nilFunc] := ⟨by kernel_rfl⟩
instance : ByT 100 8 := ⟨by kernel_rfl⟩
instance : SlT 101 42 1 := ⟨by kernel_rfl, by kernel_rfl⟩
instance : FlT 101 := ⟨by kernel_rfl, by kernel_rfl⟩
instance : ZrT 101 [.slice none 0 0] := ⟨by kernel_rfl⟩
instance : ByT 101 24 := ⟨by kernel_rfl⟩
instance : AgT 102 2 := ⟨by kernel_rfl, by kernel_rfl⟩
instance : StT 102 [(0, 1), (1, 1)] := ⟨by kernel_rfl, by kernel_rfl⟩
instance : ZrT 102 [.slice none 0 0, .slice none 0 0] := ⟨by kernel_rfl⟩
instance : ByT 102 48 := ⟨by kernel_rfl⟩
instance : AgT 103 2 := ⟨by kernel_rfl, by kernel_rfl⟩
instance : FdT 103 0 0 42 := ⟨by kernel_rfl, by kernel_rfl⟩
instance : FdT 103 1 1 42 := ⟨by kernel_rfl, by kernel_rfl⟩
instance : StT 103 [(0, 1), (1, 1)] := ⟨by kernel_rfl, by kernel_rfl⟩
instance : ZrT 103 [.slice none 0 0, .slice none 0 0] := ⟨by kernel_rfl⟩
instance : ByT 103 48 := ⟨by kernel_rfl⟩
instance : FlT 105 := ⟨by kernel_rfl, by kernel_rfl⟩
instance : ZrT 105 [.nilFunc] := ⟨by kernel_rfl⟩
instance : ByT 105 8 := ⟨by kernel_rfl⟩
instance : FlT 106 := ⟨by kernel_rfl, by kernel_rfl⟩
instance : InT 106 .u64 := ⟨by kernel_rfl⟩
instance : ZrT 106 [.int .u64 0] := ⟨by kernel_rfl⟩
instance : ByT 106 8 := ⟨by kernel_rfl⟩
instance : FlT 107 := ⟨by kernel_rfl, by kernel_rfl⟩
instance : ZrT 107 [.nilFunc] := ⟨by kernel_rfl⟩
instance : ByT 107 8 := ⟨by kernel_rfl⟩
instance : FlT 108 := ⟨by kernel_rfl, by kernel_rfl⟩
instance : InT 108 .u32 := ⟨by kernel_rfl⟩
instance : ZrT 108 [.int .u32 0] := ⟨by kernel_rfl⟩
instance : ByT 108 4 := ⟨by kernel_rfl⟩
instance : FlT 109 := ⟨by kernel_rfl, by kernel_rfl⟩
instance : InT 109 .u64 := ⟨by kernel_rfl⟩
instance : ZrT 109 [.int .u64 0] := ⟨by kernel_rfl⟩
instance : ByT 109 8 := ⟨by kernel_rfl⟩
instance : FlT 110 := ⟨by kernel_rfl, by kernel_rfl⟩
instance : ZrT 110 [.nilFunc] := ⟨by kernel_rfl⟩
instance : ByT 110 8 := ⟨by kernel_rfl⟩
instance : FlT 111 := ⟨by kernel_rfl, by kernel_rfl⟩
instance : ZrT 111 [.nilFunc] := ⟨by kernel_rfl⟩
instance : ByT 111 8 := ⟨by kernel_rfl⟩
instance : FlT 112 := ⟨by kernel_rfl, by kernel_rfl⟩
instance : ZrT 112 [.nilFunc] := ⟨by kernel_rfl⟩
instance : ByT 112 8 := ⟨by kernel_rfl⟩
instance : FlT 114 := ⟨by kernel_rfl, by kernel_rfl⟩
instance : ZrT 114 [.nilFunc] := ⟨by kernel_rfl⟩
instance : ByT 114 8 := ⟨by kernel_rfl⟩
instance : AgT 115 3 := ⟨by kernel_rfl, by kernel_rfl⟩
instance : StT 115 [(0, 1), (1, 1), (2, 1)] := ⟨by kernel_rfl, by kernel_rfl⟩
instance : ZrT 115 [.int .i64 0, .int .i64 0, .slice none 0 0] := ⟨by kernel_rfl⟩
instance : ByT 115 40 := ⟨by kernel_rfl⟩
instance : AgT 116 3 := ⟨by kernel_rfl, by kernel_rfl⟩
instance : StT 116 [(0, 1), (1, 1), (2, 1)] := ⟨by kernel_rfl, by kernel_rfl⟩
instance : ZrT 116 [.int .i64 0, .int .i64 0, .slice none 0 0] := ⟨by kernel_rfl⟩
instance : ByT 116 40 := ⟨by kernel_rfl⟩
instance : FlT 117 := ⟨by kernel_rfl, by kernel_rfl⟩
instance : ZrT 117 [.nilFunc] := ⟨by kernel_rfl⟩
instance : ByT 117 8 := ⟨by kernel_rfl⟩
instance : AgT 118 5 := ⟨by kernel_rfl, by kernel_rfl⟩
instance : StT 118 [(0, 1), (1, 1), (2, 1), (3, 1), (4, 1)] := ⟨by kernel_rfl, by kernel_rfl⟩
instance : ZrT 118 [.int .i64 0, .int .i64 0, .int .i64 0, .int .i64 0, .int .i64 0] := ⟨by kernel_rfl⟩
instance : ByT 118 40 := ⟨by kernel_rfl⟩
instance : AgT 119 5 := ⟨by kernel_rfl, by kernel_rfl⟩
instance : FdT 119 0 0 3 := ⟨by kernel_rfl, by kernel_rfl⟩
instance : FdT 119 1 1 3 := ⟨by kernel_rfl, by kernel_rfl⟩
instance : FdT 119 2 2 3 := ⟨by kernel_rfl, by kernel_rfl⟩
instance : FdT 119 3 3 3 := ⟨by kernel_rfl, by kernel_rfl⟩
instance : FdT 119 4 4 3 := ⟨by kernel_rfl, by kernel_rfl⟩
instance : StT 119 [(0, 1), (1, 1), (2, 1), (3, 1), (4, 1)] := ⟨by kernel_rfl, by kernel_rfl⟩
instance : ZrT 119 [.int .i64 0, .int .i64 0, .int .i64 0, .int .i64 0, .int .i64 0] := ⟨by kernel_rfl⟩
instance : ByT 119 40 := ⟨by kernel_rfl⟩
instance : FlT 120 := ⟨by kernel_rfl, by kernel_rfl⟩
instance : ZrT 120 [.nilFunc] := ⟨by kernel_rfl⟩
instance : ByT 120 8 := ⟨by kernel_rfl⟩
instance : FlT 121 := ⟨by kernel_rfl, by kernel_rfl⟩
instance : ZrT 121 [.nilFunc] := ⟨by kernel_rfl⟩
instance : ByT 121 8 := ⟨by kernel_rfl⟩
instance : FlT 122 := ⟨by kernel_rfl, by kernel_rfl⟩
instance : ZrT 122 [.nilFunc] := ⟨by kernel_rfl⟩
instance : ByT 122 8 := ⟨by kernel_rfl⟩
instance : FlT 123 := ⟨by kernel_rfl, by kernel_rfl⟩
instance : ZrT 123 [.nilFunc] := ⟨by kernel_rfl⟩
instance : ByT 123 8 := ⟨by kernel_rfl⟩
instance : FlT 124 := ⟨by kernel_rfl, by kernel_rfl⟩
instance : ZrT 124 [.nilFunc] := ⟨by kernel_rfl⟩
instance : ByT 124 8 := ⟨by kernel_rfl⟩
instance : FlT 125 := ⟨by kernel_rfl, by kernel_rfl⟩
instance : ZrT 125 [.nilFunc] := ⟨by kernel_rfl⟩
instance : ByT 125 8 := ⟨by kernel_rfl⟩
instance : FlT 126 := ⟨by kernel_rfl, by kernel_rfl⟩
instance : ZrT 126 [.nilFunc] := ⟨by kernel_rfl⟩
instance : ByT 126 8 := ⟨by kernel_rfl⟩
instance : AgT 127 2 := ⟨by kernel_rfl, by kernel_rfl⟩
instance : StT 127 [(0, 1), (1, 1)] := ⟨by kernel_rfl, by kernel_rfl⟩
instance : ByT 127 24 := ⟨by kernel_rfl⟩
instance : AgT 128 2 := ⟨by kernel_rfl, by kernel_rfl⟩
instance : FdT 128 0 0 9 := ⟨by kernel_rfl, by kernel_rfl⟩
instance : FdT 128 1 1 55 := ⟨by kernel_rfl, by kernel_rfl⟩
instance : StT 128 [(0, 1), (1, 1)] := ⟨by kernel_rfl, by kernel_rfl⟩
instance : ByT 128 24 := ⟨by kernel_rfl⟩
instance : SlT 129 128 2 := ⟨by kernel_rfl, by kernel_rfl⟩
instance : FlT 129 := ⟨by kernel_rfl, by kernel_rfl⟩
instance : ZrT 129 [.slice none 0 0] := ⟨by kernel_rfl⟩
instance : ByT 129 24 := ⟨by kernel_rfl⟩
instance : FlT 130 := ⟨by kernel_rfl, by kernel_rfl⟩
instance : ZrT 130 [.nilFunc] := ⟨by kernel_rfl⟩
instance : ByT 130 8 := ⟨by kernel_rfl⟩
instance : FlT 131 := ⟨by kernel_rfl, by kernel_rfl⟩
instance : ZrT 131 [.nilFunc] := ⟨by kernel_rfl⟩
instance : ByT 131 8 := ⟨by kernel_rfl⟩
instance : FlT 132 := ⟨by kernel_rfl, by kernel_rfl⟩
instance : ZrT 132 [.nilFunc] := ⟨by kernel_rfl⟩
instance : ByT 132 8 := ⟨by kernel_rfl⟩
instance : FlT 133 := ⟨by kernel_rfl, by kernel_rfl⟩
instance : ZrT 133 [.nilFunc] := ⟨by kernel_rfl⟩
instance : ByT 133 8 := ⟨by kernel_rfl⟩
instance : FlT 134 := ⟨by kernel_rfl, by kernel_rfl⟩
instance : ZrT 134 [.nilFunc] := ⟨by kernel_rfl⟩
instance : ByT 134 8 := ⟨by kernel_rfl⟩
instance : FlT 135 := ⟨by kernel_rfl, by kernel_rfl⟩
instance : ZrT 135 [.nilFunc] := ⟨by kernel_rfl⟩
instance : ByT 135 8 := ⟨by kernel_rfl⟩
instance : FlT 136 := ⟨by kernel_rfl, by kernel_rfl⟩
instance : ZrT 136 [.nilFunc] := ⟨by kernel_rfl⟩
instance : ByT 136 8 := ⟨by kernel_rfl⟩
instance : FlT 137 := ⟨by kernel_rfl, by kernel_rfl⟩
instance : ZrT 137 [.nilFunc] := ⟨by kernel_rfl⟩
instance : ByT 137 8 := ⟨by kernel_rfl⟩
instance : AgT 138 2 := ⟨by kernel_rfl, by kernel_rfl⟩
instance : ZrT 138 [.slice none 0 0, .slice none 0 0] := ⟨by kernel_rfl⟩
instance : ByT 138 48 := ⟨by kernel_rfl⟩
instance : AgT 139 6 := ⟨by kernel_rfl, by kernel_rfl⟩
instance : FdT 139 0 0 42 := ⟨by kernel_rfl, by kernel_rfl⟩
instance : FdT 139 1 1 3 := ⟨by kernel_rfl, by kernel_rfl⟩
instance : FdT 139 2 2 27 := ⟨by kernel_rfl, by kernel_rfl⟩
instance : StT 139 [(0, 1), (1, 1), (2, 4)] := ⟨by kernel_rfl, by kernel_rfl⟩
instance : ZrT 139 [.slice none 0 0, .int .i64 0, .int .i64 0, .int .i64 0, .slice none 0 0, .slice none 0 0] := ⟨by kernel_rfl⟩
instance : ByT 139 96 := ⟨by kernel_rfl⟩
instance : AgT 140 12 := ⟨by kernel_rfl, by kernel_rfl⟩
instance : ZrT 140 [.slice none 0 0, .int .i64 0, .int .i64 0, .int .i64 0, .slice none 0 0, .slice none 0 0, .slice none 0 0, .int .i64 0, .int .i64 0, .int .i64 0, .slice none 0 0, .slice none 0 0] := ⟨by kernel_rfl⟩
instance : ByT 140 192 := ⟨by kernel_rfl⟩
instance : FlT 142 := ⟨by kernel_rfl, by kernel_rfl⟩
instance : ZrT 142 [.nilFunc] := ⟨by kernel_rfl⟩
instance : ByT 142 8 := ⟨by kernel_rfl⟩
instance : FlT 144 := ⟨by kernel_rfl, by kernel_rfl⟩
instance : ZrT 144 [.nilFunc] := ⟨by kernel_rfl⟩
instance : ByT 144 8 := ⟨by kernel_rfl⟩
instance : FlT 145 := ⟨by kernel_rfl, by kernel_rfl⟩
instance : ZrT 145 [.nilFunc] := ⟨by kernel_rfl⟩
instance : ByT 145 8 := ⟨by kernel_rfl⟩
instance : FlT 146 := ⟨by kernel_rfl, by kernel_rfl⟩
instance : ZrT 146 [.nilFunc] := ⟨by kernel_rfl⟩
instance : ByT 146 8 := ⟨by kernel_rfl⟩
instance : FlT 147 := ⟨by kernel_rfl, by kernel_rfl⟩
instance : ZrT 147 [.nilFunc] := ⟨by kernel_rfl⟩
instance : ByT 147 8 := ⟨by kernel_rfl⟩
instance : FlT 148 := ⟨by kernel_rfl, by kernel_rfl⟩
instance : ZrT 148 [.nilFunc] := ⟨by kernel_rfl⟩
instance : ByT 148 8 := ⟨by kernel_rfl⟩
instance : FlT 149 := ⟨by kernel_rfl, by kernel_rfl⟩
instance : ZrT 149 [.nilFunc] := ⟨by kernel_rfl⟩
instance : ByT 149 8 := ⟨by kernel_rfl⟩
instance : FlT 150 := ⟨by kernel_rfl, by kernel_rfl⟩
instance : ZrT 150 [.nilFunc] := ⟨by kernel_rfl⟩
instance : ByT 150 8 := ⟨by kernel_rfl⟩
instance : FlT 151 := ⟨by kernel_rfl, by kernel_rfl⟩
instance : ZrT 151 [.nilFunc] := ⟨by kernel_rfl⟩
instance : ByT 151 8 := ⟨by kernel_rfl⟩
instance : FlT 152 := ⟨by kernel_rfl, by kernel_rfl⟩
instance : ZrT 152 [.nilFunc] := ⟨by kernel_rfl⟩
instance : ByT 152 8 := ⟨by kernel_rfl⟩
instance : FlT 153 := ⟨by kernel_rfl, by kernel_rfl⟩
instance : ZrT 153 [.nilFunc] := ⟨by kernel_rfl⟩
instance : ByT 153 8 := ⟨by kernel_rfl⟩
instance : FlT 154 := ⟨by kernel_rfl, by kernel_rfl⟩
instance : ZrT 154 [.nilFunc] := ⟨by kernel_rfl⟩
instance : ByT 154 8 := ⟨by kernel_rfl⟩
instance : FlT 155 := ⟨by kernel_rfl, by kernel_rfl⟩
instance : ZrT 155 [.nilFunc] := ⟨by kernel_rfl⟩
instance : ByT 155 8 := ⟨by kernel_rfl⟩
instance : FlT 156 := ⟨by kernel_rfl, by kernel_rfl⟩
instance : ZrT 156 [.nilFunc] := ⟨by kernel_rfl⟩
instance : ByT 156 8 := ⟨by kernel_rfl⟩
instance : FlT 157 := ⟨by kernel_rfl, by kernel_rfl⟩
instance : ZrT 157 [.nilFunc] := ⟨by kernel_rfl⟩
instance : ByT 157 8 := ⟨by kernel_rfl⟩
instance : FlT 158 := ⟨by kernel_rfl, by kernel_rfl⟩
instance : ZrT 158 [.nilFunc] := ⟨by kernel_rfl⟩
instance : ByT 158 8 := ⟨by kernel_rfl⟩
instance : FlT 160 := ⟨by kernel_rfl, by kernel_rfl⟩
instance : ZrT 160 [.nilFunc] := ⟨by kernel_rfl⟩
instance : ByT 160 8 := ⟨by kernel_rfl⟩
instance : FlT 161 := ⟨by kernel_rfl, by kernel_rfl⟩
instance : ZrT 161 [.pointer none] := ⟨by kernel_rfl⟩
instance : ByT 161 8 := ⟨by kernel_rfl⟩
instance : FlT 162 := ⟨by kernel_rfl, by kernel_rfl⟩
instance : ZrT 162 [.nilFunc] := ⟨by kernel_rfl⟩
instance : ByT 162 8 := ⟨by kernel_rfl⟩
instance : FlT 164 := ⟨by kernel_rfl, by kernel_rfl⟩
instance : ZrT 164 [.nilFunc] := ⟨by kernel_rfl⟩
instance : ByT 164 8 := ⟨by kernel_rfl⟩
instance : FlT 165 := ⟨by kernel_rfl, by kernel_rfl⟩
instance : ZrT 165 [.map none] := ⟨by kernel_rfl⟩
instance : ByT 165 8 := ⟨by kernel_rfl⟩
instance : AgT 166 4 := ⟨by kernel_rfl, by kernel_rfl⟩
instance : StT 166 [(0, 1), (1, 1), (2, 1), (3, 1)] := ⟨by kernel_rfl, by kernel_rfl⟩
instance : ZrT 166 [.slice none 0 0, .map none, .map none, .int .i64 0] := ⟨by kernel_rfl⟩
instance : ByT 166 48 := ⟨by kernel_rfl⟩
instance : AgT 167 4 := ⟨by kernel_rfl, by kernel_rfl⟩
instance : FdT 167 0 0 25 := ⟨by kernel_rfl, by kernel_rfl⟩
instance : FdT 167 1 1 165 := ⟨by kernel_rfl, by kernel_rfl⟩
instance : FdT 167 2 2 165 := ⟨by kernel_rfl, by kernel_rfl⟩
instance : FdT 167 3 3 3 := ⟨by kernel_rfl, by kernel_rfl⟩
instance : StT 167 [(0, 1), (1, 1), (2, 1), (3, 1)] := ⟨by kernel_rfl, by kernel_rfl⟩
instance : ZrT 167 [.slice none 0 0, .map none, .map none, .int .i64 0] := ⟨by kernel_rfl⟩
instance : ByT 167 48 := ⟨by kernel_rfl⟩
instance : FlT 168 := ⟨by kernel_rfl, by kernel_rfl⟩
instance : ZrT 168 [.nilFunc] := ⟨by kernel_rfl⟩
instance : ByT 168 8 := ⟨by kernel_rfl⟩
instance : SlT 169 4 1 := ⟨by kernel_rfl, by kernel_rfl⟩
instance : FlT 169 := ⟨by kernel_rfl, by kernel_rfl⟩
instance : ZrT 169 [.slice none 0 0] := ⟨by kernel_rfl⟩
instance : ByT 169 24 := ⟨by kernel_rfl⟩
instance : FlT 170 := ⟨by kernel_rfl, by kernel_rfl⟩
instance : ZrT 170 [.nilFunc] := ⟨by kernel_rfl⟩
instance : ByT 170 8 := ⟨by kernel_rfl⟩
instance : FlT 171 := ⟨by kernel_rfl, by kernel_rfl⟩
instance : ZrT 171 [.nilFunc] := ⟨by kernel_rfl⟩
instance : ByT 171 8 := ⟨by kernel_rfl⟩
instance : FlT 172 := ⟨by kernel_rfl, by kernel_rfl⟩
instance : ZrT 172 [.pointer none] := ⟨by kernel_rfl⟩
instance : ByT 172 8 := ⟨by kernel_rfl⟩
instance : FlT 174 := ⟨by kernel_rfl, by kernel_rfl⟩
instance : ZrT 174 [.nilFunc] := ⟨by kernel_rfl⟩
instance : ByT 174 8 := ⟨by kernel_rfl⟩
instance : FlT 175 := ⟨by kernel_rfl, by kernel_rfl⟩
instance : ZrT 175 [.pointer none] := ⟨by kernel_rfl⟩
instance : ByT 175 8 := ⟨by kernel_rfl⟩
instance : FlT 176 := ⟨by kernel_rfl, by kernel_rfl⟩
instance : ZrT 176 [.map none] := ⟨by kernel_rfl⟩
instance : ByT 176 8 := ⟨by kernel_rfl⟩
instance : AgT 177 2 := ⟨by kernel_rfl, by kernel_rfl⟩
instance : StT 177 [(0, 1), (1, 1)] := ⟨by kernel_rfl, by kernel_rfl⟩
instance : ZrT 177 [.map none, .slice none 0 0] := ⟨by kernel_rfl⟩
instance : ByT 177 32 := ⟨by kernel_rfl⟩
instance : AgT 178 2 := ⟨by kernel_rfl, by kernel_rfl⟩
instance : FdT 178 0 0 176 := ⟨by kernel_rfl, by kernel_rfl⟩
instance : FdT 178 1 1 169 := ⟨by kernel_rfl, by kernel_rfl⟩
instance : StT 178 [(0, 1), (1, 1)] := ⟨by kernel_rfl, by kernel_rfl⟩
instance : ZrT 178 [.map none, .slice none 0 0] := ⟨by kernel_rfl⟩
instance : ByT 178 32 := ⟨by kernel_rfl⟩
instance : FlT 179 := ⟨by kernel_rfl, by kernel_rfl⟩
instance : ZrT 179 [.nilFunc] := ⟨by kernel_rfl⟩
instance : ByT 179 8 := ⟨by kernel_rfl⟩
instance : AgT 180 10 := ⟨by kernel_rfl, by kernel_rfl⟩
instance : StT 180 [(0, 4), (4, 1), (5, 1), (6, 1), (7, 1), (8, 1), (9, 1)] := ⟨by kernel_rfl, by kernel_rfl⟩
instance : ZrT 180 [.int .i64 0, .int .i64 0, .slice none 0 0, .slice none 0 0, .slice none 0 0, .slice none 0 0, .slice none 0 0, .slice none 0 0, .slice none 0 0, .slice none 0 0] := ⟨by kernel_rfl⟩
instance : ByT 180 208 := ⟨by kernel_rfl⟩
instance : AgT 181 10 := ⟨by kernel_rfl, by kernel_rfl⟩
instance : FdT 181 1 4 169 := ⟨by kernel_rfl, by kernel_rfl⟩
instance : FdT 181 2 5 25 := ⟨by kernel_rfl, by kernel_rfl⟩
instance : FdT 181 3 6 25 := ⟨by kernel_rfl, by kernel_rfl⟩
instance : FdT 181 4 7 25 := ⟨by kernel_rfl, by kernel_rfl⟩
instance : FdT 181 5 8 25 := ⟨by kernel_rfl, by kernel_rfl⟩
instance : FdT 181 6 9 25 := ⟨by kernel_rfl, by kernel_rfl⟩
instance : StT 181 [(0, 4), (4, 1), (5, 1), (6, 1), (7, 1), (8, 1), (9, 1)] := ⟨by kernel_rfl, by kernel_rfl⟩
instance : ZrT 181 [.int .i64 0, .int .i64 0, .slice none 0 0, .slice none 0 0, .slice none 0 0, .slice none 0 0, .slice none 0 0, .slice none 0 0, .slice none 0 0, .slice none 0 0] := ⟨by kernel_rfl⟩
instance : ByT 181 208 := ⟨by kernel_rfl⟩
instance : AgT 182 2 := ⟨by kernel_rfl, by kernel_rfl⟩
instance : ZrT 182 [.int .i64 0, .int .i64 0] := ⟨by kernel_rfl⟩
instance : ByT 182 16 := ⟨by kernel_rfl⟩
instance : FlT 183 := ⟨by kernel_rfl, by kernel_rfl⟩
instance : ZrT 183 [.nilFunc] := ⟨by kernel_rfl⟩
instance : ByT 183 8 := ⟨by kernel_rfl⟩
instance : FlT 184 := ⟨by kernel_rfl, by kernel_rfl⟩
instance : ZrT 184 [.nilFunc] := ⟨by kernel_rfl⟩
instance : ByT 184 8 := ⟨by kernel_rfl⟩
instance : FlT 185 := ⟨by kernel_rfl, by kernel_rfl⟩
instance : ZrT 185 [.nilFunc] := ⟨by kernel_rfl⟩
instance : ByT 185 8 := ⟨by kernel_rfl⟩
instance : FlT 186 := ⟨by kernel_rfl, by kernel_rfl⟩
instance : ZrT 186 [.nilFunc] := ⟨by kernel_rfl⟩
instance : ByT 186 8 := ⟨by kernel_rfl⟩
instance : FlT 187 := ⟨by kernel_rfl, by kernel_rfl⟩
instance : ZrT 187 [.nilFunc] := ⟨by kernel_rfl⟩
instance : ByT 187 8 := ⟨by kernel_rfl⟩
instance : FlT 188 := ⟨by kernel_rfl, by kernel_rfl⟩
instance : ZrT 188 [.nilFunc] := ⟨by kernel_rfl⟩
instance : ByT 188 8 := ⟨by kernel_rfl⟩
instance : FlT 189 := ⟨by kernel_rfl, by kernel_rfl⟩
instance : ZrT 189 [.nilFunc] := ⟨by kernel_rfl⟩
instance : ByT 189 8 := ⟨by kernel_rfl⟩
instance : FlT 190 := ⟨by kernel_rfl, by kernel_rfl⟩
instance : ZrT 190 [.nilFunc] := ⟨by kernel_rfl⟩
instance : ByT 190 8 := ⟨by kernel_rfl⟩
instance : FlT 191 := ⟨by kernel_rfl, by kernel_rfl⟩
instance : ZrT 191 [.nilFunc] := ⟨by kernel_rfl⟩
instance : ByT 191 8 := ⟨by kernel_rfl⟩
instance : FlT 192 := ⟨by kernel_rfl, by kernel_rfl⟩
instance : ZrT 192 [.nilFunc] := ⟨by kernel_rfl⟩
instance : ByT 192 8 := ⟨by kernel_rfl⟩
instance : FlT 194 := ⟨by kernel_rfl, by kernel_rfl⟩
instance : ZrT 194 [.nilFunc] := ⟨by kernel_rfl⟩
instance : ByT 194 8 := ⟨by kernel_rfl⟩
instance : FlT 195 := ⟨by kernel_rfl, by kernel_rfl⟩
instance : ZrT 195 [.pointer none] := ⟨by kernel_rfl⟩
instance : ByT 195 8 := ⟨by kernel_rfl⟩
instance : FlT 197 := ⟨by kernel_rfl, by kernel_rfl⟩
instance : ZrT 197 [.nilFunc] := ⟨by kernel_rfl⟩
instance : ByT 197 8 := ⟨by kernel_rfl⟩
instance : FlT 198 := ⟨by kernel_rfl, by kernel_rfl⟩
instance : ZrT 198 [.nilFunc] := ⟨by kernel_rfl⟩
instance : ByT 198 8 := ⟨by kernel_rfl⟩
instance : AgT 199 6 := ⟨by kernel_rfl, by kernel_rfl⟩
instance : StT 199 [(0, 4), (4, 1), (5, 1)] := ⟨by kernel_rfl, by kernel_rfl⟩
instance : ZrT 199 [.int .i64 0, .int .i64 0, .slice none 0 0, .slice none 0 0, .slice none 0 0, .int .i64 0] := ⟨by kernel_rfl⟩
instance : ByT 199 96 := ⟨by kernel_rfl⟩
instance : AgT 200 6 := ⟨by kernel_rfl, by kernel_rfl⟩
instance : FdT 200 0 0 27 := ⟨by kernel_rfl, by kernel_rfl⟩
instance : FdT 200 1 4 101 := ⟨by kernel_rfl, by kernel_rfl⟩
instance : FdT 200 2 5 3 := ⟨by kernel_rfl, by kernel_rfl⟩
instance : StT 200 [(0, 4), (4, 1), (5, 1)] := ⟨by kernel_rfl, by kernel_rfl⟩
instance : ZrT 200 [.int .i64 0, .int .i64 0, .slice none 0 0, .slice none 0 0, .slice none 0 0, .int .i64 0] := ⟨by kernel_rfl⟩
instance : ByT 200 96 := ⟨by kernel_rfl⟩
instance : FlT 201 := ⟨by kernel_rfl, by kernel_rfl⟩
instance : ZrT 201 [.nilFunc] := ⟨by kernel_rfl⟩
instance : ByT 201 8 := ⟨by kernel_rfl⟩
instance : FlT 202 := ⟨by kernel_rfl, by kernel_rfl⟩
instance : ZrT 202 [.nilFunc] := ⟨by kernel_rfl⟩
instance : ByT 202 8 := ⟨by kernel_rfl⟩
instance : FlT 203 := ⟨by kernel_rfl, by kernel_rfl⟩
instance : ZrT 203 [.nilFunc] := ⟨by kernel_rfl⟩
instance : ByT 203 8 := ⟨by kernel_rfl⟩
instance : FlT 204 := ⟨by kernel_rfl, by kernel_rfl⟩
instance : ZrT 204 [.nilFunc] := ⟨by kernel_rfl⟩
instance : ByT 204 8 := ⟨by kernel_rfl⟩
instance : FlT 205 := ⟨by kernel_rfl, by kernel_rfl⟩
instance : ZrT 205 [.nilFunc] := ⟨by kernel_rfl⟩
instance : ByT 205 8 := ⟨by kernel_rfl⟩
instance : FlT 206 := ⟨by kernel_rfl, by kernel_rfl⟩
instance : ZrT 206 [.nilFunc] := ⟨by kernel_rfl⟩
instance : ByT 206 8 := ⟨by kernel_rfl⟩
instance : FlT 207 := ⟨by kernel_rfl, by kernel_rfl⟩
instance : ZrT 207 [.pointer none] := ⟨by kernel_rfl⟩
instance : ByT 207 8 := ⟨by kernel_rfl⟩
instance : AgT 208 3 := ⟨by kernel_rfl, by kernel_rfl⟩
instance : StT 208 [(0, 1), (1, 1), (2, 1)] := ⟨by kernel_rfl, by kernel_rfl⟩
instance : ZrT 208 [.int .i64 0, .slice none 0 0, .slice none 0 0] := ⟨by kernel_rfl⟩
instance : ByT 208 56 := ⟨by kernel_rfl⟩
instance : AgT 209 3 := ⟨by kernel_rfl, by kernel_rfl⟩
instance : FdT 209 0 0 3 := ⟨by kernel_rfl, by kernel_rfl⟩
instance : FdT 209 1 1 24 := ⟨by kernel_rfl, by kernel_rfl⟩
instance : FdT 209 2 2 22 := ⟨by kernel_rfl, by kernel_rfl⟩
instance : StT 209 [(0, 1), (1, 1), (2, 1)] := ⟨by kernel_rfl, by kernel_rfl⟩
instance : ZrT 209 [.int .i64 0, .slice none 0 0, .slice none 0 0] := ⟨by kernel_rfl⟩
instance : ByT 209 56 := ⟨by kernel_rfl⟩
instance : FlT 211 := ⟨by kernel_rfl, by kernel_rfl⟩
instance : ZrT 211 [.nilFunc] := ⟨by kernel_rfl⟩
instance : ByT 211 8 := ⟨by kernel_rfl⟩
instance : FlT 212 := ⟨by kernel_rfl, by kernel_rfl⟩
instance : ZrT 212 [.nilFunc] := ⟨by kernel_rfl⟩
instance : ByT 212 8 := ⟨by kernel_rfl⟩
instance : FlT 213 := ⟨by kernel_rfl, by kernel_rfl⟩
instance : ZrT 213 [.nilFunc] := ⟨by kernel_rfl⟩
instance : ByT 213 8 := ⟨by kernel_rfl⟩
instance : FlT 214 := ⟨by kernel_rfl, by kernel_rfl⟩
instance : ZrT 214 [.nilFunc] := ⟨by kernel_rfl⟩
instance : ByT 214 8 := ⟨by kernel_rfl⟩
instance : FlT 215 := ⟨by kernel_rfl, by kernel_rfl⟩
instance : ZrT 215 [.nilFunc] := ⟨by kernel_rfl⟩
instance : ByT 215 8 := ⟨by kernel_rfl⟩
instance : FlT 216 := ⟨by kernel_rfl, by kernel_rfl⟩
instance : ZrT 216 [.nilFunc] := ⟨by kernel_rfl⟩
instance : ByT 216 8 := ⟨by kernel_rfl⟩
instance : AgT 217 4 := ⟨by kernel_rfl, by kernel_rfl⟩
instance : StT 217 [(0, 1), (1, 1), (2, 1), (3, 1)] := ⟨by kernel_rfl, by kernel_rfl⟩
instance : ZrT 217 [.int .i64 0, .int .i64 0, .int .i64 0, .int .i64 0] := ⟨by kernel_rfl⟩
instance : ByT 217 32 := ⟨by kernel_rfl⟩
instance : AgT 218 4 := ⟨by kernel_rfl, by kernel_rfl⟩
instance : FdT 218 1 1 3 := ⟨by kernel_rfl, by kernel_rfl⟩
instance : FdT 218 2 2 3 := ⟨by kernel_rfl, by kernel_rfl⟩
instance : StT 218 [(0, 1), (1, 1), (2, 1), (3, 1)] := ⟨by kernel_rfl, by kernel_rfl⟩
instance : ZrT 218 [.int .i64 0, .int .i64 0, .int .i64 0, .int .i64 0] := ⟨by kernel_rfl⟩
instance : ByT 218 32 := ⟨by kernel_rfl⟩
instance : FlT 219 := ⟨by kernel_rfl, by kernel_rfl⟩
instance : ZrT 219 [.nilFunc] := ⟨by kernel_rfl⟩
instance : ByT 219 8 := ⟨by kernel_rfl⟩
instance : FlT 220 := ⟨by kernel_rfl, by kernel_rfl⟩
instance : ZrT 220 [.nilFunc] := ⟨by kernel_rfl⟩
instance : ByT 220 8 := ⟨by kernel_rfl⟩
instance : FlT 221 := ⟨by kernel_rfl, by kernel_rfl⟩
instance : ZrT 221 [.nilFunc] := ⟨by kernel_rfl⟩
instance : ByT 221 8 := ⟨by kernel_rfl⟩
instance : FlT 222 := ⟨by kernel_rfl, by kernel_rfl⟩
instance : ZrT 222 [.nilFunc] := ⟨by kernel_rfl⟩
instance : ByT 222 8 := ⟨by kernel_rfl⟩
instance : FlT 224 := ⟨by kernel_rfl, by kernel_rfl⟩
instance : ZrT 224 [.nilFunc] := ⟨by kernel_rfl⟩
instance : ByT 224 8 := ⟨by kernel_rfl⟩
instance : FlT 225 := ⟨by kernel_rfl, by kernel_rfl⟩
instance : ZrT 225 [.nilFunc] := ⟨by kernel_rfl⟩
instance : ByT 225 8 := ⟨by kernel_rfl⟩
instance : FlT 226 := ⟨by kernel_rfl, by kernel_rfl⟩
instance : ZrT 226 [.nilFunc] := ⟨by kernel_rfl⟩
instance : ByT 226 8 := ⟨by kernel_rfl⟩
instance : FlT 227 := ⟨by kernel_rfl, by kernel_rfl⟩
instance : ZrT 227 [.nilFunc] := ⟨by kernel_rfl⟩
instance : ByT 227 8 := ⟨by kernel_rfl⟩
instance : FlT 228 := ⟨by kernel_rfl, by kernel_rfl⟩
instance : ZrT 228 [.nilFunc] := ⟨by kernel_rfl⟩
instance : ByT 228 8 := ⟨by kernel_rfl⟩
instance : FlT 229 := ⟨by kernel_rfl, by kernel_rfl⟩
instance : ZrT 229 [.nilFunc] := ⟨by kernel_rfl⟩
instance : ByT 229 8 := ⟨by kernel_rfl⟩
instance : FlT 230 := ⟨by kernel_rfl, by kernel_rfl⟩
instance : ZrT 230 [.nilFunc] := ⟨by kernel_rfl⟩
instance : ByT 230 8 := ⟨by kernel_rfl⟩
instance : FlT 231 := ⟨by kernel_rfl, by kernel_rfl⟩
instance : ZrT 231 [.nilFunc] := ⟨by kernel_rfl⟩
instance : ByT 231 8 := ⟨by kernel_rfl⟩
instance : AgT 232 5 := ⟨by kernel_rfl, by kernel_rfl⟩
instance : StT 232 [(0, 1), (1, 1), (2, 1), (3, 1), (4, 1)] := ⟨by kernel_rfl, by kernel_rfl⟩
instance : ZrT 232 [.nilFunc, .nilFunc, .nilFunc, .nilFunc, .nilFunc] := ⟨by kernel_rfl⟩
instance : ByT 232 40 := ⟨by kernel_rfl⟩
instance : AgT 233 5 := ⟨by kernel_rfl, by kernel_rfl⟩
instance : FdT 233 0 0 228 := ⟨by kernel_rfl, by kernel_rfl⟩
instance : FdT 233 1 1 229 := ⟨by kernel_rfl, by kernel_rfl⟩
instance : FdT 233 2 2 229 := ⟨by kernel_rfl, by kernel_rfl⟩
instance : FdT 233 3 3 230 := ⟨by kernel_rfl, by kernel_rfl⟩
instance : FdT 233 4 4 231 := ⟨by kernel_rfl, by kernel_rfl⟩
instance : StT 233 [(0, 1), (1, 1), (2, 1), (3, 1), (4, 1)] := ⟨by kernel_rfl, by kernel_rfl⟩
instance : ZrT 233 [.nilFunc, .nilFunc, .nilFunc, .nilFunc, .nilFunc] := ⟨by kernel_rfl⟩
instance : ByT 233 40 := ⟨by kernel_rfl⟩
instance : FlT 234 := ⟨by kernel_rfl, by kernel_rfl⟩
instance : ZrT 234 [.nilFunc] := ⟨by kernel_rfl⟩
instance : ByT 234 8 := ⟨by kernel_rfl⟩
instance : FlT 235 := ⟨by kernel_rfl, by kernel_rfl⟩
instance : ZrT 235 [.nilFunc] := ⟨by kernel_rfl⟩
instance : ByT 235 8 := ⟨by kernel_rfl⟩
instance : FlT 236 := ⟨by kernel_rfl, by kernel_rfl⟩
instance : ZrT 236 [.nilFunc] := ⟨by kernel_rfl⟩
instance : ByT 236 8 := ⟨by kernel_rfl⟩
instance : FlT 237 := ⟨by kernel_rfl, by kernel_rfl⟩
instance : ZrT 237 [.nilFunc] := ⟨by kernel_rfl⟩
instance : ByT 237 8 := ⟨by kernel_rfl⟩
instance : FlT 238 := ⟨by kernel_rfl, by kernel_rfl⟩
instance : ZrT 238 [.nilFunc] := ⟨by kernel_rfl⟩
instance : ByT 238 8 := ⟨by kernel_rfl⟩
instance : FlT 239 := ⟨by kernel_rfl, by kernel_rfl⟩
instance : ZrT 239 [.nilFunc] := ⟨by kernel_rfl⟩
instance : ByT 239 8 := ⟨by kernel_rfl⟩
instance : FlT 240 := ⟨by kernel_rfl, by kernel_rfl⟩
instance : ZrT 240 [.nilFunc] := ⟨by kernel_rfl⟩
instance : ByT 240 8 := ⟨by kernel_rfl⟩
instance : FlT 242 := ⟨by kernel_rfl, by kernel_rfl⟩
instance : ZrT 242 [.nilFunc] := ⟨by kernel_rfl⟩
instance : ByT 242 8 := ⟨by kernel_rfl⟩
instance : AgT 243 32 := ⟨by kernel_rfl, by kernel_rfl⟩
instance : ByT 243 32 := ⟨by kernel_rfl⟩
instance : AgT 244 64 := ⟨by kernel_rfl, by kernel_rfl⟩
instance : ByT 244 64 := ⟨by kernel_rfl⟩
instance : FlT 245 := ⟨by kernel_rfl, by kernel_rfl⟩
instance : ZrT 245 [.nilFunc] := ⟨by kernel_rfl⟩
instance : ByT 245 8 := ⟨by kernel_rfl⟩
instance : FlT 246 := ⟨by kernel_rfl, by kernel_rfl⟩
instance : ZrT 246 [.nilFunc] := ⟨by kernel_rfl⟩
instance : ByT 246 8 := ⟨by kernel_rfl⟩
instance : FlT 247 := ⟨by kernel_rfl, by kernel_rfl⟩
instance : ZrT 247 [.nilFunc] := ⟨by kernel_rfl⟩
instance : ByT 247 8 := ⟨by kernel_rfl⟩
instance : FlT 248 := ⟨by kernel_rfl, by kernel_rfl⟩
instance : ZrT 248 [.nilFunc] := ⟨by kernel_rfl⟩
instance : ByT 248 8 := ⟨by kernel_rfl⟩
instance : FlT 249 := ⟨by kernel_rfl, by kernel_rfl⟩
instance : ZrT 249 [.nilFunc] := ⟨by kernel_rfl⟩
instance : ByT 249 8 := ⟨by kernel_rfl⟩
instance : FlT 250 := ⟨by kernel_rfl, by kernel_rfl⟩
instance : ZrT 250 [.nilFunc] := ⟨by kernel_rfl⟩
instance : ByT 250 8 := ⟨by kernel_rfl⟩
instance : FlT 251 := ⟨by kernel_rfl, by kernel_rfl⟩
instance : ZrT 251 [.nilFunc] := ⟨by kernel_rfl⟩
instance : ByT 251 8 := ⟨by kernel_rfl⟩
instance : FlT 252 := ⟨by kernel_rfl, by kernel_rfl⟩
instance : ZrT 252 [.nilFunc] := ⟨by kernel_rfl⟩
instance : ByT 252 8 := ⟨by kernel_rfl⟩
instance : FlT 253 := ⟨by kernel_rfl, by kernel_rfl⟩
instance : ZrT 253 [.nilFunc] := ⟨by kernel_rfl⟩
instance : ByT 253 8 := ⟨by kernel_rfl⟩
instance : FlT 255 := ⟨by kernel_rfl, by kernel_rfl⟩
instance : ZrT 255 [.nilFunc] := ⟨by kernel_rfl⟩
instance : ByT 255 8 := ⟨by kernel_rfl⟩
instance : FlT 256 := ⟨by kernel_rfl, by kernel_rfl⟩
instance : ZrT 256 [.nilFunc] := ⟨by kernel_rfl⟩
instance : ByT 256 8 := ⟨by kernel_rfl⟩
instance : FlT 257 := ⟨by kernel_rfl, by kernel_rfl⟩
instance : ZrT 257 [.nilFunc] := ⟨by kernel_rfl⟩
instance : ByT 257 8 := ⟨by kernel_rfl⟩
instance : FlT 258 := ⟨by kernel_rfl, by kernel_rfl⟩
instance : ZrT 258 [.nilFunc] := ⟨by kernel_rfl⟩
instance : ByT 258 8 := ⟨by kernel_rfl⟩
instance : FlT 259 := ⟨by kernel_rfl, by kernel_rfl⟩
instance : ZrT 259 [.nilFunc] := ⟨by kernel_rfl⟩
instance : ByT 259 8 := ⟨by kernel_rfl⟩
instance : FlT 260 := ⟨by kernel_rfl, by kernel_rfl⟩
instance : ZrT 260 [.nilFunc] := ⟨by kernel_rfl⟩
instance : ByT 260 8 := ⟨by kernel_rfl⟩
instance : FlT 262 := ⟨by kernel_rfl, by kernel_rfl⟩
instance : ZrT 262 [.nilFunc] := ⟨by kernel_rfl⟩
instance : ByT 262 8 := ⟨by kernel_rfl⟩
instance : FlT 263 := ⟨by kernel_rfl, by kernel_rfl⟩
instance : ZrT 263 [.nilFunc] := ⟨by kernel_rfl⟩
instance : ByT 263 8 := ⟨by kernel_rfl⟩
instance : FlT 264 := ⟨by kernel_rfl, by kernel_rfl⟩
instance : InT 264 .i64 := ⟨by kernel_rfl⟩
instance : ZrT 264 [.int .i64 0] := ⟨by kernel_rfl⟩
instance : ByT 264 8 := ⟨by kernel_rfl⟩
instance : FlT 266 := ⟨by kernel_rfl, by kernel_rfl⟩
instance : ZrT 266 [.nilFunc] := ⟨by kernel_rfl⟩
instance : ByT 266 8 := ⟨by kernel_rfl⟩
instance : FlT 267 := ⟨by kernel_rfl, by kernel_rfl⟩
instance : ZrT 267 [.nilFunc] := ⟨by kernel_rfl⟩
instance : ByT 267 8 := ⟨by kernel_rfl⟩
instance : FlT 268 := ⟨by kernel_rfl, by kernel_rfl⟩
instance : ZrT 268 [.nilFunc] := ⟨by kernel_rfl⟩
instance : ByT 268 8 := ⟨by kernel_rfl⟩
instance : FlT 269 := ⟨by kernel_rfl, by kernel_rfl⟩
instance : ZrT 269 [.nilFunc] := ⟨by kernel_rfl⟩
instance : ByT 269 8 := ⟨by kernel_rfl⟩
instance : FlT 270 := ⟨by kernel_rfl, by kernel_rfl⟩
instance : ZrT 270 [.nilFunc] := ⟨by kernel_rfl⟩
instance : ByT 270 8 := ⟨by kernel_rfl⟩
instance : FlT 271 := ⟨by kernel_rfl, by kernel_rfl⟩
instance : ZrT 271 [.nilFunc] := ⟨by kernel_rfl⟩
instance : ByT 271 8 := ⟨by kernel_rfl⟩
instance : FlT 273 := ⟨by kernel_rfl, by kernel_rfl⟩
instance : ZrT 273 [.nilFunc] := ⟨by kernel_rfl⟩
instance : ByT 273 8 := ⟨by kernel_rfl⟩
instance : FlT 275 := ⟨by kernel_rfl, by kernel_rfl⟩
instance : ZrT 275 [.nilFunc] := ⟨by kernel_rfl⟩
instance : ByT 275 8 := ⟨by kernel_rfl⟩
instance : FlT 276 := ⟨by kernel_rfl, by kernel_rfl⟩
instance : ZrT 276 [.nilFunc] := ⟨by kernel_rfl⟩
instance : ByT 276 8 := ⟨by kernel_rfl⟩
instance : FlT 277 := ⟨by kernel_rfl, by kernel_rfl⟩
instance : InT 277 .u64 := ⟨by kernel_rfl⟩
instance : ZrT 277 [.int .u64 0] := ⟨by kernel_rfl⟩
instance : ByT 277 8 := ⟨by kernel_rfl⟩
instance : FlT 278 := ⟨by kernel_rfl, by kernel_rfl⟩
instance : ZrT 278 [.nilFunc] := ⟨by kernel_rfl⟩
instance : ByT 278 8 := ⟨by kernel_rfl⟩
instance : FlT 279 := ⟨by kernel_rfl, by kernel_rfl⟩
instance : ZrT 279 [.nilFunc] := ⟨by kernel_rfl⟩
instance : ByT 279 8 := ⟨by kernel_rfl⟩
instance : FlT 280 := ⟨by kernel_rfl, by kernel_rfl⟩
instance : ZrT 280 [.nilFunc] := ⟨by kernel_rfl⟩
instance : ByT 280 8 := ⟨by kernel_rfl⟩
instance : FlT 281 := ⟨by kernel_rfl, by kernel_rfl⟩
instance : ZrT 281 [.pointer none] := ⟨by kernel_rfl⟩
instance : ByT 281 8 := ⟨by kernel_rfl⟩
instance : FlT 282 := ⟨by kernel_rfl, by kernel_rfl⟩
instance : ZrT 282 [.nilFunc] := ⟨by kernel_rfl⟩
instance : ByT 282 8 := ⟨by kernel_rfl⟩
instance : FlT 284 := ⟨by kernel_rfl, by kernel_rfl⟩
instance : ZrT 284 [.nilFunc] := ⟨by kernel_rfl⟩
instance : ByT 284 8 := ⟨by kernel_rfl⟩
instance : FlT 285 := ⟨by kernel_rfl, by kernel_rfl⟩
instance : ZrT 285 [.nilFunc] := ⟨by kernel_rfl⟩
instance : ByT 285 8 := ⟨by kernel_rfl⟩
instance : FlT 286 := ⟨by kernel_rfl, by kernel_rfl⟩
instance : ZrT 286 [.nilFunc] := ⟨by kernel_rfl⟩
instance : ByT 286 8 := ⟨by kernel_rfl⟩
instance : FlT 287 := ⟨by kernel_rfl, by kernel_rfl⟩
instance : ZrT 287 [.pointer none] := ⟨by kernel_rfl⟩
instance : ByT 287 8 := ⟨by kernel_rfl⟩
instance : FlT 288 := ⟨by kernel_rfl, by kernel_rfl⟩
instance : ZrT 288 [.nilFunc] := ⟨by kernel_rfl⟩
instance : ByT 288 8 := ⟨by kernel_rfl⟩
instance : FlT 289 := ⟨by kernel_rfl, by kernel_rfl⟩
instance : ZrT 289 [.nilFunc] := ⟨by kernel_rfl⟩
instance : ByT 289 8 := ⟨by kernel_rfl⟩
instance : FlT 290 := ⟨by kernel_rfl, by kernel_rfl⟩
instance : ZrT 290 [.nilFunc] := ⟨by kernel_rfl⟩
instance : ByT 290 8 := ⟨by kernel_rfl⟩
instance : AgT 291 4 := ⟨by kernel_rfl, by kernel_rfl⟩
instance : StT 291 [(0, 1), (1, 1), (2, 1), (3, 1)] := ⟨by kernel_rfl, by kernel_rfl⟩
instance : ByT 291 40 := ⟨by kernel_rfl⟩
instance : AgT 292 4 := ⟨by kernel_rfl, by kernel_rfl⟩
instance : StT 292 [(0, 1), (1, 1), (2, 1), (3, 1)] := ⟨by kernel_rfl, by kernel_rfl⟩
instance : ByT 292 40 := ⟨by kernel_rfl⟩
instance : AgT 293 0 := ⟨by kernel_rfl, by kernel_rfl⟩
instance : ZrT 293 [] := ⟨by kernel_rfl⟩
instance : ByT 293 0 := ⟨by kernel_rfl⟩
instance : AgT 294 0 := ⟨by kernel_rfl, by kernel_rfl⟩
instance : StT 294 [(0, 0)] := ⟨by kernel_rfl, by kernel_rfl⟩
instance : ZrT 294 [] := ⟨by kernel_rfl⟩
instance : ByT 294 0 := ⟨by kernel_rfl⟩
instance : Fn_ 3 := ⟨fun vs w => Tryz.call3 vs w⟩
instance : Fn_ 4 := ⟨fun vs w => Tryz.call4 vs w⟩
instance : Fn_ 5 := ⟨fun vs w => Tryz.call5 vs w⟩
instance : Fn_ 6 := ⟨fun vs w => Tryz.call6 vs w⟩
instance : Fn_ 7 := ⟨fun vs w => Tryz.call7 vs w⟩
instance : Fn_ 8 := ⟨fun vs w => Tryz.call8 vs w⟩
instance : Fn_ 9 := ⟨fun vs w => Tryz.call9 vs w⟩
instance : Fn_ 10 := ⟨fun vs w => Tryz.call10 vs w⟩
instance : Fn_ 11 := ⟨fun vs w => Tryz.call11 vs w⟩
instance : Fn_ 12 := ⟨fun vs w => Tryz.call12 vs w⟩
instance : Fn_ 13 := ⟨fun vs w => Tryz.call13 vs w⟩
instance : Fn_ 14 := ⟨fun vs w => Tryz.call14 vs w⟩
instance : Fn_ 15 := ⟨fun vs w => Tryz.call15 vs w⟩
instance : Fn_ 16 := ⟨fun vs w => Tryz.call16 vs w⟩
instance : Fn_ 17 := ⟨fun vs w => Tryz.call17 vs w⟩
instance : Fn_ 18 := ⟨fun vs w => Tryz.call18 vs w⟩
instance : Fn_ 19 := ⟨fun vs w => Tryz.call19 vs w⟩
instance : Fn_ 20 := ⟨fun vs w => Tryz.call20 vs w⟩
instance : Fn_ 21 := ⟨fun vs w => Tryz.call21 vs w⟩
instance : Fn_ 22 := ⟨fun vs w => Tryz.call22 vs w⟩
instance : Fn_ 23 := ⟨fun vs w => Tryz.call23 vs w⟩
instance : Fn_ 24 := ⟨fun vs w => Tryz.call24 vs w⟩
instance : Fn_ 25 := ⟨fun vs w => Tryz.call25 vs w⟩
instance : Fn_ 26 := ⟨fun vs w => Tryz.call26 vs w⟩
instance : Fn_ 27 := ⟨fun vs w => Tryz.call27 vs w⟩
instance : Fn_ 28 := ⟨fun vs w => Tryz.call28 vs w⟩
instance : Fn_ 29 := ⟨fun vs w => Tryz.call29 vs w⟩
instance : Fn_ 30 := ⟨fun vs w => Tryz.call30 vs w⟩
instance : Fn_ 31 := ⟨fun vs w => Tryz.call31 vs w⟩
instance : Fn_ 32 := ⟨fun vs w => Tryz.call32 vs w⟩
instance : Fn_ 33 := ⟨fun vs w => Tryz.call33 vs w⟩
instance : Fn_ 34 := ⟨fun vs w => Tryz.call34 vs w⟩
instance : Fn_ 35 := ⟨fun vs w => Tryz.call35 vs w⟩
instance : Fn_ 36 := ⟨fun vs w => Tryz.call36 vs w⟩
instance : Fn_ 37 := ⟨fun vs w => Tryz.call37 vs w⟩
instance : Fn_ 38 := ⟨fun vs w => Tryz.call38 vs w⟩
instance : Fn_ 39 := ⟨fun vs w => Tryz.call39 vs w⟩
instance : Fn_ 40 := ⟨fun vs w => Tryz.call40 vs w⟩
instance : Fn_ 41 := ⟨fun vs w => Tryz.call41 vs w⟩
instance : Fn_ 42 := ⟨fun vs w => Tryz.call42 vs w⟩
instance : Fn_ 43 := ⟨fun vs w => Tryz.call43 vs w⟩
instance : Fn_ 44 := ⟨fun vs w => Tryz.call44 vs w⟩
instance : Fn_ 45 := ⟨fun vs w => Tryz.call45 vs w⟩
instance : Fn_ 46 := ⟨fun vs w => Tryz.call46 vs w⟩
instance : Fn_ 47 := ⟨fun vs w => Tryz.call47 vs w⟩
instance : Fn_ 48 := ⟨fun vs w => Tryz.call48 vs w⟩
instance : Fn_ 49 := ⟨fun vs w => Tryz.call49 vs w⟩
instance : Fn_ 50 := ⟨fun vs w => Tryz.call50 vs w⟩
instance : Fn_ 51 := ⟨fun vs w => Tryz.call51 vs w⟩
instance : Fn_ 52 := ⟨fun vs w => Tryz.call52 vs w⟩
instance : Fn_ 53 := ⟨fun vs w => Tryz.call53 vs w⟩
instance : Fn_ 54 := ⟨fun vs w => Tryz.call54 vs w⟩
instance : Fn_ 55 := ⟨fun vs w => Tryz.call55 vs w⟩
instance : Fn_ 56 := ⟨fun vs w => Tryz.call56 vs w⟩
instance : Fn_ 57 := ⟨fun vs w => Tryz.call57 vs w⟩
instance : Fn_ 58 := ⟨fun vs w => Tryz.call58 vs w⟩
instance : Fn_ 59 := ⟨fun vs w => Tryz.call59 vs w⟩
instance : Fn_ 60 := ⟨fun vs w => Tryz.call60 vs w⟩
instance : Fn_ 61 := ⟨fun vs w => Tryz.call61 vs w⟩
instance : Fn_ 62 := ⟨fun vs w => Tryz.call62 vs w⟩
instance : Fn_ 63 := ⟨fun vs w => Tryz.call63 vs w⟩
instance : Fn_ 64 := ⟨fun vs w => Tryz.call64 vs w⟩
instance : Fn_ 65 := ⟨fun vs w => Tryz.call65 vs w⟩
instance : Fn_ 66 := ⟨fun vs w => Tryz.call66 vs w⟩
instance : Fn_ 67 := ⟨fun vs w => Tryz.call67 vs w⟩
instance : Fn_ 68 := ⟨fun vs w => Tryz.call68 vs w⟩
instance : Fn_ 69 := ⟨fun vs w => Tryz.call69 vs w⟩
instance : Fn_ 70 := ⟨fun vs w => Tryz.call70 vs w⟩
instance : Fn_ 71 := ⟨fun vs w => Tryz.call71 vs w⟩
instance : Fn_ 72 := ⟨fun vs w => Tryz.call72 vs w⟩
instance : Fn_ 73 := ⟨fun vs w => Tryz.call73 vs w⟩
instance : Fn_ 74 := ⟨fun vs w => Tryz.call74 vs w⟩
instance : Fn_ 75 := ⟨fun vs w => Tryz.call75 vs w⟩
instance : Fn_ 76 := ⟨fun vs w => Tryz.call76 vs w⟩
instance : Fn_ 77 := ⟨fun vs w => Tryz.call77 vs w⟩
instance : Fn_ 78 := ⟨fun vs w => Tryz.call78 vs w⟩
instance : Fn_ 79 := ⟨fun vs w => Tryz.call79 vs w⟩
instance : Fn_ 80 := ⟨fun vs w => Tryz.call80 vs w⟩
instance : Fn_ 81 := ⟨fun vs w => Tryz.call81 vs w⟩
instance : Fn_ 82 := ⟨fun vs w => Tryz.call82 vs w⟩
instance : Fn_ 83 := ⟨fun vs w => Tryz.call83 vs w⟩
instance : Fn_ 84 := ⟨fun vs w => Tryz.call84 vs w⟩
instance : Fn_ 85 := ⟨fun vs w => Tryz.call85 vs w⟩
instance : Fn_ 86 := ⟨fun vs w => Tryz.call86 vs w⟩
instance : Fn_ 87 := ⟨fun vs w => Tryz.call87 vs w⟩
instance : Fn_ 88 := ⟨fun vs w => Tryz.call88 vs w⟩
instance : Fn_ 89 := ⟨fun vs w => Tryz.call89 vs w⟩
instance : Fn_ 90 := ⟨fun vs w => Tryz.call90 vs w⟩
instance : Fn_ 91 := ⟨fun vs w => Tryz.call91 vs w⟩
instance : Fn_ 92 := ⟨fun vs w => Tryz.call92 vs w⟩
instance : Fn_ 93 := ⟨fun vs w => Tryz.call93 vs w⟩
instance : Fn_ 94 := ⟨fun vs w => Tryz.call94 vs w⟩
instance : Fn_ 95 := ⟨fun vs w => Tryz.call95 vs w⟩
instance : Fn_ 96 := ⟨fun vs w => Tryz.call96 vs w⟩
instance : Fn_ 97 := ⟨fun vs w => Tryz.call97 vs w⟩
instance : Fn_ 98 := ⟨fun vs w => Tryz.call98 vs w⟩
instance : Fn_ 99 := ⟨fun vs w => Tryz.call99 vs w⟩
instance : Fn_ 100 := ⟨fun vs w => Tryz.call100 vs w⟩
instance : Fn_ 101 := ⟨fun vs w => Tryz.call101 vs w⟩
instance : Fn_ 102 := ⟨fun vs w => Tryz.call102 vs w⟩
instance : Fn_ 103 := ⟨fun vs w => Tryz.call103 vs w⟩
instance : Fn_ 104 := ⟨fun vs w => Tryz.call104 vs w⟩
instance : Fn_ 105 := ⟨fun vs w => Tryz.call105 vs w⟩
instance : Fn_ 106 := ⟨fun vs w => Tryz.call106 vs w⟩
instance : Fn_ 107 := ⟨fun vs w => Tryz.call107 vs w⟩
instance : Fn_ 108 := ⟨fun vs w => Tryz.call108 vs w⟩
instance : Fn_ 109 := ⟨fun vs w => Tryz.call109 vs w⟩
instance : Fn_ 110 := ⟨fun vs w => Tryz.call110 vs w⟩
instance : Fn_ 111 := ⟨fun vs w => Tryz.call111 vs w⟩
instance : Fn_ 112 := ⟨fun vs w => Tryz.call112 vs w⟩
instance : Fn_ 113 := ⟨fun vs w => Tryz.call113 vs w⟩
instance : Fn_ 114 := ⟨fun vs w => Tryz.call114 vs w⟩
instance : Fn_ 115 := ⟨fun vs w => Tryz.call115 vs w⟩
instance : Fn_ 116 := ⟨fun vs w => Tryz.call116 vs w⟩
instance : Fn_ 117 := ⟨fun vs w => Tryz.call117 vs w⟩
instance : Fn_ 118 := ⟨fun vs w => Tryz.call118 vs w⟩
instance : Fn_ 119 := ⟨fun vs w => Tryz.call119 vs w⟩
instance : Fn_ 120 := ⟨fun vs w => Tryz.call120 vs w⟩
instance : Fn_ 121 := ⟨fun vs w => Tryz.call121 vs w⟩
instance : Fn_ 122 := ⟨fun vs w => Tryz.call122 vs w⟩
instance : Fn_ 123 := ⟨fun vs w => Tryz.call123 vs w⟩
instance : Fn_ 124 := ⟨fun vs w => Tryz.call124 vs w⟩
instance : Fn_ 125 := ⟨fun vs w => Tryz.call125 vs w⟩
instance : Fn_ 126 := ⟨fun vs w => Tryz.call126 vs w⟩
instance : Fn_ 127 := ⟨fun vs w => Tryz.call127 vs w⟩
instance : Fn_ 128 := ⟨fun vs w => Tryz.call128 vs w⟩
instance : Fn_ 129 := ⟨fun vs w => Tryz.call129 vs w⟩
instance : Fn_ 130 := ⟨fun vs w => Tryz.call130 vs w⟩
instance : Fn_ 131 := ⟨fun vs w => Tryz.call131 vs w⟩
instance : Fn_ 132 := ⟨fun vs w => Tryz.call132 vs w⟩
instance : Fn_ 133 := ⟨fun vs w => Tryz.call133 vs w⟩
instance : Fn_ 134 := ⟨fun vs w => Tryz.call134 vs w⟩
instance : Fn_ 135 := ⟨fun vs w => Tryz.call135 vs w⟩
instance : Fn_ 136 := ⟨fun vs w => Tryz.call136 vs w⟩
instance : Fn_ 137 := ⟨fun vs w => Tryz.call137 vs w⟩
instance : Fn_ 138 := ⟨fun vs w => Tryz.call138 vs w⟩
instance : Fn_ 139 := ⟨fun vs w => Tryz.call139 vs w⟩
instance : Fn_ 140 := ⟨fun vs w => Tryz.call140 vs w⟩
instance : Fn_ 141 := ⟨fun vs w => Tryz.call141 vs w⟩
instance : Fn_ 142 := ⟨fun vs w => Tryz.call142 vs w⟩
instance : Fn_ 143 := ⟨fun vs w => Tryz.call143 vs w⟩
instance : Fn_ 144 := ⟨fun vs w => Tryz.call144 vs w⟩
instance : Fn_ 145 := ⟨fun vs w => Tryz.call145 vs w⟩
instance : Fn_ 146 := ⟨fun vs w => Tryz.call146 vs w⟩
instance : Fn_ 147 := ⟨fun vs w => Tryz.call147 vs w⟩
instance : Fn_ 148 := ⟨fun vs w => Tryz.call148 vs w⟩
instance : Fn_ 149 := ⟨fun vs w => Tryz.call149 vs w⟩
instance : Fn_ 150 := ⟨fun vs w => Tryz.call150 vs w⟩
instance : Fn_ 151 := ⟨fun vs w => Tryz.call151 vs w⟩
instance : Fn_ 152 := ⟨fun vs w => Tryz.call152 vs w⟩
instance : Fn_ 153 := ⟨fun vs w => Tryz.call153 vs w⟩
instance : Fn_ 154 := ⟨fun vs w => Tryz.call154 vs w⟩
instance : Fn_ 155 := ⟨fun vs w => Tryz.call155 vs w⟩
instance : Fn_ 156 := ⟨fun vs w => Tryz.call156 vs w⟩
instance : Fn_ 157 := ⟨fun vs w => Tryz.call157 vs w⟩
instance : Fn_ 158 := ⟨fun vs w => Tryz.call158 vs w⟩
instance : Fn_ 159 := ⟨fun vs w => Tryz.call159 vs w⟩
instance : Fn_ 160 := ⟨fun vs w => Tryz.call160 vs w⟩
instance : Fn_ 161 := ⟨fun vs w => Tryz.call161 vs w⟩
instance : Fn_ 162 := ⟨fun vs w => Tryz.call162 vs w⟩
instance : Fn_ 163 := ⟨fun vs w => Tryz.call163 vs w⟩
instance : Fn_ 164 := ⟨fun vs w => Tryz.call164 vs w⟩
instance : Fn_ 165 := ⟨fun vs w => Tryz.call165 vs w⟩
instance : Fn_ 166 := ⟨fun vs w => Tryz.call166 vs w⟩
instance : Fn_ 167 := ⟨fun vs w => Tryz.call167 vs w⟩
instance : Fn_ 168 := ⟨fun vs w => Tryz.call168 vs w⟩
instance : Fn_ 169 := ⟨fun vs w => Tryz.call169 vs w⟩
instance : Fn_ 170 := ⟨fun vs w => Tryz.call170 vs w⟩
instance : Fn_ 171 := ⟨fun vs w => Tryz.call171 vs w⟩
instance : Fn_ 172 := ⟨fun vs w => Tryz.call172 vs w⟩
instance : Fn_ 173 := ⟨fun vs w => Tryz.call173 vs w⟩
instance : Fn_ 174 := ⟨fun vs w => Tryz.call174 vs w⟩
instance : Fn_ 175 := ⟨fun vs w => Tryz.call175 vs w⟩
instance : Fn_ 176 := ⟨fun vs w => Tryz.call176 vs w⟩
instance : Fn_ 177 := ⟨fun vs w => Tryz.call177 vs w⟩
instance : Fn_ 178 := ⟨fun vs w => Tryz.call178 vs w⟩
instance : Fn_ 179 := ⟨fun vs w => Tryz.call179 vs w⟩
instance : Fn_ 180 := ⟨fun vs w => Tryz.call180 vs w⟩
instance : Fn_ 181 := ⟨fun vs w => Tryz.call181 vs w⟩
instance : Fn_ 182 := ⟨fun vs w => Tryz.call182 vs w⟩
instance : Fn_ 183 := ⟨fun vs w => Tryz.call183 vs w⟩
instance : Fn_ 184 := ⟨fun vs w => Tryz.call184 vs w⟩
instance : Fn_ 185 := ⟨fun vs w => Tryz.call185 vs w⟩
instance : Fn_ 186 := ⟨fun vs w => Tryz.call186 vs w⟩
instance : Fn_ 187 := ⟨fun vs w => Tryz.call187 vs w⟩
instance : Fn_ 188 := ⟨fun vs w => Tryz.call188 vs w⟩
instance : Fn_ 189 := ⟨fun vs w => Tryz.call189 vs w⟩
instance : Fn_ 190 := ⟨fun vs w => Tryz.call190 vs w⟩
instance : Fn_ 191 := ⟨fun vs w => Tryz.call191 vs w⟩
instance : Fn_ 192 := ⟨fun vs w => Tryz.call192 vs w⟩
instance : Fn_ 193 := ⟨fun vs w => Tryz.call193 vs w⟩
instance : Fn_ 194 := ⟨fun vs w => Tryz.call194 vs w⟩
instance : Fn_ 195 := ⟨fun vs w => Tryz.call195 vs w⟩
instance : Fn_ 196 := ⟨fun vs w => Tryz.call196 vs w⟩
instance : Fn_ 197 := ⟨fun vs w => Tryz.call197 vs w⟩
instance : Fn_ 198 := ⟨fun vs w => Tryz.call198 vs w⟩
instance : Fn_ 199 := ⟨fun vs w => Tryz.call199 vs w⟩
instance : Fn_ 200 := ⟨fun vs w => Tryz.call200 vs w⟩
instance : Fn_ 201 := ⟨fun vs w => Tryz.call201 vs w⟩
instance : Fn_ 202 := ⟨fun vs w => Tryz.call202 vs w⟩
instance : Fn_ 203 := ⟨fun vs w => Tryz.call203 vs w⟩
instance : Fn_ 204 := ⟨fun vs w => Tryz.call204 vs w⟩
instance : Fn_ 205 := ⟨fun vs w => Tryz.call205 vs w⟩
instance : Fn_ 206 := ⟨fun vs w => Tryz.call206 vs w⟩
instance : Fn_ 207 := ⟨fun vs w => Tryz.call207 vs w⟩
instance : Fn_ 208 := ⟨fun vs w => Tryz.call208 vs w⟩
instance : Fn_ 209 := ⟨fun vs w => Tryz.call209 vs w⟩
instance : Fn_ 210 := ⟨fun vs w => Tryz.call210 vs w⟩
instance : Fn_ 211 := ⟨fun vs w => Tryz.call211 vs w⟩
instance : Fn_ 212 := ⟨fun vs w => Tryz.call212 vs w⟩
instance : Fn_ 213 := ⟨fun vs w => Tryz.call213 vs w⟩
instance : Fn_ 214 := ⟨fun vs w => Tryz.call214 vs w⟩
instance : Fn_ 215 := ⟨fun vs w => Tryz.call215 vs w⟩
end Go.Proofs.YthkoodpnepfijaaGreatDoor
