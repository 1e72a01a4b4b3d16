/- What the program's types are, for the small logic: read off the loaded program by the kernel. By a program (gen.py). No condition. -/
import Derived.Test.YtgdlkhgfehclpaaProg
import Derived.Test.YtgdlkhgfehclpaaALm
import Derived.KernelRfl
namespace Go.Proofs.Ytgdlkhgfehclpaa
open Go.AL

theorem mixed : Try.prog.follows .mixedOrders = true := by kernel_rfl
theorem tsize_2 : tsize Try.prog 2 = some 1 := by kernel_rfl
theorem tbytes_2 : tbytes Try.prog 2 = some 8 := by kernel_rfl
theorem tagg_2 : tagg Try.prog 2 = some false := by kernel_rfl
theorem zcells_2 : zcells Try.prog 2 = some [AV.int .i64 0] := by kernel_rfl
theorem telem_2 : telem Try.prog 2 = none := by kernel_rfl
theorem tint_2 : tint Try.prog 2 = some .i64 := by kernel_rfl
theorem tnotIface_2 : tnotIface Try.prog 2 = true := by kernel_rfl
theorem tsize_3 : tsize Try.prog 3 = some 1 := by kernel_rfl
theorem tbytes_3 : tbytes Try.prog 3 = some 8 := by kernel_rfl
theorem tagg_3 : tagg Try.prog 3 = some false := by kernel_rfl
theorem zcells_3 : zcells Try.prog 3 = some [AV.int .i64 0] := by kernel_rfl
theorem telem_3 : telem Try.prog 3 = none := by kernel_rfl
theorem tint_3 : tint Try.prog 3 = some .i64 := by kernel_rfl
theorem tnotIface_3 : tnotIface Try.prog 3 = true := by kernel_rfl
theorem tsize_4 : tsize Try.prog 4 = some 1 := by kernel_rfl
theorem tbytes_4 : tbytes Try.prog 4 = some 1 := by kernel_rfl
theorem tagg_4 : tagg Try.prog 4 = some false := by kernel_rfl
theorem zcells_4 : zcells Try.prog 4 = some [AV.bool false] := by kernel_rfl
theorem telem_4 : telem Try.prog 4 = none := by kernel_rfl
theorem tbool_4 : tbool Try.prog 4 = true := by kernel_rfl
theorem tnotIface_4 : tnotIface Try.prog 4 = true := by kernel_rfl
theorem tsize_5 : tsize Try.prog 5 = some 1 := by kernel_rfl
theorem tbytes_5 : tbytes Try.prog 5 = some 1 := by kernel_rfl
theorem tagg_5 : tagg Try.prog 5 = some false := by kernel_rfl
theorem zcells_5 : zcells Try.prog 5 = some [AV.int .u8 0] := by kernel_rfl
theorem telem_5 : telem Try.prog 5 = none := by kernel_rfl
theorem tint_5 : tint Try.prog 5 = some .u8 := by kernel_rfl
theorem tnotIface_5 : tnotIface Try.prog 5 = true := by kernel_rfl
theorem tsize_6 : tsize Try.prog 6 = some 1 := by kernel_rfl
theorem tbytes_6 : tbytes Try.prog 6 = some 1 := by kernel_rfl
theorem tagg_6 : tagg Try.prog 6 = some false := by kernel_rfl
theorem zcells_6 : zcells Try.prog 6 = some [AV.int .u8 0] := by kernel_rfl
theorem telem_6 : telem Try.prog 6 = none := by kernel_rfl
theorem tint_6 : tint Try.prog 6 = some .u8 := by kernel_rfl
theorem tnotIface_6 : tnotIface Try.prog 6 = true := by kernel_rfl
theorem tsize_7 : tsize Try.prog 7 = some 4 := by kernel_rfl
theorem tbytes_7 : tbytes Try.prog 7 = some 24 := by kernel_rfl
theorem tagg_7 : tagg Try.prog 7 = some true := by kernel_rfl
theorem zcells_7 : zcells Try.prog 7 = some [AV.int .i64 0, AV.int .i64 0, AV.bool false, AV.int .u8 0] := by kernel_rfl
theorem telem_7 : telem Try.prog 7 = none := by kernel_rfl
theorem tnotIface_7 : tnotIface Try.prog 7 = true := by kernel_rfl
theorem foff_7_0 : foff Try.prog 7 0 = some (0, 2) := by kernel_rfl
theorem foff_7_1 : foff Try.prog 7 1 = some (1, 3) := by kernel_rfl
theorem foff_7_2 : foff Try.prog 7 2 = some (2, 4) := by kernel_rfl
theorem foff_7_3 : foff Try.prog 7 3 = some (3, 6) := by kernel_rfl
theorem fplaces_7 : fplaces Try.prog 7 = some [(0, 1), (1, 1), (2, 1), (3, 1)] := by kernel_rfl
theorem tsize_8 : tsize Try.prog 8 = some 4 := by kernel_rfl
theorem tbytes_8 : tbytes Try.prog 8 = some 24 := by kernel_rfl
theorem tagg_8 : tagg Try.prog 8 = some true := by kernel_rfl
theorem zcells_8 : zcells Try.prog 8 = some [AV.int .i64 0, AV.int .i64 0, AV.bool false, AV.int .u8 0] := by kernel_rfl
theorem telem_8 : telem Try.prog 8 = none := by kernel_rfl
theorem tnotIface_8 : tnotIface Try.prog 8 = true := by kernel_rfl
theorem foff_8_0 : foff Try.prog 8 0 = some (0, 2) := by kernel_rfl
theorem foff_8_1 : foff Try.prog 8 1 = some (1, 3) := by kernel_rfl
theorem foff_8_2 : foff Try.prog 8 2 = some (2, 4) := by kernel_rfl
theorem foff_8_3 : foff Try.prog 8 3 = some (3, 6) := by kernel_rfl
theorem fplaces_8 : fplaces Try.prog 8 = some [(0, 1), (1, 1), (2, 1), (3, 1)] := by kernel_rfl
theorem tsize_9 : tsize Try.prog 9 = some 1 := by kernel_rfl
theorem tbytes_9 : tbytes Try.prog 9 = some 16 := by kernel_rfl
theorem tagg_9 : tagg Try.prog 9 = some false := by kernel_rfl
theorem zcells_9 : zcells Try.prog 9 = some [AV.str ⟨#[]⟩] := by kernel_rfl
theorem telem_9 : telem Try.prog 9 = none := by kernel_rfl
theorem tstring_9 : tstring Try.prog 9 = true := by kernel_rfl
theorem tnotIface_9 : tnotIface Try.prog 9 = true := by kernel_rfl
theorem tsize_10 : tsize Try.prog 10 = some 1 := by kernel_rfl
theorem tbytes_10 : tbytes Try.prog 10 = some 16 := by kernel_rfl
theorem tagg_10 : tagg Try.prog 10 = some false := by kernel_rfl
theorem zcells_10 : zcells Try.prog 10 = some [AV.str ⟨#[]⟩] := by kernel_rfl
theorem telem_10 : telem Try.prog 10 = none := by kernel_rfl
theorem tstring_10 : tstring Try.prog 10 = true := by kernel_rfl
theorem tnotIface_10 : tnotIface Try.prog 10 = true := by kernel_rfl
theorem tsize_11 : tsize Try.prog 11 = some 1 := by kernel_rfl
theorem tbytes_11 : tbytes Try.prog 11 = some 16 := by kernel_rfl
theorem tagg_11 : tagg Try.prog 11 = some false := by kernel_rfl
theorem zcells_11 : zcells Try.prog 11 = some [AV.str ⟨#[]⟩] := by kernel_rfl
theorem telem_11 : telem Try.prog 11 = none := by kernel_rfl
theorem tstring_11 : tstring Try.prog 11 = true := by kernel_rfl
theorem tnotIface_11 : tnotIface Try.prog 11 = true := by kernel_rfl
theorem tsize_12 : tsize Try.prog 12 = some 1 := by kernel_rfl
theorem tbytes_12 : tbytes Try.prog 12 = some 8 := by kernel_rfl
theorem tagg_12 : tagg Try.prog 12 = some false := by kernel_rfl
theorem zcells_12 : zcells Try.prog 12 = some [AV.int .u64 0] := by kernel_rfl
theorem telem_12 : telem Try.prog 12 = none := by kernel_rfl
theorem tint_12 : tint Try.prog 12 = some .u64 := by kernel_rfl
theorem tnotIface_12 : tnotIface Try.prog 12 = true := by kernel_rfl
theorem tsize_13 : tsize Try.prog 13 = some 2 := by kernel_rfl
theorem tbytes_13 : tbytes Try.prog 13 = some 24 := by kernel_rfl
theorem tagg_13 : tagg Try.prog 13 = some true := by kernel_rfl
theorem zcells_13 : zcells Try.prog 13 = some [AV.str ⟨#[]⟩, AV.int .u64 0] := by kernel_rfl
theorem telem_13 : telem Try.prog 13 = none := by kernel_rfl
theorem tnotIface_13 : tnotIface Try.prog 13 = true := by kernel_rfl
theorem foff_13_0 : foff Try.prog 13 0 = some (0, 9) := by kernel_rfl
theorem foff_13_1 : foff Try.prog 13 1 = some (1, 12) := by kernel_rfl
theorem fplaces_13 : fplaces Try.prog 13 = some [(0, 1), (1, 1)] := by kernel_rfl
theorem tsize_14 : tsize Try.prog 14 = some 2 := by kernel_rfl
theorem tbytes_14 : tbytes Try.prog 14 = some 24 := by kernel_rfl
theorem tagg_14 : tagg Try.prog 14 = some true := by kernel_rfl
theorem zcells_14 : zcells Try.prog 14 = some [AV.str ⟨#[]⟩, AV.int .u64 0] := by kernel_rfl
theorem telem_14 : telem Try.prog 14 = none := by kernel_rfl
theorem tnotIface_14 : tnotIface Try.prog 14 = true := by kernel_rfl
theorem foff_14_0 : foff Try.prog 14 0 = some (0, 9) := by kernel_rfl
theorem foff_14_1 : foff Try.prog 14 1 = some (1, 12) := by kernel_rfl
theorem fplaces_14 : fplaces Try.prog 14 = some [(0, 1), (1, 1)] := by kernel_rfl
theorem tsize_15 : tsize Try.prog 15 = some 1 := by kernel_rfl
theorem tbytes_15 : tbytes Try.prog 15 = some 8 := by kernel_rfl
theorem tagg_15 : tagg Try.prog 15 = some false := by kernel_rfl
theorem zcells_15 : zcells Try.prog 15 = some [AV.nilp] := by kernel_rfl
theorem telem_15 : telem Try.prog 15 = none := by kernel_rfl
theorem tptr_15 : tptr Try.prog 15 = true := by kernel_rfl
theorem tnotIface_15 : tnotIface Try.prog 15 = true := by kernel_rfl
theorem tsize_16 : tsize Try.prog 16 = some 1 := by kernel_rfl
theorem tbytes_16 : tbytes Try.prog 16 = some 8 := by kernel_rfl
theorem tagg_16 : tagg Try.prog 16 = some false := by kernel_rfl
theorem zcells_16 : zcells Try.prog 16 = some [AV.nilp] := by kernel_rfl
theorem telem_16 : telem Try.prog 16 = none := by kernel_rfl
theorem tptr_16 : tptr Try.prog 16 = true := by kernel_rfl
theorem tnotIface_16 : tnotIface Try.prog 16 = true := by kernel_rfl
theorem tsize_17 : tsize Try.prog 17 = some 1 := by kernel_rfl
theorem tbytes_17 : tbytes Try.prog 17 = some 8 := by kernel_rfl
theorem tagg_17 : tagg Try.prog 17 = some false := by kernel_rfl
theorem zcells_17 : zcells Try.prog 17 = some [AV.nilp] := by kernel_rfl
theorem telem_17 : telem Try.prog 17 = none := by kernel_rfl
theorem tptr_17 : tptr Try.prog 17 = true := by kernel_rfl
theorem tnotIface_17 : tnotIface Try.prog 17 = true := by kernel_rfl
theorem tsize_18 : tsize Try.prog 18 = some 1 := by kernel_rfl
theorem tbytes_18 : tbytes Try.prog 18 = some 8 := by kernel_rfl
theorem tagg_18 : tagg Try.prog 18 = some true := by kernel_rfl
theorem zcells_18 : zcells Try.prog 18 = some [AV.nilp] := by kernel_rfl
theorem telem_18 : telem Try.prog 18 = none := by kernel_rfl
theorem tnotIface_18 : tnotIface Try.prog 18 = true := by kernel_rfl
theorem foff_18_0 : foff Try.prog 18 0 = some (0, 17) := by kernel_rfl
theorem fplaces_18 : fplaces Try.prog 18 = some [(0, 1)] := by kernel_rfl
theorem tsize_19 : tsize Try.prog 19 = some 1 := by kernel_rfl
theorem tbytes_19 : tbytes Try.prog 19 = some 8 := by kernel_rfl
theorem tagg_19 : tagg Try.prog 19 = some true := by kernel_rfl
theorem zcells_19 : zcells Try.prog 19 = some [AV.nilp] := by kernel_rfl
theorem telem_19 : telem Try.prog 19 = none := by kernel_rfl
theorem tnotIface_19 : tnotIface Try.prog 19 = true := by kernel_rfl
theorem foff_19_0 : foff Try.prog 19 0 = some (0, 17) := by kernel_rfl
theorem fplaces_19 : fplaces Try.prog 19 = some [(0, 1)] := by kernel_rfl
theorem tsize_20 : tsize Try.prog 20 = some 1 := by kernel_rfl
theorem tbytes_20 : tbytes Try.prog 20 = some 16 := by kernel_rfl
theorem tagg_20 : tagg Try.prog 20 = some false := by kernel_rfl
theorem zcells_20 : zcells Try.prog 20 = some [AV.nili] := by kernel_rfl
theorem telem_20 : telem Try.prog 20 = none := by kernel_rfl
theorem tsize_21 : tsize Try.prog 21 = some 1 := by kernel_rfl
theorem tbytes_21 : tbytes Try.prog 21 = some 4 := by kernel_rfl
theorem tagg_21 : tagg Try.prog 21 = some false := by kernel_rfl
theorem zcells_21 : zcells Try.prog 21 = some [AV.int .i32 0] := by kernel_rfl
theorem telem_21 : telem Try.prog 21 = none := by kernel_rfl
theorem tint_21 : tint Try.prog 21 = some .i32 := by kernel_rfl
theorem tnotIface_21 : tnotIface Try.prog 21 = true := by kernel_rfl
theorem tsize_22 : tsize Try.prog 22 = some 1 := by kernel_rfl
theorem tbytes_22 : tbytes Try.prog 22 = some 24 := by kernel_rfl
theorem tagg_22 : tagg Try.prog 22 = some false := by kernel_rfl
theorem zcells_22 : zcells Try.prog 22 = some [AV.nils] := by kernel_rfl
theorem telem_22 : telem Try.prog 22 = some 83 := by kernel_rfl
theorem tnotIface_22 : tnotIface Try.prog 22 = true := by kernel_rfl
theorem tsize_23 : tsize Try.prog 23 = some 1 := by kernel_rfl
theorem tbytes_23 : tbytes Try.prog 23 = some 24 := by kernel_rfl
theorem tagg_23 : tagg Try.prog 23 = some false := by kernel_rfl
theorem zcells_23 : zcells Try.prog 23 = some [AV.nils] := by kernel_rfl
theorem telem_23 : telem Try.prog 23 = some 3 := by kernel_rfl
theorem tnotIface_23 : tnotIface Try.prog 23 = true := by kernel_rfl
theorem tsize_24 : tsize Try.prog 24 = some 3 := by kernel_rfl
theorem tbytes_24 : tbytes Try.prog 24 = some 56 := by kernel_rfl
theorem tagg_24 : tagg Try.prog 24 = some true := by kernel_rfl
theorem zcells_24 : zcells Try.prog 24 = some [AV.int .i64 0, AV.nils, AV.nils] := by kernel_rfl
theorem telem_24 : telem Try.prog 24 = none := by kernel_rfl
theorem tnotIface_24 : tnotIface Try.prog 24 = true := by kernel_rfl
theorem foff_24_0 : foff Try.prog 24 0 = some (0, 3) := by kernel_rfl
theorem foff_24_1 : foff Try.prog 24 1 = some (1, 22) := by kernel_rfl
theorem foff_24_2 : foff Try.prog 24 2 = some (2, 23) := by kernel_rfl
theorem fplaces_24 : fplaces Try.prog 24 = some [(0, 1), (1, 1), (2, 1)] := by kernel_rfl
theorem tsize_25 : tsize Try.prog 25 = some 3 := by kernel_rfl
theorem tbytes_25 : tbytes Try.prog 25 = some 56 := by kernel_rfl
theorem tagg_25 : tagg Try.prog 25 = some true := by kernel_rfl
theorem zcells_25 : zcells Try.prog 25 = some [AV.int .i64 0, AV.nils, AV.nils] := by kernel_rfl
theorem telem_25 : telem Try.prog 25 = none := by kernel_rfl
theorem tnotIface_25 : tnotIface Try.prog 25 = true := by kernel_rfl
theorem foff_25_0 : foff Try.prog 25 0 = some (0, 3) := by kernel_rfl
theorem foff_25_1 : foff Try.prog 25 1 = some (1, 22) := by kernel_rfl
theorem foff_25_2 : foff Try.prog 25 2 = some (2, 23) := by kernel_rfl
theorem fplaces_25 : fplaces Try.prog 25 = some [(0, 1), (1, 1), (2, 1)] := by kernel_rfl
theorem tsize_26 : tsize Try.prog 26 = some 1 := by kernel_rfl
theorem tbytes_26 : tbytes Try.prog 26 = some 8 := by kernel_rfl
theorem tagg_26 : tagg Try.prog 26 = some false := by kernel_rfl
theorem zcells_26 : zcells Try.prog 26 = some [AV.nilp] := by kernel_rfl
theorem telem_26 : telem Try.prog 26 = none := by kernel_rfl
theorem tptr_26 : tptr Try.prog 26 = true := by kernel_rfl
theorem tnotIface_26 : tnotIface Try.prog 26 = true := by kernel_rfl
theorem tsize_27 : tsize Try.prog 27 = some 1 := by kernel_rfl
theorem tbytes_27 : tbytes Try.prog 27 = some 24 := by kernel_rfl
theorem tagg_27 : tagg Try.prog 27 = some false := by kernel_rfl
theorem zcells_27 : zcells Try.prog 27 = some [AV.nils] := by kernel_rfl
theorem telem_27 : telem Try.prog 27 = some 78 := by kernel_rfl
theorem tnotIface_27 : tnotIface Try.prog 27 = true := by kernel_rfl
theorem tsize_28 : tsize Try.prog 28 = some 1 := by kernel_rfl
theorem tbytes_28 : tbytes Try.prog 28 = some 24 := by kernel_rfl
theorem tagg_28 : tagg Try.prog 28 = some false := by kernel_rfl
theorem zcells_28 : zcells Try.prog 28 = some [AV.nils] := by kernel_rfl
theorem telem_28 : telem Try.prog 28 = some 87 := by kernel_rfl
theorem tnotIface_28 : tnotIface Try.prog 28 = true := by kernel_rfl
theorem tsize_29 : tsize Try.prog 29 = some 1 := by kernel_rfl
theorem tbytes_29 : tbytes Try.prog 29 = some 24 := by kernel_rfl
theorem tagg_29 : tagg Try.prog 29 = some false := by kernel_rfl
theorem zcells_29 : zcells Try.prog 29 = some [AV.nils] := by kernel_rfl
theorem telem_29 : telem Try.prog 29 = some 23 := by kernel_rfl
theorem tnotIface_29 : tnotIface Try.prog 29 = true := by kernel_rfl
theorem tsize_30 : tsize Try.prog 30 = some 1 := by kernel_rfl
theorem tbytes_30 : tbytes Try.prog 30 = some 24 := by kernel_rfl
theorem tagg_30 : tagg Try.prog 30 = some false := by kernel_rfl
theorem zcells_30 : zcells Try.prog 30 = some [AV.nils] := by kernel_rfl
theorem telem_30 : telem Try.prog 30 = some 89 := by kernel_rfl
theorem tnotIface_30 : tnotIface Try.prog 30 = true := by kernel_rfl
theorem tsize_31 : tsize Try.prog 31 = some 1 := by kernel_rfl
theorem tbytes_31 : tbytes Try.prog 31 = some 24 := by kernel_rfl
theorem tagg_31 : tagg Try.prog 31 = some false := by kernel_rfl
theorem zcells_31 : zcells Try.prog 31 = some [AV.nils] := by kernel_rfl
theorem telem_31 : telem Try.prog 31 = some 91 := by kernel_rfl
theorem tnotIface_31 : tnotIface Try.prog 31 = true := by kernel_rfl
theorem tsize_32 : tsize Try.prog 32 = some 1 := by kernel_rfl
theorem tbytes_32 : tbytes Try.prog 32 = some 24 := by kernel_rfl
theorem tagg_32 : tagg Try.prog 32 = some false := by kernel_rfl
theorem zcells_32 : zcells Try.prog 32 = some [AV.nils] := by kernel_rfl
theorem telem_32 : telem Try.prog 32 = some 31 := by kernel_rfl
theorem tnotIface_32 : tnotIface Try.prog 32 = true := by kernel_rfl
theorem tsize_33 : tsize Try.prog 33 = some 1 := by kernel_rfl
theorem tbytes_33 : tbytes Try.prog 33 = some 24 := by kernel_rfl
theorem tagg_33 : tagg Try.prog 33 = some false := by kernel_rfl
theorem zcells_33 : zcells Try.prog 33 = some [AV.nils] := by kernel_rfl
theorem telem_33 : telem Try.prog 33 = some 119 := by kernel_rfl
theorem tnotIface_33 : tnotIface Try.prog 33 = true := by kernel_rfl
theorem tsize_34 : tsize Try.prog 34 = some 1 := by kernel_rfl
theorem tbytes_34 : tbytes Try.prog 34 = some 24 := by kernel_rfl
theorem tagg_34 : tagg Try.prog 34 = some false := by kernel_rfl
theorem zcells_34 : zcells Try.prog 34 = some [AV.nils] := by kernel_rfl
theorem telem_34 : telem Try.prog 34 = some 22 := by kernel_rfl
theorem tnotIface_34 : tnotIface Try.prog 34 = true := by kernel_rfl
theorem tsize_35 : tsize Try.prog 35 = some 1 := by kernel_rfl
theorem tbytes_35 : tbytes Try.prog 35 = some 24 := by kernel_rfl
theorem tagg_35 : tagg Try.prog 35 = some false := by kernel_rfl
theorem zcells_35 : zcells Try.prog 35 = some [AV.nils] := by kernel_rfl
theorem telem_35 : telem Try.prog 35 = some 122 := by kernel_rfl
theorem tnotIface_35 : tnotIface Try.prog 35 = true := by kernel_rfl
theorem tsize_36 : tsize Try.prog 36 = some 1 := by kernel_rfl
theorem tbytes_36 : tbytes Try.prog 36 = some 24 := by kernel_rfl
theorem tagg_36 : tagg Try.prog 36 = some false := by kernel_rfl
theorem zcells_36 : zcells Try.prog 36 = some [AV.nils] := by kernel_rfl
theorem telem_36 : telem Try.prog 36 = some 128 := by kernel_rfl
theorem tnotIface_36 : tnotIface Try.prog 36 = true := by kernel_rfl
theorem tsize_37 : tsize Try.prog 37 = some 20 := by kernel_rfl
theorem tbytes_37 : tbytes Try.prog 37 = some 480 := by kernel_rfl
theorem tagg_37 : tagg Try.prog 37 = some true := by kernel_rfl
theorem zcells_37 : zcells Try.prog 37 = some [AV.nils, AV.nils, AV.nils, AV.nils, AV.nils, AV.nils, AV.nils, AV.nils, AV.nils, AV.nils, AV.nils, AV.nils, AV.nils, AV.nils, AV.nils, AV.nils, AV.nils, AV.nils, AV.nils, AV.nils] := by kernel_rfl
theorem telem_37 : telem Try.prog 37 = none := by kernel_rfl
theorem tnotIface_37 : tnotIface Try.prog 37 = true := by kernel_rfl
theorem foff_37_0 : foff Try.prog 37 0 = some (0, 27) := by kernel_rfl
theorem foff_37_1 : foff Try.prog 37 1 = some (1, 27) := by kernel_rfl
theorem foff_37_2 : foff Try.prog 37 2 = some (2, 28) := by kernel_rfl
theorem foff_37_3 : foff Try.prog 37 3 = some (3, 28) := by kernel_rfl
theorem foff_37_4 : foff Try.prog 37 4 = some (4, 29) := by kernel_rfl
theorem foff_37_5 : foff Try.prog 37 5 = some (5, 29) := by kernel_rfl
theorem foff_37_6 : foff Try.prog 37 6 = some (6, 30) := by kernel_rfl
theorem foff_37_7 : foff Try.prog 37 7 = some (7, 30) := by kernel_rfl
theorem foff_37_8 : foff Try.prog 37 8 = some (8, 31) := by kernel_rfl
theorem foff_37_9 : foff Try.prog 37 9 = some (9, 31) := by kernel_rfl
theorem foff_37_10 : foff Try.prog 37 10 = some (10, 32) := by kernel_rfl
theorem foff_37_11 : foff Try.prog 37 11 = some (11, 32) := by kernel_rfl
theorem foff_37_12 : foff Try.prog 37 12 = some (12, 33) := by kernel_rfl
theorem foff_37_13 : foff Try.prog 37 13 = some (13, 33) := by kernel_rfl
theorem foff_37_14 : foff Try.prog 37 14 = some (14, 34) := by kernel_rfl
theorem foff_37_15 : foff Try.prog 37 15 = some (15, 34) := by kernel_rfl
theorem foff_37_16 : foff Try.prog 37 16 = some (16, 35) := by kernel_rfl
theorem foff_37_17 : foff Try.prog 37 17 = some (17, 35) := by kernel_rfl
theorem foff_37_18 : foff Try.prog 37 18 = some (18, 36) := by kernel_rfl
theorem foff_37_19 : foff Try.prog 37 19 = some (19, 36) := by kernel_rfl
theorem fplaces_37 : fplaces Try.prog 37 = some [(0, 1), (1, 1), (2, 1), (3, 1), (4, 1), (5, 1), (6, 1), (7, 1), (8, 1), (9, 1), (10, 1), (11, 1), (12, 1), (13, 1), (14, 1), (15, 1), (16, 1), (17, 1), (18, 1), (19, 1)] := by kernel_rfl
theorem tsize_38 : tsize Try.prog 38 = some 20 := by kernel_rfl
theorem tbytes_38 : tbytes Try.prog 38 = some 480 := by kernel_rfl
theorem tagg_38 : tagg Try.prog 38 = some true := by kernel_rfl
theorem zcells_38 : zcells Try.prog 38 = some [AV.nils, AV.nils, AV.nils, AV.nils, AV.nils, AV.nils, AV.nils, AV.nils, AV.nils, AV.nils, AV.nils, AV.nils, AV.nils, AV.nils, AV.nils, AV.nils, AV.nils, AV.nils, AV.nils, AV.nils] := by kernel_rfl
theorem telem_38 : telem Try.prog 38 = none := by kernel_rfl
theorem tnotIface_38 : tnotIface Try.prog 38 = true := by kernel_rfl
theorem foff_38_0 : foff Try.prog 38 0 = some (0, 27) := by kernel_rfl
theorem foff_38_1 : foff Try.prog 38 1 = some (1, 27) := by kernel_rfl
theorem foff_38_2 : foff Try.prog 38 2 = some (2, 28) := by kernel_rfl
theorem foff_38_3 : foff Try.prog 38 3 = some (3, 28) := by kernel_rfl
theorem foff_38_4 : foff Try.prog 38 4 = some (4, 29) := by kernel_rfl
theorem foff_38_5 : foff Try.prog 38 5 = some (5, 29) := by kernel_rfl
theorem foff_38_6 : foff Try.prog 38 6 = some (6, 30) := by kernel_rfl
theorem foff_38_7 : foff Try.prog 38 7 = some (7, 30) := by kernel_rfl
theorem foff_38_8 : foff Try.prog 38 8 = some (8, 31) := by kernel_rfl
theorem foff_38_9 : foff Try.prog 38 9 = some (9, 31) := by kernel_rfl
theorem foff_38_10 : foff Try.prog 38 10 = some (10, 32) := by kernel_rfl
theorem foff_38_11 : foff Try.prog 38 11 = some (11, 32) := by kernel_rfl
theorem foff_38_12 : foff Try.prog 38 12 = some (12, 33) := by kernel_rfl
theorem foff_38_13 : foff Try.prog 38 13 = some (13, 33) := by kernel_rfl
theorem foff_38_14 : foff Try.prog 38 14 = some (14, 34) := by kernel_rfl
theorem foff_38_15 : foff Try.prog 38 15 = some (15, 34) := by kernel_rfl
theorem foff_38_16 : foff Try.prog 38 16 = some (16, 35) := by kernel_rfl
theorem foff_38_17 : foff Try.prog 38 17 = some (17, 35) := by kernel_rfl
theorem foff_38_18 : foff Try.prog 38 18 = some (18, 36) := by kernel_rfl
theorem foff_38_19 : foff Try.prog 38 19 = some (19, 36) := by kernel_rfl
theorem fplaces_38 : fplaces Try.prog 38 = some [(0, 1), (1, 1), (2, 1), (3, 1), (4, 1), (5, 1), (6, 1), (7, 1), (8, 1), (9, 1), (10, 1), (11, 1), (12, 1), (13, 1), (14, 1), (15, 1), (16, 1), (17, 1), (18, 1), (19, 1)] := by kernel_rfl
theorem tsize_43 : tsize Try.prog 43 = some 1 := by kernel_rfl
theorem tbytes_43 : tbytes Try.prog 43 = some 8 := by kernel_rfl
theorem tagg_43 : tagg Try.prog 43 = some false := by kernel_rfl
theorem zcells_43 : zcells Try.prog 43 = some [AV.int .i64 0] := by kernel_rfl
theorem telem_43 : telem Try.prog 43 = none := by kernel_rfl
theorem tint_43 : tint Try.prog 43 = some .i64 := by kernel_rfl
theorem tnotIface_43 : tnotIface Try.prog 43 = true := by kernel_rfl
theorem tsize_44 : tsize Try.prog 44 = some 4 := by kernel_rfl
theorem tbytes_44 : tbytes Try.prog 44 = some 64 := by kernel_rfl
theorem tagg_44 : tagg Try.prog 44 = some true := by kernel_rfl
theorem zcells_44 : zcells Try.prog 44 = some [AV.int .i64 0, AV.int .i64 0, AV.nils, AV.nils] := by kernel_rfl
theorem telem_44 : telem Try.prog 44 = none := by kernel_rfl
theorem tnotIface_44 : tnotIface Try.prog 44 = true := by kernel_rfl
theorem foff_44_0 : foff Try.prog 44 0 = some (0, 3) := by kernel_rfl
theorem foff_44_1 : foff Try.prog 44 1 = some (1, 3) := by kernel_rfl
theorem foff_44_2 : foff Try.prog 44 2 = some (2, 23) := by kernel_rfl
theorem foff_44_3 : foff Try.prog 44 3 = some (3, 23) := by kernel_rfl
theorem fplaces_44 : fplaces Try.prog 44 = some [(0, 1), (1, 1), (2, 1), (3, 1)] := by kernel_rfl
theorem tsize_45 : tsize Try.prog 45 = some 4 := by kernel_rfl
theorem tbytes_45 : tbytes Try.prog 45 = some 64 := by kernel_rfl
theorem tagg_45 : tagg Try.prog 45 = some true := by kernel_rfl
theorem zcells_45 : zcells Try.prog 45 = some [AV.int .i64 0, AV.int .i64 0, AV.nils, AV.nils] := by kernel_rfl
theorem telem_45 : telem Try.prog 45 = none := by kernel_rfl
theorem tnotIface_45 : tnotIface Try.prog 45 = true := by kernel_rfl
theorem foff_45_0 : foff Try.prog 45 0 = some (0, 3) := by kernel_rfl
theorem foff_45_1 : foff Try.prog 45 1 = some (1, 3) := by kernel_rfl
theorem foff_45_2 : foff Try.prog 45 2 = some (2, 23) := by kernel_rfl
theorem foff_45_3 : foff Try.prog 45 3 = some (3, 23) := by kernel_rfl
theorem fplaces_45 : fplaces Try.prog 45 = some [(0, 1), (1, 1), (2, 1), (3, 1)] := by kernel_rfl
theorem tsize_52 : tsize Try.prog 52 = some 1 := by kernel_rfl
theorem tbytes_52 : tbytes Try.prog 52 = some 24 := by kernel_rfl
theorem tagg_52 : tagg Try.prog 52 = some false := by kernel_rfl
theorem zcells_52 : zcells Try.prog 52 = some [AV.nils] := by kernel_rfl
theorem telem_52 : telem Try.prog 52 = some 4 := by kernel_rfl
theorem tnotIface_52 : tnotIface Try.prog 52 = true := by kernel_rfl
theorem tsize_53 : tsize Try.prog 53 = some 1 := by kernel_rfl
theorem tbytes_53 : tbytes Try.prog 53 = some 8 := by kernel_rfl
theorem tagg_53 : tagg Try.prog 53 = some false := by kernel_rfl
theorem zcells_53 : zcells Try.prog 53 = some [AV.int .i64 0] := by kernel_rfl
theorem telem_53 : telem Try.prog 53 = none := by kernel_rfl
theorem tint_53 : tint Try.prog 53 = some .i64 := by kernel_rfl
theorem tnotIface_53 : tnotIface Try.prog 53 = true := by kernel_rfl
theorem tsize_77 : tsize Try.prog 77 = some 1 := by kernel_rfl
theorem tbytes_77 : tbytes Try.prog 77 = some 8 := by kernel_rfl
theorem tagg_77 : tagg Try.prog 77 = some false := by kernel_rfl
theorem zcells_77 : zcells Try.prog 77 = some [AV.int .i64 0] := by kernel_rfl
theorem telem_77 : telem Try.prog 77 = none := by kernel_rfl
theorem tint_77 : tint Try.prog 77 = some .i64 := by kernel_rfl
theorem tnotIface_77 : tnotIface Try.prog 77 = true := by kernel_rfl
theorem tsize_78 : tsize Try.prog 78 = some 1 := by kernel_rfl
theorem tbytes_78 : tbytes Try.prog 78 = some 24 := by kernel_rfl
theorem tagg_78 : tagg Try.prog 78 = some false := by kernel_rfl
theorem zcells_78 : zcells Try.prog 78 = some [AV.nils] := by kernel_rfl
theorem telem_78 : telem Try.prog 78 = some 115 := by kernel_rfl
theorem tnotIface_78 : tnotIface Try.prog 78 = true := by kernel_rfl
theorem tsize_79 : tsize Try.prog 79 = some 1 := by kernel_rfl
theorem tbytes_79 : tbytes Try.prog 79 = some 24 := by kernel_rfl
theorem tagg_79 : tagg Try.prog 79 = some false := by kernel_rfl
theorem zcells_79 : zcells Try.prog 79 = some [AV.nils] := by kernel_rfl
theorem telem_79 : telem Try.prog 79 = some 115 := by kernel_rfl
theorem tnotIface_79 : tnotIface Try.prog 79 = true := by kernel_rfl
theorem tsize_80 : tsize Try.prog 80 = some 3 := by kernel_rfl
theorem tbytes_80 : tbytes Try.prog 80 = some 56 := by kernel_rfl
theorem tagg_80 : tagg Try.prog 80 = some true := by kernel_rfl
theorem zcells_80 : zcells Try.prog 80 = some [AV.bool false, AV.nils, AV.nils] := by kernel_rfl
theorem telem_80 : telem Try.prog 80 = none := by kernel_rfl
theorem tnotIface_80 : tnotIface Try.prog 80 = true := by kernel_rfl
theorem foff_80_0 : foff Try.prog 80 0 = some (0, 4) := by kernel_rfl
theorem foff_80_1 : foff Try.prog 80 1 = some (1, 79) := by kernel_rfl
theorem foff_80_2 : foff Try.prog 80 2 = some (2, 79) := by kernel_rfl
theorem fplaces_80 : fplaces Try.prog 80 = some [(0, 1), (1, 1), (2, 1)] := by kernel_rfl
theorem tsize_81 : tsize Try.prog 81 = some 3 := by kernel_rfl
theorem tbytes_81 : tbytes Try.prog 81 = some 56 := by kernel_rfl
theorem tagg_81 : tagg Try.prog 81 = some true := by kernel_rfl
theorem zcells_81 : zcells Try.prog 81 = some [AV.bool false, AV.nils, AV.nils] := by kernel_rfl
theorem telem_81 : telem Try.prog 81 = none := by kernel_rfl
theorem tnotIface_81 : tnotIface Try.prog 81 = true := by kernel_rfl
theorem foff_81_0 : foff Try.prog 81 0 = some (0, 4) := by kernel_rfl
theorem foff_81_1 : foff Try.prog 81 1 = some (1, 79) := by kernel_rfl
theorem foff_81_2 : foff Try.prog 81 2 = some (2, 79) := by kernel_rfl
theorem fplaces_81 : fplaces Try.prog 81 = some [(0, 1), (1, 1), (2, 1)] := by kernel_rfl
theorem tsize_82 : tsize Try.prog 82 = some 7 := by kernel_rfl
theorem tbytes_82 : tbytes Try.prog 82 = some 88 := by kernel_rfl
theorem tagg_82 : tagg Try.prog 82 = some true := by kernel_rfl
theorem zcells_82 : zcells Try.prog 82 = some [AV.int .i64 0, AV.int .i64 0, AV.int .i64 0, AV.int .i64 0, AV.bool false, AV.nils, AV.nils] := by kernel_rfl
theorem telem_82 : telem Try.prog 82 = none := by kernel_rfl
theorem tnotIface_82 : tnotIface Try.prog 82 = true := by kernel_rfl
theorem foff_82_0 : foff Try.prog 82 0 = some (0, 77) := by kernel_rfl
theorem foff_82_1 : foff Try.prog 82 1 = some (1, 3) := by kernel_rfl
theorem foff_82_2 : foff Try.prog 82 2 = some (2, 3) := by kernel_rfl
theorem foff_82_3 : foff Try.prog 82 3 = some (3, 3) := by kernel_rfl
theorem foff_82_4 : foff Try.prog 82 4 = some (4, 81) := by kernel_rfl
theorem fplaces_82 : fplaces Try.prog 82 = some [(0, 1), (1, 1), (2, 1), (3, 1), (4, 3)] := by kernel_rfl
theorem tsize_83 : tsize Try.prog 83 = some 7 := by kernel_rfl
theorem tbytes_83 : tbytes Try.prog 83 = some 88 := by kernel_rfl
theorem tagg_83 : tagg Try.prog 83 = some true := by kernel_rfl
theorem zcells_83 : zcells Try.prog 83 = some [AV.int .i64 0, AV.int .i64 0, AV.int .i64 0, AV.int .i64 0, AV.bool false, AV.nils, AV.nils] := by kernel_rfl
theorem telem_83 : telem Try.prog 83 = none := by kernel_rfl
theorem tnotIface_83 : tnotIface Try.prog 83 = true := by kernel_rfl
theorem foff_83_0 : foff Try.prog 83 0 = some (0, 77) := by kernel_rfl
theorem foff_83_1 : foff Try.prog 83 1 = some (1, 3) := by kernel_rfl
theorem foff_83_2 : foff Try.prog 83 2 = some (2, 3) := by kernel_rfl
theorem foff_83_3 : foff Try.prog 83 3 = some (3, 3) := by kernel_rfl
theorem foff_83_4 : foff Try.prog 83 4 = some (4, 81) := by kernel_rfl
theorem fplaces_83 : fplaces Try.prog 83 = some [(0, 1), (1, 1), (2, 1), (3, 1), (4, 3)] := by kernel_rfl
theorem tsize_87 : tsize Try.prog 87 = some 1 := by kernel_rfl
theorem tbytes_87 : tbytes Try.prog 87 = some 24 := by kernel_rfl
theorem tagg_87 : tagg Try.prog 87 = some false := by kernel_rfl
theorem zcells_87 : zcells Try.prog 87 = some [AV.nils] := by kernel_rfl
theorem telem_87 : telem Try.prog 87 = some 116 := by kernel_rfl
theorem tnotIface_87 : tnotIface Try.prog 87 = true := by kernel_rfl
theorem tsize_89 : tsize Try.prog 89 = some 1 := by kernel_rfl
theorem tbytes_89 : tbytes Try.prog 89 = some 24 := by kernel_rfl
theorem tagg_89 : tagg Try.prog 89 = some false := by kernel_rfl
theorem zcells_89 : zcells Try.prog 89 = some [AV.nils] := by kernel_rfl
theorem telem_89 : telem Try.prog 89 = some 9 := by kernel_rfl
theorem tnotIface_89 : tnotIface Try.prog 89 = true := by kernel_rfl
theorem tsize_91 : tsize Try.prog 91 = some 1 := by kernel_rfl
theorem tbytes_91 : tbytes Try.prog 91 = some 24 := by kernel_rfl
theorem tagg_91 : tagg Try.prog 91 = some false := by kernel_rfl
theorem zcells_91 : zcells Try.prog 91 = some [AV.nils] := by kernel_rfl
theorem telem_91 : telem Try.prog 91 = some 81 := by kernel_rfl
theorem tnotIface_91 : tnotIface Try.prog 91 = true := by kernel_rfl
theorem tsize_100 : tsize Try.prog 100 = some 1 := by kernel_rfl
theorem tbytes_100 : tbytes Try.prog 100 = some 8 := by kernel_rfl
theorem tagg_100 : tagg Try.prog 100 = some true := by kernel_rfl
theorem zcells_100 : zcells Try.prog 100 = some [AV.nilf] := by kernel_rfl
theorem telem_100 : telem Try.prog 100 = none := by kernel_rfl
theorem tnotIface_100 : tnotIface Try.prog 100 = true := by kernel_rfl
theorem foff_100_0 : foff Try.prog 100 0 = some (0, 99) := by kernel_rfl
theorem fplaces_100 : fplaces Try.prog 100 = some [(0, 1)] := by kernel_rfl
theorem tsize_101 : tsize Try.prog 101 = some 1 := by kernel_rfl
theorem tbytes_101 : tbytes Try.prog 101 = some 8 := by kernel_rfl
theorem tagg_101 : tagg Try.prog 101 = some true := by kernel_rfl
theorem zcells_101 : zcells Try.prog 101 = some [AV.nilf] := by kernel_rfl
theorem telem_101 : telem Try.prog 101 = none := by kernel_rfl
theorem tnotIface_101 : tnotIface Try.prog 101 = true := by kernel_rfl
theorem foff_101_0 : foff Try.prog 101 0 = some (0, 99) := by kernel_rfl
theorem fplaces_101 : fplaces Try.prog 101 = some [(0, 1)] := by kernel_rfl
theorem tsize_102 : tsize Try.prog 102 = some 6 := by kernel_rfl
theorem tbytes_102 : tbytes Try.prog 102 = some 48 := by kernel_rfl
theorem tagg_102 : tagg Try.prog 102 = some true := by kernel_rfl
theorem zcells_102 : zcells Try.prog 102 = some [AV.nilf, AV.nilf, AV.nilf, AV.nilf, AV.nilf, AV.nilf] := by kernel_rfl
theorem telem_102 : telem Try.prog 102 = none := by kernel_rfl
theorem tarr_102 : tarr Try.prog 102 = some (6, 101) := by kernel_rfl
theorem tnotIface_102 : tnotIface Try.prog 102 = true := by kernel_rfl
theorem tsize_108 : tsize Try.prog 108 = some 1 := by kernel_rfl
theorem tbytes_108 : tbytes Try.prog 108 = some 24 := by kernel_rfl
theorem tagg_108 : tagg Try.prog 108 = some false := by kernel_rfl
theorem zcells_108 : zcells Try.prog 108 = some [AV.nils] := by kernel_rfl
theorem telem_108 : telem Try.prog 108 = some 25 := by kernel_rfl
theorem tnotIface_108 : tnotIface Try.prog 108 = true := by kernel_rfl
theorem tsize_115 : tsize Try.prog 115 = some 1 := by kernel_rfl
theorem tbytes_115 : tbytes Try.prog 115 = some 4 := by kernel_rfl
theorem tagg_115 : tagg Try.prog 115 = some false := by kernel_rfl
theorem zcells_115 : zcells Try.prog 115 = some [AV.int .u32 0] := by kernel_rfl
theorem telem_115 : telem Try.prog 115 = none := by kernel_rfl
theorem tint_115 : tint Try.prog 115 = some .u32 := by kernel_rfl
theorem tnotIface_115 : tnotIface Try.prog 115 = true := by kernel_rfl
theorem tsize_116 : tsize Try.prog 116 = some 1 := by kernel_rfl
theorem tbytes_116 : tbytes Try.prog 116 = some 8 := by kernel_rfl
theorem tagg_116 : tagg Try.prog 116 = some false := by kernel_rfl
theorem zcells_116 : zcells Try.prog 116 = some [AV.int .u64 0] := by kernel_rfl
theorem telem_116 : telem Try.prog 116 = none := by kernel_rfl
theorem tint_116 : tint Try.prog 116 = some .u64 := by kernel_rfl
theorem tnotIface_116 : tnotIface Try.prog 116 = true := by kernel_rfl
theorem tsize_119 : tsize Try.prog 119 = some 1 := by kernel_rfl
theorem tbytes_119 : tbytes Try.prog 119 = some 24 := by kernel_rfl
theorem tagg_119 : tagg Try.prog 119 = some false := by kernel_rfl
theorem zcells_119 : zcells Try.prog 119 = some [AV.nils] := by kernel_rfl
theorem telem_119 : telem Try.prog 119 = some 143 := by kernel_rfl
theorem tnotIface_119 : tnotIface Try.prog 119 = true := by kernel_rfl
theorem tsize_120 : tsize Try.prog 120 = some 2 := by kernel_rfl
theorem tbytes_120 : tbytes Try.prog 120 = some 32 := by kernel_rfl
theorem tagg_120 : tagg Try.prog 120 = some true := by kernel_rfl
theorem zcells_120 : zcells Try.prog 120 = some [AV.int .i64 0, AV.nils] := by kernel_rfl
theorem telem_120 : telem Try.prog 120 = none := by kernel_rfl
theorem tnotIface_120 : tnotIface Try.prog 120 = true := by kernel_rfl
theorem foff_120_0 : foff Try.prog 120 0 = some (0, 3) := by kernel_rfl
theorem foff_120_1 : foff Try.prog 120 1 = some (1, 119) := by kernel_rfl
theorem fplaces_120 : fplaces Try.prog 120 = some [(0, 1), (1, 1)] := by kernel_rfl
theorem tsize_121 : tsize Try.prog 121 = some 2 := by kernel_rfl
theorem tbytes_121 : tbytes Try.prog 121 = some 32 := by kernel_rfl
theorem tagg_121 : tagg Try.prog 121 = some true := by kernel_rfl
theorem zcells_121 : zcells Try.prog 121 = some [AV.int .i64 0, AV.nils] := by kernel_rfl
theorem telem_121 : telem Try.prog 121 = none := by kernel_rfl
theorem tnotIface_121 : tnotIface Try.prog 121 = true := by kernel_rfl
theorem foff_121_0 : foff Try.prog 121 0 = some (0, 3) := by kernel_rfl
theorem foff_121_1 : foff Try.prog 121 1 = some (1, 119) := by kernel_rfl
theorem fplaces_121 : fplaces Try.prog 121 = some [(0, 1), (1, 1)] := by kernel_rfl
theorem tsize_122 : tsize Try.prog 122 = some 1 := by kernel_rfl
theorem tbytes_122 : tbytes Try.prog 122 = some 24 := by kernel_rfl
theorem tagg_122 : tagg Try.prog 122 = some false := by kernel_rfl
theorem zcells_122 : zcells Try.prog 122 = some [AV.nils] := by kernel_rfl
theorem telem_122 : telem Try.prog 122 = some 45 := by kernel_rfl
theorem tnotIface_122 : tnotIface Try.prog 122 = true := by kernel_rfl
theorem tsize_124 : tsize Try.prog 124 = some 1 := by kernel_rfl
theorem tbytes_124 : tbytes Try.prog 124 = some 24 := by kernel_rfl
theorem tagg_124 : tagg Try.prog 124 = some false := by kernel_rfl
theorem zcells_124 : zcells Try.prog 124 = some [AV.nils] := by kernel_rfl
theorem telem_124 : telem Try.prog 124 = some 145 := by kernel_rfl
theorem tnotIface_124 : tnotIface Try.prog 124 = true := by kernel_rfl
theorem tsize_125 : tsize Try.prog 125 = some 1 := by kernel_rfl
theorem tbytes_125 : tbytes Try.prog 125 = some 24 := by kernel_rfl
theorem tagg_125 : tagg Try.prog 125 = some false := by kernel_rfl
theorem zcells_125 : zcells Try.prog 125 = some [AV.nils] := by kernel_rfl
theorem telem_125 : telem Try.prog 125 = some 147 := by kernel_rfl
theorem tnotIface_125 : tnotIface Try.prog 125 = true := by kernel_rfl
theorem tsize_126 : tsize Try.prog 126 = some 1 := by kernel_rfl
theorem tbytes_126 : tbytes Try.prog 126 = some 24 := by kernel_rfl
theorem tagg_126 : tagg Try.prog 126 = some false := by kernel_rfl
theorem zcells_126 : zcells Try.prog 126 = some [AV.nils] := by kernel_rfl
theorem telem_126 : telem Try.prog 126 = some 150 := by kernel_rfl
theorem tnotIface_126 : tnotIface Try.prog 126 = true := by kernel_rfl
theorem tsize_127 : tsize Try.prog 127 = some 5 := by kernel_rfl
theorem tbytes_127 : tbytes Try.prog 127 = some 120 := by kernel_rfl
theorem tagg_127 : tagg Try.prog 127 = some true := by kernel_rfl
theorem zcells_127 : zcells Try.prog 127 = some [AV.nils, AV.nils, AV.nils, AV.nils, AV.nils] := by kernel_rfl
theorem telem_127 : telem Try.prog 127 = none := by kernel_rfl
theorem tnotIface_127 : tnotIface Try.prog 127 = true := by kernel_rfl
theorem foff_127_0 : foff Try.prog 127 0 = some (0, 89) := by kernel_rfl
theorem foff_127_1 : foff Try.prog 127 1 = some (1, 124) := by kernel_rfl
theorem foff_127_2 : foff Try.prog 127 2 = some (2, 125) := by kernel_rfl
theorem foff_127_3 : foff Try.prog 127 3 = some (3, 23) := by kernel_rfl
theorem foff_127_4 : foff Try.prog 127 4 = some (4, 126) := by kernel_rfl
theorem fplaces_127 : fplaces Try.prog 127 = some [(0, 1), (1, 1), (2, 1), (3, 1), (4, 1)] := by kernel_rfl
theorem tsize_128 : tsize Try.prog 128 = some 5 := by kernel_rfl
theorem tbytes_128 : tbytes Try.prog 128 = some 120 := by kernel_rfl
theorem tagg_128 : tagg Try.prog 128 = some true := by kernel_rfl
theorem zcells_128 : zcells Try.prog 128 = some [AV.nils, AV.nils, AV.nils, AV.nils, AV.nils] := by kernel_rfl
theorem telem_128 : telem Try.prog 128 = none := by kernel_rfl
theorem tnotIface_128 : tnotIface Try.prog 128 = true := by kernel_rfl
theorem foff_128_0 : foff Try.prog 128 0 = some (0, 89) := by kernel_rfl
theorem foff_128_1 : foff Try.prog 128 1 = some (1, 124) := by kernel_rfl
theorem foff_128_2 : foff Try.prog 128 2 = some (2, 125) := by kernel_rfl
theorem foff_128_3 : foff Try.prog 128 3 = some (3, 23) := by kernel_rfl
theorem foff_128_4 : foff Try.prog 128 4 = some (4, 126) := by kernel_rfl
theorem fplaces_128 : fplaces Try.prog 128 = some [(0, 1), (1, 1), (2, 1), (3, 1), (4, 1)] := by kernel_rfl
theorem tsize_136 : tsize Try.prog 136 = some 128 := by kernel_rfl
theorem tbytes_136 : tbytes Try.prog 136 = some 128 := by kernel_rfl
theorem tagg_136 : tagg Try.prog 136 = some true := by kernel_rfl
theorem zcells_136 : zcells Try.prog 136 = some (List.map AV.bool (List.replicate 128 false)) := by kernel_rfl
theorem telem_136 : telem Try.prog 136 = none := by kernel_rfl
theorem tarr_136 : tarr Try.prog 136 = some (128, 4) := by kernel_rfl
theorem tnotIface_136 : tnotIface Try.prog 136 = true := by kernel_rfl
theorem tsize_142 : tsize Try.prog 142 = some 2 := by kernel_rfl
theorem tbytes_142 : tbytes Try.prog 142 = some 32 := by kernel_rfl
theorem tagg_142 : tagg Try.prog 142 = some true := by kernel_rfl
theorem zcells_142 : zcells Try.prog 142 = some [AV.int .i64 0, AV.nils] := by kernel_rfl
theorem telem_142 : telem Try.prog 142 = none := by kernel_rfl
theorem tnotIface_142 : tnotIface Try.prog 142 = true := by kernel_rfl
theorem foff_142_0 : foff Try.prog 142 0 = some (0, 3) := by kernel_rfl
theorem foff_142_1 : foff Try.prog 142 1 = some (1, 87) := by kernel_rfl
theorem fplaces_142 : fplaces Try.prog 142 = some [(0, 1), (1, 1)] := by kernel_rfl
theorem tsize_143 : tsize Try.prog 143 = some 2 := by kernel_rfl
theorem tbytes_143 : tbytes Try.prog 143 = some 32 := by kernel_rfl
theorem tagg_143 : tagg Try.prog 143 = some true := by kernel_rfl
theorem zcells_143 : zcells Try.prog 143 = some [AV.int .i64 0, AV.nils] := by kernel_rfl
theorem telem_143 : telem Try.prog 143 = none := by kernel_rfl
theorem tnotIface_143 : tnotIface Try.prog 143 = true := by kernel_rfl
theorem foff_143_0 : foff Try.prog 143 0 = some (0, 3) := by kernel_rfl
theorem foff_143_1 : foff Try.prog 143 1 = some (1, 87) := by kernel_rfl
theorem fplaces_143 : fplaces Try.prog 143 = some [(0, 1), (1, 1)] := by kernel_rfl
theorem tsize_144 : tsize Try.prog 144 = some 3 := by kernel_rfl
theorem tbytes_144 : tbytes Try.prog 144 = some 48 := by kernel_rfl
theorem tagg_144 : tagg Try.prog 144 = some true := by kernel_rfl
theorem zcells_144 : zcells Try.prog 144 = some [AV.str ⟨#[]⟩, AV.nils, AV.int .i64 0] := by kernel_rfl
theorem telem_144 : telem Try.prog 144 = none := by kernel_rfl
theorem tnotIface_144 : tnotIface Try.prog 144 = true := by kernel_rfl
theorem foff_144_0 : foff Try.prog 144 0 = some (0, 9) := by kernel_rfl
theorem foff_144_1 : foff Try.prog 144 1 = some (1, 89) := by kernel_rfl
theorem foff_144_2 : foff Try.prog 144 2 = some (2, 3) := by kernel_rfl
theorem fplaces_144 : fplaces Try.prog 144 = some [(0, 1), (1, 1), (2, 1)] := by kernel_rfl
theorem tsize_145 : tsize Try.prog 145 = some 3 := by kernel_rfl
theorem tbytes_145 : tbytes Try.prog 145 = some 48 := by kernel_rfl
theorem tagg_145 : tagg Try.prog 145 = some true := by kernel_rfl
theorem zcells_145 : zcells Try.prog 145 = some [AV.str ⟨#[]⟩, AV.nils, AV.int .i64 0] := by kernel_rfl
theorem telem_145 : telem Try.prog 145 = none := by kernel_rfl
theorem tnotIface_145 : tnotIface Try.prog 145 = true := by kernel_rfl
theorem foff_145_0 : foff Try.prog 145 0 = some (0, 9) := by kernel_rfl
theorem foff_145_1 : foff Try.prog 145 1 = some (1, 89) := by kernel_rfl
theorem foff_145_2 : foff Try.prog 145 2 = some (2, 3) := by kernel_rfl
theorem fplaces_145 : fplaces Try.prog 145 = some [(0, 1), (1, 1), (2, 1)] := by kernel_rfl
theorem tsize_146 : tsize Try.prog 146 = some 2 := by kernel_rfl
theorem tbytes_146 : tbytes Try.prog 146 = some 24 := by kernel_rfl
theorem tagg_146 : tagg Try.prog 146 = some true := by kernel_rfl
theorem zcells_146 : zcells Try.prog 146 = some [AV.str ⟨#[]⟩, AV.int .i64 0] := by kernel_rfl
theorem telem_146 : telem Try.prog 146 = none := by kernel_rfl
theorem tnotIface_146 : tnotIface Try.prog 146 = true := by kernel_rfl
theorem foff_146_0 : foff Try.prog 146 0 = some (0, 9) := by kernel_rfl
theorem foff_146_1 : foff Try.prog 146 1 = some (1, 3) := by kernel_rfl
theorem fplaces_146 : fplaces Try.prog 146 = some [(0, 1), (1, 1)] := by kernel_rfl
theorem tsize_147 : tsize Try.prog 147 = some 2 := by kernel_rfl
theorem tbytes_147 : tbytes Try.prog 147 = some 24 := by kernel_rfl
theorem tagg_147 : tagg Try.prog 147 = some true := by kernel_rfl
theorem zcells_147 : zcells Try.prog 147 = some [AV.str ⟨#[]⟩, AV.int .i64 0] := by kernel_rfl
theorem telem_147 : telem Try.prog 147 = none := by kernel_rfl
theorem tnotIface_147 : tnotIface Try.prog 147 = true := by kernel_rfl
theorem foff_147_0 : foff Try.prog 147 0 = some (0, 9) := by kernel_rfl
theorem foff_147_1 : foff Try.prog 147 1 = some (1, 3) := by kernel_rfl
theorem fplaces_147 : fplaces Try.prog 147 = some [(0, 1), (1, 1)] := by kernel_rfl
theorem tsize_148 : tsize Try.prog 148 = some 1 := by kernel_rfl
theorem tbytes_148 : tbytes Try.prog 148 = some 8 := by kernel_rfl
theorem tagg_148 : tagg Try.prog 148 = some false := by kernel_rfl
theorem zcells_148 : zcells Try.prog 148 = some [AV.int .i64 0] := by kernel_rfl
theorem telem_148 : telem Try.prog 148 = none := by kernel_rfl
theorem tint_148 : tint Try.prog 148 = some .i64 := by kernel_rfl
theorem tnotIface_148 : tnotIface Try.prog 148 = true := by kernel_rfl
theorem tsize_149 : tsize Try.prog 149 = some 7 := by kernel_rfl
theorem tbytes_149 : tbytes Try.prog 149 = some 112 := by kernel_rfl
theorem tagg_149 : tagg Try.prog 149 = some true := by kernel_rfl
theorem zcells_149 : zcells Try.prog 149 = some [AV.int .i64 0, AV.str ⟨#[]⟩, AV.bool false, AV.nils, AV.nils, AV.int .i64 0, AV.nils] := by kernel_rfl
theorem telem_149 : telem Try.prog 149 = none := by kernel_rfl
theorem tnotIface_149 : tnotIface Try.prog 149 = true := by kernel_rfl
theorem foff_149_0 : foff Try.prog 149 0 = some (0, 148) := by kernel_rfl
theorem foff_149_1 : foff Try.prog 149 1 = some (1, 9) := by kernel_rfl
theorem foff_149_2 : foff Try.prog 149 2 = some (2, 81) := by kernel_rfl
theorem foff_149_3 : foff Try.prog 149 3 = some (5, 3) := by kernel_rfl
theorem foff_149_4 : foff Try.prog 149 4 = some (6, 23) := by kernel_rfl
theorem fplaces_149 : fplaces Try.prog 149 = some [(0, 1), (1, 1), (2, 3), (5, 1), (6, 1)] := by kernel_rfl
theorem tsize_150 : tsize Try.prog 150 = some 7 := by kernel_rfl
theorem tbytes_150 : tbytes Try.prog 150 = some 112 := by kernel_rfl
theorem tagg_150 : tagg Try.prog 150 = some true := by kernel_rfl
theorem zcells_150 : zcells Try.prog 150 = some [AV.int .i64 0, AV.str ⟨#[]⟩, AV.bool false, AV.nils, AV.nils, AV.int .i64 0, AV.nils] := by kernel_rfl
theorem telem_150 : telem Try.prog 150 = none := by kernel_rfl
theorem tnotIface_150 : tnotIface Try.prog 150 = true := by kernel_rfl
theorem foff_150_0 : foff Try.prog 150 0 = some (0, 148) := by kernel_rfl
theorem foff_150_1 : foff Try.prog 150 1 = some (1, 9) := by kernel_rfl
theorem foff_150_2 : foff Try.prog 150 2 = some (2, 81) := by kernel_rfl
theorem foff_150_3 : foff Try.prog 150 3 = some (5, 3) := by kernel_rfl
theorem foff_150_4 : foff Try.prog 150 4 = some (6, 23) := by kernel_rfl
theorem fplaces_150 : fplaces Try.prog 150 = some [(0, 1), (1, 1), (2, 3), (5, 1), (6, 1)] := by kernel_rfl
theorem tsize_170 : tsize Try.prog 170 = some 1 := by kernel_rfl
theorem tbytes_170 : tbytes Try.prog 170 = some 24 := by kernel_rfl
theorem tagg_170 : tagg Try.prog 170 = some false := by kernel_rfl
theorem zcells_170 : zcells Try.prog 170 = some [AV.nils] := by kernel_rfl
theorem telem_170 : telem Try.prog 170 = some 115 := by kernel_rfl
theorem tnotIface_170 : tnotIface Try.prog 170 = true := by kernel_rfl
theorem tsize_173 : tsize Try.prog 173 = some 1 := by kernel_rfl
theorem tbytes_173 : tbytes Try.prog 173 = some 8 := by kernel_rfl
theorem tagg_173 : tagg Try.prog 173 = some false := by kernel_rfl
theorem zcells_173 : zcells Try.prog 173 = some [AV.int .u64 0] := by kernel_rfl
theorem telem_173 : telem Try.prog 173 = none := by kernel_rfl
theorem tint_173 : tint Try.prog 173 = some .u64 := by kernel_rfl
theorem tnotIface_173 : tnotIface Try.prog 173 = true := by kernel_rfl
theorem tsize_205 : tsize Try.prog 205 = some 1 := by kernel_rfl
theorem tbytes_205 : tbytes Try.prog 205 = some 16 := by kernel_rfl
theorem tagg_205 : tagg Try.prog 205 = some false := by kernel_rfl
theorem zcells_205 : zcells Try.prog 205 = some [AV.nili] := by kernel_rfl
theorem telem_205 : telem Try.prog 205 = none := by kernel_rfl
theorem tsize_206 : tsize Try.prog 206 = some 1 := by kernel_rfl
theorem tbytes_206 : tbytes Try.prog 206 = some 16 := by kernel_rfl
theorem tagg_206 : tagg Try.prog 206 = some false := by kernel_rfl
theorem zcells_206 : zcells Try.prog 206 = some [AV.nili] := by kernel_rfl
theorem telem_206 : telem Try.prog 206 = none := by kernel_rfl
theorem tsize_207 : tsize Try.prog 207 = some 1 := by kernel_rfl
theorem tbytes_207 : tbytes Try.prog 207 = some 8 := by kernel_rfl
theorem tagg_207 : tagg Try.prog 207 = some false := by kernel_rfl
theorem zcells_207 : zcells Try.prog 207 = some [AV.nilp] := by kernel_rfl
theorem telem_207 : telem Try.prog 207 = none := by kernel_rfl
theorem tptr_207 : tptr Try.prog 207 = true := by kernel_rfl
theorem tnotIface_207 : tnotIface Try.prog 207 = true := by kernel_rfl
theorem tsize_209 : tsize Try.prog 209 = some 4 := by kernel_rfl
theorem tbytes_209 : tbytes Try.prog 209 = some 40 := by kernel_rfl
theorem tagg_209 : tagg Try.prog 209 = some true := by kernel_rfl
theorem zcells_209 : zcells Try.prog 209 = some [AV.nilp, AV.nilp, AV.nilp, AV.str ⟨#[]⟩] := by kernel_rfl
theorem telem_209 : telem Try.prog 209 = none := by kernel_rfl
theorem tnotIface_209 : tnotIface Try.prog 209 = true := by kernel_rfl
theorem foff_209_0 : foff Try.prog 209 0 = some (0, 17) := by kernel_rfl
theorem foff_209_1 : foff Try.prog 209 1 = some (1, 17) := by kernel_rfl
theorem foff_209_2 : foff Try.prog 209 2 = some (2, 17) := by kernel_rfl
theorem foff_209_3 : foff Try.prog 209 3 = some (3, 9) := by kernel_rfl
theorem fplaces_209 : fplaces Try.prog 209 = some [(0, 1), (1, 1), (2, 1), (3, 1)] := by kernel_rfl
theorem tsize_210 : tsize Try.prog 210 = some 4 := by kernel_rfl
theorem tbytes_210 : tbytes Try.prog 210 = some 40 := by kernel_rfl
theorem tagg_210 : tagg Try.prog 210 = some true := by kernel_rfl
theorem zcells_210 : zcells Try.prog 210 = some [AV.nilp, AV.nilp, AV.nilp, AV.str ⟨#[]⟩] := by kernel_rfl
theorem telem_210 : telem Try.prog 210 = none := by kernel_rfl
theorem tnotIface_210 : tnotIface Try.prog 210 = true := by kernel_rfl
theorem foff_210_0 : foff Try.prog 210 0 = some (0, 17) := by kernel_rfl
theorem foff_210_1 : foff Try.prog 210 1 = some (1, 17) := by kernel_rfl
theorem foff_210_2 : foff Try.prog 210 2 = some (2, 17) := by kernel_rfl
theorem foff_210_3 : foff Try.prog 210 3 = some (3, 9) := by kernel_rfl
theorem fplaces_210 : fplaces Try.prog 210 = some [(0, 1), (1, 1), (2, 1), (3, 1)] := by kernel_rfl
theorem tsize_211 : tsize Try.prog 211 = some 0 := by kernel_rfl
theorem tbytes_211 : tbytes Try.prog 211 = some 0 := by kernel_rfl
theorem tagg_211 : tagg Try.prog 211 = some true := by kernel_rfl
theorem zcells_211 : zcells Try.prog 211 = some [] := by kernel_rfl
theorem telem_211 : telem Try.prog 211 = none := by kernel_rfl
theorem tarr_211 : tarr Try.prog 211 = some (0, 16) := by kernel_rfl
theorem tnotIface_211 : tnotIface Try.prog 211 = true := by kernel_rfl
theorem tsize_212 : tsize Try.prog 212 = some 0 := by kernel_rfl
theorem tbytes_212 : tbytes Try.prog 212 = some 0 := by kernel_rfl
theorem tagg_212 : tagg Try.prog 212 = some true := by kernel_rfl
theorem zcells_212 : zcells Try.prog 212 = some [] := by kernel_rfl
theorem telem_212 : telem Try.prog 212 = none := by kernel_rfl
theorem tnotIface_212 : tnotIface Try.prog 212 = true := by kernel_rfl
theorem fplaces_212 : fplaces Try.prog 212 = some [(0, 0)] := by kernel_rfl
theorem tsize_213 : tsize Try.prog 213 = some 0 := by kernel_rfl
theorem tbytes_213 : tbytes Try.prog 213 = some 0 := by kernel_rfl
theorem tagg_213 : tagg Try.prog 213 = some true := by kernel_rfl
theorem zcells_213 : zcells Try.prog 213 = some [] := by kernel_rfl
theorem telem_213 : telem Try.prog 213 = none := by kernel_rfl
theorem tnotIface_213 : tnotIface Try.prog 213 = true := by kernel_rfl
theorem fplaces_213 : fplaces Try.prog 213 = some [(0, 0)] := by kernel_rfl
theorem tsize_215 : tsize Try.prog 215 = some 1 := by kernel_rfl
theorem tbytes_215 : tbytes Try.prog 215 = some 1 := by kernel_rfl
theorem tagg_215 : tagg Try.prog 215 = some false := by kernel_rfl
theorem zcells_215 : zcells Try.prog 215 = some [AV.int .u8 0] := by kernel_rfl
theorem telem_215 : telem Try.prog 215 = none := by kernel_rfl
theorem tint_215 : tint Try.prog 215 = some .u8 := by kernel_rfl
theorem tnotIface_215 : tnotIface Try.prog 215 = true := by kernel_rfl
theorem tsize_216 : tsize Try.prog 216 = some 1 := by kernel_rfl
theorem tbytes_216 : tbytes Try.prog 216 = some 1 := by kernel_rfl
theorem tagg_216 : tagg Try.prog 216 = some false := by kernel_rfl
theorem zcells_216 : zcells Try.prog 216 = some [AV.int .u8 0] := by kernel_rfl
theorem telem_216 : telem Try.prog 216 = none := by kernel_rfl
theorem tint_216 : tint Try.prog 216 = some .u8 := by kernel_rfl
theorem tnotIface_216 : tnotIface Try.prog 216 = true := by kernel_rfl
theorem tsize_218 : tsize Try.prog 218 = some 1 := by kernel_rfl
theorem tbytes_218 : tbytes Try.prog 218 = some 8 := by kernel_rfl
theorem tagg_218 : tagg Try.prog 218 = some false := by kernel_rfl
theorem zcells_218 : zcells Try.prog 218 = some [AV.nilp] := by kernel_rfl
theorem telem_218 : telem Try.prog 218 = none := by kernel_rfl
theorem tptr_218 : tptr Try.prog 218 = true := by kernel_rfl
theorem tnotIface_218 : tnotIface Try.prog 218 = true := by kernel_rfl
theorem tsize_219 : tsize Try.prog 219 = some 1 := by kernel_rfl
theorem tbytes_219 : tbytes Try.prog 219 = some 4 := by kernel_rfl
theorem tagg_219 : tagg Try.prog 219 = some false := by kernel_rfl
theorem zcells_219 : zcells Try.prog 219 = some [AV.int .i32 0] := by kernel_rfl
theorem telem_219 : telem Try.prog 219 = none := by kernel_rfl
theorem tint_219 : tint Try.prog 219 = some .i32 := by kernel_rfl
theorem tnotIface_219 : tnotIface Try.prog 219 = true := by kernel_rfl
theorem tsize_220 : tsize Try.prog 220 = some 1 := by kernel_rfl
theorem tbytes_220 : tbytes Try.prog 220 = some 4 := by kernel_rfl
theorem tagg_220 : tagg Try.prog 220 = some false := by kernel_rfl
theorem zcells_220 : zcells Try.prog 220 = some [AV.int .i32 0] := by kernel_rfl
theorem telem_220 : telem Try.prog 220 = none := by kernel_rfl
theorem tint_220 : tint Try.prog 220 = some .i32 := by kernel_rfl
theorem tnotIface_220 : tnotIface Try.prog 220 = true := by kernel_rfl
theorem tsize_221 : tsize Try.prog 221 = some 11 := by kernel_rfl
theorem tbytes_221 : tbytes Try.prog 221 = some 48 := by kernel_rfl
theorem tagg_221 : tagg Try.prog 221 = some true := by kernel_rfl
theorem zcells_221 : zcells Try.prog 221 = some [AV.int .u64 0, AV.int .u64 0, AV.int .u32 0, AV.int .u8 0, AV.int .u8 0, AV.int .u8 0, AV.int .u8 0, AV.nilf, AV.nilp, AV.int .i32 0, AV.int .i32 0] := by kernel_rfl
theorem telem_221 : telem Try.prog 221 = none := by kernel_rfl
theorem tnotIface_221 : tnotIface Try.prog 221 = true := by kernel_rfl
theorem foff_221_0 : foff Try.prog 221 0 = some (0, 12) := by kernel_rfl
theorem foff_221_1 : foff Try.prog 221 1 = some (1, 12) := by kernel_rfl
theorem foff_221_2 : foff Try.prog 221 2 = some (2, 115) := by kernel_rfl
theorem foff_221_3 : foff Try.prog 221 3 = some (3, 215) := by kernel_rfl
theorem foff_221_4 : foff Try.prog 221 4 = some (4, 5) := by kernel_rfl
theorem foff_221_5 : foff Try.prog 221 5 = some (5, 5) := by kernel_rfl
theorem foff_221_6 : foff Try.prog 221 6 = some (6, 216) := by kernel_rfl
theorem foff_221_7 : foff Try.prog 221 7 = some (7, 217) := by kernel_rfl
theorem foff_221_8 : foff Try.prog 221 8 = some (8, 218) := by kernel_rfl
theorem foff_221_9 : foff Try.prog 221 9 = some (9, 219) := by kernel_rfl
theorem foff_221_10 : foff Try.prog 221 10 = some (10, 220) := by kernel_rfl
theorem fplaces_221 : fplaces Try.prog 221 = some [(0, 1), (1, 1), (2, 1), (3, 1), (4, 1), (5, 1), (6, 1), (7, 1), (8, 1), (9, 1), (10, 1)] := by kernel_rfl
theorem tsize_222 : tsize Try.prog 222 = some 11 := by kernel_rfl
theorem tbytes_222 : tbytes Try.prog 222 = some 48 := by kernel_rfl
theorem tagg_222 : tagg Try.prog 222 = some true := by kernel_rfl
theorem zcells_222 : zcells Try.prog 222 = some [AV.int .u64 0, AV.int .u64 0, AV.int .u32 0, AV.int .u8 0, AV.int .u8 0, AV.int .u8 0, AV.int .u8 0, AV.nilf, AV.nilp, AV.int .i32 0, AV.int .i32 0] := by kernel_rfl
theorem telem_222 : telem Try.prog 222 = none := by kernel_rfl
theorem tnotIface_222 : tnotIface Try.prog 222 = true := by kernel_rfl
theorem foff_222_0 : foff Try.prog 222 0 = some (0, 12) := by kernel_rfl
theorem foff_222_1 : foff Try.prog 222 1 = some (1, 12) := by kernel_rfl
theorem foff_222_2 : foff Try.prog 222 2 = some (2, 115) := by kernel_rfl
theorem foff_222_3 : foff Try.prog 222 3 = some (3, 215) := by kernel_rfl
theorem foff_222_4 : foff Try.prog 222 4 = some (4, 5) := by kernel_rfl
theorem foff_222_5 : foff Try.prog 222 5 = some (5, 5) := by kernel_rfl
theorem foff_222_6 : foff Try.prog 222 6 = some (6, 216) := by kernel_rfl
theorem foff_222_7 : foff Try.prog 222 7 = some (7, 217) := by kernel_rfl
theorem foff_222_8 : foff Try.prog 222 8 = some (8, 218) := by kernel_rfl
theorem foff_222_9 : foff Try.prog 222 9 = some (9, 219) := by kernel_rfl
theorem foff_222_10 : foff Try.prog 222 10 = some (10, 220) := by kernel_rfl
theorem fplaces_222 : fplaces Try.prog 222 = some [(0, 1), (1, 1), (2, 1), (3, 1), (4, 1), (5, 1), (6, 1), (7, 1), (8, 1), (9, 1), (10, 1)] := by kernel_rfl
theorem tsize_223 : tsize Try.prog 223 = some 1 := by kernel_rfl
theorem tbytes_223 : tbytes Try.prog 223 = some 16 := by kernel_rfl
theorem tagg_223 : tagg Try.prog 223 = some true := by kernel_rfl
theorem zcells_223 : zcells Try.prog 223 = some [AV.str ⟨#[]⟩] := by kernel_rfl
theorem telem_223 : telem Try.prog 223 = none := by kernel_rfl
theorem tnotIface_223 : tnotIface Try.prog 223 = true := by kernel_rfl
theorem foff_223_0 : foff Try.prog 223 0 = some (0, 9) := by kernel_rfl
theorem fplaces_223 : fplaces Try.prog 223 = some [(0, 1)] := by kernel_rfl
theorem tsize_224 : tsize Try.prog 224 = some 1 := by kernel_rfl
theorem tbytes_224 : tbytes Try.prog 224 = some 16 := by kernel_rfl
theorem tagg_224 : tagg Try.prog 224 = some true := by kernel_rfl
theorem zcells_224 : zcells Try.prog 224 = some [AV.str ⟨#[]⟩] := by kernel_rfl
theorem telem_224 : telem Try.prog 224 = none := by kernel_rfl
theorem tnotIface_224 : tnotIface Try.prog 224 = true := by kernel_rfl
theorem foff_224_0 : foff Try.prog 224 0 = some (0, 9) := by kernel_rfl
theorem fplaces_224 : fplaces Try.prog 224 = some [(0, 1)] := by kernel_rfl
theorem tsize_225 : tsize Try.prog 225 = some 1 := by kernel_rfl
theorem tbytes_225 : tbytes Try.prog 225 = some 8 := by kernel_rfl
theorem tagg_225 : tagg Try.prog 225 = some false := by kernel_rfl
theorem zcells_225 : zcells Try.prog 225 = some [AV.nilp] := by kernel_rfl
theorem telem_225 : telem Try.prog 225 = none := by kernel_rfl
theorem tnotIface_225 : tnotIface Try.prog 225 = true := by kernel_rfl
theorem tfun_1 : tfun Try.prog 1 = true := by kernel_rfl
theorem telem_1 : telem Try.prog 1 = none := by kernel_rfl
theorem tfun_39 : tfun Try.prog 39 = true := by kernel_rfl
theorem telem_39 : telem Try.prog 39 = none := by kernel_rfl
theorem tfun_40 : tfun Try.prog 40 = true := by kernel_rfl
theorem telem_40 : telem Try.prog 40 = none := by kernel_rfl
theorem tfun_41 : tfun Try.prog 41 = true := by kernel_rfl
theorem telem_41 : telem Try.prog 41 = none := by kernel_rfl
theorem tfun_42 : tfun Try.prog 42 = true := by kernel_rfl
theorem telem_42 : telem Try.prog 42 = none := by kernel_rfl
theorem tfun_46 : tfun Try.prog 46 = true := by kernel_rfl
theorem telem_46 : telem Try.prog 46 = none := by kernel_rfl
theorem tfun_47 : tfun Try.prog 47 = true := by kernel_rfl
theorem telem_47 : telem Try.prog 47 = none := by kernel_rfl
theorem tfun_48 : tfun Try.prog 48 = true := by kernel_rfl
theorem telem_48 : telem Try.prog 48 = none := by kernel_rfl
theorem tfun_49 : tfun Try.prog 49 = true := by kernel_rfl
theorem telem_49 : telem Try.prog 49 = none := by kernel_rfl
theorem tfun_50 : tfun Try.prog 50 = true := by kernel_rfl
theorem telem_50 : telem Try.prog 50 = none := by kernel_rfl
theorem tfun_51 : tfun Try.prog 51 = true := by kernel_rfl
theorem telem_51 : telem Try.prog 51 = none := by kernel_rfl
theorem tfun_55 : tfun Try.prog 55 = true := by kernel_rfl
theorem telem_55 : telem Try.prog 55 = none := by kernel_rfl
theorem tfun_56 : tfun Try.prog 56 = true := by kernel_rfl
theorem telem_56 : telem Try.prog 56 = none := by kernel_rfl
theorem tfun_57 : tfun Try.prog 57 = true := by kernel_rfl
theorem telem_57 : telem Try.prog 57 = none := by kernel_rfl
theorem tfun_58 : tfun Try.prog 58 = true := by kernel_rfl
theorem telem_58 : telem Try.prog 58 = none := by kernel_rfl
theorem tfun_60 : tfun Try.prog 60 = true := by kernel_rfl
theorem telem_60 : telem Try.prog 60 = none := by kernel_rfl
theorem tfun_61 : tfun Try.prog 61 = true := by kernel_rfl
theorem telem_61 : telem Try.prog 61 = none := by kernel_rfl
theorem tfun_62 : tfun Try.prog 62 = true := by kernel_rfl
theorem telem_62 : telem Try.prog 62 = none := by kernel_rfl
theorem tfun_63 : tfun Try.prog 63 = true := by kernel_rfl
theorem telem_63 : telem Try.prog 63 = none := by kernel_rfl
theorem tfun_64 : tfun Try.prog 64 = true := by kernel_rfl
theorem telem_64 : telem Try.prog 64 = none := by kernel_rfl
theorem tfun_65 : tfun Try.prog 65 = true := by kernel_rfl
theorem telem_65 : telem Try.prog 65 = none := by kernel_rfl
theorem tfun_66 : tfun Try.prog 66 = true := by kernel_rfl
theorem telem_66 : telem Try.prog 66 = none := by kernel_rfl
theorem tfun_67 : tfun Try.prog 67 = true := by kernel_rfl
theorem telem_67 : telem Try.prog 67 = none := by kernel_rfl
theorem tfun_68 : tfun Try.prog 68 = true := by kernel_rfl
theorem telem_68 : telem Try.prog 68 = none := by kernel_rfl
theorem tfun_69 : tfun Try.prog 69 = true := by kernel_rfl
theorem telem_69 : telem Try.prog 69 = none := by kernel_rfl
theorem tfun_70 : tfun Try.prog 70 = true := by kernel_rfl
theorem telem_70 : telem Try.prog 70 = none := by kernel_rfl
theorem tfun_71 : tfun Try.prog 71 = true := by kernel_rfl
theorem telem_71 : telem Try.prog 71 = none := by kernel_rfl
theorem tfun_72 : tfun Try.prog 72 = true := by kernel_rfl
theorem telem_72 : telem Try.prog 72 = none := by kernel_rfl
theorem tfun_74 : tfun Try.prog 74 = true := by kernel_rfl
theorem telem_74 : telem Try.prog 74 = none := by kernel_rfl
theorem tfun_76 : tfun Try.prog 76 = true := by kernel_rfl
theorem telem_76 : telem Try.prog 76 = none := by kernel_rfl
theorem tfun_84 : tfun Try.prog 84 = true := by kernel_rfl
theorem telem_84 : telem Try.prog 84 = none := by kernel_rfl
theorem tfun_85 : tfun Try.prog 85 = true := by kernel_rfl
theorem telem_85 : telem Try.prog 85 = none := by kernel_rfl
theorem tfun_86 : tfun Try.prog 86 = true := by kernel_rfl
theorem telem_86 : telem Try.prog 86 = none := by kernel_rfl
theorem tfun_88 : tfun Try.prog 88 = true := by kernel_rfl
theorem telem_88 : telem Try.prog 88 = none := by kernel_rfl
theorem tfun_90 : tfun Try.prog 90 = true := by kernel_rfl
theorem telem_90 : telem Try.prog 90 = none := by kernel_rfl
theorem tfun_92 : tfun Try.prog 92 = true := by kernel_rfl
theorem telem_92 : telem Try.prog 92 = none := by kernel_rfl
theorem tfun_94 : tfun Try.prog 94 = true := by kernel_rfl
theorem telem_94 : telem Try.prog 94 = none := by kernel_rfl
theorem tfun_96 : tfun Try.prog 96 = true := by kernel_rfl
theorem telem_96 : telem Try.prog 96 = none := by kernel_rfl
theorem tfun_98 : tfun Try.prog 98 = true := by kernel_rfl
theorem telem_98 : telem Try.prog 98 = none := by kernel_rfl
theorem tfun_99 : tfun Try.prog 99 = true := by kernel_rfl
theorem telem_99 : telem Try.prog 99 = none := by kernel_rfl
theorem tfun_103 : tfun Try.prog 103 = true := by kernel_rfl
theorem telem_103 : telem Try.prog 103 = none := by kernel_rfl
theorem tfun_104 : tfun Try.prog 104 = true := by kernel_rfl
theorem telem_104 : telem Try.prog 104 = none := by kernel_rfl
theorem tfun_105 : tfun Try.prog 105 = true := by kernel_rfl
theorem telem_105 : telem Try.prog 105 = none := by kernel_rfl
theorem tfun_106 : tfun Try.prog 106 = true := by kernel_rfl
theorem telem_106 : telem Try.prog 106 = none := by kernel_rfl
theorem tfun_107 : tfun Try.prog 107 = true := by kernel_rfl
theorem telem_107 : telem Try.prog 107 = none := by kernel_rfl
theorem tfun_110 : tfun Try.prog 110 = true := by kernel_rfl
theorem telem_110 : telem Try.prog 110 = none := by kernel_rfl
theorem tfun_112 : tfun Try.prog 112 = true := by kernel_rfl
theorem telem_112 : telem Try.prog 112 = none := by kernel_rfl
theorem tfun_113 : tfun Try.prog 113 = true := by kernel_rfl
theorem telem_113 : telem Try.prog 113 = none := by kernel_rfl
theorem tfun_114 : tfun Try.prog 114 = true := by kernel_rfl
theorem telem_114 : telem Try.prog 114 = none := by kernel_rfl
theorem tfun_117 : tfun Try.prog 117 = true := by kernel_rfl
theorem telem_117 : telem Try.prog 117 = none := by kernel_rfl
theorem tfun_118 : tfun Try.prog 118 = true := by kernel_rfl
theorem telem_118 : telem Try.prog 118 = none := by kernel_rfl
theorem tfun_123 : tfun Try.prog 123 = true := by kernel_rfl
theorem telem_123 : telem Try.prog 123 = none := by kernel_rfl
theorem tfun_129 : tfun Try.prog 129 = true := by kernel_rfl
theorem telem_129 : telem Try.prog 129 = none := by kernel_rfl
theorem tfun_130 : tfun Try.prog 130 = true := by kernel_rfl
theorem telem_130 : telem Try.prog 130 = none := by kernel_rfl
theorem tfun_131 : tfun Try.prog 131 = true := by kernel_rfl
theorem telem_131 : telem Try.prog 131 = none := by kernel_rfl
theorem tfun_132 : tfun Try.prog 132 = true := by kernel_rfl
theorem telem_132 : telem Try.prog 132 = none := by kernel_rfl
theorem tfun_133 : tfun Try.prog 133 = true := by kernel_rfl
theorem telem_133 : telem Try.prog 133 = none := by kernel_rfl
theorem tfun_134 : tfun Try.prog 134 = true := by kernel_rfl
theorem telem_134 : telem Try.prog 134 = none := by kernel_rfl
theorem tfun_135 : tfun Try.prog 135 = true := by kernel_rfl
theorem telem_135 : telem Try.prog 135 = none := by kernel_rfl
theorem tfun_138 : tfun Try.prog 138 = true := by kernel_rfl
theorem telem_138 : telem Try.prog 138 = none := by kernel_rfl
theorem tfun_139 : tfun Try.prog 139 = true := by kernel_rfl
theorem telem_139 : telem Try.prog 139 = none := by kernel_rfl
theorem tfun_140 : tfun Try.prog 140 = true := by kernel_rfl
theorem telem_140 : telem Try.prog 140 = none := by kernel_rfl
theorem tfun_141 : tfun Try.prog 141 = true := by kernel_rfl
theorem telem_141 : telem Try.prog 141 = none := by kernel_rfl
theorem tfun_151 : tfun Try.prog 151 = true := by kernel_rfl
theorem telem_151 : telem Try.prog 151 = none := by kernel_rfl
theorem tfun_152 : tfun Try.prog 152 = true := by kernel_rfl
theorem telem_152 : telem Try.prog 152 = none := by kernel_rfl
theorem tfun_153 : tfun Try.prog 153 = true := by kernel_rfl
theorem telem_153 : telem Try.prog 153 = none := by kernel_rfl
theorem tfun_154 : tfun Try.prog 154 = true := by kernel_rfl
theorem telem_154 : telem Try.prog 154 = none := by kernel_rfl
theorem tfun_156 : tfun Try.prog 156 = true := by kernel_rfl
theorem telem_156 : telem Try.prog 156 = none := by kernel_rfl
theorem tfun_157 : tfun Try.prog 157 = true := by kernel_rfl
theorem telem_157 : telem Try.prog 157 = none := by kernel_rfl
theorem tfun_158 : tfun Try.prog 158 = true := by kernel_rfl
theorem telem_158 : telem Try.prog 158 = none := by kernel_rfl
theorem tfun_159 : tfun Try.prog 159 = true := by kernel_rfl
theorem telem_159 : telem Try.prog 159 = none := by kernel_rfl
theorem tfun_160 : tfun Try.prog 160 = true := by kernel_rfl
theorem telem_160 : telem Try.prog 160 = none := by kernel_rfl
theorem tfun_161 : tfun Try.prog 161 = true := by kernel_rfl
theorem telem_161 : telem Try.prog 161 = none := by kernel_rfl
theorem tfun_162 : tfun Try.prog 162 = true := by kernel_rfl
theorem telem_162 : telem Try.prog 162 = none := by kernel_rfl
theorem tfun_163 : tfun Try.prog 163 = true := by kernel_rfl
theorem telem_163 : telem Try.prog 163 = none := by kernel_rfl
theorem tfun_164 : tfun Try.prog 164 = true := by kernel_rfl
theorem telem_164 : telem Try.prog 164 = none := by kernel_rfl
theorem tfun_165 : tfun Try.prog 165 = true := by kernel_rfl
theorem telem_165 : telem Try.prog 165 = none := by kernel_rfl
theorem tfun_166 : tfun Try.prog 166 = true := by kernel_rfl
theorem telem_166 : telem Try.prog 166 = none := by kernel_rfl
theorem tfun_167 : tfun Try.prog 167 = true := by kernel_rfl
theorem telem_167 : telem Try.prog 167 = none := by kernel_rfl
theorem tfun_168 : tfun Try.prog 168 = true := by kernel_rfl
theorem telem_168 : telem Try.prog 168 = none := by kernel_rfl
theorem tfun_169 : tfun Try.prog 169 = true := by kernel_rfl
theorem telem_169 : telem Try.prog 169 = none := by kernel_rfl
theorem tfun_171 : tfun Try.prog 171 = true := by kernel_rfl
theorem telem_171 : telem Try.prog 171 = none := by kernel_rfl
theorem tfun_172 : tfun Try.prog 172 = true := by kernel_rfl
theorem telem_172 : telem Try.prog 172 = none := by kernel_rfl
theorem tfun_174 : tfun Try.prog 174 = true := by kernel_rfl
theorem telem_174 : telem Try.prog 174 = none := by kernel_rfl
theorem tfun_175 : tfun Try.prog 175 = true := by kernel_rfl
theorem telem_175 : telem Try.prog 175 = none := by kernel_rfl
theorem tfun_176 : tfun Try.prog 176 = true := by kernel_rfl
theorem telem_176 : telem Try.prog 176 = none := by kernel_rfl
theorem tfun_178 : tfun Try.prog 178 = true := by kernel_rfl
theorem telem_178 : telem Try.prog 178 = none := by kernel_rfl
theorem tfun_180 : tfun Try.prog 180 = true := by kernel_rfl
theorem telem_180 : telem Try.prog 180 = none := by kernel_rfl
theorem tfun_181 : tfun Try.prog 181 = true := by kernel_rfl
theorem telem_181 : telem Try.prog 181 = none := by kernel_rfl
theorem tfun_182 : tfun Try.prog 182 = true := by kernel_rfl
theorem telem_182 : telem Try.prog 182 = none := by kernel_rfl
theorem tfun_183 : tfun Try.prog 183 = true := by kernel_rfl
theorem telem_183 : telem Try.prog 183 = none := by kernel_rfl
theorem tfun_184 : tfun Try.prog 184 = true := by kernel_rfl
theorem telem_184 : telem Try.prog 184 = none := by kernel_rfl
theorem tfun_186 : tfun Try.prog 186 = true := by kernel_rfl
theorem telem_186 : telem Try.prog 186 = none := by kernel_rfl
theorem tfun_187 : tfun Try.prog 187 = true := by kernel_rfl
theorem telem_187 : telem Try.prog 187 = none := by kernel_rfl
theorem tfun_188 : tfun Try.prog 188 = true := by kernel_rfl
theorem telem_188 : telem Try.prog 188 = none := by kernel_rfl
theorem tfun_189 : tfun Try.prog 189 = true := by kernel_rfl
theorem telem_189 : telem Try.prog 189 = none := by kernel_rfl
theorem tfun_190 : tfun Try.prog 190 = true := by kernel_rfl
theorem telem_190 : telem Try.prog 190 = none := by kernel_rfl
theorem tfun_191 : tfun Try.prog 191 = true := by kernel_rfl
theorem telem_191 : telem Try.prog 191 = none := by kernel_rfl
theorem tfun_192 : tfun Try.prog 192 = true := by kernel_rfl
theorem telem_192 : telem Try.prog 192 = none := by kernel_rfl
theorem tfun_193 : tfun Try.prog 193 = true := by kernel_rfl
theorem telem_193 : telem Try.prog 193 = none := by kernel_rfl
theorem tfun_195 : tfun Try.prog 195 = true := by kernel_rfl
theorem telem_195 : telem Try.prog 195 = none := by kernel_rfl
theorem tfun_196 : tfun Try.prog 196 = true := by kernel_rfl
theorem telem_196 : telem Try.prog 196 = none := by kernel_rfl
theorem tfun_197 : tfun Try.prog 197 = true := by kernel_rfl
theorem telem_197 : telem Try.prog 197 = none := by kernel_rfl
theorem tfun_198 : tfun Try.prog 198 = true := by kernel_rfl
theorem telem_198 : telem Try.prog 198 = none := by kernel_rfl
theorem tfun_199 : tfun Try.prog 199 = true := by kernel_rfl
theorem telem_199 : telem Try.prog 199 = none := by kernel_rfl
theorem tfun_201 : tfun Try.prog 201 = true := by kernel_rfl
theorem telem_201 : telem Try.prog 201 = none := by kernel_rfl
theorem tfun_202 : tfun Try.prog 202 = true := by kernel_rfl
theorem telem_202 : telem Try.prog 202 = none := by kernel_rfl
theorem tfun_204 : tfun Try.prog 204 = true := by kernel_rfl
theorem telem_204 : telem Try.prog 204 = none := by kernel_rfl
theorem tfun_208 : tfun Try.prog 208 = true := by kernel_rfl
theorem telem_208 : telem Try.prog 208 = none := by kernel_rfl
theorem tfun_214 : tfun Try.prog 214 = true := by kernel_rfl
theorem telem_214 : telem Try.prog 214 = none := by kernel_rfl
theorem tfun_217 : tfun Try.prog 217 = true := by kernel_rfl
theorem telem_217 : telem Try.prog 217 = none := by kernel_rfl
end Go.Proofs.Ytgdlkhgfehclpaa
