/- The program's types. -/
import Derived.Test.YtgjnkppjfbcicaaGvS
import Derived.Test.YtgjnkppjfbcicaaProg
namespace Go.VS.S
open Go.Proofs

theorem T2 : tabOf Try.prog 2 = some ⟨.int .i64, 1, 8, [.int .i64 0]⟩ := by kernel_rfl
theorem T3 : tabOf Try.prog 3 = some ⟨.int .i64, 1, 8, [.int .i64 0]⟩ := by kernel_rfl
theorem T4 : tabOf Try.prog 4 = some ⟨.bool, 1, 1, [.bool false]⟩ := by kernel_rfl
theorem T5 : tabOf Try.prog 5 = some ⟨.int .u8, 1, 1, [.int .u8 0]⟩ := by kernel_rfl
theorem T9 : tabOf Try.prog 9 = some ⟨.string, 1, 16, [.string ByteArray.empty]⟩ := by kernel_rfl
theorem T22 : tabOf Try.prog 22 = some ⟨.slice 31, 1, 24, [.slice none 0 0]⟩ := by kernel_rfl
theorem T25 : tabOf Try.prog 25 = some ⟨.pointer 64, 1, 8, [.pointer none]⟩ := by kernel_rfl
theorem T27 : tabOf Try.prog 27 = some ⟨.slice 57, 1, 24, [.slice none 0 0]⟩ := by kernel_rfl
theorem T28 : tabOf Try.prog 28 = some ⟨.struct [(0, 9), (1, 27)], 2, 40, [.string ByteArray.empty, .slice none 0 0]⟩ := by kernel_rfl
theorem T29 : tabOf Try.prog 29 = some ⟨.struct [(0, 9), (1, 27)], 2, 40, [.string ByteArray.empty, .slice none 0 0]⟩ := by kernel_rfl
theorem T30 : tabOf Try.prog 30 = some ⟨.struct [(0, 3), (1, 29), (3, 9), (4, 3)], 5, 72, [.int .i64 0, .string ByteArray.empty, .slice none 0 0, .string ByteArray.empty, .int .i64 0]⟩ := by kernel_rfl
theorem T31 : tabOf Try.prog 31 = some ⟨.struct [(0, 3), (1, 29), (3, 9), (4, 3)], 5, 72, [.int .i64 0, .string ByteArray.empty, .slice none 0 0, .string ByteArray.empty, .int .i64 0]⟩ := by kernel_rfl
theorem T32 : tabOf Try.prog 32 = some ⟨.int .i64, 1, 8, [.int .i64 0]⟩ := by kernel_rfl
theorem T35 : tabOf Try.prog 35 = some ⟨.int .u64, 1, 8, [.int .u64 0]⟩ := by kernel_rfl
theorem T36 : tabOf Try.prog 36 = some ⟨.slice 29, 1, 24, [.slice none 0 0]⟩ := by kernel_rfl
theorem T52 : tabOf Try.prog 52 = some ⟨.struct [(0, 3), (1, 3)], 2, 16, [.int .i64 0, .int .i64 0]⟩ := by kernel_rfl
theorem T53 : tabOf Try.prog 53 = some ⟨.struct [(0, 3), (1, 3)], 2, 16, [.int .i64 0, .int .i64 0]⟩ := by kernel_rfl
theorem T54 : tabOf Try.prog 54 = some ⟨.array 2 3, 2, 16, [.int .i64 0, .int .i64 0]⟩ := by kernel_rfl
theorem T55 : tabOf Try.prog 55 = some ⟨.array 2 3, 2, 16, [.int .i64 0, .int .i64 0]⟩ := by kernel_rfl
theorem T56 : tabOf Try.prog 56 = some ⟨.struct [(0, 53), (2, 55), (4, 4), (5, 9), (6, 55)], 8, 72, [.int .i64 0, .int .i64 0, .int .i64 0, .int .i64 0, .bool false, .string ByteArray.empty, .int .i64 0, .int .i64 0]⟩ := by kernel_rfl
theorem T57 : tabOf Try.prog 57 = some ⟨.struct [(0, 53), (2, 55), (4, 4), (5, 9), (6, 55)], 8, 72, [.int .i64 0, .int .i64 0, .int .i64 0, .int .i64 0, .bool false, .string ByteArray.empty, .int .i64 0, .int .i64 0]⟩ := by kernel_rfl
theorem T58 : tabOf Try.prog 58 = some ⟨.slice 9, 1, 24, [.slice none 0 0]⟩ := by kernel_rfl
theorem T59 : tabOf Try.prog 59 = some ⟨.pointer 62, 1, 8, [.pointer none]⟩ := by kernel_rfl
theorem T60 : tabOf Try.prog 60 = some ⟨.slice 72, 1, 24, [.slice none 0 0]⟩ := by kernel_rfl
theorem T61 : tabOf Try.prog 61 = some ⟨.struct [(0, 60), (1, 3)], 2, 32, [.slice none 0 0, .int .i64 0]⟩ := by kernel_rfl
theorem T62 : tabOf Try.prog 62 = some ⟨.struct [(0, 60), (1, 3)], 2, 32, [.slice none 0 0, .int .i64 0]⟩ := by kernel_rfl
theorem T63 : tabOf Try.prog 63 = some ⟨.struct [(0, 59)], 1, 8, [.pointer none]⟩ := by kernel_rfl
theorem T64 : tabOf Try.prog 64 = some ⟨.struct [(0, 59)], 1, 8, [.pointer none]⟩ := by kernel_rfl
theorem T70 : tabOf Try.prog 70 = some ⟨.slice 27, 1, 24, [.slice none 0 0]⟩ := by kernel_rfl
theorem T71 : tabOf Try.prog 71 = some ⟨.struct [(0, 58), (1, 70)], 2, 48, [.slice none 0 0, .slice none 0 0]⟩ := by kernel_rfl
theorem T72 : tabOf Try.prog 72 = some ⟨.struct [(0, 58), (1, 70)], 2, 48, [.slice none 0 0, .slice none 0 0]⟩ := by kernel_rfl
theorem T74 : tabOf Try.prog 74 = some ⟨.pointer 72, 1, 8, [.pointer none]⟩ := by kernel_rfl
theorem R0 : Try.f0.results.toList = [] := by kernel_rfl
theorem R1 : Try.f1.results.toList = [] := by kernel_rfl
theorem R2 : Try.f2.results.toList = [] := by kernel_rfl
theorem R3 : Try.f3.results.toList = [.tmp 6] := by kernel_rfl
theorem R4 : Try.f4.results.toList = [.tmp 2] := by kernel_rfl
theorem R5 : Try.f5.results.toList = [.tmp 4] := by kernel_rfl
theorem R6 : Try.f6.results.toList = [.tmp 2] := by kernel_rfl
theorem R7 : Try.f7.results.toList = [.tmp 0] := by kernel_rfl
theorem R8 : Try.f8.results.toList = [.tmp 0] := by kernel_rfl
theorem R9 : Try.f9.results.toList = [.tmp 4] := by kernel_rfl
theorem R10 : Try.f10.results.toList = [.cell 2 29] := by kernel_rfl
theorem R11 : Try.f11.results.toList = [.tmp 8] := by kernel_rfl
theorem R12 : Try.f12.results.toList = [.tmp 4] := by kernel_rfl
theorem R13 : Try.f13.results.toList = [.tmp 4] := by kernel_rfl
theorem R14 : Try.f14.results.toList = [] := by kernel_rfl
theorem R15 : Try.f15.results.toList = [.tmp 4] := by kernel_rfl
theorem R16 : Try.f16.results.toList = [.tmp 4] := by kernel_rfl
theorem R17 : Try.f17.results.toList = [.cell 4 29, .tmp 5] := by kernel_rfl
theorem R18 : Try.f18.results.toList = [.cell 4 29, .tmp 5] := by kernel_rfl
theorem R19 : Try.f19.results.toList = [.tmp 4] := by kernel_rfl
theorem R20 : Try.f20.results.toList = [.tmp 8] := by kernel_rfl
theorem R21 : Try.f21.results.toList = [.tmp 2] := by kernel_rfl
theorem R22 : Try.f22.results.toList = [.tmp 2] := by kernel_rfl
theorem R23 : Try.f23.results.toList = [.tmp 6] := by kernel_rfl
theorem R24 : Try.f24.results.toList = [.tmp 2] := by kernel_rfl
theorem R25 : Try.f25.results.toList = [] := by kernel_rfl
theorem R26 : Try.f26.results.toList = [.tmp 2] := by kernel_rfl
theorem R27 : Try.f27.results.toList = [.cell 2 29] := by kernel_rfl
theorem R28 : Try.f28.results.toList = [.tmp 4, .tmp 5, .tmp 6] := by kernel_rfl
theorem R29 : Try.f29.results.toList = [.tmp 4] := by kernel_rfl
theorem R30 : Try.f30.results.toList = [.tmp 4] := by kernel_rfl
theorem R31 : Try.f31.results.toList = [.tmp 6] := by kernel_rfl
theorem R32 : Try.f32.results.toList = [.tmp 6] := by kernel_rfl
theorem R33 : Try.f33.results.toList = [.tmp 6] := by kernel_rfl
theorem R34 : Try.f34.results.toList = [.tmp 4] := by kernel_rfl
theorem R35 : Try.f35.results.toList = [.tmp 4] := by kernel_rfl
theorem R36 : Try.f36.results.toList = [.tmp 4] := by kernel_rfl
theorem R37 : Try.f37.results.toList = [] := by kernel_rfl
theorem R38 : Try.f38.results.toList = [] := by kernel_rfl
theorem R39 : Try.f39.results.toList = [] := by kernel_rfl
theorem R40 : Try.f40.results.toList = [] := by kernel_rfl
theorem R41 : Try.f41.results.toList = [] := by kernel_rfl
theorem R42 : Try.f42.results.toList = [] := by kernel_rfl
theorem R43 : Try.f43.results.toList = [] := by kernel_rfl
theorem R44 : Try.f44.results.toList = [] := by kernel_rfl
theorem R45 : Try.f45.results.toList = [] := by kernel_rfl
theorem R46 : Try.f46.results.toList = [] := by kernel_rfl
theorem R47 : Try.f47.results.toList = [] := by kernel_rfl
theorem R48 : Try.f48.results.toList = [] := by kernel_rfl
theorem R49 : Try.f49.results.toList = [] := by kernel_rfl
theorem R50 : Try.f50.results.toList = [] := by kernel_rfl
theorem R51 : Try.f51.results.toList = [] := by kernel_rfl
theorem R52 : Try.f52.results.toList = [] := by kernel_rfl
theorem R53 : Try.f53.results.toList = [] := by kernel_rfl
attribute [go_sem] R0 R1 R2 R3 R4 R5 R6 R7 R8 R9 R10 R11 R12 R13 R14 R15 R16 R17 R18 R19 R20 R21 R22 R23 R24 R25 R26 R27 R28 R29 R30 R31 R32 R33 R34 R35 R36 R37 R38 R39 R40 R41 R42 R43 R44 R45 R46 R47 R48 R49 R50 R51 R52 R53
end Go.VS.S
