/-
  FUNCTIONS IN THEIR COMPILED FORM (printed by a program of ours), each held against the loaded program by the kernel.
-/
import Derived.Test.YtccmaeefedgcnaaGreatPart06
set_option linter.all false

namespace Go.Proofs.YtccmaeefedgcnaaGreat

/-! longshore/longshoreref01.Milli -/
abbrev c71r0 : List GOp := [⟨none, (some 2), .mv 2 (.c (.int .i64 0))⟩,
  ⟨none, (some 3), .mv 3 (.c (.int .i64 0))⟩]
abbrev c71r1 : List GOp := [⟨none, (some 4), .mv 4 (.c (.int .i64 0))⟩]
abbrev c71r2 : List GOp := [⟨none, (some 8), .mv 8 (.t 4 false)⟩,
  ⟨none, (some 9), .mv 9 (.t 0 false)⟩,
  ⟨none, (some 10), .len 10 true (.t 9 false)⟩,
  ⟨none, (some 11), .bin 11 .lss false (.t 8 false) (.t 10 false)⟩,
  ⟨none, (some 12), .mv 12 (.t 11 true)⟩,
  ⟨(some (12, true)), (some 13), .mv 13 (.t 0 false)⟩,
  ⟨(some (12, true)), (some 14), .mv 14 (.t 4 false)⟩,
  ⟨(some (12, true)), (some 15), .sidx 15 (.t 13 false) (.t 14 false)⟩,
  ⟨(some (12, true)), (some 16), .bin 16 .neq false (.t 15 false) (.c (.int .u8 46))⟩,
  ⟨none, (some 17), .pick 17 (.t 12 false) (.t 16 false) (.c (.bool false))⟩]
abbrev c71s3 : ACode := (.cond (.t 17 false) .skip (.exit 0))
abbrev c71r4 : List GOp := [⟨none, (some 18), .mv 18 (.t 4 false)⟩,
  ⟨none, (some 19), .bin 19 .add false (.t 18 false) (.c (.int .i64 1))⟩,
  ⟨none, (some 4), .mv 4 (.t 19 true)⟩]
abbrev c71s5 : ACode := (.block 1 (.reg c71r4 [4]))
abbrev c71s6 : ACode := (.seq (.seq (.reg c71r2 [17]) c71s3) c71s5)
abbrev c71s7 : ACode := (.loop c71s6)
abbrev c71r8 : List GOp := [⟨none, (some 5), .mv 5 (.c (.str []))⟩]
abbrev c71r9 : List GOp := [⟨none, (some 20), .mv 20 (.t 4 false)⟩,
  ⟨none, (some 21), .mv 21 (.t 0 false)⟩,
  ⟨none, (some 22), .len 22 true (.t 21 false)⟩,
  ⟨none, (some 23), .bin 23 .lss false (.t 20 false) (.t 22 false)⟩]
abbrev c71r10 : List GOp := [⟨none, (some 24), .mv 24 (.t 0 false)⟩,
  ⟨none, (some 25), .mv 25 (.t 4 false)⟩,
  ⟨none, (some 26), .bin 26 .add false (.t 25 false) (.c (.int .i64 1))⟩,
  ⟨none, (some 27), .sslice 27 (.t 24 false) (some (.t 26 false)) none⟩,
  ⟨none, (some 5), .mv 5 (.t 27 true)⟩]
abbrev c71r11 : List GOp := [⟨none, (some 28), .mv 28 (.t 5 false)⟩,
  ⟨none, (some 29), .len 29 true (.t 28 false)⟩,
  ⟨none, (some 30), .bin 30 .lss false (.t 29 false) (.c (.int .i64 1))⟩,
  ⟨none, (some 31), .mv 31 (.t 30 true)⟩,
  ⟨(some (31, false)), (some 32), .mv 32 (.t 5 false)⟩,
  ⟨(some (31, false)), (some 33), .len 33 true (.t 32 false)⟩,
  ⟨(some (31, false)), (some 34), .bin 34 .gtr false (.t 33 false) (.c (.int .i64 3))⟩,
  ⟨none, (some 35), .pick 35 (.t 31 false) (.c (.bool true)) (.t 34 false)⟩,
  ⟨none, (some 36), .mv 36 (.t 35 true)⟩,
  ⟨(some (36, false)), (some 37), .mv 37 (.t 5 false)⟩,
  ⟨(some (36, false)), (some 38), .mv 38 (.t 5 false)⟩,
  ⟨(some (36, false)), (some 39), .len 39 true (.t 38 false)⟩,
  ⟨(some (36, false)), (some 40), .bin 40 .sub false (.t 39 false) (.c (.int .i64 1))⟩,
  ⟨(some (36, false)), (some 41), .sidx 41 (.t 37 false) (.t 40 false)⟩,
  ⟨(some (36, false)), (some 42), .bin 42 .eql false (.t 41 false) (.c (.int .u8 48))⟩,
  ⟨none, (some 43), .pick 43 (.t 36 false) (.c (.bool true)) (.t 42 false)⟩]
abbrev c71r12 : List GOp := [⟨none, (some 2), .mv 2 (.c (.int .i64 0))⟩,
  ⟨none, (some 3), .mv 3 (.c (.int .i64 3))⟩]
abbrev c71s13 : ACode := (.seq (.reg c71r12 [2, 3]) .ret)
abbrev c71s14 : ACode := (.cond (.t 43 false) c71s13 .skip)
abbrev c71s15 : ACode := (.seq (.reg c71r11 [43]) c71s14)
abbrev c71s16 : ACode := (.seq (.reg c71r10 [5]) c71s15)
abbrev c71s17 : ACode := (.cond (.t 23 false) c71s16 .skip)
abbrev c71r18 : List GOp := [⟨none, (some 44), .mv 44 (.t 0 false)⟩,
  ⟨none, (some 45), .mv 45 (.t 4 false)⟩,
  ⟨none, (some 46), .sslice 46 (.t 44 false) none (some (.t 45 false))⟩,
  ⟨none, (some 47), .call (some 47) 101 [(.t 46 false)]⟩,
  ⟨none, (some 48), .un 48 .not (.t 47 false)⟩]
abbrev c71r19 : List GOp := [⟨none, (some 2), .mv 2 (.c (.int .i64 0))⟩,
  ⟨none, (some 3), .mv 3 (.c (.int .i64 3))⟩]
abbrev c71s20 : ACode := (.seq (.reg c71r19 [2, 3]) .ret)
abbrev c71s21 : ACode := (.cond (.t 48 false) c71s20 .skip)
abbrev c71r22 : List GOp := [⟨none, (some 6), .mv 6 (.c (.int .i64 0))⟩]
abbrev c71r23 : List GOp := [⟨none, (some 49), .mv 49 (.t 6 false)⟩,
  ⟨none, (some 50), .mv 50 (.t 5 false)⟩,
  ⟨none, (some 51), .len 51 true (.t 50 false)⟩,
  ⟨none, (some 52), .bin 52 .lss false (.t 49 false) (.t 51 false)⟩]
abbrev c71s24 : ACode := (.cond (.t 52 false) .skip (.exit 2))
abbrev c71r25 : List GOp := [⟨none, (some 55), .mv 55 (.t 5 false)⟩,
  ⟨none, (some 56), .mv 56 (.t 6 false)⟩,
  ⟨none, (some 57), .sidx 57 (.t 55 false) (.t 56 false)⟩,
  ⟨none, (some 58), .bin 58 .lss false (.t 57 false) (.c (.int .u8 48))⟩,
  ⟨none, (some 59), .mv 59 (.t 58 true)⟩,
  ⟨(some (59, false)), (some 60), .mv 60 (.t 5 false)⟩,
  ⟨(some (59, false)), (some 61), .mv 61 (.t 6 false)⟩,
  ⟨(some (59, false)), (some 62), .sidx 62 (.t 60 false) (.t 61 false)⟩,
  ⟨(some (59, false)), (some 63), .bin 63 .gtr false (.t 62 false) (.c (.int .u8 57))⟩,
  ⟨none, (some 64), .pick 64 (.t 59 false) (.c (.bool true)) (.t 63 false)⟩]
abbrev c71r26 : List GOp := [⟨none, (some 2), .mv 2 (.c (.int .i64 0))⟩,
  ⟨none, (some 3), .mv 3 (.c (.int .i64 3))⟩]
abbrev c71s27 : ACode := (.seq (.reg c71r26 [2, 3]) .ret)
abbrev c71s28 : ACode := (.cond (.t 64 false) c71s27 .skip)
abbrev c71s29 : ACode := (.seq (.reg c71r25 [64]) c71s28)
abbrev c71r30 : List GOp := [⟨none, (some 53), .mv 53 (.t 6 false)⟩,
  ⟨none, (some 54), .bin 54 .add false (.t 53 false) (.c (.int .i64 1))⟩,
  ⟨none, (some 6), .mv 6 (.t 54 true)⟩]
abbrev c71s31 : ACode := (.seq (.block 3 c71s29) (.reg c71r30 [6]))
abbrev c71s32 : ACode := (.seq (.seq (.reg c71r23 [52]) c71s24) c71s31)
abbrev c71s33 : ACode := (.loop c71s32)
abbrev c71s34 : ACode := (.block 2 c71s33)
abbrev c71r35 : List GOp := [⟨none, (some 65), .mv 65 (.t 5 false)⟩,
  ⟨none, (some 66), .len 66 true (.t 65 false)⟩,
  ⟨none, (some 67), .bin 67 .lss false (.t 66 false) (.c (.int .i64 3))⟩]
abbrev c71s36 : ACode := (.cond (.t 67 false) .skip (.exit 4))
abbrev c71r37 : List GOp := [⟨none, (some 68), .mv 68 (.t 5 false)⟩,
  ⟨none, (some 69), .bin 69 .add false (.t 68 false) (.c (.str [48]))⟩,
  ⟨none, (some 5), .mv 5 (.t 69 true)⟩]
abbrev c71s38 : ACode := (.block 5 (.reg c71r37 [5]))
abbrev c71s39 : ACode := (.seq (.seq (.reg c71r35 [67]) c71s36) c71s38)
abbrev c71s40 : ACode := (.loop c71s39)
abbrev c71r41 : List GOp := [⟨none, (some 70), .mv 70 (.t 0 false)⟩,
  ⟨none, (some 71), .mv 71 (.t 4 false)⟩,
  ⟨none, (some 72), .sslice 72 (.t 70 false) none (some (.t 71 false))⟩,
  ⟨none, (some 73), .call (some 73) 102 [(.t 72 false)]⟩,
  ⟨none, (some 7), .mv 7 (.t 73 true)⟩]
abbrev c71r42 : List GOp := [⟨none, (some 74), .mv 74 (.t 7 false)⟩,
  ⟨none, (some 75), .bin 75 .gtr false (.t 74 false) (.c (.int .i64 9007199254740))⟩,
  ⟨none, (some 76), .mv 76 (.t 75 true)⟩,
  ⟨(some (76, false)), (some 77), .mv 77 (.t 7 false)⟩,
  ⟨(some (76, false)), (some 78), .bin 78 .mul false (.t 77 false) (.c (.int .i64 1000))⟩,
  ⟨(some (76, false)), (some 79), .mv 79 (.t 5 false)⟩,
  ⟨(some (76, false)), (some 80), .call (some 80) 102 [(.t 79 false)]⟩,
  ⟨(some (76, false)), (some 81), .bin 81 .add false (.t 78 false) (.t 80 false)⟩,
  ⟨(some (76, false)), (some 82), .bin 82 .gtr false (.t 81 false) (.c (.int .i64 9007199254740992))⟩,
  ⟨none, (some 83), .pick 83 (.t 76 false) (.c (.bool true)) (.t 82 false)⟩]
abbrev c71r43 : List GOp := [⟨none, (some 2), .mv 2 (.c (.int .i64 0))⟩,
  ⟨none, (some 3), .mv 3 (.c (.int .i64 9))⟩]
abbrev c71s44 : ACode := (.seq (.reg c71r43 [2, 3]) .ret)
abbrev c71s45 : ACode := (.cond (.t 83 false) c71s44 .skip)
abbrev c71r46 : List GOp := [⟨none, (some 84), .mv 84 (.t 7 false)⟩,
  ⟨none, (some 85), .bin 85 .mul false (.t 84 false) (.c (.int .i64 1000))⟩,
  ⟨none, (some 86), .mv 86 (.t 5 false)⟩,
  ⟨none, (some 87), .call (some 87) 102 [(.t 86 false)]⟩,
  ⟨none, (some 88), .bin 88 .add false (.t 85 false) (.t 87 false)⟩,
  ⟨none, (some 2), .mv 2 (.t 88 true)⟩,
  ⟨none, (some 3), .mv 3 (.c (.int .i64 0))⟩]
abbrev c71s47 : ACode := (.seq (.reg c71r46 [2, 3]) .ret)
abbrev c71s48 : ACode := (.seq (.seq (.reg c71r42 [83]) c71s45) c71s47)
abbrev c71s49 : ACode := (.seq (.reg c71r41 [7]) c71s48)
abbrev c71s50 : ACode := (.seq (.block 4 c71s40) c71s49)
abbrev c71s51 : ACode := (.seq (.seq (.reg c71r22 [6]) c71s34) c71s50)
abbrev c71s52 : ACode := (.seq (.seq (.reg c71r18 [48]) c71s21) c71s51)
abbrev c71s53 : ACode := (.seq (.seq (.reg c71r9 [23]) c71s17) c71s52)
abbrev c71s54 : ACode := (.seq (.reg c71r8 [5]) c71s53)
abbrev c71s55 : ACode := (.seq (.block 0 c71s7) c71s54)
abbrev c71s56 : ACode := (.seq (.reg c71r1 [4]) c71s55)
abbrev c71 : ACode := (.seq (.reg c71r0 [2, 3]) c71s56)
def a71 : AFn := ⟨[], [0, 2, 3, 4, 5, 6, 7, 17, 23, 43, 48, 52, 64, 67, 83], [11, 19, 27, 30, 35, 54, 58, 69, 73, 75, 88], [], [], [], [], [], c71, [.tmp 2, .tmp 3]⟩
theorem is71 : IsFn Tryz.prog 71 1 a71 := isFn_of mix Tryz.func71 (by kernel_rfl) (by kernel_rfl) (by kernel_rfl) (by kernel_rfl) (by kernel_rfl)
theorem sound71 {args : List AV} {r : AV} (hl : args.length = 1) (h : awp Tryz.prog c71 (unw Tryz.prog [] (Ends [.tmp 2, .tmp 3] r)) (initSt args)) : Sound Tryz.prog 71 args r := sound_of is71 hl h
theorem total71 {args : List AV} {Φ : AV → Prop} (hl : args.length = 1) (h : awp Tryz.prog c71 (unw Tryz.prog [] (EndsP [.tmp 2, .tmp 3] Φ)) (initSt args)) : Total Tryz.prog 71 args Φ := total_of is71 hl h

/-! longshore/longshoreref04.Parse -/
abbrev c72r0 : List GOp := [⟨none, (some 2), .mv 2 (.c (.int .i64 0))⟩,
  ⟨none, (some 3), .mv 3 (.c (.int .i64 0))⟩]
abbrev c72r1 : List GOp := [⟨none, (some 4), .mv 4 (.c (.int .i64 0))⟩]
abbrev c72r2 : List GOp := [⟨none, (some 7), .mv 7 (.t 4 false)⟩,
  ⟨none, (some 8), .mv 8 (.t 0 false)⟩,
  ⟨none, (some 9), .len 9 true (.t 8 false)⟩,
  ⟨none, (some 10), .bin 10 .lss false (.t 7 false) (.t 9 false)⟩,
  ⟨none, (some 11), .mv 11 (.t 10 true)⟩,
  ⟨(some (11, true)), (some 12), .mv 12 (.t 0 false)⟩,
  ⟨(some (11, true)), (some 13), .mv 13 (.t 4 false)⟩,
  ⟨(some (11, true)), (some 14), .sidx 14 (.t 12 false) (.t 13 false)⟩,
  ⟨(some (11, true)), (some 15), .bin 15 .geq false (.t 14 false) (.c (.int .u8 48))⟩,
  ⟨none, (some 16), .pick 16 (.t 11 false) (.t 15 false) (.c (.bool false))⟩,
  ⟨none, (some 17), .mv 17 (.t 16 true)⟩,
  ⟨(some (17, true)), (some 18), .mv 18 (.t 0 false)⟩,
  ⟨(some (17, true)), (some 19), .mv 19 (.t 4 false)⟩,
  ⟨(some (17, true)), (some 20), .sidx 20 (.t 18 false) (.t 19 false)⟩,
  ⟨(some (17, true)), (some 21), .bin 21 .leq false (.t 20 false) (.c (.int .u8 57))⟩,
  ⟨none, (some 22), .pick 22 (.t 17 false) (.t 21 false) (.c (.bool false))⟩]
abbrev c72s3 : ACode := (.cond (.t 22 false) .skip (.exit 0))
abbrev c72r4 : List GOp := [⟨none, (some 23), .mv 23 (.t 4 false)⟩,
  ⟨none, (some 24), .bin 24 .add false (.t 23 false) (.c (.int .i64 1))⟩,
  ⟨none, (some 4), .mv 4 (.t 24 true)⟩]
abbrev c72s5 : ACode := (.block 1 (.reg c72r4 [4]))
abbrev c72s6 : ACode := (.seq (.seq (.reg c72r2 [22]) c72s3) c72s5)
abbrev c72s7 : ACode := (.loop c72s6)
abbrev c72r8 : List GOp := [⟨none, (some 25), .mv 25 (.t 0 false)⟩,
  ⟨none, (some 26), .mv 26 (.t 4 false)⟩,
  ⟨none, (some 27), .sslice 27 (.t 25 false) (some (.t 26 false)) none⟩,
  ⟨none, (some 28), .call (some 28) 103 [(.t 27 false)]⟩,
  ⟨none, (some 5), .mv 5 (.t 28 true)⟩]
abbrev c72r9 : List GOp := [⟨none, (some 29), .mv 29 (.t 5 false)⟩,
  ⟨none, (some 30), .bin 30 .eql false (.t 29 false) (.c (.int .i64 0))⟩,
  ⟨none, (some 31), .mv 31 (.t 30 true)⟩,
  ⟨(some (31, false)), (some 32), .mv 32 (.t 0 false)⟩,
  ⟨(some (31, false)), (some 33), .mv 33 (.t 4 false)⟩,
  ⟨(some (31, false)), (some 34), .sslice 34 (.t 32 false) none (some (.t 33 false))⟩,
  ⟨(some (31, false)), (some 35), .call (some 35) 101 [(.t 34 false)]⟩,
  ⟨(some (31, false)), (some 36), .un 36 .not (.t 35 false)⟩,
  ⟨none, (some 37), .pick 37 (.t 31 false) (.c (.bool true)) (.t 36 false)⟩]
abbrev c72r10 : List GOp := [⟨none, (some 2), .mv 2 (.c (.int .i64 0))⟩,
  ⟨none, (some 3), .mv 3 (.c (.int .i64 3))⟩]
abbrev c72s11 : ACode := (.seq (.reg c72r10 [2, 3]) .ret)
abbrev c72s12 : ACode := (.cond (.t 37 false) c72s11 .skip)
abbrev c72r13 : List GOp := [⟨none, (some 38), .mv 38 (.t 0 false)⟩,
  ⟨none, (some 39), .mv 39 (.t 4 false)⟩,
  ⟨none, (some 40), .sslice 40 (.t 38 false) none (some (.t 39 false))⟩,
  ⟨none, (some 41), .call (some 41) 102 [(.t 40 false)]⟩,
  ⟨none, (some 6), .mv 6 (.t 41 true)⟩]
abbrev c72r14 : List GOp := [⟨none, (some 42), .mv 42 (.t 6 false)⟩,
  ⟨none, (some 43), .mv 43 (.t 5 false)⟩,
  ⟨none, (some 44), .bin 44 .quo false (.c (.int .i64 1125899906842624)) (.t 43 false)⟩,
  ⟨none, (some 45), .bin 45 .gtr false (.t 42 false) (.t 44 false)⟩]
abbrev c72r15 : List GOp := [⟨none, (some 2), .mv 2 (.c (.int .i64 0))⟩,
  ⟨none, (some 3), .mv 3 (.c (.int .i64 9))⟩]
abbrev c72s16 : ACode := (.seq (.reg c72r15 [2, 3]) .ret)
abbrev c72s17 : ACode := (.cond (.t 45 false) c72s16 .skip)
abbrev c72r18 : List GOp := [⟨none, (some 46), .mv 46 (.t 6 false)⟩,
  ⟨none, (some 47), .mv 47 (.t 5 false)⟩,
  ⟨none, (some 48), .bin 48 .mul false (.t 46 false) (.t 47 false)⟩,
  ⟨none, (some 2), .mv 2 (.t 48 true)⟩,
  ⟨none, (some 3), .mv 3 (.c (.int .i64 0))⟩]
abbrev c72s19 : ACode := (.seq (.reg c72r18 [2, 3]) .ret)
abbrev c72s20 : ACode := (.seq (.seq (.reg c72r14 [45]) c72s17) c72s19)
abbrev c72s21 : ACode := (.seq (.reg c72r13 [6]) c72s20)
abbrev c72s22 : ACode := (.seq (.seq (.reg c72r9 [37]) c72s12) c72s21)
abbrev c72s23 : ACode := (.seq (.reg c72r8 [5]) c72s22)
abbrev c72s24 : ACode := (.seq (.block 0 c72s7) c72s23)
abbrev c72s25 : ACode := (.seq (.reg c72r1 [4]) c72s24)
abbrev c72 : ACode := (.seq (.reg c72r0 [2, 3]) c72s25)
def a72 : AFn := ⟨[], [0, 2, 3, 4, 5, 6, 22, 37, 45], [10, 16, 24, 28, 30, 41, 48], [], [], [], [], [], c72, [.tmp 2, .tmp 3]⟩
theorem is72 : IsFn Tryz.prog 72 1 a72 := isFn_of mix Tryz.func72 (by kernel_rfl) (by kernel_rfl) (by kernel_rfl) (by kernel_rfl) (by kernel_rfl)
theorem sound72 {args : List AV} {r : AV} (hl : args.length = 1) (h : awp Tryz.prog c72 (unw Tryz.prog [] (Ends [.tmp 2, .tmp 3] r)) (initSt args)) : Sound Tryz.prog 72 args r := sound_of is72 hl h
theorem total72 {args : List AV} {Φ : AV → Prop} (hl : args.length = 1) (h : awp Tryz.prog c72 (unw Tryz.prog [] (EndsP [.tmp 2, .tmp 3] Φ)) (initSt args)) : Total Tryz.prog 72 args Φ := total_of is72 hl h

/-! longshore/longshoreref04.Text -/
abbrev c74r0 : List GOp := [⟨none, (some 2), .mv 2 (.c (.str []))⟩]
abbrev c74r1 : List GOp := [⟨none, (some 5), .mv 5 (.t 0 false)⟩,
  ⟨none, (some 6), .call (some 6) 104 [(.t 5 false)]⟩,
  ⟨none, (some 3), .mv 3 (.t 6 true)⟩]
abbrev c74r2 : List GOp := [⟨none, (some 7), .mv 7 (.t 3 false)⟩,
  ⟨none, (some 8), .bin 8 .eql false (.t 7 false) (.c (.int .i64 0))⟩]
abbrev c74r3 : List GOp := [⟨none, (some 2), .mv 2 (.c (.str []))⟩]
abbrev c74s4 : ACode := (.seq (.reg c74r3 [2]) .ret)
abbrev c74s5 : ACode := (.cond (.t 8 false) c74s4 .skip)
abbrev c74r6 : List GOp := [⟨none, (some 9), .mv 9 (.t 0 false)⟩,
  ⟨none, (some 10), .mv 10 (.t 3 false)⟩,
  ⟨none, (some 11), .bin 11 .quo false (.t 9 false) (.t 10 false)⟩,
  ⟨none, (some 12), .call (some 12) 89 [(.t 11 false)]⟩,
  ⟨none, (some 4), .mv 4 (.t 12 true)⟩]
abbrev c74r7 : List GOp := [⟨none, (some 13), .mv 13 (.t 3 false)⟩,
  ⟨none, (some 14), .bin 14 .eql false (.t 13 false) (.c (.int .i64 1024))⟩]
abbrev c74r8 : List GOp := [⟨none, (some 15), .mv 15 (.t 4 false)⟩,
  ⟨none, (some 16), .bin 16 .add false (.t 15 false) (.c (.str [107]))⟩,
  ⟨none, (some 2), .mv 2 (.t 16 true)⟩]
abbrev c74s9 : ACode := (.seq (.reg c74r8 [2]) .ret)
abbrev c74s10 : ACode := (.cond (.t 14 false) c74s9 .skip)
abbrev c74r11 : List GOp := [⟨none, (some 17), .mv 17 (.t 3 false)⟩,
  ⟨none, (some 18), .bin 18 .eql false (.t 17 false) (.c (.int .i64 1048576))⟩]
abbrev c74r12 : List GOp := [⟨none, (some 19), .mv 19 (.t 4 false)⟩,
  ⟨none, (some 20), .bin 20 .add false (.t 19 false) (.c (.str [109]))⟩,
  ⟨none, (some 2), .mv 2 (.t 20 true)⟩]
abbrev c74s13 : ACode := (.seq (.reg c74r12 [2]) .ret)
abbrev c74s14 : ACode := (.cond (.t 18 false) c74s13 .skip)
abbrev c74r15 : List GOp := [⟨none, (some 21), .mv 21 (.t 3 false)⟩,
  ⟨none, (some 22), .bin 22 .eql false (.t 21 false) (.c (.int .i64 1073741824))⟩]
abbrev c74r16 : List GOp := [⟨none, (some 23), .mv 23 (.t 4 false)⟩,
  ⟨none, (some 24), .bin 24 .add false (.t 23 false) (.c (.str [103]))⟩,
  ⟨none, (some 2), .mv 2 (.t 24 true)⟩]
abbrev c74s17 : ACode := (.seq (.reg c74r16 [2]) .ret)
abbrev c74s18 : ACode := (.cond (.t 22 false) c74s17 .skip)
abbrev c74r19 : List GOp := [⟨none, (some 25), .mv 25 (.t 4 false)⟩,
  ⟨none, (some 2), .mv 2 (.t 25 true)⟩]
abbrev c74s20 : ACode := (.seq (.reg c74r19 [2]) .ret)
abbrev c74s21 : ACode := (.seq (.seq (.reg c74r15 [22]) c74s18) c74s20)
abbrev c74s22 : ACode := (.seq (.seq (.reg c74r11 [18]) c74s14) c74s21)
abbrev c74s23 : ACode := (.seq (.seq (.reg c74r7 [14]) c74s10) c74s22)
abbrev c74s24 : ACode := (.seq (.reg c74r6 [4]) c74s23)
abbrev c74s25 : ACode := (.seq (.seq (.reg c74r2 [8]) c74s5) c74s24)
abbrev c74s26 : ACode := (.seq (.reg c74r1 [3]) c74s25)
abbrev c74 : ACode := (.seq (.reg c74r0 [2]) c74s26)
def a74 : AFn := ⟨[], [0, 2, 3, 4, 8, 14, 18, 22], [6, 12, 16, 20, 24, 25], [], [], [], [], [], c74, [.tmp 2]⟩
theorem is74 : IsFn Tryz.prog 74 1 a74 := isFn_of mix Tryz.func74 (by kernel_rfl) (by kernel_rfl) (by kernel_rfl) (by kernel_rfl) (by kernel_rfl)
theorem sound74 {args : List AV} {r : AV} (hl : args.length = 1) (h : awp Tryz.prog c74 (unw Tryz.prog [] (Ends [.tmp 2] r)) (initSt args)) : Sound Tryz.prog 74 args r := sound_of is74 hl h
theorem total74 {args : List AV} {Φ : AV → Prop} (hl : args.length = 1) (h : awp Tryz.prog c74 (unw Tryz.prog [] (EndsP [.tmp 2] Φ)) (initSt args)) : Total Tryz.prog 74 args Φ := total_of is74 hl h

/-! longshore/longshoreref01.Count -/
abbrev c75r0 : List GOp := [⟨none, (some 4), .mv 4 (.c (.int .i64 0))⟩,
  ⟨none, (some 5), .mv 5 (.c (.int .i64 0))⟩]
abbrev c75r1 : List GOp := [⟨none, (some 8), .mv 8 (.t 1 false)⟩,
  ⟨none, (some 9), .bin 9 .lss false (.t 8 false) (.c (.int .i64 0))⟩]
abbrev c75r2 : List GOp := [⟨none, (some 4), .mv 4 (.c (.int .i64 0))⟩,
  ⟨none, (some 5), .mv 5 (.c (.int .i64 2))⟩]
abbrev c75s3 : ACode := (.seq (.reg c75r2 [4, 5]) .ret)
abbrev c75s4 : ACode := (.cond (.t 9 false) c75s3 .skip)
abbrev c75r5 : List GOp := [⟨none, (some 10), .mv 10 (.t 0 false)⟩,
  ⟨none, (some 11), .call (some 11) 101 [(.t 10 false)]⟩,
  ⟨none, (some 12), .un 12 .not (.t 11 false)⟩]
abbrev c75r6 : List GOp := [⟨none, (some 4), .mv 4 (.c (.int .i64 0))⟩,
  ⟨none, (some 5), .mv 5 (.c (.int .i64 3))⟩]
abbrev c75s7 : ACode := (.seq (.reg c75r6 [4, 5]) .ret)
abbrev c75s8 : ACode := (.cond (.t 12 false) c75s7 .skip)
abbrev c75r9 : List GOp := [⟨none, (some 13), .mv 13 (.t 0 false)⟩,
  ⟨none, (some 14), .len 14 true (.t 13 false)⟩,
  ⟨none, (some 15), .bin 15 .gtr false (.t 14 false) (.c (.int .i64 19))⟩]
abbrev c75r10 : List GOp := [⟨none, (some 4), .mv 4 (.c (.int .i64 0))⟩,
  ⟨none, (some 5), .mv 5 (.c (.int .i64 9))⟩]
abbrev c75s11 : ACode := (.seq (.reg c75r10 [4, 5]) .ret)
abbrev c75s12 : ACode := (.cond (.t 15 false) c75s11 .skip)
abbrev c75r13 : List GOp := [⟨none, (some 6), .mv 6 (.c (.int .u64 0))⟩]
abbrev c75r14 : List GOp := [⟨none, (some 7), .mv 7 (.c (.int .i64 0))⟩]
abbrev c75r15 : List GOp := [⟨none, (some 16), .mv 16 (.t 7 false)⟩,
  ⟨none, (some 17), .mv 17 (.t 0 false)⟩,
  ⟨none, (some 18), .len 18 true (.t 17 false)⟩,
  ⟨none, (some 19), .bin 19 .lss false (.t 16 false) (.t 18 false)⟩]
abbrev c75s16 : ACode := (.cond (.t 19 false) .skip (.exit 0))
abbrev c75r17 : List GOp := [⟨none, (some 22), .mv 22 (.t 6 false)⟩,
  ⟨none, (some 23), .bin 23 .mul false (.t 22 false) (.c (.int .u64 10))⟩,
  ⟨none, (some 24), .mv 24 (.t 0 false)⟩,
  ⟨none, (some 25), .mv 25 (.t 7 false)⟩,
  ⟨none, (some 26), .sidx 26 (.t 24 false) (.t 25 false)⟩,
  ⟨none, (some 27), .conv 27 (.int .u64) (.t 26 false)⟩,
  ⟨none, (some 28), .bin 28 .add false (.t 23 false) (.t 27 false)⟩,
  ⟨none, (some 29), .bin 29 .sub false (.t 28 false) (.c (.int .u64 48))⟩,
  ⟨none, (some 6), .mv 6 (.t 29 true)⟩]
abbrev c75r18 : List GOp := [⟨none, (some 20), .mv 20 (.t 7 false)⟩,
  ⟨none, (some 21), .bin 21 .add false (.t 20 false) (.c (.int .i64 1))⟩,
  ⟨none, (some 7), .mv 7 (.t 21 true)⟩]
abbrev c75s19 : ACode := (.seq (.block 1 (.reg c75r17 [6])) (.reg c75r18 [7]))
abbrev c75s20 : ACode := (.seq (.seq (.reg c75r15 [19]) c75s16) c75s19)
abbrev c75s21 : ACode := (.loop c75s20)
abbrev c75s22 : ACode := (.block 0 c75s21)
abbrev c75r23 : List GOp := [⟨none, (some 30), .mv 30 (.t 6 false)⟩,
  ⟨none, (some 31), .mv 31 (.t 1 false)⟩,
  ⟨none, (some 32), .conv 32 (.int .u64) (.t 31 false)⟩,
  ⟨none, (some 33), .bin 33 .gtr false (.t 30 false) (.t 32 false)⟩]
abbrev c75r24 : List GOp := [⟨none, (some 4), .mv 4 (.c (.int .i64 0))⟩,
  ⟨none, (some 5), .mv 5 (.c (.int .i64 9))⟩]
abbrev c75s25 : ACode := (.seq (.reg c75r24 [4, 5]) .ret)
abbrev c75s26 : ACode := (.cond (.t 33 false) c75s25 .skip)
abbrev c75r27 : List GOp := [⟨none, (some 34), .mv 34 (.t 6 false)⟩,
  ⟨none, (some 35), .conv 35 (.int .i64) (.t 34 false)⟩,
  ⟨none, (some 4), .mv 4 (.t 35 true)⟩,
  ⟨none, (some 5), .mv 5 (.c (.int .i64 0))⟩]
abbrev c75s28 : ACode := (.seq (.reg c75r27 [4, 5]) .ret)
abbrev c75s29 : ACode := (.seq (.seq (.reg c75r23 [33]) c75s26) c75s28)
abbrev c75s30 : ACode := (.seq (.seq (.reg c75r14 [7]) c75s22) c75s29)
abbrev c75s31 : ACode := (.seq (.reg c75r13 [6]) c75s30)
abbrev c75s32 : ACode := (.seq (.seq (.reg c75r9 [15]) c75s12) c75s31)
abbrev c75s33 : ACode := (.seq (.seq (.reg c75r5 [12]) c75s8) c75s32)
abbrev c75s34 : ACode := (.seq (.seq (.reg c75r1 [9]) c75s4) c75s33)
abbrev c75 : ACode := (.seq (.reg c75r0 [4, 5]) c75s34)
def a75 : AFn := ⟨[], [0, 1, 4, 5, 6, 7, 9, 12, 15, 19, 33], [21, 29, 35], [], [], [], [], [], c75, [.tmp 4, .tmp 5]⟩
theorem is75 : IsFn Tryz.prog 75 2 a75 := isFn_of mix Tryz.func75 (by kernel_rfl) (by kernel_rfl) (by kernel_rfl) (by kernel_rfl) (by kernel_rfl)
theorem sound75 {args : List AV} {r : AV} (hl : args.length = 2) (h : awp Tryz.prog c75 (unw Tryz.prog [] (Ends [.tmp 4, .tmp 5] r)) (initSt args)) : Sound Tryz.prog 75 args r := sound_of is75 hl h
theorem total75 {args : List AV} {Φ : AV → Prop} (hl : args.length = 2) (h : awp Tryz.prog c75 (unw Tryz.prog [] (EndsP [.tmp 4, .tmp 5] Φ)) (initSt args)) : Total Tryz.prog 75 args Φ := total_of is75 hl h

/-! longshore/longshoreref15.Split -/
abbrev c76r0 : List GOp := [⟨none, (some 2), .mv 2 (.c (.oslice 1 []))⟩,
  ⟨none, (some 3), .mv 3 (.c (.int .i64 0))⟩]
abbrev c76r1 : List GOp := [⟨none, (some 9), .mkslice 9 1 []⟩,
  ⟨none, (some 4), .mv 4 (.t 9 true)⟩]
abbrev c76r2 : List GOp := [⟨none, (some 5), .mv 5 (.c (.int .i64 0))⟩]
abbrev c76r3 : List GOp := [⟨none, (some 10), .mv 10 (.t 5 false)⟩,
  ⟨none, (some 11), .mv 11 (.t 0 false)⟩,
  ⟨none, (some 12), .len 12 true (.t 11 false)⟩,
  ⟨none, (some 13), .bin 13 .lss false (.t 10 false) (.t 12 false)⟩]
abbrev c76s4 : ACode := (.cond (.t 13 false) .skip (.exit 0))
abbrev c76r5 : List GOp := [⟨none, (some 14), .mv 14 (.t 0 false)⟩,
  ⟨none, (some 15), .mv 15 (.t 5 false)⟩,
  ⟨none, (some 16), .sidx 16 (.t 14 false) (.t 15 false)⟩,
  ⟨none, (some 17), .call (some 17) 105 [(.t 16 false)]⟩]
abbrev c76r6 : List GOp := [⟨none, (some 18), .mv 18 (.t 5 false)⟩,
  ⟨none, (some 19), .bin 19 .add false (.t 18 false) (.c (.int .i64 1))⟩,
  ⟨none, (some 5), .mv 5 (.t 19 true)⟩]
abbrev c76s7 : ACode := (.seq (.reg c76r6 [5]) (.exit 1))
abbrev c76s8 : ACode := (.cond (.t 17 false) c76s7 .skip)
abbrev c76r9 : List GOp := [⟨none, (some 6), .mv 6 (.c (.str []))⟩]
abbrev c76r10 : List GOp := [⟨none, (some 20), .mv 20 (.t 5 false)⟩,
  ⟨none, (some 21), .mv 21 (.t 0 false)⟩,
  ⟨none, (some 22), .len 22 true (.t 21 false)⟩,
  ⟨none, (some 23), .bin 23 .lss false (.t 20 false) (.t 22 false)⟩,
  ⟨none, (some 24), .mv 24 (.t 23 true)⟩,
  ⟨(some (24, true)), (some 25), .mv 25 (.t 0 false)⟩,
  ⟨(some (24, true)), (some 26), .mv 26 (.t 5 false)⟩,
  ⟨(some (24, true)), (some 27), .sidx 27 (.t 25 false) (.t 26 false)⟩,
  ⟨(some (24, true)), (some 28), .call (some 28) 105 [(.t 27 false)]⟩,
  ⟨(some (24, true)), (some 29), .un 29 .not (.t 28 false)⟩,
  ⟨none, (some 30), .pick 30 (.t 24 false) (.t 29 false) (.c (.bool false))⟩]
abbrev c76s11 : ACode := (.cond (.t 30 false) .skip (.exit 2))
abbrev c76r12 : List GOp := [⟨none, (some 32), .mv 32 (.t 0 false)⟩,
  ⟨none, (some 33), .mv 33 (.t 5 false)⟩,
  ⟨none, (some 34), .call (some 34) 106 [(.t 32 false), (.t 33 false)]⟩,
  ⟨none, (some 31), .mv 31 (.t 34 true)⟩,
  ⟨none, (some 35), .extract 35 (.t 31 false) 0⟩,
  ⟨none, (some 36), .extract 36 (.t 31 false) 1⟩,
  ⟨none, (some 7), .mv 7 (.t 35 true)⟩,
  ⟨none, (some 8), .mv 8 (.t 36 true)⟩]
abbrev c76r13 : List GOp := [⟨none, (some 37), .mv 37 (.t 8 false)⟩,
  ⟨none, (some 38), .bin 38 .lss false (.t 37 false) (.c (.int .i64 0))⟩]
abbrev c76r14 : List GOp := [⟨none, (some 2), .mv 2 (.c (.oslice 1 []))⟩,
  ⟨none, (some 3), .mv 3 (.c (.int .i64 3))⟩]
abbrev c76s15 : ACode := (.seq (.reg c76r14 [2, 3]) .ret)
abbrev c76s16 : ACode := (.cond (.t 38 false) c76s15 .skip)
abbrev c76r17 : List GOp := [⟨none, (some 39), .mv 39 (.t 6 false)⟩,
  ⟨none, (some 40), .mv 40 (.t 7 false)⟩,
  ⟨none, (some 41), .bin 41 .add false (.t 39 false) (.t 40 false)⟩,
  ⟨none, (some 6), .mv 6 (.t 41 true)⟩]
abbrev c76r18 : List GOp := [⟨none, (some 42), .mv 42 (.t 8 false)⟩,
  ⟨none, (some 5), .mv 5 (.t 42 true)⟩]
abbrev c76s19 : ACode := (.seq (.reg c76r17 [6]) (.reg c76r18 [5]))
abbrev c76s20 : ACode := (.seq (.seq (.reg c76r13 [38]) c76s16) c76s19)
abbrev c76s21 : ACode := (.seq (.reg c76r12 [7, 8]) c76s20)
abbrev c76s22 : ACode := (.block 3 c76s21)
abbrev c76s23 : ACode := (.seq (.seq (.reg c76r10 [30]) c76s11) c76s22)
abbrev c76s24 : ACode := (.loop c76s23)
abbrev c76r25 : List GOp := [⟨none, (some 43), .take 43 4⟩,
  ⟨none, (some 44), .mv 44 (.t 6 false)⟩,
  ⟨none, (some 45), .mkslice 45 1 [(.t 44 false)]⟩,
  ⟨none, (some 46), .append 46 (.t 43 true) (.t 45 false) 1 16⟩,
  ⟨none, (some 4), .mv 4 (.t 46 true)⟩]
abbrev c76s26 : ACode := (.seq (.block 2 c76s24) (.reg c76r25 [4]))
abbrev c76s27 : ACode := (.seq (.reg c76r9 [6]) c76s26)
abbrev c76s28 : ACode := (.seq (.seq (.reg c76r5 [17]) c76s8) c76s27)
abbrev c76s29 : ACode := (.block 1 c76s28)
abbrev c76s30 : ACode := (.seq (.seq (.reg c76r3 [13]) c76s4) c76s29)
abbrev c76s31 : ACode := (.loop c76s30)
abbrev c76r32 : List GOp := [⟨none, (some 47), .mv 47 (.t 4 false)⟩,
  ⟨none, (some 48), .len 48 false (.t 47 false)⟩,
  ⟨none, (some 49), .bin 49 .gtr false (.t 48 false) (.c (.int .i64 32))⟩]
abbrev c76r33 : List GOp := [⟨none, (some 2), .mv 2 (.c (.oslice 1 []))⟩,
  ⟨none, (some 3), .mv 3 (.c (.int .i64 9))⟩]
abbrev c76s34 : ACode := (.seq (.reg c76r33 [2, 3]) .ret)
abbrev c76s35 : ACode := (.cond (.t 49 false) c76s34 .skip)
abbrev c76r36 : List GOp := [⟨none, (some 50), .mv 50 (.t 4 false)⟩,
  ⟨none, (some 2), .mv 2 (.t 50 true)⟩,
  ⟨none, (some 3), .mv 3 (.c (.int .i64 0))⟩]
abbrev c76s37 : ACode := (.seq (.reg c76r36 [2, 3]) .ret)
abbrev c76s38 : ACode := (.seq (.seq (.reg c76r32 [49]) c76s35) c76s37)
abbrev c76s39 : ACode := (.seq (.block 0 c76s31) c76s38)
abbrev c76s40 : ACode := (.seq (.reg c76r2 [5]) c76s39)
abbrev c76s41 : ACode := (.seq (.reg c76r1 [4]) c76s40)
abbrev c76 : ACode := (.seq (.reg c76r0 [2, 3]) c76s41)
def a76 : AFn := ⟨[], [0, 2, 3, 4, 5, 6, 7, 8, 13, 17, 30, 38, 49], [9, 19, 23, 34, 35, 36, 41, 42, 43, 46, 50], [43], [], [], [], [], c76, [.tmp 2, .tmp 3]⟩
theorem is76 : IsFn Tryz.prog 76 1 a76 := isFn_of mix Tryz.func76 (by kernel_rfl) (by kernel_rfl) (by kernel_rfl) (by kernel_rfl) (by kernel_rfl)
theorem sound76 {args : List AV} {r : AV} (hl : args.length = 1) (h : awp Tryz.prog c76 (unw Tryz.prog [] (Ends [.tmp 2, .tmp 3] r)) (initSt args)) : Sound Tryz.prog 76 args r := sound_of is76 hl h
theorem total76 {args : List AV} {Φ : AV → Prop} (hl : args.length = 1) (h : awp Tryz.prog c76 (unw Tryz.prog [] (EndsP [.tmp 2, .tmp 3] Φ)) (initSt args)) : Total Tryz.prog 76 args Φ := total_of is76 hl h

/-! longshore/longshoreref17.Text -/
abbrev c81r0 : List GOp := [⟨none, (some 1), .bbox 1 (.t 0 false)⟩,
  ⟨none, (some 2), .mv 2 (.c (.str []))⟩]
abbrev c81r1 : List GOp := [⟨none, (some 4), .bload 4 1 none (some 3) false⟩,
  ⟨none, (some 5), .call (some 5) 111 [(.t 4 false)]⟩,
  ⟨none, (some 6), .un 6 .not (.t 5 false)⟩]
abbrev c81r2 : List GOp := [⟨none, (some 2), .mv 2 (.c (.str []))⟩]
abbrev c81s3 : ACode := (.seq (.reg c81r2 [2]) .ret)
abbrev c81s4 : ACode := (.cond (.t 6 false) c81s3 .skip)
abbrev c81r5 : List GOp := [⟨none, (some 7), .baddr 7 1 1⟩,
  ⟨none, (some 8), .bload 8 1 (some 7) none false⟩,
  ⟨none, (some 3), .mv 3 (.t 8 true)⟩]
abbrev c81r6 : List GOp := [⟨none, (some 9), .baddr 9 1 0⟩,
  ⟨none, (some 10), .bload 10 1 (some 9) none false⟩,
  ⟨none, (some 11), .len 11 true (.t 10 false)⟩,
  ⟨none, (some 12), .bin 12 .gtr false (.t 11 false) (.c (.int .i64 0))⟩]
abbrev c81r7 : List GOp := [⟨none, (some 13), .baddr 13 1 0⟩,
  ⟨none, (some 14), .bload 14 1 (some 13) none false⟩,
  ⟨none, (some 15), .bin 15 .add false (.t 14 false) (.c (.str [58]))⟩,
  ⟨none, (some 16), .mv 16 (.t 3 false)⟩,
  ⟨none, (some 17), .bin 17 .add false (.t 15 false) (.t 16 false)⟩,
  ⟨none, (some 3), .mv 3 (.t 17 true)⟩]
abbrev c81s8 : ACode := (.cond (.t 12 false) (.reg c81r7 [3]) .skip)
abbrev c81r9 : List GOp := [⟨none, (some 18), .baddr 18 1 2⟩,
  ⟨none, (some 19), .bload 19 1 (some 18) none false⟩]
abbrev c81r10 : List GOp := [⟨none, (some 20), .mv 20 (.t 3 false)⟩,
  ⟨none, (some 21), .bin 21 .add false (.t 20 false) (.c (.str [58, 114, 111]))⟩,
  ⟨none, (some 3), .mv 3 (.t 21 true)⟩]
abbrev c81s11 : ACode := (.cond (.t 19 false) (.reg c81r10 [3]) .skip)
abbrev c81r12 : List GOp := [⟨none, (some 22), .mv 22 (.t 3 false)⟩,
  ⟨none, (some 2), .mv 2 (.t 22 true)⟩]
abbrev c81s13 : ACode := (.seq (.reg c81r12 [2]) .ret)
abbrev c81s14 : ACode := (.seq (.seq (.reg c81r9 [19]) c81s11) c81s13)
abbrev c81s15 : ACode := (.seq (.seq (.reg c81r6 [12]) c81s8) c81s14)
abbrev c81s16 : ACode := (.seq (.reg c81r5 [3]) c81s15)
abbrev c81s17 : ACode := (.seq (.seq (.reg c81r1 [6]) c81s4) c81s16)
abbrev c81 : ACode := (.seq (.reg c81r0 [1, 2]) c81s17)
def a81 : AFn := ⟨[1], [0, 1, 2, 3, 6, 12, 19], [8, 17, 21, 22], [], [(18, 1), (13, 1), (9, 1), (7, 1)], [(18, 2), (13, 0), (9, 0), (7, 1)], [], [], c81, [.tmp 2]⟩
theorem is81 : IsFn Tryz.prog 81 1 a81 := isFn_of mix Tryz.func81 (by kernel_rfl) (by kernel_rfl) (by kernel_rfl) (by kernel_rfl) (by kernel_rfl)
theorem sound81 {args : List AV} {r : AV} (hl : args.length = 1) (h : awp Tryz.prog c81 (unw Tryz.prog [] (Ends [.tmp 2] r)) (initSt args)) : Sound Tryz.prog 81 args r := sound_of is81 hl h
theorem total81 {args : List AV} {Φ : AV → Prop} (hl : args.length = 1) (h : awp Tryz.prog c81 (unw Tryz.prog [] (EndsP [.tmp 2] Φ)) (initSt args)) : Total Tryz.prog 81 args Φ := total_of is81 hl h

/-! longshore/longshoreref01.Text -/
abbrev c89r0 : List GOp := [⟨none, (some 2), .mv 2 (.c (.str []))⟩]
abbrev c89r1 : List GOp := [⟨none, (some 3), .mv 3 (.t 0 false)⟩,
  ⟨none, (some 4), .bin 4 .lss false (.t 3 false) (.c (.int .i64 0))⟩]
abbrev c89r2 : List GOp := [⟨none, (some 5), .mv 5 (.t 0 false)⟩,
  ⟨none, (some 6), .conv 6 (.int .u64) (.t 5 false)⟩,
  ⟨none, (some 7), .bin 7 .sub false (.c (.int .u64 0)) (.t 6 false)⟩,
  ⟨none, (some 8), .call (some 8) 115 [(.t 7 false)]⟩,
  ⟨none, (some 9), .bin 9 .add false (.c (.str [45])) (.t 8 false)⟩,
  ⟨none, (some 2), .mv 2 (.t 9 true)⟩]
abbrev c89s3 : ACode := (.seq (.reg c89r2 [2]) .ret)
abbrev c89s4 : ACode := (.cond (.t 4 false) c89s3 .skip)
abbrev c89r5 : List GOp := [⟨none, (some 10), .mv 10 (.t 0 false)⟩,
  ⟨none, (some 11), .conv 11 (.int .u64) (.t 10 false)⟩,
  ⟨none, (some 12), .call (some 12) 115 [(.t 11 false)]⟩,
  ⟨none, (some 2), .mv 2 (.t 12 true)⟩]
abbrev c89s6 : ACode := (.seq (.reg c89r5 [2]) .ret)
abbrev c89s7 : ACode := (.seq (.seq (.reg c89r1 [4]) c89s4) c89s6)
abbrev c89 : ACode := (.seq (.reg c89r0 [2]) c89s7)
def a89 : AFn := ⟨[], [0, 2, 4], [9, 12], [], [], [], [], [], c89, [.tmp 2]⟩
theorem is89 : IsFn Tryz.prog 89 1 a89 := isFn_of mix Tryz.func89 (by kernel_rfl) (by kernel_rfl) (by kernel_rfl) (by kernel_rfl) (by kernel_rfl)
theorem sound89 {args : List AV} {r : AV} (hl : args.length = 1) (h : awp Tryz.prog c89 (unw Tryz.prog [] (Ends [.tmp 2] r)) (initSt args)) : Sound Tryz.prog 89 args r := sound_of is89 hl h
theorem total89 {args : List AV} {Φ : AV → Prop} (hl : args.length = 1) (h : awp Tryz.prog c89 (unw Tryz.prog [] (EndsP [.tmp 2] Φ)) (initSt args)) : Total Tryz.prog 89 args Φ := total_of is89 hl h

/-! longshore/longshoreref01.Whole -/
abbrev c101r0 : List GOp := [⟨none, (some 2), .mv 2 (.c (.bool false))⟩]
abbrev c101r1 : List GOp := [⟨none, (some 4), .mv 4 (.t 0 false)⟩,
  ⟨none, (some 5), .len 5 true (.t 4 false)⟩,
  ⟨none, (some 6), .bin 6 .eql false (.t 5 false) (.c (.int .i64 0))⟩,
  ⟨none, (some 7), .mv 7 (.t 6 true)⟩,
  ⟨(some (7, false)), (some 8), .mv 8 (.t 0 false)⟩,
  ⟨(some (7, false)), (some 9), .len 9 true (.t 8 false)⟩,
  ⟨(some (7, false)), (some 10), .bin 10 .gtr false (.t 9 false) (.c (.int .i64 1))⟩,
  ⟨(some (7, false)), (some 11), .mv 11 (.t 10 true)⟩,
  ⟨(some (11, true)), (some 12), .mv 12 (.t 0 false)⟩,
  ⟨(some (11, true)), (some 13), .sidx 13 (.t 12 false) (.c (.int .i64 0))⟩,
  ⟨(some (11, true)), (some 14), .bin 14 .eql false (.t 13 false) (.c (.int .u8 48))⟩,
  ⟨(some (7, false)), (some 15), .pick 15 (.t 11 false) (.t 14 false) (.c (.bool false))⟩,
  ⟨none, (some 16), .pick 16 (.t 7 false) (.c (.bool true)) (.t 15 false)⟩]
abbrev c101r2 : List GOp := [⟨none, (some 2), .mv 2 (.c (.bool false))⟩]
abbrev c101s3 : ACode := (.seq (.reg c101r2 [2]) .ret)
abbrev c101s4 : ACode := (.cond (.t 16 false) c101s3 .skip)
abbrev c101r5 : List GOp := [⟨none, (some 3), .mv 3 (.c (.int .i64 0))⟩]
abbrev c101r6 : List GOp := [⟨none, (some 17), .mv 17 (.t 3 false)⟩,
  ⟨none, (some 18), .mv 18 (.t 0 false)⟩,
  ⟨none, (some 19), .len 19 true (.t 18 false)⟩,
  ⟨none, (some 20), .bin 20 .lss false (.t 17 false) (.t 19 false)⟩]
abbrev c101s7 : ACode := (.cond (.t 20 false) .skip (.exit 0))
abbrev c101r8 : List GOp := [⟨none, (some 23), .mv 23 (.t 0 false)⟩,
  ⟨none, (some 24), .mv 24 (.t 3 false)⟩,
  ⟨none, (some 25), .sidx 25 (.t 23 false) (.t 24 false)⟩,
  ⟨none, (some 26), .bin 26 .lss false (.t 25 false) (.c (.int .u8 48))⟩,
  ⟨none, (some 27), .mv 27 (.t 26 true)⟩,
  ⟨(some (27, false)), (some 28), .mv 28 (.t 0 false)⟩,
  ⟨(some (27, false)), (some 29), .mv 29 (.t 3 false)⟩,
  ⟨(some (27, false)), (some 30), .sidx 30 (.t 28 false) (.t 29 false)⟩,
  ⟨(some (27, false)), (some 31), .bin 31 .gtr false (.t 30 false) (.c (.int .u8 57))⟩,
  ⟨none, (some 32), .pick 32 (.t 27 false) (.c (.bool true)) (.t 31 false)⟩]
abbrev c101r9 : List GOp := [⟨none, (some 2), .mv 2 (.c (.bool false))⟩]
abbrev c101s10 : ACode := (.seq (.reg c101r9 [2]) .ret)
abbrev c101s11 : ACode := (.cond (.t 32 false) c101s10 .skip)
abbrev c101s12 : ACode := (.seq (.reg c101r8 [32]) c101s11)
abbrev c101r13 : List GOp := [⟨none, (some 21), .mv 21 (.t 3 false)⟩,
  ⟨none, (some 22), .bin 22 .add false (.t 21 false) (.c (.int .i64 1))⟩,
  ⟨none, (some 3), .mv 3 (.t 22 true)⟩]
abbrev c101s14 : ACode := (.seq (.block 1 c101s12) (.reg c101r13 [3]))
abbrev c101s15 : ACode := (.seq (.seq (.reg c101r6 [20]) c101s7) c101s14)
abbrev c101s16 : ACode := (.loop c101s15)
abbrev c101s17 : ACode := (.block 0 c101s16)
abbrev c101r18 : List GOp := [⟨none, (some 2), .mv 2 (.c (.bool true))⟩]
abbrev c101s19 : ACode := (.seq (.reg c101r18 [2]) .ret)
abbrev c101s20 : ACode := (.seq (.seq (.reg c101r5 [3]) c101s17) c101s19)
abbrev c101s21 : ACode := (.seq (.seq (.reg c101r1 [16]) c101s4) c101s20)
abbrev c101 : ACode := (.seq (.reg c101r0 [2]) c101s21)
def a101 : AFn := ⟨[], [0, 2, 3, 16, 20, 32], [6, 10, 22, 26], [], [], [], [], [], c101, [.tmp 2]⟩
theorem is101 : IsFn Tryz.prog 101 1 a101 := isFn_of mix Tryz.func101 (by kernel_rfl) (by kernel_rfl) (by kernel_rfl) (by kernel_rfl) (by kernel_rfl)
theorem sound101 {args : List AV} {r : AV} (hl : args.length = 1) (h : awp Tryz.prog c101 (unw Tryz.prog [] (Ends [.tmp 2] r)) (initSt args)) : Sound Tryz.prog 101 args r := sound_of is101 hl h
theorem total101 {args : List AV} {Φ : AV → Prop} (hl : args.length = 1) (h : awp Tryz.prog c101 (unw Tryz.prog [] (EndsP [.tmp 2] Φ)) (initSt args)) : Total Tryz.prog 101 args Φ := total_of is101 hl h

/-! longshore/longshoreref01.Value -/
abbrev c102r0 : List GOp := [⟨none, (some 2), .mv 2 (.c (.int .i64 0))⟩]
abbrev c102r1 : List GOp := [⟨none, (some 3), .mv 3 (.c (.int .i64 0))⟩]
abbrev c102r2 : List GOp := [⟨none, (some 4), .mv 4 (.c (.int .i64 0))⟩]
abbrev c102r3 : List GOp := [⟨none, (some 5), .mv 5 (.t 4 false)⟩,
  ⟨none, (some 6), .mv 6 (.t 0 false)⟩,
  ⟨none, (some 7), .len 7 true (.t 6 false)⟩,
  ⟨none, (some 8), .bin 8 .lss false (.t 5 false) (.t 7 false)⟩]
abbrev c102s4 : ACode := (.cond (.t 8 false) .skip (.exit 0))
abbrev c102r5 : List GOp := [⟨none, (some 11), .mv 11 (.t 3 false)⟩,
  ⟨none, (some 12), .bin 12 .mul false (.t 11 false) (.c (.int .i64 10))⟩,
  ⟨none, (some 13), .mv 13 (.t 0 false)⟩,
  ⟨none, (some 14), .mv 14 (.t 4 false)⟩,
  ⟨none, (some 15), .sidx 15 (.t 13 false) (.t 14 false)⟩,
  ⟨none, (some 16), .conv 16 (.int .i64) (.t 15 false)⟩,
  ⟨none, (some 17), .bin 17 .add false (.t 12 false) (.t 16 false)⟩,
  ⟨none, (some 18), .bin 18 .sub false (.t 17 false) (.c (.int .i64 48))⟩,
  ⟨none, (some 3), .mv 3 (.t 18 true)⟩]
abbrev c102r6 : List GOp := [⟨none, (some 19), .mv 19 (.t 3 false)⟩,
  ⟨none, (some 20), .bin 20 .geq false (.t 19 false) (.c (.int .i64 72057594037927936))⟩]
abbrev c102r7 : List GOp := [⟨none, (some 2), .mv 2 (.c (.int .i64 1152921504606846976))⟩]
abbrev c102s8 : ACode := (.seq (.reg c102r7 [2]) .ret)
abbrev c102s9 : ACode := (.cond (.t 20 false) c102s8 .skip)
abbrev c102s10 : ACode := (.seq (.reg c102r6 [20]) c102s9)
abbrev c102s11 : ACode := (.seq (.reg c102r5 [3]) c102s10)
abbrev c102r12 : List GOp := [⟨none, (some 9), .mv 9 (.t 4 false)⟩,
  ⟨none, (some 10), .bin 10 .add false (.t 9 false) (.c (.int .i64 1))⟩,
  ⟨none, (some 4), .mv 4 (.t 10 true)⟩]
abbrev c102s13 : ACode := (.seq (.block 1 c102s11) (.reg c102r12 [4]))
abbrev c102s14 : ACode := (.seq (.seq (.reg c102r3 [8]) c102s4) c102s13)
abbrev c102s15 : ACode := (.loop c102s14)
abbrev c102s16 : ACode := (.block 0 c102s15)
abbrev c102r17 : List GOp := [⟨none, (some 21), .mv 21 (.t 3 false)⟩,
  ⟨none, (some 2), .mv 2 (.t 21 true)⟩]
abbrev c102s18 : ACode := (.seq (.reg c102r17 [2]) .ret)
abbrev c102s19 : ACode := (.seq (.seq (.reg c102r2 [4]) c102s16) c102s18)
abbrev c102s20 : ACode := (.seq (.reg c102r1 [3]) c102s19)
abbrev c102 : ACode := (.seq (.reg c102r0 [2]) c102s20)
def a102 : AFn := ⟨[], [0, 2, 3, 4, 8, 20], [10, 18, 21], [], [], [], [], [], c102, [.tmp 2]⟩
theorem is102 : IsFn Tryz.prog 102 1 a102 := isFn_of mix Tryz.func102 (by kernel_rfl) (by kernel_rfl) (by kernel_rfl) (by kernel_rfl) (by kernel_rfl)
theorem sound102 {args : List AV} {r : AV} (hl : args.length = 1) (h : awp Tryz.prog c102 (unw Tryz.prog [] (Ends [.tmp 2] r)) (initSt args)) : Sound Tryz.prog 102 args r := sound_of is102 hl h
theorem total102 {args : List AV} {Φ : AV → Prop} (hl : args.length = 1) (h : awp Tryz.prog c102 (unw Tryz.prog [] (EndsP [.tmp 2] Φ)) (initSt args)) : Total Tryz.prog 102 args Φ := total_of is102 hl h

/-! longshore/longshoreref04.long -/
abbrev c103r0 : List GOp := [⟨none, (some 2), .mv 2 (.c (.int .i64 0))⟩]
abbrev c103r1 : List GOp := [⟨none, (some 3), .mv 3 (.t 0 false)⟩,
  ⟨none, (some 4), .bin 4 .eql false (.t 3 false) (.c (.str []))⟩,
  ⟨none, (some 5), .mv 5 (.t 4 true)⟩,
  ⟨(some (5, false)), (some 6), .mv 6 (.t 0 false)⟩,
  ⟨(some (5, false)), (some 7), .bin 7 .eql false (.t 6 false) (.c (.str [98]))⟩,
  ⟨none, (some 8), .pick 8 (.t 5 false) (.c (.bool true)) (.t 7 false)⟩]
abbrev c103r2 : List GOp := [⟨none, (some 2), .mv 2 (.c (.int .i64 1))⟩]
abbrev c103s3 : ACode := (.seq (.reg c103r2 [2]) .ret)
abbrev c103s4 : ACode := (.cond (.t 8 false) c103s3 .skip)
abbrev c103r5 : List GOp := [⟨none, (some 9), .mv 9 (.t 0 false)⟩,
  ⟨none, (some 10), .bin 10 .eql false (.t 9 false) (.c (.str [107]))⟩,
  ⟨none, (some 11), .mv 11 (.t 10 true)⟩,
  ⟨(some (11, false)), (some 12), .mv 12 (.t 0 false)⟩,
  ⟨(some (11, false)), (some 13), .bin 13 .eql false (.t 12 false) (.c (.str [107, 98]))⟩,
  ⟨none, (some 14), .pick 14 (.t 11 false) (.c (.bool true)) (.t 13 false)⟩]
abbrev c103r6 : List GOp := [⟨none, (some 2), .mv 2 (.c (.int .i64 1024))⟩]
abbrev c103s7 : ACode := (.seq (.reg c103r6 [2]) .ret)
abbrev c103s8 : ACode := (.cond (.t 14 false) c103s7 .skip)
abbrev c103r9 : List GOp := [⟨none, (some 15), .mv 15 (.t 0 false)⟩,
  ⟨none, (some 16), .bin 16 .eql false (.t 15 false) (.c (.str [109]))⟩,
  ⟨none, (some 17), .mv 17 (.t 16 true)⟩,
  ⟨(some (17, false)), (some 18), .mv 18 (.t 0 false)⟩,
  ⟨(some (17, false)), (some 19), .bin 19 .eql false (.t 18 false) (.c (.str [109, 98]))⟩,
  ⟨none, (some 20), .pick 20 (.t 17 false) (.c (.bool true)) (.t 19 false)⟩]
abbrev c103r10 : List GOp := [⟨none, (some 2), .mv 2 (.c (.int .i64 1048576))⟩]
abbrev c103s11 : ACode := (.seq (.reg c103r10 [2]) .ret)
abbrev c103s12 : ACode := (.cond (.t 20 false) c103s11 .skip)
abbrev c103r13 : List GOp := [⟨none, (some 21), .mv 21 (.t 0 false)⟩,
  ⟨none, (some 22), .bin 22 .eql false (.t 21 false) (.c (.str [103]))⟩,
  ⟨none, (some 23), .mv 23 (.t 22 true)⟩,
  ⟨(some (23, false)), (some 24), .mv 24 (.t 0 false)⟩,
  ⟨(some (23, false)), (some 25), .bin 25 .eql false (.t 24 false) (.c (.str [103, 98]))⟩,
  ⟨none, (some 26), .pick 26 (.t 23 false) (.c (.bool true)) (.t 25 false)⟩]
abbrev c103r14 : List GOp := [⟨none, (some 2), .mv 2 (.c (.int .i64 1073741824))⟩]
abbrev c103s15 : ACode := (.seq (.reg c103r14 [2]) .ret)
abbrev c103s16 : ACode := (.cond (.t 26 false) c103s15 .skip)
abbrev c103r17 : List GOp := [⟨none, (some 2), .mv 2 (.c (.int .i64 0))⟩]
abbrev c103s18 : ACode := (.seq (.reg c103r17 [2]) .ret)
abbrev c103s19 : ACode := (.seq (.seq (.reg c103r13 [26]) c103s16) c103s18)
abbrev c103s20 : ACode := (.seq (.seq (.reg c103r9 [20]) c103s12) c103s19)
abbrev c103s21 : ACode := (.seq (.seq (.reg c103r5 [14]) c103s8) c103s20)
abbrev c103s22 : ACode := (.seq (.seq (.reg c103r1 [8]) c103s4) c103s21)
abbrev c103 : ACode := (.seq (.reg c103r0 [2]) c103s22)
def a103 : AFn := ⟨[], [0, 2, 8, 14, 20, 26], [4, 10, 16, 22], [], [], [], [], [], c103, [.tmp 2]⟩
theorem is103 : IsFn Tryz.prog 103 1 a103 := isFn_of mix Tryz.func103 (by kernel_rfl) (by kernel_rfl) (by kernel_rfl) (by kernel_rfl) (by kernel_rfl)
theorem sound103 {args : List AV} {r : AV} (hl : args.length = 1) (h : awp Tryz.prog c103 (unw Tryz.prog [] (Ends [.tmp 2] r)) (initSt args)) : Sound Tryz.prog 103 args r := sound_of is103 hl h
theorem total103 {args : List AV} {Φ : AV → Prop} (hl : args.length = 1) (h : awp Tryz.prog c103 (unw Tryz.prog [] (EndsP [.tmp 2] Φ)) (initSt args)) : Total Tryz.prog 103 args Φ := total_of is103 hl h

/-! longshore/longshoreref04.Unit -/
abbrev c104r0 : List GOp := [⟨none, (some 2), .mv 2 (.c (.int .i64 0))⟩]
abbrev c104r1 : List GOp := [⟨none, (some 3), .mv 3 (.t 0 false)⟩,
  ⟨none, (some 4), .bin 4 .lss false (.t 3 false) (.c (.int .i64 0))⟩,
  ⟨none, (some 5), .mv 5 (.t 4 true)⟩,
  ⟨(some (5, false)), (some 6), .mv 6 (.t 0 false)⟩,
  ⟨(some (5, false)), (some 7), .bin 7 .gtr false (.t 6 false) (.c (.int .i64 1125899906842624))⟩,
  ⟨none, (some 8), .pick 8 (.t 5 false) (.c (.bool true)) (.t 7 false)⟩]
abbrev c104r2 : List GOp := [⟨none, (some 2), .mv 2 (.c (.int .i64 0))⟩]
abbrev c104s3 : ACode := (.seq (.reg c104r2 [2]) .ret)
abbrev c104s4 : ACode := (.cond (.t 8 false) c104s3 .skip)
abbrev c104r5 : List GOp := [⟨none, (some 9), .mv 9 (.t 0 false)⟩,
  ⟨none, (some 10), .bin 10 .eql false (.t 9 false) (.c (.int .i64 0))⟩,
  ⟨none, (some 11), .mv 11 (.t 10 true)⟩,
  ⟨(some (11, false)), (some 12), .mv 12 (.t 0 false)⟩,
  ⟨(some (11, false)), (some 13), .bin 13 .rem false (.t 12 false) (.c (.int .i64 1024))⟩,
  ⟨(some (11, false)), (some 14), .bin 14 .neq false (.t 13 false) (.c (.int .i64 0))⟩,
  ⟨none, (some 15), .pick 15 (.t 11 false) (.c (.bool true)) (.t 14 false)⟩]
abbrev c104r6 : List GOp := [⟨none, (some 2), .mv 2 (.c (.int .i64 1))⟩]
abbrev c104s7 : ACode := (.seq (.reg c104r6 [2]) .ret)
abbrev c104s8 : ACode := (.cond (.t 15 false) c104s7 .skip)
abbrev c104r9 : List GOp := [⟨none, (some 16), .mv 16 (.t 0 false)⟩,
  ⟨none, (some 17), .bin 17 .rem false (.t 16 false) (.c (.int .i64 1048576))⟩,
  ⟨none, (some 18), .bin 18 .neq false (.t 17 false) (.c (.int .i64 0))⟩]
abbrev c104r10 : List GOp := [⟨none, (some 2), .mv 2 (.c (.int .i64 1024))⟩]
abbrev c104s11 : ACode := (.seq (.reg c104r10 [2]) .ret)
abbrev c104s12 : ACode := (.cond (.t 18 false) c104s11 .skip)
abbrev c104r13 : List GOp := [⟨none, (some 19), .mv 19 (.t 0 false)⟩,
  ⟨none, (some 20), .bin 20 .rem false (.t 19 false) (.c (.int .i64 1073741824))⟩,
  ⟨none, (some 21), .bin 21 .neq false (.t 20 false) (.c (.int .i64 0))⟩]
abbrev c104r14 : List GOp := [⟨none, (some 2), .mv 2 (.c (.int .i64 1048576))⟩]
abbrev c104s15 : ACode := (.seq (.reg c104r14 [2]) .ret)
abbrev c104s16 : ACode := (.cond (.t 21 false) c104s15 .skip)
abbrev c104r17 : List GOp := [⟨none, (some 2), .mv 2 (.c (.int .i64 1073741824))⟩]
abbrev c104s18 : ACode := (.seq (.reg c104r17 [2]) .ret)
abbrev c104s19 : ACode := (.seq (.seq (.reg c104r13 [21]) c104s16) c104s18)
abbrev c104s20 : ACode := (.seq (.seq (.reg c104r9 [18]) c104s12) c104s19)
abbrev c104s21 : ACode := (.seq (.seq (.reg c104r5 [15]) c104s8) c104s20)
abbrev c104s22 : ACode := (.seq (.seq (.reg c104r1 [8]) c104s4) c104s21)
abbrev c104 : ACode := (.seq (.reg c104r0 [2]) c104s22)
def a104 : AFn := ⟨[], [0, 2, 8, 15, 18, 21], [4, 10], [], [], [], [], [], c104, [.tmp 2]⟩
theorem is104 : IsFn Tryz.prog 104 1 a104 := isFn_of mix Tryz.func104 (by kernel_rfl) (by kernel_rfl) (by kernel_rfl) (by kernel_rfl) (by kernel_rfl)
theorem sound104 {args : List AV} {r : AV} (hl : args.length = 1) (h : awp Tryz.prog c104 (unw Tryz.prog [] (Ends [.tmp 2] r)) (initSt args)) : Sound Tryz.prog 104 args r := sound_of is104 hl h
theorem total104 {args : List AV} {Φ : AV → Prop} (hl : args.length = 1) (h : awp Tryz.prog c104 (unw Tryz.prog [] (EndsP [.tmp 2] Φ)) (initSt args)) : Total Tryz.prog 104 args Φ := total_of is104 hl h

/-! longshore/longshoreref15.blank -/
abbrev c105r0 : List GOp := [⟨none, (some 2), .mv 2 (.c (.bool false))⟩]
abbrev c105r1 : List GOp := [⟨none, (some 3), .mv 3 (.t 0 false)⟩,
  ⟨none, (some 4), .bin 4 .eql false (.t 3 false) (.c (.int .u8 32))⟩,
  ⟨none, (some 5), .mv 5 (.t 4 true)⟩,
  ⟨(some (5, false)), (some 6), .mv 6 (.t 0 false)⟩,
  ⟨(some (5, false)), (some 7), .bin 7 .eql false (.t 6 false) (.c (.int .u8 9))⟩,
  ⟨none, (some 8), .pick 8 (.t 5 false) (.c (.bool true)) (.t 7 false)⟩,
  ⟨none, (some 2), .mv 2 (.t 8 true)⟩]
abbrev c105s2 : ACode := (.seq (.reg c105r1 [2]) .ret)
abbrev c105 : ACode := (.seq (.reg c105r0 [2]) c105s2)
def a105 : AFn := ⟨[], [0, 2], [4, 8], [], [], [], [], [], c105, [.tmp 2]⟩
theorem is105 : IsFn Tryz.prog 105 1 a105 := isFn_of mix Tryz.func105 (by kernel_rfl) (by kernel_rfl) (by kernel_rfl) (by kernel_rfl) (by kernel_rfl)
theorem sound105 {args : List AV} {r : AV} (hl : args.length = 1) (h : awp Tryz.prog c105 (unw Tryz.prog [] (Ends [.tmp 2] r)) (initSt args)) : Sound Tryz.prog 105 args r := sound_of is105 hl h
theorem total105 {args : List AV} {Φ : AV → Prop} (hl : args.length = 1) (h : awp Tryz.prog c105 (unw Tryz.prog [] (EndsP [.tmp 2] Φ)) (initSt args)) : Total Tryz.prog 105 args Φ := total_of is105 hl h

/-! longshore/longshoreref15.piece -/
abbrev c106r0 : List GOp := [⟨none, (some 4), .mv 4 (.c (.str []))⟩,
  ⟨none, (some 5), .mv 5 (.c (.int .i64 0))⟩]
abbrev c106r1 : List GOp := [⟨none, (some 9), .mv 9 (.t 0 false)⟩,
  ⟨none, (some 10), .mv 10 (.t 1 false)⟩,
  ⟨none, (some 11), .sidx 11 (.t 9 false) (.t 10 false)⟩,
  ⟨none, (some 6), .mv 6 (.t 11 true)⟩]
abbrev c106r2 : List GOp := [⟨none, (some 12), .mv 12 (.t 6 false)⟩,
  ⟨none, (some 13), .bin 13 .eql false (.t 12 false) (.c (.int .u8 92))⟩]
abbrev c106r3 : List GOp := [⟨none, (some 14), .mv 14 (.t 1 false)⟩,
  ⟨none, (some 15), .bin 15 .add false (.t 14 false) (.c (.int .i64 1))⟩,
  ⟨none, (some 16), .mv 16 (.t 0 false)⟩,
  ⟨none, (some 17), .len 17 true (.t 16 false)⟩,
  ⟨none, (some 18), .bin 18 .eql false (.t 15 false) (.t 17 false)⟩]
abbrev c106r4 : List GOp := [⟨none, (some 4), .mv 4 (.c (.str []))⟩,
  ⟨none, (some 5), .mv 5 (.c (.int .i64 (-1)))⟩]
abbrev c106s5 : ACode := (.seq (.reg c106r4 [4, 5]) .ret)
abbrev c106s6 : ACode := (.cond (.t 18 false) c106s5 .skip)
abbrev c106r7 : List GOp := [⟨none, (some 19), .mv 19 (.t 0 false)⟩,
  ⟨none, (some 20), .mv 20 (.t 1 false)⟩,
  ⟨none, (some 21), .bin 21 .add false (.t 20 false) (.c (.int .i64 1))⟩,
  ⟨none, (some 22), .mv 22 (.t 1 false)⟩,
  ⟨none, (some 23), .bin 23 .add false (.t 22 false) (.c (.int .i64 2))⟩,
  ⟨none, (some 24), .sslice 24 (.t 19 false) (some (.t 21 false)) (some (.t 23 false))⟩,
  ⟨none, (some 25), .mv 25 (.t 1 false)⟩,
  ⟨none, (some 26), .bin 26 .add false (.t 25 false) (.c (.int .i64 2))⟩,
  ⟨none, (some 4), .mv 4 (.t 24 true)⟩,
  ⟨none, (some 5), .mv 5 (.t 26 true)⟩]
abbrev c106s8 : ACode := (.seq (.reg c106r7 [4, 5]) .ret)
abbrev c106s9 : ACode := (.seq (.seq (.reg c106r3 [18]) c106s6) c106s8)
abbrev c106s10 : ACode := (.cond (.t 13 false) c106s9 .skip)
abbrev c106r11 : List GOp := [⟨none, (some 27), .mv 27 (.t 6 false)⟩,
  ⟨none, (some 28), .bin 28 .eql false (.t 27 false) (.c (.int .u8 39))⟩]
abbrev c106r12 : List GOp := [⟨none, (some 29), .mv 29 (.t 1 false)⟩,
  ⟨none, (some 30), .bin 30 .add false (.t 29 false) (.c (.int .i64 1))⟩,
  ⟨none, (some 7), .mv 7 (.t 30 true)⟩]
abbrev c106r13 : List GOp := [⟨none, (some 31), .mv 31 (.t 7 false)⟩,
  ⟨none, (some 32), .mv 32 (.t 0 false)⟩,
  ⟨none, (some 33), .len 33 true (.t 32 false)⟩,
  ⟨none, (some 34), .bin 34 .lss false (.t 31 false) (.t 33 false)⟩]
abbrev c106s14 : ACode := (.cond (.t 34 false) .skip (.exit 0))
abbrev c106r15 : List GOp := [⟨none, (some 37), .mv 37 (.t 0 false)⟩,
  ⟨none, (some 38), .mv 38 (.t 7 false)⟩,
  ⟨none, (some 39), .sidx 39 (.t 37 false) (.t 38 false)⟩,
  ⟨none, (some 40), .bin 40 .eql false (.t 39 false) (.c (.int .u8 39))⟩]
abbrev c106r16 : List GOp := [⟨none, (some 41), .mv 41 (.t 0 false)⟩,
  ⟨none, (some 42), .mv 42 (.t 1 false)⟩,
  ⟨none, (some 43), .bin 43 .add false (.t 42 false) (.c (.int .i64 1))⟩,
  ⟨none, (some 44), .mv 44 (.t 7 false)⟩,
  ⟨none, (some 45), .sslice 45 (.t 41 false) (some (.t 43 false)) (some (.t 44 false))⟩,
  ⟨none, (some 46), .mv 46 (.t 7 false)⟩,
  ⟨none, (some 47), .bin 47 .add false (.t 46 false) (.c (.int .i64 1))⟩,
  ⟨none, (some 4), .mv 4 (.t 45 true)⟩,
  ⟨none, (some 5), .mv 5 (.t 47 true)⟩]
abbrev c106s17 : ACode := (.seq (.reg c106r16 [4, 5]) .ret)
abbrev c106s18 : ACode := (.cond (.t 40 false) c106s17 .skip)
abbrev c106s19 : ACode := (.seq (.reg c106r15 [40]) c106s18)
abbrev c106r20 : List GOp := [⟨none, (some 35), .mv 35 (.t 7 false)⟩,
  ⟨none, (some 36), .bin 36 .add false (.t 35 false) (.c (.int .i64 1))⟩,
  ⟨none, (some 7), .mv 7 (.t 36 true)⟩]
abbrev c106s21 : ACode := (.seq (.block 1 c106s19) (.reg c106r20 [7]))
abbrev c106s22 : ACode := (.seq (.seq (.reg c106r13 [34]) c106s14) c106s21)
abbrev c106s23 : ACode := (.loop c106s22)
abbrev c106s24 : ACode := (.block 0 c106s23)
abbrev c106r25 : List GOp := [⟨none, (some 4), .mv 4 (.c (.str []))⟩,
  ⟨none, (some 5), .mv 5 (.c (.int .i64 (-1)))⟩]
abbrev c106s26 : ACode := (.seq (.reg c106r25 [4, 5]) .ret)
abbrev c106s27 : ACode := (.seq (.seq (.reg c106r12 [7]) c106s24) c106s26)
abbrev c106s28 : ACode := (.cond (.t 28 false) c106s27 .skip)
abbrev c106r29 : List GOp := [⟨none, (some 48), .mv 48 (.t 6 false)⟩,
  ⟨none, (some 49), .bin 49 .neq false (.t 48 false) (.c (.int .u8 34))⟩]
abbrev c106r30 : List GOp := [⟨none, (some 50), .mv 50 (.t 0 false)⟩,
  ⟨none, (some 51), .mv 51 (.t 1 false)⟩,
  ⟨none, (some 52), .mv 52 (.t 1 false)⟩,
  ⟨none, (some 53), .bin 53 .add false (.t 52 false) (.c (.int .i64 1))⟩,
  ⟨none, (some 54), .sslice 54 (.t 50 false) (some (.t 51 false)) (some (.t 53 false))⟩,
  ⟨none, (some 55), .mv 55 (.t 1 false)⟩,
  ⟨none, (some 56), .bin 56 .add false (.t 55 false) (.c (.int .i64 1))⟩,
  ⟨none, (some 4), .mv 4 (.t 54 true)⟩,
  ⟨none, (some 5), .mv 5 (.t 56 true)⟩]
abbrev c106s31 : ACode := (.seq (.reg c106r30 [4, 5]) .ret)
abbrev c106s32 : ACode := (.cond (.t 49 false) c106s31 .skip)
abbrev c106r33 : List GOp := [⟨none, (some 8), .mv 8 (.c (.str []))⟩]
abbrev c106r34 : List GOp := [⟨none, (some 57), .mv 57 (.t 1 false)⟩,
  ⟨none, (some 58), .bin 58 .add false (.t 57 false) (.c (.int .i64 1))⟩,
  ⟨none, (some 1), .mv 1 (.t 58 true)⟩]
abbrev c106r35 : List GOp := [⟨none, (some 59), .mv 59 (.t 1 false)⟩,
  ⟨none, (some 60), .mv 60 (.t 0 false)⟩,
  ⟨none, (some 61), .len 61 true (.t 60 false)⟩,
  ⟨none, (some 62), .bin 62 .lss false (.t 59 false) (.t 61 false)⟩]
abbrev c106s36 : ACode := (.cond (.t 62 false) .skip (.exit 2))
abbrev c106r37 : List GOp := [⟨none, (some 63), .mv 63 (.t 0 false)⟩,
  ⟨none, (some 64), .mv 64 (.t 1 false)⟩,
  ⟨none, (some 65), .sidx 65 (.t 63 false) (.t 64 false)⟩,
  ⟨none, (some 66), .bin 66 .eql false (.t 65 false) (.c (.int .u8 34))⟩]
abbrev c106r38 : List GOp := [⟨none, (some 67), .mv 67 (.t 8 false)⟩,
  ⟨none, (some 68), .mv 68 (.t 1 false)⟩,
  ⟨none, (some 69), .bin 69 .add false (.t 68 false) (.c (.int .i64 1))⟩,
  ⟨none, (some 4), .mv 4 (.t 67 true)⟩,
  ⟨none, (some 5), .mv 5 (.t 69 true)⟩]
abbrev c106s39 : ACode := (.seq (.reg c106r38 [4, 5]) .ret)
abbrev c106s40 : ACode := (.cond (.t 66 false) c106s39 .skip)
abbrev c106r41 : List GOp := [⟨none, (some 70), .mv 70 (.t 0 false)⟩,
  ⟨none, (some 71), .mv 71 (.t 1 false)⟩,
  ⟨none, (some 72), .sidx 72 (.t 70 false) (.t 71 false)⟩,
  ⟨none, (some 73), .bin 73 .eql false (.t 72 false) (.c (.int .u8 92))⟩]
abbrev c106r42 : List GOp := [⟨none, (some 74), .mv 74 (.t 1 false)⟩,
  ⟨none, (some 75), .bin 75 .add false (.t 74 false) (.c (.int .i64 1))⟩,
  ⟨none, (some 76), .mv 76 (.t 0 false)⟩,
  ⟨none, (some 77), .len 77 true (.t 76 false)⟩,
  ⟨none, (some 78), .bin 78 .eql false (.t 75 false) (.t 77 false)⟩]
abbrev c106r43 : List GOp := [⟨none, (some 4), .mv 4 (.c (.str []))⟩,
  ⟨none, (some 5), .mv 5 (.c (.int .i64 (-1)))⟩]
abbrev c106s44 : ACode := (.seq (.reg c106r43 [4, 5]) .ret)
abbrev c106s45 : ACode := (.cond (.t 78 false) c106s44 .skip)
abbrev c106r46 : List GOp := [⟨none, (some 79), .mv 79 (.t 0 false)⟩,
  ⟨none, (some 80), .mv 80 (.t 1 false)⟩,
  ⟨none, (some 81), .bin 81 .add false (.t 80 false) (.c (.int .i64 1))⟩,
  ⟨none, (some 82), .sidx 82 (.t 79 false) (.t 81 false)⟩,
  ⟨none, (some 83), .bin 83 .neq false (.t 82 false) (.c (.int .u8 34))⟩,
  ⟨none, (some 84), .mv 84 (.t 83 true)⟩,
  ⟨(some (84, true)), (some 85), .mv 85 (.t 0 false)⟩,
  ⟨(some (84, true)), (some 86), .mv 86 (.t 1 false)⟩,
  ⟨(some (84, true)), (some 87), .bin 87 .add false (.t 86 false) (.c (.int .i64 1))⟩,
  ⟨(some (84, true)), (some 88), .sidx 88 (.t 85 false) (.t 87 false)⟩,
  ⟨(some (84, true)), (some 89), .bin 89 .neq false (.t 88 false) (.c (.int .u8 92))⟩,
  ⟨none, (some 90), .pick 90 (.t 84 false) (.t 89 false) (.c (.bool false))⟩]
abbrev c106r47 : List GOp := [⟨none, (some 91), .mv 91 (.t 8 false)⟩,
  ⟨none, (some 92), .mv 92 (.t 0 false)⟩,
  ⟨none, (some 93), .mv 93 (.t 1 false)⟩,
  ⟨none, (some 94), .mv 94 (.t 1 false)⟩,
  ⟨none, (some 95), .bin 95 .add false (.t 94 false) (.c (.int .i64 1))⟩,
  ⟨none, (some 96), .sslice 96 (.t 92 false) (some (.t 93 false)) (some (.t 95 false))⟩,
  ⟨none, (some 97), .bin 97 .add false (.t 91 false) (.t 96 false)⟩,
  ⟨none, (some 8), .mv 8 (.t 97 true)⟩]
abbrev c106s48 : ACode := (.cond (.t 90 false) (.reg c106r47 [8]) .skip)
abbrev c106r49 : List GOp := [⟨none, (some 98), .mv 98 (.t 1 false)⟩,
  ⟨none, (some 99), .bin 99 .add false (.t 98 false) (.c (.int .i64 1))⟩,
  ⟨none, (some 1), .mv 1 (.t 99 true)⟩]
abbrev c106s50 : ACode := (.seq (.seq (.reg c106r46 [90]) c106s48) (.reg c106r49 [1]))
abbrev c106s51 : ACode := (.seq (.seq (.reg c106r42 [78]) c106s45) c106s50)
abbrev c106s52 : ACode := (.cond (.t 73 false) c106s51 .skip)
abbrev c106r53 : List GOp := [⟨none, (some 100), .mv 100 (.t 8 false)⟩,
  ⟨none, (some 101), .mv 101 (.t 0 false)⟩,
  ⟨none, (some 102), .mv 102 (.t 1 false)⟩,
  ⟨none, (some 103), .mv 103 (.t 1 false)⟩,
  ⟨none, (some 104), .bin 104 .add false (.t 103 false) (.c (.int .i64 1))⟩,
  ⟨none, (some 105), .sslice 105 (.t 101 false) (some (.t 102 false)) (some (.t 104 false))⟩,
  ⟨none, (some 106), .bin 106 .add false (.t 100 false) (.t 105 false)⟩,
  ⟨none, (some 8), .mv 8 (.t 106 true)⟩]
abbrev c106r54 : List GOp := [⟨none, (some 107), .mv 107 (.t 1 false)⟩,
  ⟨none, (some 108), .bin 108 .add false (.t 107 false) (.c (.int .i64 1))⟩,
  ⟨none, (some 1), .mv 1 (.t 108 true)⟩]
abbrev c106s55 : ACode := (.seq (.reg c106r53 [8]) (.reg c106r54 [1]))
abbrev c106s56 : ACode := (.seq (.seq (.reg c106r41 [73]) c106s52) c106s55)
abbrev c106s57 : ACode := (.seq (.seq (.reg c106r37 [66]) c106s40) c106s56)
abbrev c106s58 : ACode := (.block 3 c106s57)
abbrev c106s59 : ACode := (.seq (.seq (.reg c106r35 [62]) c106s36) c106s58)
abbrev c106s60 : ACode := (.loop c106s59)
abbrev c106r61 : List GOp := [⟨none, (some 4), .mv 4 (.c (.str []))⟩,
  ⟨none, (some 5), .mv 5 (.c (.int .i64 (-1)))⟩]
abbrev c106s62 : ACode := (.seq (.reg c106r61 [4, 5]) .ret)
abbrev c106s63 : ACode := (.seq (.block 2 c106s60) c106s62)
abbrev c106s64 : ACode := (.seq (.reg c106r34 [1]) c106s63)
abbrev c106s65 : ACode := (.seq (.reg c106r33 [8]) c106s64)
abbrev c106s66 : ACode := (.seq (.seq (.reg c106r29 [49]) c106s32) c106s65)
abbrev c106s67 : ACode := (.seq (.seq (.reg c106r11 [28]) c106s28) c106s66)
abbrev c106s68 : ACode := (.seq (.seq (.reg c106r2 [13]) c106s10) c106s67)
abbrev c106s69 : ACode := (.seq (.reg c106r1 [6]) c106s68)
abbrev c106 : ACode := (.seq (.reg c106r0 [4, 5]) c106s69)
def a106 : AFn := ⟨[], [0, 1, 4, 5, 6, 7, 8, 13, 18, 28, 34, 40, 49, 62, 66, 73, 78, 90], [11, 24, 26, 30, 36, 45, 47, 54, 56, 58, 67, 69, 83, 97, 99, 106, 108], [], [], [], [], [], c106, [.tmp 4, .tmp 5]⟩
theorem is106 : IsFn Tryz.prog 106 2 a106 := isFn_of mix Tryz.func106 (by kernel_rfl) (by kernel_rfl) (by kernel_rfl) (by kernel_rfl) (by kernel_rfl)
theorem sound106 {args : List AV} {r : AV} (hl : args.length = 2) (h : awp Tryz.prog c106 (unw Tryz.prog [] (Ends [.tmp 4, .tmp 5] r)) (initSt args)) : Sound Tryz.prog 106 args r := sound_of is106 hl h
theorem total106 {args : List AV} {Φ : AV → Prop} (hl : args.length = 2) (h : awp Tryz.prog c106 (unw Tryz.prog [] (EndsP [.tmp 4, .tmp 5] Φ)) (initSt args)) : Total Tryz.prog 106 args Φ := total_of is106 hl h

/-! longshore/longshoreref16.Parse -/
abbrev c108r0 : List GOp := [⟨none, (some 2), .balloc 2 (.agg [(.str []), (.int .i64 0), (.int .i64 0), (.str [])])⟩,
  ⟨none, (some 3), .mv 3 (.c (.int .i64 0))⟩]
abbrev c108r1 : List GOp := [⟨none, (some 12), .build 12 [(.str []), (.int .i64 0), (.int .i64 0), (.str [])] [(3, 1, (.c (.str [116, 99, 112])))]⟩,
  ⟨none, (some 4), .balloc 4 (.agg [(.str []), (.int .i64 0), (.int .i64 0), (.str [])])⟩,
  ⟨none, none, .bstore 4 none (.t 12 true) 4⟩]
abbrev c108r2 : List GOp := [⟨none, (some 13), .mv 13 (.t 0 false)⟩,
  ⟨none, (some 14), .len 14 true (.t 13 false)⟩,
  ⟨none, (some 5), .mv 5 (.t 14 true)⟩]
abbrev c108r3 : List GOp := [⟨none, (some 15), .mv 15 (.t 5 false)⟩,
  ⟨none, (some 16), .bin 16 .gtr false (.t 15 false) (.c (.int .i64 4))⟩,
  ⟨none, (some 17), .mv 17 (.t 16 true)⟩,
  ⟨(some (17, true)), (some 18), .mv 18 (.t 0 false)⟩,
  ⟨(some (17, true)), (some 19), .mv 19 (.t 5 false)⟩,
  ⟨(some (17, true)), (some 20), .bin 20 .sub false (.t 19 false) (.c (.int .i64 4))⟩,
  ⟨(some (17, true)), (some 21), .sslice 21 (.t 18 false) (some (.t 20 false)) none⟩,
  ⟨(some (17, true)), (some 22), .bin 22 .eql false (.t 21 false) (.c (.str [47, 116, 99, 112]))⟩,
  ⟨none, (some 23), .pick 23 (.t 17 false) (.t 22 false) (.c (.bool false))⟩,
  ⟨none, (some 24), .mv 24 (.t 23 true)⟩,
  ⟨(some (24, false)), (some 25), .mv 25 (.t 5 false)⟩,
  ⟨(some (24, false)), (some 26), .bin 26 .gtr false (.t 25 false) (.c (.int .i64 4))⟩,
  ⟨(some (24, false)), (some 27), .mv 27 (.t 26 true)⟩,
  ⟨(some (27, true)), (some 28), .mv 28 (.t 0 false)⟩,
  ⟨(some (27, true)), (some 29), .mv 29 (.t 5 false)⟩,
  ⟨(some (27, true)), (some 30), .bin 30 .sub false (.t 29 false) (.c (.int .i64 4))⟩,
  ⟨(some (27, true)), (some 31), .sslice 31 (.t 28 false) (some (.t 30 false)) none⟩,
  ⟨(some (27, true)), (some 32), .bin 32 .eql false (.t 31 false) (.c (.str [47, 117, 100, 112]))⟩,
  ⟨(some (24, false)), (some 33), .pick 33 (.t 27 false) (.t 32 false) (.c (.bool false))⟩,
  ⟨none, (some 34), .pick 34 (.t 24 false) (.c (.bool true)) (.t 33 false)⟩]
abbrev c108r4 : List GOp := [⟨none, (some 35), .mv 35 (.t 0 false)⟩,
  ⟨none, (some 36), .mv 36 (.t 5 false)⟩,
  ⟨none, (some 37), .bin 37 .sub false (.t 36 false) (.c (.int .i64 3))⟩,
  ⟨none, (some 38), .sslice 38 (.t 35 false) (some (.t 37 false)) none⟩,
  ⟨none, (some 39), .baddr 39 4 3⟩,
  ⟨none, none, .bstore 4 (some 39) (.t 38 true) 1⟩]
abbrev c108r5 : List GOp := [⟨none, (some 40), .mv 40 (.t 0 false)⟩,
  ⟨none, (some 41), .mv 41 (.t 5 false)⟩,
  ⟨none, (some 42), .bin 42 .sub false (.t 41 false) (.c (.int .i64 4))⟩,
  ⟨none, (some 43), .sslice 43 (.t 40 false) none (some (.t 42 false))⟩,
  ⟨none, (some 0), .mv 0 (.t 43 true)⟩]
abbrev c108s6 : ACode := (.seq (.reg c108r4 [4]) (.reg c108r5 [0]))
abbrev c108s7 : ACode := (.cond (.t 34 false) c108s6 .skip)
abbrev c108r8 : List GOp := [⟨none, (some 44), .mv 44 (.t 0 false)⟩,
  ⟨none, (some 45), .call (some 45) 122 [(.t 44 false), (.c (.int .u8 58))]⟩,
  ⟨none, (some 6), .mv 6 (.t 45 true)⟩]
abbrev c108r9 : List GOp := [⟨none, (some 46), .mv 46 (.t 6 false)⟩,
  ⟨none, (some 47), .len 47 false (.t 46 false)⟩,
  ⟨none, (some 7), .mv 7 (.t 47 true)⟩]
abbrev c108r10 : List GOp := [⟨none, (some 48), .mv 48 (.t 7 false)⟩,
  ⟨none, (some 49), .bin 49 .gtr false (.t 48 false) (.c (.int .i64 3))⟩,
  ⟨none, (some 50), .mv 50 (.t 49 true)⟩,
  ⟨(some (50, false)), (some 51), .mv 51 (.t 7 false)⟩,
  ⟨(some (50, false)), (some 52), .bin 52 .eql false (.t 51 false) (.c (.int .i64 3))⟩,
  ⟨(some (50, false)), (some 53), .mv 53 (.t 52 true)⟩,
  ⟨(some (53, true)), (some 54), .mv 54 (.t 6 false)⟩,
  ⟨(some (53, true)), (some 55), .idx 55 (.t 54 false) (.c (.int .i64 0)) 1⟩,
  ⟨(some (53, true)), (some 56), .vload 56 55 none⟩,
  ⟨(some (53, true)), (some 57), .len 57 true (.t 56 false)⟩,
  ⟨(some (53, true)), (some 58), .bin 58 .eql false (.t 57 false) (.c (.int .i64 0))⟩,
  ⟨(some (50, false)), (some 59), .pick 59 (.t 53 false) (.t 58 false) (.c (.bool false))⟩,
  ⟨none, (some 60), .pick 60 (.t 50 false) (.c (.bool true)) (.t 59 false)⟩]
abbrev c108r11 : List GOp := [⟨none, (some 61), .build 61 [(.str []), (.int .i64 0), (.int .i64 0), (.str [])] []⟩,
  ⟨none, none, .bstore 2 none (.t 61 true) 4⟩,
  ⟨none, (some 3), .mv 3 (.c (.int .i64 3))⟩]
abbrev c108s12 : ACode := (.seq (.reg c108r11 [2, 3]) .ret)
abbrev c108s13 : ACode := (.cond (.t 60 false) c108s12 .skip)
abbrev c108r14 : List GOp := [⟨none, (some 63), .mv 63 (.t 6 false)⟩,
  ⟨none, (some 64), .mv 64 (.t 7 false)⟩,
  ⟨none, (some 65), .bin 65 .sub false (.t 64 false) (.c (.int .i64 1))⟩,
  ⟨none, (some 66), .idx 66 (.t 63 false) (.t 65 false) 1⟩,
  ⟨none, (some 67), .vload 67 66 none⟩,
  ⟨none, (some 68), .call (some 68) 75 [(.t 67 false), (.c (.int .i64 65535))]⟩,
  ⟨none, (some 62), .mv 62 (.t 68 true)⟩,
  ⟨none, (some 69), .extract 69 (.t 62 false) 0⟩,
  ⟨none, (some 70), .extract 70 (.t 62 false) 1⟩,
  ⟨none, (some 8), .mv 8 (.t 69 true)⟩,
  ⟨none, (some 9), .mv 9 (.t 70 true)⟩]
abbrev c108r15 : List GOp := [⟨none, (some 71), .mv 71 (.t 8 false)⟩,
  ⟨none, (some 72), .baddr 72 4 2⟩,
  ⟨none, none, .bstore 4 (some 72) (.t 71 true) 1⟩]
abbrev c108r16 : List GOp := [⟨none, (some 73), .mv 73 (.t 7 false)⟩,
  ⟨none, (some 74), .bin 74 .gtr false (.t 73 false) (.c (.int .i64 1))⟩,
  ⟨none, (some 75), .mv 75 (.t 74 true)⟩,
  ⟨(some (75, true)), (some 76), .mv 76 (.t 7 false)⟩,
  ⟨(some (75, true)), (some 77), .bin 77 .eql false (.t 76 false) (.c (.int .i64 2))⟩,
  ⟨(some (75, true)), (some 78), .mv 78 (.t 77 true)⟩,
  ⟨(some (78, false)), (some 79), .mv 79 (.t 6 false)⟩,
  ⟨(some (78, false)), (some 80), .idx 80 (.t 79 false) (.c (.int .i64 1)) 1⟩,
  ⟨(some (78, false)), (some 81), .vload 81 80 none⟩,
  ⟨(some (78, false)), (some 82), .len 82 true (.t 81 false)⟩,
  ⟨(some (78, false)), (some 83), .bin 83 .gtr false (.t 82 false) (.c (.int .i64 0))⟩,
  ⟨(some (75, true)), (some 84), .pick 84 (.t 78 false) (.c (.bool true)) (.t 83 false)⟩,
  ⟨none, (some 85), .pick 85 (.t 75 false) (.t 84 false) (.c (.bool false))⟩]
abbrev c108r17 : List GOp := [⟨none, (some 87), .mv 87 (.t 6 false)⟩,
  ⟨none, (some 88), .mv 88 (.t 7 false)⟩,
  ⟨none, (some 89), .bin 89 .sub false (.t 88 false) (.c (.int .i64 2))⟩,
  ⟨none, (some 90), .idx 90 (.t 87 false) (.t 89 false) 1⟩,
  ⟨none, (some 91), .vload 91 90 none⟩,
  ⟨none, (some 92), .call (some 92) 75 [(.t 91 false), (.c (.int .i64 65535))]⟩,
  ⟨none, (some 86), .mv 86 (.t 92 true)⟩,
  ⟨none, (some 93), .extract 93 (.t 86 false) 0⟩,
  ⟨none, (some 94), .extract 94 (.t 86 false) 1⟩,
  ⟨none, (some 10), .mv 10 (.t 93 true)⟩,
  ⟨none, (some 11), .mv 11 (.t 94 true)⟩]
abbrev c108r18 : List GOp := [⟨none, (some 95), .mv 95 (.t 10 false)⟩,
  ⟨none, (some 96), .baddr 96 4 1⟩,
  ⟨none, none, .bstore 4 (some 96) (.t 95 true) 1⟩]
abbrev c108r19 : List GOp := [⟨none, (some 97), .mv 97 (.t 11 false)⟩,
  ⟨none, (some 98), .bin 98 .neq false (.t 97 false) (.c (.int .i64 0))⟩,
  ⟨none, (some 99), .mv 99 (.t 98 true)⟩,
  ⟨(some (99, false)), (some 100), .mv 100 (.t 10 false)⟩,
  ⟨(some (99, false)), (some 101), .bin 101 .eql false (.t 100 false) (.c (.int .i64 0))⟩,
  ⟨none, (some 102), .pick 102 (.t 99 false) (.c (.bool true)) (.t 101 false)⟩]
abbrev c108r20 : List GOp := [⟨none, (some 103), .build 103 [(.str []), (.int .i64 0), (.int .i64 0), (.str [])] []⟩,
  ⟨none, none, .bstore 2 none (.t 103 true) 4⟩,
  ⟨none, (some 3), .mv 3 (.c (.int .i64 3))⟩]
abbrev c108s21 : ACode := (.seq (.reg c108r20 [2, 3]) .ret)
abbrev c108s22 : ACode := (.cond (.t 102 false) c108s21 .skip)
abbrev c108s23 : ACode := (.seq (.reg c108r19 [102]) c108s22)
abbrev c108s24 : ACode := (.seq (.reg c108r18 [4]) c108s23)
abbrev c108s25 : ACode := (.seq (.reg c108r17 [10, 11]) c108s24)
abbrev c108s26 : ACode := (.cond (.t 85 false) c108s25 .skip)
abbrev c108r27 : List GOp := [⟨none, (some 104), .mv 104 (.t 7 false)⟩,
  ⟨none, (some 105), .bin 105 .eql false (.t 104 false) (.c (.int .i64 3))⟩]
abbrev c108r28 : List GOp := [⟨none, (some 106), .mv 106 (.t 6 false)⟩,
  ⟨none, (some 107), .idx 107 (.t 106 false) (.c (.int .i64 0)) 1⟩,
  ⟨none, (some 108), .vload 108 107 none⟩,
  ⟨none, (some 109), .baddr 109 4 0⟩,
  ⟨none, none, .bstore 4 (some 109) (.t 108 true) 1⟩]
abbrev c108s29 : ACode := (.cond (.t 105 false) (.reg c108r28 [4]) .skip)
abbrev c108r30 : List GOp := [⟨none, (some 110), .mv 110 (.t 9 false)⟩,
  ⟨none, (some 111), .bin 111 .neq false (.t 110 false) (.c (.int .i64 0))⟩,
  ⟨none, (some 112), .mv 112 (.t 111 true)⟩,
  ⟨(some (112, false)), (some 113), .bload 113 4 none (some 4) false⟩,
  ⟨(some (112, false)), (some 114), .call (some 114) 123 [(.t 113 false)]⟩,
  ⟨(some (112, false)), (some 115), .un 115 .not (.t 114 false)⟩,
  ⟨none, (some 116), .pick 116 (.t 112 false) (.c (.bool true)) (.t 115 false)⟩]
abbrev c108r31 : List GOp := [⟨none, (some 117), .build 117 [(.str []), (.int .i64 0), (.int .i64 0), (.str [])] []⟩,
  ⟨none, none, .bstore 2 none (.t 117 true) 4⟩,
  ⟨none, (some 3), .mv 3 (.c (.int .i64 3))⟩]
abbrev c108s32 : ACode := (.seq (.reg c108r31 [2, 3]) .ret)
abbrev c108s33 : ACode := (.cond (.t 116 false) c108s32 .skip)
abbrev c108r34 : List GOp := [⟨none, (some 118), .bload 118 4 none (some 4) false⟩,
  ⟨none, none, .bstore 2 none (.t 118 true) 4⟩,
  ⟨none, (some 3), .mv 3 (.c (.int .i64 0))⟩]
abbrev c108s35 : ACode := (.seq (.reg c108r34 [2, 3]) .ret)
abbrev c108s36 : ACode := (.seq (.seq (.reg c108r30 [116]) c108s33) c108s35)
abbrev c108s37 : ACode := (.seq (.seq (.reg c108r27 [105]) c108s29) c108s36)
abbrev c108s38 : ACode := (.seq (.seq (.reg c108r16 [85]) c108s26) c108s37)
abbrev c108s39 : ACode := (.seq (.reg c108r15 [4]) c108s38)
abbrev c108s40 : ACode := (.seq (.reg c108r14 [8, 9]) c108s39)
abbrev c108s41 : ACode := (.seq (.seq (.reg c108r10 [60]) c108s13) c108s40)
abbrev c108s42 : ACode := (.seq (.reg c108r9 [7]) c108s41)
abbrev c108s43 : ACode := (.seq (.reg c108r8 [6]) c108s42)
abbrev c108s44 : ACode := (.seq (.seq (.reg c108r3 [34]) c108s7) c108s43)
abbrev c108s45 : ACode := (.seq (.reg c108r2 [5]) c108s44)
abbrev c108s46 : ACode := (.seq (.reg c108r1 [4]) c108s45)
abbrev c108 : ACode := (.seq (.reg c108r0 [2, 3]) c108s46)
def a108 : AFn := ⟨[2, 4], [0, 2, 3, 4, 5, 6, 7, 8, 9, 10, 11, 34, 60, 85, 102, 105, 116], [12, 14, 16, 23, 26, 38, 43, 45, 47, 49, 52, 61, 68, 69, 70, 71, 74, 77, 92, 93, 94, 95, 98, 103, 108, 111, 117, 118], [], [(109, 4), (96, 4), (72, 4), (39, 4)], [(109, 0), (96, 1), (72, 2), (39, 3)], [], [], c108, [.cell 2 (some 4), .tmp 3]⟩
theorem is108 : IsFn Tryz.prog 108 1 a108 := isFn_of mix Tryz.func108 (by kernel_rfl) (by kernel_rfl) (by kernel_rfl) (by kernel_rfl) (by kernel_rfl)
theorem sound108 {args : List AV} {r : AV} (hl : args.length = 1) (h : awp Tryz.prog c108 (unw Tryz.prog [] (Ends [.cell 2 (some 4), .tmp 3] r)) (initSt args)) : Sound Tryz.prog 108 args r := sound_of is108 hl h
theorem total108 {args : List AV} {Φ : AV → Prop} (hl : args.length = 1) (h : awp Tryz.prog c108 (unw Tryz.prog [] (EndsP [.cell 2 (some 4), .tmp 3] Φ)) (initSt args)) : Total Tryz.prog 108 args Φ := total_of is108 hl h

/-! longshore/longshoreref16.Text -/
abbrev c109r0 : List GOp := [⟨none, (some 1), .bbox 1 (.t 0 false)⟩,
  ⟨none, (some 2), .mv 2 (.c (.str []))⟩]
abbrev c109r1 : List GOp := [⟨none, (some 4), .bload 4 1 none (some 4) false⟩,
  ⟨none, (some 5), .call (some 5) 123 [(.t 4 false)]⟩,
  ⟨none, (some 6), .un 6 .not (.t 5 false)⟩]
abbrev c109r2 : List GOp := [⟨none, (some 2), .mv 2 (.c (.str []))⟩]
abbrev c109s3 : ACode := (.seq (.reg c109r2 [2]) .ret)
abbrev c109s4 : ACode := (.cond (.t 6 false) c109s3 .skip)
abbrev c109r5 : List GOp := [⟨none, (some 3), .mv 3 (.c (.str []))⟩]
abbrev c109r6 : List GOp := [⟨none, (some 7), .baddr 7 1 0⟩,
  ⟨none, (some 8), .bload 8 1 (some 7) none false⟩,
  ⟨none, (some 9), .len 9 true (.t 8 false)⟩,
  ⟨none, (some 10), .bin 10 .gtr false (.t 9 false) (.c (.int .i64 0))⟩]
abbrev c109r7 : List GOp := [⟨none, (some 11), .baddr 11 1 0⟩,
  ⟨none, (some 12), .bload 12 1 (some 11) none false⟩,
  ⟨none, (some 13), .bin 13 .add false (.t 12 false) (.c (.str [58]))⟩,
  ⟨none, (some 3), .mv 3 (.t 13 true)⟩]
abbrev c109s8 : ACode := (.cond (.t 10 false) (.reg c109r7 [3]) .skip)
abbrev c109r9 : List GOp := [⟨none, (some 14), .baddr 14 1 1⟩,
  ⟨none, (some 15), .bload 15 1 (some 14) none false⟩,
  ⟨none, (some 16), .bin 16 .gtr false (.t 15 false) (.c (.int .i64 0))⟩]
abbrev c109r10 : List GOp := [⟨none, (some 17), .mv 17 (.t 3 false)⟩,
  ⟨none, (some 18), .baddr 18 1 1⟩,
  ⟨none, (some 19), .bload 19 1 (some 18) none false⟩,
  ⟨none, (some 20), .call (some 20) 89 [(.t 19 false)]⟩,
  ⟨none, (some 21), .bin 21 .add false (.t 17 false) (.t 20 false)⟩,
  ⟨none, (some 22), .bin 22 .add false (.t 21 false) (.c (.str [58]))⟩,
  ⟨none, (some 3), .mv 3 (.t 22 true)⟩]
abbrev c109r11 : List GOp := [⟨none, (some 23), .baddr 23 1 0⟩,
  ⟨none, (some 24), .bload 24 1 (some 23) none false⟩,
  ⟨none, (some 25), .len 25 true (.t 24 false)⟩,
  ⟨none, (some 26), .bin 26 .gtr false (.t 25 false) (.c (.int .i64 0))⟩]
abbrev c109r12 : List GOp := [⟨none, (some 27), .mv 27 (.t 3 false)⟩,
  ⟨none, (some 28), .bin 28 .add false (.t 27 false) (.c (.str [58]))⟩,
  ⟨none, (some 3), .mv 3 (.t 28 true)⟩]
abbrev c109s13 : ACode := (.cond (.t 26 false) (.reg c109r12 [3]) .skip)
abbrev c109s14 : ACode := (.seq (.reg c109r11 [26]) c109s13)
abbrev c109s15 : ACode := (.cond (.t 16 false) (.reg c109r10 [3]) c109s14)
abbrev c109r16 : List GOp := [⟨none, (some 29), .mv 29 (.t 3 false)⟩,
  ⟨none, (some 30), .baddr 30 1 2⟩,
  ⟨none, (some 31), .bload 31 1 (some 30) none false⟩,
  ⟨none, (some 32), .call (some 32) 89 [(.t 31 false)]⟩,
  ⟨none, (some 33), .bin 33 .add false (.t 29 false) (.t 32 false)⟩,
  ⟨none, (some 3), .mv 3 (.t 33 true)⟩]
abbrev c109r17 : List GOp := [⟨none, (some 34), .baddr 34 1 3⟩,
  ⟨none, (some 35), .bload 35 1 (some 34) none false⟩,
  ⟨none, (some 36), .bin 36 .eql false (.t 35 false) (.c (.str [117, 100, 112]))⟩]
abbrev c109r18 : List GOp := [⟨none, (some 37), .mv 37 (.t 3 false)⟩,
  ⟨none, (some 38), .bin 38 .add false (.t 37 false) (.c (.str [47, 117, 100, 112]))⟩,
  ⟨none, (some 3), .mv 3 (.t 38 true)⟩]
abbrev c109s19 : ACode := (.cond (.t 36 false) (.reg c109r18 [3]) .skip)
abbrev c109r20 : List GOp := [⟨none, (some 39), .mv 39 (.t 3 false)⟩,
  ⟨none, (some 2), .mv 2 (.t 39 true)⟩]
abbrev c109s21 : ACode := (.seq (.reg c109r20 [2]) .ret)
abbrev c109s22 : ACode := (.seq (.seq (.reg c109r17 [36]) c109s19) c109s21)
abbrev c109s23 : ACode := (.seq (.reg c109r16 [3]) c109s22)
abbrev c109s24 : ACode := (.seq (.seq (.reg c109r9 [16]) c109s15) c109s23)
abbrev c109s25 : ACode := (.seq (.seq (.reg c109r6 [10]) c109s8) c109s24)
abbrev c109s26 : ACode := (.seq (.reg c109r5 [3]) c109s25)
abbrev c109s27 : ACode := (.seq (.seq (.reg c109r1 [6]) c109s4) c109s26)
abbrev c109 : ACode := (.seq (.reg c109r0 [1, 2]) c109s27)
def a109 : AFn := ⟨[1], [0, 1, 2, 3, 6, 10, 16, 26, 36], [13, 22, 28, 33, 38, 39], [], [(34, 1), (30, 1), (23, 1), (18, 1), (14, 1), (11, 1), (7, 1)], [(34, 3), (30, 2), (23, 0), (18, 1), (14, 1), (11, 0), (7, 0)], [], [], c109, [.tmp 2]⟩
theorem is109 : IsFn Tryz.prog 109 1 a109 := isFn_of mix Tryz.func109 (by kernel_rfl) (by kernel_rfl) (by kernel_rfl) (by kernel_rfl) (by kernel_rfl)
theorem sound109 {args : List AV} {r : AV} (hl : args.length = 1) (h : awp Tryz.prog c109 (unw Tryz.prog [] (Ends [.tmp 2] r)) (initSt args)) : Sound Tryz.prog 109 args r := sound_of is109 hl h
theorem total109 {args : List AV} {Φ : AV → Prop} (hl : args.length = 1) (h : awp Tryz.prog c109 (unw Tryz.prog [] (EndsP [.tmp 2] Φ)) (initSt args)) : Total Tryz.prog 109 args Φ := total_of is109 hl h

/-! longshore/longshoreref17.Parse -/
abbrev c110r0 : List GOp := [⟨none, (some 2), .balloc 2 (.agg [(.str []), (.str []), (.bool false)])⟩,
  ⟨none, (some 3), .mv 3 (.c (.int .i64 0))⟩]
abbrev c110r1 : List GOp := [⟨none, (some 9), .build 9 [(.str []), (.str []), (.bool false)] []⟩,
  ⟨none, (some 4), .balloc 4 (.agg [(.str []), (.str []), (.bool false)])⟩,
  ⟨none, none, .bstore 4 none (.t 9 true) 3⟩]
abbrev c110r2 : List GOp := [⟨none, (some 10), .mv 10 (.t 0 false)⟩,
  ⟨none, (some 11), .len 11 true (.t 10 false)⟩,
  ⟨none, (some 5), .mv 5 (.t 11 true)⟩]
abbrev c110r3 : List GOp := [⟨none, (some 12), .mv 12 (.t 5 false)⟩,
  ⟨none, (some 13), .bin 13 .geq false (.t 12 false) (.c (.int .i64 3))⟩,
  ⟨none, (some 14), .mv 14 (.t 13 true)⟩,
  ⟨(some (14, true)), (some 15), .mv 15 (.t 0 false)⟩,
  ⟨(some (14, true)), (some 16), .mv 16 (.t 5 false)⟩,
  ⟨(some (14, true)), (some 17), .bin 17 .sub false (.t 16 false) (.c (.int .i64 3))⟩,
  ⟨(some (14, true)), (some 18), .sslice 18 (.t 15 false) (some (.t 17 false)) none⟩,
  ⟨(some (14, true)), (some 19), .bin 19 .eql false (.t 18 false) (.c (.str [58, 114, 111]))⟩,
  ⟨(some (14, true)), (some 20), .mv 20 (.t 19 true)⟩,
  ⟨(some (20, false)), (some 21), .mv 21 (.t 0 false)⟩,
  ⟨(some (20, false)), (some 22), .mv 22 (.t 5 false)⟩,
  ⟨(some (20, false)), (some 23), .bin 23 .sub false (.t 22 false) (.c (.int .i64 3))⟩,
  ⟨(some (20, false)), (some 24), .sslice 24 (.t 21 false) (some (.t 23 false)) none⟩,
  ⟨(some (20, false)), (some 25), .bin 25 .eql false (.t 24 false) (.c (.str [58, 114, 119]))⟩,
  ⟨(some (14, true)), (some 26), .pick 26 (.t 20 false) (.c (.bool true)) (.t 25 false)⟩,
  ⟨none, (some 27), .pick 27 (.t 14 false) (.t 26 false) (.c (.bool false))⟩]
abbrev c110r4 : List GOp := [⟨none, (some 28), .mv 28 (.t 0 false)⟩,
  ⟨none, (some 29), .mv 29 (.t 5 false)⟩,
  ⟨none, (some 30), .bin 30 .sub false (.t 29 false) (.c (.int .i64 1))⟩,
  ⟨none, (some 31), .sidx 31 (.t 28 false) (.t 30 false)⟩,
  ⟨none, (some 32), .bin 32 .eql false (.t 31 false) (.c (.int .u8 111))⟩,
  ⟨none, (some 33), .baddr 33 4 2⟩,
  ⟨none, none, .bstore 4 (some 33) (.t 32 true) 1⟩]
abbrev c110r5 : List GOp := [⟨none, (some 34), .mv 34 (.t 0 false)⟩,
  ⟨none, (some 35), .mv 35 (.t 5 false)⟩,
  ⟨none, (some 36), .bin 36 .sub false (.t 35 false) (.c (.int .i64 3))⟩,
  ⟨none, (some 37), .sslice 37 (.t 34 false) none (some (.t 36 false))⟩,
  ⟨none, (some 0), .mv 0 (.t 37 true)⟩]
abbrev c110s6 : ACode := (.seq (.reg c110r4 [4]) (.reg c110r5 [0]))
abbrev c110s7 : ACode := (.cond (.t 27 false) c110s6 .skip)
abbrev c110r8 : List GOp := [⟨none, (some 6), .mv 6 (.c (.int .i64 (-1)))⟩]
abbrev c110r9 : List GOp := [⟨none, (some 7), .mv 7 (.c (.int .i64 0))⟩]
abbrev c110r10 : List GOp := [⟨none, (some 8), .mv 8 (.c (.int .i64 0))⟩]
abbrev c110r11 : List GOp := [⟨none, (some 38), .mv 38 (.t 8 false)⟩,
  ⟨none, (some 39), .mv 39 (.t 0 false)⟩,
  ⟨none, (some 40), .len 40 true (.t 39 false)⟩,
  ⟨none, (some 41), .bin 41 .lss false (.t 38 false) (.t 40 false)⟩]
abbrev c110s12 : ACode := (.cond (.t 41 false) .skip (.exit 0))
abbrev c110r13 : List GOp := [⟨none, (some 44), .mv 44 (.t 0 false)⟩,
  ⟨none, (some 45), .mv 45 (.t 8 false)⟩,
  ⟨none, (some 46), .sidx 46 (.t 44 false) (.t 45 false)⟩,
  ⟨none, (some 47), .bin 47 .eql false (.t 46 false) (.c (.int .u8 58))⟩]
abbrev c110r14 : List GOp := [⟨none, (some 48), .mv 48 (.t 7 false)⟩,
  ⟨none, (some 49), .bin 49 .add false (.t 48 false) (.c (.int .i64 1))⟩,
  ⟨none, (some 7), .mv 7 (.t 49 true)⟩]
abbrev c110r15 : List GOp := [⟨none, (some 50), .mv 50 (.t 8 false)⟩,
  ⟨none, (some 6), .mv 6 (.t 50 true)⟩]
abbrev c110s16 : ACode := (.seq (.reg c110r14 [7]) (.reg c110r15 [6]))
abbrev c110s17 : ACode := (.cond (.t 47 false) c110s16 .skip)
abbrev c110s18 : ACode := (.seq (.reg c110r13 [47]) c110s17)
abbrev c110r19 : List GOp := [⟨none, (some 42), .mv 42 (.t 8 false)⟩,
  ⟨none, (some 43), .bin 43 .add false (.t 42 false) (.c (.int .i64 1))⟩,
  ⟨none, (some 8), .mv 8 (.t 43 true)⟩]
abbrev c110s20 : ACode := (.seq (.block 1 c110s18) (.reg c110r19 [8]))
abbrev c110s21 : ACode := (.seq (.seq (.reg c110r11 [41]) c110s12) c110s20)
abbrev c110s22 : ACode := (.loop c110s21)
abbrev c110s23 : ACode := (.block 0 c110s22)
abbrev c110r24 : List GOp := [⟨none, (some 51), .mv 51 (.t 7 false)⟩,
  ⟨none, (some 52), .bin 52 .gtr false (.t 51 false) (.c (.int .i64 1))⟩,
  ⟨none, (some 53), .mv 53 (.t 52 true)⟩,
  ⟨(some (53, false)), (some 54), .mv 54 (.t 6 false)⟩,
  ⟨(some (53, false)), (some 55), .bin 55 .eql false (.t 54 false) (.c (.int .i64 0))⟩,
  ⟨none, (some 56), .pick 56 (.t 53 false) (.c (.bool true)) (.t 55 false)⟩]
abbrev c110r25 : List GOp := [⟨none, (some 57), .build 57 [(.str []), (.str []), (.bool false)] []⟩,
  ⟨none, none, .bstore 2 none (.t 57 true) 3⟩,
  ⟨none, (some 3), .mv 3 (.c (.int .i64 3))⟩]
abbrev c110s26 : ACode := (.seq (.reg c110r25 [2, 3]) .ret)
abbrev c110s27 : ACode := (.cond (.t 56 false) c110s26 .skip)
abbrev c110r28 : List GOp := [⟨none, (some 58), .mv 58 (.t 7 false)⟩,
  ⟨none, (some 59), .bin 59 .eql false (.t 58 false) (.c (.int .i64 1))⟩]
abbrev c110r29 : List GOp := [⟨none, (some 60), .mv 60 (.t 0 false)⟩,
  ⟨none, (some 61), .mv 61 (.t 6 false)⟩,
  ⟨none, (some 62), .sslice 62 (.t 60 false) none (some (.t 61 false))⟩,
  ⟨none, (some 63), .baddr 63 4 0⟩,
  ⟨none, none, .bstore 4 (some 63) (.t 62 true) 1⟩]
abbrev c110s30 : ACode := (.cond (.t 59 false) (.reg c110r29 [4]) .skip)
abbrev c110r31 : List GOp := [⟨none, (some 64), .mv 64 (.t 0 false)⟩,
  ⟨none, (some 65), .mv 65 (.t 6 false)⟩,
  ⟨none, (some 66), .bin 66 .add false (.t 65 false) (.c (.int .i64 1))⟩,
  ⟨none, (some 67), .sslice 67 (.t 64 false) (some (.t 66 false)) none⟩,
  ⟨none, (some 68), .baddr 68 4 1⟩,
  ⟨none, none, .bstore 4 (some 68) (.t 67 true) 1⟩]
abbrev c110r32 : List GOp := [⟨none, (some 69), .bload 69 4 none (some 3) false⟩,
  ⟨none, (some 70), .call (some 70) 111 [(.t 69 false)]⟩,
  ⟨none, (some 71), .un 71 .not (.t 70 false)⟩]
abbrev c110r33 : List GOp := [⟨none, (some 72), .build 72 [(.str []), (.str []), (.bool false)] []⟩,
  ⟨none, none, .bstore 2 none (.t 72 true) 3⟩,
  ⟨none, (some 3), .mv 3 (.c (.int .i64 3))⟩]
abbrev c110s34 : ACode := (.seq (.reg c110r33 [2, 3]) .ret)
abbrev c110s35 : ACode := (.cond (.t 71 false) c110s34 .skip)
abbrev c110r36 : List GOp := [⟨none, (some 73), .bload 73 4 none (some 3) false⟩,
  ⟨none, none, .bstore 2 none (.t 73 true) 3⟩,
  ⟨none, (some 3), .mv 3 (.c (.int .i64 0))⟩]
abbrev c110s37 : ACode := (.seq (.reg c110r36 [2, 3]) .ret)
abbrev c110s38 : ACode := (.seq (.seq (.reg c110r32 [71]) c110s35) c110s37)
abbrev c110s39 : ACode := (.seq (.reg c110r31 [4]) c110s38)
abbrev c110s40 : ACode := (.seq (.seq (.reg c110r28 [59]) c110s30) c110s39)
abbrev c110s41 : ACode := (.seq (.seq (.reg c110r24 [56]) c110s27) c110s40)
abbrev c110s42 : ACode := (.seq (.seq (.reg c110r10 [8]) c110s23) c110s41)
abbrev c110s43 : ACode := (.seq (.reg c110r9 [7]) c110s42)
abbrev c110s44 : ACode := (.seq (.reg c110r8 [6]) c110s43)
abbrev c110s45 : ACode := (.seq (.seq (.reg c110r3 [27]) c110s7) c110s44)
abbrev c110s46 : ACode := (.seq (.reg c110r2 [5]) c110s45)
abbrev c110s47 : ACode := (.seq (.reg c110r1 [4]) c110s46)
abbrev c110 : ACode := (.seq (.reg c110r0 [2, 3]) c110s47)
def a110 : AFn := ⟨[2, 4], [0, 2, 3, 4, 5, 6, 7, 8, 27, 41, 47, 56, 59, 71], [9, 11, 13, 19, 32, 37, 43, 49, 50, 52, 57, 62, 67, 72, 73], [], [(68, 4), (63, 4), (33, 4)], [(68, 1), (63, 0), (33, 2)], [], [], c110, [.cell 2 (some 3), .tmp 3]⟩
theorem is110 : IsFn Tryz.prog 110 1 a110 := isFn_of mix Tryz.func110 (by kernel_rfl) (by kernel_rfl) (by kernel_rfl) (by kernel_rfl) (by kernel_rfl)
theorem sound110 {args : List AV} {r : AV} (hl : args.length = 1) (h : awp Tryz.prog c110 (unw Tryz.prog [] (Ends [.cell 2 (some 3), .tmp 3] r)) (initSt args)) : Sound Tryz.prog 110 args r := sound_of is110 hl h
theorem total110 {args : List AV} {Φ : AV → Prop} (hl : args.length = 1) (h : awp Tryz.prog c110 (unw Tryz.prog [] (EndsP [.cell 2 (some 3), .tmp 3] Φ)) (initSt args)) : Total Tryz.prog 110 args Φ := total_of is110 hl h

/-! longshore/longshoreref17.Right -/
abbrev c111r0 : List GOp := [⟨none, (some 1), .bbox 1 (.t 0 false)⟩,
  ⟨none, (some 2), .mv 2 (.c (.bool false))⟩]
abbrev c111r1 : List GOp := [⟨none, (some 4), .baddr 4 1 1⟩,
  ⟨none, (some 5), .bload 5 1 (some 4) none false⟩,
  ⟨none, (some 6), .call (some 6) 124 [(.t 5 false)]⟩,
  ⟨none, (some 7), .un 7 .not (.t 6 false)⟩]
abbrev c111r2 : List GOp := [⟨none, (some 2), .mv 2 (.c (.bool false))⟩]
abbrev c111s3 : ACode := (.seq (.reg c111r2 [2]) .ret)
abbrev c111s4 : ACode := (.cond (.t 7 false) c111s3 .skip)
abbrev c111r5 : List GOp := [⟨none, (some 8), .baddr 8 1 0⟩,
  ⟨none, (some 9), .bload 9 1 (some 8) none false⟩,
  ⟨none, (some 3), .mv 3 (.t 9 true)⟩]
abbrev c111r6 : List GOp := [⟨none, (some 10), .mv 10 (.t 3 false)⟩,
  ⟨none, (some 11), .len 11 true (.t 10 false)⟩,
  ⟨none, (some 12), .bin 12 .eql false (.t 11 false) (.c (.int .i64 0))⟩,
  ⟨none, (some 13), .mv 13 (.t 12 true)⟩,
  ⟨(some (13, false)), (some 14), .mv 14 (.t 3 false)⟩,
  ⟨(some (13, false)), (some 15), .call (some 15) 43 [(.t 14 false)]⟩,
  ⟨none, (some 16), .pick 16 (.t 13 false) (.c (.bool true)) (.t 15 false)⟩]
abbrev c111r7 : List GOp := [⟨none, (some 2), .mv 2 (.c (.bool true))⟩]
abbrev c111s8 : ACode := (.seq (.reg c111r7 [2]) .ret)
abbrev c111s9 : ACode := (.cond (.t 16 false) c111s8 .skip)
abbrev c111r10 : List GOp := [⟨none, (some 17), .mv 17 (.t 3 false)⟩,
  ⟨none, (some 18), .call (some 18) 125 [(.t 17 false)]⟩,
  ⟨none, (some 19), .mv 19 (.t 18 true)⟩,
  ⟨(some (19, true)), (some 20), .mv 20 (.t 3 false)⟩,
  ⟨(some (19, true)), (some 21), .sidx 21 (.t 20 false) (.c (.int .i64 0))⟩,
  ⟨(some (19, true)), (some 22), .bin 22 .eql false (.t 21 false) (.c (.int .u8 47))⟩,
  ⟨(some (19, true)), (some 23), .mv 23 (.t 22 true)⟩,
  ⟨(some (23, false)), (some 24), .mv 24 (.t 3 false)⟩,
  ⟨(some (23, false)), (some 25), .sidx 25 (.t 24 false) (.c (.int .i64 0))⟩,
  ⟨(some (23, false)), (some 26), .bin 26 .eql false (.t 25 false) (.c (.int .u8 46))⟩,
  ⟨(some (19, true)), (some 27), .pick 27 (.t 23 false) (.c (.bool true)) (.t 26 false)⟩,
  ⟨none, (some 28), .pick 28 (.t 19 false) (.t 27 false) (.c (.bool false))⟩,
  ⟨none, (some 2), .mv 2 (.t 28 true)⟩]
abbrev c111s11 : ACode := (.seq (.reg c111r10 [2]) .ret)
abbrev c111s12 : ACode := (.seq (.seq (.reg c111r6 [16]) c111s9) c111s11)
abbrev c111s13 : ACode := (.seq (.reg c111r5 [3]) c111s12)
abbrev c111s14 : ACode := (.seq (.seq (.reg c111r1 [7]) c111s4) c111s13)
abbrev c111 : ACode := (.seq (.reg c111r0 [1, 2]) c111s14)
def a111 : AFn := ⟨[1], [0, 1, 2, 3, 7, 16], [9, 12, 18, 22, 28], [], [(8, 1), (4, 1)], [(8, 0), (4, 1)], [], [], c111, [.tmp 2]⟩
theorem is111 : IsFn Tryz.prog 111 1 a111 := isFn_of mix Tryz.func111 (by kernel_rfl) (by kernel_rfl) (by kernel_rfl) (by kernel_rfl) (by kernel_rfl)
theorem sound111 {args : List AV} {r : AV} (hl : args.length = 1) (h : awp Tryz.prog c111 (unw Tryz.prog [] (Ends [.tmp 2] r)) (initSt args)) : Sound Tryz.prog 111 args r := sound_of is111 hl h
theorem total111 {args : List AV} {Φ : AV → Prop} (hl : args.length = 1) (h : awp Tryz.prog c111 (unw Tryz.prog [] (EndsP [.tmp 2] Φ)) (initSt args)) : Total Tryz.prog 111 args Φ := total_of is111 hl h

/-! longshore/longshoreref15.Join -/
abbrev c112r0 : List GOp := [⟨none, (some 2), .mv 2 (.c (.str []))⟩]
abbrev c112r1 : List GOp := [⟨none, (some 3), .mv 3 (.c (.str []))⟩]
abbrev c112r2 : List GOp := [⟨none, (some 4), .mv 4 (.c (.int .i64 0))⟩]
abbrev c112r3 : List GOp := [⟨none, (some 6), .mv 6 (.t 4 false)⟩,
  ⟨none, (some 7), .mv 7 (.t 0 false)⟩,
  ⟨none, (some 8), .len 8 false (.t 7 false)⟩,
  ⟨none, (some 9), .bin 9 .lss false (.t 6 false) (.t 8 false)⟩]
abbrev c112s4 : ACode := (.cond (.t 9 false) .skip (.exit 0))
abbrev c112r5 : List GOp := [⟨none, (some 12), .mv 12 (.t 4 false)⟩,
  ⟨none, (some 13), .bin 13 .gtr false (.t 12 false) (.c (.int .i64 0))⟩]
abbrev c112r6 : List GOp := [⟨none, (some 14), .mv 14 (.t 3 false)⟩,
  ⟨none, (some 15), .bin 15 .add false (.t 14 false) (.c (.str [32]))⟩,
  ⟨none, (some 3), .mv 3 (.t 15 true)⟩]
abbrev c112s7 : ACode := (.cond (.t 13 false) (.reg c112r6 [3]) .skip)
abbrev c112r8 : List GOp := [⟨none, (some 16), .mv 16 (.t 0 false)⟩,
  ⟨none, (some 17), .mv 17 (.t 4 false)⟩,
  ⟨none, (some 18), .idx 18 (.t 16 false) (.t 17 false) 1⟩,
  ⟨none, (some 19), .vload 19 18 none⟩,
  ⟨none, (some 20), .call (some 20) 126 [(.t 19 false)]⟩]
abbrev c112r9 : List GOp := [⟨none, (some 21), .mv 21 (.t 3 false)⟩,
  ⟨none, (some 22), .mv 22 (.t 0 false)⟩,
  ⟨none, (some 23), .mv 23 (.t 4 false)⟩,
  ⟨none, (some 24), .idx 24 (.t 22 false) (.t 23 false) 1⟩,
  ⟨none, (some 25), .vload 25 24 none⟩,
  ⟨none, (some 26), .bin 26 .add false (.t 21 false) (.t 25 false)⟩,
  ⟨none, (some 3), .mv 3 (.t 26 true)⟩]
abbrev c112s10 : ACode := (.seq (.reg c112r9 [3]) (.exit 1))
abbrev c112s11 : ACode := (.cond (.t 20 false) c112s10 .skip)
abbrev c112r12 : List GOp := [⟨none, (some 27), .mv 27 (.t 3 false)⟩,
  ⟨none, (some 28), .bin 28 .add false (.t 27 false) (.c (.str [39]))⟩,
  ⟨none, (some 3), .mv 3 (.t 28 true)⟩]
abbrev c112r13 : List GOp := [⟨none, (some 5), .mv 5 (.c (.int .i64 0))⟩]
abbrev c112r14 : List GOp := [⟨none, (some 29), .mv 29 (.t 5 false)⟩,
  ⟨none, (some 30), .mv 30 (.t 0 false)⟩,
  ⟨none, (some 31), .mv 31 (.t 4 false)⟩,
  ⟨none, (some 32), .idx 32 (.t 30 false) (.t 31 false) 1⟩,
  ⟨none, (some 33), .vload 33 32 none⟩,
  ⟨none, (some 34), .len 34 true (.t 33 false)⟩,
  ⟨none, (some 35), .bin 35 .lss false (.t 29 false) (.t 34 false)⟩]
abbrev c112s15 : ACode := (.cond (.t 35 false) .skip (.exit 2))
abbrev c112r16 : List GOp := [⟨none, (some 38), .mv 38 (.t 0 false)⟩,
  ⟨none, (some 39), .mv 39 (.t 4 false)⟩,
  ⟨none, (some 40), .idx 40 (.t 38 false) (.t 39 false) 1⟩,
  ⟨none, (some 41), .vload 41 40 none⟩,
  ⟨none, (some 42), .mv 42 (.t 5 false)⟩,
  ⟨none, (some 43), .sidx 43 (.t 41 false) (.t 42 false)⟩,
  ⟨none, (some 44), .bin 44 .eql false (.t 43 false) (.c (.int .u8 39))⟩]
abbrev c112r17 : List GOp := [⟨none, (some 45), .mv 45 (.t 3 false)⟩,
  ⟨none, (some 46), .bin 46 .add false (.t 45 false) (.c (.str [39, 92, 39]))⟩,
  ⟨none, (some 3), .mv 3 (.t 46 true)⟩]
abbrev c112s18 : ACode := (.cond (.t 44 false) (.reg c112r17 [3]) .skip)
abbrev c112r19 : List GOp := [⟨none, (some 47), .mv 47 (.t 3 false)⟩,
  ⟨none, (some 48), .mv 48 (.t 0 false)⟩,
  ⟨none, (some 49), .mv 49 (.t 4 false)⟩,
  ⟨none, (some 50), .idx 50 (.t 48 false) (.t 49 false) 1⟩,
  ⟨none, (some 51), .vload 51 50 none⟩,
  ⟨none, (some 52), .mv 52 (.t 5 false)⟩,
  ⟨none, (some 53), .mv 53 (.t 5 false)⟩,
  ⟨none, (some 54), .bin 54 .add false (.t 53 false) (.c (.int .i64 1))⟩,
  ⟨none, (some 55), .sslice 55 (.t 51 false) (some (.t 52 false)) (some (.t 54 false))⟩,
  ⟨none, (some 56), .bin 56 .add false (.t 47 false) (.t 55 false)⟩,
  ⟨none, (some 3), .mv 3 (.t 56 true)⟩]
abbrev c112s20 : ACode := (.seq (.seq (.reg c112r16 [44]) c112s18) (.reg c112r19 [3]))
abbrev c112r21 : List GOp := [⟨none, (some 36), .mv 36 (.t 5 false)⟩,
  ⟨none, (some 37), .bin 37 .add false (.t 36 false) (.c (.int .i64 1))⟩,
  ⟨none, (some 5), .mv 5 (.t 37 true)⟩]
abbrev c112s22 : ACode := (.seq (.block 3 c112s20) (.reg c112r21 [5]))
abbrev c112s23 : ACode := (.seq (.seq (.reg c112r14 [35]) c112s15) c112s22)
abbrev c112s24 : ACode := (.loop c112s23)
abbrev c112s25 : ACode := (.block 2 c112s24)
abbrev c112r26 : List GOp := [⟨none, (some 57), .mv 57 (.t 3 false)⟩,
  ⟨none, (some 58), .bin 58 .add false (.t 57 false) (.c (.str [39]))⟩,
  ⟨none, (some 3), .mv 3 (.t 58 true)⟩]
abbrev c112s27 : ACode := (.seq (.seq (.reg c112r13 [5]) c112s25) (.reg c112r26 [3]))
abbrev c112s28 : ACode := (.seq (.reg c112r12 [3]) c112s27)
abbrev c112s29 : ACode := (.seq (.seq (.reg c112r8 [20]) c112s11) c112s28)
abbrev c112s30 : ACode := (.seq (.seq (.reg c112r5 [13]) c112s7) c112s29)
abbrev c112r31 : List GOp := [⟨none, (some 10), .mv 10 (.t 4 false)⟩,
  ⟨none, (some 11), .bin 11 .add false (.t 10 false) (.c (.int .i64 1))⟩,
  ⟨none, (some 4), .mv 4 (.t 11 true)⟩]
abbrev c112s32 : ACode := (.seq (.block 1 c112s30) (.reg c112r31 [4]))
abbrev c112s33 : ACode := (.seq (.seq (.reg c112r3 [9]) c112s4) c112s32)
abbrev c112s34 : ACode := (.loop c112s33)
abbrev c112s35 : ACode := (.block 0 c112s34)
abbrev c112r36 : List GOp := [⟨none, (some 59), .mv 59 (.t 3 false)⟩,
  ⟨none, (some 2), .mv 2 (.t 59 true)⟩]
abbrev c112s37 : ACode := (.seq (.reg c112r36 [2]) .ret)
abbrev c112s38 : ACode := (.seq (.seq (.reg c112r2 [4]) c112s35) c112s37)
abbrev c112s39 : ACode := (.seq (.reg c112r1 [3]) c112s38)
abbrev c112 : ACode := (.seq (.reg c112r0 [2]) c112s39)
def a112 : AFn := ⟨[], [0, 2, 3, 4, 5, 9, 13, 20, 35, 44], [11, 15, 26, 28, 37, 46, 56, 58, 59], [], [], [], [], [], c112, [.tmp 2]⟩
theorem is112 : IsFn Tryz.prog 112 1 a112 := isFn_of mix Tryz.func112 (by kernel_rfl) (by kernel_rfl) (by kernel_rfl) (by kernel_rfl) (by kernel_rfl)
theorem sound112 {args : List AV} {r : AV} (hl : args.length = 1) (h : awp Tryz.prog c112 (unw Tryz.prog [] (Ends [.tmp 2] r)) (initSt args)) : Sound Tryz.prog 112 args r := sound_of is112 hl h
theorem total112 {args : List AV} {Φ : AV → Prop} (hl : args.length = 1) (h : awp Tryz.prog c112 (unw Tryz.prog [] (EndsP [.tmp 2] Φ)) (initSt args)) : Total Tryz.prog 112 args Φ := total_of is112 hl h

/-! longshore/longshoreref03.Parse -/
abbrev c113r0 : List GOp := [⟨none, (some 2), .mv 2 (.c (.int .i64 0))⟩,
  ⟨none, (some 3), .mv 3 (.c (.int .i64 0))⟩]
abbrev c113r1 : List GOp := [⟨none, (some 4), .balloc 4 (.agg [(.int .i64 0), (.int .i64 0), (.int .i64 0), (.int .i64 0)])⟩]
abbrev c113r2 : List GOp := [⟨none, (some 5), .mv 5 (.c (.bool false))⟩]
abbrev c113r3 : List GOp := [⟨none, (some 6), .mv 6 (.c (.int .i64 (-1)))⟩]
abbrev c113r4 : List GOp := [⟨none, (some 15), .mv 15 (.t 0 false)⟩,
  ⟨none, (some 16), .len 16 true (.t 15 false)⟩,
  ⟨none, (some 17), .bin 17 .eql false (.t 16 false) (.c (.int .i64 0))⟩]
abbrev c113r5 : List GOp := [⟨none, (some 2), .mv 2 (.c (.int .i64 0))⟩,
  ⟨none, (some 3), .mv 3 (.c (.int .i64 3))⟩]
abbrev c113s6 : ACode := (.seq (.reg c113r5 [2, 3]) .ret)
abbrev c113s7 : ACode := (.cond (.t 17 false) c113s6 .skip)
abbrev c113r8 : List GOp := [⟨none, (some 18), .mv 18 (.t 0 false)⟩,
  ⟨none, (some 19), .len 19 true (.t 18 false)⟩,
  ⟨none, (some 20), .bin 20 .gtr false (.t 19 false) (.c (.int .i64 0))⟩]
abbrev c113s9 : ACode := (.cond (.t 20 false) .skip (.exit 0))
abbrev c113r10 : List GOp := [⟨none, (some 22), .mv 22 (.t 0 false)⟩,
  ⟨none, (some 23), .call (some 23) 127 [(.t 22 false)]⟩,
  ⟨none, (some 21), .mv 21 (.t 23 true)⟩,
  ⟨none, (some 24), .extract 24 (.t 21 false) 0⟩,
  ⟨none, (some 25), .extract 25 (.t 21 false) 1⟩,
  ⟨none, (some 26), .extract 26 (.t 21 false) 2⟩,
  ⟨none, (some 27), .extract 27 (.t 21 false) 3⟩,
  ⟨none, (some 7), .mv 7 (.t 24 true)⟩,
  ⟨none, (some 8), .mv 8 (.t 25 true)⟩,
  ⟨none, (some 9), .mv 9 (.t 26 true)⟩,
  ⟨none, (some 10), .mv 10 (.t 27 true)⟩]
abbrev c113r11 : List GOp := [⟨none, (some 28), .mv 28 (.t 10 false)⟩,
  ⟨none, (some 29), .un 29 .not (.t 28 false)⟩,
  ⟨none, (some 30), .mv 30 (.t 29 true)⟩,
  ⟨(some (30, false)), (some 31), .mv 31 (.t 8 false)⟩,
  ⟨(some (30, false)), (some 32), .mv 32 (.t 6 false)⟩,
  ⟨(some (30, false)), (some 33), .bin 33 .leq false (.t 31 false) (.t 32 false)⟩,
  ⟨none, (some 34), .pick 34 (.t 30 false) (.c (.bool true)) (.t 33 false)⟩,
  ⟨none, (some 35), .mv 35 (.t 34 true)⟩,
  ⟨(some (35, false)), (some 36), .mv 36 (.t 7 false)⟩,
  ⟨(some (35, false)), (some 37), .bin 37 .eql false (.t 36 false) (.c (.str [48]))⟩,
  ⟨(some (35, false)), (some 38), .mv 38 (.t 37 true)⟩,
  ⟨(some (38, true)), (some 39), .mv 39 (.t 6 false)⟩,
  ⟨(some (38, true)), (some 40), .bin 40 .geq false (.t 39 false) (.c (.int .i64 0))⟩,
  ⟨(some (38, true)), (some 41), .mv 41 (.t 40 true)⟩,
  ⟨(some (41, false)), (some 42), .mv 42 (.t 9 false)⟩,
  ⟨(some (41, false)), (some 43), .len 43 true (.t 42 false)⟩,
  ⟨(some (41, false)), (some 44), .bin 44 .gtr false (.t 43 false) (.c (.int .i64 0))⟩,
  ⟨(some (38, true)), (some 45), .pick 45 (.t 41 false) (.c (.bool true)) (.t 44 false)⟩,
  ⟨(some (35, false)), (some 46), .pick 46 (.t 38 false) (.t 45 false) (.c (.bool false))⟩,
  ⟨none, (some 47), .pick 47 (.t 35 false) (.c (.bool true)) (.t 46 false)⟩]
abbrev c113r12 : List GOp := [⟨none, (some 2), .mv 2 (.c (.int .i64 0))⟩,
  ⟨none, (some 3), .mv 3 (.c (.int .i64 3))⟩]
abbrev c113s13 : ACode := (.seq (.reg c113r12 [2, 3]) .ret)
abbrev c113s14 : ACode := (.cond (.t 47 false) c113s13 .skip)
abbrev c113r15 : List GOp := [⟨none, (some 48), .mv 48 (.t 7 false)⟩,
  ⟨none, (some 49), .call (some 49) 102 [(.t 48 false)]⟩,
  ⟨none, (some 11), .mv 11 (.t 49 true)⟩]
abbrev c113r16 : List GOp := [⟨none, (some 50), .mv 50 (.t 11 false)⟩,
  ⟨none, (some 51), .bin 51 .gtr false (.t 50 false) (.c (.int .i64 1099511627776))⟩]
abbrev c113r17 : List GOp := [⟨none, (some 5), .mv 5 (.c (.bool true))⟩]
abbrev c113r18 : List GOp := [⟨none, (some 11), .mv 11 (.c (.int .i64 0))⟩]
abbrev c113s19 : ACode := (.seq (.reg c113r17 [5]) (.reg c113r18 [11]))
abbrev c113s20 : ACode := (.cond (.t 51 false) c113s19 .skip)
abbrev c113r21 : List GOp := [⟨none, (some 52), .mv 52 (.t 8 false)⟩,
  ⟨none, (some 53), .mv 53 (.t 11 false)⟩,
  ⟨none, (some 54), .bidx 54 4 none (.t 52 false) 4 1⟩,
  ⟨none, none, .bstore 4 (some 54) (.t 53 true) 1⟩]
abbrev c113r22 : List GOp := [⟨none, (some 55), .mv 55 (.t 8 false)⟩,
  ⟨none, (some 6), .mv 6 (.t 55 true)⟩]
abbrev c113r23 : List GOp := [⟨none, (some 56), .mv 56 (.t 9 false)⟩,
  ⟨none, (some 0), .mv 0 (.t 56 true)⟩]
abbrev c113s24 : ACode := (.seq (.reg c113r22 [6]) (.reg c113r23 [0]))
abbrev c113s25 : ACode := (.seq (.reg c113r21 [4]) c113s24)
abbrev c113s26 : ACode := (.seq (.seq (.reg c113r16 [51]) c113s20) c113s25)
abbrev c113s27 : ACode := (.seq (.reg c113r15 [11]) c113s26)
abbrev c113s28 : ACode := (.seq (.seq (.reg c113r11 [47]) c113s14) c113s27)
abbrev c113s29 : ACode := (.seq (.reg c113r10 [7, 8, 9, 10]) c113s28)
abbrev c113s30 : ACode := (.block 1 c113s29)
abbrev c113s31 : ACode := (.seq (.seq (.reg c113r8 [20]) c113s9) c113s30)
abbrev c113s32 : ACode := (.loop c113s31)
abbrev c113r33 : List GOp := [⟨none, (some 57), .call (some 57) 128 []⟩,
  ⟨none, (some 12), .balloc 12 (.agg [(.int .i64 0), (.int .i64 0), (.int .i64 0), (.int .i64 0)])⟩,
  ⟨none, none, .bstore 12 none (.t 57 true) 4⟩]
abbrev c113r34 : List GOp := [⟨none, (some 13), .mv 13 (.c (.int .i64 0))⟩]
abbrev c113r35 : List GOp := [⟨none, (some 14), .mv 14 (.c (.int .i64 0))⟩]
abbrev c113r36 : List GOp := [⟨none, (some 58), .mv 58 (.t 14 false)⟩,
  ⟨none, (some 59), .bin 59 .lss false (.t 58 false) (.c (.int .i64 4))⟩]
abbrev c113s37 : ACode := (.cond (.t 59 false) .skip (.exit 2))
abbrev c113r38 : List GOp := [⟨none, (some 62), .mv 62 (.t 14 false)⟩,
  ⟨none, (some 63), .bidx 63 4 none (.t 62 false) 4 1⟩,
  ⟨none, (some 64), .bload 64 4 (some 63) none false⟩,
  ⟨none, (some 65), .mv 65 (.t 14 false)⟩,
  ⟨none, (some 66), .bidx 66 12 none (.t 65 false) 4 1⟩,
  ⟨none, (some 67), .bload 67 12 (some 66) none false⟩,
  ⟨none, (some 68), .bin 68 .quo false (.c (.int .i64 1099511627776)) (.t 67 false)⟩,
  ⟨none, (some 69), .bin 69 .gtr false (.t 64 false) (.t 68 false)⟩]
abbrev c113r39 : List GOp := [⟨none, (some 5), .mv 5 (.c (.bool true))⟩]
abbrev c113s40 : ACode := (.cond (.t 69 false) (.reg c113r39 [5]) .skip)
abbrev c113r41 : List GOp := [⟨none, (some 70), .mv 70 (.t 5 false)⟩,
  ⟨none, (some 71), .un 71 .not (.t 70 false)⟩]
abbrev c113r42 : List GOp := [⟨none, (some 72), .mv 72 (.t 13 false)⟩,
  ⟨none, (some 73), .mv 73 (.t 14 false)⟩,
  ⟨none, (some 74), .bidx 74 4 none (.t 73 false) 4 1⟩,
  ⟨none, (some 75), .bload 75 4 (some 74) none false⟩,
  ⟨none, (some 76), .mv 76 (.t 14 false)⟩,
  ⟨none, (some 77), .bidx 77 12 none (.t 76 false) 4 1⟩,
  ⟨none, (some 78), .bload 78 12 (some 77) none false⟩,
  ⟨none, (some 79), .bin 79 .mul false (.t 75 false) (.t 78 false)⟩,
  ⟨none, (some 80), .bin 80 .add false (.t 72 false) (.t 79 false)⟩,
  ⟨none, (some 13), .mv 13 (.t 80 true)⟩]
abbrev c113s43 : ACode := (.cond (.t 71 false) (.reg c113r42 [13]) .skip)
abbrev c113s44 : ACode := (.seq (.reg c113r41 [71]) c113s43)
abbrev c113s45 : ACode := (.seq (.seq (.reg c113r38 [69]) c113s40) c113s44)
abbrev c113r46 : List GOp := [⟨none, (some 60), .mv 60 (.t 14 false)⟩,
  ⟨none, (some 61), .bin 61 .add false (.t 60 false) (.c (.int .i64 1))⟩,
  ⟨none, (some 14), .mv 14 (.t 61 true)⟩]
abbrev c113s47 : ACode := (.seq (.block 3 c113s45) (.reg c113r46 [14]))
abbrev c113s48 : ACode := (.seq (.seq (.reg c113r36 [59]) c113s37) c113s47)
abbrev c113s49 : ACode := (.loop c113s48)
abbrev c113s50 : ACode := (.block 2 c113s49)
abbrev c113r51 : List GOp := [⟨none, (some 81), .mv 81 (.t 5 false)⟩,
  ⟨none, (some 82), .mv 82 (.t 81 true)⟩,
  ⟨(some (82, false)), (some 83), .mv 83 (.t 13 false)⟩,
  ⟨(some (82, false)), (some 84), .bin 84 .gtr false (.t 83 false) (.c (.int .i64 1099511627776))⟩,
  ⟨none, (some 85), .pick 85 (.t 82 false) (.c (.bool true)) (.t 84 false)⟩]
abbrev c113r52 : List GOp := [⟨none, (some 2), .mv 2 (.c (.int .i64 0))⟩,
  ⟨none, (some 3), .mv 3 (.c (.int .i64 9))⟩]
abbrev c113s53 : ACode := (.seq (.reg c113r52 [2, 3]) .ret)
abbrev c113s54 : ACode := (.cond (.t 85 false) c113s53 .skip)
abbrev c113r55 : List GOp := [⟨none, (some 86), .mv 86 (.t 13 false)⟩,
  ⟨none, (some 2), .mv 2 (.t 86 true)⟩,
  ⟨none, (some 3), .mv 3 (.c (.int .i64 0))⟩]
abbrev c113s56 : ACode := (.seq (.reg c113r55 [2, 3]) .ret)
abbrev c113s57 : ACode := (.seq (.seq (.reg c113r51 [85]) c113s54) c113s56)
abbrev c113s58 : ACode := (.seq (.seq (.reg c113r35 [14]) c113s50) c113s57)
abbrev c113s59 : ACode := (.seq (.reg c113r34 [13]) c113s58)
abbrev c113s60 : ACode := (.seq (.reg c113r33 [12]) c113s59)
abbrev c113s61 : ACode := (.seq (.block 0 c113s32) c113s60)
abbrev c113s62 : ACode := (.seq (.seq (.reg c113r4 [17]) c113s7) c113s61)
abbrev c113s63 : ACode := (.seq (.reg c113r3 [6]) c113s62)
abbrev c113s64 : ACode := (.seq (.reg c113r2 [5]) c113s63)
abbrev c113s65 : ACode := (.seq (.reg c113r1 [4]) c113s64)
abbrev c113 : ACode := (.seq (.reg c113r0 [2, 3]) c113s65)
def a113 : AFn := ⟨[4, 12], [0, 2, 3, 4, 5, 6, 7, 8, 9, 10, 11, 12, 13, 14, 17, 20, 47, 51, 59, 69, 71, 85], [23, 24, 25, 26, 27, 29, 34, 37, 40, 49, 53, 55, 56, 57, 61, 80, 81, 86], [], [(77, 12), (74, 4), (66, 12), (63, 4), (54, 4)], [], [], [], c113, [.tmp 2, .tmp 3]⟩
theorem is113 : IsFn Tryz.prog 113 1 a113 := isFn_of mix Tryz.func113 (by kernel_rfl) (by kernel_rfl) (by kernel_rfl) (by kernel_rfl) (by kernel_rfl)
theorem sound113 {args : List AV} {r : AV} (hl : args.length = 1) (h : awp Tryz.prog c113 (unw Tryz.prog [] (Ends [.tmp 2, .tmp 3] r)) (initSt args)) : Sound Tryz.prog 113 args r := sound_of is113 hl h
theorem total113 {args : List AV} {Φ : AV → Prop} (hl : args.length = 1) (h : awp Tryz.prog c113 (unw Tryz.prog [] (EndsP [.tmp 2, .tmp 3] Φ)) (initSt args)) : Total Tryz.prog 113 args Φ := total_of is113 hl h

/-! longshore/longshoreref03.Text -/
abbrev c114r0 : List GOp := [⟨none, (some 2), .mv 2 (.c (.str []))⟩]
abbrev c114r1 : List GOp := [⟨none, (some 7), .mv 7 (.t 0 false)⟩,
  ⟨none, (some 8), .bin 8 .lss false (.t 7 false) (.c (.int .i64 0))⟩,
  ⟨none, (some 9), .mv 9 (.t 8 true)⟩,
  ⟨(some (9, false)), (some 10), .mv 10 (.t 0 false)⟩,
  ⟨(some (9, false)), (some 11), .bin 11 .gtr false (.t 10 false) (.c (.int .i64 1099511627776))⟩,
  ⟨none, (some 12), .pick 12 (.t 9 false) (.c (.bool true)) (.t 11 false)⟩]
abbrev c114r2 : List GOp := [⟨none, (some 2), .mv 2 (.c (.str []))⟩]
abbrev c114s3 : ACode := (.seq (.reg c114r2 [2]) .ret)
abbrev c114s4 : ACode := (.cond (.t 12 false) c114s3 .skip)
abbrev c114r5 : List GOp := [⟨none, (some 13), .mv 13 (.t 0 false)⟩,
  ⟨none, (some 14), .bin 14 .eql false (.t 13 false) (.c (.int .i64 0))⟩]
abbrev c114r6 : List GOp := [⟨none, (some 2), .mv 2 (.c (.str [48, 115]))⟩]
abbrev c114s7 : ACode := (.seq (.reg c114r6 [2]) .ret)
abbrev c114s8 : ACode := (.cond (.t 14 false) c114s7 .skip)
abbrev c114r9 : List GOp := [⟨none, (some 3), .mv 3 (.c (.str []))⟩]
abbrev c114r10 : List GOp := [⟨none, (some 15), .call (some 15) 128 []⟩,
  ⟨none, (some 4), .balloc 4 (.agg [(.int .i64 0), (.int .i64 0), (.int .i64 0), (.int .i64 0)])⟩,
  ⟨none, none, .bstore 4 none (.t 15 true) 4⟩]
abbrev c114r11 : List GOp := [⟨none, (some 16), .call (some 16) 129 []⟩,
  ⟨none, (some 5), .balloc 5 (.agg [(.str []), (.str []), (.str []), (.str [])])⟩,
  ⟨none, none, .bstore 5 none (.t 16 true) 4⟩]
abbrev c114r12 : List GOp := [⟨none, (some 6), .mv 6 (.c (.int .i64 0))⟩]
abbrev c114r13 : List GOp := [⟨none, (some 17), .mv 17 (.t 6 false)⟩,
  ⟨none, (some 18), .bin 18 .lss false (.t 17 false) (.c (.int .i64 4))⟩]
abbrev c114s14 : ACode := (.cond (.t 18 false) .skip (.exit 0))
abbrev c114r15 : List GOp := [⟨none, (some 21), .mv 21 (.t 0 false)⟩,
  ⟨none, (some 22), .mv 22 (.t 6 false)⟩,
  ⟨none, (some 23), .bidx 23 4 none (.t 22 false) 4 1⟩,
  ⟨none, (some 24), .bload 24 4 (some 23) none false⟩,
  ⟨none, (some 25), .bin 25 .quo false (.t 21 false) (.t 24 false)⟩,
  ⟨none, (some 26), .bin 26 .gtr false (.t 25 false) (.c (.int .i64 0))⟩]
abbrev c114r16 : List GOp := [⟨none, (some 27), .mv 27 (.t 3 false)⟩,
  ⟨none, (some 28), .mv 28 (.t 0 false)⟩,
  ⟨none, (some 29), .mv 29 (.t 6 false)⟩,
  ⟨none, (some 30), .bidx 30 4 none (.t 29 false) 4 1⟩,
  ⟨none, (some 31), .bload 31 4 (some 30) none false⟩,
  ⟨none, (some 32), .bin 32 .quo false (.t 28 false) (.t 31 false)⟩,
  ⟨none, (some 33), .call (some 33) 89 [(.t 32 false)]⟩,
  ⟨none, (some 34), .bin 34 .add false (.t 27 false) (.t 33 false)⟩,
  ⟨none, (some 35), .mv 35 (.t 6 false)⟩,
  ⟨none, (some 36), .bidx 36 5 none (.t 35 false) 4 1⟩,
  ⟨none, (some 37), .bload 37 5 (some 36) none false⟩,
  ⟨none, (some 38), .bin 38 .add false (.t 34 false) (.t 37 false)⟩,
  ⟨none, (some 3), .mv 3 (.t 38 true)⟩]
abbrev c114s17 : ACode := (.cond (.t 26 false) (.reg c114r16 [3]) .skip)
abbrev c114r18 : List GOp := [⟨none, (some 39), .mv 39 (.t 0 false)⟩,
  ⟨none, (some 40), .mv 40 (.t 6 false)⟩,
  ⟨none, (some 41), .bidx 41 4 none (.t 40 false) 4 1⟩,
  ⟨none, (some 42), .bload 42 4 (some 41) none false⟩,
  ⟨none, (some 43), .bin 43 .rem false (.t 39 false) (.t 42 false)⟩,
  ⟨none, (some 0), .mv 0 (.t 43 true)⟩]
abbrev c114s19 : ACode := (.seq (.seq (.reg c114r15 [26]) c114s17) (.reg c114r18 [0]))
abbrev c114r20 : List GOp := [⟨none, (some 19), .mv 19 (.t 6 false)⟩,
  ⟨none, (some 20), .bin 20 .add false (.t 19 false) (.c (.int .i64 1))⟩,
  ⟨none, (some 6), .mv 6 (.t 20 true)⟩]
abbrev c114s21 : ACode := (.seq (.block 1 c114s19) (.reg c114r20 [6]))
abbrev c114s22 : ACode := (.seq (.seq (.reg c114r13 [18]) c114s14) c114s21)
abbrev c114s23 : ACode := (.loop c114s22)
abbrev c114s24 : ACode := (.block 0 c114s23)
abbrev c114r25 : List GOp := [⟨none, (some 44), .mv 44 (.t 3 false)⟩,
  ⟨none, (some 2), .mv 2 (.t 44 true)⟩]
abbrev c114s26 : ACode := (.seq (.reg c114r25 [2]) .ret)
abbrev c114s27 : ACode := (.seq (.seq (.reg c114r12 [6]) c114s24) c114s26)
abbrev c114s28 : ACode := (.seq (.reg c114r11 [5]) c114s27)
abbrev c114s29 : ACode := (.seq (.reg c114r10 [4]) c114s28)
abbrev c114s30 : ACode := (.seq (.reg c114r9 [3]) c114s29)
abbrev c114s31 : ACode := (.seq (.seq (.reg c114r5 [14]) c114s8) c114s30)
abbrev c114s32 : ACode := (.seq (.seq (.reg c114r1 [12]) c114s4) c114s31)
abbrev c114 : ACode := (.seq (.reg c114r0 [2]) c114s32)
def a114 : AFn := ⟨[4, 5], [0, 2, 3, 4, 5, 6, 12, 14, 18, 26], [8, 15, 16, 20, 38, 43, 44], [], [(41, 4), (36, 5), (30, 4), (23, 4)], [], [], [], c114, [.tmp 2]⟩
theorem is114 : IsFn Tryz.prog 114 1 a114 := isFn_of mix Tryz.func114 (by kernel_rfl) (by kernel_rfl) (by kernel_rfl) (by kernel_rfl) (by kernel_rfl)
theorem sound114 {args : List AV} {r : AV} (hl : args.length = 1) (h : awp Tryz.prog c114 (unw Tryz.prog [] (Ends [.tmp 2] r)) (initSt args)) : Sound Tryz.prog 114 args r := sound_of is114 hl h
theorem total114 {args : List AV} {Φ : AV → Prop} (hl : args.length = 1) (h : awp Tryz.prog c114 (unw Tryz.prog [] (EndsP [.tmp 2] Φ)) (initSt args)) : Total Tryz.prog 114 args Φ := total_of is114 hl h

/-! longshore/longshoreref01.digits -/
abbrev c115r0 : List GOp := [⟨none, (some 2), .mv 2 (.c (.str []))⟩]
abbrev c115r1 : List GOp := [⟨none, (some 3), .mv 3 (.c (.str []))⟩]
abbrev c115r2 : List GOp := [⟨none, (some 4), .mv 4 (.t 0 false)⟩,
  ⟨none, (some 5), .bin 5 .geq false (.t 4 false) (.c (.int .u64 10))⟩]
abbrev c115s3 : ACode := (.cond (.t 5 false) .skip (.exit 0))
abbrev c115r4 : List GOp := [⟨none, (some 6), .mv 6 (.t 0 false)⟩,
  ⟨none, (some 7), .bin 7 .rem false (.t 6 false) (.c (.int .u64 10))⟩,
  ⟨none, (some 8), .bin 8 .add false (.c (.int .u64 48)) (.t 7 false)⟩,
  ⟨none, (some 9), .conv 9 (.int .u8) (.t 8 false)⟩,
  ⟨none, (some 10), .mkslice 10 1 [(.t 9 false)]⟩,
  ⟨none, (some 11), .conv 11 .b2s (.t 10 false)⟩,
  ⟨none, (some 12), .mv 12 (.t 3 false)⟩,
  ⟨none, (some 13), .bin 13 .add false (.t 11 false) (.t 12 false)⟩,
  ⟨none, (some 3), .mv 3 (.t 13 true)⟩]
abbrev c115r5 : List GOp := [⟨none, (some 14), .mv 14 (.t 0 false)⟩,
  ⟨none, (some 15), .bin 15 .quo false (.t 14 false) (.c (.int .u64 10))⟩,
  ⟨none, (some 0), .mv 0 (.t 15 true)⟩]
abbrev c115s6 : ACode := (.seq (.reg c115r4 [3]) (.reg c115r5 [0]))
abbrev c115s7 : ACode := (.block 1 c115s6)
abbrev c115s8 : ACode := (.seq (.seq (.reg c115r2 [5]) c115s3) c115s7)
abbrev c115s9 : ACode := (.loop c115s8)
abbrev c115r10 : List GOp := [⟨none, (some 16), .mv 16 (.t 0 false)⟩,
  ⟨none, (some 17), .bin 17 .add false (.c (.int .u64 48)) (.t 16 false)⟩,
  ⟨none, (some 18), .conv 18 (.int .u8) (.t 17 false)⟩,
  ⟨none, (some 19), .mkslice 19 1 [(.t 18 false)]⟩,
  ⟨none, (some 20), .conv 20 .b2s (.t 19 false)⟩,
  ⟨none, (some 21), .mv 21 (.t 3 false)⟩,
  ⟨none, (some 22), .bin 22 .add false (.t 20 false) (.t 21 false)⟩,
  ⟨none, (some 2), .mv 2 (.t 22 true)⟩]
abbrev c115s11 : ACode := (.seq (.reg c115r10 [2]) .ret)
abbrev c115s12 : ACode := (.seq (.block 0 c115s9) c115s11)
abbrev c115s13 : ACode := (.seq (.reg c115r1 [3]) c115s12)
abbrev c115 : ACode := (.seq (.reg c115r0 [2]) c115s13)
def a115 : AFn := ⟨[], [0, 2, 3, 5], [13, 15, 22], [], [], [], [], [], c115, [.tmp 2]⟩
theorem is115 : IsFn Tryz.prog 115 1 a115 := isFn_of mix Tryz.func115 (by kernel_rfl) (by kernel_rfl) (by kernel_rfl) (by kernel_rfl) (by kernel_rfl)
theorem sound115 {args : List AV} {r : AV} (hl : args.length = 1) (h : awp Tryz.prog c115 (unw Tryz.prog [] (Ends [.tmp 2] r)) (initSt args)) : Sound Tryz.prog 115 args r := sound_of is115 hl h
theorem total115 {args : List AV} {Φ : AV → Prop} (hl : args.length = 1) (h : awp Tryz.prog c115 (unw Tryz.prog [] (EndsP [.tmp 2] Φ)) (initSt args)) : Total Tryz.prog 115 args Φ := total_of is115 hl h

/-! longshore/longshoreref16.cut -/
abbrev c122r0 : List GOp := [⟨none, (some 4), .mv 4 (.c (.oslice 1 []))⟩]
abbrev c122r1 : List GOp := [⟨none, (some 8), .mkslice 8 1 []⟩,
  ⟨none, (some 5), .mv 5 (.t 8 true)⟩]
abbrev c122r2 : List GOp := [⟨none, (some 6), .mv 6 (.c (.int .i64 0))⟩]
abbrev c122r3 : List GOp := [⟨none, (some 7), .mv 7 (.c (.int .i64 0))⟩]
abbrev c122r4 : List GOp := [⟨none, (some 9), .mv 9 (.t 7 false)⟩,
  ⟨none, (some 10), .mv 10 (.t 0 false)⟩,
  ⟨none, (some 11), .len 11 true (.t 10 false)⟩,
  ⟨none, (some 12), .bin 12 .lss false (.t 9 false) (.t 11 false)⟩]
abbrev c122s5 : ACode := (.cond (.t 12 false) .skip (.exit 0))
abbrev c122r6 : List GOp := [⟨none, (some 15), .mv 15 (.t 0 false)⟩,
  ⟨none, (some 16), .mv 16 (.t 7 false)⟩,
  ⟨none, (some 17), .sidx 17 (.t 15 false) (.t 16 false)⟩,
  ⟨none, (some 18), .mv 18 (.t 1 false)⟩,
  ⟨none, (some 19), .bin 19 .eql false (.t 17 false) (.t 18 false)⟩]
abbrev c122r7 : List GOp := [⟨none, (some 20), .take 20 5⟩,
  ⟨none, (some 21), .mv 21 (.t 0 false)⟩,
  ⟨none, (some 22), .mv 22 (.t 6 false)⟩,
  ⟨none, (some 23), .mv 23 (.t 7 false)⟩,
  ⟨none, (some 24), .sslice 24 (.t 21 false) (some (.t 22 false)) (some (.t 23 false))⟩,
  ⟨none, (some 25), .mkslice 25 1 [(.t 24 false)]⟩,
  ⟨none, (some 26), .append 26 (.t 20 true) (.t 25 false) 1 16⟩,
  ⟨none, (some 5), .mv 5 (.t 26 true)⟩]
abbrev c122r8 : List GOp := [⟨none, (some 27), .mv 27 (.t 7 false)⟩,
  ⟨none, (some 28), .bin 28 .add false (.t 27 false) (.c (.int .i64 1))⟩,
  ⟨none, (some 6), .mv 6 (.t 28 true)⟩]
abbrev c122s9 : ACode := (.seq (.reg c122r7 [5]) (.reg c122r8 [6]))
abbrev c122s10 : ACode := (.cond (.t 19 false) c122s9 .skip)
abbrev c122s11 : ACode := (.seq (.reg c122r6 [19]) c122s10)
abbrev c122r12 : List GOp := [⟨none, (some 13), .mv 13 (.t 7 false)⟩,
  ⟨none, (some 14), .bin 14 .add false (.t 13 false) (.c (.int .i64 1))⟩,
  ⟨none, (some 7), .mv 7 (.t 14 true)⟩]
abbrev c122s13 : ACode := (.seq (.block 1 c122s11) (.reg c122r12 [7]))
abbrev c122s14 : ACode := (.seq (.seq (.reg c122r4 [12]) c122s5) c122s13)
abbrev c122s15 : ACode := (.loop c122s14)
abbrev c122s16 : ACode := (.block 0 c122s15)
abbrev c122r17 : List GOp := [⟨none, (some 29), .take 29 5⟩,
  ⟨none, (some 30), .mv 30 (.t 0 false)⟩,
  ⟨none, (some 31), .mv 31 (.t 6 false)⟩,
  ⟨none, (some 32), .sslice 32 (.t 30 false) (some (.t 31 false)) none⟩,
  ⟨none, (some 33), .mkslice 33 1 [(.t 32 false)]⟩,
  ⟨none, (some 34), .append 34 (.t 29 true) (.t 33 false) 1 16⟩,
  ⟨none, (some 4), .mv 4 (.t 34 true)⟩]
abbrev c122s18 : ACode := (.seq (.reg c122r17 [5, 4]) .ret)
abbrev c122s19 : ACode := (.seq (.seq (.reg c122r3 [7]) c122s16) c122s18)
abbrev c122s20 : ACode := (.seq (.reg c122r2 [6]) c122s19)
abbrev c122s21 : ACode := (.seq (.reg c122r1 [5]) c122s20)
abbrev c122 : ACode := (.seq (.reg c122r0 [4]) c122s21)
def a122 : AFn := ⟨[], [0, 1, 4, 5, 6, 7, 12, 19], [8, 14, 20, 26, 28, 29, 34], [20, 29], [], [], [], [], c122, [.tmp 4]⟩
theorem is122 : IsFn Tryz.prog 122 2 a122 := isFn_of mix Tryz.func122 (by kernel_rfl) (by kernel_rfl) (by kernel_rfl) (by kernel_rfl) (by kernel_rfl)
theorem sound122 {args : List AV} {r : AV} (hl : args.length = 2) (h : awp Tryz.prog c122 (unw Tryz.prog [] (Ends [.tmp 4] r)) (initSt args)) : Sound Tryz.prog 122 args r := sound_of is122 hl h
theorem total122 {args : List AV} {Φ : AV → Prop} (hl : args.length = 2) (h : awp Tryz.prog c122 (unw Tryz.prog [] (EndsP [.tmp 4] Φ)) (initSt args)) : Total Tryz.prog 122 args Φ := total_of is122 hl h

/-! longshore/longshoreref16.Right -/
abbrev c123r0 : List GOp := [⟨none, (some 1), .bbox 1 (.t 0 false)⟩,
  ⟨none, (some 2), .mv 2 (.c (.bool false))⟩]
abbrev c123r1 : List GOp := [⟨none, (some 3), .baddr 3 1 2⟩,
  ⟨none, (some 4), .bload 4 1 (some 3) none false⟩,
  ⟨none, (some 5), .bin 5 .lss false (.t 4 false) (.c (.int .i64 1))⟩,
  ⟨none, (some 6), .mv 6 (.t 5 true)⟩,
  ⟨(some (6, false)), (some 7), .baddr 7 1 2⟩,
  ⟨(some (6, false)), (some 8), .bload 8 1 (some 7) none false⟩,
  ⟨(some (6, false)), (some 9), .bin 9 .gtr false (.t 8 false) (.c (.int .i64 65535))⟩,
  ⟨none, (some 10), .pick 10 (.t 6 false) (.c (.bool true)) (.t 9 false)⟩,
  ⟨none, (some 11), .mv 11 (.t 10 true)⟩,
  ⟨(some (11, false)), (some 12), .baddr 12 1 1⟩,
  ⟨(some (11, false)), (some 13), .bload 13 1 (some 12) none false⟩,
  ⟨(some (11, false)), (some 14), .bin 14 .lss false (.t 13 false) (.c (.int .i64 0))⟩,
  ⟨none, (some 15), .pick 15 (.t 11 false) (.c (.bool true)) (.t 14 false)⟩,
  ⟨none, (some 16), .mv 16 (.t 15 true)⟩,
  ⟨(some (16, false)), (some 17), .baddr 17 1 1⟩,
  ⟨(some (16, false)), (some 18), .bload 18 1 (some 17) none false⟩,
  ⟨(some (16, false)), (some 19), .bin 19 .gtr false (.t 18 false) (.c (.int .i64 65535))⟩,
  ⟨none, (some 20), .pick 20 (.t 16 false) (.c (.bool true)) (.t 19 false)⟩]
abbrev c123r2 : List GOp := [⟨none, (some 2), .mv 2 (.c (.bool false))⟩]
abbrev c123s3 : ACode := (.seq (.reg c123r2 [2]) .ret)
abbrev c123s4 : ACode := (.cond (.t 20 false) c123s3 .skip)
abbrev c123r5 : List GOp := [⟨none, (some 21), .baddr 21 1 3⟩,
  ⟨none, (some 22), .bload 22 1 (some 21) none false⟩,
  ⟨none, (some 23), .bin 23 .neq false (.t 22 false) (.c (.str [116, 99, 112]))⟩,
  ⟨none, (some 24), .mv 24 (.t 23 true)⟩,
  ⟨(some (24, true)), (some 25), .baddr 25 1 3⟩,
  ⟨(some (24, true)), (some 26), .bload 26 1 (some 25) none false⟩,
  ⟨(some (24, true)), (some 27), .bin 27 .neq false (.t 26 false) (.c (.str [117, 100, 112]))⟩,
  ⟨none, (some 28), .pick 28 (.t 24 false) (.t 27 false) (.c (.bool false))⟩]
abbrev c123r6 : List GOp := [⟨none, (some 2), .mv 2 (.c (.bool false))⟩]
abbrev c123s7 : ACode := (.seq (.reg c123r6 [2]) .ret)
abbrev c123s8 : ACode := (.cond (.t 28 false) c123s7 .skip)
abbrev c123r9 : List GOp := [⟨none, (some 29), .baddr 29 1 0⟩,
  ⟨none, (some 30), .bload 30 1 (some 29) none false⟩,
  ⟨none, (some 31), .len 31 true (.t 30 false)⟩,
  ⟨none, (some 32), .bin 32 .eql false (.t 31 false) (.c (.int .i64 0))⟩,
  ⟨none, (some 33), .mv 33 (.t 32 true)⟩,
  ⟨(some (33, false)), (some 34), .baddr 34 1 0⟩,
  ⟨(some (33, false)), (some 35), .bload 35 1 (some 34) none false⟩,
  ⟨(some (33, false)), (some 36), .call (some 36) 131 [(.t 35 false)]⟩,
  ⟨none, (some 37), .pick 37 (.t 33 false) (.c (.bool true)) (.t 36 false)⟩,
  ⟨none, (some 2), .mv 2 (.t 37 true)⟩]
abbrev c123s10 : ACode := (.seq (.reg c123r9 [2]) .ret)
abbrev c123s11 : ACode := (.seq (.seq (.reg c123r5 [28]) c123s8) c123s10)
abbrev c123s12 : ACode := (.seq (.seq (.reg c123r1 [20]) c123s4) c123s11)
abbrev c123 : ACode := (.seq (.reg c123r0 [1, 2]) c123s12)
def a123 : AFn := ⟨[1], [0, 1, 2, 20, 28], [5, 10, 15, 23, 32, 37], [], [(34, 1), (29, 1), (25, 1), (21, 1), (17, 1), (12, 1), (7, 1), (3, 1)], [(34, 0), (29, 0), (25, 3), (21, 3), (17, 1), (12, 1), (7, 2), (3, 2)], [], [], c123, [.tmp 2]⟩
theorem is123 : IsFn Tryz.prog 123 1 a123 := isFn_of mix Tryz.func123 (by kernel_rfl) (by kernel_rfl) (by kernel_rfl) (by kernel_rfl) (by kernel_rfl)
theorem sound123 {args : List AV} {r : AV} (hl : args.length = 1) (h : awp Tryz.prog c123 (unw Tryz.prog [] (Ends [.tmp 2] r)) (initSt args)) : Sound Tryz.prog 123 args r := sound_of is123 hl h
theorem total123 {args : List AV} {Φ : AV → Prop} (hl : args.length = 1) (h : awp Tryz.prog c123 (unw Tryz.prog [] (EndsP [.tmp 2] Φ)) (initSt args)) : Total Tryz.prog 123 args Φ := total_of is123 hl h

/-! longshore/longshoreref17.target -/
abbrev c124r0 : List GOp := [⟨none, (some 2), .mv 2 (.c (.bool false))⟩]
abbrev c124r1 : List GOp := [⟨none, (some 6), .mv 6 (.t 0 false)⟩,
  ⟨none, (some 7), .call (some 7) 125 [(.t 6 false)]⟩,
  ⟨none, (some 8), .un 8 .not (.t 7 false)⟩,
  ⟨none, (some 9), .mv 9 (.t 8 true)⟩,
  ⟨(some (9, false)), (some 10), .mv 10 (.t 0 false)⟩,
  ⟨(some (9, false)), (some 11), .sidx 11 (.t 10 false) (.c (.int .i64 0))⟩,
  ⟨(some (9, false)), (some 12), .bin 12 .neq false (.t 11 false) (.c (.int .u8 47))⟩,
  ⟨none, (some 13), .pick 13 (.t 9 false) (.c (.bool true)) (.t 12 false)⟩]
abbrev c124r2 : List GOp := [⟨none, (some 2), .mv 2 (.c (.bool false))⟩]
abbrev c124s3 : ACode := (.seq (.reg c124r2 [2]) .ret)
abbrev c124s4 : ACode := (.cond (.t 13 false) c124s3 .skip)
abbrev c124r5 : List GOp := [⟨none, (some 14), .mv 14 (.t 0 false)⟩,
  ⟨none, (some 15), .bin 15 .eql false (.t 14 false) (.c (.str [47]))⟩]
abbrev c124r6 : List GOp := [⟨none, (some 2), .mv 2 (.c (.bool true))⟩]
abbrev c124s7 : ACode := (.seq (.reg c124r6 [2]) .ret)
abbrev c124s8 : ACode := (.cond (.t 15 false) c124s7 .skip)
abbrev c124r9 : List GOp := [⟨none, (some 3), .mv 3 (.c (.int .i64 1))⟩]
abbrev c124r10 : List GOp := [⟨none, (some 4), .mv 4 (.c (.int .i64 1))⟩]
abbrev c124r11 : List GOp := [⟨none, (some 16), .mv 16 (.t 4 false)⟩,
  ⟨none, (some 17), .mv 17 (.t 0 false)⟩,
  ⟨none, (some 18), .len 18 true (.t 17 false)⟩,
  ⟨none, (some 19), .bin 19 .leq false (.t 16 false) (.t 18 false)⟩]
abbrev c124s12 : ACode := (.cond (.t 19 false) .skip (.exit 0))
abbrev c124r13 : List GOp := [⟨none, (some 22), .mv 22 (.t 4 false)⟩,
  ⟨none, (some 23), .mv 23 (.t 0 false)⟩,
  ⟨none, (some 24), .len 24 true (.t 23 false)⟩,
  ⟨none, (some 25), .bin 25 .lss false (.t 22 false) (.t 24 false)⟩,
  ⟨none, (some 26), .mv 26 (.t 25 true)⟩,
  ⟨(some (26, true)), (some 27), .mv 27 (.t 0 false)⟩,
  ⟨(some (26, true)), (some 28), .mv 28 (.t 4 false)⟩,
  ⟨(some (26, true)), (some 29), .sidx 29 (.t 27 false) (.t 28 false)⟩,
  ⟨(some (26, true)), (some 30), .bin 30 .neq false (.t 29 false) (.c (.int .u8 47))⟩,
  ⟨none, (some 31), .pick 31 (.t 26 false) (.t 30 false) (.c (.bool false))⟩]
abbrev c124s14 : ACode := (.cond (.t 31 false) (.exit 1) .skip)
abbrev c124r15 : List GOp := [⟨none, (some 32), .mv 32 (.t 0 false)⟩,
  ⟨none, (some 33), .mv 33 (.t 3 false)⟩,
  ⟨none, (some 34), .mv 34 (.t 4 false)⟩,
  ⟨none, (some 35), .sslice 35 (.t 32 false) (some (.t 33 false)) (some (.t 34 false))⟩,
  ⟨none, (some 5), .mv 5 (.t 35 true)⟩]
abbrev c124r16 : List GOp := [⟨none, (some 36), .mv 36 (.t 5 false)⟩,
  ⟨none, (some 37), .bin 37 .eql false (.t 36 false) (.c (.str []))⟩,
  ⟨none, (some 38), .mv 38 (.t 37 true)⟩,
  ⟨(some (38, false)), (some 39), .mv 39 (.t 5 false)⟩,
  ⟨(some (38, false)), (some 40), .bin 40 .eql false (.t 39 false) (.c (.str [46]))⟩,
  ⟨none, (some 41), .pick 41 (.t 38 false) (.c (.bool true)) (.t 40 false)⟩,
  ⟨none, (some 42), .mv 42 (.t 41 true)⟩,
  ⟨(some (42, false)), (some 43), .mv 43 (.t 5 false)⟩,
  ⟨(some (42, false)), (some 44), .bin 44 .eql false (.t 43 false) (.c (.str [46, 46]))⟩,
  ⟨none, (some 45), .pick 45 (.t 42 false) (.c (.bool true)) (.t 44 false)⟩]
abbrev c124r17 : List GOp := [⟨none, (some 2), .mv 2 (.c (.bool false))⟩]
abbrev c124s18 : ACode := (.seq (.reg c124r17 [2]) .ret)
abbrev c124s19 : ACode := (.cond (.t 45 false) c124s18 .skip)
abbrev c124r20 : List GOp := [⟨none, (some 46), .mv 46 (.t 4 false)⟩,
  ⟨none, (some 47), .bin 47 .add false (.t 46 false) (.c (.int .i64 1))⟩,
  ⟨none, (some 3), .mv 3 (.t 47 true)⟩]
abbrev c124s21 : ACode := (.seq (.seq (.reg c124r16 [45]) c124s19) (.reg c124r20 [3]))
abbrev c124s22 : ACode := (.seq (.reg c124r15 [5]) c124s21)
abbrev c124s23 : ACode := (.seq (.seq (.reg c124r13 [31]) c124s14) c124s22)
abbrev c124r24 : List GOp := [⟨none, (some 20), .mv 20 (.t 4 false)⟩,
  ⟨none, (some 21), .bin 21 .add false (.t 20 false) (.c (.int .i64 1))⟩,
  ⟨none, (some 4), .mv 4 (.t 21 true)⟩]
abbrev c124s25 : ACode := (.seq (.block 1 c124s23) (.reg c124r24 [4]))
abbrev c124s26 : ACode := (.seq (.seq (.reg c124r11 [19]) c124s12) c124s25)
abbrev c124s27 : ACode := (.loop c124s26)
abbrev c124s28 : ACode := (.block 0 c124s27)
abbrev c124r29 : List GOp := [⟨none, (some 2), .mv 2 (.c (.bool true))⟩]
abbrev c124s30 : ACode := (.seq (.reg c124r29 [2]) .ret)
abbrev c124s31 : ACode := (.seq (.seq (.reg c124r10 [4]) c124s28) c124s30)
abbrev c124s32 : ACode := (.seq (.reg c124r9 [3]) c124s31)
abbrev c124s33 : ACode := (.seq (.seq (.reg c124r5 [15]) c124s8) c124s32)
abbrev c124s34 : ACode := (.seq (.seq (.reg c124r1 [13]) c124s4) c124s33)
abbrev c124 : ACode := (.seq (.reg c124r0 [2]) c124s34)
def a124 : AFn := ⟨[], [0, 2, 3, 4, 5, 13, 15, 19, 31, 45], [8, 21, 25, 35, 37, 41, 47], [], [], [], [], [], c124, [.tmp 2]⟩
theorem is124 : IsFn Tryz.prog 124 1 a124 := isFn_of mix Tryz.func124 (by kernel_rfl) (by kernel_rfl) (by kernel_rfl) (by kernel_rfl) (by kernel_rfl)
theorem sound124 {args : List AV} {r : AV} (hl : args.length = 1) (h : awp Tryz.prog c124 (unw Tryz.prog [] (Ends [.tmp 2] r)) (initSt args)) : Sound Tryz.prog 124 args r := sound_of is124 hl h
theorem total124 {args : List AV} {Φ : AV → Prop} (hl : args.length = 1) (h : awp Tryz.prog c124 (unw Tryz.prog [] (EndsP [.tmp 2] Φ)) (initSt args)) : Total Tryz.prog 124 args Φ := total_of is124 hl h

/-! longshore/longshoreref17.path -/
abbrev c125r0 : List GOp := [⟨none, (some 2), .mv 2 (.c (.bool false))⟩]
abbrev c125r1 : List GOp := [⟨none, (some 4), .mv 4 (.t 0 false)⟩,
  ⟨none, (some 5), .len 5 true (.t 4 false)⟩,
  ⟨none, (some 6), .bin 6 .lss false (.t 5 false) (.c (.int .i64 1))⟩,
  ⟨none, (some 7), .mv 7 (.t 6 true)⟩,
  ⟨(some (7, false)), (some 8), .mv 8 (.t 0 false)⟩,
  ⟨(some (7, false)), (some 9), .len 9 true (.t 8 false)⟩,
  ⟨(some (7, false)), (some 10), .bin 10 .gtr false (.t 9 false) (.c (.int .i64 64))⟩,
  ⟨none, (some 11), .pick 11 (.t 7 false) (.c (.bool true)) (.t 10 false)⟩]
abbrev c125r2 : List GOp := [⟨none, (some 2), .mv 2 (.c (.bool false))⟩]
abbrev c125s3 : ACode := (.seq (.reg c125r2 [2]) .ret)
abbrev c125s4 : ACode := (.cond (.t 11 false) c125s3 .skip)
abbrev c125r5 : List GOp := [⟨none, (some 3), .mv 3 (.c (.int .i64 0))⟩]
abbrev c125r6 : List GOp := [⟨none, (some 12), .mv 12 (.t 3 false)⟩,
  ⟨none, (some 13), .mv 13 (.t 0 false)⟩,
  ⟨none, (some 14), .len 14 true (.t 13 false)⟩,
  ⟨none, (some 15), .bin 15 .lss false (.t 12 false) (.t 14 false)⟩]
abbrev c125s7 : ACode := (.cond (.t 15 false) .skip (.exit 0))
abbrev c125r8 : List GOp := [⟨none, (some 18), .mv 18 (.t 0 false)⟩,
  ⟨none, (some 19), .mv 19 (.t 3 false)⟩,
  ⟨none, (some 20), .sidx 20 (.t 18 false) (.t 19 false)⟩,
  ⟨none, (some 21), .bin 21 .neq false (.t 20 false) (.c (.int .u8 47))⟩,
  ⟨none, (some 22), .mv 22 (.t 21 true)⟩,
  ⟨(some (22, true)), (some 23), .mv 23 (.t 0 false)⟩,
  ⟨(some (22, true)), (some 24), .mv 24 (.t 3 false)⟩,
  ⟨(some (22, true)), (some 25), .sidx 25 (.t 23 false) (.t 24 false)⟩,
  ⟨(some (22, true)), (some 26), .call (some 26) 45 [(.t 25 false)]⟩,
  ⟨(some (22, true)), (some 27), .bin 27 .eql false (.t 26 false) (.c (.int .i64 0))⟩,
  ⟨none, (some 28), .pick 28 (.t 22 false) (.t 27 false) (.c (.bool false))⟩]
abbrev c125r9 : List GOp := [⟨none, (some 2), .mv 2 (.c (.bool false))⟩]
abbrev c125s10 : ACode := (.seq (.reg c125r9 [2]) .ret)
abbrev c125s11 : ACode := (.cond (.t 28 false) c125s10 .skip)
abbrev c125s12 : ACode := (.seq (.reg c125r8 [28]) c125s11)
abbrev c125r13 : List GOp := [⟨none, (some 16), .mv 16 (.t 3 false)⟩,
  ⟨none, (some 17), .bin 17 .add false (.t 16 false) (.c (.int .i64 1))⟩,
  ⟨none, (some 3), .mv 3 (.t 17 true)⟩]
abbrev c125s14 : ACode := (.seq (.block 1 c125s12) (.reg c125r13 [3]))
abbrev c125s15 : ACode := (.seq (.seq (.reg c125r6 [15]) c125s7) c125s14)
abbrev c125s16 : ACode := (.loop c125s15)
abbrev c125s17 : ACode := (.block 0 c125s16)
abbrev c125r18 : List GOp := [⟨none, (some 2), .mv 2 (.c (.bool true))⟩]
abbrev c125s19 : ACode := (.seq (.reg c125r18 [2]) .ret)
abbrev c125s20 : ACode := (.seq (.seq (.reg c125r5 [3]) c125s17) c125s19)
abbrev c125s21 : ACode := (.seq (.seq (.reg c125r1 [11]) c125s4) c125s20)
abbrev c125 : ACode := (.seq (.reg c125r0 [2]) c125s21)
def a125 : AFn := ⟨[], [0, 2, 3, 11, 15, 28], [6, 17, 21], [], [], [], [], [], c125, [.tmp 2]⟩
theorem is125 : IsFn Tryz.prog 125 1 a125 := isFn_of mix Tryz.func125 (by kernel_rfl) (by kernel_rfl) (by kernel_rfl) (by kernel_rfl) (by kernel_rfl)
theorem sound125 {args : List AV} {r : AV} (hl : args.length = 1) (h : awp Tryz.prog c125 (unw Tryz.prog [] (Ends [.tmp 2] r)) (initSt args)) : Sound Tryz.prog 125 args r := sound_of is125 hl h
theorem total125 {args : List AV} {Φ : AV → Prop} (hl : args.length = 1) (h : awp Tryz.prog c125 (unw Tryz.prog [] (EndsP [.tmp 2] Φ)) (initSt args)) : Total Tryz.prog 125 args Φ := total_of is125 hl h

/-! longshore/longshoreref15.Bare -/
abbrev c126r0 : List GOp := [⟨none, (some 2), .mv 2 (.c (.bool false))⟩]
abbrev c126r1 : List GOp := [⟨none, (some 3), .mv 3 (.c (.str [46, 95, 45, 47, 58, 61, 44, 43, 64, 37]))⟩]
abbrev c126r2 : List GOp := [⟨none, (some 4), .mv 4 (.c (.int .i64 0))⟩]
abbrev c126r3 : List GOp := [⟨none, (some 8), .mv 8 (.t 4 false)⟩,
  ⟨none, (some 9), .mv 9 (.t 0 false)⟩,
  ⟨none, (some 10), .len 10 true (.t 9 false)⟩,
  ⟨none, (some 11), .bin 11 .lss false (.t 8 false) (.t 10 false)⟩]
abbrev c126s4 : ACode := (.cond (.t 11 false) .skip (.exit 0))
abbrev c126r5 : List GOp := [⟨none, (some 14), .mv 14 (.t 0 false)⟩,
  ⟨none, (some 15), .mv 15 (.t 4 false)⟩,
  ⟨none, (some 16), .sidx 16 (.t 14 false) (.t 15 false)⟩,
  ⟨none, (some 5), .mv 5 (.t 16 true)⟩]
abbrev c126r6 : List GOp := [⟨none, (some 17), .mv 17 (.t 5 false)⟩,
  ⟨none, (some 18), .bin 18 .geq false (.t 17 false) (.c (.int .u8 97))⟩,
  ⟨none, (some 19), .mv 19 (.t 18 true)⟩,
  ⟨(some (19, true)), (some 20), .mv 20 (.t 5 false)⟩,
  ⟨(some (19, true)), (some 21), .bin 21 .leq false (.t 20 false) (.c (.int .u8 122))⟩,
  ⟨none, (some 22), .pick 22 (.t 19 false) (.t 21 false) (.c (.bool false))⟩,
  ⟨none, (some 23), .mv 23 (.t 22 true)⟩,
  ⟨(some (23, false)), (some 24), .mv 24 (.t 5 false)⟩,
  ⟨(some (23, false)), (some 25), .bin 25 .geq false (.t 24 false) (.c (.int .u8 65))⟩,
  ⟨(some (23, false)), (some 26), .mv 26 (.t 25 true)⟩,
  ⟨(some (26, true)), (some 27), .mv 27 (.t 5 false)⟩,
  ⟨(some (26, true)), (some 28), .bin 28 .leq false (.t 27 false) (.c (.int .u8 90))⟩,
  ⟨(some (23, false)), (some 29), .pick 29 (.t 26 false) (.t 28 false) (.c (.bool false))⟩,
  ⟨none, (some 30), .pick 30 (.t 23 false) (.c (.bool true)) (.t 29 false)⟩,
  ⟨none, (some 31), .mv 31 (.t 30 true)⟩,
  ⟨(some (31, false)), (some 32), .mv 32 (.t 5 false)⟩,
  ⟨(some (31, false)), (some 33), .bin 33 .geq false (.t 32 false) (.c (.int .u8 48))⟩,
  ⟨(some (31, false)), (some 34), .mv 34 (.t 33 true)⟩,
  ⟨(some (34, true)), (some 35), .mv 35 (.t 5 false)⟩,
  ⟨(some (34, true)), (some 36), .bin 36 .leq false (.t 35 false) (.c (.int .u8 57))⟩,
  ⟨(some (31, false)), (some 37), .pick 37 (.t 34 false) (.t 36 false) (.c (.bool false))⟩,
  ⟨none, (some 38), .pick 38 (.t 31 false) (.c (.bool true)) (.t 37 false)⟩,
  ⟨none, (some 6), .mv 6 (.t 38 true)⟩]
abbrev c126r7 : List GOp := [⟨none, (some 7), .mv 7 (.c (.int .i64 0))⟩]
abbrev c126r8 : List GOp := [⟨none, (some 39), .mv 39 (.t 7 false)⟩,
  ⟨none, (some 40), .mv 40 (.t 3 false)⟩,
  ⟨none, (some 41), .len 41 true (.t 40 false)⟩,
  ⟨none, (some 42), .bin 42 .lss false (.t 39 false) (.t 41 false)⟩]
abbrev c126s9 : ACode := (.cond (.t 42 false) .skip (.exit 2))
abbrev c126r10 : List GOp := [⟨none, (some 45), .mv 45 (.t 6 false)⟩,
  ⟨none, (some 46), .mv 46 (.t 45 true)⟩,
  ⟨(some (46, false)), (some 47), .mv 47 (.t 3 false)⟩,
  ⟨(some (46, false)), (some 48), .mv 48 (.t 7 false)⟩,
  ⟨(some (46, false)), (some 49), .sidx 49 (.t 47 false) (.t 48 false)⟩,
  ⟨(some (46, false)), (some 50), .mv 50 (.t 5 false)⟩,
  ⟨(some (46, false)), (some 51), .bin 51 .eql false (.t 49 false) (.t 50 false)⟩,
  ⟨none, (some 52), .pick 52 (.t 46 false) (.c (.bool true)) (.t 51 false)⟩,
  ⟨none, (some 6), .mv 6 (.t 52 true)⟩]
abbrev c126r11 : List GOp := [⟨none, (some 43), .mv 43 (.t 7 false)⟩,
  ⟨none, (some 44), .bin 44 .add false (.t 43 false) (.c (.int .i64 1))⟩,
  ⟨none, (some 7), .mv 7 (.t 44 true)⟩]
abbrev c126s12 : ACode := (.seq (.block 3 (.reg c126r10 [6])) (.reg c126r11 [7]))
abbrev c126s13 : ACode := (.seq (.seq (.reg c126r8 [42]) c126s9) c126s12)
abbrev c126s14 : ACode := (.loop c126s13)
abbrev c126s15 : ACode := (.block 2 c126s14)
abbrev c126r16 : List GOp := [⟨none, (some 53), .mv 53 (.t 6 false)⟩,
  ⟨none, (some 54), .un 54 .not (.t 53 false)⟩]
abbrev c126r17 : List GOp := [⟨none, (some 2), .mv 2 (.c (.bool false))⟩]
abbrev c126s18 : ACode := (.seq (.reg c126r17 [2]) .ret)
abbrev c126s19 : ACode := (.cond (.t 54 false) c126s18 .skip)
abbrev c126s20 : ACode := (.seq (.reg c126r16 [54]) c126s19)
abbrev c126s21 : ACode := (.seq (.seq (.reg c126r7 [7]) c126s15) c126s20)
abbrev c126s22 : ACode := (.seq (.reg c126r6 [6]) c126s21)
abbrev c126s23 : ACode := (.seq (.reg c126r5 [5]) c126s22)
abbrev c126r24 : List GOp := [⟨none, (some 12), .mv 12 (.t 4 false)⟩,
  ⟨none, (some 13), .bin 13 .add false (.t 12 false) (.c (.int .i64 1))⟩,
  ⟨none, (some 4), .mv 4 (.t 13 true)⟩]
abbrev c126s25 : ACode := (.seq (.block 1 c126s23) (.reg c126r24 [4]))
abbrev c126s26 : ACode := (.seq (.seq (.reg c126r3 [11]) c126s4) c126s25)
abbrev c126s27 : ACode := (.loop c126s26)
abbrev c126s28 : ACode := (.block 0 c126s27)
abbrev c126r29 : List GOp := [⟨none, (some 55), .mv 55 (.t 0 false)⟩,
  ⟨none, (some 56), .len 56 true (.t 55 false)⟩,
  ⟨none, (some 57), .bin 57 .gtr false (.t 56 false) (.c (.int .i64 0))⟩,
  ⟨none, (some 2), .mv 2 (.t 57 true)⟩]
abbrev c126s30 : ACode := (.seq (.reg c126r29 [2]) .ret)
abbrev c126s31 : ACode := (.seq (.seq (.reg c126r2 [4]) c126s28) c126s30)
abbrev c126s32 : ACode := (.seq (.reg c126r1 [3]) c126s31)
abbrev c126 : ACode := (.seq (.reg c126r0 [2]) c126s32)
def a126 : AFn := ⟨[], [0, 2, 3, 4, 5, 6, 7, 11, 42, 54], [13, 16, 18, 22, 25, 30, 33, 38, 44, 45, 52, 57], [], [], [], [], [], c126, [.tmp 2]⟩
theorem is126 : IsFn Tryz.prog 126 1 a126 := isFn_of mix Tryz.func126 (by kernel_rfl) (by kernel_rfl) (by kernel_rfl) (by kernel_rfl) (by kernel_rfl)
theorem sound126 {args : List AV} {r : AV} (hl : args.length = 1) (h : awp Tryz.prog c126 (unw Tryz.prog [] (Ends [.tmp 2] r)) (initSt args)) : Sound Tryz.prog 126 args r := sound_of is126 hl h
theorem total126 {args : List AV} {Φ : AV → Prop} (hl : args.length = 1) (h : awp Tryz.prog c126 (unw Tryz.prog [] (EndsP [.tmp 2] Φ)) (initSt args)) : Total Tryz.prog 126 args Φ := total_of is126 hl h

/-! longshore/longshoreref03.group -/
abbrev c127r0 : List GOp := [⟨none, (some 2), .mv 2 (.c (.str []))⟩,
  ⟨none, (some 3), .mv 3 (.c (.int .i64 0))⟩,
  ⟨none, (some 4), .mv 4 (.c (.str []))⟩,
  ⟨none, (some 5), .mv 5 (.c (.bool false))⟩]
abbrev c127r1 : List GOp := [⟨none, (some 6), .mv 6 (.c (.int .i64 0))⟩]
abbrev c127r2 : List GOp := [⟨none, (some 9), .mv 9 (.t 6 false)⟩,
  ⟨none, (some 10), .mv 10 (.t 0 false)⟩,
  ⟨none, (some 11), .len 11 true (.t 10 false)⟩,
  ⟨none, (some 12), .bin 12 .lss false (.t 9 false) (.t 11 false)⟩,
  ⟨none, (some 13), .mv 13 (.t 12 true)⟩,
  ⟨(some (13, true)), (some 14), .mv 14 (.t 0 false)⟩,
  ⟨(some (13, true)), (some 15), .mv 15 (.t 6 false)⟩,
  ⟨(some (13, true)), (some 16), .sidx 16 (.t 14 false) (.t 15 false)⟩,
  ⟨(some (13, true)), (some 17), .bin 17 .geq false (.t 16 false) (.c (.int .u8 48))⟩,
  ⟨none, (some 18), .pick 18 (.t 13 false) (.t 17 false) (.c (.bool false))⟩,
  ⟨none, (some 19), .mv 19 (.t 18 true)⟩,
  ⟨(some (19, true)), (some 20), .mv 20 (.t 0 false)⟩,
  ⟨(some (19, true)), (some 21), .mv 21 (.t 6 false)⟩,
  ⟨(some (19, true)), (some 22), .sidx 22 (.t 20 false) (.t 21 false)⟩,
  ⟨(some (19, true)), (some 23), .bin 23 .leq false (.t 22 false) (.c (.int .u8 57))⟩,
  ⟨none, (some 24), .pick 24 (.t 19 false) (.t 23 false) (.c (.bool false))⟩]
abbrev c127s3 : ACode := (.cond (.t 24 false) .skip (.exit 0))
abbrev c127r4 : List GOp := [⟨none, (some 25), .mv 25 (.t 6 false)⟩,
  ⟨none, (some 26), .bin 26 .add false (.t 25 false) (.c (.int .i64 1))⟩,
  ⟨none, (some 6), .mv 6 (.t 26 true)⟩]
abbrev c127s5 : ACode := (.block 1 (.reg c127r4 [6]))
abbrev c127s6 : ACode := (.seq (.seq (.reg c127r2 [24]) c127s3) c127s5)
abbrev c127s7 : ACode := (.loop c127s6)
abbrev c127r8 : List GOp := [⟨none, (some 27), .mv 27 (.t 0 false)⟩,
  ⟨none, (some 28), .mv 28 (.t 6 false)⟩,
  ⟨none, (some 29), .sslice 29 (.t 27 false) none (some (.t 28 false))⟩,
  ⟨none, (some 30), .mv 30 (.t 0 false)⟩,
  ⟨none, (some 31), .mv 31 (.t 6 false)⟩,
  ⟨none, (some 32), .sslice 32 (.t 30 false) (some (.t 31 false)) none⟩,
  ⟨none, (some 7), .mv 7 (.t 29 true)⟩,
  ⟨none, (some 8), .mv 8 (.t 32 true)⟩]
abbrev c127r9 : List GOp := [⟨none, (some 33), .mv 33 (.t 8 false)⟩,
  ⟨none, (some 34), .len 34 true (.t 33 false)⟩,
  ⟨none, (some 35), .bin 35 .geq false (.t 34 false) (.c (.int .i64 2))⟩,
  ⟨none, (some 36), .mv 36 (.t 35 true)⟩,
  ⟨(some (36, true)), (some 37), .mv 37 (.t 8 false)⟩,
  ⟨(some (36, true)), (some 38), .sidx 38 (.t 37 false) (.c (.int .i64 0))⟩,
  ⟨(some (36, true)), (some 39), .bin 39 .eql false (.t 38 false) (.c (.int .u8 109))⟩,
  ⟨none, (some 40), .pick 40 (.t 36 false) (.t 39 false) (.c (.bool false))⟩,
  ⟨none, (some 41), .mv 41 (.t 40 true)⟩,
  ⟨(some (41, true)), (some 42), .mv 42 (.t 8 false)⟩,
  ⟨(some (41, true)), (some 43), .sidx 43 (.t 42 false) (.c (.int .i64 1))⟩,
  ⟨(some (41, true)), (some 44), .bin 44 .eql false (.t 43 false) (.c (.int .u8 115))⟩,
  ⟨none, (some 45), .pick 45 (.t 41 false) (.t 44 false) (.c (.bool false))⟩]
abbrev c127r10 : List GOp := [⟨none, (some 46), .mv 46 (.t 7 false)⟩,
  ⟨none, (some 47), .mv 47 (.t 8 false)⟩,
  ⟨none, (some 48), .sslice 48 (.t 47 false) (some (.c (.int .i64 2))) none⟩,
  ⟨none, (some 49), .mv 49 (.t 7 false)⟩,
  ⟨none, (some 50), .call (some 50) 101 [(.t 49 false)]⟩,
  ⟨none, (some 2), .mv 2 (.t 46 true)⟩,
  ⟨none, (some 3), .mv 3 (.c (.int .i64 3))⟩,
  ⟨none, (some 4), .mv 4 (.t 48 true)⟩,
  ⟨none, (some 5), .mv 5 (.t 50 true)⟩]
abbrev c127s11 : ACode := (.seq (.reg c127r10 [2, 3, 4, 5]) .ret)
abbrev c127s12 : ACode := (.cond (.t 45 false) c127s11 .skip)
abbrev c127r13 : List GOp := [⟨none, (some 51), .mv 51 (.t 8 false)⟩,
  ⟨none, (some 52), .len 52 true (.t 51 false)⟩,
  ⟨none, (some 53), .bin 53 .geq false (.t 52 false) (.c (.int .i64 1))⟩,
  ⟨none, (some 54), .mv 54 (.t 53 true)⟩,
  ⟨(some (54, true)), (some 55), .mv 55 (.t 8 false)⟩,
  ⟨(some (54, true)), (some 56), .sidx 56 (.t 55 false) (.c (.int .i64 0))⟩,
  ⟨(some (54, true)), (some 57), .bin 57 .eql false (.t 56 false) (.c (.int .u8 104))⟩,
  ⟨none, (some 58), .pick 58 (.t 54 false) (.t 57 false) (.c (.bool false))⟩]
abbrev c127r14 : List GOp := [⟨none, (some 59), .mv 59 (.t 7 false)⟩,
  ⟨none, (some 60), .mv 60 (.t 8 false)⟩,
  ⟨none, (some 61), .sslice 61 (.t 60 false) (some (.c (.int .i64 1))) none⟩,
  ⟨none, (some 62), .mv 62 (.t 7 false)⟩,
  ⟨none, (some 63), .call (some 63) 101 [(.t 62 false)]⟩,
  ⟨none, (some 2), .mv 2 (.t 59 true)⟩,
  ⟨none, (some 3), .mv 3 (.c (.int .i64 0))⟩,
  ⟨none, (some 4), .mv 4 (.t 61 true)⟩,
  ⟨none, (some 5), .mv 5 (.t 63 true)⟩]
abbrev c127s15 : ACode := (.seq (.reg c127r14 [2, 3, 4, 5]) .ret)
abbrev c127s16 : ACode := (.cond (.t 58 false) c127s15 .skip)
abbrev c127r17 : List GOp := [⟨none, (some 64), .mv 64 (.t 8 false)⟩,
  ⟨none, (some 65), .len 65 true (.t 64 false)⟩,
  ⟨none, (some 66), .bin 66 .geq false (.t 65 false) (.c (.int .i64 1))⟩,
  ⟨none, (some 67), .mv 67 (.t 66 true)⟩,
  ⟨(some (67, true)), (some 68), .mv 68 (.t 8 false)⟩,
  ⟨(some (67, true)), (some 69), .sidx 69 (.t 68 false) (.c (.int .i64 0))⟩,
  ⟨(some (67, true)), (some 70), .bin 70 .eql false (.t 69 false) (.c (.int .u8 109))⟩,
  ⟨none, (some 71), .pick 71 (.t 67 false) (.t 70 false) (.c (.bool false))⟩]
abbrev c127r18 : List GOp := [⟨none, (some 72), .mv 72 (.t 7 false)⟩,
  ⟨none, (some 73), .mv 73 (.t 8 false)⟩,
  ⟨none, (some 74), .sslice 74 (.t 73 false) (some (.c (.int .i64 1))) none⟩,
  ⟨none, (some 75), .mv 75 (.t 7 false)⟩,
  ⟨none, (some 76), .call (some 76) 101 [(.t 75 false)]⟩,
  ⟨none, (some 2), .mv 2 (.t 72 true)⟩,
  ⟨none, (some 3), .mv 3 (.c (.int .i64 1))⟩,
  ⟨none, (some 4), .mv 4 (.t 74 true)⟩,
  ⟨none, (some 5), .mv 5 (.t 76 true)⟩]
abbrev c127s19 : ACode := (.seq (.reg c127r18 [2, 3, 4, 5]) .ret)
abbrev c127s20 : ACode := (.cond (.t 71 false) c127s19 .skip)
abbrev c127r21 : List GOp := [⟨none, (some 77), .mv 77 (.t 8 false)⟩,
  ⟨none, (some 78), .len 78 true (.t 77 false)⟩,
  ⟨none, (some 79), .bin 79 .geq false (.t 78 false) (.c (.int .i64 1))⟩,
  ⟨none, (some 80), .mv 80 (.t 79 true)⟩,
  ⟨(some (80, true)), (some 81), .mv 81 (.t 8 false)⟩,
  ⟨(some (80, true)), (some 82), .sidx 82 (.t 81 false) (.c (.int .i64 0))⟩,
  ⟨(some (80, true)), (some 83), .bin 83 .eql false (.t 82 false) (.c (.int .u8 115))⟩,
  ⟨none, (some 84), .pick 84 (.t 80 false) (.t 83 false) (.c (.bool false))⟩]
abbrev c127r22 : List GOp := [⟨none, (some 85), .mv 85 (.t 7 false)⟩,
  ⟨none, (some 86), .mv 86 (.t 8 false)⟩,
  ⟨none, (some 87), .sslice 87 (.t 86 false) (some (.c (.int .i64 1))) none⟩,
  ⟨none, (some 88), .mv 88 (.t 7 false)⟩,
  ⟨none, (some 89), .call (some 89) 101 [(.t 88 false)]⟩,
  ⟨none, (some 2), .mv 2 (.t 85 true)⟩,
  ⟨none, (some 3), .mv 3 (.c (.int .i64 2))⟩,
  ⟨none, (some 4), .mv 4 (.t 87 true)⟩,
  ⟨none, (some 5), .mv 5 (.t 89 true)⟩]
abbrev c127s23 : ACode := (.seq (.reg c127r22 [2, 3, 4, 5]) .ret)
abbrev c127s24 : ACode := (.cond (.t 84 false) c127s23 .skip)
abbrev c127r25 : List GOp := [⟨none, (some 2), .mv 2 (.c (.str []))⟩,
  ⟨none, (some 3), .mv 3 (.c (.int .i64 0))⟩,
  ⟨none, (some 4), .mv 4 (.c (.str []))⟩,
  ⟨none, (some 5), .mv 5 (.c (.bool false))⟩]
abbrev c127s26 : ACode := (.seq (.reg c127r25 [2, 3, 4, 5]) .ret)
abbrev c127s27 : ACode := (.seq (.seq (.reg c127r21 [84]) c127s24) c127s26)
abbrev c127s28 : ACode := (.seq (.seq (.reg c127r17 [71]) c127s20) c127s27)
abbrev c127s29 : ACode := (.seq (.seq (.reg c127r13 [58]) c127s16) c127s28)
abbrev c127s30 : ACode := (.seq (.seq (.reg c127r9 [45]) c127s12) c127s29)
abbrev c127s31 : ACode := (.seq (.reg c127r8 [7, 8]) c127s30)
abbrev c127s32 : ACode := (.seq (.block 0 c127s7) c127s31)
abbrev c127s33 : ACode := (.seq (.reg c127r1 [6]) c127s32)
abbrev c127 : ACode := (.seq (.reg c127r0 [2, 3, 4, 5]) c127s33)
def a127 : AFn := ⟨[], [0, 2, 3, 4, 5, 6, 7, 8, 24, 45, 58, 71, 84], [12, 18, 26, 29, 32, 35, 40, 46, 48, 50, 53, 59, 61, 63, 66, 72, 74, 76, 79, 85, 87, 89], [], [], [], [], [], c127, [.tmp 2, .tmp 3, .tmp 4, .tmp 5]⟩
theorem is127 : IsFn Tryz.prog 127 1 a127 := isFn_of mix Tryz.func127 (by kernel_rfl) (by kernel_rfl) (by kernel_rfl) (by kernel_rfl) (by kernel_rfl)
theorem sound127 {args : List AV} {r : AV} (hl : args.length = 1) (h : awp Tryz.prog c127 (unw Tryz.prog [] (Ends [.tmp 2, .tmp 3, .tmp 4, .tmp 5] r)) (initSt args)) : Sound Tryz.prog 127 args r := sound_of is127 hl h
theorem total127 {args : List AV} {Φ : AV → Prop} (hl : args.length = 1) (h : awp Tryz.prog c127 (unw Tryz.prog [] (EndsP [.tmp 2, .tmp 3, .tmp 4, .tmp 5] Φ)) (initSt args)) : Total Tryz.prog 127 args Φ := total_of is127 hl h

/-! longshore/longshoreref03.longs -/
abbrev c128r0 : List GOp := [⟨none, (some 0), .balloc 0 (.agg [(.int .i64 0), (.int .i64 0), (.int .i64 0), (.int .i64 0)])⟩]
abbrev c128r1 : List GOp := [⟨none, (some 1), .build 1 [(.int .i64 0), (.int .i64 0), (.int .i64 0), (.int .i64 0)] [(0, 1, (.c (.int .i64 3600000))), (1, 1, (.c (.int .i64 60000))), (2, 1, (.c (.int .i64 1000))), (3, 1, (.c (.int .i64 1)))]⟩,
  ⟨none, none, .bstore 0 none (.t 1 true) 4⟩]
abbrev c128s2 : ACode := (.seq (.reg c128r1 [0]) .ret)
abbrev c128 : ACode := (.seq (.reg c128r0 [0]) c128s2)
def a128 : AFn := ⟨[0], [0], [1], [], [], [], [], [], c128, [.cell 0 (some 4)]⟩
theorem is128 : IsFn Tryz.prog 128 0 a128 := isFn_of mix Tryz.func128 (by kernel_rfl) (by kernel_rfl) (by kernel_rfl) (by kernel_rfl) (by kernel_rfl)
theorem sound128 {args : List AV} {r : AV} (hl : args.length = 0) (h : awp Tryz.prog c128 (unw Tryz.prog [] (Ends [.cell 0 (some 4)] r)) (initSt args)) : Sound Tryz.prog 128 args r := sound_of is128 hl h
theorem total128 {args : List AV} {Φ : AV → Prop} (hl : args.length = 0) (h : awp Tryz.prog c128 (unw Tryz.prog [] (EndsP [.cell 0 (some 4)] Φ)) (initSt args)) : Total Tryz.prog 128 args Φ := total_of is128 hl h

/-! longshore/longshoreref03.names -/
abbrev c129r0 : List GOp := [⟨none, (some 0), .balloc 0 (.agg [(.str []), (.str []), (.str []), (.str [])])⟩]
abbrev c129r1 : List GOp := [⟨none, (some 1), .build 1 [(.str []), (.str []), (.str []), (.str [])] [(0, 1, (.c (.str [104]))), (1, 1, (.c (.str [109]))), (2, 1, (.c (.str [115]))), (3, 1, (.c (.str [109, 115])))]⟩,
  ⟨none, none, .bstore 0 none (.t 1 true) 4⟩]
abbrev c129s2 : ACode := (.seq (.reg c129r1 [0]) .ret)
abbrev c129 : ACode := (.seq (.reg c129r0 [0]) c129s2)
def a129 : AFn := ⟨[0], [0], [1], [], [], [], [], [], c129, [.cell 0 (some 4)]⟩
theorem is129 : IsFn Tryz.prog 129 0 a129 := isFn_of mix Tryz.func129 (by kernel_rfl) (by kernel_rfl) (by kernel_rfl) (by kernel_rfl) (by kernel_rfl)
theorem sound129 {args : List AV} {r : AV} (hl : args.length = 0) (h : awp Tryz.prog c129 (unw Tryz.prog [] (Ends [.cell 0 (some 4)] r)) (initSt args)) : Sound Tryz.prog 129 args r := sound_of is129 hl h
theorem total129 {args : List AV} {Φ : AV → Prop} (hl : args.length = 0) (h : awp Tryz.prog c129 (unw Tryz.prog [] (EndsP [.cell 0 (some 4)] Φ)) (initSt args)) : Total Tryz.prog 129 args Φ := total_of is129 hl h

/-! longshore/longshoreref16.address -/
abbrev c131r0 : List GOp := [⟨none, (some 2), .mv 2 (.c (.bool false))⟩]
abbrev c131r1 : List GOp := [⟨none, (some 7), .mv 7 (.t 0 false)⟩,
  ⟨none, (some 8), .call (some 8) 122 [(.t 7 false), (.c (.int .u8 46))]⟩,
  ⟨none, (some 3), .mv 3 (.t 8 true)⟩]
abbrev c131r2 : List GOp := [⟨none, (some 9), .mv 9 (.t 3 false)⟩,
  ⟨none, (some 10), .len 10 false (.t 9 false)⟩,
  ⟨none, (some 11), .bin 11 .neq false (.t 10 false) (.c (.int .i64 4))⟩]
abbrev c131r3 : List GOp := [⟨none, (some 2), .mv 2 (.c (.bool false))⟩]
abbrev c131s4 : ACode := (.seq (.reg c131r3 [2]) .ret)
abbrev c131s5 : ACode := (.cond (.t 11 false) c131s4 .skip)
abbrev c131r6 : List GOp := [⟨none, (some 4), .mv 4 (.c (.int .i64 0))⟩]
abbrev c131r7 : List GOp := [⟨none, (some 12), .mv 12 (.t 4 false)⟩,
  ⟨none, (some 13), .bin 13 .lss false (.t 12 false) (.c (.int .i64 4))⟩]
abbrev c131s8 : ACode := (.cond (.t 13 false) .skip (.exit 0))
abbrev c131r9 : List GOp := [⟨none, (some 17), .mv 17 (.t 3 false)⟩,
  ⟨none, (some 18), .mv 18 (.t 4 false)⟩,
  ⟨none, (some 19), .idx 19 (.t 17 false) (.t 18 false) 1⟩,
  ⟨none, (some 20), .vload 20 19 none⟩,
  ⟨none, (some 21), .call (some 21) 75 [(.t 20 false), (.c (.int .i64 255))]⟩,
  ⟨none, (some 16), .mv 16 (.t 21 true)⟩,
  ⟨none, (some 22), .extract 22 (.t 16 false) 0⟩,
  ⟨none, (some 23), .extract 23 (.t 16 false) 1⟩,
  ⟨none, (some 5), .mv 5 (.t 22 true)⟩,
  ⟨none, (some 6), .mv 6 (.t 23 true)⟩]
abbrev c131r10 : List GOp := [⟨none, (some 24), .mv 24 (.t 6 false)⟩,
  ⟨none, (some 25), .bin 25 .neq false (.t 24 false) (.c (.int .i64 0))⟩]
abbrev c131r11 : List GOp := [⟨none, (some 2), .mv 2 (.c (.bool false))⟩]
abbrev c131s12 : ACode := (.seq (.reg c131r11 [2]) .ret)
abbrev c131s13 : ACode := (.cond (.t 25 false) c131s12 .skip)
abbrev c131s14 : ACode := (.seq (.reg c131r10 [25]) c131s13)
abbrev c131s15 : ACode := (.seq (.reg c131r9 [6]) c131s14)
abbrev c131r16 : List GOp := [⟨none, (some 14), .mv 14 (.t 4 false)⟩,
  ⟨none, (some 15), .bin 15 .add false (.t 14 false) (.c (.int .i64 1))⟩,
  ⟨none, (some 4), .mv 4 (.t 15 true)⟩]
abbrev c131s17 : ACode := (.seq (.block 1 c131s15) (.reg c131r16 [4]))
abbrev c131s18 : ACode := (.seq (.seq (.reg c131r7 [13]) c131s8) c131s17)
abbrev c131s19 : ACode := (.loop c131s18)
abbrev c131s20 : ACode := (.block 0 c131s19)
abbrev c131r21 : List GOp := [⟨none, (some 2), .mv 2 (.c (.bool true))⟩]
abbrev c131s22 : ACode := (.seq (.reg c131r21 [2]) .ret)
abbrev c131s23 : ACode := (.seq (.seq (.reg c131r6 [4]) c131s20) c131s22)
abbrev c131s24 : ACode := (.seq (.seq (.reg c131r2 [11]) c131s5) c131s23)
abbrev c131s25 : ACode := (.seq (.reg c131r1 [3]) c131s24)
abbrev c131 : ACode := (.seq (.reg c131r0 [2]) c131s25)
def a131 : AFn := ⟨[], [0, 2, 3, 4, 6, 11, 13, 25], [8, 15, 21, 22, 23], [], [], [], [], [], c131, [.tmp 2]⟩
theorem is131 : IsFn Tryz.prog 131 1 a131 := isFn_of mix Tryz.func131 (by kernel_rfl) (by kernel_rfl) (by kernel_rfl) (by kernel_rfl) (by kernel_rfl)
theorem sound131 {args : List AV} {r : AV} (hl : args.length = 1) (h : awp Tryz.prog c131 (unw Tryz.prog [] (Ends [.tmp 2] r)) (initSt args)) : Sound Tryz.prog 131 args r := sound_of is131 hl h
theorem total131 {args : List AV} {Φ : AV → Prop} (hl : args.length = 1) (h : awp Tryz.prog c131 (unw Tryz.prog [] (EndsP [.tmp 2] Φ)) (initSt args)) : Total Tryz.prog 131 args Φ := total_of is131 hl h

end Go.Proofs.YtccmaeefedgcnaaGreat
