/-
  FUNCTIONS IN THEIR COMPILED FORM (printed by a program of ours), each held against the loaded program by the kernel.
-/
import Derived.Test.YtccmaeefedgcnaaGreatPart06
set_option linter.all false

namespace Go.Proofs.YtccmaeefedgcnaaGreat

/-! longshore/longshoreref19.File -/
abbrev c12r0 : List GOp := [⟨none, (some 1), .bbox 1 (.t 0 false)⟩,
  ⟨none, (some 2), .balloc 2 (.agg [(.int .i64 0), (.str []), (.oslice 1 []), (.oslice 4 []), (.str []), (.int .i64 0)])⟩]
abbrev c12r1 : List GOp := [⟨none, (some 11), .baddr 11 1 0⟩,
  ⟨none, (some 12), .bload 12 1 (some 11) none false⟩,
  ⟨none, (some 13), .bin 13 .neq false (.t 12 false) (.c (.int .i64 0))⟩,
  ⟨none, (some 14), .mv 14 (.t 13 true)⟩,
  ⟨(some (14, true)), (some 15), .baddr 15 1 0⟩,
  ⟨(some (14, true)), (some 16), .bload 16 1 (some 15) none false⟩,
  ⟨(some (14, true)), (some 17), .bin 17 .neq false (.t 16 false) (.c (.int .i64 3))⟩,
  ⟨none, (some 18), .pick 18 (.t 14 false) (.t 17 false) (.c (.bool false))⟩]
abbrev c12r2 : List GOp := [⟨none, (some 19), .build 19 [(.int .i64 0), (.str []), (.oslice 1 []), (.oslice 4 []), (.str []), (.int .i64 0)] [(5, 1, (.c (.int .i64 10)))]⟩,
  ⟨none, none, .bstore 2 none (.t 19 true) 6⟩]
abbrev c12s3 : ACode := (.seq (.reg c12r2 [2]) .ret)
abbrev c12s4 : ACode := (.cond (.t 18 false) c12s3 .skip)
abbrev c12r5 : List GOp := [⟨none, (some 20), .build 20 [(.int .i64 0), (.str []), (.oslice 1 []), (.oslice 4 [])] [(0, 1, (.c (.int .i64 3)))]⟩,
  ⟨none, (some 3), .balloc 3 (.agg [(.int .i64 0), (.str []), (.oslice 1 []), (.oslice 4 [])])⟩,
  ⟨none, none, .bstore 3 none (.t 20 true) 4⟩]
abbrev c12r6 : List GOp := [⟨none, (some 4), .mv 4 (.c (.int .i64 0))⟩]
abbrev c12r7 : List GOp := [⟨none, (some 21), .mv 21 (.t 4 false)⟩,
  ⟨none, (some 22), .baddr 22 1 2⟩,
  ⟨none, (some 23), .bload 23 1 (some 22) none false⟩,
  ⟨none, (some 24), .len 24 false (.t 23 false)⟩,
  ⟨none, (some 25), .bin 25 .lss false (.t 21 false) (.t 24 false)⟩]
abbrev c12s8 : ACode := (.cond (.t 25 false) .skip (.exit 0))
abbrev c12r9 : List GOp := [⟨none, (some 28), .baddr 28 1 2⟩,
  ⟨none, (some 29), .bload 29 1 (some 28) none false⟩,
  ⟨none, (some 30), .mv 30 (.t 4 false)⟩,
  ⟨none, (some 31), .idx 31 (.t 29 false) (.t 30 false) 1⟩,
  ⟨none, (some 32), .vload 32 31 none⟩,
  ⟨none, (some 33), .baddr 33 1 3⟩,
  ⟨none, (some 34), .bload 34 1 (some 33) none false⟩,
  ⟨none, (some 35), .mv 35 (.t 4 false)⟩,
  ⟨none, (some 36), .idx 36 (.t 34 false) (.t 35 false) 4⟩,
  ⟨none, (some 37), .vload 37 36 (some 4)⟩,
  ⟨none, (some 6), .balloc 6 (.agg [(.int .i64 0), (.str []), (.oslice 1 []), (.oslice 4 [])])⟩,
  ⟨none, (some 5), .mv 5 (.t 32 true)⟩,
  ⟨none, none, .bstore 6 none (.t 37 true) 4⟩]
abbrev c12r10 : List GOp := [⟨none, (some 38), .mv 38 (.t 5 false)⟩,
  ⟨none, (some 39), .call (some 39) 25 [(.t 38 false)]⟩]
abbrev c12s11 : ACode := (.cond (.t 39 false) (.exit 1) .skip)
abbrev c12r12 : List GOp := [⟨none, (some 40), .mv 40 (.t 5 false)⟩,
  ⟨none, (some 41), .bin 41 .neq false (.t 40 false) (.c (.str [110, 97, 109, 101]))⟩,
  ⟨none, (some 42), .mv 42 (.t 41 true)⟩,
  ⟨(some (42, true)), (some 43), .mv 43 (.t 5 false)⟩,
  ⟨(some (42, true)), (some 44), .bin 44 .neq false (.t 43 false) (.c (.str [115, 101, 114, 118, 105, 99, 101, 115]))⟩,
  ⟨none, (some 45), .pick 45 (.t 42 false) (.t 44 false) (.c (.bool false))⟩,
  ⟨none, (some 46), .mv 46 (.t 45 true)⟩,
  ⟨(some (46, true)), (some 47), .mv 47 (.t 5 false)⟩,
  ⟨(some (46, true)), (some 48), .bin 48 .neq false (.t 47 false) (.c (.str [110, 101, 116, 119, 111, 114, 107, 115]))⟩,
  ⟨none, (some 49), .pick 49 (.t 46 false) (.t 48 false) (.c (.bool false))⟩,
  ⟨none, (some 50), .mv 50 (.t 49 true)⟩,
  ⟨(some (50, true)), (some 51), .mv 51 (.t 5 false)⟩,
  ⟨(some (50, true)), (some 52), .bin 52 .neq false (.t 51 false) (.c (.str [118, 111, 108, 117, 109, 101, 115]))⟩,
  ⟨none, (some 53), .pick 53 (.t 50 false) (.t 52 false) (.c (.bool false))⟩]
abbrev c12r13 : List GOp := [⟨none, (some 54), .mv 54 (.t 5 false)⟩,
  ⟨none, (some 55), .build 55 [(.int .i64 0), (.str []), (.oslice 1 []), (.oslice 4 []), (.str []), (.int .i64 0)] [(4, 1, (.t 54 false)), (5, 1, (.c (.int .i64 10)))]⟩,
  ⟨none, none, .bstore 2 none (.t 55 true) 6⟩]
abbrev c12s14 : ACode := (.seq (.reg c12r13 [2]) .ret)
abbrev c12s15 : ACode := (.cond (.t 53 false) c12s14 .skip)
abbrev c12r16 : List GOp := [⟨none, (some 56), .baddr 56 6 0⟩,
  ⟨none, (some 57), .bload 57 6 (some 56) none false⟩,
  ⟨none, (some 58), .bin 58 .eql false (.t 57 false) (.c (.int .i64 0))⟩]
abbrev c12s17 : ACode := (.cond (.t 58 false) (.exit 1) .skip)
abbrev c12r18 : List GOp := [⟨none, (some 59), .mv 59 (.t 5 false)⟩,
  ⟨none, (some 60), .bin 60 .eql false (.t 59 false) (.c (.str [115, 101, 114, 118, 105, 99, 101, 115]))⟩]
abbrev c12r19 : List GOp := [⟨none, (some 61), .bload 61 6 none (some 4) false⟩,
  ⟨none, (some 62), .call (some 62) 26 [(.t 61 false)]⟩,
  ⟨none, (some 7), .balloc 7 (.agg [(.int .i64 0), (.str []), (.oslice 1 []), (.oslice 4 []), (.str []), (.int .i64 0)])⟩,
  ⟨none, none, .bstore 7 none (.t 62 true) 6⟩]
abbrev c12r20 : List GOp := [⟨none, (some 63), .baddr 63 7 5⟩,
  ⟨none, (some 64), .bload 64 7 (some 63) none false⟩,
  ⟨none, (some 65), .bin 65 .neq false (.t 64 false) (.c (.int .i64 0))⟩]
abbrev c12r21 : List GOp := [⟨none, (some 66), .bload 66 7 none (some 6) false⟩,
  ⟨none, none, .bstore 2 none (.t 66 true) 6⟩]
abbrev c12s22 : ACode := (.seq (.reg c12r21 [2]) .ret)
abbrev c12s23 : ACode := (.cond (.t 65 false) c12s22 .skip)
abbrev c12r24 : List GOp := [⟨none, (some 67), .baddr 67 7 0⟩,
  ⟨none, (some 68), .bload 68 7 (some 67) (some 4) false⟩,
  ⟨none, none, .bstore 6 none (.t 68 true) 4⟩]
abbrev c12s25 : ACode := (.seq (.seq (.reg c12r20 [65]) c12s23) (.reg c12r24 [6]))
abbrev c12s26 : ACode := (.seq (.reg c12r19 [7]) c12s25)
abbrev c12r27 : List GOp := [⟨none, (some 69), .mv 69 (.t 5 false)⟩,
  ⟨none, (some 70), .bin 70 .eql false (.t 69 false) (.c (.str [110, 97, 109, 101]))⟩]
abbrev c12r28 : List GOp := [⟨none, (some 71), .baddr 71 6 0⟩,
  ⟨none, (some 72), .bload 72 6 (some 71) none false⟩,
  ⟨none, (some 73), .bin 73 .neq false (.t 72 false) (.c (.int .i64 1))⟩,
  ⟨none, (some 74), .mv 74 (.t 73 true)⟩,
  ⟨(some (74, false)), (some 75), .baddr 75 6 1⟩,
  ⟨(some (74, false)), (some 76), .bload 76 6 (some 75) none false⟩,
  ⟨(some (74, false)), (some 77), .call (some 77) 27 [(.t 76 false)]⟩,
  ⟨(some (74, false)), (some 78), .un 78 .not (.t 77 false)⟩,
  ⟨none, (some 79), .pick 79 (.t 74 false) (.c (.bool true)) (.t 78 false)⟩]
abbrev c12r29 : List GOp := [⟨none, (some 80), .mv 80 (.t 5 false)⟩,
  ⟨none, (some 81), .build 81 [(.int .i64 0), (.str []), (.oslice 1 []), (.oslice 4 []), (.str []), (.int .i64 0)] [(4, 1, (.t 80 false)), (5, 1, (.c (.int .i64 10)))]⟩,
  ⟨none, none, .bstore 2 none (.t 81 true) 6⟩]
abbrev c12s30 : ACode := (.seq (.reg c12r29 [2]) .ret)
abbrev c12s31 : ACode := (.cond (.t 79 false) c12s30 .skip)
abbrev c12s32 : ACode := (.seq (.reg c12r28 [79]) c12s31)
abbrev c12r33 : List GOp := [⟨none, (some 83), .bload 83 6 none (some 4) false⟩,
  ⟨none, (some 84), .call (some 84) 28 [(.t 83 false)]⟩,
  ⟨none, (some 82), .mv 82 (.t 84 true)⟩,
  ⟨none, (some 85), .extract 85 (.t 82 false) 0⟩,
  ⟨none, (some 86), .extract 86 (.t 82 false) 1⟩,
  ⟨none, (some 8), .balloc 8 (.agg [(.int .i64 0), (.str []), (.oslice 1 []), (.oslice 4 [])])⟩,
  ⟨none, none, .bstore 8 none (.t 85 true) 4⟩,
  ⟨none, (some 9), .mv 9 (.t 86 true)⟩]
abbrev c12r34 : List GOp := [⟨none, (some 87), .mv 87 (.t 9 false)⟩,
  ⟨none, (some 88), .un 88 .not (.t 87 false)⟩]
abbrev c12r35 : List GOp := [⟨none, (some 89), .mv 89 (.t 5 false)⟩,
  ⟨none, (some 90), .build 90 [(.int .i64 0), (.str []), (.oslice 1 []), (.oslice 4 []), (.str []), (.int .i64 0)] [(4, 1, (.t 89 false)), (5, 1, (.c (.int .i64 10)))]⟩,
  ⟨none, none, .bstore 2 none (.t 90 true) 6⟩]
abbrev c12s36 : ACode := (.seq (.reg c12r35 [2]) .ret)
abbrev c12s37 : ACode := (.cond (.t 88 false) c12s36 .skip)
abbrev c12r38 : List GOp := [⟨none, (some 91), .bload 91 8 none (some 4) false⟩,
  ⟨none, none, .bstore 6 none (.t 91 true) 4⟩]
abbrev c12s39 : ACode := (.seq (.seq (.reg c12r34 [88]) c12s37) (.reg c12r38 [6]))
abbrev c12s40 : ACode := (.seq (.reg c12r33 [8, 9]) c12s39)
abbrev c12s41 : ACode := (.cond (.t 70 false) c12s32 c12s40)
abbrev c12s42 : ACode := (.seq (.reg c12r27 [70]) c12s41)
abbrev c12s43 : ACode := (.cond (.t 60 false) c12s26 c12s42)
abbrev c12r44 : List GOp := [⟨none, (some 92), .bload 92 3 none (some 4) false⟩,
  ⟨none, (some 93), .mv 93 (.t 5 false)⟩,
  ⟨none, (some 94), .bload 94 6 none (some 4) false⟩,
  ⟨none, (some 95), .call (some 95) 29 [(.t 92 false), (.t 93 false), (.t 94 false)]⟩,
  ⟨none, none, .bstore 3 none (.t 95 true) 4⟩]
abbrev c12s45 : ACode := (.seq (.seq (.reg c12r18 [60]) c12s43) (.reg c12r44 [3]))
abbrev c12s46 : ACode := (.seq (.seq (.reg c12r16 [58]) c12s17) c12s45)
abbrev c12s47 : ACode := (.seq (.seq (.reg c12r12 [53]) c12s15) c12s46)
abbrev c12s48 : ACode := (.seq (.seq (.reg c12r10 [39]) c12s11) c12s47)
abbrev c12s49 : ACode := (.seq (.reg c12r9 [6, 5]) c12s48)
abbrev c12r50 : List GOp := [⟨none, (some 26), .mv 26 (.t 4 false)⟩,
  ⟨none, (some 27), .bin 27 .add false (.t 26 false) (.c (.int .i64 1))⟩,
  ⟨none, (some 4), .mv 4 (.t 27 true)⟩]
abbrev c12s51 : ACode := (.seq (.block 1 c12s49) (.reg c12r50 [4]))
abbrev c12s52 : ACode := (.seq (.seq (.reg c12r7 [25]) c12s8) c12s51)
abbrev c12s53 : ACode := (.loop c12s52)
abbrev c12s54 : ACode := (.block 0 c12s53)
abbrev c12r55 : List GOp := [⟨none, (some 96), .bload 96 3 none (some 4) false⟩,
  ⟨none, (some 97), .call (some 97) 30 [(.t 96 false)]⟩,
  ⟨none, (some 10), .balloc 10 (.agg [(.int .i64 0), (.str []), (.oslice 1 []), (.oslice 4 [])])⟩,
  ⟨none, none, .bstore 10 none (.t 97 true) 4⟩]
abbrev c12r56 : List GOp := [⟨none, (some 98), .bload 98 10 none (some 4) false⟩,
  ⟨none, (some 99), .call (some 99) 31 [(.t 98 false)]⟩,
  ⟨none, (some 100), .un 100 .not (.t 99 false)⟩]
abbrev c12r57 : List GOp := [⟨none, (some 101), .build 101 [(.int .i64 0), (.str []), (.oslice 1 []), (.oslice 4 []), (.str []), (.int .i64 0)] [(5, 1, (.c (.int .i64 9)))]⟩,
  ⟨none, none, .bstore 2 none (.t 101 true) 6⟩]
abbrev c12s58 : ACode := (.seq (.reg c12r57 [2]) .ret)
abbrev c12s59 : ACode := (.cond (.t 100 false) c12s58 .skip)
abbrev c12r60 : List GOp := [⟨none, (some 102), .bload 102 10 none (some 4) false⟩,
  ⟨none, (some 103), .build 103 [(.int .i64 0), (.str []), (.oslice 1 []), (.oslice 4 []), (.str []), (.int .i64 0)] [(0, 4, (.t 102 false))]⟩,
  ⟨none, none, .bstore 2 none (.t 103 true) 6⟩]
abbrev c12s61 : ACode := (.seq (.reg c12r60 [2]) .ret)
abbrev c12s62 : ACode := (.seq (.seq (.reg c12r56 [100]) c12s59) c12s61)
abbrev c12s63 : ACode := (.seq (.reg c12r55 [10]) c12s62)
abbrev c12s64 : ACode := (.seq (.seq (.reg c12r6 [4]) c12s54) c12s63)
abbrev c12s65 : ACode := (.seq (.reg c12r5 [3]) c12s64)
abbrev c12s66 : ACode := (.seq (.seq (.reg c12r1 [18]) c12s4) c12s65)
abbrev c12 : ACode := (.seq (.reg c12r0 [1, 2]) c12s66)
def a12 : AFn := ⟨[1, 2, 3, 6, 7, 8, 10], [0, 1, 2, 3, 4, 5, 6, 7, 8, 9, 10, 18, 25, 39, 53, 58, 60, 65, 70, 79, 88, 100], [13, 19, 20, 27, 32, 37, 41, 45, 49, 55, 62, 66, 68, 73, 81, 84, 85, 86, 90, 91, 95, 97, 101, 103], [], [(75, 6), (71, 6), (67, 7), (63, 7), (56, 6), (33, 1), (28, 1), (22, 1), (15, 1), (11, 1)], [(75, 1), (71, 0), (67, 0), (63, 5), (56, 0), (33, 3), (28, 2), (22, 2), (15, 0), (11, 0)], [], [], c12, [.cell 2 (some 6)]⟩
theorem is12 : IsFn Tryz.prog 12 1 a12 := isFn_of mix Tryz.func12 (by kernel_rfl) (by kernel_rfl) (by kernel_rfl) (by kernel_rfl) (by kernel_rfl)
theorem sound12 {args : List AV} {r : AV} (hl : args.length = 1) (h : awp Tryz.prog c12 (unw Tryz.prog [] (Ends [.cell 2 (some 6)] r)) (initSt args)) : Sound Tryz.prog 12 args r := sound_of is12 hl h
theorem total12 {args : List AV} {Φ : AV → Prop} (hl : args.length = 1) (h : awp Tryz.prog c12 (unw Tryz.prog [] (EndsP [.cell 2 (some 6)] Φ)) (initSt args)) : Total Tryz.prog 12 args Φ := total_of is12 hl h

/-! longshore/longshoreref19.foreign -/
abbrev c25r0 : List GOp := [⟨none, (some 2), .mv 2 (.c (.bool false))⟩]
abbrev c25r1 : List GOp := [⟨none, (some 3), .mv 3 (.t 0 false)⟩,
  ⟨none, (some 4), .len 4 true (.t 3 false)⟩,
  ⟨none, (some 5), .bin 5 .geq false (.t 4 false) (.c (.int .i64 2))⟩,
  ⟨none, (some 6), .mv 6 (.t 5 true)⟩,
  ⟨(some (6, true)), (some 7), .mv 7 (.t 0 false)⟩,
  ⟨(some (6, true)), (some 8), .sslice 8 (.t 7 false) none (some (.c (.int .i64 2)))⟩,
  ⟨(some (6, true)), (some 9), .bin 9 .eql false (.t 8 false) (.c (.str [120, 45]))⟩,
  ⟨none, (some 10), .pick 10 (.t 6 false) (.t 9 false) (.c (.bool false))⟩,
  ⟨none, (some 2), .mv 2 (.t 10 true)⟩]
abbrev c25s2 : ACode := (.seq (.reg c25r1 [2]) .ret)
abbrev c25 : ACode := (.seq (.reg c25r0 [2]) c25s2)
def a25 : AFn := ⟨[], [0, 2], [5, 10], [], [], [], [], [], c25, [.tmp 2]⟩
theorem is25 : IsFn Tryz.prog 25 1 a25 := isFn_of mix Tryz.func25 (by kernel_rfl) (by kernel_rfl) (by kernel_rfl) (by kernel_rfl) (by kernel_rfl)
theorem sound25 {args : List AV} {r : AV} (hl : args.length = 1) (h : awp Tryz.prog c25 (unw Tryz.prog [] (Ends [.tmp 2] r)) (initSt args)) : Sound Tryz.prog 25 args r := sound_of is25 hl h
theorem total25 {args : List AV} {Φ : AV → Prop} (hl : args.length = 1) (h : awp Tryz.prog c25 (unw Tryz.prog [] (EndsP [.tmp 2] Φ)) (initSt args)) : Total Tryz.prog 25 args Φ := total_of is25 hl h

/-! longshore/longshoreref19.services -/
abbrev c26r0 : List GOp := [⟨none, (some 1), .bbox 1 (.t 0 false)⟩,
  ⟨none, (some 2), .balloc 2 (.agg [(.int .i64 0), (.str []), (.oslice 1 []), (.oslice 4 []), (.str []), (.int .i64 0)])⟩]
abbrev c26r1 : List GOp := [⟨none, (some 8), .baddr 8 1 0⟩,
  ⟨none, (some 9), .bload 9 1 (some 8) none false⟩,
  ⟨none, (some 10), .bin 10 .neq false (.t 9 false) (.c (.int .i64 3))⟩]
abbrev c26r2 : List GOp := [⟨none, (some 11), .build 11 [(.int .i64 0), (.str []), (.oslice 1 []), (.oslice 4 []), (.str []), (.int .i64 0)] [(4, 1, (.c (.str [115, 101, 114, 118, 105, 99, 101, 115]))), (5, 1, (.c (.int .i64 10)))]⟩,
  ⟨none, none, .bstore 2 none (.t 11 true) 6⟩]
abbrev c26s3 : ACode := (.seq (.reg c26r2 [2]) .ret)
abbrev c26s4 : ACode := (.cond (.t 10 false) c26s3 .skip)
abbrev c26r5 : List GOp := [⟨none, (some 12), .build 12 [(.int .i64 0), (.str []), (.oslice 1 []), (.oslice 4 [])] [(0, 1, (.c (.int .i64 3)))]⟩,
  ⟨none, (some 3), .balloc 3 (.agg [(.int .i64 0), (.str []), (.oslice 1 []), (.oslice 4 [])])⟩,
  ⟨none, none, .bstore 3 none (.t 12 true) 4⟩]
abbrev c26r6 : List GOp := [⟨none, (some 4), .mv 4 (.c (.int .i64 0))⟩]
abbrev c26r7 : List GOp := [⟨none, (some 13), .mv 13 (.t 4 false)⟩,
  ⟨none, (some 14), .baddr 14 1 2⟩,
  ⟨none, (some 15), .bload 15 1 (some 14) none false⟩,
  ⟨none, (some 16), .len 16 false (.t 15 false)⟩,
  ⟨none, (some 17), .bin 17 .lss false (.t 13 false) (.t 16 false)⟩]
abbrev c26s8 : ACode := (.cond (.t 17 false) .skip (.exit 0))
abbrev c26r9 : List GOp := [⟨none, (some 20), .baddr 20 1 2⟩,
  ⟨none, (some 21), .bload 21 1 (some 20) none false⟩,
  ⟨none, (some 22), .mv 22 (.t 4 false)⟩,
  ⟨none, (some 23), .idx 23 (.t 21 false) (.t 22 false) 1⟩,
  ⟨none, (some 24), .vload 24 23 none⟩,
  ⟨none, (some 25), .call (some 25) 43 [(.t 24 false)]⟩,
  ⟨none, (some 26), .un 26 .not (.t 25 false)⟩]
abbrev c26r10 : List GOp := [⟨none, (some 27), .baddr 27 1 2⟩,
  ⟨none, (some 28), .bload 28 1 (some 27) none false⟩,
  ⟨none, (some 29), .mv 29 (.t 4 false)⟩,
  ⟨none, (some 30), .idx 30 (.t 28 false) (.t 29 false) 1⟩,
  ⟨none, (some 31), .vload 31 30 none⟩,
  ⟨none, (some 32), .bin 32 .add false (.c (.str [115, 101, 114, 118, 105, 99, 101, 115, 46])) (.t 31 false)⟩,
  ⟨none, (some 5), .mv 5 (.t 32 true)⟩]
abbrev c26r11 : List GOp := [⟨none, (some 33), .baddr 33 1 2⟩,
  ⟨none, (some 34), .bload 34 1 (some 33) none false⟩,
  ⟨none, (some 35), .mv 35 (.t 4 false)⟩,
  ⟨none, (some 36), .idx 36 (.t 34 false) (.t 35 false) 1⟩,
  ⟨none, (some 37), .vload 37 36 none⟩,
  ⟨none, (some 38), .bin 38 .eql false (.t 37 false) (.c (.str []))⟩]
abbrev c26r12 : List GOp := [⟨none, (some 5), .mv 5 (.c (.str [115, 101, 114, 118, 105, 99, 101, 115]))⟩]
abbrev c26s13 : ACode := (.cond (.t 38 false) (.reg c26r12 [5]) .skip)
abbrev c26r14 : List GOp := [⟨none, (some 39), .mv 39 (.t 5 false)⟩,
  ⟨none, (some 40), .build 40 [(.int .i64 0), (.str []), (.oslice 1 []), (.oslice 4 []), (.str []), (.int .i64 0)] [(4, 1, (.t 39 false)), (5, 1, (.c (.int .i64 10)))]⟩,
  ⟨none, none, .bstore 2 none (.t 40 true) 6⟩]
abbrev c26s15 : ACode := (.seq (.reg c26r14 [2]) .ret)
abbrev c26s16 : ACode := (.seq (.seq (.reg c26r11 [38]) c26s13) c26s15)
abbrev c26s17 : ACode := (.seq (.reg c26r10 [5]) c26s16)
abbrev c26s18 : ACode := (.cond (.t 26 false) c26s17 .skip)
abbrev c26r19 : List GOp := [⟨none, (some 41), .baddr 41 1 3⟩,
  ⟨none, (some 42), .bload 42 1 (some 41) none false⟩,
  ⟨none, (some 43), .mv 43 (.t 4 false)⟩,
  ⟨none, (some 44), .idx 44 (.t 42 false) (.t 43 false) 4⟩,
  ⟨none, (some 45), .vload 45 44 (some 4)⟩,
  ⟨none, (some 46), .call (some 46) 44 [(.t 45 false)]⟩,
  ⟨none, (some 6), .balloc 6 (.agg [(.int .i64 0), (.str []), (.oslice 1 []), (.oslice 4 []), (.str []), (.int .i64 0)])⟩,
  ⟨none, none, .bstore 6 none (.t 46 true) 6⟩]
abbrev c26r20 : List GOp := [⟨none, (some 47), .baddr 47 6 5⟩,
  ⟨none, (some 48), .bload 48 6 (some 47) none false⟩,
  ⟨none, (some 49), .bin 49 .neq false (.t 48 false) (.c (.int .i64 0))⟩]
abbrev c26r21 : List GOp := [⟨none, (some 50), .baddr 50 1 2⟩,
  ⟨none, (some 51), .bload 51 1 (some 50) none false⟩,
  ⟨none, (some 52), .mv 52 (.t 4 false)⟩,
  ⟨none, (some 53), .idx 53 (.t 51 false) (.t 52 false) 1⟩,
  ⟨none, (some 54), .vload 54 53 none⟩,
  ⟨none, (some 55), .bin 55 .add false (.c (.str [115, 101, 114, 118, 105, 99, 101, 115, 46])) (.t 54 false)⟩,
  ⟨none, (some 7), .mv 7 (.t 55 true)⟩]
abbrev c26r22 : List GOp := [⟨none, (some 56), .baddr 56 6 4⟩,
  ⟨none, (some 57), .bload 57 6 (some 56) none false⟩,
  ⟨none, (some 58), .bin 58 .neq false (.t 57 false) (.c (.str []))⟩]
abbrev c26r23 : List GOp := [⟨none, (some 59), .mv 59 (.t 7 false)⟩,
  ⟨none, (some 60), .bin 60 .add false (.t 59 false) (.c (.str [46]))⟩,
  ⟨none, (some 61), .baddr 61 6 4⟩,
  ⟨none, (some 62), .bload 62 6 (some 61) none false⟩,
  ⟨none, (some 63), .bin 63 .add false (.t 60 false) (.t 62 false)⟩,
  ⟨none, (some 7), .mv 7 (.t 63 true)⟩]
abbrev c26s24 : ACode := (.cond (.t 58 false) (.reg c26r23 [7]) .skip)
abbrev c26r25 : List GOp := [⟨none, (some 64), .mv 64 (.t 7 false)⟩,
  ⟨none, (some 65), .baddr 65 6 5⟩,
  ⟨none, (some 66), .bload 66 6 (some 65) none false⟩,
  ⟨none, (some 67), .build 67 [(.int .i64 0), (.str []), (.oslice 1 []), (.oslice 4 []), (.str []), (.int .i64 0)] [(4, 1, (.t 64 false)), (5, 1, (.t 66 false))]⟩,
  ⟨none, none, .bstore 2 none (.t 67 true) 6⟩]
abbrev c26s26 : ACode := (.seq (.reg c26r25 [2]) .ret)
abbrev c26s27 : ACode := (.seq (.seq (.reg c26r22 [58]) c26s24) c26s26)
abbrev c26s28 : ACode := (.seq (.reg c26r21 [7]) c26s27)
abbrev c26s29 : ACode := (.cond (.t 49 false) c26s28 .skip)
abbrev c26r30 : List GOp := [⟨none, (some 68), .bload 68 3 none (some 4) false⟩,
  ⟨none, (some 69), .baddr 69 1 2⟩,
  ⟨none, (some 70), .bload 70 1 (some 69) none false⟩,
  ⟨none, (some 71), .mv 71 (.t 4 false)⟩,
  ⟨none, (some 72), .idx 72 (.t 70 false) (.t 71 false) 1⟩,
  ⟨none, (some 73), .vload 73 72 none⟩,
  ⟨none, (some 74), .baddr 74 6 0⟩,
  ⟨none, (some 75), .bload 75 6 (some 74) (some 4) false⟩,
  ⟨none, (some 76), .call (some 76) 29 [(.t 68 false), (.t 73 false), (.t 75 false)]⟩,
  ⟨none, none, .bstore 3 none (.t 76 true) 4⟩]
abbrev c26s31 : ACode := (.seq (.seq (.reg c26r20 [49]) c26s29) (.reg c26r30 [3]))
abbrev c26s32 : ACode := (.seq (.reg c26r19 [6]) c26s31)
abbrev c26s33 : ACode := (.seq (.seq (.reg c26r9 [26]) c26s18) c26s32)
abbrev c26r34 : List GOp := [⟨none, (some 18), .mv 18 (.t 4 false)⟩,
  ⟨none, (some 19), .bin 19 .add false (.t 18 false) (.c (.int .i64 1))⟩,
  ⟨none, (some 4), .mv 4 (.t 19 true)⟩]
abbrev c26s35 : ACode := (.seq (.block 1 c26s33) (.reg c26r34 [4]))
abbrev c26s36 : ACode := (.seq (.seq (.reg c26r7 [17]) c26s8) c26s35)
abbrev c26s37 : ACode := (.loop c26s36)
abbrev c26s38 : ACode := (.block 0 c26s37)
abbrev c26r39 : List GOp := [⟨none, (some 77), .baddr 77 3 2⟩,
  ⟨none, (some 78), .bload 78 3 (some 77) none false⟩,
  ⟨none, (some 79), .len 79 false (.t 78 false)⟩,
  ⟨none, (some 80), .bin 80 .gtr false (.t 79 false) (.c (.int .i64 16))⟩]
abbrev c26r40 : List GOp := [⟨none, (some 81), .build 81 [(.int .i64 0), (.str []), (.oslice 1 []), (.oslice 4 []), (.str []), (.int .i64 0)] [(4, 1, (.c (.str [115, 101, 114, 118, 105, 99, 101, 115]))), (5, 1, (.c (.int .i64 9)))]⟩,
  ⟨none, none, .bstore 2 none (.t 81 true) 6⟩]
abbrev c26s41 : ACode := (.seq (.reg c26r40 [2]) .ret)
abbrev c26s42 : ACode := (.cond (.t 80 false) c26s41 .skip)
abbrev c26r43 : List GOp := [⟨none, (some 82), .bload 82 3 none (some 4) false⟩,
  ⟨none, (some 83), .call (some 83) 30 [(.t 82 false)]⟩,
  ⟨none, (some 84), .build 84 [(.int .i64 0), (.str []), (.oslice 1 []), (.oslice 4 []), (.str []), (.int .i64 0)] [(0, 4, (.t 83 false))]⟩,
  ⟨none, none, .bstore 2 none (.t 84 true) 6⟩]
abbrev c26s44 : ACode := (.seq (.reg c26r43 [2]) .ret)
abbrev c26s45 : ACode := (.seq (.seq (.reg c26r39 [80]) c26s42) c26s44)
abbrev c26s46 : ACode := (.seq (.seq (.reg c26r6 [4]) c26s38) c26s45)
abbrev c26s47 : ACode := (.seq (.reg c26r5 [3]) c26s46)
abbrev c26s48 : ACode := (.seq (.seq (.reg c26r1 [10]) c26s4) c26s47)
abbrev c26 : ACode := (.seq (.reg c26r0 [1, 2]) c26s48)
def a26 : AFn := ⟨[1, 2, 3, 6], [0, 1, 2, 3, 4, 5, 6, 7, 10, 17, 26, 38, 49, 58, 80], [11, 12, 19, 32, 40, 46, 55, 63, 67, 76, 81, 84], [], [(77, 3), (74, 6), (69, 1), (65, 6), (61, 6), (56, 6), (50, 1), (47, 6), (41, 1), (33, 1), (27, 1), (20, 1), (14, 1), (8, 1)], [(77, 2), (74, 0), (69, 2), (65, 5), (61, 4), (56, 4), (50, 2), (47, 5), (41, 3), (33, 2), (27, 2), (20, 2), (14, 2), (8, 0)], [], [], c26, [.cell 2 (some 6)]⟩
theorem is26 : IsFn Tryz.prog 26 1 a26 := isFn_of mix Tryz.func26 (by kernel_rfl) (by kernel_rfl) (by kernel_rfl) (by kernel_rfl) (by kernel_rfl)
theorem sound26 {args : List AV} {r : AV} (hl : args.length = 1) (h : awp Tryz.prog c26 (unw Tryz.prog [] (Ends [.cell 2 (some 6)] r)) (initSt args)) : Sound Tryz.prog 26 args r := sound_of is26 hl h
theorem total26 {args : List AV} {Φ : AV → Prop} (hl : args.length = 1) (h : awp Tryz.prog c26 (unw Tryz.prog [] (EndsP [.cell 2 (some 6)] Φ)) (initSt args)) : Total Tryz.prog 26 args Φ := total_of is26 hl h

/-! longshore/longshoreref18.Set -/
abbrev c28r0 : List GOp := [⟨none, (some 1), .bbox 1 (.t 0 false)⟩,
  ⟨none, (some 2), .balloc 2 (.agg [(.int .i64 0), (.str []), (.oslice 1 []), (.oslice 4 [])])⟩,
  ⟨none, (some 3), .mv 3 (.c (.bool false))⟩]
abbrev c28r1 : List GOp := [⟨none, (some 10), .bload 10 1 none (some 4) false⟩,
  ⟨none, (some 11), .call (some 11) 46 [(.t 10 false)]⟩,
  ⟨none, (some 9), .mv 9 (.t 11 true)⟩,
  ⟨none, (some 12), .extract 12 (.t 9 false) 0⟩,
  ⟨none, (some 13), .extract 13 (.t 9 false) 1⟩,
  ⟨none, (some 4), .mv 4 (.t 12 true)⟩,
  ⟨none, (some 5), .mv 5 (.t 13 true)⟩]
abbrev c28r2 : List GOp := [⟨none, (some 14), .baddr 14 1 0⟩,
  ⟨none, (some 15), .bload 15 1 (some 14) none false⟩,
  ⟨none, (some 16), .bin 16 .eql false (.t 15 false) (.c (.int .i64 3))⟩,
  ⟨none, (some 17), .mv 17 (.t 16 true)⟩,
  ⟨(some (17, true)), (some 18), .baddr 18 1 2⟩,
  ⟨(some (17, true)), (some 19), .bload 19 1 (some 18) none false⟩,
  ⟨(some (17, true)), (some 20), .len 20 false (.t 19 false)⟩,
  ⟨(some (17, true)), (some 21), .bin 21 .leq false (.t 20 false) (.c (.int .i64 32))⟩,
  ⟨none, (some 22), .pick 22 (.t 17 false) (.t 21 false) (.c (.bool false))⟩]
abbrev c28r3 : List GOp := [⟨none, (some 23), .baddr 23 1 2⟩,
  ⟨none, (some 24), .bload 24 1 (some 23) none false⟩,
  ⟨none, (some 4), .mv 4 (.t 24 true)⟩]
abbrev c28r4 : List GOp := [⟨none, (some 5), .mv 5 (.c (.bool true))⟩]
abbrev c28r5 : List GOp := [⟨none, (some 6), .mv 6 (.c (.int .i64 0))⟩]
abbrev c28r6 : List GOp := [⟨none, (some 25), .mv 25 (.t 6 false)⟩,
  ⟨none, (some 26), .baddr 26 1 3⟩,
  ⟨none, (some 27), .bload 27 1 (some 26) none false⟩,
  ⟨none, (some 28), .len 28 false (.t 27 false)⟩,
  ⟨none, (some 29), .bin 29 .lss false (.t 25 false) (.t 28 false)⟩]
abbrev c28s7 : ACode := (.cond (.t 29 false) .skip (.exit 0))
abbrev c28r8 : List GOp := [⟨none, (some 32), .baddr 32 1 3⟩,
  ⟨none, (some 33), .bload 33 1 (some 32) none false⟩,
  ⟨none, (some 34), .mv 34 (.t 6 false)⟩,
  ⟨none, (some 35), .idx 35 (.t 33 false) (.t 34 false) 4⟩,
  ⟨none, (some 36), .paddr 36 35 none 0⟩,
  ⟨none, (some 37), .vload 37 36 none⟩,
  ⟨none, (some 38), .bin 38 .neq false (.t 37 false) (.c (.int .i64 0))⟩,
  ⟨none, (some 39), .mv 39 (.t 38 true)⟩,
  ⟨(some (39, true)), (some 40), .baddr 40 1 3⟩,
  ⟨(some (39, true)), (some 41), .bload 41 1 (some 40) none false⟩,
  ⟨(some (39, true)), (some 42), .mv 42 (.t 6 false)⟩,
  ⟨(some (39, true)), (some 43), .idx 43 (.t 41 false) (.t 42 false) 4⟩,
  ⟨(some (39, true)), (some 44), .paddr 44 43 none 0⟩,
  ⟨(some (39, true)), (some 45), .vload 45 44 none⟩,
  ⟨(some (39, true)), (some 46), .bin 46 .neq false (.t 45 false) (.c (.int .i64 3))⟩,
  ⟨(some (39, true)), (some 47), .mv 47 (.t 46 true)⟩,
  ⟨(some (47, false)), (some 48), .baddr 48 1 3⟩,
  ⟨(some (47, false)), (some 49), .bload 49 1 (some 48) none false⟩,
  ⟨(some (47, false)), (some 50), .mv 50 (.t 6 false)⟩,
  ⟨(some (47, false)), (some 51), .idx 51 (.t 49 false) (.t 50 false) 4⟩,
  ⟨(some (47, false)), (some 52), .paddr 52 51 none 2⟩,
  ⟨(some (47, false)), (some 53), .vload 53 52 none⟩,
  ⟨(some (47, false)), (some 54), .len 54 false (.t 53 false)⟩,
  ⟨(some (47, false)), (some 55), .bin 55 .gtr false (.t 54 false) (.c (.int .i64 0))⟩,
  ⟨(some (39, true)), (some 56), .pick 56 (.t 47 false) (.c (.bool true)) (.t 55 false)⟩,
  ⟨none, (some 57), .pick 57 (.t 39 false) (.t 56 false) (.c (.bool false))⟩]
abbrev c28r9 : List GOp := [⟨none, (some 5), .mv 5 (.c (.bool false))⟩]
abbrev c28s10 : ACode := (.cond (.t 57 false) (.reg c28r9 [5]) .skip)
abbrev c28s11 : ACode := (.seq (.reg c28r8 [57]) c28s10)
abbrev c28r12 : List GOp := [⟨none, (some 30), .mv 30 (.t 6 false)⟩,
  ⟨none, (some 31), .bin 31 .add false (.t 30 false) (.c (.int .i64 1))⟩,
  ⟨none, (some 6), .mv 6 (.t 31 true)⟩]
abbrev c28s13 : ACode := (.seq (.block 1 c28s11) (.reg c28r12 [6]))
abbrev c28s14 : ACode := (.seq (.seq (.reg c28r6 [29]) c28s7) c28s13)
abbrev c28s15 : ACode := (.loop c28s14)
abbrev c28s16 : ACode := (.block 0 c28s15)
abbrev c28s17 : ACode := (.seq (.reg c28r5 [6]) c28s16)
abbrev c28s18 : ACode := (.seq (.reg c28r4 [5]) c28s17)
abbrev c28s19 : ACode := (.seq (.reg c28r3 [4]) c28s18)
abbrev c28s20 : ACode := (.cond (.t 22 false) c28s19 .skip)
abbrev c28r21 : List GOp := [⟨none, (some 58), .build 58 [(.int .i64 0), (.str []), (.oslice 1 []), (.oslice 4 [])] []⟩,
  ⟨none, (some 7), .balloc 7 (.agg [(.int .i64 0), (.str []), (.oslice 1 []), (.oslice 4 [])])⟩,
  ⟨none, none, .bstore 7 none (.t 58 true) 4⟩]
abbrev c28r22 : List GOp := [⟨none, (some 8), .mv 8 (.c (.int .i64 0))⟩]
abbrev c28r23 : List GOp := [⟨none, (some 59), .mv 59 (.t 8 false)⟩,
  ⟨none, (some 60), .mv 60 (.t 4 false)⟩,
  ⟨none, (some 61), .len 61 false (.t 60 false)⟩,
  ⟨none, (some 62), .bin 62 .lss false (.t 59 false) (.t 61 false)⟩,
  ⟨none, (some 63), .mv 63 (.t 62 true)⟩,
  ⟨(some (63, true)), (some 64), .mv 64 (.t 5 false)⟩,
  ⟨none, (some 65), .pick 65 (.t 63 false) (.t 64 false) (.c (.bool false))⟩]
abbrev c28s24 : ACode := (.cond (.t 65 false) .skip (.exit 2))
abbrev c28r25 : List GOp := [⟨none, (some 68), .mv 68 (.t 4 false)⟩,
  ⟨none, (some 69), .mv 69 (.t 8 false)⟩,
  ⟨none, (some 70), .idx 70 (.t 68 false) (.t 69 false) 1⟩,
  ⟨none, (some 71), .vload 71 70 none⟩,
  ⟨none, (some 72), .call (some 72) 43 [(.t 71 false)]⟩,
  ⟨none, (some 5), .mv 5 (.t 72 true)⟩]
abbrev c28r26 : List GOp := [⟨none, (some 73), .bload 73 7 none (some 4) false⟩,
  ⟨none, (some 74), .mv 74 (.t 4 false)⟩,
  ⟨none, (some 75), .mv 75 (.t 8 false)⟩,
  ⟨none, (some 76), .idx 76 (.t 74 false) (.t 75 false) 1⟩,
  ⟨none, (some 77), .vload 77 76 none⟩,
  ⟨none, (some 78), .build 78 [(.int .i64 0), (.str []), (.oslice 1 []), (.oslice 4 [])] []⟩,
  ⟨none, (some 79), .call (some 79) 29 [(.t 73 false), (.t 77 false), (.t 78 false)]⟩,
  ⟨none, none, .bstore 7 none (.t 79 true) 4⟩]
abbrev c28s27 : ACode := (.seq (.reg c28r25 [5]) (.reg c28r26 [7]))
abbrev c28r28 : List GOp := [⟨none, (some 66), .mv 66 (.t 8 false)⟩,
  ⟨none, (some 67), .bin 67 .add false (.t 66 false) (.c (.int .i64 1))⟩,
  ⟨none, (some 8), .mv 8 (.t 67 true)⟩]
abbrev c28s29 : ACode := (.seq (.block 3 c28s27) (.reg c28r28 [8]))
abbrev c28s30 : ACode := (.seq (.seq (.reg c28r23 [65]) c28s24) c28s29)
abbrev c28s31 : ACode := (.loop c28s30)
abbrev c28s32 : ACode := (.block 2 c28s31)
abbrev c28r33 : List GOp := [⟨none, (some 80), .bload 80 7 none (some 4) false⟩,
  ⟨none, (some 81), .mv 81 (.t 5 false)⟩,
  ⟨none, (some 82), .call (some 82) 47 [(.t 80 false), (.t 81 false)]⟩,
  ⟨none, (some 83), .extract 83 (.t 82 false) 0⟩,
  ⟨none, (some 84), .extract 84 (.t 82 false) 1⟩,
  ⟨none, none, .bstore 2 none (.t 83 true) 4⟩,
  ⟨none, (some 3), .mv 3 (.t 84 true)⟩]
abbrev c28s34 : ACode := (.seq (.reg c28r33 [2, 3]) .ret)
abbrev c28s35 : ACode := (.seq (.seq (.reg c28r22 [8]) c28s32) c28s34)
abbrev c28s36 : ACode := (.seq (.reg c28r21 [7]) c28s35)
abbrev c28s37 : ACode := (.seq (.seq (.reg c28r2 [22]) c28s20) c28s36)
abbrev c28s38 : ACode := (.seq (.reg c28r1 [4, 5]) c28s37)
abbrev c28 : ACode := (.seq (.reg c28r0 [1, 2, 3]) c28s38)
def a28 : AFn := ⟨[1, 2, 7], [0, 1, 2, 3, 4, 5, 6, 7, 8, 22, 29, 57, 65], [11, 12, 13, 16, 24, 31, 38, 46, 58, 62, 67, 72, 79, 83, 84], [], [(48, 1), (40, 1), (32, 1), (26, 1), (23, 1), (18, 1), (14, 1)], [(48, 3), (40, 3), (32, 3), (26, 3), (23, 2), (18, 2), (14, 0)], [], [], c28, [.cell 2 (some 4), .tmp 3]⟩
theorem is28 : IsFn Tryz.prog 28 1 a28 := isFn_of mix Tryz.func28 (by kernel_rfl) (by kernel_rfl) (by kernel_rfl) (by kernel_rfl) (by kernel_rfl)
theorem sound28 {args : List AV} {r : AV} (hl : args.length = 1) (h : awp Tryz.prog c28 (unw Tryz.prog [] (Ends [.cell 2 (some 4), .tmp 3] r)) (initSt args)) : Sound Tryz.prog 28 args r := sound_of is28 hl h
theorem total28 {args : List AV} {Φ : AV → Prop} (hl : args.length = 1) (h : awp Tryz.prog c28 (unw Tryz.prog [] (EndsP [.cell 2 (some 4), .tmp 3] Φ)) (initSt args)) : Total Tryz.prog 28 args Φ := total_of is28 hl h

/-! longshore/longshoreref19.Service -/
abbrev c44r0 : List GOp := [⟨none, (some 1), .bbox 1 (.t 0 false)⟩,
  ⟨none, (some 2), .balloc 2 (.agg [(.int .i64 0), (.str []), (.oslice 1 []), (.oslice 4 []), (.str []), (.int .i64 0)])⟩]
abbrev c44r1 : List GOp := [⟨none, (some 8), .baddr 8 1 0⟩,
  ⟨none, (some 9), .bload 9 1 (some 8) none false⟩,
  ⟨none, (some 10), .bin 10 .neq false (.t 9 false) (.c (.int .i64 0))⟩,
  ⟨none, (some 11), .mv 11 (.t 10 true)⟩,
  ⟨(some (11, true)), (some 12), .baddr 12 1 0⟩,
  ⟨(some (11, true)), (some 13), .bload 13 1 (some 12) none false⟩,
  ⟨(some (11, true)), (some 14), .bin 14 .neq false (.t 13 false) (.c (.int .i64 3))⟩,
  ⟨none, (some 15), .pick 15 (.t 11 false) (.t 14 false) (.c (.bool false))⟩]
abbrev c44r2 : List GOp := [⟨none, (some 16), .build 16 [(.int .i64 0), (.str []), (.oslice 1 []), (.oslice 4 []), (.str []), (.int .i64 0)] [(5, 1, (.c (.int .i64 10)))]⟩,
  ⟨none, none, .bstore 2 none (.t 16 true) 6⟩]
abbrev c44s3 : ACode := (.seq (.reg c44r2 [2]) .ret)
abbrev c44s4 : ACode := (.cond (.t 15 false) c44s3 .skip)
abbrev c44r5 : List GOp := [⟨none, (some 17), .build 17 [(.int .i64 0), (.str []), (.oslice 1 []), (.oslice 4 [])] [(0, 1, (.c (.int .i64 3)))]⟩,
  ⟨none, (some 3), .balloc 3 (.agg [(.int .i64 0), (.str []), (.oslice 1 []), (.oslice 4 [])])⟩,
  ⟨none, none, .bstore 3 none (.t 17 true) 4⟩]
abbrev c44r6 : List GOp := [⟨none, (some 4), .mv 4 (.c (.int .i64 0))⟩]
abbrev c44r7 : List GOp := [⟨none, (some 18), .mv 18 (.t 4 false)⟩,
  ⟨none, (some 19), .baddr 19 1 2⟩,
  ⟨none, (some 20), .bload 20 1 (some 19) none false⟩,
  ⟨none, (some 21), .len 21 false (.t 20 false)⟩,
  ⟨none, (some 22), .bin 22 .lss false (.t 18 false) (.t 21 false)⟩]
abbrev c44s8 : ACode := (.cond (.t 22 false) .skip (.exit 0))
abbrev c44r9 : List GOp := [⟨none, (some 25), .baddr 25 1 2⟩,
  ⟨none, (some 26), .bload 26 1 (some 25) none false⟩,
  ⟨none, (some 27), .mv 27 (.t 4 false)⟩,
  ⟨none, (some 28), .idx 28 (.t 26 false) (.t 27 false) 1⟩,
  ⟨none, (some 29), .vload 29 28 none⟩,
  ⟨none, (some 30), .call (some 30) 25 [(.t 29 false)]⟩]
abbrev c44s10 : ACode := (.cond (.t 30 false) (.exit 1) .skip)
abbrev c44r11 : List GOp := [⟨none, (some 31), .baddr 31 1 2⟩,
  ⟨none, (some 32), .bload 32 1 (some 31) none false⟩,
  ⟨none, (some 33), .mv 33 (.t 4 false)⟩,
  ⟨none, (some 34), .idx 34 (.t 32 false) (.t 33 false) 1⟩,
  ⟨none, (some 35), .vload 35 34 none⟩,
  ⟨none, (some 36), .call (some 36) 53 [(.t 35 false)]⟩,
  ⟨none, (some 5), .mv 5 (.t 36 true)⟩]
abbrev c44r12 : List GOp := [⟨none, (some 37), .mv 37 (.t 5 false)⟩,
  ⟨none, (some 38), .bin 38 .lss false (.t 37 false) (.c (.int .i64 0))⟩]
abbrev c44r13 : List GOp := [⟨none, (some 39), .baddr 39 1 2⟩,
  ⟨none, (some 40), .bload 40 1 (some 39) none false⟩,
  ⟨none, (some 41), .mv 41 (.t 4 false)⟩,
  ⟨none, (some 42), .idx 42 (.t 40 false) (.t 41 false) 1⟩,
  ⟨none, (some 43), .vload 43 42 none⟩,
  ⟨none, (some 44), .build 44 [(.int .i64 0), (.str []), (.oslice 1 []), (.oslice 4 []), (.str []), (.int .i64 0)] [(4, 1, (.t 43 false)), (5, 1, (.c (.int .i64 10)))]⟩,
  ⟨none, none, .bstore 2 none (.t 44 true) 6⟩]
abbrev c44s14 : ACode := (.seq (.reg c44r13 [2]) .ret)
abbrev c44s15 : ACode := (.cond (.t 38 false) c44s14 .skip)
abbrev c44r16 : List GOp := [⟨none, (some 45), .baddr 45 1 3⟩,
  ⟨none, (some 46), .bload 46 1 (some 45) none false⟩,
  ⟨none, (some 47), .mv 47 (.t 4 false)⟩,
  ⟨none, (some 48), .idx 48 (.t 46 false) (.t 47 false) 4⟩,
  ⟨none, (some 49), .paddr 49 48 none 0⟩,
  ⟨none, (some 50), .vload 50 49 none⟩,
  ⟨none, (some 51), .bin 51 .eql false (.t 50 false) (.c (.int .i64 0))⟩]
abbrev c44s17 : ACode := (.cond (.t 51 false) (.exit 1) .skip)
abbrev c44r18 : List GOp := [⟨none, (some 53), .baddr 53 1 3⟩,
  ⟨none, (some 54), .bload 54 1 (some 53) none false⟩,
  ⟨none, (some 55), .mv 55 (.t 4 false)⟩,
  ⟨none, (some 56), .idx 56 (.t 54 false) (.t 55 false) 4⟩,
  ⟨none, (some 57), .vload 57 56 (some 4)⟩,
  ⟨none, (some 58), .mv 58 (.t 5 false)⟩,
  ⟨none, (some 59), .call (some 59) 54 [(.t 57 false), (.t 58 false)]⟩,
  ⟨none, (some 52), .mv 52 (.t 59 true)⟩,
  ⟨none, (some 60), .extract 60 (.t 52 false) 0⟩,
  ⟨none, (some 61), .extract 61 (.t 52 false) 1⟩,
  ⟨none, (some 6), .balloc 6 (.agg [(.int .i64 0), (.str []), (.oslice 1 []), (.oslice 4 [])])⟩,
  ⟨none, none, .bstore 6 none (.t 60 true) 4⟩,
  ⟨none, (some 7), .mv 7 (.t 61 true)⟩]
abbrev c44r19 : List GOp := [⟨none, (some 62), .mv 62 (.t 7 false)⟩,
  ⟨none, (some 63), .un 63 .not (.t 62 false)⟩]
abbrev c44r20 : List GOp := [⟨none, (some 64), .baddr 64 1 2⟩,
  ⟨none, (some 65), .bload 65 1 (some 64) none false⟩,
  ⟨none, (some 66), .mv 66 (.t 4 false)⟩,
  ⟨none, (some 67), .idx 67 (.t 65 false) (.t 66 false) 1⟩,
  ⟨none, (some 68), .vload 68 67 none⟩,
  ⟨none, (some 69), .build 69 [(.int .i64 0), (.str []), (.oslice 1 []), (.oslice 4 []), (.str []), (.int .i64 0)] [(4, 1, (.t 68 false)), (5, 1, (.c (.int .i64 10)))]⟩,
  ⟨none, none, .bstore 2 none (.t 69 true) 6⟩]
abbrev c44s21 : ACode := (.seq (.reg c44r20 [2]) .ret)
abbrev c44s22 : ACode := (.cond (.t 63 false) c44s21 .skip)
abbrev c44r23 : List GOp := [⟨none, (some 70), .bload 70 3 none (some 4) false⟩,
  ⟨none, (some 71), .baddr 71 1 2⟩,
  ⟨none, (some 72), .bload 72 1 (some 71) none false⟩,
  ⟨none, (some 73), .mv 73 (.t 4 false)⟩,
  ⟨none, (some 74), .idx 74 (.t 72 false) (.t 73 false) 1⟩,
  ⟨none, (some 75), .vload 75 74 none⟩,
  ⟨none, (some 76), .bload 76 6 none (some 4) false⟩,
  ⟨none, (some 77), .call (some 77) 29 [(.t 70 false), (.t 75 false), (.t 76 false)]⟩,
  ⟨none, none, .bstore 3 none (.t 77 true) 4⟩]
abbrev c44s24 : ACode := (.seq (.seq (.reg c44r19 [63]) c44s22) (.reg c44r23 [3]))
abbrev c44s25 : ACode := (.seq (.reg c44r18 [6, 7]) c44s24)
abbrev c44s26 : ACode := (.seq (.seq (.reg c44r16 [51]) c44s17) c44s25)
abbrev c44s27 : ACode := (.seq (.seq (.reg c44r12 [38]) c44s15) c44s26)
abbrev c44s28 : ACode := (.seq (.reg c44r11 [5]) c44s27)
abbrev c44s29 : ACode := (.seq (.seq (.reg c44r9 [30]) c44s10) c44s28)
abbrev c44r30 : List GOp := [⟨none, (some 23), .mv 23 (.t 4 false)⟩,
  ⟨none, (some 24), .bin 24 .add false (.t 23 false) (.c (.int .i64 1))⟩,
  ⟨none, (some 4), .mv 4 (.t 24 true)⟩]
abbrev c44s31 : ACode := (.seq (.block 1 c44s29) (.reg c44r30 [4]))
abbrev c44s32 : ACode := (.seq (.seq (.reg c44r7 [22]) c44s8) c44s31)
abbrev c44s33 : ACode := (.loop c44s32)
abbrev c44s34 : ACode := (.block 0 c44s33)
abbrev c44r35 : List GOp := [⟨none, (some 78), .bload 78 3 none (some 4) false⟩,
  ⟨none, (some 79), .call (some 79) 30 [(.t 78 false)]⟩,
  ⟨none, (some 80), .build 80 [(.int .i64 0), (.str []), (.oslice 1 []), (.oslice 4 []), (.str []), (.int .i64 0)] [(0, 4, (.t 79 false))]⟩,
  ⟨none, none, .bstore 2 none (.t 80 true) 6⟩]
abbrev c44s36 : ACode := (.seq (.reg c44r35 [2]) .ret)
abbrev c44s37 : ACode := (.seq (.seq (.reg c44r6 [4]) c44s34) c44s36)
abbrev c44s38 : ACode := (.seq (.reg c44r5 [3]) c44s37)
abbrev c44s39 : ACode := (.seq (.seq (.reg c44r1 [15]) c44s4) c44s38)
abbrev c44 : ACode := (.seq (.reg c44r0 [1, 2]) c44s39)
def a44 : AFn := ⟨[1, 2, 3, 6], [0, 1, 2, 3, 4, 5, 6, 7, 15, 22, 30, 38, 51, 63], [10, 16, 17, 24, 36, 44, 59, 60, 61, 69, 77, 80], [], [(71, 1), (64, 1), (53, 1), (45, 1), (39, 1), (31, 1), (25, 1), (19, 1), (12, 1), (8, 1)], [(71, 2), (64, 2), (53, 3), (45, 3), (39, 2), (31, 2), (25, 2), (19, 2), (12, 0), (8, 0)], [], [], c44, [.cell 2 (some 6)]⟩
theorem is44 : IsFn Tryz.prog 44 1 a44 := isFn_of mix Tryz.func44 (by kernel_rfl) (by kernel_rfl) (by kernel_rfl) (by kernel_rfl) (by kernel_rfl)
theorem sound44 {args : List AV} {r : AV} (hl : args.length = 1) (h : awp Tryz.prog c44 (unw Tryz.prog [] (Ends [.cell 2 (some 6)] r)) (initSt args)) : Sound Tryz.prog 44 args r := sound_of is44 hl h
theorem total44 {args : List AV} {Φ : AV → Prop} (hl : args.length = 1) (h : awp Tryz.prog c44 (unw Tryz.prog [] (EndsP [.cell 2 (some 6)] Φ)) (initSt args)) : Total Tryz.prog 44 args Φ := total_of is44 hl h

/-! longshore/longshoreref18.texts -/
abbrev c46r0 : List GOp := [⟨none, (some 1), .bbox 1 (.t 0 false)⟩,
  ⟨none, (some 2), .mv 2 (.c (.oslice 1 []))⟩,
  ⟨none, (some 3), .mv 3 (.c (.bool false))⟩]
abbrev c46r1 : List GOp := [⟨none, (some 6), .mkslice 6 1 []⟩,
  ⟨none, (some 4), .mv 4 (.t 6 true)⟩]
abbrev c46r2 : List GOp := [⟨none, (some 7), .baddr 7 1 0⟩,
  ⟨none, (some 8), .bload 8 1 (some 7) none false⟩,
  ⟨none, (some 9), .bin 9 .neq false (.t 8 false) (.c (.int .i64 2))⟩,
  ⟨none, (some 10), .mv 10 (.t 9 true)⟩,
  ⟨(some (10, false)), (some 11), .baddr 11 1 3⟩,
  ⟨(some (10, false)), (some 12), .bload 12 1 (some 11) none false⟩,
  ⟨(some (10, false)), (some 13), .len 13 false (.t 12 false)⟩,
  ⟨(some (10, false)), (some 14), .bin 14 .gtr false (.t 13 false) (.c (.int .i64 32))⟩,
  ⟨none, (some 15), .pick 15 (.t 10 false) (.c (.bool true)) (.t 14 false)⟩]
abbrev c46r3 : List GOp := [⟨none, (some 16), .mv 16 (.t 4 false)⟩,
  ⟨none, (some 2), .mv 2 (.t 16 true)⟩,
  ⟨none, (some 3), .mv 3 (.c (.bool false))⟩]
abbrev c46s4 : ACode := (.seq (.reg c46r3 [2, 3]) .ret)
abbrev c46s5 : ACode := (.cond (.t 15 false) c46s4 .skip)
abbrev c46r6 : List GOp := [⟨none, (some 5), .mv 5 (.c (.int .i64 0))⟩]
abbrev c46r7 : List GOp := [⟨none, (some 17), .mv 17 (.t 5 false)⟩,
  ⟨none, (some 18), .baddr 18 1 3⟩,
  ⟨none, (some 19), .bload 19 1 (some 18) none false⟩,
  ⟨none, (some 20), .len 20 false (.t 19 false)⟩,
  ⟨none, (some 21), .bin 21 .lss false (.t 17 false) (.t 20 false)⟩]
abbrev c46s8 : ACode := (.cond (.t 21 false) .skip (.exit 0))
abbrev c46r9 : List GOp := [⟨none, (some 24), .baddr 24 1 3⟩,
  ⟨none, (some 25), .bload 25 1 (some 24) none false⟩,
  ⟨none, (some 26), .mv 26 (.t 5 false)⟩,
  ⟨none, (some 27), .idx 27 (.t 25 false) (.t 26 false) 4⟩,
  ⟨none, (some 28), .paddr 28 27 none 0⟩,
  ⟨none, (some 29), .vload 29 28 none⟩,
  ⟨none, (some 30), .bin 30 .neq false (.t 29 false) (.c (.int .i64 1))⟩]
abbrev c46r10 : List GOp := [⟨none, (some 31), .mv 31 (.t 4 false)⟩,
  ⟨none, (some 2), .mv 2 (.t 31 true)⟩,
  ⟨none, (some 3), .mv 3 (.c (.bool false))⟩]
abbrev c46s11 : ACode := (.seq (.reg c46r10 [2, 3]) .ret)
abbrev c46s12 : ACode := (.cond (.t 30 false) c46s11 .skip)
abbrev c46r13 : List GOp := [⟨none, (some 32), .take 32 4⟩,
  ⟨none, (some 33), .baddr 33 1 3⟩,
  ⟨none, (some 34), .bload 34 1 (some 33) none false⟩,
  ⟨none, (some 35), .mv 35 (.t 5 false)⟩,
  ⟨none, (some 36), .idx 36 (.t 34 false) (.t 35 false) 4⟩,
  ⟨none, (some 37), .paddr 37 36 none 1⟩,
  ⟨none, (some 38), .vload 38 37 none⟩,
  ⟨none, (some 39), .mkslice 39 1 [(.t 38 false)]⟩,
  ⟨none, (some 40), .append 40 (.t 32 true) (.t 39 false) 1 16⟩,
  ⟨none, (some 4), .mv 4 (.t 40 true)⟩]
abbrev c46s14 : ACode := (.seq (.seq (.reg c46r9 [30]) c46s12) (.reg c46r13 [4]))
abbrev c46r15 : List GOp := [⟨none, (some 22), .mv 22 (.t 5 false)⟩,
  ⟨none, (some 23), .bin 23 .add false (.t 22 false) (.c (.int .i64 1))⟩,
  ⟨none, (some 5), .mv 5 (.t 23 true)⟩]
abbrev c46s16 : ACode := (.seq (.block 1 c46s14) (.reg c46r15 [5]))
abbrev c46s17 : ACode := (.seq (.seq (.reg c46r7 [21]) c46s8) c46s16)
abbrev c46s18 : ACode := (.loop c46s17)
abbrev c46s19 : ACode := (.block 0 c46s18)
abbrev c46r20 : List GOp := [⟨none, (some 41), .mv 41 (.t 4 false)⟩,
  ⟨none, (some 2), .mv 2 (.t 41 true)⟩,
  ⟨none, (some 3), .mv 3 (.c (.bool true))⟩]
abbrev c46s21 : ACode := (.seq (.reg c46r20 [2, 3]) .ret)
abbrev c46s22 : ACode := (.seq (.seq (.reg c46r6 [5]) c46s19) c46s21)
abbrev c46s23 : ACode := (.seq (.seq (.reg c46r2 [15]) c46s5) c46s22)
abbrev c46s24 : ACode := (.seq (.reg c46r1 [4]) c46s23)
abbrev c46 : ACode := (.seq (.reg c46r0 [1, 2, 3]) c46s24)
def a46 : AFn := ⟨[1], [0, 1, 2, 3, 4, 5, 15, 21, 30], [6, 9, 16, 23, 31, 32, 40, 41], [32], [(33, 1), (24, 1), (18, 1), (11, 1), (7, 1)], [(33, 3), (24, 3), (18, 3), (11, 3), (7, 0)], [], [], c46, [.tmp 2, .tmp 3]⟩
theorem is46 : IsFn Tryz.prog 46 1 a46 := isFn_of mix Tryz.func46 (by kernel_rfl) (by kernel_rfl) (by kernel_rfl) (by kernel_rfl) (by kernel_rfl)
theorem sound46 {args : List AV} {r : AV} (hl : args.length = 1) (h : awp Tryz.prog c46 (unw Tryz.prog [] (Ends [.tmp 2, .tmp 3] r)) (initSt args)) : Sound Tryz.prog 46 args r := sound_of is46 hl h
theorem total46 {args : List AV} {Φ : AV → Prop} (hl : args.length = 1) (h : awp Tryz.prog c46 (unw Tryz.prog [] (EndsP [.tmp 2, .tmp 3] Φ)) (initSt args)) : Total Tryz.prog 46 args Φ := total_of is46 hl h

/-! longshore/longshoreref18.done -/
abbrev c47r0 : List GOp := [⟨none, (some 2), .bbox 2 (.t 0 false)⟩,
  ⟨none, (some 4), .balloc 4 (.agg [(.int .i64 0), (.str []), (.oslice 1 []), (.oslice 4 [])])⟩,
  ⟨none, (some 5), .mv 5 (.c (.bool false))⟩]
abbrev c47r1 : List GOp := [⟨none, (some 6), .mv 6 (.t 1 false)⟩,
  ⟨none, (some 7), .un 7 .not (.t 6 false)⟩,
  ⟨none, (some 8), .mv 8 (.t 7 true)⟩,
  ⟨(some (8, false)), (some 9), .baddr 9 2 2⟩,
  ⟨(some (8, false)), (some 10), .bload 10 2 (some 9) none false⟩,
  ⟨(some (8, false)), (some 11), .len 11 false (.t 10 false)⟩,
  ⟨(some (8, false)), (some 12), .bin 12 .gtr false (.t 11 false) (.c (.int .i64 32))⟩,
  ⟨none, (some 13), .pick 13 (.t 8 false) (.c (.bool true)) (.t 12 false)⟩]
abbrev c47r2 : List GOp := [⟨none, (some 14), .build 14 [(.int .i64 0), (.str []), (.oslice 1 []), (.oslice 4 [])] []⟩,
  ⟨none, none, .bstore 4 none (.t 14 true) 4⟩,
  ⟨none, (some 5), .mv 5 (.c (.bool false))⟩]
abbrev c47s3 : ACode := (.seq (.reg c47r2 [4, 5]) .ret)
abbrev c47s4 : ACode := (.cond (.t 13 false) c47s3 .skip)
abbrev c47r5 : List GOp := [⟨none, (some 15), .baddr 15 2 0⟩,
  ⟨none, none, .bstore 2 (some 15) (.c (.int .i64 3)) 1⟩]
abbrev c47r6 : List GOp := [⟨none, (some 16), .bload 16 2 none (some 4) false⟩,
  ⟨none, (some 17), .call (some 17) 30 [(.t 16 false)]⟩,
  ⟨none, none, .bstore 4 none (.t 17 true) 4⟩,
  ⟨none, (some 5), .mv 5 (.c (.bool true))⟩]
abbrev c47s7 : ACode := (.seq (.reg c47r6 [4, 5]) .ret)
abbrev c47s8 : ACode := (.seq (.reg c47r5 [2]) c47s7)
abbrev c47s9 : ACode := (.seq (.seq (.reg c47r1 [13]) c47s4) c47s8)
abbrev c47 : ACode := (.seq (.reg c47r0 [2, 4, 5]) c47s9)
def a47 : AFn := ⟨[2, 4], [0, 1, 2, 4, 5, 13], [7, 14, 17], [], [(15, 2), (9, 2)], [(15, 0), (9, 2)], [], [], c47, [.cell 4 (some 4), .tmp 5]⟩
theorem is47 : IsFn Tryz.prog 47 2 a47 := isFn_of mix Tryz.func47 (by kernel_rfl) (by kernel_rfl) (by kernel_rfl) (by kernel_rfl) (by kernel_rfl)
theorem sound47 {args : List AV} {r : AV} (hl : args.length = 2) (h : awp Tryz.prog c47 (unw Tryz.prog [] (Ends [.cell 4 (some 4), .tmp 5] r)) (initSt args)) : Sound Tryz.prog 47 args r := sound_of is47 hl h
theorem total47 {args : List AV} {Φ : AV → Prop} (hl : args.length = 2) (h : awp Tryz.prog c47 (unw Tryz.prog [] (EndsP [.cell 4 (some 4), .tmp 5] Φ)) (initSt args)) : Total Tryz.prog 47 args Φ := total_of is47 hl h

/-! longshore/longshoreref19.number -/
abbrev c53r0 : List GOp := [⟨none, (some 2), .mv 2 (.c (.int .i64 0))⟩]
abbrev c53r1 : List GOp := [⟨none, (some 5), .mkslice 5 1 [(.c (.str [114, 101, 115, 116, 97, 114, 116])), (.c (.str [99, 112, 117, 115])), (.c (.str [109, 101, 109, 95, 108, 105, 109, 105, 116])), (.c (.str [115, 99, 97, 108, 101])), (.c (.str [105, 109, 97, 103, 101])), (.c (.str [99, 111, 109, 109, 97, 110, 100])), (.c (.str [101, 110, 118, 105, 114, 111, 110, 109, 101, 110, 116])), (.c (.str [108, 97, 98, 101, 108, 115])), (.c (.str [110, 101, 116, 119, 111, 114, 107, 115])), (.c (.str [112, 111, 114, 116, 115])), (.c (.str [118, 111, 108, 117, 109, 101, 115])), (.c (.str [100, 101, 112, 101, 110, 100, 115, 95, 111, 110])), (.c (.str [101, 120, 116, 101, 110, 100, 115])), (.c (.str [104, 101, 97, 108, 116, 104, 99, 104, 101, 99, 107]))]⟩,
  ⟨none, (some 3), .mv 3 (.t 5 true)⟩]
abbrev c53r2 : List GOp := [⟨none, (some 4), .mv 4 (.c (.int .i64 0))⟩]
abbrev c53r3 : List GOp := [⟨none, (some 6), .mv 6 (.t 4 false)⟩,
  ⟨none, (some 7), .mv 7 (.t 3 false)⟩,
  ⟨none, (some 8), .len 8 false (.t 7 false)⟩,
  ⟨none, (some 9), .bin 9 .lss false (.t 6 false) (.t 8 false)⟩]
abbrev c53s4 : ACode := (.cond (.t 9 false) .skip (.exit 0))
abbrev c53r5 : List GOp := [⟨none, (some 12), .mv 12 (.t 3 false)⟩,
  ⟨none, (some 13), .mv 13 (.t 4 false)⟩,
  ⟨none, (some 14), .idx 14 (.t 12 false) (.t 13 false) 1⟩,
  ⟨none, (some 15), .vload 15 14 none⟩,
  ⟨none, (some 16), .mv 16 (.t 0 false)⟩,
  ⟨none, (some 17), .bin 17 .eql false (.t 15 false) (.t 16 false)⟩]
abbrev c53r6 : List GOp := [⟨none, (some 18), .mv 18 (.t 4 false)⟩,
  ⟨none, (some 2), .mv 2 (.t 18 true)⟩]
abbrev c53s7 : ACode := (.seq (.reg c53r6 [2]) .ret)
abbrev c53s8 : ACode := (.cond (.t 17 false) c53s7 .skip)
abbrev c53s9 : ACode := (.seq (.reg c53r5 [17]) c53s8)
abbrev c53r10 : List GOp := [⟨none, (some 10), .mv 10 (.t 4 false)⟩,
  ⟨none, (some 11), .bin 11 .add false (.t 10 false) (.c (.int .i64 1))⟩,
  ⟨none, (some 4), .mv 4 (.t 11 true)⟩]
abbrev c53s11 : ACode := (.seq (.block 1 c53s9) (.reg c53r10 [4]))
abbrev c53s12 : ACode := (.seq (.seq (.reg c53r3 [9]) c53s4) c53s11)
abbrev c53s13 : ACode := (.loop c53s12)
abbrev c53s14 : ACode := (.block 0 c53s13)
abbrev c53r15 : List GOp := [⟨none, (some 19), .mv 19 (.t 0 false)⟩,
  ⟨none, (some 20), .bin 20 .eql false (.t 19 false) (.c (.str [112, 114, 111, 102, 105, 108, 101, 115]))⟩]
abbrev c53r16 : List GOp := [⟨none, (some 2), .mv 2 (.c (.int .i64 8))⟩]
abbrev c53s17 : ACode := (.seq (.reg c53r16 [2]) .ret)
abbrev c53s18 : ACode := (.cond (.t 20 false) c53s17 .skip)
abbrev c53r19 : List GOp := [⟨none, (some 2), .mv 2 (.c (.int .i64 (-1)))⟩]
abbrev c53s20 : ACode := (.seq (.reg c53r19 [2]) .ret)
abbrev c53s21 : ACode := (.seq (.seq (.reg c53r15 [20]) c53s18) c53s20)
abbrev c53s22 : ACode := (.seq (.seq (.reg c53r2 [4]) c53s14) c53s21)
abbrev c53s23 : ACode := (.seq (.reg c53r1 [3]) c53s22)
abbrev c53 : ACode := (.seq (.reg c53r0 [2]) c53s23)
def a53 : AFn := ⟨[], [0, 2, 3, 4, 9, 17, 20], [5, 11, 18], [], [], [], [], [], c53, [.tmp 2]⟩
theorem is53 : IsFn Tryz.prog 53 1 a53 := isFn_of mix Tryz.func53 (by kernel_rfl) (by kernel_rfl) (by kernel_rfl) (by kernel_rfl) (by kernel_rfl)
theorem sound53 {args : List AV} {r : AV} (hl : args.length = 1) (h : awp Tryz.prog c53 (unw Tryz.prog [] (Ends [.tmp 2] r)) (initSt args)) : Sound Tryz.prog 53 args r := sound_of is53 hl h
theorem total53 {args : List AV} {Φ : AV → Prop} (hl : args.length = 1) (h : awp Tryz.prog c53 (unw Tryz.prog [] (EndsP [.tmp 2] Φ)) (initSt args)) : Total Tryz.prog 53 args Φ := total_of is53 hl h

/-! longshore/longshoreref18.Field -/
abbrev c54r0 : List GOp := [⟨none, (some 2), .bbox 2 (.t 0 false)⟩,
  ⟨none, (some 4), .balloc 4 (.agg [(.int .i64 0), (.str []), (.oslice 1 []), (.oslice 4 [])])⟩,
  ⟨none, (some 5), .mv 5 (.c (.bool false))⟩]
abbrev c54r1 : List GOp := [⟨none, (some 6), .mv 6 (.t 1 false)⟩,
  ⟨none, (some 7), .bin 7 .lss false (.t 6 false) (.c (.int .i64 5))⟩]
abbrev c54r2 : List GOp := [⟨none, (some 8), .bload 8 2 none (some 4) false⟩,
  ⟨none, (some 9), .mv 9 (.t 1 false)⟩,
  ⟨none, (some 10), .call (some 10) 59 [(.t 8 false), (.t 9 false)]⟩,
  ⟨none, (some 11), .extract 11 (.t 10 false) 0⟩,
  ⟨none, (some 12), .extract 12 (.t 10 false) 1⟩,
  ⟨none, none, .bstore 4 none (.t 11 true) 4⟩,
  ⟨none, (some 5), .mv 5 (.t 12 true)⟩]
abbrev c54s3 : ACode := (.seq (.reg c54r2 [4, 5]) .ret)
abbrev c54s4 : ACode := (.cond (.t 7 false) c54s3 .skip)
abbrev c54r5 : List GOp := [⟨none, (some 13), .mv 13 (.t 1 false)⟩,
  ⟨none, (some 14), .bin 14 .eql false (.t 13 false) (.c (.int .i64 5))⟩]
abbrev c54r6 : List GOp := [⟨none, (some 15), .bload 15 2 none (some 4) false⟩,
  ⟨none, (some 16), .call (some 16) 60 [(.t 15 false)]⟩,
  ⟨none, (some 17), .extract 17 (.t 16 false) 0⟩,
  ⟨none, (some 18), .extract 18 (.t 16 false) 1⟩,
  ⟨none, none, .bstore 4 none (.t 17 true) 4⟩,
  ⟨none, (some 5), .mv 5 (.t 18 true)⟩]
abbrev c54s7 : ACode := (.seq (.reg c54r6 [4, 5]) .ret)
abbrev c54s8 : ACode := (.cond (.t 14 false) c54s7 .skip)
abbrev c54r9 : List GOp := [⟨none, (some 19), .mv 19 (.t 1 false)⟩,
  ⟨none, (some 20), .bin 20 .eql false (.t 19 false) (.c (.int .i64 6))⟩,
  ⟨none, (some 21), .mv 21 (.t 20 true)⟩,
  ⟨(some (21, false)), (some 22), .mv 22 (.t 1 false)⟩,
  ⟨(some (21, false)), (some 23), .bin 23 .eql false (.t 22 false) (.c (.int .i64 7))⟩,
  ⟨none, (some 24), .pick 24 (.t 21 false) (.c (.bool true)) (.t 23 false)⟩]
abbrev c54r10 : List GOp := [⟨none, (some 25), .bload 25 2 none (some 4) false⟩,
  ⟨none, (some 26), .mv 26 (.t 1 false)⟩,
  ⟨none, (some 27), .bin 27 .eql false (.t 26 false) (.c (.int .i64 6))⟩,
  ⟨none, (some 28), .call (some 28) 61 [(.t 25 false), (.t 27 false)]⟩,
  ⟨none, (some 29), .extract 29 (.t 28 false) 0⟩,
  ⟨none, (some 30), .extract 30 (.t 28 false) 1⟩,
  ⟨none, none, .bstore 4 none (.t 29 true) 4⟩,
  ⟨none, (some 5), .mv 5 (.t 30 true)⟩]
abbrev c54s11 : ACode := (.seq (.reg c54r10 [4, 5]) .ret)
abbrev c54s12 : ACode := (.cond (.t 24 false) c54s11 .skip)
abbrev c54r13 : List GOp := [⟨none, (some 31), .mv 31 (.t 1 false)⟩,
  ⟨none, (some 32), .bin 32 .eql false (.t 31 false) (.c (.int .i64 8))⟩]
abbrev c54r14 : List GOp := [⟨none, (some 33), .bload 33 2 none (some 4) false⟩,
  ⟨none, (some 34), .call (some 34) 28 [(.t 33 false)]⟩,
  ⟨none, (some 35), .extract 35 (.t 34 false) 0⟩,
  ⟨none, (some 36), .extract 36 (.t 34 false) 1⟩,
  ⟨none, none, .bstore 4 none (.t 35 true) 4⟩,
  ⟨none, (some 5), .mv 5 (.t 36 true)⟩]
abbrev c54s15 : ACode := (.seq (.reg c54r14 [4, 5]) .ret)
abbrev c54s16 : ACode := (.cond (.t 32 false) c54s15 .skip)
abbrev c54r17 : List GOp := [⟨none, (some 37), .mv 37 (.t 1 false)⟩,
  ⟨none, (some 38), .bin 38 .eql false (.t 37 false) (.c (.int .i64 9))⟩]
abbrev c54r18 : List GOp := [⟨none, (some 39), .bload 39 2 none (some 4) false⟩,
  ⟨none, (some 40), .call (some 40) 62 [(.t 39 false)]⟩,
  ⟨none, (some 41), .extract 41 (.t 40 false) 0⟩,
  ⟨none, (some 42), .extract 42 (.t 40 false) 1⟩,
  ⟨none, none, .bstore 4 none (.t 41 true) 4⟩,
  ⟨none, (some 5), .mv 5 (.t 42 true)⟩]
abbrev c54s19 : ACode := (.seq (.reg c54r18 [4, 5]) .ret)
abbrev c54s20 : ACode := (.cond (.t 38 false) c54s19 .skip)
abbrev c54r21 : List GOp := [⟨none, (some 43), .mv 43 (.t 1 false)⟩,
  ⟨none, (some 44), .bin 44 .eql false (.t 43 false) (.c (.int .i64 10))⟩]
abbrev c54r22 : List GOp := [⟨none, (some 45), .bload 45 2 none (some 4) false⟩,
  ⟨none, (some 46), .call (some 46) 63 [(.t 45 false)]⟩,
  ⟨none, (some 47), .extract 47 (.t 46 false) 0⟩,
  ⟨none, (some 48), .extract 48 (.t 46 false) 1⟩,
  ⟨none, none, .bstore 4 none (.t 47 true) 4⟩,
  ⟨none, (some 5), .mv 5 (.t 48 true)⟩]
abbrev c54s23 : ACode := (.seq (.reg c54r22 [4, 5]) .ret)
abbrev c54s24 : ACode := (.cond (.t 44 false) c54s23 .skip)
abbrev c54r25 : List GOp := [⟨none, (some 49), .mv 49 (.t 1 false)⟩,
  ⟨none, (some 50), .bin 50 .eql false (.t 49 false) (.c (.int .i64 11))⟩]
abbrev c54r26 : List GOp := [⟨none, (some 51), .bload 51 2 none (some 4) false⟩,
  ⟨none, (some 52), .call (some 52) 64 [(.t 51 false)]⟩,
  ⟨none, (some 53), .extract 53 (.t 52 false) 0⟩,
  ⟨none, (some 54), .extract 54 (.t 52 false) 1⟩,
  ⟨none, none, .bstore 4 none (.t 53 true) 4⟩,
  ⟨none, (some 5), .mv 5 (.t 54 true)⟩]
abbrev c54s27 : ACode := (.seq (.reg c54r26 [4, 5]) .ret)
abbrev c54s28 : ACode := (.cond (.t 50 false) c54s27 .skip)
abbrev c54r29 : List GOp := [⟨none, (some 55), .mv 55 (.t 1 false)⟩,
  ⟨none, (some 56), .bin 56 .eql false (.t 55 false) (.c (.int .i64 12))⟩]
abbrev c54r30 : List GOp := [⟨none, (some 57), .bload 57 2 none (some 4) false⟩,
  ⟨none, (some 58), .call (some 58) 65 [(.t 57 false)]⟩,
  ⟨none, (some 59), .extract 59 (.t 58 false) 0⟩,
  ⟨none, (some 60), .extract 60 (.t 58 false) 1⟩,
  ⟨none, none, .bstore 4 none (.t 59 true) 4⟩,
  ⟨none, (some 5), .mv 5 (.t 60 true)⟩]
abbrev c54s31 : ACode := (.seq (.reg c54r30 [4, 5]) .ret)
abbrev c54s32 : ACode := (.cond (.t 56 false) c54s31 .skip)
abbrev c54r33 : List GOp := [⟨none, (some 61), .bload 61 2 none (some 4) false⟩,
  ⟨none, (some 62), .call (some 62) 66 [(.t 61 false)]⟩,
  ⟨none, (some 63), .extract 63 (.t 62 false) 0⟩,
  ⟨none, (some 64), .extract 64 (.t 62 false) 1⟩,
  ⟨none, none, .bstore 4 none (.t 63 true) 4⟩,
  ⟨none, (some 5), .mv 5 (.t 64 true)⟩]
abbrev c54s34 : ACode := (.seq (.reg c54r33 [4, 5]) .ret)
abbrev c54s35 : ACode := (.seq (.seq (.reg c54r29 [56]) c54s32) c54s34)
abbrev c54s36 : ACode := (.seq (.seq (.reg c54r25 [50]) c54s28) c54s35)
abbrev c54s37 : ACode := (.seq (.seq (.reg c54r21 [44]) c54s24) c54s36)
abbrev c54s38 : ACode := (.seq (.seq (.reg c54r17 [38]) c54s20) c54s37)
abbrev c54s39 : ACode := (.seq (.seq (.reg c54r13 [32]) c54s16) c54s38)
abbrev c54s40 : ACode := (.seq (.seq (.reg c54r9 [24]) c54s12) c54s39)
abbrev c54s41 : ACode := (.seq (.seq (.reg c54r5 [14]) c54s8) c54s40)
abbrev c54s42 : ACode := (.seq (.seq (.reg c54r1 [7]) c54s4) c54s41)
abbrev c54 : ACode := (.seq (.reg c54r0 [2, 4, 5]) c54s42)
def a54 : AFn := ⟨[2, 4], [0, 1, 2, 4, 5, 7, 14, 24, 32, 38, 44, 50, 56], [11, 12, 17, 18, 20, 29, 30, 35, 36, 41, 42, 47, 48, 53, 54, 59, 60, 63, 64], [], [], [], [], [], c54, [.cell 4 (some 4), .tmp 5]⟩
theorem is54 : IsFn Tryz.prog 54 2 a54 := isFn_of mix Tryz.func54 (by kernel_rfl) (by kernel_rfl) (by kernel_rfl) (by kernel_rfl) (by kernel_rfl)
theorem sound54 {args : List AV} {r : AV} (hl : args.length = 2) (h : awp Tryz.prog c54 (unw Tryz.prog [] (Ends [.cell 4 (some 4), .tmp 5] r)) (initSt args)) : Sound Tryz.prog 54 args r := sound_of is54 hl h
theorem total54 {args : List AV} {Φ : AV → Prop} (hl : args.length = 2) (h : awp Tryz.prog c54 (unw Tryz.prog [] (EndsP [.cell 4 (some 4), .tmp 5] Φ)) (initSt args)) : Total Tryz.prog 54 args Φ := total_of is54 hl h

/-! longshore/longshoreref18.One -/
abbrev c59r0 : List GOp := [⟨none, (some 2), .bbox 2 (.t 0 false)⟩,
  ⟨none, (some 4), .balloc 4 (.agg [(.int .i64 0), (.str []), (.oslice 1 []), (.oslice 4 [])])⟩,
  ⟨none, (some 5), .mv 5 (.c (.bool false))⟩]
abbrev c59r1 : List GOp := [⟨none, (some 13), .baddr 13 2 0⟩,
  ⟨none, (some 14), .bload 14 2 (some 13) none false⟩,
  ⟨none, (some 15), .bin 15 .neq false (.t 14 false) (.c (.int .i64 1))⟩]
abbrev c59r2 : List GOp := [⟨none, (some 16), .build 16 [(.int .i64 0), (.str []), (.oslice 1 []), (.oslice 4 [])] []⟩,
  ⟨none, none, .bstore 4 none (.t 16 true) 4⟩,
  ⟨none, (some 5), .mv 5 (.c (.bool false))⟩]
abbrev c59s3 : ACode := (.seq (.reg c59r2 [4, 5]) .ret)
abbrev c59s4 : ACode := (.cond (.t 15 false) c59s3 .skip)
abbrev c59r5 : List GOp := [⟨none, (some 6), .mv 6 (.c (.bool true))⟩]
abbrev c59r6 : List GOp := [⟨none, (some 17), .mv 17 (.t 1 false)⟩,
  ⟨none, (some 18), .bin 18 .eql false (.t 17 false) (.c (.int .i64 0))⟩]
abbrev c59r7 : List GOp := [⟨none, (some 19), .baddr 19 2 1⟩,
  ⟨none, (some 20), .bload 20 2 (some 19) none false⟩,
  ⟨none, (some 21), .call (some 21) 70 [(.t 20 false)]⟩,
  ⟨none, (some 6), .mv 6 (.t 21 true)⟩]
abbrev c59r8 : List GOp := [⟨none, (some 22), .mv 22 (.t 1 false)⟩,
  ⟨none, (some 23), .bin 23 .eql false (.t 22 false) (.c (.int .i64 1))⟩]
abbrev c59r9 : List GOp := [⟨none, (some 25), .baddr 25 2 1⟩,
  ⟨none, (some 26), .bload 26 2 (some 25) none false⟩,
  ⟨none, (some 27), .call (some 27) 71 [(.t 26 false)]⟩,
  ⟨none, (some 24), .mv 24 (.t 27 true)⟩,
  ⟨none, (some 28), .extract 28 (.t 24 false) 0⟩,
  ⟨none, (some 29), .extract 29 (.t 24 false) 1⟩,
  ⟨none, (some 7), .mv 7 (.t 28 true)⟩,
  ⟨none, (some 8), .mv 8 (.t 29 true)⟩]
abbrev c59r10 : List GOp := [⟨none, (some 30), .mv 30 (.t 8 false)⟩,
  ⟨none, (some 31), .bin 31 .eql false (.t 30 false) (.c (.int .i64 0))⟩,
  ⟨none, (some 32), .mv 32 (.t 31 true)⟩,
  ⟨(some (32, true)), (some 33), .mv 33 (.t 7 false)⟩,
  ⟨(some (32, true)), (some 34), .bin 34 .gtr false (.t 33 false) (.c (.int .i64 0))⟩,
  ⟨none, (some 35), .pick 35 (.t 32 false) (.t 34 false) (.c (.bool false))⟩,
  ⟨none, (some 6), .mv 6 (.t 35 true)⟩]
abbrev c59s11 : ACode := (.seq (.reg c59r9 [7, 8]) (.reg c59r10 [6]))
abbrev c59r12 : List GOp := [⟨none, (some 36), .mv 36 (.t 1 false)⟩,
  ⟨none, (some 37), .bin 37 .eql false (.t 36 false) (.c (.int .i64 2))⟩]
abbrev c59r13 : List GOp := [⟨none, (some 39), .baddr 39 2 1⟩,
  ⟨none, (some 40), .bload 40 2 (some 39) none false⟩,
  ⟨none, (some 41), .call (some 41) 72 [(.t 40 false)]⟩,
  ⟨none, (some 38), .mv 38 (.t 41 true)⟩,
  ⟨none, (some 42), .extract 42 (.t 38 false) 0⟩,
  ⟨none, (some 43), .extract 43 (.t 38 false) 1⟩,
  ⟨none, (some 9), .mv 9 (.t 42 true)⟩,
  ⟨none, (some 10), .mv 10 (.t 43 true)⟩]
abbrev c59r14 : List GOp := [⟨none, (some 44), .mv 44 (.t 10 false)⟩,
  ⟨none, (some 45), .bin 45 .eql false (.t 44 false) (.c (.int .i64 0))⟩,
  ⟨none, (some 46), .mv 46 (.t 45 true)⟩,
  ⟨(some (46, true)), (some 47), .mv 47 (.t 9 false)⟩,
  ⟨(some (46, true)), (some 48), .bin 48 .gtr false (.t 47 false) (.c (.int .i64 0))⟩,
  ⟨none, (some 49), .pick 49 (.t 46 false) (.t 48 false) (.c (.bool false))⟩,
  ⟨none, (some 6), .mv 6 (.t 49 true)⟩]
abbrev c59r15 : List GOp := [⟨none, (some 50), .mv 50 (.t 9 false)⟩,
  ⟨none, (some 51), .call (some 51) 74 [(.t 50 false)]⟩,
  ⟨none, (some 52), .call (some 52) 73 [(.t 51 false)]⟩,
  ⟨none, none, .bstore 2 none (.t 52 true) 4⟩]
abbrev c59s16 : ACode := (.seq (.reg c59r14 [6]) (.reg c59r15 [2]))
abbrev c59s17 : ACode := (.seq (.reg c59r13 [9, 10]) c59s16)
abbrev c59r18 : List GOp := [⟨none, (some 53), .mv 53 (.t 1 false)⟩,
  ⟨none, (some 54), .bin 54 .eql false (.t 53 false) (.c (.int .i64 3))⟩]
abbrev c59r19 : List GOp := [⟨none, (some 56), .baddr 56 2 1⟩,
  ⟨none, (some 57), .bload 57 2 (some 56) none false⟩,
  ⟨none, (some 58), .call (some 58) 75 [(.t 57 false), (.c (.int .i64 8))]⟩,
  ⟨none, (some 55), .mv 55 (.t 58 true)⟩,
  ⟨none, (some 59), .extract 59 (.t 55 false) 0⟩,
  ⟨none, (some 60), .extract 60 (.t 55 false) 1⟩,
  ⟨none, (some 11), .mv 11 (.t 59 true)⟩,
  ⟨none, (some 12), .mv 12 (.t 60 true)⟩]
abbrev c59r20 : List GOp := [⟨none, (some 61), .mv 61 (.t 12 false)⟩,
  ⟨none, (some 62), .bin 62 .eql false (.t 61 false) (.c (.int .i64 0))⟩,
  ⟨none, (some 6), .mv 6 (.t 62 true)⟩]
abbrev c59s21 : ACode := (.seq (.reg c59r19 [12]) (.reg c59r20 [6]))
abbrev c59r22 : List GOp := [⟨none, (some 63), .baddr 63 2 1⟩,
  ⟨none, (some 64), .bload 64 2 (some 63) none false⟩,
  ⟨none, (some 65), .len 65 true (.t 64 false)⟩,
  ⟨none, (some 66), .bin 66 .geq false (.t 65 false) (.c (.int .i64 1))⟩,
  ⟨none, (some 67), .mv 67 (.t 66 true)⟩,
  ⟨(some (67, true)), (some 68), .baddr 68 2 1⟩,
  ⟨(some (67, true)), (some 69), .bload 69 2 (some 68) none false⟩,
  ⟨(some (67, true)), (some 70), .len 70 true (.t 69 false)⟩,
  ⟨(some (67, true)), (some 71), .bin 71 .leq false (.t 70 false) (.c (.int .i64 64))⟩,
  ⟨none, (some 72), .pick 72 (.t 67 false) (.t 71 false) (.c (.bool false))⟩,
  ⟨none, (some 6), .mv 6 (.t 72 true)⟩]
abbrev c59s23 : ACode := (.cond (.t 54 false) c59s21 (.reg c59r22 [6]))
abbrev c59s24 : ACode := (.seq (.reg c59r18 [54]) c59s23)
abbrev c59s25 : ACode := (.cond (.t 37 false) c59s17 c59s24)
abbrev c59s26 : ACode := (.seq (.reg c59r12 [37]) c59s25)
abbrev c59s27 : ACode := (.cond (.t 23 false) c59s11 c59s26)
abbrev c59s28 : ACode := (.seq (.reg c59r8 [23]) c59s27)
abbrev c59s29 : ACode := (.cond (.t 18 false) (.reg c59r7 [6]) c59s28)
abbrev c59r30 : List GOp := [⟨none, (some 73), .mv 73 (.t 6 false)⟩,
  ⟨none, (some 74), .un 74 .not (.t 73 false)⟩]
abbrev c59r31 : List GOp := [⟨none, (some 75), .build 75 [(.int .i64 0), (.str []), (.oslice 1 []), (.oslice 4 [])] []⟩,
  ⟨none, none, .bstore 4 none (.t 75 true) 4⟩,
  ⟨none, (some 5), .mv 5 (.c (.bool false))⟩]
abbrev c59s32 : ACode := (.seq (.reg c59r31 [4, 5]) .ret)
abbrev c59s33 : ACode := (.cond (.t 74 false) c59s32 .skip)
abbrev c59r34 : List GOp := [⟨none, (some 76), .bload 76 2 none (some 4) false⟩,
  ⟨none, none, .bstore 4 none (.t 76 true) 4⟩,
  ⟨none, (some 5), .mv 5 (.c (.bool true))⟩]
abbrev c59s35 : ACode := (.seq (.reg c59r34 [4, 5]) .ret)
abbrev c59s36 : ACode := (.seq (.seq (.reg c59r30 [74]) c59s33) c59s35)
abbrev c59s37 : ACode := (.seq (.seq (.reg c59r6 [18]) c59s29) c59s36)
abbrev c59s38 : ACode := (.seq (.reg c59r5 [6]) c59s37)
abbrev c59s39 : ACode := (.seq (.seq (.reg c59r1 [15]) c59s4) c59s38)
abbrev c59 : ACode := (.seq (.reg c59r0 [2, 4, 5]) c59s39)
def a59 : AFn := ⟨[2, 4], [0, 1, 2, 4, 5, 6, 7, 8, 9, 10, 12, 15, 18, 23, 37, 54, 74], [16, 21, 27, 28, 29, 31, 35, 41, 42, 43, 45, 49, 52, 58, 59, 60, 62, 66, 72, 75, 76], [], [(68, 2), (63, 2), (56, 2), (39, 2), (25, 2), (19, 2), (13, 2)], [(68, 1), (63, 1), (56, 1), (39, 1), (25, 1), (19, 1), (13, 0)], [], [], c59, [.cell 4 (some 4), .tmp 5]⟩
theorem is59 : IsFn Tryz.prog 59 2 a59 := isFn_of mix Tryz.func59 (by kernel_rfl) (by kernel_rfl) (by kernel_rfl) (by kernel_rfl) (by kernel_rfl)
theorem sound59 {args : List AV} {r : AV} (hl : args.length = 2) (h : awp Tryz.prog c59 (unw Tryz.prog [] (Ends [.cell 4 (some 4), .tmp 5] r)) (initSt args)) : Sound Tryz.prog 59 args r := sound_of is59 hl h
theorem total59 {args : List AV} {Φ : AV → Prop} (hl : args.length = 2) (h : awp Tryz.prog c59 (unw Tryz.prog [] (EndsP [.cell 4 (some 4), .tmp 5] Φ)) (initSt args)) : Total Tryz.prog 59 args Φ := total_of is59 hl h

/-! longshore/longshoreref18.Words -/
abbrev c60r0 : List GOp := [⟨none, (some 1), .bbox 1 (.t 0 false)⟩,
  ⟨none, (some 2), .balloc 2 (.agg [(.int .i64 0), (.str []), (.oslice 1 []), (.oslice 4 [])])⟩,
  ⟨none, (some 3), .mv 3 (.c (.bool false))⟩]
abbrev c60r1 : List GOp := [⟨none, (some 11), .bload 11 1 none (some 4) false⟩,
  ⟨none, (some 12), .call (some 12) 46 [(.t 11 false)]⟩,
  ⟨none, (some 10), .mv 10 (.t 12 true)⟩,
  ⟨none, (some 13), .extract 13 (.t 10 false) 0⟩,
  ⟨none, (some 14), .extract 14 (.t 10 false) 1⟩,
  ⟨none, (some 4), .mv 4 (.t 13 true)⟩,
  ⟨none, (some 5), .mv 5 (.t 14 true)⟩]
abbrev c60r2 : List GOp := [⟨none, (some 15), .baddr 15 1 0⟩,
  ⟨none, (some 16), .bload 16 1 (some 15) none false⟩,
  ⟨none, (some 17), .bin 17 .eql false (.t 16 false) (.c (.int .i64 1))⟩]
abbrev c60r3 : List GOp := [⟨none, (some 19), .baddr 19 1 1⟩,
  ⟨none, (some 20), .bload 20 1 (some 19) none false⟩,
  ⟨none, (some 21), .call (some 21) 76 [(.t 20 false)]⟩,
  ⟨none, (some 18), .mv 18 (.t 21 true)⟩,
  ⟨none, (some 22), .extract 22 (.t 18 false) 0⟩,
  ⟨none, (some 23), .extract 23 (.t 18 false) 1⟩,
  ⟨none, (some 6), .mv 6 (.t 22 true)⟩,
  ⟨none, (some 7), .mv 7 (.t 23 true)⟩]
abbrev c60r4 : List GOp := [⟨none, (some 24), .mv 24 (.t 6 false)⟩,
  ⟨none, (some 4), .mv 4 (.t 24 true)⟩]
abbrev c60r5 : List GOp := [⟨none, (some 25), .mv 25 (.t 7 false)⟩,
  ⟨none, (some 26), .bin 26 .eql false (.t 25 false) (.c (.int .i64 0))⟩,
  ⟨none, (some 5), .mv 5 (.t 26 true)⟩]
abbrev c60s6 : ACode := (.seq (.reg c60r4 [4]) (.reg c60r5 [5]))
abbrev c60s7 : ACode := (.seq (.reg c60r3 [6, 7]) c60s6)
abbrev c60s8 : ACode := (.cond (.t 17 false) c60s7 .skip)
abbrev c60r9 : List GOp := [⟨none, (some 27), .mv 27 (.t 5 false)⟩,
  ⟨none, (some 28), .un 28 .not (.t 27 false)⟩]
abbrev c60r10 : List GOp := [⟨none, (some 29), .build 29 [(.int .i64 0), (.str []), (.oslice 1 []), (.oslice 4 [])] []⟩,
  ⟨none, none, .bstore 2 none (.t 29 true) 4⟩,
  ⟨none, (some 3), .mv 3 (.c (.bool false))⟩]
abbrev c60s11 : ACode := (.seq (.reg c60r10 [2, 3]) .ret)
abbrev c60s12 : ACode := (.cond (.t 28 false) c60s11 .skip)
abbrev c60r13 : List GOp := [⟨none, (some 30), .build 30 [(.int .i64 0), (.str []), (.oslice 1 []), (.oslice 4 [])] [(0, 1, (.c (.int .i64 2)))]⟩,
  ⟨none, (some 8), .balloc 8 (.agg [(.int .i64 0), (.str []), (.oslice 1 []), (.oslice 4 [])])⟩,
  ⟨none, none, .bstore 8 none (.t 30 true) 4⟩]
abbrev c60r14 : List GOp := [⟨none, (some 9), .mv 9 (.c (.int .i64 0))⟩]
abbrev c60r15 : List GOp := [⟨none, (some 31), .mv 31 (.t 9 false)⟩,
  ⟨none, (some 32), .mv 32 (.t 4 false)⟩,
  ⟨none, (some 33), .len 33 false (.t 32 false)⟩,
  ⟨none, (some 34), .bin 34 .lss false (.t 31 false) (.t 33 false)⟩]
abbrev c60s16 : ACode := (.cond (.t 34 false) .skip (.exit 0))
abbrev c60r17 : List GOp := [⟨none, (some 37), .baddr 37 8 3⟩,
  ⟨none, (some 38), .btk 38 8 (some 37) 3⟩,
  ⟨none, (some 39), .mv 39 (.t 4 false)⟩,
  ⟨none, (some 40), .mv 40 (.t 9 false)⟩,
  ⟨none, (some 41), .idx 41 (.t 39 false) (.t 40 false) 1⟩,
  ⟨none, (some 42), .vload 42 41 none⟩,
  ⟨none, (some 43), .call (some 43) 73 [(.t 42 false)]⟩,
  ⟨none, (some 44), .mkslice 44 4 [(.t 43 false)]⟩,
  ⟨none, (some 45), .append 45 (.t 38 true) (.t 44 false) 4 72⟩,
  ⟨none, (some 46), .baddr 46 8 3⟩,
  ⟨none, none, .bstore 8 (some 46) (.t 45 true) 1⟩]
abbrev c60r18 : List GOp := [⟨none, (some 35), .mv 35 (.t 9 false)⟩,
  ⟨none, (some 36), .bin 36 .add false (.t 35 false) (.c (.int .i64 1))⟩,
  ⟨none, (some 9), .mv 9 (.t 36 true)⟩]
abbrev c60s19 : ACode := (.seq (.block 1 (.reg c60r17 [8])) (.reg c60r18 [9]))
abbrev c60s20 : ACode := (.seq (.seq (.reg c60r15 [34]) c60s16) c60s19)
abbrev c60s21 : ACode := (.loop c60s20)
abbrev c60s22 : ACode := (.block 0 c60s21)
abbrev c60r23 : List GOp := [⟨none, (some 47), .bload 47 8 none (some 4) false⟩,
  ⟨none, none, .bstore 2 none (.t 47 true) 4⟩,
  ⟨none, (some 3), .mv 3 (.c (.bool true))⟩]
abbrev c60s24 : ACode := (.seq (.reg c60r23 [2, 3]) .ret)
abbrev c60s25 : ACode := (.seq (.seq (.reg c60r14 [9]) c60s22) c60s24)
abbrev c60s26 : ACode := (.seq (.reg c60r13 [8]) c60s25)
abbrev c60s27 : ACode := (.seq (.seq (.reg c60r9 [28]) c60s12) c60s26)
abbrev c60s28 : ACode := (.seq (.seq (.reg c60r2 [17]) c60s8) c60s27)
abbrev c60s29 : ACode := (.seq (.reg c60r1 [4, 5]) c60s28)
abbrev c60 : ACode := (.seq (.reg c60r0 [1, 2, 3]) c60s29)
def a60 : AFn := ⟨[1, 2, 8], [0, 1, 2, 3, 4, 5, 6, 7, 8, 9, 17, 28, 34], [12, 13, 14, 21, 22, 23, 24, 26, 29, 30, 36, 38, 45, 47], [38], [(46, 8), (37, 8), (19, 1), (15, 1)], [(46, 3), (37, 3), (19, 1), (15, 0)], [], [], c60, [.cell 2 (some 4), .tmp 3]⟩
theorem is60 : IsFn Tryz.prog 60 1 a60 := isFn_of mix Tryz.func60 (by kernel_rfl) (by kernel_rfl) (by kernel_rfl) (by kernel_rfl) (by kernel_rfl)
theorem sound60 {args : List AV} {r : AV} (hl : args.length = 1) (h : awp Tryz.prog c60 (unw Tryz.prog [] (Ends [.cell 2 (some 4), .tmp 3] r)) (initSt args)) : Sound Tryz.prog 60 args r := sound_of is60 hl h
theorem total60 {args : List AV} {Φ : AV → Prop} (hl : args.length = 1) (h : awp Tryz.prog c60 (unw Tryz.prog [] (EndsP [.cell 2 (some 4), .tmp 3] Φ)) (initSt args)) : Total Tryz.prog 60 args Φ := total_of is60 hl h

/-! longshore/longshoreref18.Pairs -/
abbrev c61r0 : List GOp := [⟨none, (some 2), .bbox 2 (.t 0 false)⟩,
  ⟨none, (some 4), .balloc 4 (.agg [(.int .i64 0), (.str []), (.oslice 1 []), (.oslice 4 [])])⟩,
  ⟨none, (some 5), .mv 5 (.c (.bool false))⟩]
abbrev c61r1 : List GOp := [⟨none, (some 14), .build 14 [(.int .i64 0), (.str []), (.oslice 1 []), (.oslice 4 [])] []⟩,
  ⟨none, (some 6), .balloc 6 (.agg [(.int .i64 0), (.str []), (.oslice 1 []), (.oslice 4 [])])⟩,
  ⟨none, none, .bstore 6 none (.t 14 true) 4⟩]
abbrev c61r2 : List GOp := [⟨none, (some 16), .bload 16 2 none (some 4) false⟩,
  ⟨none, (some 17), .call (some 17) 46 [(.t 16 false)]⟩,
  ⟨none, (some 15), .mv 15 (.t 17 true)⟩,
  ⟨none, (some 18), .extract 18 (.t 15 false) 0⟩,
  ⟨none, (some 19), .extract 19 (.t 15 false) 1⟩,
  ⟨none, (some 7), .mv 7 (.t 18 true)⟩,
  ⟨none, (some 8), .mv 8 (.t 19 true)⟩]
abbrev c61r3 : List GOp := [⟨none, (some 20), .mv 20 (.t 8 false)⟩]
abbrev c61r4 : List GOp := [⟨none, (some 9), .mv 9 (.c (.int .i64 0))⟩]
abbrev c61r5 : List GOp := [⟨none, (some 21), .mv 21 (.t 9 false)⟩,
  ⟨none, (some 22), .mv 22 (.t 7 false)⟩,
  ⟨none, (some 23), .len 23 false (.t 22 false)⟩,
  ⟨none, (some 24), .bin 24 .lss false (.t 21 false) (.t 23 false)⟩]
abbrev c61s6 : ACode := (.cond (.t 24 false) .skip (.exit 0))
abbrev c61r7 : List GOp := [⟨none, (some 10), .mv 10 (.c (.int .i64 0))⟩]
abbrev c61r8 : List GOp := [⟨none, (some 27), .mv 27 (.t 10 false)⟩,
  ⟨none, (some 28), .mv 28 (.t 7 false)⟩,
  ⟨none, (some 29), .mv 29 (.t 9 false)⟩,
  ⟨none, (some 30), .idx 30 (.t 28 false) (.t 29 false) 1⟩,
  ⟨none, (some 31), .vload 31 30 none⟩,
  ⟨none, (some 32), .len 32 true (.t 31 false)⟩,
  ⟨none, (some 33), .bin 33 .lss false (.t 27 false) (.t 32 false)⟩,
  ⟨none, (some 34), .mv 34 (.t 33 true)⟩,
  ⟨(some (34, true)), (some 35), .mv 35 (.t 7 false)⟩,
  ⟨(some (34, true)), (some 36), .mv 36 (.t 9 false)⟩,
  ⟨(some (34, true)), (some 37), .idx 37 (.t 35 false) (.t 36 false) 1⟩,
  ⟨(some (34, true)), (some 38), .vload 38 37 none⟩,
  ⟨(some (34, true)), (some 39), .mv 39 (.t 10 false)⟩,
  ⟨(some (34, true)), (some 40), .sidx 40 (.t 38 false) (.t 39 false)⟩,
  ⟨(some (34, true)), (some 41), .bin 41 .neq false (.t 40 false) (.c (.int .u8 61))⟩,
  ⟨none, (some 42), .pick 42 (.t 34 false) (.t 41 false) (.c (.bool false))⟩]
abbrev c61s9 : ACode := (.cond (.t 42 false) .skip (.exit 2))
abbrev c61r10 : List GOp := [⟨none, (some 43), .mv 43 (.t 10 false)⟩,
  ⟨none, (some 44), .bin 44 .add false (.t 43 false) (.c (.int .i64 1))⟩,
  ⟨none, (some 10), .mv 10 (.t 44 true)⟩]
abbrev c61s11 : ACode := (.block 3 (.reg c61r10 [10]))
abbrev c61s12 : ACode := (.seq (.seq (.reg c61r8 [42]) c61s9) c61s11)
abbrev c61s13 : ACode := (.loop c61s12)
abbrev c61r14 : List GOp := [⟨none, (some 11), .mv 11 (.c (.str []))⟩]
abbrev c61r15 : List GOp := [⟨none, (some 45), .mv 45 (.t 10 false)⟩,
  ⟨none, (some 46), .mv 46 (.t 7 false)⟩,
  ⟨none, (some 47), .mv 47 (.t 9 false)⟩,
  ⟨none, (some 48), .idx 48 (.t 46 false) (.t 47 false) 1⟩,
  ⟨none, (some 49), .vload 49 48 none⟩,
  ⟨none, (some 50), .len 50 true (.t 49 false)⟩,
  ⟨none, (some 51), .bin 51 .lss false (.t 45 false) (.t 50 false)⟩]
abbrev c61r16 : List GOp := [⟨none, (some 52), .mv 52 (.t 7 false)⟩,
  ⟨none, (some 53), .mv 53 (.t 9 false)⟩,
  ⟨none, (some 54), .idx 54 (.t 52 false) (.t 53 false) 1⟩,
  ⟨none, (some 55), .vload 55 54 none⟩,
  ⟨none, (some 56), .mv 56 (.t 10 false)⟩,
  ⟨none, (some 57), .bin 57 .add false (.t 56 false) (.c (.int .i64 1))⟩,
  ⟨none, (some 58), .sslice 58 (.t 55 false) (some (.t 57 false)) none⟩,
  ⟨none, (some 11), .mv 11 (.t 58 true)⟩]
abbrev c61s17 : ACode := (.cond (.t 51 false) (.reg c61r16 [11]) .skip)
abbrev c61r18 : List GOp := [⟨none, (some 59), .mv 59 (.t 7 false)⟩,
  ⟨none, (some 60), .mv 60 (.t 9 false)⟩,
  ⟨none, (some 61), .idx 61 (.t 59 false) (.t 60 false) 1⟩,
  ⟨none, (some 62), .vload 62 61 none⟩,
  ⟨none, (some 63), .mv 63 (.t 10 false)⟩,
  ⟨none, (some 64), .sslice 64 (.t 62 false) none (some (.t 63 false))⟩,
  ⟨none, (some 12), .mv 12 (.t 64 true)⟩]
abbrev c61r19 : List GOp := [⟨none, (some 65), .mv 65 (.t 12 false)⟩,
  ⟨none, (some 66), .mv 66 (.t 1 false)⟩,
  ⟨none, (some 67), .call (some 67) 77 [(.t 65 false), (.t 66 false)]⟩,
  ⟨none, (some 68), .un 68 .not (.t 67 false)⟩,
  ⟨none, (some 69), .mv 69 (.t 68 true)⟩,
  ⟨(some (69, false)), (some 70), .baddr 70 6 2⟩,
  ⟨(some (69, false)), (some 71), .bload 71 6 (some 70) none false⟩,
  ⟨(some (69, false)), (some 72), .mv 72 (.t 12 false)⟩,
  ⟨(some (69, false)), (some 73), .call (some 73) 78 [(.t 71 false), (.t 72 false)]⟩,
  ⟨none, (some 74), .pick 74 (.t 69 false) (.c (.bool true)) (.t 73 false)⟩]
abbrev c61r20 : List GOp := [⟨none, (some 75), .build 75 [(.int .i64 0), (.str []), (.oslice 1 []), (.oslice 4 [])] []⟩,
  ⟨none, none, .bstore 4 none (.t 75 true) 4⟩,
  ⟨none, (some 5), .mv 5 (.c (.bool false))⟩]
abbrev c61s21 : ACode := (.seq (.reg c61r20 [4, 5]) .ret)
abbrev c61s22 : ACode := (.cond (.t 74 false) c61s21 .skip)
abbrev c61r23 : List GOp := [⟨none, (some 76), .bload 76 6 none (some 4) false⟩,
  ⟨none, (some 77), .mv 77 (.t 12 false)⟩,
  ⟨none, (some 78), .mv 78 (.t 11 false)⟩,
  ⟨none, (some 79), .call (some 79) 73 [(.t 78 false)]⟩,
  ⟨none, (some 80), .call (some 80) 29 [(.t 76 false), (.t 77 false), (.t 79 false)]⟩,
  ⟨none, none, .bstore 6 none (.t 80 true) 4⟩]
abbrev c61s24 : ACode := (.seq (.seq (.reg c61r19 [74]) c61s22) (.reg c61r23 [6]))
abbrev c61s25 : ACode := (.seq (.reg c61r18 [12]) c61s24)
abbrev c61s26 : ACode := (.seq (.seq (.reg c61r15 [51]) c61s17) c61s25)
abbrev c61s27 : ACode := (.seq (.reg c61r14 [11]) c61s26)
abbrev c61s28 : ACode := (.seq (.block 2 c61s13) c61s27)
abbrev c61s29 : ACode := (.seq (.reg c61r7 [10]) c61s28)
abbrev c61r30 : List GOp := [⟨none, (some 25), .mv 25 (.t 9 false)⟩,
  ⟨none, (some 26), .bin 26 .add false (.t 25 false) (.c (.int .i64 1))⟩,
  ⟨none, (some 9), .mv 9 (.t 26 true)⟩]
abbrev c61s31 : ACode := (.seq (.block 1 c61s29) (.reg c61r30 [9]))
abbrev c61s32 : ACode := (.seq (.seq (.reg c61r5 [24]) c61s6) c61s31)
abbrev c61s33 : ACode := (.loop c61s32)
abbrev c61s34 : ACode := (.block 0 c61s33)
abbrev c61r35 : List GOp := [⟨none, (some 81), .bload 81 6 none (some 4) false⟩,
  ⟨none, (some 82), .call (some 82) 47 [(.t 81 false), (.c (.bool true))]⟩,
  ⟨none, (some 83), .extract 83 (.t 82 false) 0⟩,
  ⟨none, (some 84), .extract 84 (.t 82 false) 1⟩,
  ⟨none, none, .bstore 4 none (.t 83 true) 4⟩,
  ⟨none, (some 5), .mv 5 (.t 84 true)⟩]
abbrev c61s36 : ACode := (.seq (.reg c61r35 [4, 5]) .ret)
abbrev c61s37 : ACode := (.seq (.seq (.reg c61r4 [9]) c61s34) c61s36)
abbrev c61s38 : ACode := (.cond (.t 20 false) c61s37 .skip)
abbrev c61r39 : List GOp := [⟨none, (some 85), .baddr 85 2 0⟩,
  ⟨none, (some 86), .bload 86 2 (some 85) none false⟩,
  ⟨none, (some 87), .bin 87 .neq false (.t 86 false) (.c (.int .i64 3))⟩]
abbrev c61r40 : List GOp := [⟨none, (some 88), .build 88 [(.int .i64 0), (.str []), (.oslice 1 []), (.oslice 4 [])] []⟩,
  ⟨none, none, .bstore 4 none (.t 88 true) 4⟩,
  ⟨none, (some 5), .mv 5 (.c (.bool false))⟩]
abbrev c61s41 : ACode := (.seq (.reg c61r40 [4, 5]) .ret)
abbrev c61s42 : ACode := (.cond (.t 87 false) c61s41 .skip)
abbrev c61r43 : List GOp := [⟨none, (some 13), .mv 13 (.c (.int .i64 0))⟩]
abbrev c61r44 : List GOp := [⟨none, (some 89), .mv 89 (.t 13 false)⟩,
  ⟨none, (some 90), .baddr 90 2 2⟩,
  ⟨none, (some 91), .bload 91 2 (some 90) none false⟩,
  ⟨none, (some 92), .len 92 false (.t 91 false)⟩,
  ⟨none, (some 93), .bin 93 .lss false (.t 89 false) (.t 92 false)⟩]
abbrev c61s45 : ACode := (.cond (.t 93 false) .skip (.exit 4))
abbrev c61r46 : List GOp := [⟨none, (some 96), .baddr 96 2 2⟩,
  ⟨none, (some 97), .bload 97 2 (some 96) none false⟩,
  ⟨none, (some 98), .mv 98 (.t 13 false)⟩,
  ⟨none, (some 99), .idx 99 (.t 97 false) (.t 98 false) 1⟩,
  ⟨none, (some 100), .vload 100 99 none⟩,
  ⟨none, (some 101), .mv 101 (.t 1 false)⟩,
  ⟨none, (some 102), .call (some 102) 77 [(.t 100 false), (.t 101 false)]⟩,
  ⟨none, (some 103), .un 103 .not (.t 102 false)⟩,
  ⟨none, (some 104), .mv 104 (.t 103 true)⟩,
  ⟨(some (104, false)), (some 105), .baddr 105 2 3⟩,
  ⟨(some (104, false)), (some 106), .bload 106 2 (some 105) none false⟩,
  ⟨(some (104, false)), (some 107), .mv 107 (.t 13 false)⟩,
  ⟨(some (104, false)), (some 108), .idx 108 (.t 106 false) (.t 107 false) 4⟩,
  ⟨(some (104, false)), (some 109), .paddr 109 108 none 0⟩,
  ⟨(some (104, false)), (some 110), .vload 110 109 none⟩,
  ⟨(some (104, false)), (some 111), .bin 111 .gtr false (.t 110 false) (.c (.int .i64 1))⟩,
  ⟨none, (some 112), .pick 112 (.t 104 false) (.c (.bool true)) (.t 111 false)⟩]
abbrev c61r47 : List GOp := [⟨none, (some 113), .build 113 [(.int .i64 0), (.str []), (.oslice 1 []), (.oslice 4 [])] []⟩,
  ⟨none, none, .bstore 4 none (.t 113 true) 4⟩,
  ⟨none, (some 5), .mv 5 (.c (.bool false))⟩]
abbrev c61s48 : ACode := (.seq (.reg c61r47 [4, 5]) .ret)
abbrev c61s49 : ACode := (.cond (.t 112 false) c61s48 .skip)
abbrev c61r50 : List GOp := [⟨none, (some 114), .bload 114 6 none (some 4) false⟩,
  ⟨none, (some 115), .baddr 115 2 2⟩,
  ⟨none, (some 116), .bload 116 2 (some 115) none false⟩,
  ⟨none, (some 117), .mv 117 (.t 13 false)⟩,
  ⟨none, (some 118), .idx 118 (.t 116 false) (.t 117 false) 1⟩,
  ⟨none, (some 119), .vload 119 118 none⟩,
  ⟨none, (some 120), .baddr 120 2 3⟩,
  ⟨none, (some 121), .bload 121 2 (some 120) none false⟩,
  ⟨none, (some 122), .mv 122 (.t 13 false)⟩,
  ⟨none, (some 123), .idx 123 (.t 121 false) (.t 122 false) 4⟩,
  ⟨none, (some 124), .paddr 124 123 none 1⟩,
  ⟨none, (some 125), .vload 125 124 none⟩,
  ⟨none, (some 126), .call (some 126) 73 [(.t 125 false)]⟩,
  ⟨none, (some 127), .call (some 127) 29 [(.t 114 false), (.t 119 false), (.t 126 false)]⟩,
  ⟨none, none, .bstore 6 none (.t 127 true) 4⟩]
abbrev c61s51 : ACode := (.seq (.seq (.reg c61r46 [112]) c61s49) (.reg c61r50 [6]))
abbrev c61r52 : List GOp := [⟨none, (some 94), .mv 94 (.t 13 false)⟩,
  ⟨none, (some 95), .bin 95 .add false (.t 94 false) (.c (.int .i64 1))⟩,
  ⟨none, (some 13), .mv 13 (.t 95 true)⟩]
abbrev c61s53 : ACode := (.seq (.block 5 c61s51) (.reg c61r52 [13]))
abbrev c61s54 : ACode := (.seq (.seq (.reg c61r44 [93]) c61s45) c61s53)
abbrev c61s55 : ACode := (.loop c61s54)
abbrev c61s56 : ACode := (.block 4 c61s55)
abbrev c61r57 : List GOp := [⟨none, (some 128), .bload 128 6 none (some 4) false⟩,
  ⟨none, (some 129), .call (some 129) 47 [(.t 128 false), (.c (.bool true))]⟩,
  ⟨none, (some 130), .extract 130 (.t 129 false) 0⟩,
  ⟨none, (some 131), .extract 131 (.t 129 false) 1⟩,
  ⟨none, none, .bstore 4 none (.t 130 true) 4⟩,
  ⟨none, (some 5), .mv 5 (.t 131 true)⟩]
abbrev c61s58 : ACode := (.seq (.reg c61r57 [4, 5]) .ret)
abbrev c61s59 : ACode := (.seq (.seq (.reg c61r43 [13]) c61s56) c61s58)
abbrev c61s60 : ACode := (.seq (.seq (.reg c61r39 [87]) c61s42) c61s59)
abbrev c61s61 : ACode := (.seq (.seq (.reg c61r3 [20]) c61s38) c61s60)
abbrev c61s62 : ACode := (.seq (.reg c61r2 [7, 8]) c61s61)
abbrev c61s63 : ACode := (.seq (.reg c61r1 [6]) c61s62)
abbrev c61 : ACode := (.seq (.reg c61r0 [2, 4, 5]) c61s63)
def a61 : AFn := ⟨[2, 4, 6], [0, 1, 2, 4, 5, 6, 7, 8, 9, 10, 11, 12, 13, 20, 24, 42, 51, 74, 87, 93, 112], [14, 17, 18, 19, 26, 33, 44, 58, 64, 68, 75, 80, 83, 84, 88, 95, 103, 113, 127, 130, 131], [], [(120, 2), (115, 2), (105, 2), (96, 2), (90, 2), (85, 2), (70, 6)], [(120, 3), (115, 2), (105, 3), (96, 2), (90, 2), (85, 0), (70, 2)], [], [], c61, [.cell 4 (some 4), .tmp 5]⟩
theorem is61 : IsFn Tryz.prog 61 2 a61 := isFn_of mix Tryz.func61 (by kernel_rfl) (by kernel_rfl) (by kernel_rfl) (by kernel_rfl) (by kernel_rfl)
theorem sound61 {args : List AV} {r : AV} (hl : args.length = 2) (h : awp Tryz.prog c61 (unw Tryz.prog [] (Ends [.cell 4 (some 4), .tmp 5] r)) (initSt args)) : Sound Tryz.prog 61 args r := sound_of is61 hl h
theorem total61 {args : List AV} {Φ : AV → Prop} (hl : args.length = 2) (h : awp Tryz.prog c61 (unw Tryz.prog [] (EndsP [.cell 4 (some 4), .tmp 5] Φ)) (initSt args)) : Total Tryz.prog 61 args Φ := total_of is61 hl h

/-! longshore/longshoreref18.Ports -/
abbrev c62r0 : List GOp := [⟨none, (some 1), .bbox 1 (.t 0 false)⟩,
  ⟨none, (some 2), .balloc 2 (.agg [(.int .i64 0), (.str []), (.oslice 1 []), (.oslice 4 [])])⟩,
  ⟨none, (some 3), .mv 3 (.c (.bool false))⟩]
abbrev c62r1 : List GOp := [⟨none, (some 7), .baddr 7 1 3⟩,
  ⟨none, (some 8), .bload 8 1 (some 7) none false⟩,
  ⟨none, (some 9), .len 9 false (.t 8 false)⟩,
  ⟨none, (some 10), .bin 10 .gtr false (.t 9 false) (.c (.int .i64 32))⟩,
  ⟨none, (some 11), .mv 11 (.t 10 true)⟩,
  ⟨(some (11, false)), (some 12), .baddr 12 1 0⟩,
  ⟨(some (11, false)), (some 13), .bload 13 1 (some 12) none false⟩,
  ⟨(some (11, false)), (some 14), .bin 14 .lss false (.t 13 false) (.c (.int .i64 2))⟩,
  ⟨none, (some 15), .pick 15 (.t 11 false) (.c (.bool true)) (.t 14 false)⟩]
abbrev c62r2 : List GOp := [⟨none, (some 16), .build 16 [(.int .i64 0), (.str []), (.oslice 1 []), (.oslice 4 [])] []⟩,
  ⟨none, none, .bstore 2 none (.t 16 true) 4⟩,
  ⟨none, (some 3), .mv 3 (.c (.bool false))⟩]
abbrev c62s3 : ACode := (.seq (.reg c62r2 [2, 3]) .ret)
abbrev c62s4 : ACode := (.cond (.t 15 false) c62s3 .skip)
abbrev c62r5 : List GOp := [⟨none, (some 17), .build 17 [(.int .i64 0), (.str []), (.oslice 1 []), (.oslice 4 [])] []⟩,
  ⟨none, (some 4), .balloc 4 (.agg [(.int .i64 0), (.str []), (.oslice 1 []), (.oslice 4 [])])⟩,
  ⟨none, none, .bstore 4 none (.t 17 true) 4⟩]
abbrev c62r6 : List GOp := [⟨none, (some 5), .mv 5 (.c (.int .i64 0))⟩]
abbrev c62r7 : List GOp := [⟨none, (some 18), .mv 18 (.t 5 false)⟩,
  ⟨none, (some 19), .baddr 19 1 3⟩,
  ⟨none, (some 20), .bload 20 1 (some 19) none false⟩,
  ⟨none, (some 21), .len 21 false (.t 20 false)⟩,
  ⟨none, (some 22), .bin 22 .lss false (.t 18 false) (.t 21 false)⟩]
abbrev c62s8 : ACode := (.cond (.t 22 false) .skip (.exit 0))
abbrev c62r9 : List GOp := [⟨none, (some 6), .mv 6 (.c (.str []))⟩]
abbrev c62r10 : List GOp := [⟨none, (some 25), .baddr 25 1 0⟩,
  ⟨none, (some 26), .bload 26 1 (some 25) none false⟩,
  ⟨none, (some 27), .bin 27 .eql false (.t 26 false) (.c (.int .i64 2))⟩]
abbrev c62r11 : List GOp := [⟨none, (some 28), .baddr 28 1 3⟩,
  ⟨none, (some 29), .bload 29 1 (some 28) none false⟩,
  ⟨none, (some 30), .mv 30 (.t 5 false)⟩,
  ⟨none, (some 31), .idx 31 (.t 29 false) (.t 30 false) 4⟩,
  ⟨none, (some 32), .vload 32 31 (some 4)⟩,
  ⟨none, (some 33), .call (some 33) 79 [(.t 32 false)]⟩,
  ⟨none, (some 6), .mv 6 (.t 33 true)⟩]
abbrev c62r12 : List GOp := [⟨none, (some 34), .baddr 34 1 3⟩,
  ⟨none, (some 35), .bload 35 1 (some 34) none false⟩,
  ⟨none, (some 36), .mv 36 (.t 5 false)⟩,
  ⟨none, (some 37), .idx 37 (.t 35 false) (.t 36 false) 4⟩,
  ⟨none, (some 38), .paddr 38 37 none 0⟩,
  ⟨none, (some 39), .vload 39 38 none⟩,
  ⟨none, (some 40), .bin 40 .eql false (.t 39 false) (.c (.int .i64 0))⟩,
  ⟨none, (some 41), .mv 41 (.t 40 true)⟩,
  ⟨(some (41, true)), (some 42), .baddr 42 1 2⟩,
  ⟨(some (41, true)), (some 43), .bload 43 1 (some 42) none false⟩,
  ⟨(some (41, true)), (some 44), .mv 44 (.t 5 false)⟩,
  ⟨(some (41, true)), (some 45), .idx 45 (.t 43 false) (.t 44 false) 1⟩,
  ⟨(some (41, true)), (some 46), .vload 46 45 none⟩,
  ⟨(some (41, true)), (some 47), .call (some 47) 73 [(.t 46 false)]⟩,
  ⟨(some (41, true)), (some 48), .call (some 48) 79 [(.t 47 false)]⟩,
  ⟨(some (41, true)), (some 49), .baddr 49 1 2⟩,
  ⟨(some (41, true)), (some 50), .bload 50 1 (some 49) none false⟩,
  ⟨(some (41, true)), (some 51), .mv 51 (.t 5 false)⟩,
  ⟨(some (41, true)), (some 52), .idx 52 (.t 50 false) (.t 51 false) 1⟩,
  ⟨(some (41, true)), (some 53), .vload 53 52 none⟩,
  ⟨(some (41, true)), (some 54), .bin 54 .eql false (.t 48 false) (.t 53 false)⟩,
  ⟨none, (some 55), .pick 55 (.t 41 false) (.t 54 false) (.c (.bool false))⟩]
abbrev c62r13 : List GOp := [⟨none, (some 56), .baddr 56 1 2⟩,
  ⟨none, (some 57), .bload 57 1 (some 56) none false⟩,
  ⟨none, (some 58), .mv 58 (.t 5 false)⟩,
  ⟨none, (some 59), .idx 59 (.t 57 false) (.t 58 false) 1⟩,
  ⟨none, (some 60), .vload 60 59 none⟩,
  ⟨none, (some 6), .mv 6 (.t 60 true)⟩]
abbrev c62s14 : ACode := (.cond (.t 55 false) (.reg c62r13 [6]) .skip)
abbrev c62s15 : ACode := (.seq (.reg c62r12 [55]) c62s14)
abbrev c62s16 : ACode := (.cond (.t 27 false) (.reg c62r11 [6]) c62s15)
abbrev c62r17 : List GOp := [⟨none, (some 61), .mv 61 (.t 6 false)⟩,
  ⟨none, (some 62), .bin 62 .eql false (.t 61 false) (.c (.str []))⟩]
abbrev c62r18 : List GOp := [⟨none, (some 63), .build 63 [(.int .i64 0), (.str []), (.oslice 1 []), (.oslice 4 [])] []⟩,
  ⟨none, none, .bstore 2 none (.t 63 true) 4⟩,
  ⟨none, (some 3), .mv 3 (.c (.bool false))⟩]
abbrev c62s19 : ACode := (.seq (.reg c62r18 [2, 3]) .ret)
abbrev c62s20 : ACode := (.cond (.t 62 false) c62s19 .skip)
abbrev c62r21 : List GOp := [⟨none, (some 64), .bload 64 4 none (some 4) false⟩,
  ⟨none, (some 65), .mv 65 (.t 6 false)⟩,
  ⟨none, (some 66), .build 66 [(.int .i64 0), (.str []), (.oslice 1 []), (.oslice 4 [])] []⟩,
  ⟨none, (some 67), .call (some 67) 29 [(.t 64 false), (.t 65 false), (.t 66 false)]⟩,
  ⟨none, none, .bstore 4 none (.t 67 true) 4⟩]
abbrev c62s22 : ACode := (.seq (.seq (.reg c62r17 [62]) c62s20) (.reg c62r21 [4]))
abbrev c62s23 : ACode := (.seq (.seq (.reg c62r10 [27]) c62s16) c62s22)
abbrev c62s24 : ACode := (.seq (.reg c62r9 [6]) c62s23)
abbrev c62r25 : List GOp := [⟨none, (some 23), .mv 23 (.t 5 false)⟩,
  ⟨none, (some 24), .bin 24 .add false (.t 23 false) (.c (.int .i64 1))⟩,
  ⟨none, (some 5), .mv 5 (.t 24 true)⟩]
abbrev c62s26 : ACode := (.seq (.block 1 c62s24) (.reg c62r25 [5]))
abbrev c62s27 : ACode := (.seq (.seq (.reg c62r7 [22]) c62s8) c62s26)
abbrev c62s28 : ACode := (.loop c62s27)
abbrev c62s29 : ACode := (.block 0 c62s28)
abbrev c62r30 : List GOp := [⟨none, (some 68), .bload 68 4 none (some 4) false⟩,
  ⟨none, (some 69), .call (some 69) 47 [(.t 68 false), (.c (.bool true))]⟩,
  ⟨none, (some 70), .extract 70 (.t 69 false) 0⟩,
  ⟨none, (some 71), .extract 71 (.t 69 false) 1⟩,
  ⟨none, none, .bstore 2 none (.t 70 true) 4⟩,
  ⟨none, (some 3), .mv 3 (.t 71 true)⟩]
abbrev c62s31 : ACode := (.seq (.reg c62r30 [2, 3]) .ret)
abbrev c62s32 : ACode := (.seq (.seq (.reg c62r6 [5]) c62s29) c62s31)
abbrev c62s33 : ACode := (.seq (.reg c62r5 [4]) c62s32)
abbrev c62s34 : ACode := (.seq (.seq (.reg c62r1 [15]) c62s4) c62s33)
abbrev c62 : ACode := (.seq (.reg c62r0 [1, 2, 3]) c62s34)
def a62 : AFn := ⟨[1, 2, 4], [0, 1, 2, 3, 4, 5, 6, 15, 22, 27, 55, 62], [10, 16, 17, 24, 33, 40, 60, 63, 67, 70, 71], [], [(56, 1), (49, 1), (42, 1), (34, 1), (28, 1), (25, 1), (19, 1), (12, 1), (7, 1)], [(56, 2), (49, 2), (42, 2), (34, 3), (28, 3), (25, 0), (19, 3), (12, 0), (7, 3)], [], [], c62, [.cell 2 (some 4), .tmp 3]⟩
theorem is62 : IsFn Tryz.prog 62 1 a62 := isFn_of mix Tryz.func62 (by kernel_rfl) (by kernel_rfl) (by kernel_rfl) (by kernel_rfl) (by kernel_rfl)
theorem sound62 {args : List AV} {r : AV} (hl : args.length = 1) (h : awp Tryz.prog c62 (unw Tryz.prog [] (Ends [.cell 2 (some 4), .tmp 3] r)) (initSt args)) : Sound Tryz.prog 62 args r := sound_of is62 hl h
theorem total62 {args : List AV} {Φ : AV → Prop} (hl : args.length = 1) (h : awp Tryz.prog c62 (unw Tryz.prog [] (EndsP [.cell 2 (some 4), .tmp 3] Φ)) (initSt args)) : Total Tryz.prog 62 args Φ := total_of is62 hl h

/-! longshore/longshoreref18.Mounts -/
abbrev c63r0 : List GOp := [⟨none, (some 1), .bbox 1 (.t 0 false)⟩,
  ⟨none, (some 2), .balloc 2 (.agg [(.int .i64 0), (.str []), (.oslice 1 []), (.oslice 4 [])])⟩,
  ⟨none, (some 3), .mv 3 (.c (.bool false))⟩]
abbrev c63r1 : List GOp := [⟨none, (some 9), .baddr 9 1 3⟩,
  ⟨none, (some 10), .bload 10 1 (some 9) none false⟩,
  ⟨none, (some 11), .len 11 false (.t 10 false)⟩,
  ⟨none, (some 12), .bin 12 .gtr false (.t 11 false) (.c (.int .i64 32))⟩,
  ⟨none, (some 13), .mv 13 (.t 12 true)⟩,
  ⟨(some (13, false)), (some 14), .baddr 14 1 0⟩,
  ⟨(some (13, false)), (some 15), .bload 15 1 (some 14) none false⟩,
  ⟨(some (13, false)), (some 16), .bin 16 .lss false (.t 15 false) (.c (.int .i64 2))⟩,
  ⟨none, (some 17), .pick 17 (.t 13 false) (.c (.bool true)) (.t 16 false)⟩]
abbrev c63r2 : List GOp := [⟨none, (some 18), .build 18 [(.int .i64 0), (.str []), (.oslice 1 []), (.oslice 4 [])] []⟩,
  ⟨none, none, .bstore 2 none (.t 18 true) 4⟩,
  ⟨none, (some 3), .mv 3 (.c (.bool false))⟩]
abbrev c63s3 : ACode := (.seq (.reg c63r2 [2, 3]) .ret)
abbrev c63s4 : ACode := (.cond (.t 17 false) c63s3 .skip)
abbrev c63r5 : List GOp := [⟨none, (some 19), .build 19 [(.int .i64 0), (.str []), (.oslice 1 []), (.oslice 4 [])] []⟩,
  ⟨none, (some 4), .balloc 4 (.agg [(.int .i64 0), (.str []), (.oslice 1 []), (.oslice 4 [])])⟩,
  ⟨none, none, .bstore 4 none (.t 19 true) 4⟩]
abbrev c63r6 : List GOp := [⟨none, (some 5), .mv 5 (.c (.int .i64 0))⟩]
abbrev c63r7 : List GOp := [⟨none, (some 20), .mv 20 (.t 5 false)⟩,
  ⟨none, (some 21), .baddr 21 1 3⟩,
  ⟨none, (some 22), .bload 22 1 (some 21) none false⟩,
  ⟨none, (some 23), .len 23 false (.t 22 false)⟩,
  ⟨none, (some 24), .bin 24 .lss false (.t 20 false) (.t 23 false)⟩]
abbrev c63s8 : ACode := (.cond (.t 24 false) .skip (.exit 0))
abbrev c63r9 : List GOp := [⟨none, (some 28), .baddr 28 1 3⟩,
  ⟨none, (some 29), .bload 29 1 (some 28) none false⟩,
  ⟨none, (some 30), .mv 30 (.t 5 false)⟩,
  ⟨none, (some 31), .idx 31 (.t 29 false) (.t 30 false) 4⟩,
  ⟨none, (some 32), .vload 32 31 (some 4)⟩,
  ⟨none, (some 33), .call (some 33) 80 [(.t 32 false)]⟩,
  ⟨none, (some 27), .mv 27 (.t 33 true)⟩,
  ⟨none, (some 34), .extract 34 (.t 27 false) 0⟩,
  ⟨none, (some 35), .extract 35 (.t 27 false) 1⟩,
  ⟨none, (some 6), .balloc 6 (.agg [(.str []), (.str []), (.bool false)])⟩,
  ⟨none, none, .bstore 6 none (.t 34 true) 3⟩,
  ⟨none, (some 7), .mv 7 (.t 35 true)⟩]
abbrev c63r10 : List GOp := [⟨none, (some 36), .bload 36 6 none (some 3) false⟩,
  ⟨none, (some 37), .call (some 37) 81 [(.t 36 false)]⟩,
  ⟨none, (some 8), .mv 8 (.t 37 true)⟩]
abbrev c63r11 : List GOp := [⟨none, (some 38), .mv 38 (.t 7 false)⟩,
  ⟨none, (some 39), .un 39 .not (.t 38 false)⟩,
  ⟨none, (some 40), .mv 40 (.t 39 true)⟩,
  ⟨(some (40, false)), (some 41), .baddr 41 1 0⟩,
  ⟨(some (40, false)), (some 42), .bload 42 1 (some 41) none false⟩,
  ⟨(some (40, false)), (some 43), .bin 43 .eql false (.t 42 false) (.c (.int .i64 3))⟩,
  ⟨(some (40, false)), (some 44), .mv 44 (.t 43 true)⟩,
  ⟨(some (44, true)), (some 45), .baddr 45 1 3⟩,
  ⟨(some (44, true)), (some 46), .bload 46 1 (some 45) none false⟩,
  ⟨(some (44, true)), (some 47), .mv 47 (.t 5 false)⟩,
  ⟨(some (44, true)), (some 48), .idx 48 (.t 46 false) (.t 47 false) 4⟩,
  ⟨(some (44, true)), (some 49), .paddr 49 48 none 0⟩,
  ⟨(some (44, true)), (some 50), .vload 50 49 none⟩,
  ⟨(some (44, true)), (some 51), .bin 51 .neq false (.t 50 false) (.c (.int .i64 1))⟩,
  ⟨(some (44, true)), (some 52), .mv 52 (.t 51 true)⟩,
  ⟨(some (52, false)), (some 53), .baddr 53 1 3⟩,
  ⟨(some (52, false)), (some 54), .bload 54 1 (some 53) none false⟩,
  ⟨(some (52, false)), (some 55), .mv 55 (.t 5 false)⟩,
  ⟨(some (52, false)), (some 56), .idx 56 (.t 54 false) (.t 55 false) 4⟩,
  ⟨(some (52, false)), (some 57), .paddr 57 56 none 1⟩,
  ⟨(some (52, false)), (some 58), .vload 58 57 none⟩,
  ⟨(some (52, false)), (some 59), .mv 59 (.t 8 false)⟩,
  ⟨(some (52, false)), (some 60), .bin 60 .neq false (.t 58 false) (.t 59 false)⟩,
  ⟨(some (44, true)), (some 61), .pick 61 (.t 52 false) (.c (.bool true)) (.t 60 false)⟩,
  ⟨(some (44, true)), (some 62), .mv 62 (.t 61 true)⟩,
  ⟨(some (62, false)), (some 63), .baddr 63 1 2⟩,
  ⟨(some (62, false)), (some 64), .bload 64 1 (some 63) none false⟩,
  ⟨(some (62, false)), (some 65), .mv 65 (.t 5 false)⟩,
  ⟨(some (62, false)), (some 66), .idx 66 (.t 64 false) (.t 65 false) 1⟩,
  ⟨(some (62, false)), (some 67), .vload 67 66 none⟩,
  ⟨(some (62, false)), (some 68), .baddr 68 6 1⟩,
  ⟨(some (62, false)), (some 69), .bload 69 6 (some 68) none false⟩,
  ⟨(some (62, false)), (some 70), .bin 70 .neq false (.t 67 false) (.t 69 false)⟩,
  ⟨(some (44, true)), (some 71), .pick 71 (.t 62 false) (.c (.bool true)) (.t 70 false)⟩,
  ⟨(some (40, false)), (some 72), .pick 72 (.t 44 false) (.t 71 false) (.c (.bool false))⟩,
  ⟨none, (some 73), .pick 73 (.t 40 false) (.c (.bool true)) (.t 72 false)⟩]
abbrev c63r12 : List GOp := [⟨none, (some 74), .build 74 [(.int .i64 0), (.str []), (.oslice 1 []), (.oslice 4 [])] []⟩,
  ⟨none, none, .bstore 2 none (.t 74 true) 4⟩,
  ⟨none, (some 3), .mv 3 (.c (.bool false))⟩]
abbrev c63s13 : ACode := (.seq (.reg c63r12 [2, 3]) .ret)
abbrev c63s14 : ACode := (.cond (.t 73 false) c63s13 .skip)
abbrev c63r15 : List GOp := [⟨none, (some 75), .bload 75 4 none (some 4) false⟩,
  ⟨none, (some 76), .baddr 76 6 1⟩,
  ⟨none, (some 77), .bload 77 6 (some 76) none false⟩,
  ⟨none, (some 78), .mv 78 (.t 8 false)⟩,
  ⟨none, (some 79), .call (some 79) 73 [(.t 78 false)]⟩,
  ⟨none, (some 80), .call (some 80) 29 [(.t 75 false), (.t 77 false), (.t 79 false)]⟩,
  ⟨none, none, .bstore 4 none (.t 80 true) 4⟩]
abbrev c63s16 : ACode := (.seq (.seq (.reg c63r11 [73]) c63s14) (.reg c63r15 [4]))
abbrev c63s17 : ACode := (.seq (.reg c63r10 [8]) c63s16)
abbrev c63s18 : ACode := (.seq (.reg c63r9 [6, 7]) c63s17)
abbrev c63r19 : List GOp := [⟨none, (some 25), .mv 25 (.t 5 false)⟩,
  ⟨none, (some 26), .bin 26 .add false (.t 25 false) (.c (.int .i64 1))⟩,
  ⟨none, (some 5), .mv 5 (.t 26 true)⟩]
abbrev c63s20 : ACode := (.seq (.block 1 c63s18) (.reg c63r19 [5]))
abbrev c63s21 : ACode := (.seq (.seq (.reg c63r7 [24]) c63s8) c63s20)
abbrev c63s22 : ACode := (.loop c63s21)
abbrev c63s23 : ACode := (.block 0 c63s22)
abbrev c63r24 : List GOp := [⟨none, (some 81), .bload 81 4 none (some 4) false⟩,
  ⟨none, (some 82), .call (some 82) 47 [(.t 81 false), (.c (.bool true))]⟩,
  ⟨none, (some 83), .extract 83 (.t 82 false) 0⟩,
  ⟨none, (some 84), .extract 84 (.t 82 false) 1⟩,
  ⟨none, none, .bstore 2 none (.t 83 true) 4⟩,
  ⟨none, (some 3), .mv 3 (.t 84 true)⟩]
abbrev c63s25 : ACode := (.seq (.reg c63r24 [2, 3]) .ret)
abbrev c63s26 : ACode := (.seq (.seq (.reg c63r6 [5]) c63s23) c63s25)
abbrev c63s27 : ACode := (.seq (.reg c63r5 [4]) c63s26)
abbrev c63s28 : ACode := (.seq (.seq (.reg c63r1 [17]) c63s4) c63s27)
abbrev c63 : ACode := (.seq (.reg c63r0 [1, 2, 3]) c63s28)
def a63 : AFn := ⟨[1, 2, 4, 6], [0, 1, 2, 3, 4, 5, 6, 7, 8, 17, 24, 73], [12, 18, 19, 26, 33, 34, 35, 37, 39, 43, 51, 61, 74, 80, 83, 84], [], [(76, 6), (68, 6), (63, 1), (53, 1), (45, 1), (41, 1), (28, 1), (21, 1), (14, 1), (9, 1)], [(76, 1), (68, 1), (63, 2), (53, 3), (45, 3), (41, 0), (28, 3), (21, 3), (14, 0), (9, 3)], [], [], c63, [.cell 2 (some 4), .tmp 3]⟩
theorem is63 : IsFn Tryz.prog 63 1 a63 := isFn_of mix Tryz.func63 (by kernel_rfl) (by kernel_rfl) (by kernel_rfl) (by kernel_rfl) (by kernel_rfl)
theorem sound63 {args : List AV} {r : AV} (hl : args.length = 1) (h : awp Tryz.prog c63 (unw Tryz.prog [] (Ends [.cell 2 (some 4), .tmp 3] r)) (initSt args)) : Sound Tryz.prog 63 args r := sound_of is63 hl h
theorem total63 {args : List AV} {Φ : AV → Prop} (hl : args.length = 1) (h : awp Tryz.prog c63 (unw Tryz.prog [] (EndsP [.cell 2 (some 4), .tmp 3] Φ)) (initSt args)) : Total Tryz.prog 63 args Φ := total_of is63 hl h

/-! longshore/longshoreref18.Deps -/
abbrev c64r0 : List GOp := [⟨none, (some 1), .bbox 1 (.t 0 false)⟩,
  ⟨none, (some 2), .balloc 2 (.agg [(.int .i64 0), (.str []), (.oslice 1 []), (.oslice 4 [])])⟩,
  ⟨none, (some 3), .mv 3 (.c (.bool false))⟩]
abbrev c64r1 : List GOp := [⟨none, (some 12), .bload 12 1 none (some 4) false⟩,
  ⟨none, (some 13), .call (some 13) 46 [(.t 12 false)]⟩,
  ⟨none, (some 11), .mv 11 (.t 13 true)⟩,
  ⟨none, (some 14), .extract 14 (.t 11 false) 0⟩,
  ⟨none, (some 15), .extract 15 (.t 11 false) 1⟩,
  ⟨none, (some 4), .mv 4 (.t 14 true)⟩,
  ⟨none, (some 5), .mv 5 (.t 15 true)⟩]
abbrev c64r2 : List GOp := [⟨none, (some 16), .baddr 16 1 0⟩,
  ⟨none, (some 17), .bload 17 1 (some 16) none false⟩,
  ⟨none, (some 18), .bin 18 .eql false (.t 17 false) (.c (.int .i64 3))⟩,
  ⟨none, (some 19), .mv 19 (.t 18 true)⟩,
  ⟨(some (19, true)), (some 20), .baddr 20 1 2⟩,
  ⟨(some (19, true)), (some 21), .bload 21 1 (some 20) none false⟩,
  ⟨(some (19, true)), (some 22), .len 22 false (.t 21 false)⟩,
  ⟨(some (19, true)), (some 23), .bin 23 .leq false (.t 22 false) (.c (.int .i64 32))⟩,
  ⟨none, (some 24), .pick 24 (.t 19 false) (.t 23 false) (.c (.bool false))⟩]
abbrev c64r3 : List GOp := [⟨none, (some 25), .baddr 25 1 2⟩,
  ⟨none, (some 26), .bload 26 1 (some 25) none false⟩,
  ⟨none, (some 4), .mv 4 (.t 26 true)⟩]
abbrev c64r4 : List GOp := [⟨none, (some 5), .mv 5 (.c (.bool true))⟩]
abbrev c64s5 : ACode := (.seq (.reg c64r3 [4]) (.reg c64r4 [5]))
abbrev c64s6 : ACode := (.cond (.t 24 false) c64s5 .skip)
abbrev c64r7 : List GOp := [⟨none, (some 27), .build 27 [(.int .i64 0), (.str []), (.oslice 1 []), (.oslice 4 [])] []⟩,
  ⟨none, (some 6), .balloc 6 (.agg [(.int .i64 0), (.str []), (.oslice 1 []), (.oslice 4 [])])⟩,
  ⟨none, none, .bstore 6 none (.t 27 true) 4⟩]
abbrev c64r8 : List GOp := [⟨none, (some 7), .mv 7 (.c (.int .i64 0))⟩]
abbrev c64r9 : List GOp := [⟨none, (some 28), .mv 28 (.t 7 false)⟩,
  ⟨none, (some 29), .mv 29 (.t 4 false)⟩,
  ⟨none, (some 30), .len 30 false (.t 29 false)⟩,
  ⟨none, (some 31), .bin 31 .lss false (.t 28 false) (.t 30 false)⟩,
  ⟨none, (some 32), .mv 32 (.t 31 true)⟩,
  ⟨(some (32, true)), (some 33), .mv 33 (.t 5 false)⟩,
  ⟨none, (some 34), .pick 34 (.t 32 false) (.t 33 false) (.c (.bool false))⟩]
abbrev c64s10 : ACode := (.cond (.t 34 false) .skip (.exit 0))
abbrev c64r11 : List GOp := [⟨none, (some 37), .build 37 [(.int .i64 0), (.str []), (.oslice 1 []), (.oslice 4 [])] []⟩,
  ⟨none, (some 8), .balloc 8 (.agg [(.int .i64 0), (.str []), (.oslice 1 []), (.oslice 4 [])])⟩,
  ⟨none, none, .bstore 8 none (.t 37 true) 4⟩]
abbrev c64r12 : List GOp := [⟨none, (some 38), .baddr 38 1 0⟩,
  ⟨none, (some 39), .bload 39 1 (some 38) none false⟩,
  ⟨none, (some 40), .bin 40 .eql false (.t 39 false) (.c (.int .i64 3))⟩]
abbrev c64r13 : List GOp := [⟨none, (some 41), .baddr 41 1 3⟩,
  ⟨none, (some 42), .bload 42 1 (some 41) none false⟩,
  ⟨none, (some 43), .mv 43 (.t 7 false)⟩,
  ⟨none, (some 44), .idx 44 (.t 42 false) (.t 43 false) 4⟩,
  ⟨none, (some 45), .vload 45 44 (some 4)⟩,
  ⟨none, none, .bstore 8 none (.t 45 true) 4⟩]
abbrev c64s14 : ACode := (.cond (.t 40 false) (.reg c64r13 [8]) .skip)
abbrev c64r15 : List GOp := [⟨none, (some 47), .bload 47 8 none (some 4) false⟩,
  ⟨none, (some 48), .call (some 48) 82 [(.t 47 false)]⟩,
  ⟨none, (some 46), .mv 46 (.t 48 true)⟩,
  ⟨none, (some 49), .extract 49 (.t 46 false) 0⟩,
  ⟨none, (some 50), .extract 50 (.t 46 false) 1⟩,
  ⟨none, (some 9), .balloc 9 (.agg [(.int .i64 0), (.str []), (.oslice 1 []), (.oslice 4 [])])⟩,
  ⟨none, none, .bstore 9 none (.t 49 true) 4⟩,
  ⟨none, (some 10), .mv 10 (.t 50 true)⟩]
abbrev c64r16 : List GOp := [⟨none, (some 51), .mv 51 (.t 10 false)⟩,
  ⟨none, (some 52), .mv 52 (.t 51 true)⟩,
  ⟨(some (52, true)), (some 53), .mv 53 (.t 4 false)⟩,
  ⟨(some (52, true)), (some 54), .mv 54 (.t 7 false)⟩,
  ⟨(some (52, true)), (some 55), .idx 55 (.t 53 false) (.t 54 false) 1⟩,
  ⟨(some (52, true)), (some 56), .vload 56 55 none⟩,
  ⟨(some (52, true)), (some 57), .call (some 57) 43 [(.t 56 false)]⟩,
  ⟨none, (some 58), .pick 58 (.t 52 false) (.t 57 false) (.c (.bool false))⟩,
  ⟨none, (some 5), .mv 5 (.t 58 true)⟩]
abbrev c64r17 : List GOp := [⟨none, (some 59), .bload 59 6 none (some 4) false⟩,
  ⟨none, (some 60), .mv 60 (.t 4 false)⟩,
  ⟨none, (some 61), .mv 61 (.t 7 false)⟩,
  ⟨none, (some 62), .idx 62 (.t 60 false) (.t 61 false) 1⟩,
  ⟨none, (some 63), .vload 63 62 none⟩,
  ⟨none, (some 64), .bload 64 9 none (some 4) false⟩,
  ⟨none, (some 65), .call (some 65) 29 [(.t 59 false), (.t 63 false), (.t 64 false)]⟩,
  ⟨none, none, .bstore 6 none (.t 65 true) 4⟩]
abbrev c64s18 : ACode := (.seq (.reg c64r16 [5]) (.reg c64r17 [6]))
abbrev c64s19 : ACode := (.seq (.reg c64r15 [9, 10]) c64s18)
abbrev c64s20 : ACode := (.seq (.seq (.reg c64r12 [40]) c64s14) c64s19)
abbrev c64s21 : ACode := (.seq (.reg c64r11 [8]) c64s20)
abbrev c64r22 : List GOp := [⟨none, (some 35), .mv 35 (.t 7 false)⟩,
  ⟨none, (some 36), .bin 36 .add false (.t 35 false) (.c (.int .i64 1))⟩,
  ⟨none, (some 7), .mv 7 (.t 36 true)⟩]
abbrev c64s23 : ACode := (.seq (.block 1 c64s21) (.reg c64r22 [7]))
abbrev c64s24 : ACode := (.seq (.seq (.reg c64r9 [34]) c64s10) c64s23)
abbrev c64s25 : ACode := (.loop c64s24)
abbrev c64s26 : ACode := (.block 0 c64s25)
abbrev c64r27 : List GOp := [⟨none, (some 66), .bload 66 6 none (some 4) false⟩,
  ⟨none, (some 67), .mv 67 (.t 5 false)⟩,
  ⟨none, (some 68), .call (some 68) 47 [(.t 66 false), (.t 67 false)]⟩,
  ⟨none, (some 69), .extract 69 (.t 68 false) 0⟩,
  ⟨none, (some 70), .extract 70 (.t 68 false) 1⟩,
  ⟨none, none, .bstore 2 none (.t 69 true) 4⟩,
  ⟨none, (some 3), .mv 3 (.t 70 true)⟩]
abbrev c64s28 : ACode := (.seq (.reg c64r27 [2, 3]) .ret)
abbrev c64s29 : ACode := (.seq (.seq (.reg c64r8 [7]) c64s26) c64s28)
abbrev c64s30 : ACode := (.seq (.reg c64r7 [6]) c64s29)
abbrev c64s31 : ACode := (.seq (.seq (.reg c64r2 [24]) c64s6) c64s30)
abbrev c64s32 : ACode := (.seq (.reg c64r1 [4, 5]) c64s31)
abbrev c64 : ACode := (.seq (.reg c64r0 [1, 2, 3]) c64s32)
def a64 : AFn := ⟨[1, 2, 6, 8, 9], [0, 1, 2, 3, 4, 5, 6, 7, 8, 9, 10, 24, 34, 40], [13, 14, 15, 18, 26, 27, 31, 36, 37, 45, 48, 49, 50, 51, 58, 65, 69, 70], [], [(41, 1), (38, 1), (25, 1), (20, 1), (16, 1)], [(41, 3), (38, 0), (25, 2), (20, 2), (16, 0)], [], [], c64, [.cell 2 (some 4), .tmp 3]⟩
theorem is64 : IsFn Tryz.prog 64 1 a64 := isFn_of mix Tryz.func64 (by kernel_rfl) (by kernel_rfl) (by kernel_rfl) (by kernel_rfl) (by kernel_rfl)
theorem sound64 {args : List AV} {r : AV} (hl : args.length = 1) (h : awp Tryz.prog c64 (unw Tryz.prog [] (Ends [.cell 2 (some 4), .tmp 3] r)) (initSt args)) : Sound Tryz.prog 64 args r := sound_of is64 hl h
theorem total64 {args : List AV} {Φ : AV → Prop} (hl : args.length = 1) (h : awp Tryz.prog c64 (unw Tryz.prog [] (EndsP [.cell 2 (some 4), .tmp 3] Φ)) (initSt args)) : Total Tryz.prog 64 args Φ := total_of is64 hl h

/-! longshore/longshoreref18.Extends -/
abbrev c65r0 : List GOp := [⟨none, (some 1), .bbox 1 (.t 0 false)⟩,
  ⟨none, (some 2), .balloc 2 (.agg [(.int .i64 0), (.str []), (.oslice 1 []), (.oslice 4 [])])⟩,
  ⟨none, (some 3), .mv 3 (.c (.bool false))⟩]
abbrev c65r1 : List GOp := [⟨none, (some 8), .baddr 8 1 0⟩,
  ⟨none, (some 9), .bload 9 1 (some 8) none false⟩,
  ⟨none, (some 10), .bin 10 .eql false (.t 9 false) (.c (.int .i64 1))⟩]
abbrev c65r2 : List GOp := [⟨none, (some 11), .mkslice 11 1 [(.c (.str [115, 101, 114, 118, 105, 99, 101]))]⟩,
  ⟨none, (some 12), .bload 12 1 none (some 4) false⟩,
  ⟨none, (some 13), .mkslice 13 4 [(.t 12 false)]⟩,
  ⟨none, (some 14), .build 14 [(.int .i64 0), (.str []), (.oslice 1 []), (.oslice 4 [])] [(0, 1, (.c (.int .i64 3))), (2, 1, (.t 11 false)), (3, 1, (.t 13 false))]⟩,
  ⟨none, none, .bstore 1 none (.t 14 true) 4⟩]
abbrev c65s3 : ACode := (.cond (.t 10 false) (.reg c65r2 [1]) .skip)
abbrev c65r4 : List GOp := [⟨none, (some 15), .bload 15 1 none (some 4) false⟩,
  ⟨none, (some 16), .mkslice 16 1 [(.c (.str [115, 101, 114, 118, 105, 99, 101])), (.c (.str [102, 105, 108, 101]))]⟩,
  ⟨none, (some 17), .call (some 17) 83 [(.t 15 false), (.t 16 false)]⟩,
  ⟨none, (some 18), .un 18 .not (.t 17 false)⟩]
abbrev c65r5 : List GOp := [⟨none, (some 19), .build 19 [(.int .i64 0), (.str []), (.oslice 1 []), (.oslice 4 [])] []⟩,
  ⟨none, none, .bstore 2 none (.t 19 true) 4⟩,
  ⟨none, (some 3), .mv 3 (.c (.bool false))⟩]
abbrev c65s6 : ACode := (.seq (.reg c65r5 [2, 3]) .ret)
abbrev c65s7 : ACode := (.cond (.t 18 false) c65s6 .skip)
abbrev c65r8 : List GOp := [⟨none, (some 21), .bload 21 1 none (some 4) false⟩,
  ⟨none, (some 22), .call (some 22) 84 [(.t 21 false), (.c (.str [115, 101, 114, 118, 105, 99, 101])), (.c (.str []))]⟩,
  ⟨none, (some 20), .mv 20 (.t 22 true)⟩,
  ⟨none, (some 23), .extract 23 (.t 20 false) 0⟩,
  ⟨none, (some 24), .extract 24 (.t 20 false) 1⟩,
  ⟨none, (some 4), .mv 4 (.t 23 true)⟩,
  ⟨none, (some 5), .mv 5 (.t 24 true)⟩]
abbrev c65r9 : List GOp := [⟨none, (some 26), .bload 26 1 none (some 4) false⟩,
  ⟨none, (some 27), .call (some 27) 84 [(.t 26 false), (.c (.str [102, 105, 108, 101])), (.c (.str [120]))]⟩,
  ⟨none, (some 25), .mv 25 (.t 27 true)⟩,
  ⟨none, (some 28), .extract 28 (.t 25 false) 0⟩,
  ⟨none, (some 29), .extract 29 (.t 25 false) 1⟩,
  ⟨none, (some 6), .mv 6 (.t 28 true)⟩,
  ⟨none, (some 7), .mv 7 (.t 29 true)⟩]
abbrev c65r10 : List GOp := [⟨none, (some 30), .mv 30 (.t 5 false)⟩,
  ⟨none, (some 31), .un 31 .not (.t 30 false)⟩,
  ⟨none, (some 32), .mv 32 (.t 31 true)⟩,
  ⟨(some (32, false)), (some 33), .mv 33 (.t 7 false)⟩,
  ⟨(some (32, false)), (some 34), .un 34 .not (.t 33 false)⟩,
  ⟨none, (some 35), .pick 35 (.t 32 false) (.c (.bool true)) (.t 34 false)⟩,
  ⟨none, (some 36), .mv 36 (.t 35 true)⟩,
  ⟨(some (36, false)), (some 37), .mv 37 (.t 4 false)⟩,
  ⟨(some (36, false)), (some 38), .call (some 38) 43 [(.t 37 false)]⟩,
  ⟨(some (36, false)), (some 39), .un 39 .not (.t 38 false)⟩,
  ⟨none, (some 40), .pick 40 (.t 36 false) (.c (.bool true)) (.t 39 false)⟩,
  ⟨none, (some 41), .mv 41 (.t 40 true)⟩,
  ⟨(some (41, false)), (some 42), .mv 42 (.t 6 false)⟩,
  ⟨(some (41, false)), (some 43), .len 43 true (.t 42 false)⟩,
  ⟨(some (41, false)), (some 44), .bin 44 .lss false (.t 43 false) (.c (.int .i64 1))⟩,
  ⟨none, (some 45), .pick 45 (.t 41 false) (.c (.bool true)) (.t 44 false)⟩,
  ⟨none, (some 46), .mv 46 (.t 45 true)⟩,
  ⟨(some (46, false)), (some 47), .mv 47 (.t 6 false)⟩,
  ⟨(some (46, false)), (some 48), .len 48 true (.t 47 false)⟩,
  ⟨(some (46, false)), (some 49), .bin 49 .gtr false (.t 48 false) (.c (.int .i64 64))⟩,
  ⟨none, (some 50), .pick 50 (.t 46 false) (.c (.bool true)) (.t 49 false)⟩]
abbrev c65r11 : List GOp := [⟨none, (some 51), .build 51 [(.int .i64 0), (.str []), (.oslice 1 []), (.oslice 4 [])] []⟩,
  ⟨none, none, .bstore 2 none (.t 51 true) 4⟩,
  ⟨none, (some 3), .mv 3 (.c (.bool false))⟩]
abbrev c65s12 : ACode := (.seq (.reg c65r11 [2, 3]) .ret)
abbrev c65s13 : ACode := (.cond (.t 50 false) c65s12 .skip)
abbrev c65r14 : List GOp := [⟨none, (some 52), .bload 52 1 none (some 4) false⟩,
  ⟨none, (some 53), .call (some 53) 47 [(.t 52 false), (.c (.bool true))]⟩,
  ⟨none, (some 54), .extract 54 (.t 53 false) 0⟩,
  ⟨none, (some 55), .extract 55 (.t 53 false) 1⟩,
  ⟨none, none, .bstore 2 none (.t 54 true) 4⟩,
  ⟨none, (some 3), .mv 3 (.t 55 true)⟩]
abbrev c65s15 : ACode := (.seq (.reg c65r14 [2, 3]) .ret)
abbrev c65s16 : ACode := (.seq (.seq (.reg c65r10 [50]) c65s13) c65s15)
abbrev c65s17 : ACode := (.seq (.reg c65r9 [6, 7]) c65s16)
abbrev c65s18 : ACode := (.seq (.reg c65r8 [4, 5]) c65s17)
abbrev c65s19 : ACode := (.seq (.seq (.reg c65r4 [18]) c65s7) c65s18)
abbrev c65s20 : ACode := (.seq (.seq (.reg c65r1 [10]) c65s3) c65s19)
abbrev c65 : ACode := (.seq (.reg c65r0 [1, 2, 3]) c65s20)
def a65 : AFn := ⟨[1, 2], [0, 1, 2, 3, 4, 5, 6, 7, 10, 18, 50], [14, 19, 22, 23, 24, 27, 28, 29, 31, 35, 40, 45, 51, 54, 55], [], [(8, 1)], [(8, 0)], [], [], c65, [.cell 2 (some 4), .tmp 3]⟩
theorem is65 : IsFn Tryz.prog 65 1 a65 := isFn_of mix Tryz.func65 (by kernel_rfl) (by kernel_rfl) (by kernel_rfl) (by kernel_rfl) (by kernel_rfl)
theorem sound65 {args : List AV} {r : AV} (hl : args.length = 1) (h : awp Tryz.prog c65 (unw Tryz.prog [] (Ends [.cell 2 (some 4), .tmp 3] r)) (initSt args)) : Sound Tryz.prog 65 args r := sound_of is65 hl h
theorem total65 {args : List AV} {Φ : AV → Prop} (hl : args.length = 1) (h : awp Tryz.prog c65 (unw Tryz.prog [] (EndsP [.cell 2 (some 4), .tmp 3] Φ)) (initSt args)) : Total Tryz.prog 65 args Φ := total_of is65 hl h

/-! longshore/longshoreref18.Health -/
abbrev c66r0 : List GOp := [⟨none, (some 1), .bbox 1 (.t 0 false)⟩,
  ⟨none, (some 2), .balloc 2 (.agg [(.int .i64 0), (.str []), (.oslice 1 []), (.oslice 4 [])])⟩,
  ⟨none, (some 3), .mv 3 (.c (.bool false))⟩]
abbrev c66r1 : List GOp := [⟨none, (some 17), .bload 17 1 none (some 4) false⟩,
  ⟨none, (some 18), .mkslice 18 1 [(.c (.str [116, 101, 115, 116])), (.c (.str [105, 110, 116, 101, 114, 118, 97, 108])), (.c (.str [115, 116, 97, 114, 116, 95, 112, 101, 114, 105, 111, 100])), (.c (.str [114, 101, 116, 114, 105, 101, 115])), (.c (.str [100, 105, 115, 97, 98, 108, 101]))]⟩,
  ⟨none, (some 19), .call (some 19) 83 [(.t 17 false), (.t 18 false)]⟩,
  ⟨none, (some 20), .un 20 .not (.t 19 false)⟩]
abbrev c66r2 : List GOp := [⟨none, (some 21), .build 21 [(.int .i64 0), (.str []), (.oslice 1 []), (.oslice 4 [])] []⟩,
  ⟨none, none, .bstore 2 none (.t 21 true) 4⟩,
  ⟨none, (some 3), .mv 3 (.c (.bool false))⟩]
abbrev c66s3 : ACode := (.seq (.reg c66r2 [2, 3]) .ret)
abbrev c66s4 : ACode := (.cond (.t 20 false) c66s3 .skip)
abbrev c66r5 : List GOp := [⟨none, (some 22), .build 22 [(.int .i64 0), (.str []), (.oslice 1 []), (.oslice 4 [])] []⟩,
  ⟨none, (some 4), .balloc 4 (.agg [(.int .i64 0), (.str []), (.oslice 1 []), (.oslice 4 [])])⟩,
  ⟨none, none, .bstore 4 none (.t 22 true) 4⟩]
abbrev c66r6 : List GOp := [⟨none, (some 24), .bload 24 1 none (some 4) false⟩,
  ⟨none, (some 25), .call (some 25) 85 [(.t 24 false), (.c (.str [100, 105, 115, 97, 98, 108, 101])), (.c (.str [102, 97, 108, 115, 101]))]⟩,
  ⟨none, (some 23), .mv 23 (.t 25 true)⟩,
  ⟨none, (some 26), .extract 26 (.t 23 false) 0⟩,
  ⟨none, (some 27), .extract 27 (.t 23 false) 1⟩,
  ⟨none, (some 5), .mv 5 (.t 26 true)⟩,
  ⟨none, (some 6), .mv 6 (.t 27 true)⟩]
abbrev c66r7 : List GOp := [⟨none, (some 29), .bload 29 1 none (some 4) false⟩,
  ⟨none, (some 30), .call (some 30) 40 [(.t 29 false), (.c (.str [116, 101, 115, 116]))]⟩,
  ⟨none, (some 28), .mv 28 (.t 30 true)⟩,
  ⟨none, (some 31), .extract 31 (.t 28 false) 0⟩,
  ⟨none, (some 32), .extract 32 (.t 28 false) 1⟩,
  ⟨none, (some 7), .balloc 7 (.agg [(.int .i64 0), (.str []), (.oslice 1 []), (.oslice 4 [])])⟩,
  ⟨none, none, .bstore 7 none (.t 31 true) 4⟩,
  ⟨none, (some 8), .mv 8 (.t 32 true)⟩]
abbrev c66r8 : List GOp := [⟨none, (some 33), .mv 33 (.t 8 false)⟩]
abbrev c66r9 : List GOp := [⟨none, (some 35), .bload 35 7 none (some 4) false⟩,
  ⟨none, (some 36), .call (some 36) 86 [(.t 35 false)]⟩,
  ⟨none, (some 34), .mv 34 (.t 36 true)⟩,
  ⟨none, (some 37), .extract 37 (.t 34 false) 0⟩,
  ⟨none, (some 38), .extract 38 (.t 34 false) 1⟩,
  ⟨none, (some 9), .mv 9 (.t 37 true)⟩,
  ⟨none, (some 10), .mv 10 (.t 38 true)⟩]
abbrev c66r10 : List GOp := [⟨none, (some 39), .mv 39 (.t 10 false)⟩,
  ⟨none, (some 40), .bin 40 .eql false (.t 39 false) (.c (.int .i64 0))⟩]
abbrev c66r11 : List GOp := [⟨none, (some 41), .build 41 [(.int .i64 0), (.str []), (.oslice 1 []), (.oslice 4 [])] []⟩,
  ⟨none, none, .bstore 2 none (.t 41 true) 4⟩,
  ⟨none, (some 3), .mv 3 (.c (.bool false))⟩]
abbrev c66s12 : ACode := (.seq (.reg c66r11 [2, 3]) .ret)
abbrev c66s13 : ACode := (.cond (.t 40 false) c66s12 .skip)
abbrev c66r14 : List GOp := [⟨none, (some 42), .mv 42 (.t 10 false)⟩,
  ⟨none, (some 43), .bin 43 .eql false (.t 42 false) (.c (.int .i64 2))⟩]
abbrev c66r15 : List GOp := [⟨none, (some 5), .mv 5 (.c (.str [116, 114, 117, 101]))⟩]
abbrev c66s16 : ACode := (.cond (.t 43 false) (.reg c66r15 [5]) .skip)
abbrev c66r17 : List GOp := [⟨none, (some 44), .bload 44 4 none (some 4) false⟩,
  ⟨none, (some 45), .mv 45 (.t 9 false)⟩,
  ⟨none, (some 46), .call (some 46) 73 [(.t 45 false)]⟩,
  ⟨none, (some 47), .call (some 47) 29 [(.t 44 false), (.c (.str [116, 101, 115, 116])), (.t 46 false)]⟩,
  ⟨none, none, .bstore 4 none (.t 47 true) 4⟩]
abbrev c66s18 : ACode := (.seq (.seq (.reg c66r14 [43]) c66s16) (.reg c66r17 [4]))
abbrev c66s19 : ACode := (.seq (.seq (.reg c66r10 [40]) c66s13) c66s18)
abbrev c66s20 : ACode := (.seq (.reg c66r9 [9, 10]) c66s19)
abbrev c66s21 : ACode := (.cond (.t 33 false) c66s20 .skip)
abbrev c66r22 : List GOp := [⟨none, (some 49), .bload 49 1 none (some 4) false⟩,
  ⟨none, (some 50), .call (some 50) 87 [(.t 49 false), (.c (.str [105, 110, 116, 101, 114, 118, 97, 108])), (.c (.int .i64 1))]⟩,
  ⟨none, (some 48), .mv 48 (.t 50 true)⟩,
  ⟨none, (some 51), .extract 51 (.t 48 false) 0⟩,
  ⟨none, (some 52), .extract 52 (.t 48 false) 1⟩,
  ⟨none, (some 11), .mv 11 (.t 51 true)⟩,
  ⟨none, (some 12), .mv 12 (.t 52 true)⟩]
abbrev c66r23 : List GOp := [⟨none, (some 54), .bload 54 1 none (some 4) false⟩,
  ⟨none, (some 55), .call (some 55) 87 [(.t 54 false), (.c (.str [115, 116, 97, 114, 116, 95, 112, 101, 114, 105, 111, 100])), (.c (.int .i64 0))]⟩,
  ⟨none, (some 53), .mv 53 (.t 55 true)⟩,
  ⟨none, (some 56), .extract 56 (.t 53 false) 0⟩,
  ⟨none, (some 57), .extract 57 (.t 53 false) 1⟩,
  ⟨none, (some 13), .mv 13 (.t 56 true)⟩,
  ⟨none, (some 14), .mv 14 (.t 57 true)⟩]
abbrev c66r24 : List GOp := [⟨none, (some 59), .bload 59 1 none (some 4) false⟩,
  ⟨none, (some 60), .call (some 60) 88 [(.t 59 false), (.c (.str [114, 101, 116, 114, 105, 101, 115]))]⟩,
  ⟨none, (some 58), .mv 58 (.t 60 true)⟩,
  ⟨none, (some 61), .extract 61 (.t 58 false) 0⟩,
  ⟨none, (some 62), .extract 62 (.t 58 false) 1⟩,
  ⟨none, (some 15), .mv 15 (.t 61 true)⟩,
  ⟨none, (some 16), .mv 16 (.t 62 true)⟩]
abbrev c66r25 : List GOp := [⟨none, (some 63), .mv 63 (.t 6 false)⟩,
  ⟨none, (some 64), .un 64 .not (.t 63 false)⟩,
  ⟨none, (some 65), .mv 65 (.t 64 true)⟩,
  ⟨(some (65, false)), (some 66), .mv 66 (.t 12 false)⟩,
  ⟨(some (65, false)), (some 67), .un 67 .not (.t 66 false)⟩,
  ⟨none, (some 68), .pick 68 (.t 65 false) (.c (.bool true)) (.t 67 false)⟩,
  ⟨none, (some 69), .mv 69 (.t 68 true)⟩,
  ⟨(some (69, false)), (some 70), .mv 70 (.t 14 false)⟩,
  ⟨(some (69, false)), (some 71), .un 71 .not (.t 70 false)⟩,
  ⟨none, (some 72), .pick 72 (.t 69 false) (.c (.bool true)) (.t 71 false)⟩,
  ⟨none, (some 73), .mv 73 (.t 72 true)⟩,
  ⟨(some (73, false)), (some 74), .mv 74 (.t 16 false)⟩,
  ⟨(some (73, false)), (some 75), .un 75 .not (.t 74 false)⟩,
  ⟨none, (some 76), .pick 76 (.t 73 false) (.c (.bool true)) (.t 75 false)⟩,
  ⟨none, (some 77), .mv 77 (.t 76 true)⟩,
  ⟨(some (77, false)), (some 78), .mv 78 (.t 15 false)⟩,
  ⟨(some (77, false)), (some 79), .bin 79 .gtr false (.t 78 false) (.c (.int .i64 10))⟩,
  ⟨none, (some 80), .pick 80 (.t 77 false) (.c (.bool true)) (.t 79 false)⟩]
abbrev c66r26 : List GOp := [⟨none, (some 81), .build 81 [(.int .i64 0), (.str []), (.oslice 1 []), (.oslice 4 [])] []⟩,
  ⟨none, none, .bstore 2 none (.t 81 true) 4⟩,
  ⟨none, (some 3), .mv 3 (.c (.bool false))⟩]
abbrev c66s27 : ACode := (.seq (.reg c66r26 [2, 3]) .ret)
abbrev c66s28 : ACode := (.cond (.t 80 false) c66s27 .skip)
abbrev c66r29 : List GOp := [⟨none, (some 82), .mv 82 (.t 5 false)⟩,
  ⟨none, (some 83), .bin 83 .eql false (.t 82 false) (.c (.str [116, 114, 117, 101]))⟩]
abbrev c66r30 : List GOp := [⟨none, (some 84), .mkslice 84 1 [(.c (.str [100, 105, 115, 97, 98, 108, 101]))]⟩,
  ⟨none, (some 85), .call (some 85) 73 [(.c (.str [116, 114, 117, 101]))]⟩,
  ⟨none, (some 86), .mkslice 86 4 [(.t 85 false)]⟩,
  ⟨none, (some 87), .build 87 [(.int .i64 0), (.str []), (.oslice 1 []), (.oslice 4 [])] [(0, 1, (.c (.int .i64 3))), (2, 1, (.t 84 false)), (3, 1, (.t 86 false))]⟩,
  ⟨none, none, .bstore 2 none (.t 87 true) 4⟩,
  ⟨none, (some 3), .mv 3 (.c (.bool true))⟩]
abbrev c66s31 : ACode := (.seq (.reg c66r30 [2, 3]) .ret)
abbrev c66s32 : ACode := (.cond (.t 83 false) c66s31 .skip)
abbrev c66r33 : List GOp := [⟨none, (some 88), .mv 88 (.t 11 false)⟩,
  ⟨none, (some 89), .bin 89 .neq false (.t 88 false) (.c (.str []))⟩]
abbrev c66r34 : List GOp := [⟨none, (some 90), .bload 90 4 none (some 4) false⟩,
  ⟨none, (some 91), .mv 91 (.t 11 false)⟩,
  ⟨none, (some 92), .call (some 92) 73 [(.t 91 false)]⟩,
  ⟨none, (some 93), .call (some 93) 29 [(.t 90 false), (.c (.str [105, 110, 116, 101, 114, 118, 97, 108])), (.t 92 false)]⟩,
  ⟨none, none, .bstore 4 none (.t 93 true) 4⟩]
abbrev c66s35 : ACode := (.cond (.t 89 false) (.reg c66r34 [4]) .skip)
abbrev c66r36 : List GOp := [⟨none, (some 94), .mv 94 (.t 13 false)⟩,
  ⟨none, (some 95), .bin 95 .neq false (.t 94 false) (.c (.str []))⟩]
abbrev c66r37 : List GOp := [⟨none, (some 96), .bload 96 4 none (some 4) false⟩,
  ⟨none, (some 97), .mv 97 (.t 13 false)⟩,
  ⟨none, (some 98), .call (some 98) 73 [(.t 97 false)]⟩,
  ⟨none, (some 99), .call (some 99) 29 [(.t 96 false), (.c (.str [115, 116, 97, 114, 116, 95, 112, 101, 114, 105, 111, 100])), (.t 98 false)]⟩,
  ⟨none, none, .bstore 4 none (.t 99 true) 4⟩]
abbrev c66s38 : ACode := (.cond (.t 95 false) (.reg c66r37 [4]) .skip)
abbrev c66r39 : List GOp := [⟨none, (some 100), .mv 100 (.t 15 false)⟩,
  ⟨none, (some 101), .bin 101 .gtr false (.t 100 false) (.c (.int .i64 0))⟩]
abbrev c66r40 : List GOp := [⟨none, (some 102), .bload 102 4 none (some 4) false⟩,
  ⟨none, (some 103), .mv 103 (.t 15 false)⟩,
  ⟨none, (some 104), .call (some 104) 89 [(.t 103 false)]⟩,
  ⟨none, (some 105), .call (some 105) 73 [(.t 104 false)]⟩,
  ⟨none, (some 106), .call (some 106) 29 [(.t 102 false), (.c (.str [114, 101, 116, 114, 105, 101, 115])), (.t 105 false)]⟩,
  ⟨none, none, .bstore 4 none (.t 106 true) 4⟩]
abbrev c66s41 : ACode := (.cond (.t 101 false) (.reg c66r40 [4]) .skip)
abbrev c66r42 : List GOp := [⟨none, (some 107), .bload 107 4 none (some 4) false⟩,
  ⟨none, (some 108), .call (some 108) 47 [(.t 107 false), (.c (.bool true))]⟩,
  ⟨none, (some 109), .extract 109 (.t 108 false) 0⟩,
  ⟨none, (some 110), .extract 110 (.t 108 false) 1⟩,
  ⟨none, none, .bstore 2 none (.t 109 true) 4⟩,
  ⟨none, (some 3), .mv 3 (.t 110 true)⟩]
abbrev c66s43 : ACode := (.seq (.reg c66r42 [2, 3]) .ret)
abbrev c66s44 : ACode := (.seq (.seq (.reg c66r39 [101]) c66s41) c66s43)
abbrev c66s45 : ACode := (.seq (.seq (.reg c66r36 [95]) c66s38) c66s44)
abbrev c66s46 : ACode := (.seq (.seq (.reg c66r33 [89]) c66s35) c66s45)
abbrev c66s47 : ACode := (.seq (.seq (.reg c66r29 [83]) c66s32) c66s46)
abbrev c66s48 : ACode := (.seq (.seq (.reg c66r25 [80]) c66s28) c66s47)
abbrev c66s49 : ACode := (.seq (.reg c66r24 [15, 16]) c66s48)
abbrev c66s50 : ACode := (.seq (.reg c66r23 [13, 14]) c66s49)
abbrev c66s51 : ACode := (.seq (.reg c66r22 [11, 12]) c66s50)
abbrev c66s52 : ACode := (.seq (.seq (.reg c66r8 [33]) c66s21) c66s51)
abbrev c66s53 : ACode := (.seq (.reg c66r7 [7, 8]) c66s52)
abbrev c66s54 : ACode := (.seq (.reg c66r6 [5, 6]) c66s53)
abbrev c66s55 : ACode := (.seq (.reg c66r5 [4]) c66s54)
abbrev c66s56 : ACode := (.seq (.seq (.reg c66r1 [20]) c66s4) c66s55)
abbrev c66 : ACode := (.seq (.reg c66r0 [1, 2, 3]) c66s56)
def a66 : AFn := ⟨[1, 2, 4, 7], [0, 1, 2, 3, 4, 5, 6, 7, 8, 9, 10, 11, 12, 13, 14, 15, 16, 20, 33, 40, 43, 80, 83, 89, 95, 101], [21, 22, 25, 26, 27, 30, 31, 32, 36, 37, 38, 41, 47, 50, 51, 52, 55, 56, 57, 60, 61, 62, 64, 68, 72, 76, 81, 87, 93, 99, 106, 109, 110], [], [], [], [], [], c66, [.cell 2 (some 4), .tmp 3]⟩
theorem is66 : IsFn Tryz.prog 66 1 a66 := isFn_of mix Tryz.func66 (by kernel_rfl) (by kernel_rfl) (by kernel_rfl) (by kernel_rfl) (by kernel_rfl)
theorem sound66 {args : List AV} {r : AV} (hl : args.length = 1) (h : awp Tryz.prog c66 (unw Tryz.prog [] (Ends [.cell 2 (some 4), .tmp 3] r)) (initSt args)) : Sound Tryz.prog 66 args r := sound_of is66 hl h
theorem total66 {args : List AV} {Φ : AV → Prop} (hl : args.length = 1) (h : awp Tryz.prog c66 (unw Tryz.prog [] (EndsP [.cell 2 (some 4), .tmp 3] Φ)) (initSt args)) : Total Tryz.prog 66 args Φ := total_of is66 hl h

/-! longshore/longshoreref18.Again -/
abbrev c70r0 : List GOp := [⟨none, (some 2), .mv 2 (.c (.bool false))⟩]
abbrev c70r1 : List GOp := [⟨none, (some 5), .mv 5 (.t 0 false)⟩,
  ⟨none, (some 6), .len 6 true (.t 5 false)⟩,
  ⟨none, (some 7), .bin 7 .gtr false (.t 6 false) (.c (.int .i64 11))⟩,
  ⟨none, (some 8), .mv 8 (.t 7 true)⟩,
  ⟨(some (8, true)), (some 9), .mv 9 (.t 0 false)⟩,
  ⟨(some (8, true)), (some 10), .sslice 10 (.t 9 false) none (some (.c (.int .i64 11)))⟩,
  ⟨(some (8, true)), (some 11), .bin 11 .eql false (.t 10 false) (.c (.str [111, 110, 45, 102, 97, 105, 108, 117, 114, 101, 58]))⟩,
  ⟨none, (some 12), .pick 12 (.t 8 false) (.t 11 false) (.c (.bool false))⟩]
abbrev c70r2 : List GOp := [⟨none, (some 14), .mv 14 (.t 0 false)⟩,
  ⟨none, (some 15), .sslice 15 (.t 14 false) (some (.c (.int .i64 11))) none⟩,
  ⟨none, (some 16), .call (some 16) 75 [(.t 15 false), (.c (.int .i64 10))]⟩,
  ⟨none, (some 13), .mv 13 (.t 16 true)⟩,
  ⟨none, (some 17), .extract 17 (.t 13 false) 0⟩,
  ⟨none, (some 18), .extract 18 (.t 13 false) 1⟩,
  ⟨none, (some 3), .mv 3 (.t 17 true)⟩,
  ⟨none, (some 4), .mv 4 (.t 18 true)⟩]
abbrev c70r3 : List GOp := [⟨none, (some 19), .mv 19 (.t 4 false)⟩,
  ⟨none, (some 20), .bin 20 .eql false (.t 19 false) (.c (.int .i64 0))⟩,
  ⟨none, (some 21), .mv 21 (.t 20 true)⟩,
  ⟨(some (21, true)), (some 22), .mv 22 (.t 3 false)⟩,
  ⟨(some (21, true)), (some 23), .bin 23 .gtr false (.t 22 false) (.c (.int .i64 0))⟩,
  ⟨none, (some 24), .pick 24 (.t 21 false) (.t 23 false) (.c (.bool false))⟩,
  ⟨none, (some 2), .mv 2 (.t 24 true)⟩]
abbrev c70s4 : ACode := (.seq (.reg c70r3 [2]) .ret)
abbrev c70s5 : ACode := (.seq (.reg c70r2 [3, 4]) c70s4)
abbrev c70s6 : ACode := (.cond (.t 12 false) c70s5 .skip)
abbrev c70r7 : List GOp := [⟨none, (some 25), .mv 25 (.t 0 false)⟩,
  ⟨none, (some 26), .bin 26 .eql false (.t 25 false) (.c (.str [110, 111]))⟩,
  ⟨none, (some 27), .mv 27 (.t 26 true)⟩,
  ⟨(some (27, false)), (some 28), .mv 28 (.t 0 false)⟩,
  ⟨(some (27, false)), (some 29), .bin 29 .eql false (.t 28 false) (.c (.str [97, 108, 119, 97, 121, 115]))⟩,
  ⟨none, (some 30), .pick 30 (.t 27 false) (.c (.bool true)) (.t 29 false)⟩,
  ⟨none, (some 31), .mv 31 (.t 30 true)⟩,
  ⟨(some (31, false)), (some 32), .mv 32 (.t 0 false)⟩,
  ⟨(some (31, false)), (some 33), .bin 33 .eql false (.t 32 false) (.c (.str [117, 110, 108, 101, 115, 115, 45, 115, 116, 111, 112, 112, 101, 100]))⟩,
  ⟨none, (some 34), .pick 34 (.t 31 false) (.c (.bool true)) (.t 33 false)⟩,
  ⟨none, (some 35), .mv 35 (.t 34 true)⟩,
  ⟨(some (35, false)), (some 36), .mv 36 (.t 0 false)⟩,
  ⟨(some (35, false)), (some 37), .bin 37 .eql false (.t 36 false) (.c (.str [111, 110, 45, 102, 97, 105, 108, 117, 114, 101]))⟩,
  ⟨none, (some 38), .pick 38 (.t 35 false) (.c (.bool true)) (.t 37 false)⟩,
  ⟨none, (some 2), .mv 2 (.t 38 true)⟩]
abbrev c70s8 : ACode := (.seq (.reg c70r7 [2]) .ret)
abbrev c70s9 : ACode := (.seq (.seq (.reg c70r1 [12]) c70s6) c70s8)
abbrev c70 : ACode := (.seq (.reg c70r0 [2]) c70s9)
def a70 : AFn := ⟨[], [0, 2, 3, 4, 12], [7, 16, 17, 18, 20, 24, 26, 30, 34, 38], [], [], [], [], [], c70, [.tmp 2]⟩
theorem is70 : IsFn Tryz.prog 70 1 a70 := isFn_of mix Tryz.func70 (by kernel_rfl) (by kernel_rfl) (by kernel_rfl) (by kernel_rfl) (by kernel_rfl)
theorem sound70 {args : List AV} {r : AV} (hl : args.length = 1) (h : awp Tryz.prog c70 (unw Tryz.prog [] (Ends [.tmp 2] r)) (initSt args)) : Sound Tryz.prog 70 args r := sound_of is70 hl h
theorem total70 {args : List AV} {Φ : AV → Prop} (hl : args.length = 1) (h : awp Tryz.prog c70 (unw Tryz.prog [] (EndsP [.tmp 2] Φ)) (initSt args)) : Total Tryz.prog 70 args Φ := total_of is70 hl h

/-! longshore/longshoreref18.Text -/
abbrev c73r0 : List GOp := [⟨none, (some 2), .balloc 2 (.agg [(.int .i64 0), (.str []), (.oslice 1 []), (.oslice 4 [])])⟩]
abbrev c73r1 : List GOp := [⟨none, (some 3), .mv 3 (.t 0 false)⟩,
  ⟨none, (some 4), .build 4 [(.int .i64 0), (.str []), (.oslice 1 []), (.oslice 4 [])] [(0, 1, (.c (.int .i64 1))), (1, 1, (.t 3 false))]⟩,
  ⟨none, none, .bstore 2 none (.t 4 true) 4⟩]
abbrev c73s2 : ACode := (.seq (.reg c73r1 [2]) .ret)
abbrev c73 : ACode := (.seq (.reg c73r0 [2]) c73s2)
def a73 : AFn := ⟨[2], [0, 2], [4], [], [], [], [], [], c73, [.cell 2 (some 4)]⟩
theorem is73 : IsFn Tryz.prog 73 1 a73 := isFn_of mix Tryz.func73 (by kernel_rfl) (by kernel_rfl) (by kernel_rfl) (by kernel_rfl) (by kernel_rfl)
theorem sound73 {args : List AV} {r : AV} (hl : args.length = 1) (h : awp Tryz.prog c73 (unw Tryz.prog [] (Ends [.cell 2 (some 4)] r)) (initSt args)) : Sound Tryz.prog 73 args r := sound_of is73 hl h
theorem total73 {args : List AV} {Φ : AV → Prop} (hl : args.length = 1) (h : awp Tryz.prog c73 (unw Tryz.prog [] (EndsP [.cell 2 (some 4)] Φ)) (initSt args)) : Total Tryz.prog 73 args Φ := total_of is73 hl h

/-! longshore/longshoreref18.key -/
abbrev c77r0 : List GOp := [⟨none, (some 4), .mv 4 (.c (.bool false))⟩]
abbrev c77r1 : List GOp := [⟨none, (some 5), .mv 5 (.t 1 false)⟩]
abbrev c77r2 : List GOp := [⟨none, (some 6), .mv 6 (.t 0 false)⟩,
  ⟨none, (some 7), .call (some 7) 107 [(.t 6 false)]⟩,
  ⟨none, (some 4), .mv 4 (.t 7 true)⟩]
abbrev c77s3 : ACode := (.seq (.reg c77r2 [4]) .ret)
abbrev c77s4 : ACode := (.cond (.t 5 false) c77s3 .skip)
abbrev c77r5 : List GOp := [⟨none, (some 8), .mv 8 (.t 0 false)⟩,
  ⟨none, (some 9), .call (some 9) 43 [(.t 8 false)]⟩,
  ⟨none, (some 4), .mv 4 (.t 9 true)⟩]
abbrev c77s6 : ACode := (.seq (.reg c77r5 [4]) .ret)
abbrev c77s7 : ACode := (.seq (.seq (.reg c77r1 [5]) c77s4) c77s6)
abbrev c77 : ACode := (.seq (.reg c77r0 [4]) c77s7)
def a77 : AFn := ⟨[], [0, 1, 4, 5], [7, 9], [], [], [], [], [], c77, [.tmp 4]⟩
theorem is77 : IsFn Tryz.prog 77 2 a77 := isFn_of mix Tryz.func77 (by kernel_rfl) (by kernel_rfl) (by kernel_rfl) (by kernel_rfl) (by kernel_rfl)
theorem sound77 {args : List AV} {r : AV} (hl : args.length = 2) (h : awp Tryz.prog c77 (unw Tryz.prog [] (Ends [.tmp 4] r)) (initSt args)) : Sound Tryz.prog 77 args r := sound_of is77 hl h
theorem total77 {args : List AV} {Φ : AV → Prop} (hl : args.length = 2) (h : awp Tryz.prog c77 (unw Tryz.prog [] (EndsP [.tmp 4] Φ)) (initSt args)) : Total Tryz.prog 77 args Φ := total_of is77 hl h

/-! longshore/longshoreref18.onePort -/
abbrev c79r0 : List GOp := [⟨none, (some 1), .bbox 1 (.t 0 false)⟩,
  ⟨none, (some 2), .mv 2 (.c (.str []))⟩]
abbrev c79r1 : List GOp := [⟨none, (some 13), .baddr 13 1 0⟩,
  ⟨none, (some 14), .bload 14 1 (some 13) none false⟩,
  ⟨none, (some 15), .bin 15 .eql false (.t 14 false) (.c (.int .i64 1))⟩]
abbrev c79r2 : List GOp := [⟨none, (some 17), .baddr 17 1 1⟩,
  ⟨none, (some 18), .bload 18 1 (some 17) none false⟩,
  ⟨none, (some 19), .call (some 19) 108 [(.t 18 false)]⟩,
  ⟨none, (some 16), .mv 16 (.t 19 true)⟩,
  ⟨none, (some 20), .extract 20 (.t 16 false) 0⟩,
  ⟨none, (some 21), .extract 21 (.t 16 false) 1⟩,
  ⟨none, (some 3), .balloc 3 (.agg [(.str []), (.int .i64 0), (.int .i64 0), (.str [])])⟩,
  ⟨none, none, .bstore 3 none (.t 20 true) 4⟩,
  ⟨none, (some 4), .mv 4 (.t 21 true)⟩]
abbrev c79r3 : List GOp := [⟨none, (some 22), .mv 22 (.t 4 false)⟩,
  ⟨none, (some 23), .bin 23 .neq false (.t 22 false) (.c (.int .i64 0))⟩]
abbrev c79r4 : List GOp := [⟨none, (some 2), .mv 2 (.c (.str []))⟩]
abbrev c79s5 : ACode := (.seq (.reg c79r4 [2]) .ret)
abbrev c79s6 : ACode := (.cond (.t 23 false) c79s5 .skip)
abbrev c79r7 : List GOp := [⟨none, (some 24), .bload 24 3 none (some 4) false⟩,
  ⟨none, (some 25), .call (some 25) 109 [(.t 24 false)]⟩,
  ⟨none, (some 2), .mv 2 (.t 25 true)⟩]
abbrev c79s8 : ACode := (.seq (.reg c79r7 [2]) .ret)
abbrev c79s9 : ACode := (.seq (.seq (.reg c79r3 [23]) c79s6) c79s8)
abbrev c79s10 : ACode := (.seq (.reg c79r2 [3, 4]) c79s9)
abbrev c79s11 : ACode := (.cond (.t 15 false) c79s10 .skip)
abbrev c79r12 : List GOp := [⟨none, (some 26), .bload 26 1 none (some 4) false⟩,
  ⟨none, (some 27), .mkslice 27 1 [(.c (.str [116, 97, 114, 103, 101, 116])), (.c (.str [112, 117, 98, 108, 105, 115, 104, 101, 100])), (.c (.str [104, 111, 115, 116, 95, 105, 112])), (.c (.str [112, 114, 111, 116, 111, 99, 111, 108]))]⟩,
  ⟨none, (some 28), .call (some 28) 83 [(.t 26 false), (.t 27 false)]⟩,
  ⟨none, (some 29), .un 29 .not (.t 28 false)⟩]
abbrev c79r13 : List GOp := [⟨none, (some 2), .mv 2 (.c (.str []))⟩]
abbrev c79s14 : ACode := (.seq (.reg c79r13 [2]) .ret)
abbrev c79s15 : ACode := (.cond (.t 29 false) c79s14 .skip)
abbrev c79r16 : List GOp := [⟨none, (some 31), .bload 31 1 none (some 4) false⟩,
  ⟨none, (some 32), .call (some 32) 88 [(.t 31 false), (.c (.str [116, 97, 114, 103, 101, 116]))]⟩,
  ⟨none, (some 30), .mv 30 (.t 32 true)⟩,
  ⟨none, (some 33), .extract 33 (.t 30 false) 0⟩,
  ⟨none, (some 34), .extract 34 (.t 30 false) 1⟩,
  ⟨none, (some 5), .mv 5 (.t 33 true)⟩,
  ⟨none, (some 6), .mv 6 (.t 34 true)⟩]
abbrev c79r17 : List GOp := [⟨none, (some 36), .bload 36 1 none (some 4) false⟩,
  ⟨none, (some 37), .call (some 37) 88 [(.t 36 false), (.c (.str [112, 117, 98, 108, 105, 115, 104, 101, 100]))]⟩,
  ⟨none, (some 35), .mv 35 (.t 37 true)⟩,
  ⟨none, (some 38), .extract 38 (.t 35 false) 0⟩,
  ⟨none, (some 39), .extract 39 (.t 35 false) 1⟩,
  ⟨none, (some 7), .mv 7 (.t 38 true)⟩,
  ⟨none, (some 8), .mv 8 (.t 39 true)⟩]
abbrev c79r18 : List GOp := [⟨none, (some 41), .bload 41 1 none (some 4) false⟩,
  ⟨none, (some 42), .call (some 42) 84 [(.t 41 false), (.c (.str [104, 111, 115, 116, 95, 105, 112])), (.c (.str []))]⟩,
  ⟨none, (some 40), .mv 40 (.t 42 true)⟩,
  ⟨none, (some 43), .extract 43 (.t 40 false) 0⟩,
  ⟨none, (some 44), .extract 44 (.t 40 false) 1⟩,
  ⟨none, (some 9), .mv 9 (.t 43 true)⟩,
  ⟨none, (some 10), .mv 10 (.t 44 true)⟩]
abbrev c79r19 : List GOp := [⟨none, (some 46), .bload 46 1 none (some 4) false⟩,
  ⟨none, (some 47), .call (some 47) 84 [(.t 46 false), (.c (.str [112, 114, 111, 116, 111, 99, 111, 108])), (.c (.str [116, 99, 112]))]⟩,
  ⟨none, (some 45), .mv 45 (.t 47 true)⟩,
  ⟨none, (some 48), .extract 48 (.t 45 false) 0⟩,
  ⟨none, (some 49), .extract 49 (.t 45 false) 1⟩,
  ⟨none, (some 11), .mv 11 (.t 48 true)⟩,
  ⟨none, (some 12), .mv 12 (.t 49 true)⟩]
abbrev c79r20 : List GOp := [⟨none, (some 50), .mv 50 (.t 6 false)⟩,
  ⟨none, (some 51), .un 51 .not (.t 50 false)⟩,
  ⟨none, (some 52), .mv 52 (.t 51 true)⟩,
  ⟨(some (52, false)), (some 53), .mv 53 (.t 8 false)⟩,
  ⟨(some (52, false)), (some 54), .un 54 .not (.t 53 false)⟩,
  ⟨none, (some 55), .pick 55 (.t 52 false) (.c (.bool true)) (.t 54 false)⟩,
  ⟨none, (some 56), .mv 56 (.t 55 true)⟩,
  ⟨(some (56, false)), (some 57), .mv 57 (.t 10 false)⟩,
  ⟨(some (56, false)), (some 58), .un 58 .not (.t 57 false)⟩,
  ⟨none, (some 59), .pick 59 (.t 56 false) (.c (.bool true)) (.t 58 false)⟩,
  ⟨none, (some 60), .mv 60 (.t 59 true)⟩,
  ⟨(some (60, false)), (some 61), .mv 61 (.t 12 false)⟩,
  ⟨(some (60, false)), (some 62), .un 62 .not (.t 61 false)⟩,
  ⟨none, (some 63), .pick 63 (.t 60 false) (.c (.bool true)) (.t 62 false)⟩]
abbrev c79r21 : List GOp := [⟨none, (some 2), .mv 2 (.c (.str []))⟩]
abbrev c79s22 : ACode := (.seq (.reg c79r21 [2]) .ret)
abbrev c79s23 : ACode := (.cond (.t 63 false) c79s22 .skip)
abbrev c79r24 : List GOp := [⟨none, (some 64), .mv 64 (.t 9 false)⟩,
  ⟨none, (some 65), .mv 65 (.t 7 false)⟩,
  ⟨none, (some 66), .mv 66 (.t 5 false)⟩,
  ⟨none, (some 67), .mv 67 (.t 11 false)⟩,
  ⟨none, (some 68), .build 68 [(.str []), (.int .i64 0), (.int .i64 0), (.str [])] [(0, 1, (.t 64 false)), (1, 1, (.t 65 false)), (2, 1, (.t 66 false)), (3, 1, (.t 67 false))]⟩,
  ⟨none, (some 69), .call (some 69) 109 [(.t 68 false)]⟩,
  ⟨none, (some 2), .mv 2 (.t 69 true)⟩]
abbrev c79s25 : ACode := (.seq (.reg c79r24 [2]) .ret)
abbrev c79s26 : ACode := (.seq (.seq (.reg c79r20 [63]) c79s23) c79s25)
abbrev c79s27 : ACode := (.seq (.reg c79r19 [11, 12]) c79s26)
abbrev c79s28 : ACode := (.seq (.reg c79r18 [9, 10]) c79s27)
abbrev c79s29 : ACode := (.seq (.reg c79r17 [7, 8]) c79s28)
abbrev c79s30 : ACode := (.seq (.reg c79r16 [5, 6]) c79s29)
abbrev c79s31 : ACode := (.seq (.seq (.reg c79r12 [29]) c79s15) c79s30)
abbrev c79s32 : ACode := (.seq (.seq (.reg c79r1 [15]) c79s11) c79s31)
abbrev c79 : ACode := (.seq (.reg c79r0 [1, 2]) c79s32)
def a79 : AFn := ⟨[1, 3], [0, 1, 2, 3, 4, 5, 6, 7, 8, 9, 10, 11, 12, 15, 23, 29, 63], [19, 20, 21, 25, 32, 33, 34, 37, 38, 39, 42, 43, 44, 47, 48, 49, 51, 55, 59, 69], [], [(17, 1), (13, 1)], [(17, 1), (13, 0)], [], [], c79, [.tmp 2]⟩
theorem is79 : IsFn Tryz.prog 79 1 a79 := isFn_of mix Tryz.func79 (by kernel_rfl) (by kernel_rfl) (by kernel_rfl) (by kernel_rfl) (by kernel_rfl)
theorem sound79 {args : List AV} {r : AV} (hl : args.length = 1) (h : awp Tryz.prog c79 (unw Tryz.prog [] (Ends [.tmp 2] r)) (initSt args)) : Sound Tryz.prog 79 args r := sound_of is79 hl h
theorem total79 {args : List AV} {Φ : AV → Prop} (hl : args.length = 1) (h : awp Tryz.prog c79 (unw Tryz.prog [] (EndsP [.tmp 2] Φ)) (initSt args)) : Total Tryz.prog 79 args Φ := total_of is79 hl h

/-! longshore/longshoreref18.oneMount -/
abbrev c80r0 : List GOp := [⟨none, (some 1), .bbox 1 (.t 0 false)⟩,
  ⟨none, (some 2), .balloc 2 (.agg [(.str []), (.str []), (.bool false)])⟩,
  ⟨none, (some 3), .mv 3 (.c (.bool false))⟩]
abbrev c80r1 : List GOp := [⟨none, (some 15), .baddr 15 1 0⟩,
  ⟨none, (some 16), .bload 16 1 (some 15) none false⟩,
  ⟨none, (some 17), .bin 17 .eql false (.t 16 false) (.c (.int .i64 1))⟩]
abbrev c80r2 : List GOp := [⟨none, (some 19), .baddr 19 1 1⟩,
  ⟨none, (some 20), .bload 20 1 (some 19) none false⟩,
  ⟨none, (some 21), .call (some 21) 110 [(.t 20 false)]⟩,
  ⟨none, (some 18), .mv 18 (.t 21 true)⟩,
  ⟨none, (some 22), .extract 22 (.t 18 false) 0⟩,
  ⟨none, (some 23), .extract 23 (.t 18 false) 1⟩,
  ⟨none, (some 4), .balloc 4 (.agg [(.str []), (.str []), (.bool false)])⟩,
  ⟨none, none, .bstore 4 none (.t 22 true) 3⟩,
  ⟨none, (some 5), .mv 5 (.t 23 true)⟩]
abbrev c80r3 : List GOp := [⟨none, (some 24), .bload 24 4 none (some 3) false⟩,
  ⟨none, (some 25), .mv 25 (.t 5 false)⟩,
  ⟨none, (some 26), .bin 26 .eql false (.t 25 false) (.c (.int .i64 0))⟩,
  ⟨none, none, .bstore 2 none (.t 24 true) 3⟩,
  ⟨none, (some 3), .mv 3 (.t 26 true)⟩]
abbrev c80s4 : ACode := (.seq (.reg c80r3 [2, 3]) .ret)
abbrev c80s5 : ACode := (.seq (.reg c80r2 [4, 5]) c80s4)
abbrev c80s6 : ACode := (.cond (.t 17 false) c80s5 .skip)
abbrev c80r7 : List GOp := [⟨none, (some 27), .bload 27 1 none (some 4) false⟩,
  ⟨none, (some 28), .mkslice 28 1 [(.c (.str [115, 111, 117, 114, 99, 101])), (.c (.str [116, 97, 114, 103, 101, 116])), (.c (.str [114, 101, 97, 100, 95, 111, 110, 108, 121])), (.c (.str [116, 121, 112, 101]))]⟩,
  ⟨none, (some 29), .call (some 29) 83 [(.t 27 false), (.t 28 false)]⟩,
  ⟨none, (some 30), .un 30 .not (.t 29 false)⟩]
abbrev c80r8 : List GOp := [⟨none, (some 31), .build 31 [(.str []), (.str []), (.bool false)] []⟩,
  ⟨none, none, .bstore 2 none (.t 31 true) 3⟩,
  ⟨none, (some 3), .mv 3 (.c (.bool false))⟩]
abbrev c80s9 : ACode := (.seq (.reg c80r8 [2, 3]) .ret)
abbrev c80s10 : ACode := (.cond (.t 30 false) c80s9 .skip)
abbrev c80r11 : List GOp := [⟨none, (some 33), .bload 33 1 none (some 4) false⟩,
  ⟨none, (some 34), .call (some 34) 84 [(.t 33 false), (.c (.str [115, 111, 117, 114, 99, 101])), (.c (.str []))]⟩,
  ⟨none, (some 32), .mv 32 (.t 34 true)⟩,
  ⟨none, (some 35), .extract 35 (.t 32 false) 0⟩,
  ⟨none, (some 36), .extract 36 (.t 32 false) 1⟩,
  ⟨none, (some 6), .mv 6 (.t 35 true)⟩,
  ⟨none, (some 7), .mv 7 (.t 36 true)⟩]
abbrev c80r12 : List GOp := [⟨none, (some 38), .bload 38 1 none (some 4) false⟩,
  ⟨none, (some 39), .call (some 39) 84 [(.t 38 false), (.c (.str [116, 97, 114, 103, 101, 116])), (.c (.str []))]⟩,
  ⟨none, (some 37), .mv 37 (.t 39 true)⟩,
  ⟨none, (some 40), .extract 40 (.t 37 false) 0⟩,
  ⟨none, (some 41), .extract 41 (.t 37 false) 1⟩,
  ⟨none, (some 8), .mv 8 (.t 40 true)⟩,
  ⟨none, (some 9), .mv 9 (.t 41 true)⟩]
abbrev c80r13 : List GOp := [⟨none, (some 43), .bload 43 1 none (some 4) false⟩,
  ⟨none, (some 44), .call (some 44) 85 [(.t 43 false), (.c (.str [114, 101, 97, 100, 95, 111, 110, 108, 121])), (.c (.str [102, 97, 108, 115, 101]))]⟩,
  ⟨none, (some 42), .mv 42 (.t 44 true)⟩,
  ⟨none, (some 45), .extract 45 (.t 42 false) 0⟩,
  ⟨none, (some 46), .extract 46 (.t 42 false) 1⟩,
  ⟨none, (some 10), .mv 10 (.t 45 true)⟩,
  ⟨none, (some 11), .mv 11 (.t 46 true)⟩]
abbrev c80r14 : List GOp := [⟨none, (some 48), .bload 48 1 none (some 4) false⟩,
  ⟨none, (some 49), .call (some 49) 84 [(.t 48 false), (.c (.str [116, 121, 112, 101])), (.c (.str [98, 105, 110, 100]))]⟩,
  ⟨none, (some 47), .mv 47 (.t 49 true)⟩,
  ⟨none, (some 50), .extract 50 (.t 47 false) 0⟩,
  ⟨none, (some 51), .extract 51 (.t 47 false) 1⟩,
  ⟨none, (some 12), .mv 12 (.t 50 true)⟩,
  ⟨none, (some 13), .mv 13 (.t 51 true)⟩]
abbrev c80r15 : List GOp := [⟨none, (some 52), .mv 52 (.t 6 false)⟩,
  ⟨none, (some 53), .mv 53 (.t 8 false)⟩,
  ⟨none, (some 54), .mv 54 (.t 10 false)⟩,
  ⟨none, (some 55), .bin 55 .eql false (.t 54 false) (.c (.str [116, 114, 117, 101]))⟩,
  ⟨none, (some 56), .build 56 [(.str []), (.str []), (.bool false)] [(0, 1, (.t 52 false)), (1, 1, (.t 53 false)), (2, 1, (.t 55 false))]⟩,
  ⟨none, (some 14), .balloc 14 (.agg [(.str []), (.str []), (.bool false)])⟩,
  ⟨none, none, .bstore 14 none (.t 56 true) 3⟩]
abbrev c80r16 : List GOp := [⟨none, (some 57), .bload 57 14 none (some 3) false⟩,
  ⟨none, (some 58), .mv 58 (.t 7 false)⟩,
  ⟨none, (some 59), .mv 59 (.t 58 true)⟩,
  ⟨(some (59, true)), (some 60), .mv 60 (.t 9 false)⟩,
  ⟨none, (some 61), .pick 61 (.t 59 false) (.t 60 false) (.c (.bool false))⟩,
  ⟨none, (some 62), .mv 62 (.t 61 true)⟩,
  ⟨(some (62, true)), (some 63), .mv 63 (.t 11 false)⟩,
  ⟨none, (some 64), .pick 64 (.t 62 false) (.t 63 false) (.c (.bool false))⟩,
  ⟨none, (some 65), .mv 65 (.t 64 true)⟩,
  ⟨(some (65, true)), (some 66), .mv 66 (.t 13 false)⟩,
  ⟨none, (some 67), .pick 67 (.t 65 false) (.t 66 false) (.c (.bool false))⟩,
  ⟨none, (some 68), .mv 68 (.t 67 true)⟩,
  ⟨(some (68, true)), (some 69), .bload 69 14 none (some 3) false⟩,
  ⟨(some (68, true)), (some 70), .call (some 70) 111 [(.t 69 false)]⟩,
  ⟨none, (some 71), .pick 71 (.t 68 false) (.t 70 false) (.c (.bool false))⟩,
  ⟨none, (some 72), .mv 72 (.t 71 true)⟩,
  ⟨(some (72, true)), (some 73), .mv 73 (.t 12 false)⟩,
  ⟨(some (72, true)), (some 74), .bin 74 .eql false (.t 73 false) (.c (.str [118, 111, 108, 117, 109, 101]))⟩,
  ⟨(some (72, true)), (some 75), .mv 75 (.t 74 true)⟩,
  ⟨(some (75, false)), (some 76), .mv 76 (.t 12 false)⟩,
  ⟨(some (75, false)), (some 77), .bin 77 .eql false (.t 76 false) (.c (.str [98, 105, 110, 100]))⟩,
  ⟨(some (72, true)), (some 78), .pick 78 (.t 75 false) (.c (.bool true)) (.t 77 false)⟩,
  ⟨(some (72, true)), (some 79), .mv 79 (.t 78 true)⟩,
  ⟨(some (79, false)), (some 80), .mv 80 (.t 12 false)⟩,
  ⟨(some (79, false)), (some 81), .bin 81 .eql false (.t 80 false) (.c (.str [116, 109, 112, 102, 115]))⟩,
  ⟨(some (72, true)), (some 82), .pick 82 (.t 79 false) (.c (.bool true)) (.t 81 false)⟩,
  ⟨none, (some 83), .pick 83 (.t 72 false) (.t 82 false) (.c (.bool false))⟩,
  ⟨none, none, .bstore 2 none (.t 57 true) 3⟩,
  ⟨none, (some 3), .mv 3 (.t 83 true)⟩]
abbrev c80s17 : ACode := (.seq (.reg c80r16 [2, 3]) .ret)
abbrev c80s18 : ACode := (.seq (.reg c80r15 [14]) c80s17)
abbrev c80s19 : ACode := (.seq (.reg c80r14 [12, 13]) c80s18)
abbrev c80s20 : ACode := (.seq (.reg c80r13 [10, 11]) c80s19)
abbrev c80s21 : ACode := (.seq (.reg c80r12 [8, 9]) c80s20)
abbrev c80s22 : ACode := (.seq (.reg c80r11 [6, 7]) c80s21)
abbrev c80s23 : ACode := (.seq (.seq (.reg c80r7 [30]) c80s10) c80s22)
abbrev c80s24 : ACode := (.seq (.seq (.reg c80r1 [17]) c80s6) c80s23)
abbrev c80 : ACode := (.seq (.reg c80r0 [1, 2, 3]) c80s24)
def a80 : AFn := ⟨[1, 2, 4, 14], [0, 1, 2, 3, 4, 5, 6, 7, 8, 9, 10, 11, 12, 13, 14, 17, 30], [21, 22, 23, 24, 26, 31, 34, 35, 36, 39, 40, 41, 44, 45, 46, 49, 50, 51, 56, 57, 58, 61, 64, 67, 71, 74, 78, 83], [], [(19, 1), (15, 1)], [(19, 1), (15, 0)], [], [], c80, [.cell 2 (some 3), .tmp 3]⟩
theorem is80 : IsFn Tryz.prog 80 1 a80 := isFn_of mix Tryz.func80 (by kernel_rfl) (by kernel_rfl) (by kernel_rfl) (by kernel_rfl) (by kernel_rfl)
theorem sound80 {args : List AV} {r : AV} (hl : args.length = 1) (h : awp Tryz.prog c80 (unw Tryz.prog [] (Ends [.cell 2 (some 3), .tmp 3] r)) (initSt args)) : Sound Tryz.prog 80 args r := sound_of is80 hl h
theorem total80 {args : List AV} {Φ : AV → Prop} (hl : args.length = 1) (h : awp Tryz.prog c80 (unw Tryz.prog [] (EndsP [.cell 2 (some 3), .tmp 3] Φ)) (initSt args)) : Total Tryz.prog 80 args Φ := total_of is80 hl h

/-! longshore/longshoreref18.edge -/
abbrev c82r0 : List GOp := [⟨none, (some 1), .bbox 1 (.t 0 false)⟩,
  ⟨none, (some 2), .balloc 2 (.agg [(.int .i64 0), (.str []), (.oslice 1 []), (.oslice 4 [])])⟩,
  ⟨none, (some 3), .mv 3 (.c (.bool false))⟩]
abbrev c82r1 : List GOp := [⟨none, (some 11), .baddr 11 1 0⟩,
  ⟨none, (some 12), .bload 12 1 (some 11) none false⟩,
  ⟨none, (some 13), .bin 13 .eql false (.t 12 false) (.c (.int .i64 0))⟩]
abbrev c82r2 : List GOp := [⟨none, (some 14), .build 14 [(.int .i64 0), (.str []), (.oslice 1 []), (.oslice 4 [])] [(0, 1, (.c (.int .i64 3)))]⟩,
  ⟨none, none, .bstore 1 none (.t 14 true) 4⟩]
abbrev c82s3 : ACode := (.cond (.t 13 false) (.reg c82r2 [1]) .skip)
abbrev c82r4 : List GOp := [⟨none, (some 15), .bload 15 1 none (some 4) false⟩,
  ⟨none, (some 16), .mkslice 16 1 [(.c (.str [99, 111, 110, 100, 105, 116, 105, 111, 110])), (.c (.str [114, 101, 115, 116, 97, 114, 116])), (.c (.str [114, 101, 113, 117, 105, 114, 101, 100]))]⟩,
  ⟨none, (some 17), .call (some 17) 83 [(.t 15 false), (.t 16 false)]⟩,
  ⟨none, (some 18), .un 18 .not (.t 17 false)⟩]
abbrev c82r5 : List GOp := [⟨none, (some 19), .build 19 [(.int .i64 0), (.str []), (.oslice 1 []), (.oslice 4 [])] []⟩,
  ⟨none, none, .bstore 2 none (.t 19 true) 4⟩,
  ⟨none, (some 3), .mv 3 (.c (.bool false))⟩]
abbrev c82s6 : ACode := (.seq (.reg c82r5 [2, 3]) .ret)
abbrev c82s7 : ACode := (.cond (.t 18 false) c82s6 .skip)
abbrev c82r8 : List GOp := [⟨none, (some 21), .bload 21 1 none (some 4) false⟩,
  ⟨none, (some 22), .call (some 22) 84 [(.t 21 false), (.c (.str [99, 111, 110, 100, 105, 116, 105, 111, 110])), (.c (.str [115, 101, 114, 118, 105, 99, 101, 95, 115, 116, 97, 114, 116, 101, 100]))]⟩,
  ⟨none, (some 20), .mv 20 (.t 22 true)⟩,
  ⟨none, (some 23), .extract 23 (.t 20 false) 0⟩,
  ⟨none, (some 24), .extract 24 (.t 20 false) 1⟩,
  ⟨none, (some 4), .mv 4 (.t 23 true)⟩,
  ⟨none, (some 5), .mv 5 (.t 24 true)⟩]
abbrev c82r9 : List GOp := [⟨none, (some 26), .bload 26 1 none (some 4) false⟩,
  ⟨none, (some 27), .call (some 27) 85 [(.t 26 false), (.c (.str [114, 101, 115, 116, 97, 114, 116])), (.c (.str [102, 97, 108, 115, 101]))]⟩,
  ⟨none, (some 25), .mv 25 (.t 27 true)⟩,
  ⟨none, (some 28), .extract 28 (.t 25 false) 0⟩,
  ⟨none, (some 29), .extract 29 (.t 25 false) 1⟩,
  ⟨none, (some 6), .mv 6 (.t 28 true)⟩,
  ⟨none, (some 7), .mv 7 (.t 29 true)⟩]
abbrev c82r10 : List GOp := [⟨none, (some 31), .bload 31 1 none (some 4) false⟩,
  ⟨none, (some 32), .call (some 32) 85 [(.t 31 false), (.c (.str [114, 101, 113, 117, 105, 114, 101, 100])), (.c (.str [116, 114, 117, 101]))]⟩,
  ⟨none, (some 30), .mv 30 (.t 32 true)⟩,
  ⟨none, (some 33), .extract 33 (.t 30 false) 0⟩,
  ⟨none, (some 34), .extract 34 (.t 30 false) 1⟩,
  ⟨none, (some 8), .mv 8 (.t 33 true)⟩,
  ⟨none, (some 9), .mv 9 (.t 34 true)⟩]
abbrev c82r11 : List GOp := [⟨none, (some 35), .mv 35 (.t 4 false)⟩,
  ⟨none, (some 36), .bin 36 .eql false (.t 35 false) (.c (.str [115, 101, 114, 118, 105, 99, 101, 95, 115, 116, 97, 114, 116, 101, 100]))⟩,
  ⟨none, (some 37), .mv 37 (.t 36 true)⟩,
  ⟨(some (37, false)), (some 38), .mv 38 (.t 4 false)⟩,
  ⟨(some (37, false)), (some 39), .bin 39 .eql false (.t 38 false) (.c (.str [115, 101, 114, 118, 105, 99, 101, 95, 104, 101, 97, 108, 116, 104, 121]))⟩,
  ⟨none, (some 40), .pick 40 (.t 37 false) (.c (.bool true)) (.t 39 false)⟩,
  ⟨none, (some 41), .mv 41 (.t 40 true)⟩,
  ⟨(some (41, false)), (some 42), .mv 42 (.t 4 false)⟩,
  ⟨(some (41, false)), (some 43), .bin 43 .eql false (.t 42 false) (.c (.str [115, 101, 114, 118, 105, 99, 101, 95, 99, 111, 109, 112, 108, 101, 116, 101, 100, 95, 115, 117, 99, 99, 101, 115, 115, 102, 117, 108, 108, 121]))⟩,
  ⟨none, (some 44), .pick 44 (.t 41 false) (.c (.bool true)) (.t 43 false)⟩,
  ⟨none, (some 10), .mv 10 (.t 44 true)⟩]
abbrev c82r12 : List GOp := [⟨none, (some 45), .mkslice 45 1 [(.c (.str [99, 111, 110, 100, 105, 116, 105, 111, 110])), (.c (.str [114, 101, 113, 117, 105, 114, 101, 100])), (.c (.str [114, 101, 115, 116, 97, 114, 116]))]⟩,
  ⟨none, (some 46), .mv 46 (.t 4 false)⟩,
  ⟨none, (some 47), .call (some 47) 73 [(.t 46 false)]⟩,
  ⟨none, (some 48), .mv 48 (.t 8 false)⟩,
  ⟨none, (some 49), .call (some 49) 73 [(.t 48 false)]⟩,
  ⟨none, (some 50), .mv 50 (.t 6 false)⟩,
  ⟨none, (some 51), .call (some 51) 73 [(.t 50 false)]⟩,
  ⟨none, (some 52), .mkslice 52 4 [(.t 47 false), (.t 49 false), (.t 51 false)]⟩,
  ⟨none, (some 53), .build 53 [(.int .i64 0), (.str []), (.oslice 1 []), (.oslice 4 [])] [(0, 1, (.c (.int .i64 3))), (2, 1, (.t 45 false)), (3, 1, (.t 52 false))]⟩,
  ⟨none, (some 54), .mv 54 (.t 5 false)⟩,
  ⟨none, (some 55), .mv 55 (.t 54 true)⟩,
  ⟨(some (55, true)), (some 56), .mv 56 (.t 7 false)⟩,
  ⟨none, (some 57), .pick 57 (.t 55 false) (.t 56 false) (.c (.bool false))⟩,
  ⟨none, (some 58), .mv 58 (.t 57 true)⟩,
  ⟨(some (58, true)), (some 59), .mv 59 (.t 9 false)⟩,
  ⟨none, (some 60), .pick 60 (.t 58 false) (.t 59 false) (.c (.bool false))⟩,
  ⟨none, (some 61), .mv 61 (.t 60 true)⟩,
  ⟨(some (61, true)), (some 62), .mv 62 (.t 10 false)⟩,
  ⟨none, (some 63), .pick 63 (.t 61 false) (.t 62 false) (.c (.bool false))⟩,
  ⟨none, none, .bstore 2 none (.t 53 true) 4⟩,
  ⟨none, (some 3), .mv 3 (.t 63 true)⟩]
abbrev c82s13 : ACode := (.seq (.reg c82r12 [2, 3]) .ret)
abbrev c82s14 : ACode := (.seq (.reg c82r11 [10]) c82s13)
abbrev c82s15 : ACode := (.seq (.reg c82r10 [8, 9]) c82s14)
abbrev c82s16 : ACode := (.seq (.reg c82r9 [6, 7]) c82s15)
abbrev c82s17 : ACode := (.seq (.reg c82r8 [4, 5]) c82s16)
abbrev c82s18 : ACode := (.seq (.seq (.reg c82r4 [18]) c82s7) c82s17)
abbrev c82s19 : ACode := (.seq (.seq (.reg c82r1 [13]) c82s3) c82s18)
abbrev c82 : ACode := (.seq (.reg c82r0 [1, 2, 3]) c82s19)
def a82 : AFn := ⟨[1, 2], [0, 1, 2, 3, 4, 5, 6, 7, 8, 9, 10, 13, 18], [14, 19, 22, 23, 24, 27, 28, 29, 32, 33, 34, 36, 40, 44, 53, 54, 57, 60, 63], [], [(11, 1)], [(11, 0)], [], [], c82, [.cell 2 (some 4), .tmp 3]⟩
theorem is82 : IsFn Tryz.prog 82 1 a82 := isFn_of mix Tryz.func82 (by kernel_rfl) (by kernel_rfl) (by kernel_rfl) (by kernel_rfl) (by kernel_rfl)
theorem sound82 {args : List AV} {r : AV} (hl : args.length = 1) (h : awp Tryz.prog c82 (unw Tryz.prog [] (Ends [.cell 2 (some 4), .tmp 3] r)) (initSt args)) : Sound Tryz.prog 82 args r := sound_of is82 hl h
theorem total82 {args : List AV} {Φ : AV → Prop} (hl : args.length = 1) (h : awp Tryz.prog c82 (unw Tryz.prog [] (EndsP [.cell 2 (some 4), .tmp 3] Φ)) (initSt args)) : Total Tryz.prog 82 args Φ := total_of is82 hl h

/-! longshore/longshoreref18.only -/
abbrev c83r0 : List GOp := [⟨none, (some 2), .bbox 2 (.t 0 false)⟩,
  ⟨none, (some 4), .mv 4 (.c (.bool false))⟩]
abbrev c83r1 : List GOp := [⟨none, (some 6), .baddr 6 2 0⟩,
  ⟨none, (some 7), .bload 7 2 (some 6) none false⟩,
  ⟨none, (some 8), .bin 8 .neq false (.t 7 false) (.c (.int .i64 3))⟩]
abbrev c83r2 : List GOp := [⟨none, (some 4), .mv 4 (.c (.bool false))⟩]
abbrev c83s3 : ACode := (.seq (.reg c83r2 [4]) .ret)
abbrev c83s4 : ACode := (.cond (.t 8 false) c83s3 .skip)
abbrev c83r5 : List GOp := [⟨none, (some 5), .mv 5 (.c (.int .i64 0))⟩]
abbrev c83r6 : List GOp := [⟨none, (some 9), .mv 9 (.t 5 false)⟩,
  ⟨none, (some 10), .baddr 10 2 2⟩,
  ⟨none, (some 11), .bload 11 2 (some 10) none false⟩,
  ⟨none, (some 12), .len 12 false (.t 11 false)⟩,
  ⟨none, (some 13), .bin 13 .lss false (.t 9 false) (.t 12 false)⟩]
abbrev c83s7 : ACode := (.cond (.t 13 false) .skip (.exit 0))
abbrev c83r8 : List GOp := [⟨none, (some 16), .mv 16 (.t 1 false)⟩,
  ⟨none, (some 17), .baddr 17 2 2⟩,
  ⟨none, (some 18), .bload 18 2 (some 17) none false⟩,
  ⟨none, (some 19), .mv 19 (.t 5 false)⟩,
  ⟨none, (some 20), .idx 20 (.t 18 false) (.t 19 false) 1⟩,
  ⟨none, (some 21), .vload 21 20 none⟩,
  ⟨none, (some 22), .call (some 22) 78 [(.t 16 false), (.t 21 false)]⟩,
  ⟨none, (some 23), .un 23 .not (.t 22 false)⟩]
abbrev c83r9 : List GOp := [⟨none, (some 4), .mv 4 (.c (.bool false))⟩]
abbrev c83s10 : ACode := (.seq (.reg c83r9 [4]) .ret)
abbrev c83s11 : ACode := (.cond (.t 23 false) c83s10 .skip)
abbrev c83s12 : ACode := (.seq (.reg c83r8 [23]) c83s11)
abbrev c83r13 : List GOp := [⟨none, (some 14), .mv 14 (.t 5 false)⟩,
  ⟨none, (some 15), .bin 15 .add false (.t 14 false) (.c (.int .i64 1))⟩,
  ⟨none, (some 5), .mv 5 (.t 15 true)⟩]
abbrev c83s14 : ACode := (.seq (.block 1 c83s12) (.reg c83r13 [5]))
abbrev c83s15 : ACode := (.seq (.seq (.reg c83r6 [13]) c83s7) c83s14)
abbrev c83s16 : ACode := (.loop c83s15)
abbrev c83s17 : ACode := (.block 0 c83s16)
abbrev c83r18 : List GOp := [⟨none, (some 4), .mv 4 (.c (.bool true))⟩]
abbrev c83s19 : ACode := (.seq (.reg c83r18 [4]) .ret)
abbrev c83s20 : ACode := (.seq (.seq (.reg c83r5 [5]) c83s17) c83s19)
abbrev c83s21 : ACode := (.seq (.seq (.reg c83r1 [8]) c83s4) c83s20)
abbrev c83 : ACode := (.seq (.reg c83r0 [2, 4]) c83s21)
def a83 : AFn := ⟨[2], [0, 1, 2, 4, 5, 8, 13, 23], [15], [], [(17, 2), (10, 2), (6, 2)], [(17, 2), (10, 2), (6, 0)], [], [], c83, [.tmp 4]⟩
theorem is83 : IsFn Tryz.prog 83 2 a83 := isFn_of mix Tryz.func83 (by kernel_rfl) (by kernel_rfl) (by kernel_rfl) (by kernel_rfl) (by kernel_rfl)
theorem sound83 {args : List AV} {r : AV} (hl : args.length = 2) (h : awp Tryz.prog c83 (unw Tryz.prog [] (Ends [.tmp 4] r)) (initSt args)) : Sound Tryz.prog 83 args r := sound_of is83 hl h
theorem total83 {args : List AV} {Φ : AV → Prop} (hl : args.length = 2) (h : awp Tryz.prog c83 (unw Tryz.prog [] (EndsP [.tmp 4] Φ)) (initSt args)) : Total Tryz.prog 83 args Φ := total_of is83 hl h

/-! longshore/longshoreref18.field -/
abbrev c84r0 : List GOp := [⟨none, (some 3), .bbox 3 (.t 0 false)⟩,
  ⟨none, (some 6), .mv 6 (.c (.str []))⟩,
  ⟨none, (some 7), .mv 7 (.c (.bool false))⟩]
abbrev c84r1 : List GOp := [⟨none, (some 11), .bload 11 3 none (some 4) false⟩,
  ⟨none, (some 12), .mv 12 (.t 1 false)⟩,
  ⟨none, (some 13), .call (some 13) 40 [(.t 11 false), (.t 12 false)]⟩,
  ⟨none, (some 10), .mv 10 (.t 13 true)⟩,
  ⟨none, (some 14), .extract 14 (.t 10 false) 0⟩,
  ⟨none, (some 15), .extract 15 (.t 10 false) 1⟩,
  ⟨none, (some 8), .balloc 8 (.agg [(.int .i64 0), (.str []), (.oslice 1 []), (.oslice 4 [])])⟩,
  ⟨none, none, .bstore 8 none (.t 14 true) 4⟩,
  ⟨none, (some 9), .mv 9 (.t 15 true)⟩]
abbrev c84r2 : List GOp := [⟨none, (some 16), .mv 16 (.t 9 false)⟩,
  ⟨none, (some 17), .un 17 .not (.t 16 false)⟩]
abbrev c84r3 : List GOp := [⟨none, (some 18), .mv 18 (.t 2 false)⟩,
  ⟨none, (some 6), .mv 6 (.t 18 true)⟩,
  ⟨none, (some 7), .mv 7 (.c (.bool true))⟩]
abbrev c84s4 : ACode := (.seq (.reg c84r3 [6, 7]) .ret)
abbrev c84s5 : ACode := (.cond (.t 17 false) c84s4 .skip)
abbrev c84r6 : List GOp := [⟨none, (some 19), .baddr 19 8 1⟩,
  ⟨none, (some 20), .bload 20 8 (some 19) none false⟩,
  ⟨none, (some 21), .baddr 21 8 0⟩,
  ⟨none, (some 22), .bload 22 8 (some 21) none false⟩,
  ⟨none, (some 23), .bin 23 .eql false (.t 22 false) (.c (.int .i64 1))⟩,
  ⟨none, (some 6), .mv 6 (.t 20 true)⟩,
  ⟨none, (some 7), .mv 7 (.t 23 true)⟩]
abbrev c84s7 : ACode := (.seq (.reg c84r6 [6, 7]) .ret)
abbrev c84s8 : ACode := (.seq (.seq (.reg c84r2 [17]) c84s5) c84s7)
abbrev c84s9 : ACode := (.seq (.reg c84r1 [8, 9]) c84s8)
abbrev c84 : ACode := (.seq (.reg c84r0 [3, 6, 7]) c84s9)
def a84 : AFn := ⟨[3, 8], [0, 1, 2, 3, 6, 7, 8, 9, 17], [13, 14, 15, 18, 20, 23], [], [(21, 8), (19, 8)], [(21, 0), (19, 1)], [], [], c84, [.tmp 6, .tmp 7]⟩
theorem is84 : IsFn Tryz.prog 84 3 a84 := isFn_of mix Tryz.func84 (by kernel_rfl) (by kernel_rfl) (by kernel_rfl) (by kernel_rfl) (by kernel_rfl)
theorem sound84 {args : List AV} {r : AV} (hl : args.length = 3) (h : awp Tryz.prog c84 (unw Tryz.prog [] (Ends [.tmp 6, .tmp 7] r)) (initSt args)) : Sound Tryz.prog 84 args r := sound_of is84 hl h
theorem total84 {args : List AV} {Φ : AV → Prop} (hl : args.length = 3) (h : awp Tryz.prog c84 (unw Tryz.prog [] (EndsP [.tmp 6, .tmp 7] Φ)) (initSt args)) : Total Tryz.prog 84 args Φ := total_of is84 hl h

/-! longshore/longshoreref18.truth -/
abbrev c85r0 : List GOp := [⟨none, (some 3), .bbox 3 (.t 0 false)⟩,
  ⟨none, (some 6), .mv 6 (.c (.str []))⟩,
  ⟨none, (some 7), .mv 7 (.c (.bool false))⟩]
abbrev c85r1 : List GOp := [⟨none, (some 11), .bload 11 3 none (some 4) false⟩,
  ⟨none, (some 12), .mv 12 (.t 1 false)⟩,
  ⟨none, (some 13), .mv 13 (.t 2 false)⟩,
  ⟨none, (some 14), .call (some 14) 84 [(.t 11 false), (.t 12 false), (.t 13 false)]⟩,
  ⟨none, (some 10), .mv 10 (.t 14 true)⟩,
  ⟨none, (some 15), .extract 15 (.t 10 false) 0⟩,
  ⟨none, (some 16), .extract 16 (.t 10 false) 1⟩,
  ⟨none, (some 8), .mv 8 (.t 15 true)⟩,
  ⟨none, (some 9), .mv 9 (.t 16 true)⟩]
abbrev c85r2 : List GOp := [⟨none, (some 17), .mv 17 (.t 8 false)⟩,
  ⟨none, (some 18), .mv 18 (.t 9 false)⟩,
  ⟨none, (some 19), .mv 19 (.t 18 true)⟩,
  ⟨(some (19, true)), (some 20), .mv 20 (.t 8 false)⟩,
  ⟨(some (19, true)), (some 21), .bin 21 .eql false (.t 20 false) (.c (.str [116, 114, 117, 101]))⟩,
  ⟨(some (19, true)), (some 22), .mv 22 (.t 21 true)⟩,
  ⟨(some (22, false)), (some 23), .mv 23 (.t 8 false)⟩,
  ⟨(some (22, false)), (some 24), .bin 24 .eql false (.t 23 false) (.c (.str [102, 97, 108, 115, 101]))⟩,
  ⟨(some (19, true)), (some 25), .pick 25 (.t 22 false) (.c (.bool true)) (.t 24 false)⟩,
  ⟨none, (some 26), .pick 26 (.t 19 false) (.t 25 false) (.c (.bool false))⟩,
  ⟨none, (some 6), .mv 6 (.t 17 true)⟩,
  ⟨none, (some 7), .mv 7 (.t 26 true)⟩]
abbrev c85s3 : ACode := (.seq (.reg c85r2 [6, 7]) .ret)
abbrev c85s4 : ACode := (.seq (.reg c85r1 [8, 9]) c85s3)
abbrev c85 : ACode := (.seq (.reg c85r0 [3, 6, 7]) c85s4)
def a85 : AFn := ⟨[3], [0, 1, 2, 3, 6, 7, 8, 9], [14, 15, 16, 17, 18, 21, 26], [], [], [], [], [], c85, [.tmp 6, .tmp 7]⟩
theorem is85 : IsFn Tryz.prog 85 3 a85 := isFn_of mix Tryz.func85 (by kernel_rfl) (by kernel_rfl) (by kernel_rfl) (by kernel_rfl) (by kernel_rfl)
theorem sound85 {args : List AV} {r : AV} (hl : args.length = 3) (h : awp Tryz.prog c85 (unw Tryz.prog [] (Ends [.tmp 6, .tmp 7] r)) (initSt args)) : Sound Tryz.prog 85 args r := sound_of is85 hl h
theorem total85 {args : List AV} {Φ : AV → Prop} (hl : args.length = 3) (h : awp Tryz.prog c85 (unw Tryz.prog [] (EndsP [.tmp 6, .tmp 7] Φ)) (initSt args)) : Total Tryz.prog 85 args Φ := total_of is85 hl h

/-! longshore/longshoreref18.test -/
abbrev c86r0 : List GOp := [⟨none, (some 1), .bbox 1 (.t 0 false)⟩,
  ⟨none, (some 2), .mv 2 (.c (.str []))⟩,
  ⟨none, (some 3), .mv 3 (.c (.int .i64 0))⟩]
abbrev c86r1 : List GOp := [⟨none, (some 6), .baddr 6 1 0⟩,
  ⟨none, (some 7), .bload 7 1 (some 6) none false⟩,
  ⟨none, (some 8), .bin 8 .eql false (.t 7 false) (.c (.int .i64 1))⟩]
abbrev c86r2 : List GOp := [⟨none, (some 9), .baddr 9 1 1⟩,
  ⟨none, (some 10), .bload 10 1 (some 9) none false⟩,
  ⟨none, (some 2), .mv 2 (.t 10 true)⟩,
  ⟨none, (some 3), .mv 3 (.c (.int .i64 1))⟩]
abbrev c86s3 : ACode := (.seq (.reg c86r2 [2, 3]) .ret)
abbrev c86s4 : ACode := (.cond (.t 8 false) c86s3 .skip)
abbrev c86r5 : List GOp := [⟨none, (some 12), .bload 12 1 none (some 4) false⟩,
  ⟨none, (some 13), .call (some 13) 46 [(.t 12 false)]⟩,
  ⟨none, (some 11), .mv 11 (.t 13 true)⟩,
  ⟨none, (some 14), .extract 14 (.t 11 false) 0⟩,
  ⟨none, (some 15), .extract 15 (.t 11 false) 1⟩,
  ⟨none, (some 4), .mv 4 (.t 14 true)⟩,
  ⟨none, (some 5), .mv 5 (.t 15 true)⟩]
abbrev c86r6 : List GOp := [⟨none, (some 16), .mv 16 (.t 5 false)⟩,
  ⟨none, (some 17), .un 17 .not (.t 16 false)⟩,
  ⟨none, (some 18), .mv 18 (.t 17 true)⟩,
  ⟨(some (18, false)), (some 19), .mv 19 (.t 4 false)⟩,
  ⟨(some (18, false)), (some 20), .len 20 false (.t 19 false)⟩,
  ⟨(some (18, false)), (some 21), .bin 21 .eql false (.t 20 false) (.c (.int .i64 0))⟩,
  ⟨none, (some 22), .pick 22 (.t 18 false) (.c (.bool true)) (.t 21 false)⟩]
abbrev c86r7 : List GOp := [⟨none, (some 2), .mv 2 (.c (.str []))⟩,
  ⟨none, (some 3), .mv 3 (.c (.int .i64 0))⟩]
abbrev c86s8 : ACode := (.seq (.reg c86r7 [2, 3]) .ret)
abbrev c86s9 : ACode := (.cond (.t 22 false) c86s8 .skip)
abbrev c86r10 : List GOp := [⟨none, (some 23), .mv 23 (.t 4 false)⟩,
  ⟨none, (some 24), .idx 24 (.t 23 false) (.c (.int .i64 0)) 1⟩,
  ⟨none, (some 25), .vload 25 24 none⟩,
  ⟨none, (some 26), .bin 26 .eql false (.t 25 false) (.c (.str [78, 79, 78, 69]))⟩,
  ⟨none, (some 27), .mv 27 (.t 26 true)⟩,
  ⟨(some (27, true)), (some 28), .mv 28 (.t 4 false)⟩,
  ⟨(some (27, true)), (some 29), .len 29 false (.t 28 false)⟩,
  ⟨(some (27, true)), (some 30), .bin 30 .eql false (.t 29 false) (.c (.int .i64 1))⟩,
  ⟨none, (some 31), .pick 31 (.t 27 false) (.t 30 false) (.c (.bool false))⟩]
abbrev c86r11 : List GOp := [⟨none, (some 2), .mv 2 (.c (.str []))⟩,
  ⟨none, (some 3), .mv 3 (.c (.int .i64 2))⟩]
abbrev c86s12 : ACode := (.seq (.reg c86r11 [2, 3]) .ret)
abbrev c86s13 : ACode := (.cond (.t 31 false) c86s12 .skip)
abbrev c86r14 : List GOp := [⟨none, (some 32), .mv 32 (.t 4 false)⟩,
  ⟨none, (some 33), .idx 33 (.t 32 false) (.c (.int .i64 0)) 1⟩,
  ⟨none, (some 34), .vload 34 33 none⟩,
  ⟨none, (some 35), .bin 35 .eql false (.t 34 false) (.c (.str [67, 77, 68, 45, 83, 72, 69, 76, 76]))⟩,
  ⟨none, (some 36), .mv 36 (.t 35 true)⟩,
  ⟨(some (36, true)), (some 37), .mv 37 (.t 4 false)⟩,
  ⟨(some (36, true)), (some 38), .len 38 false (.t 37 false)⟩,
  ⟨(some (36, true)), (some 39), .bin 39 .eql false (.t 38 false) (.c (.int .i64 2))⟩,
  ⟨none, (some 40), .pick 40 (.t 36 false) (.t 39 false) (.c (.bool false))⟩]
abbrev c86r15 : List GOp := [⟨none, (some 41), .mv 41 (.t 4 false)⟩,
  ⟨none, (some 42), .idx 42 (.t 41 false) (.c (.int .i64 1)) 1⟩,
  ⟨none, (some 43), .vload 43 42 none⟩,
  ⟨none, (some 2), .mv 2 (.t 43 true)⟩,
  ⟨none, (some 3), .mv 3 (.c (.int .i64 1))⟩]
abbrev c86s16 : ACode := (.seq (.reg c86r15 [2, 3]) .ret)
abbrev c86s17 : ACode := (.cond (.t 40 false) c86s16 .skip)
abbrev c86r18 : List GOp := [⟨none, (some 44), .mv 44 (.t 4 false)⟩,
  ⟨none, (some 45), .idx 45 (.t 44 false) (.c (.int .i64 0)) 1⟩,
  ⟨none, (some 46), .vload 46 45 none⟩,
  ⟨none, (some 47), .bin 47 .eql false (.t 46 false) (.c (.str [67, 77, 68]))⟩,
  ⟨none, (some 48), .mv 48 (.t 47 true)⟩,
  ⟨(some (48, true)), (some 49), .mv 49 (.t 4 false)⟩,
  ⟨(some (48, true)), (some 50), .len 50 false (.t 49 false)⟩,
  ⟨(some (48, true)), (some 51), .bin 51 .gtr false (.t 50 false) (.c (.int .i64 1))⟩,
  ⟨none, (some 52), .pick 52 (.t 48 false) (.t 51 false) (.c (.bool false))⟩]
abbrev c86r19 : List GOp := [⟨none, (some 53), .mv 53 (.t 4 false)⟩,
  ⟨none, (some 54), .lslice 54 (.t 53 false) (some (.c (.int .i64 1))) none 1⟩,
  ⟨none, (some 55), .call (some 55) 112 [(.t 54 false)]⟩,
  ⟨none, (some 2), .mv 2 (.t 55 true)⟩,
  ⟨none, (some 3), .mv 3 (.c (.int .i64 1))⟩]
abbrev c86s20 : ACode := (.seq (.reg c86r19 [2, 3]) .ret)
abbrev c86s21 : ACode := (.cond (.t 52 false) c86s20 .skip)
abbrev c86r22 : List GOp := [⟨none, (some 2), .mv 2 (.c (.str []))⟩,
  ⟨none, (some 3), .mv 3 (.c (.int .i64 0))⟩]
abbrev c86s23 : ACode := (.seq (.reg c86r22 [2, 3]) .ret)
abbrev c86s24 : ACode := (.seq (.seq (.reg c86r18 [52]) c86s21) c86s23)
abbrev c86s25 : ACode := (.seq (.seq (.reg c86r14 [40]) c86s17) c86s24)
abbrev c86s26 : ACode := (.seq (.seq (.reg c86r10 [31]) c86s13) c86s25)
abbrev c86s27 : ACode := (.seq (.seq (.reg c86r6 [22]) c86s9) c86s26)
abbrev c86s28 : ACode := (.seq (.reg c86r5 [4, 5]) c86s27)
abbrev c86s29 : ACode := (.seq (.seq (.reg c86r1 [8]) c86s4) c86s28)
abbrev c86 : ACode := (.seq (.reg c86r0 [1, 2, 3]) c86s29)
def a86 : AFn := ⟨[1], [0, 1, 2, 3, 4, 5, 8, 22, 31, 40, 52], [10, 13, 14, 15, 17, 26, 35, 43, 47, 55], [], [(9, 1), (6, 1)], [(9, 1), (6, 0)], [], [], c86, [.tmp 2, .tmp 3]⟩
theorem is86 : IsFn Tryz.prog 86 1 a86 := isFn_of mix Tryz.func86 (by kernel_rfl) (by kernel_rfl) (by kernel_rfl) (by kernel_rfl) (by kernel_rfl)
theorem sound86 {args : List AV} {r : AV} (hl : args.length = 1) (h : awp Tryz.prog c86 (unw Tryz.prog [] (Ends [.tmp 2, .tmp 3] r)) (initSt args)) : Sound Tryz.prog 86 args r := sound_of is86 hl h
theorem total86 {args : List AV} {Φ : AV → Prop} (hl : args.length = 1) (h : awp Tryz.prog c86 (unw Tryz.prog [] (EndsP [.tmp 2, .tmp 3] Φ)) (initSt args)) : Total Tryz.prog 86 args Φ := total_of is86 hl h

/-! longshore/longshoreref18.span -/
abbrev c87r0 : List GOp := [⟨none, (some 3), .bbox 3 (.t 0 false)⟩,
  ⟨none, (some 6), .mv 6 (.c (.str []))⟩,
  ⟨none, (some 7), .mv 7 (.c (.bool false))⟩]
abbrev c87r1 : List GOp := [⟨none, (some 15), .bload 15 3 none (some 4) false⟩,
  ⟨none, (some 16), .mv 16 (.t 1 false)⟩,
  ⟨none, (some 17), .call (some 17) 40 [(.t 15 false), (.t 16 false)]⟩,
  ⟨none, (some 14), .mv 14 (.t 17 true)⟩,
  ⟨none, (some 18), .extract 18 (.t 14 false) 0⟩,
  ⟨none, (some 19), .extract 19 (.t 14 false) 1⟩,
  ⟨none, (some 8), .balloc 8 (.agg [(.int .i64 0), (.str []), (.oslice 1 []), (.oslice 4 [])])⟩,
  ⟨none, none, .bstore 8 none (.t 18 true) 4⟩,
  ⟨none, (some 9), .mv 9 (.t 19 true)⟩]
abbrev c87r2 : List GOp := [⟨none, (some 20), .mv 20 (.t 9 false)⟩,
  ⟨none, (some 21), .un 21 .not (.t 20 false)⟩]
abbrev c87r3 : List GOp := [⟨none, (some 6), .mv 6 (.c (.str []))⟩,
  ⟨none, (some 7), .mv 7 (.c (.bool true))⟩]
abbrev c87s4 : ACode := (.seq (.reg c87r3 [6, 7]) .ret)
abbrev c87s5 : ACode := (.cond (.t 21 false) c87s4 .skip)
abbrev c87r6 : List GOp := [⟨none, (some 23), .bload 23 3 none (some 4) false⟩,
  ⟨none, (some 24), .mv 24 (.t 1 false)⟩,
  ⟨none, (some 25), .call (some 25) 84 [(.t 23 false), (.t 24 false), (.c (.str []))]⟩,
  ⟨none, (some 22), .mv 22 (.t 25 true)⟩,
  ⟨none, (some 26), .extract 26 (.t 22 false) 0⟩,
  ⟨none, (some 27), .extract 27 (.t 22 false) 1⟩,
  ⟨none, (some 10), .mv 10 (.t 26 true)⟩,
  ⟨none, (some 11), .mv 11 (.t 27 true)⟩]
abbrev c87r7 : List GOp := [⟨none, (some 29), .mv 29 (.t 10 false)⟩,
  ⟨none, (some 30), .call (some 30) 113 [(.t 29 false)]⟩,
  ⟨none, (some 28), .mv 28 (.t 30 true)⟩,
  ⟨none, (some 31), .extract 31 (.t 28 false) 0⟩,
  ⟨none, (some 32), .extract 32 (.t 28 false) 1⟩,
  ⟨none, (some 12), .mv 12 (.t 31 true)⟩,
  ⟨none, (some 13), .mv 13 (.t 32 true)⟩]
abbrev c87r8 : List GOp := [⟨none, (some 33), .mv 33 (.t 12 false)⟩,
  ⟨none, (some 34), .call (some 34) 114 [(.t 33 false)]⟩,
  ⟨none, (some 35), .mv 35 (.t 11 false)⟩,
  ⟨none, (some 36), .mv 36 (.t 35 true)⟩,
  ⟨(some (36, true)), (some 37), .mv 37 (.t 13 false)⟩,
  ⟨(some (36, true)), (some 38), .bin 38 .eql false (.t 37 false) (.c (.int .i64 0))⟩,
  ⟨none, (some 39), .pick 39 (.t 36 false) (.t 38 false) (.c (.bool false))⟩,
  ⟨none, (some 40), .mv 40 (.t 39 true)⟩,
  ⟨(some (40, true)), (some 41), .mv 41 (.t 12 false)⟩,
  ⟨(some (40, true)), (some 42), .mv 42 (.t 2 false)⟩,
  ⟨(some (40, true)), (some 43), .bin 43 .geq false (.t 41 false) (.t 42 false)⟩,
  ⟨none, (some 44), .pick 44 (.t 40 false) (.t 43 false) (.c (.bool false))⟩,
  ⟨none, (some 6), .mv 6 (.t 34 true)⟩,
  ⟨none, (some 7), .mv 7 (.t 44 true)⟩]
abbrev c87s9 : ACode := (.seq (.reg c87r8 [6, 7]) .ret)
abbrev c87s10 : ACode := (.seq (.reg c87r7 [12, 13]) c87s9)
abbrev c87s11 : ACode := (.seq (.reg c87r6 [10, 11]) c87s10)
abbrev c87s12 : ACode := (.seq (.seq (.reg c87r2 [21]) c87s5) c87s11)
abbrev c87s13 : ACode := (.seq (.reg c87r1 [8, 9]) c87s12)
abbrev c87 : ACode := (.seq (.reg c87r0 [3, 6, 7]) c87s13)
def a87 : AFn := ⟨[3, 8], [0, 1, 2, 3, 6, 7, 8, 9, 10, 11, 12, 13, 21], [17, 18, 19, 25, 26, 27, 30, 31, 32, 34, 35, 39, 44], [], [], [], [], [], c87, [.tmp 6, .tmp 7]⟩
theorem is87 : IsFn Tryz.prog 87 3 a87 := isFn_of mix Tryz.func87 (by kernel_rfl) (by kernel_rfl) (by kernel_rfl) (by kernel_rfl) (by kernel_rfl)
theorem sound87 {args : List AV} {r : AV} (hl : args.length = 3) (h : awp Tryz.prog c87 (unw Tryz.prog [] (Ends [.tmp 6, .tmp 7] r)) (initSt args)) : Sound Tryz.prog 87 args r := sound_of is87 hl h
theorem total87 {args : List AV} {Φ : AV → Prop} (hl : args.length = 3) (h : awp Tryz.prog c87 (unw Tryz.prog [] (EndsP [.tmp 6, .tmp 7] Φ)) (initSt args)) : Total Tryz.prog 87 args Φ := total_of is87 hl h

/-! longshore/longshoreref18.number -/
abbrev c88r0 : List GOp := [⟨none, (some 2), .bbox 2 (.t 0 false)⟩,
  ⟨none, (some 4), .mv 4 (.c (.int .i64 0))⟩,
  ⟨none, (some 5), .mv 5 (.c (.bool false))⟩]
abbrev c88r1 : List GOp := [⟨none, (some 13), .bload 13 2 none (some 4) false⟩,
  ⟨none, (some 14), .mv 14 (.t 1 false)⟩,
  ⟨none, (some 15), .call (some 15) 40 [(.t 13 false), (.t 14 false)]⟩,
  ⟨none, (some 12), .mv 12 (.t 15 true)⟩,
  ⟨none, (some 16), .extract 16 (.t 12 false) 0⟩,
  ⟨none, (some 17), .extract 17 (.t 12 false) 1⟩,
  ⟨none, (some 6), .balloc 6 (.agg [(.int .i64 0), (.str []), (.oslice 1 []), (.oslice 4 [])])⟩,
  ⟨none, none, .bstore 6 none (.t 16 true) 4⟩,
  ⟨none, (some 7), .mv 7 (.t 17 true)⟩]
abbrev c88r2 : List GOp := [⟨none, (some 18), .mv 18 (.t 7 false)⟩,
  ⟨none, (some 19), .un 19 .not (.t 18 false)⟩]
abbrev c88r3 : List GOp := [⟨none, (some 4), .mv 4 (.c (.int .i64 0))⟩,
  ⟨none, (some 5), .mv 5 (.c (.bool true))⟩]
abbrev c88s4 : ACode := (.seq (.reg c88r3 [4, 5]) .ret)
abbrev c88s5 : ACode := (.cond (.t 19 false) c88s4 .skip)
abbrev c88r6 : List GOp := [⟨none, (some 21), .bload 21 2 none (some 4) false⟩,
  ⟨none, (some 22), .mv 22 (.t 1 false)⟩,
  ⟨none, (some 23), .call (some 23) 84 [(.t 21 false), (.t 22 false), (.c (.str []))]⟩,
  ⟨none, (some 20), .mv 20 (.t 23 true)⟩,
  ⟨none, (some 24), .extract 24 (.t 20 false) 0⟩,
  ⟨none, (some 25), .extract 25 (.t 20 false) 1⟩,
  ⟨none, (some 8), .mv 8 (.t 24 true)⟩,
  ⟨none, (some 9), .mv 9 (.t 25 true)⟩]
abbrev c88r7 : List GOp := [⟨none, (some 27), .mv 27 (.t 8 false)⟩,
  ⟨none, (some 28), .call (some 28) 75 [(.t 27 false), (.c (.int .i64 65536))]⟩,
  ⟨none, (some 26), .mv 26 (.t 28 true)⟩,
  ⟨none, (some 29), .extract 29 (.t 26 false) 0⟩,
  ⟨none, (some 30), .extract 30 (.t 26 false) 1⟩,
  ⟨none, (some 10), .mv 10 (.t 29 true)⟩,
  ⟨none, (some 11), .mv 11 (.t 30 true)⟩]
abbrev c88r8 : List GOp := [⟨none, (some 31), .mv 31 (.t 10 false)⟩,
  ⟨none, (some 32), .mv 32 (.t 9 false)⟩,
  ⟨none, (some 33), .mv 33 (.t 32 true)⟩,
  ⟨(some (33, true)), (some 34), .mv 34 (.t 11 false)⟩,
  ⟨(some (33, true)), (some 35), .bin 35 .eql false (.t 34 false) (.c (.int .i64 0))⟩,
  ⟨none, (some 36), .pick 36 (.t 33 false) (.t 35 false) (.c (.bool false))⟩,
  ⟨none, (some 37), .mv 37 (.t 36 true)⟩,
  ⟨(some (37, true)), (some 38), .mv 38 (.t 10 false)⟩,
  ⟨(some (37, true)), (some 39), .bin 39 .gtr false (.t 38 false) (.c (.int .i64 0))⟩,
  ⟨none, (some 40), .pick 40 (.t 37 false) (.t 39 false) (.c (.bool false))⟩,
  ⟨none, (some 4), .mv 4 (.t 31 true)⟩,
  ⟨none, (some 5), .mv 5 (.t 40 true)⟩]
abbrev c88s9 : ACode := (.seq (.reg c88r8 [4, 5]) .ret)
abbrev c88s10 : ACode := (.seq (.reg c88r7 [10, 11]) c88s9)
abbrev c88s11 : ACode := (.seq (.reg c88r6 [8, 9]) c88s10)
abbrev c88s12 : ACode := (.seq (.seq (.reg c88r2 [19]) c88s5) c88s11)
abbrev c88s13 : ACode := (.seq (.reg c88r1 [6, 7]) c88s12)
abbrev c88 : ACode := (.seq (.reg c88r0 [2, 4, 5]) c88s13)
def a88 : AFn := ⟨[2, 6], [0, 1, 2, 4, 5, 6, 7, 8, 9, 10, 11, 19], [15, 16, 17, 23, 24, 25, 28, 29, 30, 31, 32, 36, 40], [], [], [], [], [], c88, [.tmp 4, .tmp 5]⟩
theorem is88 : IsFn Tryz.prog 88 2 a88 := isFn_of mix Tryz.func88 (by kernel_rfl) (by kernel_rfl) (by kernel_rfl) (by kernel_rfl) (by kernel_rfl)
theorem sound88 {args : List AV} {r : AV} (hl : args.length = 2) (h : awp Tryz.prog c88 (unw Tryz.prog [] (Ends [.tmp 4, .tmp 5] r)) (initSt args)) : Sound Tryz.prog 88 args r := sound_of is88 hl h
theorem total88 {args : List AV} {Φ : AV → Prop} (hl : args.length = 2) (h : awp Tryz.prog c88 (unw Tryz.prog [] (EndsP [.tmp 4, .tmp 5] Φ)) (initSt args)) : Total Tryz.prog 88 args Φ := total_of is88 hl h

end Go.Proofs.YtccmaeefedgcnaaGreat
