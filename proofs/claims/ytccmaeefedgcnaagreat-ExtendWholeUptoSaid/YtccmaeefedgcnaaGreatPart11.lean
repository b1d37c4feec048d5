/-
  FUNCTIONS IN THEIR COMPILED FORM (printed by a program of ours), each held against the loaded program by the kernel.
-/
import Derived.Test.YtccmaeefedgcnaaGreatPart06
set_option linter.all false

namespace Go.Proofs.YtccmaeefedgcnaaGreat

/-! longshore/longshorelaw21.ExtendWhole -/
abbrev c3r0 : List GOp := [⟨none, (some 6), .mv 6 (.c (.bool false))⟩]
abbrev c3r1 : List GOp := [⟨none, (some 18), .mv 18 (.t 0 false)⟩,
  ⟨none, (some 19), .call (some 19) 4 [(.t 18 false)]⟩,
  ⟨none, (some 17), .mv 17 (.t 19 true)⟩,
  ⟨none, (some 20), .extract 20 (.t 17 false) 0⟩,
  ⟨none, (some 21), .extract 21 (.t 17 false) 1⟩,
  ⟨none, (some 22), .extract 22 (.t 17 false) 2⟩,
  ⟨none, (some 7), .mv 7 (.t 20 true)⟩,
  ⟨none, (some 8), .mv 8 (.t 21 true)⟩,
  ⟨none, (some 9), .mv 9 (.t 22 true)⟩]
abbrev c3r2 : List GOp := [⟨none, (some 23), .mv 23 (.t 9 false)⟩,
  ⟨none, (some 24), .un 24 .not (.t 23 false)⟩]
abbrev c3r3 : List GOp := [⟨none, (some 25), .call (some 25) 5 []⟩,
  ⟨none, (some 6), .mv 6 (.t 25 true)⟩]
abbrev c3s4 : ACode := (.seq (.reg c3r3 [6]) .ret)
abbrev c3s5 : ACode := (.cond (.t 24 false) c3s4 .skip)
abbrev c3r6 : List GOp := [⟨none, (some 27), .mv 27 (.t 8 false)⟩,
  ⟨none, (some 28), .mv 28 (.t 1 false)⟩,
  ⟨none, (some 29), .mv 29 (.t 2 false)⟩,
  ⟨none, (some 30), .call (some 30) 6 [(.t 27 false), (.t 28 false), (.t 29 false)]⟩,
  ⟨none, (some 26), .mv 26 (.t 30 true)⟩,
  ⟨none, (some 31), .extract 31 (.t 26 false) 0⟩,
  ⟨none, (some 32), .extract 32 (.t 26 false) 1⟩,
  ⟨none, (some 10), .balloc 10 (.agg [(.int .i64 0), (.str []), (.oslice 1 []), (.oslice 4 [])])⟩,
  ⟨none, none, .bstore 10 none (.t 31 true) 4⟩,
  ⟨none, (some 11), .mv 11 (.t 32 true)⟩]
abbrev c3r7 : List GOp := [⟨none, (some 34), .mv 34 (.t 7 false)⟩,
  ⟨none, (some 35), .mv 35 (.t 1 false)⟩,
  ⟨none, (some 36), .mv 36 (.t 2 false)⟩,
  ⟨none, (some 37), .build 37 [(.str []), (.str [])] [(0, 1, (.t 35 false)), (1, 1, (.t 36 false))]⟩,
  ⟨none, (some 38), .call (some 38) 7 [(.t 34 false), (.t 37 false)]⟩,
  ⟨none, (some 33), .mv 33 (.t 38 true)⟩,
  ⟨none, (some 39), .extract 39 (.t 33 false) 0⟩,
  ⟨none, (some 40), .extract 40 (.t 33 false) 1⟩,
  ⟨none, (some 12), .balloc 12 (.agg [(.int .i64 0), (.str []), (.oslice 1 []), (.oslice 4 [])])⟩,
  ⟨none, none, .bstore 12 none (.t 39 true) 4⟩,
  ⟨none, (some 13), .mv 13 (.t 40 true)⟩]
abbrev c3r8 : List GOp := [⟨none, (some 41), .mv 41 (.t 8 false)⟩,
  ⟨none, (some 42), .mv 42 (.t 1 false)⟩,
  ⟨none, (some 43), .mv 43 (.t 2 false)⟩,
  ⟨none, (some 44), .call (some 44) 8 [(.t 41 false), (.t 42 false), (.t 43 false)]⟩,
  ⟨none, (some 45), .mv 45 (.t 7 false)⟩,
  ⟨none, (some 46), .mv 46 (.t 1 false)⟩,
  ⟨none, (some 47), .mv 47 (.t 2 false)⟩,
  ⟨none, (some 48), .build 48 [(.str []), (.str [])] [(0, 1, (.t 46 false)), (1, 1, (.t 47 false))]⟩,
  ⟨none, (some 49), .call (some 49) 9 [(.t 45 false), (.t 48 false)]⟩,
  ⟨none, (some 14), .mv 14 (.t 44 true)⟩,
  ⟨none, (some 15), .mv 15 (.t 49 true)⟩]
abbrev c3r9 : List GOp := [⟨none, (some 50), .bload 50 10 none (some 4) false⟩,
  ⟨none, (some 51), .bload 51 12 none (some 4) false⟩,
  ⟨none, (some 52), .call (some 52) 10 [(.t 50 false), (.t 51 false)]⟩,
  ⟨none, (some 53), .un 53 .not (.t 52 false)⟩,
  ⟨none, (some 54), .mv 54 (.t 53 true)⟩,
  ⟨(some (54, false)), (some 55), .mv 55 (.t 11 false)⟩,
  ⟨(some (54, false)), (some 56), .mv 56 (.t 13 false)⟩,
  ⟨(some (54, false)), (some 57), .bin 57 .neq false (.t 55 false) (.t 56 false)⟩,
  ⟨none, (some 58), .pick 58 (.t 54 false) (.c (.bool true)) (.t 57 false)⟩,
  ⟨none, (some 59), .mv 59 (.t 58 true)⟩,
  ⟨(some (59, false)), (some 60), .mv 60 (.t 14 false)⟩,
  ⟨(some (59, false)), (some 61), .len 61 false (.t 60 false)⟩,
  ⟨(some (59, false)), (some 62), .mv 62 (.t 15 false)⟩,
  ⟨(some (59, false)), (some 63), .len 63 false (.t 62 false)⟩,
  ⟨(some (59, false)), (some 64), .bin 64 .neq false (.t 61 false) (.t 63 false)⟩,
  ⟨none, (some 65), .pick 65 (.t 59 false) (.c (.bool true)) (.t 64 false)⟩]
abbrev c3r10 : List GOp := [⟨none, (some 6), .mv 6 (.c (.bool false))⟩]
abbrev c3s11 : ACode := (.seq (.reg c3r10 [6]) .ret)
abbrev c3s12 : ACode := (.cond (.t 65 false) c3s11 .skip)
abbrev c3r13 : List GOp := [⟨none, (some 16), .mv 16 (.c (.int .i64 0))⟩]
abbrev c3r14 : List GOp := [⟨none, (some 66), .mv 66 (.t 16 false)⟩,
  ⟨none, (some 67), .mv 67 (.t 14 false)⟩,
  ⟨none, (some 68), .len 68 false (.t 67 false)⟩,
  ⟨none, (some 69), .bin 69 .lss false (.t 66 false) (.t 68 false)⟩]
abbrev c3s15 : ACode := (.cond (.t 69 false) .skip (.exit 0))
abbrev c3r16 : List GOp := [⟨none, (some 72), .mv 72 (.t 14 false)⟩,
  ⟨none, (some 73), .mv 73 (.t 16 false)⟩,
  ⟨none, (some 74), .idx 74 (.t 72 false) (.t 73 false) 2⟩,
  ⟨none, (some 75), .vload 75 74 (some 2)⟩,
  ⟨none, (some 76), .mv 76 (.t 15 false)⟩,
  ⟨none, (some 77), .mv 77 (.t 16 false)⟩,
  ⟨none, (some 78), .idx 78 (.t 76 false) (.t 77 false) 2⟩,
  ⟨none, (some 79), .vload 79 78 (some 2)⟩,
  ⟨none, (some 80), .aeq 80 true (.t 75 false) (.t 79 false) [(.str []), (.str [])]⟩]
abbrev c3r17 : List GOp := [⟨none, (some 6), .mv 6 (.c (.bool false))⟩]
abbrev c3s18 : ACode := (.seq (.reg c3r17 [6]) .ret)
abbrev c3s19 : ACode := (.cond (.t 80 false) c3s18 .skip)
abbrev c3s20 : ACode := (.seq (.reg c3r16 [80]) c3s19)
abbrev c3r21 : List GOp := [⟨none, (some 70), .mv 70 (.t 16 false)⟩,
  ⟨none, (some 71), .bin 71 .add false (.t 70 false) (.c (.int .i64 1))⟩,
  ⟨none, (some 16), .mv 16 (.t 71 true)⟩]
abbrev c3s22 : ACode := (.seq (.block 1 c3s20) (.reg c3r21 [16]))
abbrev c3s23 : ACode := (.seq (.seq (.reg c3r14 [69]) c3s15) c3s22)
abbrev c3s24 : ACode := (.loop c3s23)
abbrev c3s25 : ACode := (.block 0 c3s24)
abbrev c3r26 : List GOp := [⟨none, (some 81), .call (some 81) 5 []⟩,
  ⟨none, (some 6), .mv 6 (.t 81 true)⟩]
abbrev c3s27 : ACode := (.seq (.reg c3r26 [6]) .ret)
abbrev c3s28 : ACode := (.seq (.seq (.reg c3r13 [16]) c3s25) c3s27)
abbrev c3s29 : ACode := (.seq (.seq (.reg c3r9 [65]) c3s12) c3s28)
abbrev c3s30 : ACode := (.seq (.reg c3r8 [14, 15]) c3s29)
abbrev c3s31 : ACode := (.seq (.reg c3r7 [12, 13]) c3s30)
abbrev c3s32 : ACode := (.seq (.reg c3r6 [10, 11]) c3s31)
abbrev c3s33 : ACode := (.seq (.seq (.reg c3r2 [24]) c3s5) c3s32)
abbrev c3s34 : ACode := (.seq (.reg c3r1 [7, 8, 9]) c3s33)
abbrev c3 : ACode := (.seq (.reg c3r0 [6]) c3s34)
def a3 : AFn := ⟨[10, 12], [0, 1, 2, 6, 7, 8, 9, 10, 11, 12, 13, 14, 15, 16, 24, 65, 69, 80], [19, 20, 21, 22, 25, 30, 31, 32, 38, 39, 40, 44, 49, 53, 58, 71, 81], [], [], [], [], [], c3, [.tmp 6]⟩
theorem is3 : IsFn Tryz.prog 3 3 a3 := isFn_of mix Tryz.func3 (by kernel_rfl) (by kernel_rfl) (by kernel_rfl) (by kernel_rfl) (by kernel_rfl)
theorem sound3 {args : List AV} {r : AV} (hl : args.length = 3) (h : awp Tryz.prog c3 (unw Tryz.prog [] (Ends [.tmp 6] r)) (initSt args)) : Sound Tryz.prog 3 args r := sound_of is3 hl h
theorem total3 {args : List AV} {Φ : AV → Prop} (hl : args.length = 3) (h : awp Tryz.prog c3 (unw Tryz.prog [] (EndsP [.tmp 6] Φ)) (initSt args)) : Total Tryz.prog 3 args Φ := total_of is3 hl h

/-! longshore/longshorelaw21.formed -/
abbrev c4r0 : List GOp := [⟨none, (some 2), .mv 2 (.c (.oslice 5 []))⟩,
  ⟨none, (some 3), .mv 3 (.c (.oslice 5 []))⟩,
  ⟨none, (some 4), .mv 4 (.c (.bool false))⟩]
abbrev c4r1 : List GOp := [⟨none, (some 9), .mv 9 (.t 0 false)⟩,
  ⟨none, (some 10), .len 10 false (.t 9 false)⟩,
  ⟨none, (some 11), .bin 11 .gtr false (.t 10 false) (.c (.int .i64 5))⟩]
abbrev c4r2 : List GOp := [⟨none, (some 2), .mv 2 (.c (.oslice 5 []))⟩,
  ⟨none, (some 3), .mv 3 (.c (.oslice 5 []))⟩,
  ⟨none, (some 4), .mv 4 (.c (.bool false))⟩]
abbrev c4s3 : ACode := (.seq (.reg c4r2 [2, 3, 4]) .ret)
abbrev c4s4 : ACode := (.cond (.t 11 false) c4s3 .skip)
abbrev c4r5 : List GOp := [⟨none, (some 5), .mv 5 (.c (.oslice 5 []))⟩]
abbrev c4r6 : List GOp := [⟨none, (some 6), .mv 6 (.c (.oslice 5 []))⟩]
abbrev c4r7 : List GOp := [⟨none, (some 7), .mv 7 (.c (.int .i64 0))⟩]
abbrev c4r8 : List GOp := [⟨none, (some 12), .mv 12 (.t 7 false)⟩,
  ⟨none, (some 13), .mv 13 (.t 0 false)⟩,
  ⟨none, (some 14), .len 14 false (.t 13 false)⟩,
  ⟨none, (some 15), .bin 15 .lss false (.t 12 false) (.t 14 false)⟩]
abbrev c4s9 : ACode := (.cond (.t 15 false) .skip (.exit 0))
abbrev c4r10 : List GOp := [⟨none, (some 18), .mv 18 (.t 0 false)⟩,
  ⟨none, (some 19), .mv 19 (.t 7 false)⟩,
  ⟨none, (some 20), .idx 20 (.t 18 false) (.t 19 false) 5⟩,
  ⟨none, (some 21), .paddr 21 20 none 1⟩,
  ⟨none, (some 22), .vload 22 21 (some 4)⟩,
  ⟨none, (some 23), .call (some 23) 11 [(.t 22 false), (.c (.int .i64 200))]⟩,
  ⟨none, (some 24), .un 24 .not (.t 23 false)⟩,
  ⟨none, (some 25), .mv 25 (.t 24 true)⟩,
  ⟨(some (25, false)), (some 26), .mv 26 (.t 0 false)⟩,
  ⟨(some (25, false)), (some 27), .mv 27 (.t 7 false)⟩,
  ⟨(some (25, false)), (some 28), .idx 28 (.t 26 false) (.t 27 false) 5⟩,
  ⟨(some (25, false)), (some 29), .paddr 29 28 none 0⟩,
  ⟨(some (25, false)), (some 30), .vload 30 29 none⟩,
  ⟨(some (25, false)), (some 31), .len 31 true (.t 30 false)⟩,
  ⟨(some (25, false)), (some 32), .bin 32 .gtr false (.t 31 false) (.c (.int .i64 100))⟩,
  ⟨none, (some 33), .pick 33 (.t 25 false) (.c (.bool true)) (.t 32 false)⟩]
abbrev c4r11 : List GOp := [⟨none, (some 2), .mv 2 (.c (.oslice 5 []))⟩,
  ⟨none, (some 3), .mv 3 (.c (.oslice 5 []))⟩,
  ⟨none, (some 4), .mv 4 (.c (.bool false))⟩]
abbrev c4s12 : ACode := (.seq (.reg c4r11 [2, 3, 4]) .ret)
abbrev c4s13 : ACode := (.cond (.t 33 false) c4s12 .skip)
abbrev c4r14 : List GOp := [⟨none, (some 34), .mv 34 (.t 0 false)⟩,
  ⟨none, (some 35), .mv 35 (.t 7 false)⟩,
  ⟨none, (some 36), .idx 36 (.t 34 false) (.t 35 false) 5⟩,
  ⟨none, (some 37), .paddr 37 36 none 1⟩,
  ⟨none, (some 38), .vload 38 37 (some 4)⟩,
  ⟨none, (some 39), .call (some 39) 12 [(.t 38 false)]⟩,
  ⟨none, (some 8), .balloc 8 (.agg [(.int .i64 0), (.str []), (.oslice 1 []), (.oslice 4 []), (.str []), (.int .i64 0)])⟩,
  ⟨none, none, .bstore 8 none (.t 39 true) 6⟩]
abbrev c4r15 : List GOp := [⟨none, (some 40), .baddr 40 8 5⟩,
  ⟨none, (some 41), .bload 41 8 (some 40) none false⟩,
  ⟨none, (some 42), .bin 42 .neq false (.t 41 false) (.c (.int .i64 0))⟩]
abbrev c4r16 : List GOp := [⟨none, (some 2), .mv 2 (.c (.oslice 5 []))⟩,
  ⟨none, (some 3), .mv 3 (.c (.oslice 5 []))⟩,
  ⟨none, (some 4), .mv 4 (.c (.bool false))⟩]
abbrev c4s17 : ACode := (.seq (.reg c4r16 [2, 3, 4]) .ret)
abbrev c4s18 : ACode := (.cond (.t 42 false) c4s17 .skip)
abbrev c4r19 : List GOp := [⟨none, (some 43), .take 43 5⟩,
  ⟨none, (some 44), .mv 44 (.t 0 false)⟩,
  ⟨none, (some 45), .mv 45 (.t 7 false)⟩,
  ⟨none, (some 46), .idx 46 (.t 44 false) (.t 45 false) 5⟩,
  ⟨none, (some 47), .paddr 47 46 none 0⟩,
  ⟨none, (some 48), .vload 48 47 none⟩,
  ⟨none, (some 49), .baddr 49 8 0⟩,
  ⟨none, (some 50), .bload 50 8 (some 49) (some 4) false⟩,
  ⟨none, (some 51), .build 51 [(.str []), (.int .i64 0), (.str []), (.oslice 1 []), (.oslice 4 [])] [(0, 1, (.t 48 false)), (1, 4, (.t 50 false))]⟩,
  ⟨none, (some 52), .mkslice 52 5 [(.t 51 false)]⟩,
  ⟨none, (some 53), .append 53 (.t 43 true) (.t 52 false) 5 88⟩,
  ⟨none, (some 5), .mv 5 (.t 53 true)⟩]
abbrev c4r20 : List GOp := [⟨none, (some 54), .take 54 6⟩,
  ⟨none, (some 55), .mv 55 (.t 0 false)⟩,
  ⟨none, (some 56), .mv 56 (.t 7 false)⟩,
  ⟨none, (some 57), .idx 57 (.t 55 false) (.t 56 false) 5⟩,
  ⟨none, (some 58), .paddr 58 57 none 0⟩,
  ⟨none, (some 59), .vload 59 58 none⟩,
  ⟨none, (some 60), .baddr 60 8 0⟩,
  ⟨none, (some 61), .bload 61 8 (some 60) (some 4) false⟩,
  ⟨none, (some 62), .build 62 [(.str []), (.int .i64 0), (.str []), (.oslice 1 []), (.oslice 4 [])] [(0, 1, (.t 59 false)), (1, 4, (.t 61 false))]⟩,
  ⟨none, (some 63), .mkslice 63 5 [(.t 62 false)]⟩,
  ⟨none, (some 64), .append 64 (.t 54 true) (.t 63 false) 5 88⟩,
  ⟨none, (some 6), .mv 6 (.t 64 true)⟩]
abbrev c4s21 : ACode := (.seq (.reg c4r19 [5]) (.reg c4r20 [6]))
abbrev c4s22 : ACode := (.seq (.seq (.reg c4r15 [42]) c4s18) c4s21)
abbrev c4s23 : ACode := (.seq (.reg c4r14 [8]) c4s22)
abbrev c4s24 : ACode := (.seq (.seq (.reg c4r10 [33]) c4s13) c4s23)
abbrev c4r25 : List GOp := [⟨none, (some 16), .mv 16 (.t 7 false)⟩,
  ⟨none, (some 17), .bin 17 .add false (.t 16 false) (.c (.int .i64 1))⟩,
  ⟨none, (some 7), .mv 7 (.t 17 true)⟩]
abbrev c4s26 : ACode := (.seq (.block 1 c4s24) (.reg c4r25 [7]))
abbrev c4s27 : ACode := (.seq (.seq (.reg c4r8 [15]) c4s9) c4s26)
abbrev c4s28 : ACode := (.loop c4s27)
abbrev c4s29 : ACode := (.block 0 c4s28)
abbrev c4r30 : List GOp := [⟨none, (some 65), .mv 65 (.t 5 false)⟩,
  ⟨none, (some 66), .mv 66 (.t 6 false)⟩,
  ⟨none, (some 2), .mv 2 (.t 65 true)⟩,
  ⟨none, (some 3), .mv 3 (.t 66 true)⟩,
  ⟨none, (some 4), .mv 4 (.c (.bool true))⟩]
abbrev c4s31 : ACode := (.seq (.reg c4r30 [2, 3, 4]) .ret)
abbrev c4s32 : ACode := (.seq (.seq (.reg c4r7 [7]) c4s29) c4s31)
abbrev c4s33 : ACode := (.seq (.reg c4r6 [6]) c4s32)
abbrev c4s34 : ACode := (.seq (.reg c4r5 [5]) c4s33)
abbrev c4s35 : ACode := (.seq (.seq (.reg c4r1 [11]) c4s4) c4s34)
abbrev c4 : ACode := (.seq (.reg c4r0 [2, 3, 4]) c4s35)
def a4 : AFn := ⟨[8], [0, 2, 3, 4, 5, 6, 7, 8, 11, 15, 33, 42], [17, 24, 39, 43, 53, 54, 64, 65, 66], [43, 54], [(60, 8), (49, 8), (40, 8)], [(60, 0), (49, 0), (40, 5)], [], [], c4, [.tmp 2, .tmp 3, .tmp 4]⟩
theorem is4 : IsFn Tryz.prog 4 1 a4 := isFn_of mix Tryz.func4 (by kernel_rfl) (by kernel_rfl) (by kernel_rfl) (by kernel_rfl) (by kernel_rfl)
theorem sound4 {args : List AV} {r : AV} (hl : args.length = 1) (h : awp Tryz.prog c4 (unw Tryz.prog [] (Ends [.tmp 2, .tmp 3, .tmp 4] r)) (initSt args)) : Sound Tryz.prog 4 args r := sound_of is4 hl h
theorem total4 {args : List AV} {Φ : AV → Prop} (hl : args.length = 1) (h : awp Tryz.prog c4 (unw Tryz.prog [] (EndsP [.tmp 2, .tmp 3, .tmp 4] Φ)) (initSt args)) : Total Tryz.prog 4 args Φ := total_of is4 hl h

/-! longshore/longshorelaw21.awake -/
abbrev c5r0 : List GOp := [⟨none, (some 0), .mv 0 (.c (.bool false))⟩]
abbrev c5r1 : List GOp := [⟨none, (some 6), .call (some 6) 14 [(.c (.str [97]))]⟩,
  ⟨none, (some 7), .call (some 7) 13 [(.c (.str [115, 101, 114, 118, 105, 99, 101])), (.t 6 false)]⟩,
  ⟨none, (some 8), .call (some 8) 13 [(.c (.str [101, 120, 116, 101, 110, 100, 115])), (.t 7 false)]⟩,
  ⟨none, (some 9), .call (some 9) 13 [(.c (.str [97])), (.t 8 false)]⟩,
  ⟨none, (some 10), .call (some 10) 13 [(.c (.str [115, 101, 114, 118, 105, 99, 101, 115])), (.t 9 false)]⟩,
  ⟨none, (some 11), .build 11 [(.str []), (.int .i64 0), (.str []), (.oslice 1 []), (.oslice 4 [])] [(0, 1, (.c (.str [102]))), (1, 4, (.t 10 false))]⟩,
  ⟨none, (some 12), .mkslice 12 5 [(.t 11 false)]⟩,
  ⟨none, (some 1), .mv 1 (.t 12 true)⟩]
abbrev c5r2 : List GOp := [⟨none, (some 14), .mv 14 (.t 1 false)⟩,
  ⟨none, (some 15), .call (some 15) 6 [(.t 14 false), (.c (.str [102])), (.c (.str [97]))]⟩,
  ⟨none, (some 13), .mv 13 (.t 15 true)⟩,
  ⟨none, (some 16), .extract 16 (.t 13 false) 0⟩,
  ⟨none, (some 17), .extract 17 (.t 13 false) 1⟩,
  ⟨none, (some 2), .balloc 2 (.agg [(.int .i64 0), (.str []), (.oslice 1 []), (.oslice 4 [])])⟩,
  ⟨none, none, .bstore 2 none (.t 16 true) 4⟩,
  ⟨none, (some 3), .mv 3 (.t 17 true)⟩]
abbrev c5r3 : List GOp := [⟨none, (some 19), .mv 19 (.t 1 false)⟩,
  ⟨none, (some 20), .call (some 20) 6 [(.t 19 false), (.c (.str [102])), (.c (.str [98]))]⟩,
  ⟨none, (some 18), .mv 18 (.t 20 true)⟩,
  ⟨none, (some 21), .extract 21 (.t 18 false) 0⟩,
  ⟨none, (some 22), .extract 22 (.t 18 false) 1⟩,
  ⟨none, (some 4), .balloc 4 (.agg [(.int .i64 0), (.str []), (.oslice 1 []), (.oslice 4 [])])⟩,
  ⟨none, none, .bstore 4 none (.t 21 true) 4⟩,
  ⟨none, (some 5), .mv 5 (.t 22 true)⟩]
abbrev c5r4 : List GOp := [⟨none, (some 23), .mv 23 (.t 3 false)⟩,
  ⟨none, (some 24), .bin 24 .eql false (.t 23 false) (.c (.int .i64 5))⟩,
  ⟨none, (some 25), .mv 25 (.t 24 true)⟩,
  ⟨(some (25, true)), (some 26), .mv 26 (.t 5 false)⟩,
  ⟨(some (25, true)), (some 27), .bin 27 .eql false (.t 26 false) (.c (.int .i64 7))⟩,
  ⟨none, (some 28), .pick 28 (.t 25 false) (.t 27 false) (.c (.bool false))⟩,
  ⟨none, (some 29), .mv 29 (.t 28 true)⟩,
  ⟨(some (29, true)), (some 30), .mv 30 (.t 1 false)⟩,
  ⟨(some (29, true)), (some 31), .call (some 31) 8 [(.t 30 false), (.c (.str [102])), (.c (.str [97]))]⟩,
  ⟨(some (29, true)), (some 32), .len 32 false (.t 31 false)⟩,
  ⟨(some (29, true)), (some 33), .bin 33 .eql false (.t 32 false) (.c (.int .i64 2))⟩,
  ⟨none, (some 34), .pick 34 (.t 29 false) (.t 33 false) (.c (.bool false))⟩,
  ⟨none, (some 0), .mv 0 (.t 34 true)⟩]
abbrev c5s5 : ACode := (.seq (.reg c5r4 [0]) .ret)
abbrev c5s6 : ACode := (.seq (.reg c5r3 [4, 5]) c5s5)
abbrev c5s7 : ACode := (.seq (.reg c5r2 [2, 3]) c5s6)
abbrev c5s8 : ACode := (.seq (.reg c5r1 [1]) c5s7)
abbrev c5 : ACode := (.seq (.reg c5r0 [0]) c5s8)
def a5 : AFn := ⟨[2, 4], [0, 1, 2, 3, 4, 5], [12, 15, 16, 17, 20, 21, 22, 24, 28, 34], [], [], [], [], [], c5, [.tmp 0]⟩
theorem is5 : IsFn Tryz.prog 5 0 a5 := isFn_of mix Tryz.func5 (by kernel_rfl) (by kernel_rfl) (by kernel_rfl) (by kernel_rfl) (by kernel_rfl)
theorem sound5 {args : List AV} {r : AV} (hl : args.length = 0) (h : awp Tryz.prog c5 (unw Tryz.prog [] (Ends [.tmp 0] r)) (initSt args)) : Sound Tryz.prog 5 args r := sound_of is5 hl h
theorem total5 {args : List AV} {Φ : AV → Prop} (hl : args.length = 0) (h : awp Tryz.prog c5 (unw Tryz.prog [] (EndsP [.tmp 0] Φ)) (initSt args)) : Total Tryz.prog 5 args Φ := total_of is5 hl h

/-! longshore/extend.One -/
abbrev c6r0 : List GOp := [⟨none, (some 6), .balloc 6 (.agg [(.int .i64 0), (.str []), (.oslice 1 []), (.oslice 4 [])])⟩,
  ⟨none, (some 7), .mv 7 (.c (.int .i64 0))⟩]
abbrev c6r1 : List GOp := [⟨none, (some 15), .mv 15 (.t 0 false)⟩,
  ⟨none, (some 16), .mv 16 (.t 1 false)⟩,
  ⟨none, (some 17), .mv 17 (.t 2 false)⟩,
  ⟨none, (some 18), .call (some 18) 15 [(.t 15 false), (.t 16 false), (.t 17 false)]⟩,
  ⟨none, (some 14), .mv 14 (.t 18 true)⟩,
  ⟨none, (some 19), .extract 19 (.t 14 false) 0⟩,
  ⟨none, (some 20), .extract 20 (.t 14 false) 1⟩,
  ⟨none, (some 21), .extract 21 (.t 14 false) 2⟩,
  ⟨none, (some 8), .mv 8 (.t 19 true)⟩,
  ⟨none, (some 9), .mv 9 (.t 20 true)⟩,
  ⟨none, (some 10), .mv 10 (.t 21 true)⟩]
abbrev c6r2 : List GOp := [⟨none, (some 22), .mv 22 (.t 10 false)⟩,
  ⟨none, (some 23), .bin 23 .neq false (.t 22 false) (.c (.int .i64 0))⟩]
abbrev c6r3 : List GOp := [⟨none, (some 24), .build 24 [(.int .i64 0), (.str []), (.oslice 1 []), (.oslice 4 [])] []⟩,
  ⟨none, (some 25), .mv 25 (.t 10 false)⟩,
  ⟨none, none, .bstore 6 none (.t 24 true) 4⟩,
  ⟨none, (some 7), .mv 7 (.t 25 true)⟩]
abbrev c6s4 : ACode := (.seq (.reg c6r3 [6, 7]) .ret)
abbrev c6s5 : ACode := (.cond (.t 23 false) c6s4 .skip)
abbrev c6r6 : List GOp := [⟨none, (some 11), .balloc 11 (.agg [(.int .i64 0), (.str []), (.oslice 1 []), (.oslice 4 [])])⟩]
abbrev c6r7 : List GOp := [⟨none, (some 26), .mv 26 (.t 9 false)⟩,
  ⟨none, (some 27), .len 27 false (.t 26 false)⟩,
  ⟨none, (some 28), .bin 28 .sub false (.t 27 false) (.c (.int .i64 1))⟩,
  ⟨none, (some 12), .mv 12 (.t 28 true)⟩]
abbrev c6r8 : List GOp := [⟨none, (some 29), .mv 29 (.t 12 false)⟩,
  ⟨none, (some 30), .bin 30 .geq false (.t 29 false) (.c (.int .i64 0))⟩]
abbrev c6s9 : ACode := (.cond (.t 30 false) .skip (.exit 0))
abbrev c6r10 : List GOp := [⟨none, (some 33), .mv 33 (.t 9 false)⟩,
  ⟨none, (some 34), .mv 34 (.t 12 false)⟩,
  ⟨none, (some 35), .idx 35 (.t 33 false) (.t 34 false) 4⟩,
  ⟨none, (some 36), .vload 36 35 (some 4)⟩,
  ⟨none, (some 13), .balloc 13 (.agg [(.int .i64 0), (.str []), (.oslice 1 []), (.oslice 4 [])])⟩,
  ⟨none, none, .bstore 13 none (.t 36 true) 4⟩]
abbrev c6r11 : List GOp := [⟨none, (some 37), .mv 37 (.t 12 false)⟩,
  ⟨none, (some 38), .bin 38 .add false (.t 37 false) (.c (.int .i64 1))⟩,
  ⟨none, (some 39), .mv 39 (.t 9 false)⟩,
  ⟨none, (some 40), .len 40 false (.t 39 false)⟩,
  ⟨none, (some 41), .bin 41 .eql false (.t 38 false) (.t 40 false)⟩]
abbrev c6r12 : List GOp := [⟨none, (some 42), .bload 42 13 none (some 4) false⟩,
  ⟨none, none, .bstore 11 none (.t 42 true) 4⟩]
abbrev c6s13 : ACode := (.seq (.reg c6r12 [11]) (.exit 1))
abbrev c6s14 : ACode := (.cond (.t 41 false) c6s13 .skip)
abbrev c6r15 : List GOp := [⟨none, (some 43), .bload 43 11 none (some 4) false⟩,
  ⟨none, (some 44), .bload 44 13 none (some 4) false⟩,
  ⟨none, (some 45), .call (some 45) 17 [(.t 44 false), (.c (.str [101, 120, 116, 101, 110, 100, 115]))]⟩,
  ⟨none, (some 46), .call (some 46) 16 [(.t 43 false), (.t 45 false)]⟩,
  ⟨none, none, .bstore 11 none (.t 46 true) 4⟩]
abbrev c6s16 : ACode := (.seq (.seq (.reg c6r11 [41]) c6s14) (.reg c6r15 [11]))
abbrev c6s17 : ACode := (.seq (.reg c6r10 [13]) c6s16)
abbrev c6r18 : List GOp := [⟨none, (some 31), .mv 31 (.t 12 false)⟩,
  ⟨none, (some 32), .bin 32 .sub false (.t 31 false) (.c (.int .i64 1))⟩,
  ⟨none, (some 12), .mv 12 (.t 32 true)⟩]
abbrev c6s19 : ACode := (.seq (.block 1 c6s17) (.reg c6r18 [12]))
abbrev c6s20 : ACode := (.seq (.seq (.reg c6r8 [30]) c6s9) c6s19)
abbrev c6s21 : ACode := (.loop c6s20)
abbrev c6s22 : ACode := (.block 0 c6s21)
abbrev c6r23 : List GOp := [⟨none, (some 47), .bload 47 11 none (some 4) false⟩,
  ⟨none, none, .bstore 6 none (.t 47 true) 4⟩,
  ⟨none, (some 7), .mv 7 (.c (.int .i64 0))⟩]
abbrev c6s24 : ACode := (.seq (.reg c6r23 [6, 7]) .ret)
abbrev c6s25 : ACode := (.seq (.seq (.reg c6r7 [12]) c6s22) c6s24)
abbrev c6s26 : ACode := (.seq (.reg c6r6 [11]) c6s25)
abbrev c6s27 : ACode := (.seq (.seq (.reg c6r2 [23]) c6s5) c6s26)
abbrev c6s28 : ACode := (.seq (.reg c6r1 [9, 10]) c6s27)
abbrev c6 : ACode := (.seq (.reg c6r0 [6, 7]) c6s28)
def a6 : AFn := ⟨[6, 11, 13], [0, 1, 2, 6, 7, 9, 10, 11, 12, 13, 23, 30, 41], [18, 19, 20, 21, 24, 25, 28, 32, 36, 42, 46, 47], [], [], [], [], [], c6, [.cell 6 (some 4), .tmp 7]⟩
theorem is6 : IsFn Tryz.prog 6 3 a6 := isFn_of mix Tryz.func6 (by kernel_rfl) (by kernel_rfl) (by kernel_rfl) (by kernel_rfl) (by kernel_rfl)
theorem sound6 {args : List AV} {r : AV} (hl : args.length = 3) (h : awp Tryz.prog c6 (unw Tryz.prog [] (Ends [.cell 6 (some 4), .tmp 7] r)) (initSt args)) : Sound Tryz.prog 6 args r := sound_of is6 hl h
theorem total6 {args : List AV} {Φ : AV → Prop} (hl : args.length = 3) (h : awp Tryz.prog c6 (unw Tryz.prog [] (EndsP [.cell 6 (some 4), .tmp 7] Φ)) (initSt args)) : Total Tryz.prog 6 args Φ := total_of is6 hl h

/-! longshore/longshoreref21.One -/
abbrev c7r0 : List GOp := [⟨none, (some 3), .bbox 3 (.t 1 false)⟩,
  ⟨none, (some 4), .balloc 4 (.agg [(.int .i64 0), (.str []), (.oslice 1 []), (.oslice 4 [])])⟩,
  ⟨none, (some 5), .mv 5 (.c (.int .i64 0))⟩]
abbrev c7r1 : List GOp := [⟨none, (some 14), .mv 14 (.t 0 false)⟩,
  ⟨none, (some 15), .bload 15 3 none (some 2) false⟩,
  ⟨none, (some 16), .call (some 16) 9 [(.t 14 false), (.t 15 false)]⟩,
  ⟨none, (some 6), .mv 6 (.t 16 true)⟩]
abbrev c7r2 : List GOp := [⟨none, (some 17), .mv 17 (.t 6 false)⟩,
  ⟨none, (some 18), .mv 18 (.t 6 false)⟩,
  ⟨none, (some 19), .len 19 false (.t 18 false)⟩,
  ⟨none, (some 20), .bin 20 .sub false (.t 19 false) (.c (.int .i64 1))⟩,
  ⟨none, (some 21), .idx 21 (.t 17 false) (.t 20 false) 2⟩,
  ⟨none, (some 22), .vload 22 21 (some 2)⟩,
  ⟨none, (some 7), .balloc 7 (.agg [(.str []), (.str [])])⟩,
  ⟨none, none, .bstore 7 none (.t 22 true) 2⟩]
abbrev c7r3 : List GOp := [⟨none, (some 8), .mv 8 (.c (.int .i64 0))⟩]
abbrev c7r4 : List GOp := [⟨none, (some 23), .mv 23 (.t 8 false)⟩,
  ⟨none, (some 24), .mv 24 (.t 6 false)⟩,
  ⟨none, (some 25), .len 25 false (.t 24 false)⟩,
  ⟨none, (some 26), .bin 26 .sub false (.t 25 false) (.c (.int .i64 1))⟩,
  ⟨none, (some 27), .bin 27 .lss false (.t 23 false) (.t 26 false)⟩]
abbrev c7s5 : ACode := (.cond (.t 27 false) .skip (.exit 0))
abbrev c7r6 : List GOp := [⟨none, (some 30), .mv 30 (.t 6 false)⟩,
  ⟨none, (some 31), .mv 31 (.t 8 false)⟩,
  ⟨none, (some 32), .idx 32 (.t 30 false) (.t 31 false) 2⟩,
  ⟨none, (some 33), .vload 33 32 (some 2)⟩,
  ⟨none, (some 34), .bload 34 7 none (some 2) false⟩,
  ⟨none, (some 35), .aeq 35 false (.t 33 false) (.t 34 false) [(.str []), (.str [])]⟩]
abbrev c7r7 : List GOp := [⟨none, (some 36), .build 36 [(.int .i64 0), (.str []), (.oslice 1 []), (.oslice 4 [])] []⟩,
  ⟨none, none, .bstore 4 none (.t 36 true) 4⟩,
  ⟨none, (some 5), .mv 5 (.c (.int .i64 5))⟩]
abbrev c7s8 : ACode := (.seq (.reg c7r7 [4, 5]) .ret)
abbrev c7s9 : ACode := (.cond (.t 35 false) c7s8 .skip)
abbrev c7s10 : ACode := (.seq (.reg c7r6 [35]) c7s9)
abbrev c7r11 : List GOp := [⟨none, (some 28), .mv 28 (.t 8 false)⟩,
  ⟨none, (some 29), .bin 29 .add false (.t 28 false) (.c (.int .i64 1))⟩,
  ⟨none, (some 8), .mv 8 (.t 29 true)⟩]
abbrev c7s12 : ACode := (.seq (.block 1 c7s10) (.reg c7r11 [8]))
abbrev c7s13 : ACode := (.seq (.seq (.reg c7r4 [27]) c7s5) c7s12)
abbrev c7s14 : ACode := (.loop c7s13)
abbrev c7s15 : ACode := (.block 0 c7s14)
abbrev c7r16 : List GOp := [⟨none, (some 38), .mv 38 (.t 0 false)⟩,
  ⟨none, (some 39), .bload 39 7 none (some 2) false⟩,
  ⟨none, (some 40), .call (some 40) 18 [(.t 38 false), (.t 39 false)]⟩,
  ⟨none, (some 37), .mv 37 (.t 40 true)⟩,
  ⟨none, (some 41), .extract 41 (.t 37 false) 0⟩,
  ⟨none, (some 42), .extract 42 (.t 37 false) 1⟩,
  ⟨none, (some 9), .balloc 9 (.agg [(.int .i64 0), (.str []), (.oslice 1 []), (.oslice 4 [])])⟩,
  ⟨none, none, .bstore 9 none (.t 41 true) 4⟩,
  ⟨none, (some 10), .mv 10 (.t 42 true)⟩]
abbrev c7r17 : List GOp := [⟨none, (some 43), .mv 43 (.t 10 false)⟩,
  ⟨none, (some 44), .un 44 .not (.t 43 false)⟩]
abbrev c7r18 : List GOp := [⟨none, (some 45), .build 45 [(.int .i64 0), (.str []), (.oslice 1 []), (.oslice 4 [])] []⟩,
  ⟨none, none, .bstore 4 none (.t 45 true) 4⟩,
  ⟨none, (some 5), .mv 5 (.c (.int .i64 7))⟩]
abbrev c7s19 : ACode := (.seq (.reg c7r18 [4, 5]) .ret)
abbrev c7s20 : ACode := (.cond (.t 44 false) c7s19 .skip)
abbrev c7r21 : List GOp := [⟨none, (some 46), .mv 46 (.t 6 false)⟩,
  ⟨none, (some 47), .len 47 false (.t 46 false)⟩,
  ⟨none, (some 48), .bin 48 .sub false (.t 47 false) (.c (.int .i64 2))⟩,
  ⟨none, (some 11), .mv 11 (.t 48 true)⟩]
abbrev c7r22 : List GOp := [⟨none, (some 49), .mv 49 (.t 11 false)⟩,
  ⟨none, (some 50), .bin 50 .geq false (.t 49 false) (.c (.int .i64 0))⟩]
abbrev c7s23 : ACode := (.cond (.t 50 false) .skip (.exit 2))
abbrev c7r24 : List GOp := [⟨none, (some 54), .mv 54 (.t 0 false)⟩,
  ⟨none, (some 55), .mv 55 (.t 6 false)⟩,
  ⟨none, (some 56), .mv 56 (.t 11 false)⟩,
  ⟨none, (some 57), .idx 57 (.t 55 false) (.t 56 false) 2⟩,
  ⟨none, (some 58), .vload 58 57 (some 2)⟩,
  ⟨none, (some 59), .call (some 59) 18 [(.t 54 false), (.t 58 false)]⟩,
  ⟨none, (some 53), .mv 53 (.t 59 true)⟩,
  ⟨none, (some 60), .extract 60 (.t 53 false) 0⟩,
  ⟨none, (some 61), .extract 61 (.t 53 false) 1⟩,
  ⟨none, (some 12), .balloc 12 (.agg [(.int .i64 0), (.str []), (.oslice 1 []), (.oslice 4 [])])⟩,
  ⟨none, none, .bstore 12 none (.t 60 true) 4⟩,
  ⟨none, (some 13), .mv 13 (.t 61 true)⟩]
abbrev c7r25 : List GOp := [⟨none, (some 62), .bload 62 9 none (some 4) false⟩,
  ⟨none, (some 63), .bload 63 12 none (some 4) false⟩,
  ⟨none, (some 64), .call (some 64) 20 [(.t 63 false), (.c (.str [101, 120, 116, 101, 110, 100, 115]))]⟩,
  ⟨none, (some 65), .call (some 65) 19 [(.t 62 false), (.t 64 false)]⟩,
  ⟨none, none, .bstore 9 none (.t 65 true) 4⟩]
abbrev c7s26 : ACode := (.seq (.reg c7r24 [12]) (.reg c7r25 [9]))
abbrev c7r27 : List GOp := [⟨none, (some 51), .mv 51 (.t 11 false)⟩,
  ⟨none, (some 52), .bin 52 .sub false (.t 51 false) (.c (.int .i64 1))⟩,
  ⟨none, (some 11), .mv 11 (.t 52 true)⟩]
abbrev c7s28 : ACode := (.seq (.block 3 c7s26) (.reg c7r27 [11]))
abbrev c7s29 : ACode := (.seq (.seq (.reg c7r22 [50]) c7s23) c7s28)
abbrev c7s30 : ACode := (.loop c7s29)
abbrev c7s31 : ACode := (.block 2 c7s30)
abbrev c7r32 : List GOp := [⟨none, (some 66), .bload 66 9 none (some 4) false⟩,
  ⟨none, none, .bstore 4 none (.t 66 true) 4⟩,
  ⟨none, (some 5), .mv 5 (.c (.int .i64 0))⟩]
abbrev c7s33 : ACode := (.seq (.reg c7r32 [4, 5]) .ret)
abbrev c7s34 : ACode := (.seq (.seq (.reg c7r21 [11]) c7s31) c7s33)
abbrev c7s35 : ACode := (.seq (.seq (.reg c7r17 [44]) c7s20) c7s34)
abbrev c7s36 : ACode := (.seq (.reg c7r16 [9, 10]) c7s35)
abbrev c7s37 : ACode := (.seq (.seq (.reg c7r3 [8]) c7s15) c7s36)
abbrev c7s38 : ACode := (.seq (.reg c7r2 [7]) c7s37)
abbrev c7s39 : ACode := (.seq (.reg c7r1 [6]) c7s38)
abbrev c7 : ACode := (.seq (.reg c7r0 [3, 4, 5]) c7s39)
def a7 : AFn := ⟨[3, 4, 7, 9, 12], [0, 1, 3, 4, 5, 6, 7, 8, 9, 10, 11, 12, 27, 35, 44, 50], [16, 22, 29, 36, 40, 41, 42, 45, 48, 52, 59, 60, 61, 65, 66], [], [], [], [], [], c7, [.cell 4 (some 4), .tmp 5]⟩
theorem is7 : IsFn Tryz.prog 7 2 a7 := isFn_of mix Tryz.func7 (by kernel_rfl) (by kernel_rfl) (by kernel_rfl) (by kernel_rfl) (by kernel_rfl)
theorem sound7 {args : List AV} {r : AV} (hl : args.length = 2) (h : awp Tryz.prog c7 (unw Tryz.prog [] (Ends [.cell 4 (some 4), .tmp 5] r)) (initSt args)) : Sound Tryz.prog 7 args r := sound_of is7 hl h
theorem total7 {args : List AV} {Φ : AV → Prop} (hl : args.length = 2) (h : awp Tryz.prog c7 (unw Tryz.prog [] (EndsP [.cell 4 (some 4), .tmp 5] Φ)) (initSt args)) : Total Tryz.prog 7 args Φ := total_of is7 hl h

/-! longshore/extend.Chain -/
abbrev c8r0 : List GOp := [⟨none, (some 6), .mv 6 (.c (.oslice 2 []))⟩]
abbrev c8r1 : List GOp := [⟨none, (some 11), .mv 11 (.t 0 false)⟩,
  ⟨none, (some 12), .mv 12 (.t 1 false)⟩,
  ⟨none, (some 13), .mv 13 (.t 2 false)⟩,
  ⟨none, (some 14), .call (some 14) 15 [(.t 11 false), (.t 12 false), (.t 13 false)]⟩,
  ⟨none, (some 10), .mv 10 (.t 14 true)⟩,
  ⟨none, (some 15), .extract 15 (.t 10 false) 0⟩,
  ⟨none, (some 16), .extract 16 (.t 10 false) 1⟩,
  ⟨none, (some 17), .extract 17 (.t 10 false) 2⟩,
  ⟨none, (some 7), .mv 7 (.t 15 true)⟩,
  ⟨none, (some 8), .mv 8 (.t 16 true)⟩,
  ⟨none, (some 9), .mv 9 (.t 17 true)⟩]
abbrev c8r2 : List GOp := [⟨none, (some 18), .mv 18 (.t 7 false)⟩,
  ⟨none, (some 6), .mv 6 (.t 18 true)⟩]
abbrev c8s3 : ACode := (.seq (.reg c8r2 [6]) .ret)
abbrev c8s4 : ACode := (.seq (.reg c8r1 [7]) c8s3)
abbrev c8 : ACode := (.seq (.reg c8r0 [6]) c8s4)
def a8 : AFn := ⟨[], [0, 1, 2, 6, 7], [14, 15, 16, 17, 18], [], [], [], [], [], c8, [.tmp 6]⟩
theorem is8 : IsFn Tryz.prog 8 3 a8 := isFn_of mix Tryz.func8 (by kernel_rfl) (by kernel_rfl) (by kernel_rfl) (by kernel_rfl) (by kernel_rfl)
theorem sound8 {args : List AV} {r : AV} (hl : args.length = 3) (h : awp Tryz.prog c8 (unw Tryz.prog [] (Ends [.tmp 6] r)) (initSt args)) : Sound Tryz.prog 8 args r := sound_of is8 hl h
theorem total8 {args : List AV} {Φ : AV → Prop} (hl : args.length = 3) (h : awp Tryz.prog c8 (unw Tryz.prog [] (EndsP [.tmp 6] Φ)) (initSt args)) : Total Tryz.prog 8 args Φ := total_of is8 hl h

/-! longshore/longshoreref21.Chain -/
abbrev c9r0 : List GOp := [⟨none, (some 3), .bbox 3 (.t 1 false)⟩,
  ⟨none, (some 4), .mv 4 (.c (.oslice 2 []))⟩]
abbrev c9r1 : List GOp := [⟨none, (some 12), .mkslice 12 2 []⟩,
  ⟨none, (some 5), .mv 5 (.t 12 true)⟩]
abbrev c9r2 : List GOp := [⟨none, (some 6), .mv 6 (.c (.bool false))⟩]
abbrev c9r3 : List GOp := [⟨none, (some 7), .mv 7 (.c (.int .i64 0))⟩]
abbrev c9r4 : List GOp := [⟨none, (some 13), .mv 13 (.t 7 false)⟩,
  ⟨none, (some 14), .mv 14 (.t 5 false)⟩,
  ⟨none, (some 15), .len 15 false (.t 14 false)⟩,
  ⟨none, (some 16), .bin 16 .lss false (.t 13 false) (.t 15 false)⟩]
abbrev c9s5 : ACode := (.cond (.t 16 false) .skip (.exit 2))
abbrev c9r6 : List GOp := [⟨none, (some 19), .mv 19 (.t 5 false)⟩,
  ⟨none, (some 20), .mv 20 (.t 7 false)⟩,
  ⟨none, (some 21), .idx 21 (.t 19 false) (.t 20 false) 2⟩,
  ⟨none, (some 22), .vload 22 21 (some 2)⟩,
  ⟨none, (some 23), .bload 23 3 none (some 2) false⟩,
  ⟨none, (some 24), .aeq 24 false (.t 22 false) (.t 23 false) [(.str []), (.str [])]⟩]
abbrev c9r7 : List GOp := [⟨none, (some 6), .mv 6 (.c (.bool true))⟩]
abbrev c9s8 : ACode := (.cond (.t 24 false) (.reg c9r7 [6]) .skip)
abbrev c9s9 : ACode := (.seq (.reg c9r6 [24]) c9s8)
abbrev c9r10 : List GOp := [⟨none, (some 17), .mv 17 (.t 7 false)⟩,
  ⟨none, (some 18), .bin 18 .add false (.t 17 false) (.c (.int .i64 1))⟩,
  ⟨none, (some 7), .mv 7 (.t 18 true)⟩]
abbrev c9s11 : ACode := (.seq (.block 3 c9s9) (.reg c9r10 [7]))
abbrev c9s12 : ACode := (.seq (.seq (.reg c9r4 [16]) c9s5) c9s11)
abbrev c9s13 : ACode := (.loop c9s12)
abbrev c9s14 : ACode := (.block 2 c9s13)
abbrev c9r15 : List GOp := [⟨none, (some 25), .take 25 5⟩,
  ⟨none, (some 26), .bload 26 3 none (some 2) false⟩,
  ⟨none, (some 27), .mkslice 27 2 [(.t 26 false)]⟩,
  ⟨none, (some 28), .append 28 (.t 25 true) (.t 27 false) 2 32⟩,
  ⟨none, (some 5), .mv 5 (.t 28 true)⟩]
abbrev c9r16 : List GOp := [⟨none, (some 30), .mv 30 (.t 0 false)⟩,
  ⟨none, (some 31), .bload 31 3 none (some 2) false⟩,
  ⟨none, (some 32), .call (some 32) 18 [(.t 30 false), (.t 31 false)]⟩,
  ⟨none, (some 29), .mv 29 (.t 32 true)⟩,
  ⟨none, (some 33), .extract 33 (.t 29 false) 0⟩,
  ⟨none, (some 34), .extract 34 (.t 29 false) 1⟩,
  ⟨none, (some 8), .balloc 8 (.agg [(.int .i64 0), (.str []), (.oslice 1 []), (.oslice 4 [])])⟩,
  ⟨none, none, .bstore 8 none (.t 33 true) 4⟩,
  ⟨none, (some 9), .mv 9 (.t 34 true)⟩]
abbrev c9r17 : List GOp := [⟨none, (some 35), .mv 35 (.t 6 false)⟩,
  ⟨none, (some 36), .mv 36 (.t 35 true)⟩,
  ⟨(some (36, false)), (some 37), .mv 37 (.t 9 false)⟩,
  ⟨(some (36, false)), (some 38), .un 38 .not (.t 37 false)⟩,
  ⟨none, (some 39), .pick 39 (.t 36 false) (.c (.bool true)) (.t 38 false)⟩]
abbrev c9r18 : List GOp := [⟨none, (some 40), .mv 40 (.t 5 false)⟩,
  ⟨none, (some 4), .mv 4 (.t 40 true)⟩]
abbrev c9s19 : ACode := (.seq (.reg c9r18 [4]) .ret)
abbrev c9s20 : ACode := (.cond (.t 39 false) c9s19 .skip)
abbrev c9r21 : List GOp := [⟨none, (some 42), .bload 42 8 none (some 4) false⟩,
  ⟨none, (some 43), .bload 43 3 none (some 2) false⟩,
  ⟨none, (some 44), .call (some 44) 21 [(.t 42 false), (.t 43 false)]⟩,
  ⟨none, (some 41), .mv 41 (.t 44 true)⟩,
  ⟨none, (some 45), .extract 45 (.t 41 false) 0⟩,
  ⟨none, (some 46), .extract 46 (.t 41 false) 1⟩,
  ⟨none, (some 10), .balloc 10 (.agg [(.str []), (.str [])])⟩,
  ⟨none, none, .bstore 10 none (.t 45 true) 2⟩,
  ⟨none, (some 11), .mv 11 (.t 46 true)⟩]
abbrev c9r22 : List GOp := [⟨none, (some 47), .mv 47 (.t 11 false)⟩,
  ⟨none, (some 48), .un 48 .not (.t 47 false)⟩]
abbrev c9r23 : List GOp := [⟨none, (some 49), .mv 49 (.t 5 false)⟩,
  ⟨none, (some 4), .mv 4 (.t 49 true)⟩]
abbrev c9s24 : ACode := (.seq (.reg c9r23 [4]) .ret)
abbrev c9s25 : ACode := (.cond (.t 48 false) c9s24 .skip)
abbrev c9r26 : List GOp := [⟨none, (some 50), .bload 50 10 none (some 2) false⟩,
  ⟨none, none, .bstore 3 none (.t 50 true) 2⟩]
abbrev c9s27 : ACode := (.seq (.seq (.reg c9r22 [48]) c9s25) (.reg c9r26 [3]))
abbrev c9s28 : ACode := (.seq (.reg c9r21 [10, 11]) c9s27)
abbrev c9s29 : ACode := (.seq (.seq (.reg c9r17 [39]) c9s20) c9s28)
abbrev c9s30 : ACode := (.seq (.reg c9r16 [8, 9]) c9s29)
abbrev c9s31 : ACode := (.seq (.reg c9r15 [5]) c9s30)
abbrev c9s32 : ACode := (.seq (.seq (.reg c9r3 [7]) c9s14) c9s31)
abbrev c9s33 : ACode := (.seq (.reg c9r2 [6]) c9s32)
abbrev c9s34 : ACode := (.block 1 c9s33)
abbrev c9s35 : ACode := (.loop c9s34)
abbrev c9s36 : ACode := (.block 0 c9s35)
abbrev c9s37 : ACode := (.seq (.reg c9r1 [5]) c9s36)
abbrev c9 : ACode := (.seq (.reg c9r0 [3, 4]) c9s37)
def a9 : AFn := ⟨[3, 8, 10], [0, 1, 3, 4, 5, 6, 7, 8, 9, 10, 11, 16, 24, 39, 48], [12, 18, 25, 28, 32, 33, 34, 35, 40, 44, 45, 46, 49, 50], [25], [], [], [], [], c9, [.tmp 4]⟩
theorem is9 : IsFn Tryz.prog 9 2 a9 := isFn_of mix Tryz.func9 (by kernel_rfl) (by kernel_rfl) (by kernel_rfl) (by kernel_rfl) (by kernel_rfl)
theorem sound9 {args : List AV} {r : AV} (hl : args.length = 2) (h : awp Tryz.prog c9 (unw Tryz.prog [] (Ends [.tmp 4] r)) (initSt args)) : Sound Tryz.prog 9 args r := sound_of is9 hl h
theorem total9 {args : List AV} {Φ : AV → Prop} (hl : args.length = 2) (h : awp Tryz.prog c9 (unw Tryz.prog [] (EndsP [.tmp 4] Φ)) (initSt args)) : Total Tryz.prog 9 args Φ := total_of is9 hl h

/-! longshore/longshorelaw21.one -/
abbrev c13r0 : List GOp := [⟨none, (some 3), .bbox 3 (.t 1 false)⟩,
  ⟨none, (some 4), .balloc 4 (.agg [(.int .i64 0), (.str []), (.oslice 1 []), (.oslice 4 [])])⟩]
abbrev c13r1 : List GOp := [⟨none, (some 5), .mv 5 (.t 0 false)⟩,
  ⟨none, (some 6), .mkslice 6 1 [(.t 5 false)]⟩,
  ⟨none, (some 7), .bload 7 3 none (some 4) false⟩,
  ⟨none, (some 8), .mkslice 8 4 [(.t 7 false)]⟩,
  ⟨none, (some 9), .build 9 [(.int .i64 0), (.str []), (.oslice 1 []), (.oslice 4 [])] [(0, 1, (.c (.int .i64 3))), (2, 1, (.t 6 false)), (3, 1, (.t 8 false))]⟩,
  ⟨none, none, .bstore 4 none (.t 9 true) 4⟩]
abbrev c13s2 : ACode := (.seq (.reg c13r1 [4]) .ret)
abbrev c13 : ACode := (.seq (.reg c13r0 [3, 4]) c13s2)
def a13 : AFn := ⟨[3, 4], [0, 1, 3, 4], [9], [], [], [], [], [], c13, [.cell 4 (some 4)]⟩
theorem is13 : IsFn Tryz.prog 13 2 a13 := isFn_of mix Tryz.func13 (by kernel_rfl) (by kernel_rfl) (by kernel_rfl) (by kernel_rfl) (by kernel_rfl)
theorem sound13 {args : List AV} {r : AV} (hl : args.length = 2) (h : awp Tryz.prog c13 (unw Tryz.prog [] (Ends [.cell 4 (some 4)] r)) (initSt args)) : Sound Tryz.prog 13 args r := sound_of is13 hl h
theorem total13 {args : List AV} {Φ : AV → Prop} (hl : args.length = 2) (h : awp Tryz.prog c13 (unw Tryz.prog [] (EndsP [.cell 4 (some 4)] Φ)) (initSt args)) : Total Tryz.prog 13 args Φ := total_of is13 hl h

/-! longshore/longshorelaw21.text -/
abbrev c14r0 : List GOp := [⟨none, (some 2), .balloc 2 (.agg [(.int .i64 0), (.str []), (.oslice 1 []), (.oslice 4 [])])⟩]
abbrev c14r1 : List GOp := [⟨none, (some 3), .mv 3 (.t 0 false)⟩,
  ⟨none, (some 4), .build 4 [(.int .i64 0), (.str []), (.oslice 1 []), (.oslice 4 [])] [(0, 1, (.c (.int .i64 1))), (1, 1, (.t 3 false))]⟩,
  ⟨none, none, .bstore 2 none (.t 4 true) 4⟩]
abbrev c14s2 : ACode := (.seq (.reg c14r1 [2]) .ret)
abbrev c14 : ACode := (.seq (.reg c14r0 [2]) c14s2)
def a14 : AFn := ⟨[2], [0, 2], [4], [], [], [], [], [], c14, [.cell 2 (some 4)]⟩
theorem is14 : IsFn Tryz.prog 14 1 a14 := isFn_of mix Tryz.func14 (by kernel_rfl) (by kernel_rfl) (by kernel_rfl) (by kernel_rfl) (by kernel_rfl)
theorem sound14 {args : List AV} {r : AV} (hl : args.length = 1) (h : awp Tryz.prog c14 (unw Tryz.prog [] (Ends [.cell 2 (some 4)] r)) (initSt args)) : Sound Tryz.prog 14 args r := sound_of is14 hl h
theorem total14 {args : List AV} {Φ : AV → Prop} (hl : args.length = 1) (h : awp Tryz.prog c14 (unw Tryz.prog [] (EndsP [.cell 2 (some 4)] Φ)) (initSt args)) : Total Tryz.prog 14 args Φ := total_of is14 hl h

/-! longshore/extend.walk -/
abbrev c15r0 : List GOp := [⟨none, (some 6), .mv 6 (.c (.oslice 2 []))⟩,
  ⟨none, (some 7), .mv 7 (.c (.oslice 4 []))⟩,
  ⟨none, (some 8), .mv 8 (.c (.int .i64 0))⟩]
abbrev c15r1 : List GOp := [⟨none, (some 9), .mv 9 (.c (.oslice 2 []))⟩]
abbrev c15r2 : List GOp := [⟨none, (some 10), .mv 10 (.c (.oslice 4 []))⟩]
abbrev c15r3 : List GOp := [⟨none, (some 16), .mkmap 16⟩,
  ⟨none, (some 11), .mvb 11 16⟩]
abbrev c15r4 : List GOp := [⟨none, (some 17), .mv 17 (.t 1 false)⟩,
  ⟨none, (some 18), .mv 18 (.t 2 false)⟩,
  ⟨none, (some 19), .build 19 [(.str []), (.str [])] [(0, 1, (.t 17 false)), (1, 1, (.t 18 false))]⟩,
  ⟨none, (some 12), .balloc 12 (.agg [(.str []), (.str [])])⟩,
  ⟨none, none, .bstore 12 none (.t 19 true) 2⟩,
  ⟨none, (some 13), .mv 13 (.c (.bool true))⟩]
abbrev c15r5 : List GOp := [⟨none, (some 20), .mv 20 (.t 13 false)⟩]
abbrev c15s6 : ACode := (.cond (.t 20 false) .skip (.exit 0))
abbrev c15r7 : List GOp := [⟨none, (some 21), .take 21 9⟩,
  ⟨none, (some 22), .bload 22 12 none (some 2) false⟩,
  ⟨none, (some 23), .mkslice 23 2 [(.t 22 false)]⟩,
  ⟨none, (some 24), .append 24 (.t 21 true) (.t 23 false) 2 32⟩,
  ⟨none, (some 9), .mv 9 (.t 24 true)⟩]
abbrev c15r8 : List GOp := [⟨none, (some 25), .malias 25 11⟩,
  ⟨none, (some 26), .bload 26 12 none (some 2) false⟩,
  ⟨none, (some 27), .mlook 27 11 (some 25) (.t 26 false) (.int .i64 0) [(.str []), (.str [])] true false⟩,
  ⟨none, (some 28), .bin 28 .add false (.t 27 false) (.c (.int .i64 1))⟩,
  ⟨none, (some 29), .mentry 29 11 (some 25) (.t 26 false) (.int .i64 0) [(.str []), (.str [])] true⟩,
  ⟨none, (some 30), .extract 30 (.t 29 false) 1⟩,
  ⟨none, none, .mestore 11 (some 25) (.t 30 false) (.t 28 false)⟩]
abbrev c15r9 : List GOp := [⟨none, (some 31), .malias 31 11⟩,
  ⟨none, (some 32), .bload 32 12 none (some 2) false⟩,
  ⟨none, (some 33), .mlook 33 11 (some 31) (.t 32 false) (.int .i64 0) [(.str []), (.str [])] true false⟩,
  ⟨none, (some 34), .bin 34 .gtr false (.t 33 false) (.c (.int .i64 1))⟩]
abbrev c15r10 : List GOp := [⟨none, (some 35), .mv 35 (.t 9 false)⟩,
  ⟨none, (some 6), .mv 6 (.t 35 true)⟩,
  ⟨none, (some 7), .mv 7 (.c (.oslice 4 []))⟩,
  ⟨none, (some 8), .mv 8 (.c (.int .i64 5))⟩]
abbrev c15s11 : ACode := (.seq (.reg c15r10 [6, 7, 8]) .ret)
abbrev c15s12 : ACode := (.cond (.t 34 false) c15s11 .skip)
abbrev c15s13 : ACode := (.seq (.reg c15r9 [34]) c15s12)
abbrev c15r14 : List GOp := [⟨none, (some 37), .mv 37 (.t 0 false)⟩,
  ⟨none, (some 38), .bidx 38 12 none (.c (.int .i64 0)) 2 1⟩,
  ⟨none, (some 39), .bload 39 12 (some 38) none false⟩,
  ⟨none, (some 40), .bidx 40 12 none (.c (.int .i64 1)) 2 1⟩,
  ⟨none, (some 41), .bload 41 12 (some 40) none false⟩,
  ⟨none, (some 42), .call (some 42) 32 [(.t 37 false), (.t 39 false), (.t 41 false)]⟩,
  ⟨none, (some 36), .mv 36 (.t 42 true)⟩,
  ⟨none, (some 43), .extract 43 (.t 36 false) 0⟩,
  ⟨none, (some 44), .extract 44 (.t 36 false) 1⟩,
  ⟨none, (some 14), .balloc 14 (.agg [(.int .i64 0), (.str []), (.oslice 1 []), (.oslice 4 [])])⟩,
  ⟨none, none, .bstore 14 none (.t 43 true) 4⟩,
  ⟨none, (some 15), .mv 15 (.t 44 true)⟩]
abbrev c15r15 : List GOp := [⟨none, (some 45), .mv 45 (.t 15 false)⟩,
  ⟨none, (some 46), .un 46 .not (.t 45 false)⟩]
abbrev c15r16 : List GOp := [⟨none, (some 47), .mv 47 (.t 9 false)⟩,
  ⟨none, (some 6), .mv 6 (.t 47 true)⟩,
  ⟨none, (some 7), .mv 7 (.c (.oslice 4 []))⟩,
  ⟨none, (some 8), .mv 8 (.c (.int .i64 7))⟩]
abbrev c15s17 : ACode := (.seq (.reg c15r16 [6, 7, 8]) .ret)
abbrev c15s18 : ACode := (.cond (.t 46 false) c15s17 .skip)
abbrev c15r19 : List GOp := [⟨none, (some 48), .take 48 10⟩,
  ⟨none, (some 49), .bload 49 14 none (some 4) false⟩,
  ⟨none, (some 50), .mkslice 50 4 [(.t 49 false)]⟩,
  ⟨none, (some 51), .append 51 (.t 48 true) (.t 50 false) 4 72⟩,
  ⟨none, (some 10), .mv 10 (.t 51 true)⟩]
abbrev c15r20 : List GOp := [⟨none, (some 53), .bload 53 14 none (some 4) false⟩,
  ⟨none, (some 54), .bload 54 12 none (some 2) false⟩,
  ⟨none, (some 55), .call (some 55) 33 [(.t 53 false), (.t 54 false)]⟩,
  ⟨none, (some 52), .mv 52 (.t 55 true)⟩,
  ⟨none, (some 56), .extract 56 (.t 52 false) 0⟩,
  ⟨none, (some 57), .extract 57 (.t 52 false) 1⟩,
  ⟨none, none, .bstore 12 none (.t 56 true) 2⟩,
  ⟨none, (some 13), .mv 13 (.t 57 true)⟩]
abbrev c15s21 : ACode := (.seq (.reg c15r19 [10]) (.reg c15r20 [12, 13]))
abbrev c15s22 : ACode := (.seq (.seq (.reg c15r15 [46]) c15s18) c15s21)
abbrev c15s23 : ACode := (.seq (.reg c15r14 [14, 15]) c15s22)
abbrev c15s24 : ACode := (.seq (.seq (.reg c15r8 [11]) c15s13) c15s23)
abbrev c15s25 : ACode := (.seq (.reg c15r7 [9]) c15s24)
abbrev c15s26 : ACode := (.block 1 c15s25)
abbrev c15s27 : ACode := (.seq (.seq (.reg c15r5 [20]) c15s6) c15s26)
abbrev c15s28 : ACode := (.loop c15s27)
abbrev c15r29 : List GOp := [⟨none, (some 58), .mv 58 (.t 9 false)⟩,
  ⟨none, (some 59), .mv 59 (.t 10 false)⟩,
  ⟨none, (some 6), .mv 6 (.t 58 true)⟩,
  ⟨none, (some 7), .mv 7 (.t 59 true)⟩,
  ⟨none, (some 8), .mv 8 (.c (.int .i64 0))⟩]
abbrev c15s30 : ACode := (.seq (.reg c15r29 [6, 7, 8]) .ret)
abbrev c15s31 : ACode := (.seq (.block 0 c15s28) c15s30)
abbrev c15s32 : ACode := (.seq (.reg c15r4 [12, 13]) c15s31)
abbrev c15s33 : ACode := (.seq (.reg c15r3 [16, 11]) c15s32)
abbrev c15s34 : ACode := (.seq (.reg c15r2 [10]) c15s33)
abbrev c15s35 : ACode := (.seq (.reg c15r1 [9]) c15s34)
abbrev c15 : ACode := (.seq (.reg c15r0 [6, 7, 8]) c15s35)
def a15 : AFn := ⟨[11, 12, 14, 16], [0, 1, 2, 6, 7, 8, 9, 10, 11, 12, 13, 14, 15, 16, 20, 34, 46], [19, 21, 24, 35, 42, 43, 44, 47, 48, 51, 55, 56, 57, 58, 59], [21, 48], [(40, 12), (38, 12), (31, 11), (25, 11)], [], [], [], c15, [.tmp 6, .tmp 7, .tmp 8]⟩
theorem is15 : IsFn Tryz.prog 15 3 a15 := isFn_of mix Tryz.func15 (by kernel_rfl) (by kernel_rfl) (by kernel_rfl) (by kernel_rfl) (by kernel_rfl)
theorem sound15 {args : List AV} {r : AV} (hl : args.length = 3) (h : awp Tryz.prog c15 (unw Tryz.prog [] (Ends [.tmp 6, .tmp 7, .tmp 8] r)) (initSt args)) : Sound Tryz.prog 15 args r := sound_of is15 hl h
theorem total15 {args : List AV} {Φ : AV → Prop} (hl : args.length = 3) (h : awp Tryz.prog c15 (unw Tryz.prog [] (EndsP [.tmp 6, .tmp 7, .tmp 8] Φ)) (initSt args)) : Total Tryz.prog 15 args Φ := total_of is15 hl h

/-! longshore/blend.Two -/
abbrev c16r0 : List GOp := [⟨none, (some 2), .bbox 2 (.t 0 false)⟩,
  ⟨none, (some 3), .bbox 3 (.t 1 false)⟩,
  ⟨none, (some 4), .balloc 4 (.agg [(.int .i64 0), (.str []), (.oslice 1 []), (.oslice 4 [])])⟩]
abbrev c16r1 : List GOp := [⟨none, (some 12), .bload 12 2 none (some 4) false⟩,
  ⟨none, (some 13), .bload 13 3 none (some 4) false⟩,
  ⟨none, (some 14), .call (some 14) 34 [(.t 12 false), (.t 13 false)]⟩,
  ⟨none, (some 15), .un 15 .not (.t 14 false)⟩]
abbrev c16r2 : List GOp := [⟨none, (some 16), .bload 16 3 none (some 4) false⟩,
  ⟨none, none, .bstore 4 none (.t 16 true) 4⟩]
abbrev c16s3 : ACode := (.seq (.reg c16r2 [4]) .ret)
abbrev c16s4 : ACode := (.cond (.t 15 false) c16s3 .skip)
abbrev c16r5 : List GOp := [⟨none, (some 17), .build 17 [(.int .i64 0), (.str []), (.oslice 1 []), (.oslice 4 [])] [(0, 1, (.c (.int .i64 3)))]⟩,
  ⟨none, (some 5), .balloc 5 (.agg [(.int .i64 0), (.str []), (.oslice 1 []), (.oslice 4 [])])⟩,
  ⟨none, none, .bstore 5 none (.t 17 true) 4⟩]
abbrev c16r6 : List GOp := [⟨none, (some 18), .baddr 18 2 2⟩,
  ⟨none, (some 19), .bload 19 2 (some 18) none false⟩,
  ⟨none, (some 20), .baddr 20 3 2⟩,
  ⟨none, (some 21), .bload 21 3 (some 20) none false⟩,
  ⟨none, (some 22), .call (some 22) 35 [(.t 19 false), (.t 21 false)]⟩,
  ⟨none, (some 23), .len 23 false (.t 22 false)⟩,
  ⟨none, (some 24), .mv 24 (.c (.int .i64 0))⟩]
abbrev c16r7 : List GOp := [⟨none, (some 25), .bin 25 .lss false (.t 24 false) (.t 23 false)⟩]
abbrev c16r8 : List GOp := [⟨none, (some 26), .idx 26 (.t 22 false) (.t 24 false) 1⟩,
  ⟨none, (some 27), .vload 27 26 none⟩,
  ⟨none, (some 7), .mv 7 (.t 27 true)⟩]
abbrev c16r9 : List GOp := [⟨none, (some 29), .bload 29 2 none (some 4) false⟩,
  ⟨none, (some 30), .mv 30 (.t 7 false)⟩,
  ⟨none, (some 31), .call (some 31) 36 [(.t 29 false), (.t 30 false)]⟩,
  ⟨none, (some 28), .mv 28 (.t 31 true)⟩,
  ⟨none, (some 32), .extract 32 (.t 28 false) 0⟩,
  ⟨none, (some 33), .extract 33 (.t 28 false) 1⟩,
  ⟨none, (some 8), .balloc 8 (.agg [(.int .i64 0), (.str []), (.oslice 1 []), (.oslice 4 [])])⟩,
  ⟨none, none, .bstore 8 none (.t 32 true) 4⟩,
  ⟨none, (some 9), .mv 9 (.t 33 true)⟩]
abbrev c16r10 : List GOp := [⟨none, (some 35), .bload 35 3 none (some 4) false⟩,
  ⟨none, (some 36), .mv 36 (.t 7 false)⟩,
  ⟨none, (some 37), .call (some 37) 36 [(.t 35 false), (.t 36 false)]⟩,
  ⟨none, (some 34), .mv 34 (.t 37 true)⟩,
  ⟨none, (some 38), .extract 38 (.t 34 false) 0⟩,
  ⟨none, (some 39), .extract 39 (.t 34 false) 1⟩,
  ⟨none, (some 10), .balloc 10 (.agg [(.int .i64 0), (.str []), (.oslice 1 []), (.oslice 4 [])])⟩,
  ⟨none, none, .bstore 10 none (.t 38 true) 4⟩,
  ⟨none, (some 11), .mv 11 (.t 39 true)⟩]
abbrev c16r11 : List GOp := [⟨none, (some 41), .mv 41 (.t 11 false)⟩,
  ⟨none, (some 42), .un 42 .not (.t 41 false)⟩,
  ⟨none, (some 40), .mv 40 (.t 42 true)⟩]
abbrev c16r12 : List GOp := [⟨none, (some 43), .bload 43 8 none (some 4) false⟩,
  ⟨none, none, .bstore 10 none (.t 43 true) 4⟩]
abbrev c16r13 : List GOp := [⟨none, (some 45), .mv 45 (.t 9 false)⟩,
  ⟨none, (some 46), .mv 46 (.t 45 true)⟩,
  ⟨(some (46, true)), (some 47), .mv 47 (.t 7 false)⟩,
  ⟨(some (46, true)), (some 48), .bin 48 .neq false (.t 47 false) (.c (.str [101, 120, 116, 101, 110, 100, 115]))⟩,
  ⟨none, (some 49), .pick 49 (.t 46 false) (.t 48 false) (.c (.bool false))⟩,
  ⟨none, (some 44), .mv 44 (.t 49 true)⟩]
abbrev c16r14 : List GOp := [⟨none, (some 50), .bload 50 8 none (some 4) false⟩,
  ⟨none, (some 51), .bload 51 10 none (some 4) false⟩,
  ⟨none, (some 52), .call (some 52) 16 [(.t 50 false), (.t 51 false)]⟩,
  ⟨none, none, .bstore 10 none (.t 52 true) 4⟩]
abbrev c16s15 : ACode := (.cond (.t 44 false) (.reg c16r14 [10]) .skip)
abbrev c16s16 : ACode := (.seq (.reg c16r13 [44]) c16s15)
abbrev c16s17 : ACode := (.cond (.t 40 false) (.reg c16r12 [10]) c16s16)
abbrev c16s18 : ACode := (.seq (.reg c16r11 [40]) c16s17)
abbrev c16r19 : List GOp := [⟨none, (some 53), .baddr 53 5 2⟩,
  ⟨none, (some 54), .btk 54 5 (some 53) 2⟩,
  ⟨none, (some 55), .mv 55 (.t 7 false)⟩,
  ⟨none, (some 56), .mkslice 56 1 [(.t 55 false)]⟩,
  ⟨none, (some 57), .append 57 (.t 54 true) (.t 56 false) 1 16⟩,
  ⟨none, (some 58), .baddr 58 5 3⟩,
  ⟨none, (some 59), .btk 59 5 (some 58) 3⟩,
  ⟨none, (some 60), .bload 60 10 none (some 4) false⟩,
  ⟨none, (some 61), .mkslice 61 4 [(.t 60 false)]⟩,
  ⟨none, (some 62), .append 62 (.t 59 true) (.t 61 false) 4 72⟩,
  ⟨none, (some 63), .baddr 63 5 2⟩,
  ⟨none, none, .bstore 5 (some 63) (.t 57 true) 1⟩,
  ⟨none, (some 64), .baddr 64 5 3⟩,
  ⟨none, none, .bstore 5 (some 64) (.t 62 true) 1⟩]
abbrev c16s20 : ACode := (.seq (.block 2 c16s18) (.reg c16r19 [5]))
abbrev c16s21 : ACode := (.seq (.reg c16r10 [10, 11]) c16s20)
abbrev c16s22 : ACode := (.seq (.reg c16r9 [8, 9]) c16s21)
abbrev c16s23 : ACode := (.seq (.reg c16r8 [7]) c16s22)
abbrev c16r24 : List GOp := [⟨none, (some 65), .bin 65 .add false (.t 24 false) (.c (.int .i64 1))⟩,
  ⟨none, (some 24), .mv 24 (.t 65 true)⟩]
abbrev c16s25 : ACode := (.seq (.block 1 c16s23) (.reg c16r24 [24]))
abbrev c16s26 : ACode := (.seq (.cond (.t 25 false) .skip (.exit 0)) c16s25)
abbrev c16s27 : ACode := (.seq (.reg c16r7 [25]) c16s26)
abbrev c16s28 : ACode := (.loop c16s27)
abbrev c16s29 : ACode := (.block 0 c16s28)
abbrev c16r30 : List GOp := [⟨none, (some 66), .bload 66 5 none (some 4) false⟩,
  ⟨none, none, .bstore 4 none (.t 66 true) 4⟩]
abbrev c16s31 : ACode := (.seq (.reg c16r30 [4]) .ret)
abbrev c16s32 : ACode := (.seq (.seq (.reg c16r6 [22, 23, 24]) c16s29) c16s31)
abbrev c16s33 : ACode := (.seq (.reg c16r5 [5]) c16s32)
abbrev c16s34 : ACode := (.seq (.seq (.reg c16r1 [15]) c16s4) c16s33)
abbrev c16 : ACode := (.seq (.reg c16r0 [2, 3, 4]) c16s34)
def a16 : AFn := ⟨[2, 3, 4, 5, 8, 10], [0, 1, 2, 3, 4, 5, 7, 8, 9, 10, 11, 15, 22, 23, 24, 25, 40, 44], [16, 17, 27, 31, 32, 33, 37, 38, 39, 42, 43, 45, 49, 52, 54, 57, 59, 62, 65, 66], [54, 59], [(64, 5), (63, 5), (58, 5), (53, 5), (20, 3), (18, 2)], [(64, 3), (63, 2), (58, 3), (53, 2), (20, 2), (18, 2)], [], [], c16, [.cell 4 (some 4)]⟩
theorem is16 : IsFn Tryz.prog 16 2 a16 := isFn_of mix Tryz.func16 (by kernel_rfl) (by kernel_rfl) (by kernel_rfl) (by kernel_rfl) (by kernel_rfl)
theorem sound16 {args : List AV} {r : AV} (hl : args.length = 2) (h : awp Tryz.prog c16 (unw Tryz.prog [] (Ends [.cell 4 (some 4)] r)) (initSt args)) : Sound Tryz.prog 16 args r := sound_of is16 hl h
theorem total16 {args : List AV} {Φ : AV → Prop} (hl : args.length = 2) (h : awp Tryz.prog c16 (unw Tryz.prog [] (EndsP [.cell 4 (some 4)] Φ)) (initSt args)) : Total Tryz.prog 16 args Φ := total_of is16 hl h

/-! longshore/node.Less -/
abbrev c17r0 : List GOp := [⟨none, (some 2), .bbox 2 (.t 0 false)⟩,
  ⟨none, (some 4), .balloc 4 (.agg [(.int .i64 0), (.str []), (.oslice 1 []), (.oslice 4 [])])⟩]
abbrev c17r1 : List GOp := [⟨none, (some 6), .bload 6 2 none (some 4) false⟩,
  ⟨none, (some 7), .mv 7 (.t 1 false)⟩,
  ⟨none, (some 8), .call (some 8) 37 [(.t 6 false), (.t 7 false)]⟩,
  ⟨none, (some 5), .mv 5 (.t 8 true)⟩]
abbrev c17r2 : List GOp := [⟨none, (some 9), .mv 9 (.t 5 false)⟩,
  ⟨none, (some 10), .bin 10 .lss false (.t 9 false) (.c (.int .i64 0))⟩]
abbrev c17r3 : List GOp := [⟨none, (some 11), .bload 11 2 none (some 4) false⟩,
  ⟨none, none, .bstore 4 none (.t 11 true) 4⟩]
abbrev c17s4 : ACode := (.seq (.reg c17r3 [4]) .ret)
abbrev c17s5 : ACode := (.cond (.t 10 false) c17s4 .skip)
abbrev c17r6 : List GOp := [⟨none, (some 12), .baddr 12 2 2⟩,
  ⟨none, (some 13), .bload 13 2 (some 12) none false⟩,
  ⟨none, (some 14), .mv 14 (.t 5 false)⟩,
  ⟨none, (some 15), .lslice 15 (.t 13 false) none (some (.t 14 false)) 1⟩,
  ⟨none, (some 16), .baddr 16 2 2⟩,
  ⟨none, (some 17), .bload 17 2 (some 16) none false⟩,
  ⟨none, (some 18), .mv 18 (.t 5 false)⟩,
  ⟨none, (some 19), .bin 19 .add false (.t 18 false) (.c (.int .i64 1))⟩,
  ⟨none, (some 20), .lslice 20 (.t 17 false) (some (.t 19 false)) none 1⟩,
  ⟨none, (some 21), .mkslice 21 1 [(.t 15 false), (.t 20 false)]⟩,
  ⟨none, (some 22), .call (some 22) 38 [(.t 21 false)]⟩,
  ⟨none, (some 23), .baddr 23 2 3⟩,
  ⟨none, (some 24), .bload 24 2 (some 23) none false⟩,
  ⟨none, (some 25), .mv 25 (.t 5 false)⟩,
  ⟨none, (some 26), .lslice 26 (.t 24 false) none (some (.t 25 false)) 4⟩,
  ⟨none, (some 27), .baddr 27 2 3⟩,
  ⟨none, (some 28), .bload 28 2 (some 27) none false⟩,
  ⟨none, (some 29), .mv 29 (.t 5 false)⟩,
  ⟨none, (some 30), .bin 30 .add false (.t 29 false) (.c (.int .i64 1))⟩,
  ⟨none, (some 31), .lslice 31 (.t 28 false) (some (.t 30 false)) none 4⟩,
  ⟨none, (some 32), .mkslice 32 1 [(.t 26 false), (.t 31 false)]⟩,
  ⟨none, (some 33), .call (some 33) 39 [(.t 32 false)]⟩,
  ⟨none, (some 34), .build 34 [(.int .i64 0), (.str []), (.oslice 1 []), (.oslice 4 [])] [(0, 1, (.c (.int .i64 3))), (2, 1, (.t 22 false)), (3, 1, (.t 33 false))]⟩,
  ⟨none, none, .bstore 4 none (.t 34 true) 4⟩]
abbrev c17s7 : ACode := (.seq (.reg c17r6 [4]) .ret)
abbrev c17s8 : ACode := (.seq (.seq (.reg c17r2 [10]) c17s5) c17s7)
abbrev c17s9 : ACode := (.seq (.reg c17r1 [5]) c17s8)
abbrev c17 : ACode := (.seq (.reg c17r0 [2, 4]) c17s9)
def a17 : AFn := ⟨[2, 4], [0, 1, 2, 4, 5, 10], [8, 11, 34], [], [(27, 2), (23, 2), (16, 2), (12, 2)], [(27, 3), (23, 3), (16, 2), (12, 2)], [], [], c17, [.cell 4 (some 4)]⟩
theorem is17 : IsFn Tryz.prog 17 2 a17 := isFn_of mix Tryz.func17 (by kernel_rfl) (by kernel_rfl) (by kernel_rfl) (by kernel_rfl) (by kernel_rfl)
theorem sound17 {args : List AV} {r : AV} (hl : args.length = 2) (h : awp Tryz.prog c17 (unw Tryz.prog [] (Ends [.cell 4 (some 4)] r)) (initSt args)) : Sound Tryz.prog 17 args r := sound_of is17 hl h
theorem total17 {args : List AV} {Φ : AV → Prop} (hl : args.length = 2) (h : awp Tryz.prog c17 (unw Tryz.prog [] (EndsP [.cell 4 (some 4)] Φ)) (initSt args)) : Total Tryz.prog 17 args Φ := total_of is17 hl h

/-! longshore/longshoreref21.find -/
abbrev c18r0 : List GOp := [⟨none, (some 3), .bbox 3 (.t 1 false)⟩,
  ⟨none, (some 4), .balloc 4 (.agg [(.int .i64 0), (.str []), (.oslice 1 []), (.oslice 4 [])])⟩,
  ⟨none, (some 5), .mv 5 (.c (.bool false))⟩]
abbrev c18r1 : List GOp := [⟨none, (some 6), .mv 6 (.c (.int .i64 0))⟩]
abbrev c18r2 : List GOp := [⟨none, (some 9), .mv 9 (.t 6 false)⟩,
  ⟨none, (some 10), .mv 10 (.t 0 false)⟩,
  ⟨none, (some 11), .len 11 false (.t 10 false)⟩,
  ⟨none, (some 12), .bin 12 .lss false (.t 9 false) (.t 11 false)⟩]
abbrev c18s3 : ACode := (.cond (.t 12 false) .skip (.exit 0))
abbrev c18r4 : List GOp := [⟨none, (some 15), .mv 15 (.t 0 false)⟩,
  ⟨none, (some 16), .mv 16 (.t 6 false)⟩,
  ⟨none, (some 17), .idx 17 (.t 15 false) (.t 16 false) 5⟩,
  ⟨none, (some 18), .paddr 18 17 none 0⟩,
  ⟨none, (some 19), .vload 19 18 none⟩,
  ⟨none, (some 20), .bidx 20 3 none (.c (.int .i64 0)) 2 1⟩,
  ⟨none, (some 21), .bload 21 3 (some 20) none false⟩,
  ⟨none, (some 22), .bin 22 .eql false (.t 19 false) (.t 21 false)⟩]
abbrev c18r5 : List GOp := [⟨none, (some 24), .mv 24 (.t 0 false)⟩,
  ⟨none, (some 25), .mv 25 (.t 6 false)⟩,
  ⟨none, (some 26), .idx 26 (.t 24 false) (.t 25 false) 5⟩,
  ⟨none, (some 27), .paddr 27 26 none 1⟩,
  ⟨none, (some 28), .vload 28 27 (some 4)⟩,
  ⟨none, (some 29), .call (some 29) 40 [(.t 28 false), (.c (.str [115, 101, 114, 118, 105, 99, 101, 115]))]⟩,
  ⟨none, (some 23), .mv 23 (.t 29 true)⟩,
  ⟨none, (some 30), .extract 30 (.t 23 false) 0⟩,
  ⟨none, (some 31), .extract 31 (.t 23 false) 1⟩,
  ⟨none, (some 7), .balloc 7 (.agg [(.int .i64 0), (.str []), (.oslice 1 []), (.oslice 4 [])])⟩,
  ⟨none, none, .bstore 7 none (.t 30 true) 4⟩,
  ⟨none, (some 8), .mv 8 (.t 31 true)⟩]
abbrev c18r6 : List GOp := [⟨none, (some 32), .mv 32 (.t 8 false)⟩,
  ⟨none, (some 33), .un 33 .not (.t 32 false)⟩]
abbrev c18r7 : List GOp := [⟨none, (some 34), .build 34 [(.int .i64 0), (.str []), (.oslice 1 []), (.oslice 4 [])] []⟩,
  ⟨none, none, .bstore 4 none (.t 34 true) 4⟩,
  ⟨none, (some 5), .mv 5 (.c (.bool false))⟩]
abbrev c18s8 : ACode := (.seq (.reg c18r7 [4, 5]) .ret)
abbrev c18s9 : ACode := (.cond (.t 33 false) c18s8 .skip)
abbrev c18r10 : List GOp := [⟨none, (some 35), .bload 35 7 none (some 4) false⟩,
  ⟨none, (some 36), .bidx 36 3 none (.c (.int .i64 1)) 2 1⟩,
  ⟨none, (some 37), .bload 37 3 (some 36) none false⟩,
  ⟨none, (some 38), .call (some 38) 40 [(.t 35 false), (.t 37 false)]⟩,
  ⟨none, (some 39), .extract 39 (.t 38 false) 0⟩,
  ⟨none, (some 40), .extract 40 (.t 38 false) 1⟩,
  ⟨none, none, .bstore 4 none (.t 39 true) 4⟩,
  ⟨none, (some 5), .mv 5 (.t 40 true)⟩]
abbrev c18s11 : ACode := (.seq (.reg c18r10 [4, 5]) .ret)
abbrev c18s12 : ACode := (.seq (.seq (.reg c18r6 [33]) c18s9) c18s11)
abbrev c18s13 : ACode := (.seq (.reg c18r5 [7, 8]) c18s12)
abbrev c18s14 : ACode := (.cond (.t 22 false) c18s13 .skip)
abbrev c18s15 : ACode := (.seq (.reg c18r4 [22]) c18s14)
abbrev c18r16 : List GOp := [⟨none, (some 13), .mv 13 (.t 6 false)⟩,
  ⟨none, (some 14), .bin 14 .add false (.t 13 false) (.c (.int .i64 1))⟩,
  ⟨none, (some 6), .mv 6 (.t 14 true)⟩]
abbrev c18s17 : ACode := (.seq (.block 1 c18s15) (.reg c18r16 [6]))
abbrev c18s18 : ACode := (.seq (.seq (.reg c18r2 [12]) c18s3) c18s17)
abbrev c18s19 : ACode := (.loop c18s18)
abbrev c18s20 : ACode := (.block 0 c18s19)
abbrev c18r21 : List GOp := [⟨none, (some 41), .build 41 [(.int .i64 0), (.str []), (.oslice 1 []), (.oslice 4 [])] []⟩,
  ⟨none, none, .bstore 4 none (.t 41 true) 4⟩,
  ⟨none, (some 5), .mv 5 (.c (.bool false))⟩]
abbrev c18s22 : ACode := (.seq (.reg c18r21 [4, 5]) .ret)
abbrev c18s23 : ACode := (.seq (.seq (.reg c18r1 [6]) c18s20) c18s22)
abbrev c18 : ACode := (.seq (.reg c18r0 [3, 4, 5]) c18s23)
def a18 : AFn := ⟨[3, 4, 7], [0, 1, 3, 4, 5, 6, 7, 8, 12, 22, 33], [14, 29, 30, 31, 34, 39, 40, 41], [], [(36, 3), (20, 3)], [], [], [], c18, [.cell 4 (some 4), .tmp 5]⟩
theorem is18 : IsFn Tryz.prog 18 2 a18 := isFn_of mix Tryz.func18 (by kernel_rfl) (by kernel_rfl) (by kernel_rfl) (by kernel_rfl) (by kernel_rfl)
theorem sound18 {args : List AV} {r : AV} (hl : args.length = 2) (h : awp Tryz.prog c18 (unw Tryz.prog [] (Ends [.cell 4 (some 4), .tmp 5] r)) (initSt args)) : Sound Tryz.prog 18 args r := sound_of is18 hl h
theorem total18 {args : List AV} {Φ : AV → Prop} (hl : args.length = 2) (h : awp Tryz.prog c18 (unw Tryz.prog [] (EndsP [.cell 4 (some 4), .tmp 5] Φ)) (initSt args)) : Total Tryz.prog 18 args Φ := total_of is18 hl h

/-! longshore/longshoreref20.Two -/
abbrev c19r0 : List GOp := [⟨none, (some 2), .bbox 2 (.t 0 false)⟩,
  ⟨none, (some 3), .bbox 3 (.t 1 false)⟩,
  ⟨none, (some 4), .balloc 4 (.agg [(.int .i64 0), (.str []), (.oslice 1 []), (.oslice 4 [])])⟩]
abbrev c19r1 : List GOp := [⟨none, (some 13), .baddr 13 2 0⟩,
  ⟨none, (some 14), .bload 14 2 (some 13) none false⟩,
  ⟨none, (some 15), .bin 15 .neq false (.t 14 false) (.c (.int .i64 3))⟩,
  ⟨none, (some 16), .mv 16 (.t 15 true)⟩,
  ⟨(some (16, false)), (some 17), .baddr 17 3 0⟩,
  ⟨(some (16, false)), (some 18), .bload 18 3 (some 17) none false⟩,
  ⟨(some (16, false)), (some 19), .bin 19 .neq false (.t 18 false) (.c (.int .i64 3))⟩,
  ⟨none, (some 20), .pick 20 (.t 16 false) (.c (.bool true)) (.t 19 false)⟩]
abbrev c19r2 : List GOp := [⟨none, (some 21), .bload 21 3 none (some 4) false⟩,
  ⟨none, none, .bstore 4 none (.t 21 true) 4⟩]
abbrev c19s3 : ACode := (.seq (.reg c19r2 [4]) .ret)
abbrev c19s4 : ACode := (.cond (.t 20 false) c19s3 .skip)
abbrev c19r5 : List GOp := [⟨none, (some 22), .baddr 22 2 2⟩,
  ⟨none, (some 23), .bload 23 2 (some 22) none false⟩,
  ⟨none, (some 24), .baddr 24 3 2⟩,
  ⟨none, (some 25), .bload 25 3 (some 24) none false⟩,
  ⟨none, (some 26), .call (some 26) 41 [(.t 23 false), (.t 25 false)]⟩,
  ⟨none, (some 5), .mv 5 (.t 26 true)⟩]
abbrev c19r6 : List GOp := [⟨none, (some 27), .build 27 [(.int .i64 0), (.str []), (.oslice 1 []), (.oslice 4 [])] [(0, 1, (.c (.int .i64 3)))]⟩,
  ⟨none, (some 6), .balloc 6 (.agg [(.int .i64 0), (.str []), (.oslice 1 []), (.oslice 4 [])])⟩,
  ⟨none, none, .bstore 6 none (.t 27 true) 4⟩]
abbrev c19r7 : List GOp := [⟨none, (some 7), .mv 7 (.c (.int .i64 0))⟩]
abbrev c19r8 : List GOp := [⟨none, (some 28), .mv 28 (.t 7 false)⟩,
  ⟨none, (some 29), .mv 29 (.t 5 false)⟩,
  ⟨none, (some 30), .len 30 false (.t 29 false)⟩,
  ⟨none, (some 31), .bin 31 .lss false (.t 28 false) (.t 30 false)⟩]
abbrev c19s9 : ACode := (.cond (.t 31 false) .skip (.exit 0))
abbrev c19r10 : List GOp := [⟨none, (some 35), .bload 35 2 none (some 4) false⟩,
  ⟨none, (some 36), .mv 36 (.t 5 false)⟩,
  ⟨none, (some 37), .mv 37 (.t 7 false)⟩,
  ⟨none, (some 38), .idx 38 (.t 36 false) (.t 37 false) 1⟩,
  ⟨none, (some 39), .vload 39 38 none⟩,
  ⟨none, (some 40), .call (some 40) 40 [(.t 35 false), (.t 39 false)]⟩,
  ⟨none, (some 34), .mv 34 (.t 40 true)⟩,
  ⟨none, (some 41), .extract 41 (.t 34 false) 0⟩,
  ⟨none, (some 42), .extract 42 (.t 34 false) 1⟩,
  ⟨none, (some 8), .balloc 8 (.agg [(.int .i64 0), (.str []), (.oslice 1 []), (.oslice 4 [])])⟩,
  ⟨none, none, .bstore 8 none (.t 41 true) 4⟩,
  ⟨none, (some 9), .mv 9 (.t 42 true)⟩]
abbrev c19r11 : List GOp := [⟨none, (some 44), .bload 44 3 none (some 4) false⟩,
  ⟨none, (some 45), .mv 45 (.t 5 false)⟩,
  ⟨none, (some 46), .mv 46 (.t 7 false)⟩,
  ⟨none, (some 47), .idx 47 (.t 45 false) (.t 46 false) 1⟩,
  ⟨none, (some 48), .vload 48 47 none⟩,
  ⟨none, (some 49), .call (some 49) 40 [(.t 44 false), (.t 48 false)]⟩,
  ⟨none, (some 43), .mv 43 (.t 49 true)⟩,
  ⟨none, (some 50), .extract 50 (.t 43 false) 0⟩,
  ⟨none, (some 51), .extract 51 (.t 43 false) 1⟩,
  ⟨none, (some 10), .balloc 10 (.agg [(.int .i64 0), (.str []), (.oslice 1 []), (.oslice 4 [])])⟩,
  ⟨none, none, .bstore 10 none (.t 50 true) 4⟩,
  ⟨none, (some 11), .mv 11 (.t 51 true)⟩]
abbrev c19r12 : List GOp := [⟨none, (some 52), .bload 52 10 none (some 4) false⟩,
  ⟨none, (some 12), .balloc 12 (.agg [(.int .i64 0), (.str []), (.oslice 1 []), (.oslice 4 [])])⟩,
  ⟨none, none, .bstore 12 none (.t 52 true) 4⟩]
abbrev c19r13 : List GOp := [⟨none, (some 53), .mv 53 (.t 11 false)⟩,
  ⟨none, (some 54), .un 54 .not (.t 53 false)⟩]
abbrev c19r14 : List GOp := [⟨none, (some 55), .bload 55 8 none (some 4) false⟩,
  ⟨none, none, .bstore 12 none (.t 55 true) 4⟩]
abbrev c19r15 : List GOp := [⟨none, (some 56), .mv 56 (.t 9 false)⟩,
  ⟨none, (some 57), .mv 57 (.t 56 true)⟩,
  ⟨(some (57, true)), (some 58), .mv 58 (.t 5 false)⟩,
  ⟨(some (57, true)), (some 59), .mv 59 (.t 7 false)⟩,
  ⟨(some (57, true)), (some 60), .idx 60 (.t 58 false) (.t 59 false) 1⟩,
  ⟨(some (57, true)), (some 61), .vload 61 60 none⟩,
  ⟨(some (57, true)), (some 62), .bin 62 .neq false (.t 61 false) (.c (.str [101, 120, 116, 101, 110, 100, 115]))⟩,
  ⟨none, (some 63), .pick 63 (.t 57 false) (.t 62 false) (.c (.bool false))⟩]
abbrev c19r16 : List GOp := [⟨none, (some 64), .bload 64 8 none (some 4) false⟩,
  ⟨none, (some 65), .bload 65 10 none (some 4) false⟩,
  ⟨none, (some 66), .call (some 66) 19 [(.t 64 false), (.t 65 false)]⟩,
  ⟨none, none, .bstore 12 none (.t 66 true) 4⟩]
abbrev c19s17 : ACode := (.cond (.t 63 false) (.reg c19r16 [12]) .skip)
abbrev c19s18 : ACode := (.seq (.reg c19r15 [63]) c19s17)
abbrev c19s19 : ACode := (.cond (.t 54 false) (.reg c19r14 [12]) c19s18)
abbrev c19r20 : List GOp := [⟨none, (some 67), .baddr 67 6 2⟩,
  ⟨none, (some 68), .btk 68 6 (some 67) 2⟩,
  ⟨none, (some 69), .mv 69 (.t 5 false)⟩,
  ⟨none, (some 70), .mv 70 (.t 7 false)⟩,
  ⟨none, (some 71), .idx 71 (.t 69 false) (.t 70 false) 1⟩,
  ⟨none, (some 72), .vload 72 71 none⟩,
  ⟨none, (some 73), .mkslice 73 1 [(.t 72 false)]⟩,
  ⟨none, (some 74), .append 74 (.t 68 true) (.t 73 false) 1 16⟩,
  ⟨none, (some 75), .baddr 75 6 2⟩,
  ⟨none, none, .bstore 6 (some 75) (.t 74 true) 1⟩]
abbrev c19r21 : List GOp := [⟨none, (some 76), .baddr 76 6 3⟩,
  ⟨none, (some 77), .btk 77 6 (some 76) 3⟩,
  ⟨none, (some 78), .bload 78 12 none (some 4) false⟩,
  ⟨none, (some 79), .mkslice 79 4 [(.t 78 false)]⟩,
  ⟨none, (some 80), .append 80 (.t 77 true) (.t 79 false) 4 72⟩,
  ⟨none, (some 81), .baddr 81 6 3⟩,
  ⟨none, none, .bstore 6 (some 81) (.t 80 true) 1⟩]
abbrev c19s22 : ACode := (.seq (.reg c19r20 [6]) (.reg c19r21 [6]))
abbrev c19s23 : ACode := (.seq (.seq (.reg c19r13 [54]) c19s19) c19s22)
abbrev c19s24 : ACode := (.seq (.reg c19r12 [12]) c19s23)
abbrev c19s25 : ACode := (.seq (.reg c19r11 [10, 11]) c19s24)
abbrev c19s26 : ACode := (.seq (.reg c19r10 [8, 9]) c19s25)
abbrev c19r27 : List GOp := [⟨none, (some 32), .mv 32 (.t 7 false)⟩,
  ⟨none, (some 33), .bin 33 .add false (.t 32 false) (.c (.int .i64 1))⟩,
  ⟨none, (some 7), .mv 7 (.t 33 true)⟩]
abbrev c19s28 : ACode := (.seq (.block 1 c19s26) (.reg c19r27 [7]))
abbrev c19s29 : ACode := (.seq (.seq (.reg c19r8 [31]) c19s9) c19s28)
abbrev c19s30 : ACode := (.loop c19s29)
abbrev c19s31 : ACode := (.block 0 c19s30)
abbrev c19r32 : List GOp := [⟨none, (some 82), .bload 82 6 none (some 4) false⟩,
  ⟨none, none, .bstore 4 none (.t 82 true) 4⟩]
abbrev c19s33 : ACode := (.seq (.reg c19r32 [4]) .ret)
abbrev c19s34 : ACode := (.seq (.seq (.reg c19r7 [7]) c19s31) c19s33)
abbrev c19s35 : ACode := (.seq (.reg c19r6 [6]) c19s34)
abbrev c19s36 : ACode := (.seq (.reg c19r5 [5]) c19s35)
abbrev c19s37 : ACode := (.seq (.seq (.reg c19r1 [20]) c19s4) c19s36)
abbrev c19 : ACode := (.seq (.reg c19r0 [2, 3, 4]) c19s37)
def a19 : AFn := ⟨[2, 3, 4, 6, 8, 10, 12], [0, 1, 2, 3, 4, 5, 6, 7, 8, 9, 10, 11, 12, 20, 31, 54, 63], [15, 21, 26, 27, 33, 40, 41, 42, 49, 50, 51, 52, 55, 56, 66, 68, 74, 77, 80, 82], [68, 77], [(81, 6), (76, 6), (75, 6), (67, 6), (24, 3), (22, 2), (17, 3), (13, 2)], [(81, 3), (76, 3), (75, 2), (67, 2), (24, 2), (22, 2), (17, 0), (13, 0)], [], [], c19, [.cell 4 (some 4)]⟩
theorem is19 : IsFn Tryz.prog 19 2 a19 := isFn_of mix Tryz.func19 (by kernel_rfl) (by kernel_rfl) (by kernel_rfl) (by kernel_rfl) (by kernel_rfl)
theorem sound19 {args : List AV} {r : AV} (hl : args.length = 2) (h : awp Tryz.prog c19 (unw Tryz.prog [] (Ends [.cell 4 (some 4)] r)) (initSt args)) : Sound Tryz.prog 19 args r := sound_of is19 hl h
theorem total19 {args : List AV} {Φ : AV → Prop} (hl : args.length = 2) (h : awp Tryz.prog c19 (unw Tryz.prog [] (EndsP [.cell 4 (some 4)] Φ)) (initSt args)) : Total Tryz.prog 19 args Φ := total_of is19 hl h

/-! longshore/longshoreref21.next -/
abbrev c21r0 : List GOp := [⟨none, (some 2), .bbox 2 (.t 0 false)⟩,
  ⟨none, (some 3), .bbox 3 (.t 1 false)⟩,
  ⟨none, (some 4), .balloc 4 (.agg [(.str []), (.str [])])⟩,
  ⟨none, (some 5), .mv 5 (.c (.bool false))⟩]
abbrev c21r1 : List GOp := [⟨none, (some 13), .bload 13 2 none (some 4) false⟩,
  ⟨none, (some 14), .call (some 14) 40 [(.t 13 false), (.c (.str [101, 120, 116, 101, 110, 100, 115]))]⟩,
  ⟨none, (some 12), .mv 12 (.t 14 true)⟩,
  ⟨none, (some 15), .extract 15 (.t 12 false) 0⟩,
  ⟨none, (some 16), .extract 16 (.t 12 false) 1⟩,
  ⟨none, (some 6), .balloc 6 (.agg [(.int .i64 0), (.str []), (.oslice 1 []), (.oslice 4 [])])⟩,
  ⟨none, none, .bstore 6 none (.t 15 true) 4⟩,
  ⟨none, (some 7), .mv 7 (.t 16 true)⟩]
abbrev c21r2 : List GOp := [⟨none, (some 17), .mv 17 (.t 7 false)⟩,
  ⟨none, (some 18), .un 18 .not (.t 17 false)⟩,
  ⟨none, (some 19), .mv 19 (.t 18 true)⟩,
  ⟨(some (19, false)), (some 20), .baddr 20 6 0⟩,
  ⟨(some (19, false)), (some 21), .bload 21 6 (some 20) none false⟩,
  ⟨(some (19, false)), (some 22), .bin 22 .neq false (.t 21 false) (.c (.int .i64 3))⟩,
  ⟨none, (some 23), .pick 23 (.t 19 false) (.c (.bool true)) (.t 22 false)⟩]
abbrev c21r3 : List GOp := [⟨none, (some 24), .bload 24 3 none (some 2) false⟩,
  ⟨none, none, .bstore 4 none (.t 24 true) 2⟩,
  ⟨none, (some 5), .mv 5 (.c (.bool false))⟩]
abbrev c21s4 : ACode := (.seq (.reg c21r3 [4, 5]) .ret)
abbrev c21s5 : ACode := (.cond (.t 23 false) c21s4 .skip)
abbrev c21r6 : List GOp := [⟨none, (some 26), .bload 26 6 none (some 4) false⟩,
  ⟨none, (some 27), .call (some 27) 40 [(.t 26 false), (.c (.str [115, 101, 114, 118, 105, 99, 101]))]⟩,
  ⟨none, (some 25), .mv 25 (.t 27 true)⟩,
  ⟨none, (some 28), .extract 28 (.t 25 false) 0⟩,
  ⟨none, (some 29), .extract 29 (.t 25 false) 1⟩,
  ⟨none, (some 8), .balloc 8 (.agg [(.int .i64 0), (.str []), (.oslice 1 []), (.oslice 4 [])])⟩,
  ⟨none, none, .bstore 8 none (.t 28 true) 4⟩,
  ⟨none, (some 9), .mv 9 (.t 29 true)⟩]
abbrev c21r7 : List GOp := [⟨none, (some 31), .bload 31 6 none (some 4) false⟩,
  ⟨none, (some 32), .call (some 32) 40 [(.t 31 false), (.c (.str [102, 105, 108, 101]))]⟩,
  ⟨none, (some 30), .mv 30 (.t 32 true)⟩,
  ⟨none, (some 33), .extract 33 (.t 30 false) 0⟩,
  ⟨none, (some 34), .extract 34 (.t 30 false) 1⟩,
  ⟨none, (some 10), .balloc 10 (.agg [(.int .i64 0), (.str []), (.oslice 1 []), (.oslice 4 [])])⟩,
  ⟨none, none, .bstore 10 none (.t 33 true) 4⟩,
  ⟨none, (some 11), .mv 11 (.t 34 true)⟩]
abbrev c21r8 : List GOp := [⟨none, (some 35), .mv 35 (.t 11 false)⟩,
  ⟨none, (some 36), .un 36 .not (.t 35 false)⟩]
abbrev c21r9 : List GOp := [⟨none, (some 37), .bidx 37 3 none (.c (.int .i64 0)) 2 1⟩,
  ⟨none, (some 38), .bload 38 3 (some 37) none false⟩,
  ⟨none, (some 39), .baddr 39 8 1⟩,
  ⟨none, (some 40), .bload 40 8 (some 39) none false⟩,
  ⟨none, (some 41), .build 41 [(.str []), (.str [])] [(0, 1, (.t 38 false)), (1, 1, (.t 40 false))]⟩,
  ⟨none, none, .bstore 4 none (.t 41 true) 2⟩,
  ⟨none, (some 5), .mv 5 (.c (.bool true))⟩]
abbrev c21s10 : ACode := (.seq (.reg c21r9 [4, 5]) .ret)
abbrev c21s11 : ACode := (.cond (.t 36 false) c21s10 .skip)
abbrev c21r12 : List GOp := [⟨none, (some 42), .baddr 42 10 1⟩,
  ⟨none, (some 43), .bload 43 10 (some 42) none false⟩,
  ⟨none, (some 44), .baddr 44 8 1⟩,
  ⟨none, (some 45), .bload 45 8 (some 44) none false⟩,
  ⟨none, (some 46), .build 46 [(.str []), (.str [])] [(0, 1, (.t 43 false)), (1, 1, (.t 45 false))]⟩,
  ⟨none, none, .bstore 4 none (.t 46 true) 2⟩,
  ⟨none, (some 5), .mv 5 (.c (.bool true))⟩]
abbrev c21s13 : ACode := (.seq (.reg c21r12 [4, 5]) .ret)
abbrev c21s14 : ACode := (.seq (.seq (.reg c21r8 [36]) c21s11) c21s13)
abbrev c21s15 : ACode := (.seq (.reg c21r7 [10, 11]) c21s14)
abbrev c21s16 : ACode := (.seq (.reg c21r6 [8]) c21s15)
abbrev c21s17 : ACode := (.seq (.seq (.reg c21r2 [23]) c21s5) c21s16)
abbrev c21s18 : ACode := (.seq (.reg c21r1 [6, 7]) c21s17)
abbrev c21 : ACode := (.seq (.reg c21r0 [2, 3, 4, 5]) c21s18)
def a21 : AFn := ⟨[2, 3, 4, 6, 8, 10], [0, 1, 2, 3, 4, 5, 6, 7, 8, 10, 11, 23, 36], [14, 15, 16, 18, 24, 27, 28, 29, 32, 33, 34, 41, 46], [], [(44, 8), (42, 10), (39, 8), (37, 3), (20, 6)], [(44, 1), (42, 1), (39, 1), (20, 0)], [], [], c21, [.cell 4 (some 2), .tmp 5]⟩
theorem is21 : IsFn Tryz.prog 21 2 a21 := isFn_of mix Tryz.func21 (by kernel_rfl) (by kernel_rfl) (by kernel_rfl) (by kernel_rfl) (by kernel_rfl)
theorem sound21 {args : List AV} {r : AV} (hl : args.length = 2) (h : awp Tryz.prog c21 (unw Tryz.prog [] (Ends [.cell 4 (some 2), .tmp 5] r)) (initSt args)) : Sound Tryz.prog 21 args r := sound_of is21 hl h
theorem total21 {args : List AV} {Φ : AV → Prop} (hl : args.length = 2) (h : awp Tryz.prog c21 (unw Tryz.prog [] (EndsP [.cell 4 (some 2), .tmp 5] Φ)) (initSt args)) : Total Tryz.prog 21 args Φ := total_of is21 hl h

/-! longshore/extend.find -/
abbrev c32r0 : List GOp := [⟨none, (some 6), .balloc 6 (.agg [(.int .i64 0), (.str []), (.oslice 1 []), (.oslice 4 [])])⟩,
  ⟨none, (some 7), .mv 7 (.c (.bool false))⟩]
abbrev c32r1 : List GOp := [⟨none, (some 10), .mv 10 (.t 0 false)⟩,
  ⟨none, (some 11), .len 11 false (.t 10 false)⟩,
  ⟨none, (some 12), .mv 12 (.c (.int .i64 0))⟩]
abbrev c32r2 : List GOp := [⟨none, (some 13), .bin 13 .lss false (.t 12 false) (.t 11 false)⟩]
abbrev c32r3 : List GOp := [⟨none, (some 14), .idx 14 (.t 10 false) (.t 12 false) 5⟩,
  ⟨none, (some 15), .vload 15 14 (some 5)⟩,
  ⟨none, (some 9), .balloc 9 (.agg [(.str []), (.int .i64 0), (.str []), (.oslice 1 []), (.oslice 4 [])])⟩,
  ⟨none, none, .bstore 9 none (.t 15 true) 5⟩]
abbrev c32r4 : List GOp := [⟨none, (some 16), .baddr 16 9 0⟩,
  ⟨none, (some 17), .bload 17 9 (some 16) none false⟩,
  ⟨none, (some 18), .mv 18 (.t 1 false)⟩,
  ⟨none, (some 19), .bin 19 .eql false (.t 17 false) (.t 18 false)⟩]
abbrev c32r5 : List GOp := [⟨none, (some 20), .baddr 20 9 1⟩,
  ⟨none, (some 21), .bload 21 9 (some 20) (some 4) false⟩,
  ⟨none, (some 22), .mv 22 (.t 2 false)⟩,
  ⟨none, (some 23), .mkslice 23 1 [(.c (.str [115, 101, 114, 118, 105, 99, 101, 115])), (.t 22 false)]⟩,
  ⟨none, (some 24), .call (some 24) 48 [(.t 21 false), (.t 23 false)]⟩,
  ⟨none, (some 25), .extract 25 (.t 24 false) 0⟩,
  ⟨none, (some 26), .extract 26 (.t 24 false) 1⟩,
  ⟨none, none, .bstore 6 none (.t 25 true) 4⟩,
  ⟨none, (some 7), .mv 7 (.t 26 true)⟩]
abbrev c32s6 : ACode := (.seq (.reg c32r5 [6, 7]) .ret)
abbrev c32s7 : ACode := (.cond (.t 19 false) c32s6 .skip)
abbrev c32s8 : ACode := (.seq (.reg c32r4 [19]) c32s7)
abbrev c32s9 : ACode := (.seq (.reg c32r3 [9]) c32s8)
abbrev c32r10 : List GOp := [⟨none, (some 27), .bin 27 .add false (.t 12 false) (.c (.int .i64 1))⟩,
  ⟨none, (some 12), .mv 12 (.t 27 true)⟩]
abbrev c32s11 : ACode := (.seq (.block 1 c32s9) (.reg c32r10 [12]))
abbrev c32s12 : ACode := (.seq (.cond (.t 13 false) .skip (.exit 0)) c32s11)
abbrev c32s13 : ACode := (.seq (.reg c32r2 [13]) c32s12)
abbrev c32s14 : ACode := (.loop c32s13)
abbrev c32s15 : ACode := (.block 0 c32s14)
abbrev c32r16 : List GOp := [⟨none, (some 28), .build 28 [(.int .i64 0), (.str []), (.oslice 1 []), (.oslice 4 [])] []⟩,
  ⟨none, none, .bstore 6 none (.t 28 true) 4⟩,
  ⟨none, (some 7), .mv 7 (.c (.bool false))⟩]
abbrev c32s17 : ACode := (.seq (.reg c32r16 [6, 7]) .ret)
abbrev c32s18 : ACode := (.seq (.seq (.reg c32r1 [10, 11, 12]) c32s15) c32s17)
abbrev c32 : ACode := (.seq (.reg c32r0 [6, 7]) c32s18)
def a32 : AFn := ⟨[6, 9], [0, 1, 2, 6, 7, 9, 10, 11, 12, 13, 19], [15, 25, 26, 27, 28], [], [(20, 9), (16, 9)], [(20, 1), (16, 0)], [], [], c32, [.cell 6 (some 4), .tmp 7]⟩
theorem is32 : IsFn Tryz.prog 32 3 a32 := isFn_of mix Tryz.func32 (by kernel_rfl) (by kernel_rfl) (by kernel_rfl) (by kernel_rfl) (by kernel_rfl)
theorem sound32 {args : List AV} {r : AV} (hl : args.length = 3) (h : awp Tryz.prog c32 (unw Tryz.prog [] (Ends [.cell 6 (some 4), .tmp 7] r)) (initSt args)) : Sound Tryz.prog 32 args r := sound_of is32 hl h
theorem total32 {args : List AV} {Φ : AV → Prop} (hl : args.length = 3) (h : awp Tryz.prog c32 (unw Tryz.prog [] (EndsP [.cell 6 (some 4), .tmp 7] Φ)) (initSt args)) : Total Tryz.prog 32 args Φ := total_of is32 hl h

/-! longshore/extend.next -/
abbrev c33r0 : List GOp := [⟨none, (some 2), .bbox 2 (.t 0 false)⟩,
  ⟨none, (some 3), .bbox 3 (.t 1 false)⟩,
  ⟨none, (some 4), .balloc 4 (.agg [(.str []), (.str [])])⟩,
  ⟨none, (some 5), .mv 5 (.c (.bool false))⟩]
abbrev c33r1 : List GOp := [⟨none, (some 12), .bload 12 2 none (some 4) false⟩,
  ⟨none, (some 13), .call (some 13) 36 [(.t 12 false), (.c (.str [101, 120, 116, 101, 110, 100, 115]))]⟩,
  ⟨none, (some 11), .mv 11 (.t 13 true)⟩,
  ⟨none, (some 14), .extract 14 (.t 11 false) 0⟩,
  ⟨none, (some 15), .extract 15 (.t 11 false) 1⟩,
  ⟨none, (some 6), .balloc 6 (.agg [(.int .i64 0), (.str []), (.oslice 1 []), (.oslice 4 [])])⟩,
  ⟨none, none, .bstore 6 none (.t 14 true) 4⟩,
  ⟨none, (some 7), .mv 7 (.t 15 true)⟩]
abbrev c33r2 : List GOp := [⟨none, (some 16), .mv 16 (.t 7 false)⟩,
  ⟨none, (some 17), .un 17 .not (.t 16 false)⟩,
  ⟨none, (some 18), .mv 18 (.t 17 true)⟩,
  ⟨(some (18, false)), (some 19), .baddr 19 6 0⟩,
  ⟨(some (18, false)), (some 20), .bload 20 6 (some 19) none false⟩,
  ⟨(some (18, false)), (some 21), .bin 21 .neq false (.t 20 false) (.c (.int .i64 3))⟩,
  ⟨none, (some 22), .pick 22 (.t 18 false) (.c (.bool true)) (.t 21 false)⟩]
abbrev c33r3 : List GOp := [⟨none, (some 23), .bload 23 3 none (some 2) false⟩,
  ⟨none, none, .bstore 4 none (.t 23 true) 2⟩,
  ⟨none, (some 5), .mv 5 (.c (.bool false))⟩]
abbrev c33s4 : ACode := (.seq (.reg c33r3 [4, 5]) .ret)
abbrev c33s5 : ACode := (.cond (.t 22 false) c33s4 .skip)
abbrev c33r6 : List GOp := [⟨none, (some 25), .bload 25 6 none (some 4) false⟩,
  ⟨none, (some 26), .call (some 26) 36 [(.t 25 false), (.c (.str [115, 101, 114, 118, 105, 99, 101]))]⟩,
  ⟨none, (some 24), .mv 24 (.t 26 true)⟩,
  ⟨none, (some 27), .extract 27 (.t 24 false) 0⟩,
  ⟨none, (some 28), .extract 28 (.t 24 false) 1⟩,
  ⟨none, (some 8), .balloc 8 (.agg [(.int .i64 0), (.str []), (.oslice 1 []), (.oslice 4 [])])⟩,
  ⟨none, none, .bstore 8 none (.t 27 true) 4⟩,
  ⟨none, (some 9), .mv 9 (.t 28 true)⟩]
abbrev c33r7 : List GOp := [⟨none, (some 30), .bload 30 6 none (some 4) false⟩,
  ⟨none, (some 31), .call (some 31) 36 [(.t 30 false), (.c (.str [102, 105, 108, 101]))]⟩,
  ⟨none, (some 29), .mv 29 (.t 31 true)⟩,
  ⟨none, (some 32), .extract 32 (.t 29 false) 0⟩,
  ⟨none, (some 33), .extract 33 (.t 29 false) 1⟩,
  ⟨none, (some 10), .balloc 10 (.agg [(.int .i64 0), (.str []), (.oslice 1 []), (.oslice 4 [])])⟩,
  ⟨none, none, .bstore 10 none (.t 32 true) 4⟩,
  ⟨none, (some 7), .mv 7 (.t 33 true)⟩]
abbrev c33r8 : List GOp := [⟨none, (some 34), .mv 34 (.t 7 false)⟩]
abbrev c33r9 : List GOp := [⟨none, (some 35), .baddr 35 10 1⟩,
  ⟨none, (some 36), .bload 36 10 (some 35) none false⟩,
  ⟨none, (some 37), .bidx 37 3 none (.c (.int .i64 0)) 2 1⟩,
  ⟨none, none, .bstore 3 (some 37) (.t 36 true) 1⟩]
abbrev c33s10 : ACode := (.cond (.t 34 false) (.reg c33r9 [3]) .skip)
abbrev c33r11 : List GOp := [⟨none, (some 38), .baddr 38 8 1⟩,
  ⟨none, (some 39), .bload 39 8 (some 38) none false⟩,
  ⟨none, (some 40), .bidx 40 3 none (.c (.int .i64 1)) 2 1⟩,
  ⟨none, none, .bstore 3 (some 40) (.t 39 true) 1⟩]
abbrev c33r12 : List GOp := [⟨none, (some 41), .bload 41 3 none (some 2) false⟩,
  ⟨none, none, .bstore 4 none (.t 41 true) 2⟩,
  ⟨none, (some 5), .mv 5 (.c (.bool true))⟩]
abbrev c33s13 : ACode := (.seq (.reg c33r12 [4, 5]) .ret)
abbrev c33s14 : ACode := (.seq (.reg c33r11 [3]) c33s13)
abbrev c33s15 : ACode := (.seq (.seq (.reg c33r8 [34]) c33s10) c33s14)
abbrev c33s16 : ACode := (.seq (.reg c33r7 [10, 7]) c33s15)
abbrev c33s17 : ACode := (.seq (.reg c33r6 [8]) c33s16)
abbrev c33s18 : ACode := (.seq (.seq (.reg c33r2 [22]) c33s5) c33s17)
abbrev c33s19 : ACode := (.seq (.reg c33r1 [6, 7]) c33s18)
abbrev c33 : ACode := (.seq (.reg c33r0 [2, 3, 4, 5]) c33s19)
def a33 : AFn := ⟨[2, 3, 4, 6, 8, 10], [0, 1, 2, 3, 4, 5, 6, 7, 8, 10, 22, 34], [13, 14, 15, 17, 23, 26, 27, 28, 31, 32, 33, 36, 39, 41], [], [(40, 3), (38, 8), (37, 3), (35, 10), (19, 6)], [(38, 1), (35, 1), (19, 0)], [], [], c33, [.cell 4 (some 2), .tmp 5]⟩
theorem is33 : IsFn Tryz.prog 33 2 a33 := isFn_of mix Tryz.func33 (by kernel_rfl) (by kernel_rfl) (by kernel_rfl) (by kernel_rfl) (by kernel_rfl)
theorem sound33 {args : List AV} {r : AV} (hl : args.length = 2) (h : awp Tryz.prog c33 (unw Tryz.prog [] (Ends [.cell 4 (some 2), .tmp 5] r)) (initSt args)) : Sound Tryz.prog 33 args r := sound_of is33 hl h
theorem total33 {args : List AV} {Φ : AV → Prop} (hl : args.length = 2) (h : awp Tryz.prog c33 (unw Tryz.prog [] (EndsP [.cell 4 (some 2), .tmp 5] Φ)) (initSt args)) : Total Tryz.prog 33 args Φ := total_of is33 hl h

/-! longshore/blend.pairs -/
abbrev c34r0 : List GOp := [⟨none, (some 2), .bbox 2 (.t 0 false)⟩,
  ⟨none, (some 3), .bbox 3 (.t 1 false)⟩,
  ⟨none, (some 4), .mv 4 (.c (.bool false))⟩]
abbrev c34r1 : List GOp := [⟨none, (some 5), .baddr 5 2 0⟩,
  ⟨none, (some 6), .bload 6 2 (some 5) none false⟩,
  ⟨none, (some 7), .bin 7 .eql false (.t 6 false) (.c (.int .i64 3))⟩,
  ⟨none, (some 8), .mv 8 (.t 7 true)⟩,
  ⟨(some (8, true)), (some 9), .baddr 9 3 0⟩,
  ⟨(some (8, true)), (some 10), .bload 10 3 (some 9) none false⟩,
  ⟨(some (8, true)), (some 11), .bin 11 .eql false (.t 10 false) (.c (.int .i64 3))⟩,
  ⟨none, (some 12), .pick 12 (.t 8 false) (.t 11 false) (.c (.bool false))⟩,
  ⟨none, (some 4), .mv 4 (.t 12 true)⟩]
abbrev c34s2 : ACode := (.seq (.reg c34r1 [4]) .ret)
abbrev c34 : ACode := (.seq (.reg c34r0 [2, 3, 4]) c34s2)
def a34 : AFn := ⟨[2, 3], [0, 1, 2, 3, 4], [7, 12], [], [(9, 3), (5, 2)], [(9, 0), (5, 0)], [], [], c34, [.tmp 4]⟩
theorem is34 : IsFn Tryz.prog 34 2 a34 := isFn_of mix Tryz.func34 (by kernel_rfl) (by kernel_rfl) (by kernel_rfl) (by kernel_rfl) (by kernel_rfl)
theorem sound34 {args : List AV} {r : AV} (hl : args.length = 2) (h : awp Tryz.prog c34 (unw Tryz.prog [] (Ends [.tmp 4] r)) (initSt args)) : Sound Tryz.prog 34 args r := sound_of is34 hl h
theorem total34 {args : List AV} {Φ : AV → Prop} (hl : args.length = 2) (h : awp Tryz.prog c34 (unw Tryz.prog [] (EndsP [.tmp 4] Φ)) (initSt args)) : Total Tryz.prog 34 args Φ := total_of is34 hl h

/-! longshore/name.Both -/
abbrev c35r0 : List GOp := [⟨none, (some 4), .mv 4 (.c (.oslice 1 []))⟩]
abbrev c35r1 : List GOp := [⟨none, (some 5), .mv 5 (.t 0 false)⟩,
  ⟨none, (some 6), .mv 6 (.t 1 false)⟩,
  ⟨none, (some 7), .mkslice 7 1 [(.t 5 false), (.t 6 false)]⟩,
  ⟨none, (some 8), .call (some 8) 38 [(.t 7 false)]⟩,
  ⟨none, (some 9), .call (some 9) 49 [(.t 8 false)]⟩,
  ⟨none, (some 4), .mv 4 (.t 9 true)⟩]
abbrev c35s2 : ACode := (.seq (.reg c35r1 [4]) .ret)
abbrev c35 : ACode := (.seq (.reg c35r0 [4]) c35s2)
def a35 : AFn := ⟨[], [0, 1, 4], [9], [], [], [], [], [], c35, [.tmp 4]⟩
theorem is35 : IsFn Tryz.prog 35 2 a35 := isFn_of mix Tryz.func35 (by kernel_rfl) (by kernel_rfl) (by kernel_rfl) (by kernel_rfl) (by kernel_rfl)
theorem sound35 {args : List AV} {r : AV} (hl : args.length = 2) (h : awp Tryz.prog c35 (unw Tryz.prog [] (Ends [.tmp 4] r)) (initSt args)) : Sound Tryz.prog 35 args r := sound_of is35 hl h
theorem total35 {args : List AV} {Φ : AV → Prop} (hl : args.length = 2) (h : awp Tryz.prog c35 (unw Tryz.prog [] (EndsP [.tmp 4] Φ)) (initSt args)) : Total Tryz.prog 35 args Φ := total_of is35 hl h

/-! longshore/node.Get -/
abbrev c36r0 : List GOp := [⟨none, (some 2), .bbox 2 (.t 0 false)⟩,
  ⟨none, (some 4), .balloc 4 (.agg [(.int .i64 0), (.str []), (.oslice 1 []), (.oslice 4 [])])⟩,
  ⟨none, (some 5), .mv 5 (.c (.bool false))⟩]
abbrev c36r1 : List GOp := [⟨none, (some 7), .bload 7 2 none (some 4) false⟩,
  ⟨none, (some 8), .mv 8 (.t 1 false)⟩,
  ⟨none, (some 9), .call (some 9) 37 [(.t 7 false), (.t 8 false)]⟩,
  ⟨none, (some 6), .mv 6 (.t 9 true)⟩]
abbrev c36r2 : List GOp := [⟨none, (some 10), .mv 10 (.t 6 false)⟩,
  ⟨none, (some 11), .bin 11 .lss false (.t 10 false) (.c (.int .i64 0))⟩]
abbrev c36r3 : List GOp := [⟨none, (some 12), .build 12 [(.int .i64 0), (.str []), (.oslice 1 []), (.oslice 4 [])] []⟩,
  ⟨none, none, .bstore 4 none (.t 12 true) 4⟩,
  ⟨none, (some 5), .mv 5 (.c (.bool false))⟩]
abbrev c36s4 : ACode := (.seq (.reg c36r3 [4, 5]) .ret)
abbrev c36s5 : ACode := (.cond (.t 11 false) c36s4 .skip)
abbrev c36r6 : List GOp := [⟨none, (some 13), .baddr 13 2 3⟩,
  ⟨none, (some 14), .bload 14 2 (some 13) none false⟩,
  ⟨none, (some 15), .mv 15 (.t 6 false)⟩,
  ⟨none, (some 16), .idx 16 (.t 14 false) (.t 15 false) 4⟩,
  ⟨none, (some 17), .vload 17 16 (some 4)⟩,
  ⟨none, none, .bstore 4 none (.t 17 true) 4⟩,
  ⟨none, (some 5), .mv 5 (.c (.bool true))⟩]
abbrev c36s7 : ACode := (.seq (.reg c36r6 [4, 5]) .ret)
abbrev c36s8 : ACode := (.seq (.seq (.reg c36r2 [11]) c36s5) c36s7)
abbrev c36s9 : ACode := (.seq (.reg c36r1 [6]) c36s8)
abbrev c36 : ACode := (.seq (.reg c36r0 [2, 4, 5]) c36s9)
def a36 : AFn := ⟨[2, 4], [0, 1, 2, 4, 5, 6, 11], [9, 12, 17], [], [(13, 2)], [(13, 3)], [], [], c36, [.cell 4 (some 4), .tmp 5]⟩
theorem is36 : IsFn Tryz.prog 36 2 a36 := isFn_of mix Tryz.func36 (by kernel_rfl) (by kernel_rfl) (by kernel_rfl) (by kernel_rfl) (by kernel_rfl)
theorem sound36 {args : List AV} {r : AV} (hl : args.length = 2) (h : awp Tryz.prog c36 (unw Tryz.prog [] (Ends [.cell 4 (some 4), .tmp 5] r)) (initSt args)) : Sound Tryz.prog 36 args r := sound_of is36 hl h
theorem total36 {args : List AV} {Φ : AV → Prop} (hl : args.length = 2) (h : awp Tryz.prog c36 (unw Tryz.prog [] (EndsP [.cell 4 (some 4), .tmp 5] Φ)) (initSt args)) : Total Tryz.prog 36 args Φ := total_of is36 hl h

/-! longshore/node.place -/
abbrev c37r0 : List GOp := [⟨none, (some 2), .bbox 2 (.t 0 false)⟩,
  ⟨none, (some 4), .mv 4 (.c (.int .i64 0))⟩]
abbrev c37r1 : List GOp := [⟨none, (some 5), .baddr 5 2 0⟩,
  ⟨none, (some 6), .bload 6 2 (some 5) none false⟩,
  ⟨none, (some 7), .bin 7 .neq false (.t 6 false) (.c (.int .i64 3))⟩,
  ⟨none, (some 8), .mv 8 (.t 7 true)⟩,
  ⟨(some (8, false)), (some 9), .baddr 9 2 2⟩,
  ⟨(some (8, false)), (some 10), .bload 10 2 (some 9) none false⟩,
  ⟨(some (8, false)), (some 11), .len 11 false (.t 10 false)⟩,
  ⟨(some (8, false)), (some 12), .baddr 12 2 3⟩,
  ⟨(some (8, false)), (some 13), .bload 13 2 (some 12) none false⟩,
  ⟨(some (8, false)), (some 14), .len 14 false (.t 13 false)⟩,
  ⟨(some (8, false)), (some 15), .bin 15 .neq false (.t 11 false) (.t 14 false)⟩,
  ⟨none, (some 16), .pick 16 (.t 8 false) (.c (.bool true)) (.t 15 false)⟩]
abbrev c37r2 : List GOp := [⟨none, (some 4), .mv 4 (.c (.int .i64 (-1)))⟩]
abbrev c37s3 : ACode := (.seq (.reg c37r2 [4]) .ret)
abbrev c37s4 : ACode := (.cond (.t 16 false) c37s3 .skip)
abbrev c37r5 : List GOp := [⟨none, (some 17), .baddr 17 2 2⟩,
  ⟨none, (some 18), .bload 18 2 (some 17) none false⟩,
  ⟨none, (some 19), .mv 19 (.t 1 false)⟩,
  ⟨none, (some 20), .call (some 20) 50 [(.t 18 false), (.t 19 false)]⟩,
  ⟨none, (some 4), .mv 4 (.t 20 true)⟩]
abbrev c37s6 : ACode := (.seq (.reg c37r5 [4]) .ret)
abbrev c37s7 : ACode := (.seq (.seq (.reg c37r1 [16]) c37s4) c37s6)
abbrev c37 : ACode := (.seq (.reg c37r0 [2, 4]) c37s7)
def a37 : AFn := ⟨[2], [0, 1, 2, 4, 16], [7, 20], [], [(17, 2), (12, 2), (9, 2), (5, 2)], [(17, 2), (12, 3), (9, 2), (5, 0)], [], [], c37, [.tmp 4]⟩
theorem is37 : IsFn Tryz.prog 37 2 a37 := isFn_of mix Tryz.func37 (by kernel_rfl) (by kernel_rfl) (by kernel_rfl) (by kernel_rfl) (by kernel_rfl)
theorem sound37 {args : List AV} {r : AV} (hl : args.length = 2) (h : awp Tryz.prog c37 (unw Tryz.prog [] (Ends [.tmp 4] r)) (initSt args)) : Sound Tryz.prog 37 args r := sound_of is37 hl h
theorem total37 {args : List AV} {Φ : AV → Prop} (hl : args.length = 2) (h : awp Tryz.prog c37 (unw Tryz.prog [] (EndsP [.tmp 4] Φ)) (initSt args)) : Total Tryz.prog 37 args Φ := total_of is37 hl h

/-! slices.Concat[[]string,string] -/
abbrev c38r0 : List GOp := [⟨none, (some 2), .mv 2 (.c (.oslice 1 []))⟩]
abbrev c38r1 : List GOp := [⟨none, (some 3), .mv 3 (.c (.int .i64 0))⟩]
abbrev c38r2 : List GOp := [⟨none, (some 9), .mv 9 (.t 0 false)⟩,
  ⟨none, (some 10), .len 10 false (.t 9 false)⟩,
  ⟨none, (some 11), .mv 11 (.c (.int .i64 0))⟩]
abbrev c38r3 : List GOp := [⟨none, (some 12), .bin 12 .lss false (.t 11 false) (.t 10 false)⟩]
abbrev c38r4 : List GOp := [⟨none, (some 13), .idx 13 (.t 9 false) (.t 11 false) 1⟩,
  ⟨none, (some 14), .vload 14 13 none⟩,
  ⟨none, (some 5), .mv 5 (.t 14 true)⟩]
abbrev c38r5 : List GOp := [⟨none, (some 15), .mv 15 (.t 3 false)⟩,
  ⟨none, (some 16), .mv 16 (.t 5 false)⟩,
  ⟨none, (some 17), .len 17 false (.t 16 false)⟩,
  ⟨none, (some 18), .bin 18 .add false (.t 15 false) (.t 17 false)⟩,
  ⟨none, (some 3), .mv 3 (.t 18 true)⟩]
abbrev c38r6 : List GOp := [⟨none, (some 19), .mv 19 (.t 3 false)⟩,
  ⟨none, (some 20), .bin 20 .lss false (.t 19 false) (.c (.int .i64 0))⟩]
abbrev c38r7 : List GOp := [⟨none, (some 21), .bot (some 21)⟩,
  ⟨none, none, .bot none⟩]
abbrev c38s8 : ACode := (.cond (.t 20 false) (.reg c38r7 []) .skip)
abbrev c38s9 : ACode := (.seq (.reg c38r6 [20]) c38s8)
abbrev c38s10 : ACode := (.seq (.reg c38r5 [3]) c38s9)
abbrev c38s11 : ACode := (.seq (.reg c38r4 [5]) c38s10)
abbrev c38r12 : List GOp := [⟨none, (some 22), .bin 22 .add false (.t 11 false) (.c (.int .i64 1))⟩,
  ⟨none, (some 11), .mv 11 (.t 22 true)⟩]
abbrev c38s13 : ACode := (.seq (.block 1 c38s11) (.reg c38r12 [11]))
abbrev c38s14 : ACode := (.seq (.cond (.t 12 false) .skip (.exit 0)) c38s13)
abbrev c38s15 : ACode := (.seq (.reg c38r3 [12]) c38s14)
abbrev c38s16 : ACode := (.loop c38s15)
abbrev c38s17 : ACode := (.block 0 c38s16)
abbrev c38r18 : List GOp := [⟨none, (some 23), .mv 23 (.t 3 false)⟩,
  ⟨none, (some 24), .grow 24 51 (.t 23 false) 1⟩,
  ⟨none, (some 6), .mv 6 (.t 24 true)⟩]
abbrev c38r19 : List GOp := [⟨none, (some 25), .mv 25 (.t 0 false)⟩,
  ⟨none, (some 26), .len 26 false (.t 25 false)⟩,
  ⟨none, (some 27), .mv 27 (.c (.int .i64 0))⟩]
abbrev c38r20 : List GOp := [⟨none, (some 28), .bin 28 .lss false (.t 27 false) (.t 26 false)⟩]
abbrev c38r21 : List GOp := [⟨none, (some 29), .idx 29 (.t 25 false) (.t 27 false) 1⟩,
  ⟨none, (some 30), .vload 30 29 none⟩,
  ⟨none, (some 8), .mv 8 (.t 30 true)⟩]
abbrev c38r22 : List GOp := [⟨none, (some 31), .take 31 6⟩,
  ⟨none, (some 32), .mv 32 (.t 8 false)⟩,
  ⟨none, (some 33), .append 33 (.t 31 true) (.t 32 false) 1 16⟩,
  ⟨none, (some 6), .mv 6 (.t 33 true)⟩]
abbrev c38s23 : ACode := (.seq (.reg c38r21 [8]) (.reg c38r22 [6]))
abbrev c38r24 : List GOp := [⟨none, (some 34), .bin 34 .add false (.t 27 false) (.c (.int .i64 1))⟩,
  ⟨none, (some 27), .mv 27 (.t 34 true)⟩]
abbrev c38s25 : ACode := (.seq (.block 3 c38s23) (.reg c38r24 [27]))
abbrev c38s26 : ACode := (.seq (.cond (.t 28 false) .skip (.exit 2)) c38s25)
abbrev c38s27 : ACode := (.seq (.reg c38r20 [28]) c38s26)
abbrev c38s28 : ACode := (.loop c38s27)
abbrev c38s29 : ACode := (.block 2 c38s28)
abbrev c38r30 : List GOp := [⟨none, (some 35), .mv 35 (.t 6 false)⟩,
  ⟨none, (some 2), .mv 2 (.t 35 true)⟩]
abbrev c38s31 : ACode := (.seq (.reg c38r30 [2]) .ret)
abbrev c38s32 : ACode := (.seq (.seq (.reg c38r19 [25, 26, 27]) c38s29) c38s31)
abbrev c38s33 : ACode := (.seq (.reg c38r18 [6]) c38s32)
abbrev c38s34 : ACode := (.seq (.seq (.reg c38r2 [9, 10, 11]) c38s17) c38s33)
abbrev c38s35 : ACode := (.seq (.reg c38r1 [3]) c38s34)
abbrev c38 : ACode := (.seq (.reg c38r0 [2]) c38s35)
def a38 : AFn := ⟨[], [0, 2, 3, 5, 6, 8, 9, 10, 11, 12, 20, 25, 26, 27, 28], [14, 18, 22, 24, 30, 31, 33, 34, 35], [31], [], [], [(51, 1)], [], c38, [.tmp 2]⟩
theorem is38 : IsFn Tryz.prog 38 1 a38 := isFn_of mix Tryz.func38 (by kernel_rfl) (by kernel_rfl) (by kernel_rfl) (by kernel_rfl) (by kernel_rfl)
theorem sound38 {args : List AV} {r : AV} (hl : args.length = 1) (h : awp Tryz.prog c38 (unw Tryz.prog [] (Ends [.tmp 2] r)) (initSt args)) : Sound Tryz.prog 38 args r := sound_of is38 hl h
theorem total38 {args : List AV} {Φ : AV → Prop} (hl : args.length = 1) (h : awp Tryz.prog c38 (unw Tryz.prog [] (EndsP [.tmp 2] Φ)) (initSt args)) : Total Tryz.prog 38 args Φ := total_of is38 hl h

/-! slices.Concat[[]longshore/api.Node,longshore/api.Node] -/
abbrev c39r0 : List GOp := [⟨none, (some 2), .mv 2 (.c (.oslice 4 []))⟩]
abbrev c39r1 : List GOp := [⟨none, (some 3), .mv 3 (.c (.int .i64 0))⟩]
abbrev c39r2 : List GOp := [⟨none, (some 9), .mv 9 (.t 0 false)⟩,
  ⟨none, (some 10), .len 10 false (.t 9 false)⟩,
  ⟨none, (some 11), .mv 11 (.c (.int .i64 0))⟩]
abbrev c39r3 : List GOp := [⟨none, (some 12), .bin 12 .lss false (.t 11 false) (.t 10 false)⟩]
abbrev c39r4 : List GOp := [⟨none, (some 13), .idx 13 (.t 9 false) (.t 11 false) 1⟩,
  ⟨none, (some 14), .vload 14 13 none⟩,
  ⟨none, (some 5), .mv 5 (.t 14 true)⟩]
abbrev c39r5 : List GOp := [⟨none, (some 15), .mv 15 (.t 3 false)⟩,
  ⟨none, (some 16), .mv 16 (.t 5 false)⟩,
  ⟨none, (some 17), .len 17 false (.t 16 false)⟩,
  ⟨none, (some 18), .bin 18 .add false (.t 15 false) (.t 17 false)⟩,
  ⟨none, (some 3), .mv 3 (.t 18 true)⟩]
abbrev c39r6 : List GOp := [⟨none, (some 19), .mv 19 (.t 3 false)⟩,
  ⟨none, (some 20), .bin 20 .lss false (.t 19 false) (.c (.int .i64 0))⟩]
abbrev c39r7 : List GOp := [⟨none, (some 21), .bot (some 21)⟩,
  ⟨none, none, .bot none⟩]
abbrev c39s8 : ACode := (.cond (.t 20 false) (.reg c39r7 []) .skip)
abbrev c39s9 : ACode := (.seq (.reg c39r6 [20]) c39s8)
abbrev c39s10 : ACode := (.seq (.reg c39r5 [3]) c39s9)
abbrev c39s11 : ACode := (.seq (.reg c39r4 [5]) c39s10)
abbrev c39r12 : List GOp := [⟨none, (some 22), .bin 22 .add false (.t 11 false) (.c (.int .i64 1))⟩,
  ⟨none, (some 11), .mv 11 (.t 22 true)⟩]
abbrev c39s13 : ACode := (.seq (.block 1 c39s11) (.reg c39r12 [11]))
abbrev c39s14 : ACode := (.seq (.cond (.t 12 false) .skip (.exit 0)) c39s13)
abbrev c39s15 : ACode := (.seq (.reg c39r3 [12]) c39s14)
abbrev c39s16 : ACode := (.loop c39s15)
abbrev c39s17 : ACode := (.block 0 c39s16)
abbrev c39r18 : List GOp := [⟨none, (some 23), .mv 23 (.t 3 false)⟩,
  ⟨none, (some 24), .grow 24 52 (.t 23 false) 4⟩,
  ⟨none, (some 6), .mv 6 (.t 24 true)⟩]
abbrev c39r19 : List GOp := [⟨none, (some 25), .mv 25 (.t 0 false)⟩,
  ⟨none, (some 26), .len 26 false (.t 25 false)⟩,
  ⟨none, (some 27), .mv 27 (.c (.int .i64 0))⟩]
abbrev c39r20 : List GOp := [⟨none, (some 28), .bin 28 .lss false (.t 27 false) (.t 26 false)⟩]
abbrev c39r21 : List GOp := [⟨none, (some 29), .idx 29 (.t 25 false) (.t 27 false) 1⟩,
  ⟨none, (some 30), .vload 30 29 none⟩,
  ⟨none, (some 8), .mv 8 (.t 30 true)⟩]
abbrev c39r22 : List GOp := [⟨none, (some 31), .take 31 6⟩,
  ⟨none, (some 32), .mv 32 (.t 8 false)⟩,
  ⟨none, (some 33), .append 33 (.t 31 true) (.t 32 false) 4 72⟩,
  ⟨none, (some 6), .mv 6 (.t 33 true)⟩]
abbrev c39s23 : ACode := (.seq (.reg c39r21 [8]) (.reg c39r22 [6]))
abbrev c39r24 : List GOp := [⟨none, (some 34), .bin 34 .add false (.t 27 false) (.c (.int .i64 1))⟩,
  ⟨none, (some 27), .mv 27 (.t 34 true)⟩]
abbrev c39s25 : ACode := (.seq (.block 3 c39s23) (.reg c39r24 [27]))
abbrev c39s26 : ACode := (.seq (.cond (.t 28 false) .skip (.exit 2)) c39s25)
abbrev c39s27 : ACode := (.seq (.reg c39r20 [28]) c39s26)
abbrev c39s28 : ACode := (.loop c39s27)
abbrev c39s29 : ACode := (.block 2 c39s28)
abbrev c39r30 : List GOp := [⟨none, (some 35), .mv 35 (.t 6 false)⟩,
  ⟨none, (some 2), .mv 2 (.t 35 true)⟩]
abbrev c39s31 : ACode := (.seq (.reg c39r30 [2]) .ret)
abbrev c39s32 : ACode := (.seq (.seq (.reg c39r19 [25, 26, 27]) c39s29) c39s31)
abbrev c39s33 : ACode := (.seq (.reg c39r18 [6]) c39s32)
abbrev c39s34 : ACode := (.seq (.seq (.reg c39r2 [9, 10, 11]) c39s17) c39s33)
abbrev c39s35 : ACode := (.seq (.reg c39r1 [3]) c39s34)
abbrev c39 : ACode := (.seq (.reg c39r0 [2]) c39s35)
def a39 : AFn := ⟨[], [0, 2, 3, 5, 6, 8, 9, 10, 11, 12, 20, 25, 26, 27, 28], [14, 18, 22, 24, 30, 31, 33, 34, 35], [31], [], [], [(52, 4)], [], c39, [.tmp 2]⟩
theorem is39 : IsFn Tryz.prog 39 1 a39 := isFn_of mix Tryz.func39 (by kernel_rfl) (by kernel_rfl) (by kernel_rfl) (by kernel_rfl) (by kernel_rfl)
theorem sound39 {args : List AV} {r : AV} (hl : args.length = 1) (h : awp Tryz.prog c39 (unw Tryz.prog [] (Ends [.tmp 2] r)) (initSt args)) : Sound Tryz.prog 39 args r := sound_of is39 hl h
theorem total39 {args : List AV} {Φ : AV → Prop} (hl : args.length = 1) (h : awp Tryz.prog c39 (unw Tryz.prog [] (EndsP [.tmp 2] Φ)) (initSt args)) : Total Tryz.prog 39 args Φ := total_of is39 hl h

/-! longshore/node.At -/
abbrev c48r0 : List GOp := [⟨none, (some 2), .bbox 2 (.t 0 false)⟩,
  ⟨none, (some 4), .balloc 4 (.agg [(.int .i64 0), (.str []), (.oslice 1 []), (.oslice 4 [])])⟩,
  ⟨none, (some 5), .mv 5 (.c (.bool false))⟩]
abbrev c48r1 : List GOp := [⟨none, (some 12), .mv 12 (.t 1 false)⟩,
  ⟨none, (some 13), .len 13 false (.t 12 false)⟩,
  ⟨none, (some 14), .mv 14 (.c (.int .i64 0))⟩]
abbrev c48r2 : List GOp := [⟨none, (some 15), .bin 15 .lss false (.t 14 false) (.t 13 false)⟩]
abbrev c48r3 : List GOp := [⟨none, (some 16), .idx 16 (.t 12 false) (.t 14 false) 1⟩,
  ⟨none, (some 17), .vload 17 16 none⟩,
  ⟨none, (some 7), .mv 7 (.t 17 true)⟩]
abbrev c48r4 : List GOp := [⟨none, (some 18), .baddr 18 2 0⟩,
  ⟨none, (some 19), .bload 19 2 (some 18) none false⟩,
  ⟨none, (some 20), .bin 20 .eql false (.t 19 false) (.c (.int .i64 2))⟩]
abbrev c48r5 : List GOp := [⟨none, (some 22), .mv 22 (.t 7 false)⟩,
  ⟨none, (some 23), .baddr 23 2 3⟩,
  ⟨none, (some 24), .bload 24 2 (some 23) none false⟩,
  ⟨none, (some 25), .len 25 false (.t 24 false)⟩,
  ⟨none, (some 26), .call (some 26) 55 [(.t 22 false), (.t 25 false)]⟩,
  ⟨none, (some 21), .mv 21 (.t 26 true)⟩,
  ⟨none, (some 27), .extract 27 (.t 21 false) 0⟩,
  ⟨none, (some 28), .extract 28 (.t 21 false) 1⟩,
  ⟨none, (some 8), .mv 8 (.t 27 true)⟩,
  ⟨none, (some 9), .mv 9 (.t 28 true)⟩]
abbrev c48r6 : List GOp := [⟨none, (some 29), .mv 29 (.t 9 false)⟩,
  ⟨none, (some 30), .bin 30 .neq false (.t 29 false) (.c (.int .i64 0))⟩,
  ⟨none, (some 31), .mv 31 (.t 30 true)⟩,
  ⟨(some (31, false)), (some 32), .mv 32 (.t 8 false)⟩,
  ⟨(some (31, false)), (some 33), .baddr 33 2 3⟩,
  ⟨(some (31, false)), (some 34), .bload 34 2 (some 33) none false⟩,
  ⟨(some (31, false)), (some 35), .len 35 false (.t 34 false)⟩,
  ⟨(some (31, false)), (some 36), .bin 36 .eql false (.t 32 false) (.t 35 false)⟩,
  ⟨none, (some 37), .pick 37 (.t 31 false) (.c (.bool true)) (.t 36 false)⟩]
abbrev c48r7 : List GOp := [⟨none, (some 38), .build 38 [(.int .i64 0), (.str []), (.oslice 1 []), (.oslice 4 [])] []⟩,
  ⟨none, none, .bstore 4 none (.t 38 true) 4⟩,
  ⟨none, (some 5), .mv 5 (.c (.bool false))⟩]
abbrev c48s8 : ACode := (.seq (.reg c48r7 [4, 5]) .ret)
abbrev c48s9 : ACode := (.cond (.t 37 false) c48s8 .skip)
abbrev c48r10 : List GOp := [⟨none, (some 39), .baddr 39 2 3⟩,
  ⟨none, (some 40), .bload 40 2 (some 39) none false⟩,
  ⟨none, (some 41), .mv 41 (.t 8 false)⟩,
  ⟨none, (some 42), .idx 42 (.t 40 false) (.t 41 false) 4⟩,
  ⟨none, (some 43), .vload 43 42 (some 4)⟩,
  ⟨none, none, .bstore 2 none (.t 43 true) 4⟩]
abbrev c48s11 : ACode := (.seq (.reg c48r10 [2]) (.exit 1))
abbrev c48s12 : ACode := (.seq (.seq (.reg c48r6 [37]) c48s9) c48s11)
abbrev c48s13 : ACode := (.seq (.reg c48r5 [8, 9]) c48s12)
abbrev c48s14 : ACode := (.cond (.t 20 false) c48s13 .skip)
abbrev c48r15 : List GOp := [⟨none, (some 45), .bload 45 2 none (some 4) false⟩,
  ⟨none, (some 46), .mv 46 (.t 7 false)⟩,
  ⟨none, (some 47), .call (some 47) 36 [(.t 45 false), (.t 46 false)]⟩,
  ⟨none, (some 44), .mv 44 (.t 47 true)⟩,
  ⟨none, (some 48), .extract 48 (.t 44 false) 0⟩,
  ⟨none, (some 49), .extract 49 (.t 44 false) 1⟩,
  ⟨none, (some 10), .balloc 10 (.agg [(.int .i64 0), (.str []), (.oslice 1 []), (.oslice 4 [])])⟩,
  ⟨none, none, .bstore 10 none (.t 48 true) 4⟩,
  ⟨none, (some 11), .mv 11 (.t 49 true)⟩]
abbrev c48r16 : List GOp := [⟨none, (some 50), .mv 50 (.t 11 false)⟩,
  ⟨none, (some 51), .un 51 .not (.t 50 false)⟩]
abbrev c48r17 : List GOp := [⟨none, (some 52), .build 52 [(.int .i64 0), (.str []), (.oslice 1 []), (.oslice 4 [])] []⟩,
  ⟨none, none, .bstore 4 none (.t 52 true) 4⟩,
  ⟨none, (some 5), .mv 5 (.c (.bool false))⟩]
abbrev c48s18 : ACode := (.seq (.reg c48r17 [4, 5]) .ret)
abbrev c48s19 : ACode := (.cond (.t 51 false) c48s18 .skip)
abbrev c48r20 : List GOp := [⟨none, (some 53), .bload 53 10 none (some 4) false⟩,
  ⟨none, none, .bstore 2 none (.t 53 true) 4⟩]
abbrev c48s21 : ACode := (.seq (.seq (.reg c48r16 [51]) c48s19) (.reg c48r20 [2]))
abbrev c48s22 : ACode := (.seq (.reg c48r15 [10, 11]) c48s21)
abbrev c48s23 : ACode := (.seq (.seq (.reg c48r4 [20]) c48s14) c48s22)
abbrev c48s24 : ACode := (.seq (.reg c48r3 [7]) c48s23)
abbrev c48r25 : List GOp := [⟨none, (some 54), .bin 54 .add false (.t 14 false) (.c (.int .i64 1))⟩,
  ⟨none, (some 14), .mv 14 (.t 54 true)⟩]
abbrev c48s26 : ACode := (.seq (.block 1 c48s24) (.reg c48r25 [14]))
abbrev c48s27 : ACode := (.seq (.cond (.t 15 false) .skip (.exit 0)) c48s26)
abbrev c48s28 : ACode := (.seq (.reg c48r2 [15]) c48s27)
abbrev c48s29 : ACode := (.loop c48s28)
abbrev c48s30 : ACode := (.block 0 c48s29)
abbrev c48r31 : List GOp := [⟨none, (some 55), .bload 55 2 none (some 4) false⟩,
  ⟨none, none, .bstore 4 none (.t 55 true) 4⟩,
  ⟨none, (some 5), .mv 5 (.c (.bool true))⟩]
abbrev c48s32 : ACode := (.seq (.reg c48r31 [4, 5]) .ret)
abbrev c48s33 : ACode := (.seq (.seq (.reg c48r1 [12, 13, 14]) c48s30) c48s32)
abbrev c48 : ACode := (.seq (.reg c48r0 [2, 4, 5]) c48s33)
def a48 : AFn := ⟨[2, 4, 10], [0, 1, 2, 4, 5, 7, 8, 9, 10, 11, 12, 13, 14, 15, 20, 37, 51], [17, 26, 27, 28, 30, 38, 43, 47, 48, 49, 52, 53, 54, 55], [], [(39, 2), (33, 2), (23, 2), (18, 2)], [(39, 3), (33, 3), (23, 3), (18, 0)], [], [], c48, [.cell 4 (some 4), .tmp 5]⟩
theorem is48 : IsFn Tryz.prog 48 2 a48 := isFn_of mix Tryz.func48 (by kernel_rfl) (by kernel_rfl) (by kernel_rfl) (by kernel_rfl) (by kernel_rfl)
theorem sound48 {args : List AV} {r : AV} (hl : args.length = 2) (h : awp Tryz.prog c48 (unw Tryz.prog [] (Ends [.cell 4 (some 4), .tmp 5] r)) (initSt args)) : Sound Tryz.prog 48 args r := sound_of is48 hl h
theorem total48 {args : List AV} {Φ : AV → Prop} (hl : args.length = 2) (h : awp Tryz.prog c48 (unw Tryz.prog [] (EndsP [.cell 4 (some 4), .tmp 5] Φ)) (initSt args)) : Total Tryz.prog 48 args Φ := total_of is48 hl h

/-! longshore/name.Sorted -/
abbrev c49r0 : List GOp := [⟨none, (some 2), .mv 2 (.c (.oslice 1 []))⟩]
abbrev c49r1 : List GOp := [⟨none, (some 4), .mkslice 4 1 []⟩,
  ⟨none, (some 5), .mv 5 (.t 0 false)⟩,
  ⟨none, (some 6), .xapp 6 (.t 4 true) (.t 5 false) 1 16⟩,
  ⟨none, (some 3), .mvb 3 6⟩]
abbrev c49r2 : List GOp := [⟨none, (some 7), .malias 7 3⟩,
  ⟨none, (some 8), .xcall (some 8) 56 3 (some 7)⟩]
abbrev c49r3 : List GOp := [⟨none, (some 9), .malias 9 3⟩,
  ⟨none, (some 10), .xcut 10 57 3 (some 9)⟩,
  ⟨none, (some 2), .mv 2 (.t 10 true)⟩]
abbrev c49s4 : ACode := (.seq (.reg c49r3 [3, 2]) .ret)
abbrev c49s5 : ACode := (.seq (.reg c49r2 [3]) c49s4)
abbrev c49s6 : ACode := (.seq (.reg c49r1 [6, 3]) c49s5)
abbrev c49 : ACode := (.seq (.reg c49r0 [2]) c49s6)
def a49 : AFn := ⟨[3, 6], [0, 2, 3, 6], [4, 10], [], [(9, 3), (7, 3)], [], [], [(56, false), (57, true)], c49, [.tmp 2]⟩
theorem is49 : IsFn Tryz.prog 49 1 a49 := isFn_of mix Tryz.func49 (by kernel_rfl) (by kernel_rfl) (by kernel_rfl) (by kernel_rfl) (by kernel_rfl)
theorem sound49 {args : List AV} {r : AV} (hl : args.length = 1) (h : awp Tryz.prog c49 (unw Tryz.prog [] (Ends [.tmp 2] r)) (initSt args)) : Sound Tryz.prog 49 args r := sound_of is49 hl h
theorem total49 {args : List AV} {Φ : AV → Prop} (hl : args.length = 1) (h : awp Tryz.prog c49 (unw Tryz.prog [] (EndsP [.tmp 2] Φ)) (initSt args)) : Total Tryz.prog 49 args Φ := total_of is49 hl h

/-! longshore/name.At -/
abbrev c50r0 : List GOp := [⟨none, (some 4), .mv 4 (.c (.int .i64 0))⟩]
abbrev c50r1 : List GOp := [⟨none, (some 5), .mv 5 (.t 0 false)⟩,
  ⟨none, (some 6), .mv 6 (.t 1 false)⟩,
  ⟨none, (some 7), .call (some 7) 58 [(.t 5 false), (.t 6 false)]⟩,
  ⟨none, (some 4), .mv 4 (.t 7 true)⟩]
abbrev c50s2 : ACode := (.seq (.reg c50r1 [4]) .ret)
abbrev c50 : ACode := (.seq (.reg c50r0 [4]) c50s2)
def a50 : AFn := ⟨[], [0, 1, 4], [7], [], [], [], [], [], c50, [.tmp 4]⟩
theorem is50 : IsFn Tryz.prog 50 2 a50 := isFn_of mix Tryz.func50 (by kernel_rfl) (by kernel_rfl) (by kernel_rfl) (by kernel_rfl) (by kernel_rfl)
theorem sound50 {args : List AV} {r : AV} (hl : args.length = 2) (h : awp Tryz.prog c50 (unw Tryz.prog [] (Ends [.tmp 4] r)) (initSt args)) : Sound Tryz.prog 50 args r := sound_of is50 hl h
theorem total50 {args : List AV} {Φ : AV → Prop} (hl : args.length = 2) (h : awp Tryz.prog c50 (unw Tryz.prog [] (EndsP [.tmp 4] Φ)) (initSt args)) : Total Tryz.prog 50 args Φ := total_of is50 hl h

/-! slices.Index[[]string,string] -/
abbrev c58r0 : List GOp := [⟨none, (some 4), .mv 4 (.c (.int .i64 0))⟩]
abbrev c58r1 : List GOp := [⟨none, (some 6), .mv 6 (.t 0 false)⟩,
  ⟨none, (some 7), .len 7 false (.t 6 false)⟩,
  ⟨none, (some 8), .mv 8 (.c (.int .i64 0))⟩]
abbrev c58r2 : List GOp := [⟨none, (some 9), .bin 9 .lss false (.t 8 false) (.t 7 false)⟩]
abbrev c58r3 : List GOp := [⟨none, (some 10), .mv 10 (.t 8 false)⟩,
  ⟨none, (some 5), .mv 5 (.t 10 true)⟩]
abbrev c58r4 : List GOp := [⟨none, (some 11), .mv 11 (.t 1 false)⟩,
  ⟨none, (some 12), .mv 12 (.t 0 false)⟩,
  ⟨none, (some 13), .mv 13 (.t 5 false)⟩,
  ⟨none, (some 14), .idx 14 (.t 12 false) (.t 13 false) 1⟩,
  ⟨none, (some 15), .vload 15 14 none⟩,
  ⟨none, (some 16), .bin 16 .eql false (.t 11 false) (.t 15 false)⟩]
abbrev c58r5 : List GOp := [⟨none, (some 17), .mv 17 (.t 5 false)⟩,
  ⟨none, (some 4), .mv 4 (.t 17 true)⟩]
abbrev c58s6 : ACode := (.seq (.reg c58r5 [4]) .ret)
abbrev c58s7 : ACode := (.cond (.t 16 false) c58s6 .skip)
abbrev c58s8 : ACode := (.seq (.reg c58r4 [16]) c58s7)
abbrev c58s9 : ACode := (.seq (.reg c58r3 [5]) c58s8)
abbrev c58r10 : List GOp := [⟨none, (some 18), .bin 18 .add false (.t 8 false) (.c (.int .i64 1))⟩,
  ⟨none, (some 8), .mv 8 (.t 18 true)⟩]
abbrev c58s11 : ACode := (.seq (.block 1 c58s9) (.reg c58r10 [8]))
abbrev c58s12 : ACode := (.seq (.cond (.t 9 false) .skip (.exit 0)) c58s11)
abbrev c58s13 : ACode := (.seq (.reg c58r2 [9]) c58s12)
abbrev c58s14 : ACode := (.loop c58s13)
abbrev c58s15 : ACode := (.block 0 c58s14)
abbrev c58r16 : List GOp := [⟨none, (some 4), .mv 4 (.c (.int .i64 (-1)))⟩]
abbrev c58s17 : ACode := (.seq (.reg c58r16 [4]) .ret)
abbrev c58s18 : ACode := (.seq (.seq (.reg c58r1 [7, 8]) c58s15) c58s17)
abbrev c58 : ACode := (.seq (.reg c58r0 [4]) c58s18)
def a58 : AFn := ⟨[], [0, 1, 4, 5, 7, 8, 9, 16], [10, 17, 18], [], [], [], [], [], c58, [.tmp 4]⟩
theorem is58 : IsFn Tryz.prog 58 2 a58 := isFn_of mix Tryz.func58 (by kernel_rfl) (by kernel_rfl) (by kernel_rfl) (by kernel_rfl) (by kernel_rfl)
theorem sound58 {args : List AV} {r : AV} (hl : args.length = 2) (h : awp Tryz.prog c58 (unw Tryz.prog [] (Ends [.tmp 4] r)) (initSt args)) : Sound Tryz.prog 58 args r := sound_of is58 hl h
theorem total58 {args : List AV} {Φ : AV → Prop} (hl : args.length = 2) (h : awp Tryz.prog c58 (unw Tryz.prog [] (EndsP [.tmp 4] Φ)) (initSt args)) : Total Tryz.prog 58 args Φ := total_of is58 hl h

end Go.Proofs.YtccmaeefedgcnaaGreat
