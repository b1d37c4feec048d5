/-
  FUNCTIONS IN THEIR COMPILED FORM (printed by a program of ours), each held against the loaded program by the kernel.
-/
import Derived.Test.YtccmaeefedgcnaaGreatPart06
set_option linter.all false

namespace Go.Proofs.YtccmaeefedgcnaaGreat

/-! longshore/longshoreref08.Same -/
abbrev c10r0 : List GOp := [⟨none, (some 2), .bbox 2 (.t 0 false)⟩,
  ⟨none, (some 3), .bbox 3 (.t 1 false)⟩,
  ⟨none, (some 4), .mv 4 (.c (.bool false))⟩]
abbrev c10r1 : List GOp := [⟨none, (some 6), .baddr 6 2 0⟩,
  ⟨none, (some 7), .bload 7 2 (some 6) none false⟩,
  ⟨none, (some 8), .baddr 8 3 0⟩,
  ⟨none, (some 9), .bload 9 3 (some 8) none false⟩,
  ⟨none, (some 10), .bin 10 .neq false (.t 7 false) (.t 9 false)⟩,
  ⟨none, (some 11), .mv 11 (.t 10 true)⟩,
  ⟨(some (11, false)), (some 12), .baddr 12 2 1⟩,
  ⟨(some (11, false)), (some 13), .bload 13 2 (some 12) none false⟩,
  ⟨(some (11, false)), (some 14), .baddr 14 3 1⟩,
  ⟨(some (11, false)), (some 15), .bload 15 3 (some 14) none false⟩,
  ⟨(some (11, false)), (some 16), .bin 16 .neq false (.t 13 false) (.t 15 false)⟩,
  ⟨none, (some 17), .pick 17 (.t 11 false) (.c (.bool true)) (.t 16 false)⟩,
  ⟨none, (some 18), .mv 18 (.t 17 true)⟩,
  ⟨(some (18, false)), (some 19), .baddr 19 2 2⟩,
  ⟨(some (18, false)), (some 20), .bload 20 2 (some 19) none false⟩,
  ⟨(some (18, false)), (some 21), .baddr 21 3 2⟩,
  ⟨(some (18, false)), (some 22), .bload 22 3 (some 21) none false⟩,
  ⟨(some (18, false)), (some 23), .call (some 23) 22 [(.t 20 false), (.t 22 false)]⟩,
  ⟨(some (18, false)), (some 24), .un 24 .not (.t 23 false)⟩,
  ⟨none, (some 25), .pick 25 (.t 18 false) (.c (.bool true)) (.t 24 false)⟩,
  ⟨none, (some 26), .mv 26 (.t 25 true)⟩,
  ⟨(some (26, false)), (some 27), .baddr 27 2 3⟩,
  ⟨(some (26, false)), (some 28), .bload 28 2 (some 27) none false⟩,
  ⟨(some (26, false)), (some 29), .len 29 false (.t 28 false)⟩,
  ⟨(some (26, false)), (some 30), .baddr 30 3 3⟩,
  ⟨(some (26, false)), (some 31), .bload 31 3 (some 30) none false⟩,
  ⟨(some (26, false)), (some 32), .len 32 false (.t 31 false)⟩,
  ⟨(some (26, false)), (some 33), .bin 33 .neq false (.t 29 false) (.t 32 false)⟩,
  ⟨none, (some 34), .pick 34 (.t 26 false) (.c (.bool true)) (.t 33 false)⟩]
abbrev c10r2 : List GOp := [⟨none, (some 4), .mv 4 (.c (.bool false))⟩]
abbrev c10s3 : ACode := (.seq (.reg c10r2 [4]) .ret)
abbrev c10s4 : ACode := (.cond (.t 34 false) c10s3 .skip)
abbrev c10r5 : List GOp := [⟨none, (some 5), .mv 5 (.c (.int .i64 0))⟩]
abbrev c10r6 : List GOp := [⟨none, (some 35), .mv 35 (.t 5 false)⟩,
  ⟨none, (some 36), .baddr 36 2 3⟩,
  ⟨none, (some 37), .bload 37 2 (some 36) none false⟩,
  ⟨none, (some 38), .len 38 false (.t 37 false)⟩,
  ⟨none, (some 39), .bin 39 .lss false (.t 35 false) (.t 38 false)⟩]
abbrev c10s7 : ACode := (.cond (.t 39 false) .skip (.exit 0))
abbrev c10r8 : List GOp := [⟨none, (some 42), .baddr 42 2 3⟩,
  ⟨none, (some 43), .bload 43 2 (some 42) none false⟩,
  ⟨none, (some 44), .mv 44 (.t 5 false)⟩,
  ⟨none, (some 45), .idx 45 (.t 43 false) (.t 44 false) 4⟩,
  ⟨none, (some 46), .vload 46 45 (some 4)⟩,
  ⟨none, (some 47), .baddr 47 3 3⟩,
  ⟨none, (some 48), .bload 48 3 (some 47) none false⟩,
  ⟨none, (some 49), .mv 49 (.t 5 false)⟩,
  ⟨none, (some 50), .idx 50 (.t 48 false) (.t 49 false) 4⟩,
  ⟨none, (some 51), .vload 51 50 (some 4)⟩,
  ⟨none, (some 52), .call (some 52) 10 [(.t 46 false), (.t 51 false)]⟩,
  ⟨none, (some 53), .un 53 .not (.t 52 false)⟩]
abbrev c10r9 : List GOp := [⟨none, (some 4), .mv 4 (.c (.bool false))⟩]
abbrev c10s10 : ACode := (.seq (.reg c10r9 [4]) .ret)
abbrev c10s11 : ACode := (.cond (.t 53 false) c10s10 .skip)
abbrev c10s12 : ACode := (.seq (.reg c10r8 [53]) c10s11)
abbrev c10r13 : List GOp := [⟨none, (some 40), .mv 40 (.t 5 false)⟩,
  ⟨none, (some 41), .bin 41 .add false (.t 40 false) (.c (.int .i64 1))⟩,
  ⟨none, (some 5), .mv 5 (.t 41 true)⟩]
abbrev c10s14 : ACode := (.seq (.block 1 c10s12) (.reg c10r13 [5]))
abbrev c10s15 : ACode := (.seq (.seq (.reg c10r6 [39]) c10s7) c10s14)
abbrev c10s16 : ACode := (.loop c10s15)
abbrev c10s17 : ACode := (.block 0 c10s16)
abbrev c10r18 : List GOp := [⟨none, (some 4), .mv 4 (.c (.bool true))⟩]
abbrev c10s19 : ACode := (.seq (.reg c10r18 [4]) .ret)
abbrev c10s20 : ACode := (.seq (.seq (.reg c10r5 [5]) c10s17) c10s19)
abbrev c10s21 : ACode := (.seq (.seq (.reg c10r1 [34]) c10s4) c10s20)
abbrev c10 : ACode := (.seq (.reg c10r0 [2, 3, 4]) c10s21)
def a10 : AFn := ⟨[2, 3], [0, 1, 2, 3, 4, 5, 34, 39, 53], [10, 17, 25, 41], [], [(47, 3), (42, 2), (36, 2), (30, 3), (27, 2), (21, 3), (19, 2), (14, 3), (12, 2), (8, 3), (6, 2)], [(47, 3), (42, 3), (36, 3), (30, 3), (27, 3), (21, 2), (19, 2), (14, 1), (12, 1), (8, 0), (6, 0)], [], [], c10, [.tmp 4]⟩
theorem is10 : IsFn Tryz.prog 10 2 a10 := isFn_of mix Tryz.func10 (by kernel_rfl) (by kernel_rfl) (by kernel_rfl) (by kernel_rfl) (by kernel_rfl)
theorem sound10 {args : List AV} {r : AV} (hl : args.length = 2) (h : awp Tryz.prog c10 (unw Tryz.prog [] (Ends [.tmp 4] r)) (initSt args)) : Sound Tryz.prog 10 args r := sound_of is10 hl h
theorem total10 {args : List AV} {Φ : AV → Prop} (hl : args.length = 2) (h : awp Tryz.prog c10 (unw Tryz.prog [] (EndsP [.tmp 4] Φ)) (initSt args)) : Total Tryz.prog 10 args Φ := total_of is10 hl h

/-! longshore/longshoreref08.Small -/
abbrev c11r0 : List GOp := [⟨none, (some 2), .bbox 2 (.t 0 false)⟩,
  ⟨none, (some 4), .mv 4 (.c (.bool false))⟩]
abbrev c11r1 : List GOp := [⟨none, (some 5), .bload 5 2 none (some 4) false⟩,
  ⟨none, (some 6), .mv 6 (.t 1 false)⟩,
  ⟨none, (some 7), .call (some 7) 23 [(.t 5 false), (.c (.int .i64 1)), (.t 6 false)]⟩,
  ⟨none, (some 8), .bin 8 .geq false (.t 7 false) (.c (.int .i64 0))⟩,
  ⟨none, (some 9), .mv 9 (.t 8 true)⟩,
  ⟨(some (9, true)), (some 10), .bload 10 2 none (some 4) false⟩,
  ⟨(some (9, true)), (some 11), .call (some 11) 24 [(.t 10 false)]⟩,
  ⟨none, (some 12), .pick 12 (.t 9 false) (.t 11 false) (.c (.bool false))⟩,
  ⟨none, (some 4), .mv 4 (.t 12 true)⟩]
abbrev c11s2 : ACode := (.seq (.reg c11r1 [4]) .ret)
abbrev c11 : ACode := (.seq (.reg c11r0 [2, 4]) c11s2)
def a11 : AFn := ⟨[2], [0, 1, 2, 4], [8, 12], [], [], [], [], [], c11, [.tmp 4]⟩
theorem is11 : IsFn Tryz.prog 11 2 a11 := isFn_of mix Tryz.func11 (by kernel_rfl) (by kernel_rfl) (by kernel_rfl) (by kernel_rfl) (by kernel_rfl)
theorem sound11 {args : List AV} {r : AV} (hl : args.length = 2) (h : awp Tryz.prog c11 (unw Tryz.prog [] (Ends [.tmp 4] r)) (initSt args)) : Sound Tryz.prog 11 args r := sound_of is11 hl h
theorem total11 {args : List AV} {Φ : AV → Prop} (hl : args.length = 2) (h : awp Tryz.prog c11 (unw Tryz.prog [] (EndsP [.tmp 4] Φ)) (initSt args)) : Total Tryz.prog 11 args Φ := total_of is11 hl h

/-! longshore/longshoreref08.Less -/
abbrev c20r0 : List GOp := [⟨none, (some 2), .bbox 2 (.t 0 false)⟩,
  ⟨none, (some 4), .balloc 4 (.agg [(.int .i64 0), (.str []), (.oslice 1 []), (.oslice 4 [])])⟩]
abbrev c20r1 : List GOp := [⟨none, (some 7), .baddr 7 2 0⟩,
  ⟨none, (some 8), .bload 8 2 (some 7) none false⟩,
  ⟨none, (some 9), .bin 9 .neq false (.t 8 false) (.c (.int .i64 3))⟩]
abbrev c20r2 : List GOp := [⟨none, (some 10), .bload 10 2 none (some 4) false⟩,
  ⟨none, none, .bstore 4 none (.t 10 true) 4⟩]
abbrev c20s3 : ACode := (.seq (.reg c20r2 [4]) .ret)
abbrev c20s4 : ACode := (.cond (.t 9 false) c20s3 .skip)
abbrev c20r5 : List GOp := [⟨none, (some 11), .build 11 [(.int .i64 0), (.str []), (.oslice 1 []), (.oslice 4 [])] [(0, 1, (.c (.int .i64 3)))]⟩,
  ⟨none, (some 5), .balloc 5 (.agg [(.int .i64 0), (.str []), (.oslice 1 []), (.oslice 4 [])])⟩,
  ⟨none, none, .bstore 5 none (.t 11 true) 4⟩]
abbrev c20r6 : List GOp := [⟨none, (some 6), .mv 6 (.c (.int .i64 0))⟩]
abbrev c20r7 : List GOp := [⟨none, (some 12), .mv 12 (.t 6 false)⟩,
  ⟨none, (some 13), .baddr 13 2 2⟩,
  ⟨none, (some 14), .bload 14 2 (some 13) none false⟩,
  ⟨none, (some 15), .len 15 false (.t 14 false)⟩,
  ⟨none, (some 16), .bin 16 .lss false (.t 12 false) (.t 15 false)⟩]
abbrev c20s8 : ACode := (.cond (.t 16 false) .skip (.exit 0))
abbrev c20r9 : List GOp := [⟨none, (some 19), .baddr 19 2 2⟩,
  ⟨none, (some 20), .bload 20 2 (some 19) none false⟩,
  ⟨none, (some 21), .mv 21 (.t 6 false)⟩,
  ⟨none, (some 22), .idx 22 (.t 20 false) (.t 21 false) 1⟩,
  ⟨none, (some 23), .vload 23 22 none⟩,
  ⟨none, (some 24), .mv 24 (.t 1 false)⟩,
  ⟨none, (some 25), .bin 25 .neq false (.t 23 false) (.t 24 false)⟩]
abbrev c20r10 : List GOp := [⟨none, (some 26), .baddr 26 5 2⟩,
  ⟨none, (some 27), .btk 27 5 (some 26) 2⟩,
  ⟨none, (some 28), .baddr 28 2 2⟩,
  ⟨none, (some 29), .bload 29 2 (some 28) none false⟩,
  ⟨none, (some 30), .mv 30 (.t 6 false)⟩,
  ⟨none, (some 31), .idx 31 (.t 29 false) (.t 30 false) 1⟩,
  ⟨none, (some 32), .vload 32 31 none⟩,
  ⟨none, (some 33), .mkslice 33 1 [(.t 32 false)]⟩,
  ⟨none, (some 34), .append 34 (.t 27 true) (.t 33 false) 1 16⟩,
  ⟨none, (some 35), .baddr 35 5 2⟩,
  ⟨none, none, .bstore 5 (some 35) (.t 34 true) 1⟩]
abbrev c20r11 : List GOp := [⟨none, (some 36), .baddr 36 5 3⟩,
  ⟨none, (some 37), .btk 37 5 (some 36) 3⟩,
  ⟨none, (some 38), .baddr 38 2 3⟩,
  ⟨none, (some 39), .bload 39 2 (some 38) none false⟩,
  ⟨none, (some 40), .mv 40 (.t 6 false)⟩,
  ⟨none, (some 41), .idx 41 (.t 39 false) (.t 40 false) 4⟩,
  ⟨none, (some 42), .vload 42 41 (some 4)⟩,
  ⟨none, (some 43), .mkslice 43 4 [(.t 42 false)]⟩,
  ⟨none, (some 44), .append 44 (.t 37 true) (.t 43 false) 4 72⟩,
  ⟨none, (some 45), .baddr 45 5 3⟩,
  ⟨none, none, .bstore 5 (some 45) (.t 44 true) 1⟩]
abbrev c20s12 : ACode := (.seq (.reg c20r10 [5]) (.reg c20r11 [5]))
abbrev c20s13 : ACode := (.cond (.t 25 false) c20s12 .skip)
abbrev c20s14 : ACode := (.seq (.reg c20r9 [25]) c20s13)
abbrev c20r15 : List GOp := [⟨none, (some 17), .mv 17 (.t 6 false)⟩,
  ⟨none, (some 18), .bin 18 .add false (.t 17 false) (.c (.int .i64 1))⟩,
  ⟨none, (some 6), .mv 6 (.t 18 true)⟩]
abbrev c20s16 : ACode := (.seq (.block 1 c20s14) (.reg c20r15 [6]))
abbrev c20s17 : ACode := (.seq (.seq (.reg c20r7 [16]) c20s8) c20s16)
abbrev c20s18 : ACode := (.loop c20s17)
abbrev c20s19 : ACode := (.block 0 c20s18)
abbrev c20r20 : List GOp := [⟨none, (some 46), .bload 46 5 none (some 4) false⟩,
  ⟨none, none, .bstore 4 none (.t 46 true) 4⟩]
abbrev c20s21 : ACode := (.seq (.reg c20r20 [4]) .ret)
abbrev c20s22 : ACode := (.seq (.seq (.reg c20r6 [6]) c20s19) c20s21)
abbrev c20s23 : ACode := (.seq (.reg c20r5 [5]) c20s22)
abbrev c20s24 : ACode := (.seq (.seq (.reg c20r1 [9]) c20s4) c20s23)
abbrev c20 : ACode := (.seq (.reg c20r0 [2, 4]) c20s24)
def a20 : AFn := ⟨[2, 4, 5], [0, 1, 2, 4, 5, 6, 9, 16, 25], [10, 11, 18, 27, 34, 37, 44, 46], [27, 37], [(45, 5), (38, 2), (36, 5), (35, 5), (28, 2), (26, 5), (19, 2), (13, 2), (7, 2)], [(45, 3), (38, 3), (36, 3), (35, 2), (28, 2), (26, 2), (19, 2), (13, 2), (7, 0)], [], [], c20, [.cell 4 (some 4)]⟩
theorem is20 : IsFn Tryz.prog 20 2 a20 := isFn_of mix Tryz.func20 (by kernel_rfl) (by kernel_rfl) (by kernel_rfl) (by kernel_rfl) (by kernel_rfl)
theorem sound20 {args : List AV} {r : AV} (hl : args.length = 2) (h : awp Tryz.prog c20 (unw Tryz.prog [] (Ends [.cell 4 (some 4)] r)) (initSt args)) : Sound Tryz.prog 20 args r := sound_of is20 hl h
theorem total20 {args : List AV} {Φ : AV → Prop} (hl : args.length = 2) (h : awp Tryz.prog c20 (unw Tryz.prog [] (EndsP [.cell 4 (some 4)] Φ)) (initSt args)) : Total Tryz.prog 20 args Φ := total_of is20 hl h

/-! longshore/longshoreref02.Same -/
abbrev c22r0 : List GOp := [⟨none, (some 4), .mv 4 (.c (.bool false))⟩]
abbrev c22r1 : List GOp := [⟨none, (some 6), .mv 6 (.t 0 false)⟩,
  ⟨none, (some 7), .len 7 false (.t 6 false)⟩,
  ⟨none, (some 8), .mv 8 (.t 1 false)⟩,
  ⟨none, (some 9), .len 9 false (.t 8 false)⟩,
  ⟨none, (some 10), .bin 10 .neq false (.t 7 false) (.t 9 false)⟩]
abbrev c22r2 : List GOp := [⟨none, (some 4), .mv 4 (.c (.bool false))⟩]
abbrev c22s3 : ACode := (.seq (.reg c22r2 [4]) .ret)
abbrev c22s4 : ACode := (.cond (.t 10 false) c22s3 .skip)
abbrev c22r5 : List GOp := [⟨none, (some 5), .mv 5 (.c (.int .i64 0))⟩]
abbrev c22r6 : List GOp := [⟨none, (some 11), .mv 11 (.t 5 false)⟩,
  ⟨none, (some 12), .mv 12 (.t 0 false)⟩,
  ⟨none, (some 13), .len 13 false (.t 12 false)⟩,
  ⟨none, (some 14), .bin 14 .lss false (.t 11 false) (.t 13 false)⟩]
abbrev c22s7 : ACode := (.cond (.t 14 false) .skip (.exit 0))
abbrev c22r8 : List GOp := [⟨none, (some 17), .mv 17 (.t 0 false)⟩,
  ⟨none, (some 18), .mv 18 (.t 5 false)⟩,
  ⟨none, (some 19), .idx 19 (.t 17 false) (.t 18 false) 1⟩,
  ⟨none, (some 20), .vload 20 19 none⟩,
  ⟨none, (some 21), .mv 21 (.t 1 false)⟩,
  ⟨none, (some 22), .mv 22 (.t 5 false)⟩,
  ⟨none, (some 23), .idx 23 (.t 21 false) (.t 22 false) 1⟩,
  ⟨none, (some 24), .vload 24 23 none⟩,
  ⟨none, (some 25), .bin 25 .neq false (.t 20 false) (.t 24 false)⟩]
abbrev c22r9 : List GOp := [⟨none, (some 4), .mv 4 (.c (.bool false))⟩]
abbrev c22s10 : ACode := (.seq (.reg c22r9 [4]) .ret)
abbrev c22s11 : ACode := (.cond (.t 25 false) c22s10 .skip)
abbrev c22s12 : ACode := (.seq (.reg c22r8 [25]) c22s11)
abbrev c22r13 : List GOp := [⟨none, (some 15), .mv 15 (.t 5 false)⟩,
  ⟨none, (some 16), .bin 16 .add false (.t 15 false) (.c (.int .i64 1))⟩,
  ⟨none, (some 5), .mv 5 (.t 16 true)⟩]
abbrev c22s14 : ACode := (.seq (.block 1 c22s12) (.reg c22r13 [5]))
abbrev c22s15 : ACode := (.seq (.seq (.reg c22r6 [14]) c22s7) c22s14)
abbrev c22s16 : ACode := (.loop c22s15)
abbrev c22s17 : ACode := (.block 0 c22s16)
abbrev c22r18 : List GOp := [⟨none, (some 4), .mv 4 (.c (.bool true))⟩]
abbrev c22s19 : ACode := (.seq (.reg c22r18 [4]) .ret)
abbrev c22s20 : ACode := (.seq (.seq (.reg c22r5 [5]) c22s17) c22s19)
abbrev c22s21 : ACode := (.seq (.seq (.reg c22r1 [10]) c22s4) c22s20)
abbrev c22 : ACode := (.seq (.reg c22r0 [4]) c22s21)
def a22 : AFn := ⟨[], [0, 1, 4, 5, 10, 14, 25], [16], [], [], [], [], [], c22, [.tmp 4]⟩
theorem is22 : IsFn Tryz.prog 22 2 a22 := isFn_of mix Tryz.func22 (by kernel_rfl) (by kernel_rfl) (by kernel_rfl) (by kernel_rfl) (by kernel_rfl)
theorem sound22 {args : List AV} {r : AV} (hl : args.length = 2) (h : awp Tryz.prog c22 (unw Tryz.prog [] (Ends [.tmp 4] r)) (initSt args)) : Sound Tryz.prog 22 args r := sound_of is22 hl h
theorem total22 {args : List AV} {Φ : AV → Prop} (hl : args.length = 2) (h : awp Tryz.prog c22 (unw Tryz.prog [] (EndsP [.tmp 4] Φ)) (initSt args)) : Total Tryz.prog 22 args Φ := total_of is22 hl h

/-! longshore/longshoreref08.Left -/
abbrev c23r0 : List GOp := [⟨none, (some 3), .bbox 3 (.t 0 false)⟩,
  ⟨none, (some 6), .mv 6 (.c (.int .i64 0))⟩]
abbrev c23r1 : List GOp := [⟨none, (some 8), .mv 8 (.t 2 false)⟩,
  ⟨none, (some 9), .bin 9 .sub false (.t 8 false) (.c (.int .i64 1))⟩,
  ⟨none, (some 2), .mv 2 (.t 9 true)⟩]
abbrev c23r2 : List GOp := [⟨none, (some 10), .mv 10 (.t 2 false)⟩,
  ⟨none, (some 11), .bin 11 .lss false (.t 10 false) (.c (.int .i64 0))⟩,
  ⟨none, (some 12), .mv 12 (.t 11 true)⟩,
  ⟨(some (12, false)), (some 13), .mv 13 (.t 1 false)⟩,
  ⟨(some (12, false)), (some 14), .bin 14 .gtr false (.t 13 false) (.c (.int .i64 12))⟩,
  ⟨none, (some 15), .pick 15 (.t 12 false) (.c (.bool true)) (.t 14 false)⟩,
  ⟨none, (some 16), .mv 16 (.t 15 true)⟩,
  ⟨(some (16, false)), (some 17), .baddr 17 3 0⟩,
  ⟨(some (16, false)), (some 18), .bload 18 3 (some 17) none false⟩,
  ⟨(some (16, false)), (some 19), .bin 19 .lss false (.t 18 false) (.c (.int .i64 0))⟩,
  ⟨none, (some 20), .pick 20 (.t 16 false) (.c (.bool true)) (.t 19 false)⟩,
  ⟨none, (some 21), .mv 21 (.t 20 true)⟩,
  ⟨(some (21, false)), (some 22), .baddr 22 3 0⟩,
  ⟨(some (21, false)), (some 23), .bload 23 3 (some 22) none false⟩,
  ⟨(some (21, false)), (some 24), .bin 24 .gtr false (.t 23 false) (.c (.int .i64 3))⟩,
  ⟨none, (some 25), .pick 25 (.t 21 false) (.c (.bool true)) (.t 24 false)⟩]
abbrev c23r3 : List GOp := [⟨none, (some 6), .mv 6 (.c (.int .i64 (-1)))⟩]
abbrev c23s4 : ACode := (.seq (.reg c23r3 [6]) .ret)
abbrev c23s5 : ACode := (.cond (.t 25 false) c23s4 .skip)
abbrev c23r6 : List GOp := [⟨none, (some 26), .baddr 26 3 0⟩,
  ⟨none, (some 27), .bload 27 3 (some 26) none false⟩,
  ⟨none, (some 28), .bin 28 .neq false (.t 27 false) (.c (.int .i64 1))⟩,
  ⟨none, (some 29), .mv 29 (.t 28 true)⟩,
  ⟨(some (29, true)), (some 30), .baddr 30 3 1⟩,
  ⟨(some (29, true)), (some 31), .bload 31 3 (some 30) none false⟩,
  ⟨(some (29, true)), (some 32), .len 32 true (.t 31 false)⟩,
  ⟨(some (29, true)), (some 33), .bin 33 .gtr false (.t 32 false) (.c (.int .i64 0))⟩,
  ⟨none, (some 34), .pick 34 (.t 29 false) (.t 33 false) (.c (.bool false))⟩,
  ⟨none, (some 35), .mv 35 (.t 34 true)⟩,
  ⟨(some (35, false)), (some 36), .baddr 36 3 0⟩,
  ⟨(some (35, false)), (some 37), .bload 37 3 (some 36) none false⟩,
  ⟨(some (35, false)), (some 38), .bin 38 .neq false (.t 37 false) (.c (.int .i64 3))⟩,
  ⟨(some (35, false)), (some 39), .mv 39 (.t 38 true)⟩,
  ⟨(some (39, true)), (some 40), .baddr 40 3 2⟩,
  ⟨(some (39, true)), (some 41), .bload 41 3 (some 40) none false⟩,
  ⟨(some (39, true)), (some 42), .len 42 false (.t 41 false)⟩,
  ⟨(some (39, true)), (some 43), .bin 43 .gtr false (.t 42 false) (.c (.int .i64 0))⟩,
  ⟨(some (35, false)), (some 44), .pick 44 (.t 39 false) (.t 43 false) (.c (.bool false))⟩,
  ⟨none, (some 45), .pick 45 (.t 35 false) (.c (.bool true)) (.t 44 false)⟩,
  ⟨none, (some 46), .mv 46 (.t 45 true)⟩,
  ⟨(some (46, false)), (some 47), .baddr 47 3 0⟩,
  ⟨(some (46, false)), (some 48), .bload 48 3 (some 47) none false⟩,
  ⟨(some (46, false)), (some 49), .bin 49 .lss false (.t 48 false) (.c (.int .i64 2))⟩,
  ⟨(some (46, false)), (some 50), .mv 50 (.t 49 true)⟩,
  ⟨(some (50, true)), (some 51), .baddr 51 3 3⟩,
  ⟨(some (50, true)), (some 52), .bload 52 3 (some 51) none false⟩,
  ⟨(some (50, true)), (some 53), .len 53 false (.t 52 false)⟩,
  ⟨(some (50, true)), (some 54), .bin 54 .gtr false (.t 53 false) (.c (.int .i64 0))⟩,
  ⟨(some (46, false)), (some 55), .pick 55 (.t 50 false) (.t 54 false) (.c (.bool false))⟩,
  ⟨none, (some 56), .pick 56 (.t 46 false) (.c (.bool true)) (.t 55 false)⟩]
abbrev c23r7 : List GOp := [⟨none, (some 6), .mv 6 (.c (.int .i64 (-1)))⟩]
abbrev c23s8 : ACode := (.seq (.reg c23r7 [6]) .ret)
abbrev c23s9 : ACode := (.cond (.t 56 false) c23s8 .skip)
abbrev c23r10 : List GOp := [⟨none, (some 57), .baddr 57 3 0⟩,
  ⟨none, (some 58), .bload 58 3 (some 57) none false⟩,
  ⟨none, (some 59), .bin 59 .eql false (.t 58 false) (.c (.int .i64 3))⟩,
  ⟨none, (some 60), .mv 60 (.t 59 true)⟩,
  ⟨(some (60, true)), (some 61), .baddr 61 3 2⟩,
  ⟨(some (60, true)), (some 62), .bload 62 3 (some 61) none false⟩,
  ⟨(some (60, true)), (some 63), .len 63 false (.t 62 false)⟩,
  ⟨(some (60, true)), (some 64), .baddr 64 3 3⟩,
  ⟨(some (60, true)), (some 65), .bload 65 3 (some 64) none false⟩,
  ⟨(some (60, true)), (some 66), .len 66 false (.t 65 false)⟩,
  ⟨(some (60, true)), (some 67), .bin 67 .neq false (.t 63 false) (.t 66 false)⟩,
  ⟨(some (60, true)), (some 68), .mv 68 (.t 67 true)⟩,
  ⟨(some (68, false)), (some 69), .baddr 69 3 3⟩,
  ⟨(some (68, false)), (some 70), .bload 70 3 (some 69) none false⟩,
  ⟨(some (68, false)), (some 71), .len 71 false (.t 70 false)⟩,
  ⟨(some (68, false)), (some 72), .mv 72 (.t 2 false)⟩,
  ⟨(some (68, false)), (some 73), .bin 73 .gtr false (.t 71 false) (.t 72 false)⟩,
  ⟨(some (60, true)), (some 74), .pick 74 (.t 68 false) (.c (.bool true)) (.t 73 false)⟩,
  ⟨(some (60, true)), (some 75), .mv 75 (.t 74 true)⟩,
  ⟨(some (75, false)), (some 76), .baddr 76 3 2⟩,
  ⟨(some (75, false)), (some 77), .bload 77 3 (some 76) none false⟩,
  ⟨(some (75, false)), (some 78), .call (some 78) 42 [(.t 77 false)]⟩,
  ⟨(some (75, false)), (some 79), .len 79 false (.t 78 false)⟩,
  ⟨(some (75, false)), (some 80), .baddr 80 3 2⟩,
  ⟨(some (75, false)), (some 81), .bload 81 3 (some 80) none false⟩,
  ⟨(some (75, false)), (some 82), .len 82 false (.t 81 false)⟩,
  ⟨(some (75, false)), (some 83), .bin 83 .neq false (.t 79 false) (.t 82 false)⟩,
  ⟨(some (60, true)), (some 84), .pick 84 (.t 75 false) (.c (.bool true)) (.t 83 false)⟩,
  ⟨none, (some 85), .pick 85 (.t 60 false) (.t 84 false) (.c (.bool false))⟩]
abbrev c23r11 : List GOp := [⟨none, (some 6), .mv 6 (.c (.int .i64 (-1)))⟩]
abbrev c23s12 : ACode := (.seq (.reg c23r11 [6]) .ret)
abbrev c23s13 : ACode := (.cond (.t 85 false) c23s12 .skip)
abbrev c23r14 : List GOp := [⟨none, (some 7), .mv 7 (.c (.int .i64 0))⟩]
abbrev c23r15 : List GOp := [⟨none, (some 86), .mv 86 (.t 7 false)⟩,
  ⟨none, (some 87), .baddr 87 3 3⟩,
  ⟨none, (some 88), .bload 88 3 (some 87) none false⟩,
  ⟨none, (some 89), .len 89 false (.t 88 false)⟩,
  ⟨none, (some 90), .bin 90 .lss false (.t 86 false) (.t 89 false)⟩]
abbrev c23s16 : ACode := (.cond (.t 90 false) .skip (.exit 0))
abbrev c23r17 : List GOp := [⟨none, (some 93), .baddr 93 3 3⟩,
  ⟨none, (some 94), .bload 94 3 (some 93) none false⟩,
  ⟨none, (some 95), .mv 95 (.t 7 false)⟩,
  ⟨none, (some 96), .idx 96 (.t 94 false) (.t 95 false) 4⟩,
  ⟨none, (some 97), .vload 97 96 (some 4)⟩,
  ⟨none, (some 98), .mv 98 (.t 1 false)⟩,
  ⟨none, (some 99), .bin 99 .add false (.t 98 false) (.c (.int .i64 1))⟩,
  ⟨none, (some 100), .mv 100 (.t 2 false)⟩,
  ⟨none, (some 101), .call (some 101) 23 [(.t 97 false), (.t 99 false), (.t 100 false)]⟩,
  ⟨none, (some 2), .mv 2 (.t 101 true)⟩]
abbrev c23r18 : List GOp := [⟨none, (some 102), .mv 102 (.t 2 false)⟩,
  ⟨none, (some 103), .bin 103 .lss false (.t 102 false) (.c (.int .i64 0))⟩]
abbrev c23r19 : List GOp := [⟨none, (some 6), .mv 6 (.c (.int .i64 (-1)))⟩]
abbrev c23s20 : ACode := (.seq (.reg c23r19 [6]) .ret)
abbrev c23s21 : ACode := (.cond (.t 103 false) c23s20 .skip)
abbrev c23s22 : ACode := (.seq (.reg c23r18 [103]) c23s21)
abbrev c23s23 : ACode := (.seq (.reg c23r17 [2]) c23s22)
abbrev c23r24 : List GOp := [⟨none, (some 91), .mv 91 (.t 7 false)⟩,
  ⟨none, (some 92), .bin 92 .add false (.t 91 false) (.c (.int .i64 1))⟩,
  ⟨none, (some 7), .mv 7 (.t 92 true)⟩]
abbrev c23s25 : ACode := (.seq (.block 1 c23s23) (.reg c23r24 [7]))
abbrev c23s26 : ACode := (.seq (.seq (.reg c23r15 [90]) c23s16) c23s25)
abbrev c23s27 : ACode := (.loop c23s26)
abbrev c23s28 : ACode := (.block 0 c23s27)
abbrev c23r29 : List GOp := [⟨none, (some 104), .mv 104 (.t 2 false)⟩,
  ⟨none, (some 6), .mv 6 (.t 104 true)⟩]
abbrev c23s30 : ACode := (.seq (.reg c23r29 [6]) .ret)
abbrev c23s31 : ACode := (.seq (.seq (.reg c23r14 [7]) c23s28) c23s30)
abbrev c23s32 : ACode := (.seq (.seq (.reg c23r10 [85]) c23s13) c23s31)
abbrev c23s33 : ACode := (.seq (.seq (.reg c23r6 [56]) c23s9) c23s32)
abbrev c23s34 : ACode := (.seq (.seq (.reg c23r2 [25]) c23s5) c23s33)
abbrev c23s35 : ACode := (.seq (.reg c23r1 [2]) c23s34)
abbrev c23 : ACode := (.seq (.reg c23r0 [3, 6]) c23s35)
def a23 : AFn := ⟨[3], [0, 1, 2, 3, 6, 7, 25, 56, 85, 90, 103], [9, 11, 15, 20, 28, 34, 38, 45, 49, 59, 67, 74, 92, 101, 104], [], [(93, 3), (87, 3), (80, 3), (76, 3), (69, 3), (64, 3), (61, 3), (57, 3), (51, 3), (47, 3), (40, 3), (36, 3), (30, 3), (26, 3), (22, 3), (17, 3)], [(93, 3), (87, 3), (80, 2), (76, 2), (69, 3), (64, 3), (61, 2), (57, 0), (51, 3), (47, 0), (40, 2), (36, 0), (30, 1), (26, 0), (22, 0), (17, 0)], [], [], c23, [.tmp 6]⟩
theorem is23 : IsFn Tryz.prog 23 3 a23 := isFn_of mix Tryz.func23 (by kernel_rfl) (by kernel_rfl) (by kernel_rfl) (by kernel_rfl) (by kernel_rfl)
theorem sound23 {args : List AV} {r : AV} (hl : args.length = 3) (h : awp Tryz.prog c23 (unw Tryz.prog [] (Ends [.tmp 6] r)) (initSt args)) : Sound Tryz.prog 23 args r := sound_of is23 hl h
theorem total23 {args : List AV} {Φ : AV → Prop} (hl : args.length = 3) (h : awp Tryz.prog c23 (unw Tryz.prog [] (EndsP [.tmp 6] Φ)) (initSt args)) : Total Tryz.prog 23 args Φ := total_of is23 hl h

/-! longshore/longshoreref08.short -/
abbrev c24r0 : List GOp := [⟨none, (some 1), .bbox 1 (.t 0 false)⟩,
  ⟨none, (some 2), .mv 2 (.c (.bool false))⟩]
abbrev c24r1 : List GOp := [⟨none, (some 5), .baddr 5 1 1⟩,
  ⟨none, (some 6), .bload 6 1 (some 5) none false⟩,
  ⟨none, (some 7), .len 7 true (.t 6 false)⟩,
  ⟨none, (some 8), .bin 8 .gtr false (.t 7 false) (.c (.int .i64 200))⟩]
abbrev c24r2 : List GOp := [⟨none, (some 2), .mv 2 (.c (.bool false))⟩]
abbrev c24s3 : ACode := (.seq (.reg c24r2 [2]) .ret)
abbrev c24s4 : ACode := (.cond (.t 8 false) c24s3 .skip)
abbrev c24r5 : List GOp := [⟨none, (some 3), .mv 3 (.c (.int .i64 0))⟩]
abbrev c24r6 : List GOp := [⟨none, (some 9), .mv 9 (.t 3 false)⟩,
  ⟨none, (some 10), .baddr 10 1 2⟩,
  ⟨none, (some 11), .bload 11 1 (some 10) none false⟩,
  ⟨none, (some 12), .len 12 false (.t 11 false)⟩,
  ⟨none, (some 13), .bin 13 .lss false (.t 9 false) (.t 12 false)⟩]
abbrev c24s7 : ACode := (.cond (.t 13 false) .skip (.exit 0))
abbrev c24r8 : List GOp := [⟨none, (some 16), .baddr 16 1 2⟩,
  ⟨none, (some 17), .bload 17 1 (some 16) none false⟩,
  ⟨none, (some 18), .mv 18 (.t 3 false)⟩,
  ⟨none, (some 19), .idx 19 (.t 17 false) (.t 18 false) 1⟩,
  ⟨none, (some 20), .vload 20 19 none⟩,
  ⟨none, (some 21), .len 21 true (.t 20 false)⟩,
  ⟨none, (some 22), .bin 22 .gtr false (.t 21 false) (.c (.int .i64 200))⟩]
abbrev c24r9 : List GOp := [⟨none, (some 2), .mv 2 (.c (.bool false))⟩]
abbrev c24s10 : ACode := (.seq (.reg c24r9 [2]) .ret)
abbrev c24s11 : ACode := (.cond (.t 22 false) c24s10 .skip)
abbrev c24s12 : ACode := (.seq (.reg c24r8 [22]) c24s11)
abbrev c24r13 : List GOp := [⟨none, (some 14), .mv 14 (.t 3 false)⟩,
  ⟨none, (some 15), .bin 15 .add false (.t 14 false) (.c (.int .i64 1))⟩,
  ⟨none, (some 3), .mv 3 (.t 15 true)⟩]
abbrev c24s14 : ACode := (.seq (.block 1 c24s12) (.reg c24r13 [3]))
abbrev c24s15 : ACode := (.seq (.seq (.reg c24r6 [13]) c24s7) c24s14)
abbrev c24s16 : ACode := (.loop c24s15)
abbrev c24s17 : ACode := (.block 0 c24s16)
abbrev c24r18 : List GOp := [⟨none, (some 4), .mv 4 (.c (.int .i64 0))⟩]
abbrev c24r19 : List GOp := [⟨none, (some 23), .mv 23 (.t 4 false)⟩,
  ⟨none, (some 24), .baddr 24 1 3⟩,
  ⟨none, (some 25), .bload 25 1 (some 24) none false⟩,
  ⟨none, (some 26), .len 26 false (.t 25 false)⟩,
  ⟨none, (some 27), .bin 27 .lss false (.t 23 false) (.t 26 false)⟩]
abbrev c24s20 : ACode := (.cond (.t 27 false) .skip (.exit 2))
abbrev c24r21 : List GOp := [⟨none, (some 30), .baddr 30 1 3⟩,
  ⟨none, (some 31), .bload 31 1 (some 30) none false⟩,
  ⟨none, (some 32), .mv 32 (.t 4 false)⟩,
  ⟨none, (some 33), .idx 33 (.t 31 false) (.t 32 false) 4⟩,
  ⟨none, (some 34), .vload 34 33 (some 4)⟩,
  ⟨none, (some 35), .call (some 35) 24 [(.t 34 false)]⟩,
  ⟨none, (some 36), .un 36 .not (.t 35 false)⟩]
abbrev c24r22 : List GOp := [⟨none, (some 2), .mv 2 (.c (.bool false))⟩]
abbrev c24s23 : ACode := (.seq (.reg c24r22 [2]) .ret)
abbrev c24s24 : ACode := (.cond (.t 36 false) c24s23 .skip)
abbrev c24s25 : ACode := (.seq (.reg c24r21 [36]) c24s24)
abbrev c24r26 : List GOp := [⟨none, (some 28), .mv 28 (.t 4 false)⟩,
  ⟨none, (some 29), .bin 29 .add false (.t 28 false) (.c (.int .i64 1))⟩,
  ⟨none, (some 4), .mv 4 (.t 29 true)⟩]
abbrev c24s27 : ACode := (.seq (.block 3 c24s25) (.reg c24r26 [4]))
abbrev c24s28 : ACode := (.seq (.seq (.reg c24r19 [27]) c24s20) c24s27)
abbrev c24s29 : ACode := (.loop c24s28)
abbrev c24s30 : ACode := (.block 2 c24s29)
abbrev c24r31 : List GOp := [⟨none, (some 2), .mv 2 (.c (.bool true))⟩]
abbrev c24s32 : ACode := (.seq (.reg c24r31 [2]) .ret)
abbrev c24s33 : ACode := (.seq (.seq (.reg c24r18 [4]) c24s30) c24s32)
abbrev c24s34 : ACode := (.seq (.seq (.reg c24r5 [3]) c24s17) c24s33)
abbrev c24s35 : ACode := (.seq (.seq (.reg c24r1 [8]) c24s4) c24s34)
abbrev c24 : ACode := (.seq (.reg c24r0 [1, 2]) c24s35)
def a24 : AFn := ⟨[1], [0, 1, 2, 3, 4, 8, 13, 22, 27, 36], [15, 29], [], [(30, 1), (24, 1), (16, 1), (10, 1), (5, 1)], [(30, 3), (24, 3), (16, 2), (10, 2), (5, 1)], [], [], c24, [.tmp 2]⟩
theorem is24 : IsFn Tryz.prog 24 1 a24 := isFn_of mix Tryz.func24 (by kernel_rfl) (by kernel_rfl) (by kernel_rfl) (by kernel_rfl) (by kernel_rfl)
theorem sound24 {args : List AV} {r : AV} (hl : args.length = 1) (h : awp Tryz.prog c24 (unw Tryz.prog [] (Ends [.tmp 2] r)) (initSt args)) : Sound Tryz.prog 24 args r := sound_of is24 hl h
theorem total24 {args : List AV} {Φ : AV → Prop} (hl : args.length = 1) (h : awp Tryz.prog c24 (unw Tryz.prog [] (EndsP [.tmp 2] Φ)) (initSt args)) : Total Tryz.prog 24 args Φ := total_of is24 hl h

/-! longshore/longshoreref02.Project -/
abbrev c27r0 : List GOp := [⟨none, (some 2), .mv 2 (.c (.bool false))⟩]
abbrev c27r1 : List GOp := [⟨none, (some 5), .mv 5 (.t 0 false)⟩,
  ⟨none, (some 6), .len 6 true (.t 5 false)⟩,
  ⟨none, (some 7), .bin 7 .lss false (.t 6 false) (.c (.int .i64 1))⟩,
  ⟨none, (some 8), .mv 8 (.t 7 true)⟩,
  ⟨(some (8, false)), (some 9), .mv 9 (.t 0 false)⟩,
  ⟨(some (8, false)), (some 10), .len 10 true (.t 9 false)⟩,
  ⟨(some (8, false)), (some 11), .bin 11 .gtr false (.t 10 false) (.c (.int .i64 24))⟩,
  ⟨none, (some 12), .pick 12 (.t 8 false) (.c (.bool true)) (.t 11 false)⟩]
abbrev c27r2 : List GOp := [⟨none, (some 2), .mv 2 (.c (.bool false))⟩]
abbrev c27s3 : ACode := (.seq (.reg c27r2 [2]) .ret)
abbrev c27s4 : ACode := (.cond (.t 12 false) c27s3 .skip)
abbrev c27r5 : List GOp := [⟨none, (some 3), .mv 3 (.c (.int .i64 0))⟩]
abbrev c27r6 : List GOp := [⟨none, (some 13), .mv 13 (.t 3 false)⟩,
  ⟨none, (some 14), .mv 14 (.t 0 false)⟩,
  ⟨none, (some 15), .len 15 true (.t 14 false)⟩,
  ⟨none, (some 16), .bin 16 .lss false (.t 13 false) (.t 15 false)⟩]
abbrev c27s7 : ACode := (.cond (.t 16 false) .skip (.exit 0))
abbrev c27r8 : List GOp := [⟨none, (some 19), .mv 19 (.t 0 false)⟩,
  ⟨none, (some 20), .mv 20 (.t 3 false)⟩,
  ⟨none, (some 21), .sidx 21 (.t 19 false) (.t 20 false)⟩,
  ⟨none, (some 22), .call (some 22) 45 [(.t 21 false)]⟩,
  ⟨none, (some 4), .mv 4 (.t 22 true)⟩]
abbrev c27r9 : List GOp := [⟨none, (some 23), .mv 23 (.t 4 false)⟩,
  ⟨none, (some 24), .bin 24 .eql false (.t 23 false) (.c (.int .i64 0))⟩,
  ⟨none, (some 25), .mv 25 (.t 24 true)⟩,
  ⟨(some (25, false)), (some 26), .mv 26 (.t 4 false)⟩,
  ⟨(some (25, false)), (some 27), .bin 27 .eql false (.t 26 false) (.c (.int .i64 2))⟩,
  ⟨none, (some 28), .pick 28 (.t 25 false) (.c (.bool true)) (.t 27 false)⟩,
  ⟨none, (some 29), .mv 29 (.t 28 true)⟩,
  ⟨(some (29, false)), (some 30), .mv 30 (.t 4 false)⟩,
  ⟨(some (29, false)), (some 31), .bin 31 .eql false (.t 30 false) (.c (.int .i64 6))⟩,
  ⟨none, (some 32), .pick 32 (.t 29 false) (.c (.bool true)) (.t 31 false)⟩,
  ⟨none, (some 33), .mv 33 (.t 32 true)⟩,
  ⟨(some (33, false)), (some 34), .mv 34 (.t 3 false)⟩,
  ⟨(some (33, false)), (some 35), .bin 35 .eql false (.t 34 false) (.c (.int .i64 0))⟩,
  ⟨(some (33, false)), (some 36), .mv 36 (.t 35 true)⟩,
  ⟨(some (36, true)), (some 37), .mv 37 (.t 4 false)⟩,
  ⟨(some (36, true)), (some 38), .bin 38 .gtr false (.t 37 false) (.c (.int .i64 3))⟩,
  ⟨(some (33, false)), (some 39), .pick 39 (.t 36 false) (.t 38 false) (.c (.bool false))⟩,
  ⟨none, (some 40), .pick 40 (.t 33 false) (.c (.bool true)) (.t 39 false)⟩]
abbrev c27r10 : List GOp := [⟨none, (some 2), .mv 2 (.c (.bool false))⟩]
abbrev c27s11 : ACode := (.seq (.reg c27r10 [2]) .ret)
abbrev c27s12 : ACode := (.cond (.t 40 false) c27s11 .skip)
abbrev c27s13 : ACode := (.seq (.reg c27r9 [40]) c27s12)
abbrev c27s14 : ACode := (.seq (.reg c27r8 [4]) c27s13)
abbrev c27r15 : List GOp := [⟨none, (some 17), .mv 17 (.t 3 false)⟩,
  ⟨none, (some 18), .bin 18 .add false (.t 17 false) (.c (.int .i64 1))⟩,
  ⟨none, (some 3), .mv 3 (.t 18 true)⟩]
abbrev c27s16 : ACode := (.seq (.block 1 c27s14) (.reg c27r15 [3]))
abbrev c27s17 : ACode := (.seq (.seq (.reg c27r6 [16]) c27s7) c27s16)
abbrev c27s18 : ACode := (.loop c27s17)
abbrev c27s19 : ACode := (.block 0 c27s18)
abbrev c27r20 : List GOp := [⟨none, (some 2), .mv 2 (.c (.bool true))⟩]
abbrev c27s21 : ACode := (.seq (.reg c27r20 [2]) .ret)
abbrev c27s22 : ACode := (.seq (.seq (.reg c27r5 [3]) c27s19) c27s21)
abbrev c27s23 : ACode := (.seq (.seq (.reg c27r1 [12]) c27s4) c27s22)
abbrev c27 : ACode := (.seq (.reg c27r0 [2]) c27s23)
def a27 : AFn := ⟨[], [0, 2, 3, 4, 12, 16, 40], [7, 18, 22, 24, 28, 32, 35], [], [], [], [], [], c27, [.tmp 2]⟩
theorem is27 : IsFn Tryz.prog 27 1 a27 := isFn_of mix Tryz.func27 (by kernel_rfl) (by kernel_rfl) (by kernel_rfl) (by kernel_rfl) (by kernel_rfl)
theorem sound27 {args : List AV} {r : AV} (hl : args.length = 1) (h : awp Tryz.prog c27 (unw Tryz.prog [] (Ends [.tmp 2] r)) (initSt args)) : Sound Tryz.prog 27 args r := sound_of is27 hl h
theorem total27 {args : List AV} {Φ : AV → Prop} (hl : args.length = 1) (h : awp Tryz.prog c27 (unw Tryz.prog [] (EndsP [.tmp 2] Φ)) (initSt args)) : Total Tryz.prog 27 args Φ := total_of is27 hl h

/-! longshore/longshoreref08.With -/
abbrev c29r0 : List GOp := [⟨none, (some 3), .bbox 3 (.t 0 false)⟩,
  ⟨none, (some 5), .bbox 5 (.t 2 false)⟩,
  ⟨none, (some 6), .balloc 6 (.agg [(.int .i64 0), (.str []), (.oslice 1 []), (.oslice 4 [])])⟩]
abbrev c29r1 : List GOp := [⟨none, (some 10), .baddr 10 3 0⟩,
  ⟨none, (some 11), .bload 11 3 (some 10) none false⟩,
  ⟨none, (some 12), .bin 12 .neq false (.t 11 false) (.c (.int .i64 0))⟩,
  ⟨none, (some 13), .mv 13 (.t 12 true)⟩,
  ⟨(some (13, true)), (some 14), .baddr 14 3 0⟩,
  ⟨(some (13, true)), (some 15), .bload 15 3 (some 14) none false⟩,
  ⟨(some (13, true)), (some 16), .bin 16 .neq false (.t 15 false) (.c (.int .i64 3))⟩,
  ⟨none, (some 17), .pick 17 (.t 13 false) (.t 16 false) (.c (.bool false))⟩]
abbrev c29r2 : List GOp := [⟨none, (some 18), .bload 18 3 none (some 4) false⟩,
  ⟨none, none, .bstore 6 none (.t 18 true) 4⟩]
abbrev c29s3 : ACode := (.seq (.reg c29r2 [6]) .ret)
abbrev c29s4 : ACode := (.cond (.t 17 false) c29s3 .skip)
abbrev c29r5 : List GOp := [⟨none, (some 19), .build 19 [(.int .i64 0), (.str []), (.oslice 1 []), (.oslice 4 [])] [(0, 1, (.c (.int .i64 3)))]⟩,
  ⟨none, (some 7), .balloc 7 (.agg [(.int .i64 0), (.str []), (.oslice 1 []), (.oslice 4 [])])⟩,
  ⟨none, none, .bstore 7 none (.t 19 true) 4⟩]
abbrev c29r6 : List GOp := [⟨none, (some 8), .mv 8 (.c (.bool false))⟩]
abbrev c29r7 : List GOp := [⟨none, (some 9), .mv 9 (.c (.int .i64 0))⟩]
abbrev c29r8 : List GOp := [⟨none, (some 20), .mv 20 (.t 9 false)⟩,
  ⟨none, (some 21), .baddr 21 3 2⟩,
  ⟨none, (some 22), .bload 22 3 (some 21) none false⟩,
  ⟨none, (some 23), .len 23 false (.t 22 false)⟩,
  ⟨none, (some 24), .bin 24 .lss false (.t 20 false) (.t 23 false)⟩]
abbrev c29s9 : ACode := (.cond (.t 24 false) .skip (.exit 0))
abbrev c29r10 : List GOp := [⟨none, (some 27), .baddr 27 7 2⟩,
  ⟨none, (some 28), .btk 28 7 (some 27) 2⟩,
  ⟨none, (some 29), .baddr 29 3 2⟩,
  ⟨none, (some 30), .bload 30 3 (some 29) none false⟩,
  ⟨none, (some 31), .mv 31 (.t 9 false)⟩,
  ⟨none, (some 32), .idx 32 (.t 30 false) (.t 31 false) 1⟩,
  ⟨none, (some 33), .vload 33 32 none⟩,
  ⟨none, (some 34), .mkslice 34 1 [(.t 33 false)]⟩,
  ⟨none, (some 35), .append 35 (.t 28 true) (.t 34 false) 1 16⟩,
  ⟨none, (some 36), .baddr 36 7 2⟩,
  ⟨none, none, .bstore 7 (some 36) (.t 35 true) 1⟩]
abbrev c29r11 : List GOp := [⟨none, (some 37), .baddr 37 3 2⟩,
  ⟨none, (some 38), .bload 38 3 (some 37) none false⟩,
  ⟨none, (some 39), .mv 39 (.t 9 false)⟩,
  ⟨none, (some 40), .idx 40 (.t 38 false) (.t 39 false) 1⟩,
  ⟨none, (some 41), .vload 41 40 none⟩,
  ⟨none, (some 42), .mv 42 (.t 1 false)⟩,
  ⟨none, (some 43), .bin 43 .eql false (.t 41 false) (.t 42 false)⟩]
abbrev c29r12 : List GOp := [⟨none, (some 8), .mv 8 (.c (.bool true))⟩]
abbrev c29r13 : List GOp := [⟨none, (some 44), .baddr 44 7 3⟩,
  ⟨none, (some 45), .btk 45 7 (some 44) 3⟩,
  ⟨none, (some 46), .bload 46 5 none (some 4) false⟩,
  ⟨none, (some 47), .mkslice 47 4 [(.t 46 false)]⟩,
  ⟨none, (some 48), .append 48 (.t 45 true) (.t 47 false) 4 72⟩,
  ⟨none, (some 49), .baddr 49 7 3⟩,
  ⟨none, none, .bstore 7 (some 49) (.t 48 true) 1⟩]
abbrev c29s14 : ACode := (.seq (.reg c29r12 [8]) (.reg c29r13 [7]))
abbrev c29r15 : List GOp := [⟨none, (some 50), .baddr 50 7 3⟩,
  ⟨none, (some 51), .btk 51 7 (some 50) 3⟩,
  ⟨none, (some 52), .baddr 52 3 3⟩,
  ⟨none, (some 53), .bload 53 3 (some 52) none false⟩,
  ⟨none, (some 54), .mv 54 (.t 9 false)⟩,
  ⟨none, (some 55), .idx 55 (.t 53 false) (.t 54 false) 4⟩,
  ⟨none, (some 56), .vload 56 55 (some 4)⟩,
  ⟨none, (some 57), .mkslice 57 4 [(.t 56 false)]⟩,
  ⟨none, (some 58), .append 58 (.t 51 true) (.t 57 false) 4 72⟩,
  ⟨none, (some 59), .baddr 59 7 3⟩,
  ⟨none, none, .bstore 7 (some 59) (.t 58 true) 1⟩]
abbrev c29s16 : ACode := (.cond (.t 43 false) c29s14 (.reg c29r15 [7]))
abbrev c29s17 : ACode := (.seq (.reg c29r11 [43]) c29s16)
abbrev c29s18 : ACode := (.seq (.reg c29r10 [7]) c29s17)
abbrev c29r19 : List GOp := [⟨none, (some 25), .mv 25 (.t 9 false)⟩,
  ⟨none, (some 26), .bin 26 .add false (.t 25 false) (.c (.int .i64 1))⟩,
  ⟨none, (some 9), .mv 9 (.t 26 true)⟩]
abbrev c29s20 : ACode := (.seq (.block 1 c29s18) (.reg c29r19 [9]))
abbrev c29s21 : ACode := (.seq (.seq (.reg c29r8 [24]) c29s9) c29s20)
abbrev c29s22 : ACode := (.loop c29s21)
abbrev c29s23 : ACode := (.block 0 c29s22)
abbrev c29r24 : List GOp := [⟨none, (some 60), .mv 60 (.t 8 false)⟩,
  ⟨none, (some 61), .un 61 .not (.t 60 false)⟩]
abbrev c29r25 : List GOp := [⟨none, (some 62), .baddr 62 7 2⟩,
  ⟨none, (some 63), .btk 63 7 (some 62) 2⟩,
  ⟨none, (some 64), .mv 64 (.t 1 false)⟩,
  ⟨none, (some 65), .mkslice 65 1 [(.t 64 false)]⟩,
  ⟨none, (some 66), .append 66 (.t 63 true) (.t 65 false) 1 16⟩,
  ⟨none, (some 67), .baddr 67 7 2⟩,
  ⟨none, none, .bstore 7 (some 67) (.t 66 true) 1⟩]
abbrev c29r26 : List GOp := [⟨none, (some 68), .baddr 68 7 3⟩,
  ⟨none, (some 69), .btk 69 7 (some 68) 3⟩,
  ⟨none, (some 70), .bload 70 5 none (some 4) false⟩,
  ⟨none, (some 71), .mkslice 71 4 [(.t 70 false)]⟩,
  ⟨none, (some 72), .append 72 (.t 69 true) (.t 71 false) 4 72⟩,
  ⟨none, (some 73), .baddr 73 7 3⟩,
  ⟨none, none, .bstore 7 (some 73) (.t 72 true) 1⟩]
abbrev c29s27 : ACode := (.seq (.reg c29r25 [7]) (.reg c29r26 [7]))
abbrev c29s28 : ACode := (.cond (.t 61 false) c29s27 .skip)
abbrev c29r29 : List GOp := [⟨none, (some 74), .bload 74 7 none (some 4) false⟩,
  ⟨none, none, .bstore 6 none (.t 74 true) 4⟩]
abbrev c29s30 : ACode := (.seq (.reg c29r29 [6]) .ret)
abbrev c29s31 : ACode := (.seq (.seq (.reg c29r24 [61]) c29s28) c29s30)
abbrev c29s32 : ACode := (.seq (.seq (.reg c29r7 [9]) c29s23) c29s31)
abbrev c29s33 : ACode := (.seq (.reg c29r6 [8]) c29s32)
abbrev c29s34 : ACode := (.seq (.reg c29r5 [7]) c29s33)
abbrev c29s35 : ACode := (.seq (.seq (.reg c29r1 [17]) c29s4) c29s34)
abbrev c29 : ACode := (.seq (.reg c29r0 [3, 5, 6]) c29s35)
def a29 : AFn := ⟨[3, 5, 6, 7], [0, 1, 2, 3, 5, 6, 7, 8, 9, 17, 24, 43, 61], [12, 18, 19, 26, 28, 35, 45, 48, 51, 58, 63, 66, 69, 72, 74], [28, 45, 51, 63, 69], [(73, 7), (68, 7), (67, 7), (62, 7), (59, 7), (52, 3), (50, 7), (49, 7), (44, 7), (37, 3), (36, 7), (29, 3), (27, 7), (21, 3), (14, 3), (10, 3)], [(73, 3), (68, 3), (67, 2), (62, 2), (59, 3), (52, 3), (50, 3), (49, 3), (44, 3), (37, 2), (36, 2), (29, 2), (27, 2), (21, 2), (14, 0), (10, 0)], [], [], c29, [.cell 6 (some 4)]⟩
theorem is29 : IsFn Tryz.prog 29 3 a29 := isFn_of mix Tryz.func29 (by kernel_rfl) (by kernel_rfl) (by kernel_rfl) (by kernel_rfl) (by kernel_rfl)
theorem sound29 {args : List AV} {r : AV} (hl : args.length = 3) (h : awp Tryz.prog c29 (unw Tryz.prog [] (Ends [.cell 6 (some 4)] r)) (initSt args)) : Sound Tryz.prog 29 args r := sound_of is29 hl h
theorem total29 {args : List AV} {Φ : AV → Prop} (hl : args.length = 3) (h : awp Tryz.prog c29 (unw Tryz.prog [] (EndsP [.cell 6 (some 4)] Φ)) (initSt args)) : Total Tryz.prog 29 args Φ := total_of is29 hl h

/-! longshore/longshoreref08.Sorted -/
abbrev c30r0 : List GOp := [⟨none, (some 1), .bbox 1 (.t 0 false)⟩,
  ⟨none, (some 2), .balloc 2 (.agg [(.int .i64 0), (.str []), (.oslice 1 []), (.oslice 4 [])])⟩]
abbrev c30r1 : List GOp := [⟨none, (some 9), .baddr 9 1 0⟩,
  ⟨none, (some 10), .bload 10 1 (some 9) none false⟩,
  ⟨none, (some 11), .baddr 11 1 1⟩,
  ⟨none, (some 12), .bload 12 1 (some 11) none false⟩,
  ⟨none, (some 13), .build 13 [(.int .i64 0), (.str []), (.oslice 1 []), (.oslice 4 [])] [(0, 1, (.t 10 false)), (1, 1, (.t 12 false))]⟩,
  ⟨none, (some 3), .balloc 3 (.agg [(.int .i64 0), (.str []), (.oslice 1 []), (.oslice 4 [])])⟩,
  ⟨none, none, .bstore 3 none (.t 13 true) 4⟩]
abbrev c30r2 : List GOp := [⟨none, (some 14), .baddr 14 1 0⟩,
  ⟨none, (some 15), .bload 15 1 (some 14) none false⟩,
  ⟨none, (some 16), .bin 16 .eql false (.t 15 false) (.c (.int .i64 3))⟩]
abbrev c30r3 : List GOp := [⟨none, (some 17), .baddr 17 1 2⟩,
  ⟨none, (some 18), .bload 18 1 (some 17) none false⟩,
  ⟨none, (some 19), .call (some 19) 42 [(.t 18 false)]⟩,
  ⟨none, (some 4), .mv 4 (.t 19 true)⟩]
abbrev c30r4 : List GOp := [⟨none, (some 5), .mv 5 (.c (.int .i64 0))⟩]
abbrev c30r5 : List GOp := [⟨none, (some 20), .mv 20 (.t 5 false)⟩,
  ⟨none, (some 21), .mv 21 (.t 4 false)⟩,
  ⟨none, (some 22), .len 22 false (.t 21 false)⟩,
  ⟨none, (some 23), .bin 23 .lss false (.t 20 false) (.t 22 false)⟩]
abbrev c30s6 : ACode := (.cond (.t 23 false) .skip (.exit 0))
abbrev c30r7 : List GOp := [⟨none, (some 27), .bload 27 1 none (some 4) false⟩,
  ⟨none, (some 28), .mv 28 (.t 4 false)⟩,
  ⟨none, (some 29), .mv 29 (.t 5 false)⟩,
  ⟨none, (some 30), .idx 30 (.t 28 false) (.t 29 false) 1⟩,
  ⟨none, (some 31), .vload 31 30 none⟩,
  ⟨none, (some 32), .call (some 32) 40 [(.t 27 false), (.t 31 false)]⟩,
  ⟨none, (some 26), .mv 26 (.t 32 true)⟩,
  ⟨none, (some 33), .extract 33 (.t 26 false) 0⟩,
  ⟨none, (some 34), .extract 34 (.t 26 false) 1⟩,
  ⟨none, (some 6), .balloc 6 (.agg [(.int .i64 0), (.str []), (.oslice 1 []), (.oslice 4 [])])⟩,
  ⟨none, none, .bstore 6 none (.t 33 true) 4⟩,
  ⟨none, (some 7), .mv 7 (.t 34 true)⟩]
abbrev c30r8 : List GOp := [⟨none, (some 35), .baddr 35 3 2⟩,
  ⟨none, (some 36), .btk 36 3 (some 35) 2⟩,
  ⟨none, (some 37), .mv 37 (.t 4 false)⟩,
  ⟨none, (some 38), .mv 38 (.t 5 false)⟩,
  ⟨none, (some 39), .idx 39 (.t 37 false) (.t 38 false) 1⟩,
  ⟨none, (some 40), .vload 40 39 none⟩,
  ⟨none, (some 41), .mkslice 41 1 [(.t 40 false)]⟩,
  ⟨none, (some 42), .append 42 (.t 36 true) (.t 41 false) 1 16⟩,
  ⟨none, (some 43), .baddr 43 3 2⟩,
  ⟨none, none, .bstore 3 (some 43) (.t 42 true) 1⟩]
abbrev c30r9 : List GOp := [⟨none, (some 44), .baddr 44 3 3⟩,
  ⟨none, (some 45), .btk 45 3 (some 44) 3⟩,
  ⟨none, (some 46), .bload 46 6 none (some 4) false⟩,
  ⟨none, (some 47), .call (some 47) 30 [(.t 46 false)]⟩,
  ⟨none, (some 48), .mkslice 48 4 [(.t 47 false)]⟩,
  ⟨none, (some 49), .append 49 (.t 45 true) (.t 48 false) 4 72⟩,
  ⟨none, (some 50), .baddr 50 3 3⟩,
  ⟨none, none, .bstore 3 (some 50) (.t 49 true) 1⟩]
abbrev c30s10 : ACode := (.seq (.reg c30r8 [3]) (.reg c30r9 [3]))
abbrev c30s11 : ACode := (.seq (.reg c30r7 [6]) c30s10)
abbrev c30r12 : List GOp := [⟨none, (some 24), .mv 24 (.t 5 false)⟩,
  ⟨none, (some 25), .bin 25 .add false (.t 24 false) (.c (.int .i64 1))⟩,
  ⟨none, (some 5), .mv 5 (.t 25 true)⟩]
abbrev c30s13 : ACode := (.seq (.block 1 c30s11) (.reg c30r12 [5]))
abbrev c30s14 : ACode := (.seq (.seq (.reg c30r5 [23]) c30s6) c30s13)
abbrev c30s15 : ACode := (.loop c30s14)
abbrev c30s16 : ACode := (.block 0 c30s15)
abbrev c30r17 : List GOp := [⟨none, (some 51), .bload 51 3 none (some 4) false⟩,
  ⟨none, none, .bstore 2 none (.t 51 true) 4⟩]
abbrev c30s18 : ACode := (.seq (.reg c30r17 [2]) .ret)
abbrev c30s19 : ACode := (.seq (.seq (.reg c30r4 [5]) c30s16) c30s18)
abbrev c30s20 : ACode := (.seq (.reg c30r3 [4]) c30s19)
abbrev c30s21 : ACode := (.cond (.t 16 false) c30s20 .skip)
abbrev c30r22 : List GOp := [⟨none, (some 8), .mv 8 (.c (.int .i64 0))⟩]
abbrev c30r23 : List GOp := [⟨none, (some 52), .mv 52 (.t 8 false)⟩,
  ⟨none, (some 53), .baddr 53 1 3⟩,
  ⟨none, (some 54), .bload 54 1 (some 53) none false⟩,
  ⟨none, (some 55), .len 55 false (.t 54 false)⟩,
  ⟨none, (some 56), .bin 56 .lss false (.t 52 false) (.t 55 false)⟩]
abbrev c30s24 : ACode := (.cond (.t 56 false) .skip (.exit 2))
abbrev c30r25 : List GOp := [⟨none, (some 59), .baddr 59 3 3⟩,
  ⟨none, (some 60), .btk 60 3 (some 59) 3⟩,
  ⟨none, (some 61), .baddr 61 1 3⟩,
  ⟨none, (some 62), .bload 62 1 (some 61) none false⟩,
  ⟨none, (some 63), .mv 63 (.t 8 false)⟩,
  ⟨none, (some 64), .idx 64 (.t 62 false) (.t 63 false) 4⟩,
  ⟨none, (some 65), .vload 65 64 (some 4)⟩,
  ⟨none, (some 66), .call (some 66) 30 [(.t 65 false)]⟩,
  ⟨none, (some 67), .mkslice 67 4 [(.t 66 false)]⟩,
  ⟨none, (some 68), .append 68 (.t 60 true) (.t 67 false) 4 72⟩,
  ⟨none, (some 69), .baddr 69 3 3⟩,
  ⟨none, none, .bstore 3 (some 69) (.t 68 true) 1⟩]
abbrev c30r26 : List GOp := [⟨none, (some 57), .mv 57 (.t 8 false)⟩,
  ⟨none, (some 58), .bin 58 .add false (.t 57 false) (.c (.int .i64 1))⟩,
  ⟨none, (some 8), .mv 8 (.t 58 true)⟩]
abbrev c30s27 : ACode := (.seq (.block 3 (.reg c30r25 [3])) (.reg c30r26 [8]))
abbrev c30s28 : ACode := (.seq (.seq (.reg c30r23 [56]) c30s24) c30s27)
abbrev c30s29 : ACode := (.loop c30s28)
abbrev c30s30 : ACode := (.block 2 c30s29)
abbrev c30r31 : List GOp := [⟨none, (some 70), .bload 70 3 none (some 4) false⟩,
  ⟨none, none, .bstore 2 none (.t 70 true) 4⟩]
abbrev c30s32 : ACode := (.seq (.reg c30r31 [2]) .ret)
abbrev c30s33 : ACode := (.seq (.seq (.reg c30r22 [8]) c30s30) c30s32)
abbrev c30s34 : ACode := (.seq (.seq (.reg c30r2 [16]) c30s21) c30s33)
abbrev c30s35 : ACode := (.seq (.reg c30r1 [3]) c30s34)
abbrev c30 : ACode := (.seq (.reg c30r0 [1, 2]) c30s35)
def a30 : AFn := ⟨[1, 2, 3, 6], [0, 1, 2, 3, 4, 5, 6, 8, 16, 23, 56], [13, 19, 25, 32, 33, 34, 36, 42, 45, 49, 51, 58, 60, 68, 70], [36, 45, 60], [(69, 3), (61, 1), (59, 3), (53, 1), (50, 3), (44, 3), (43, 3), (35, 3), (17, 1), (14, 1), (11, 1), (9, 1)], [(69, 3), (61, 3), (59, 3), (53, 3), (50, 3), (44, 3), (43, 2), (35, 2), (17, 2), (14, 0), (11, 1), (9, 0)], [], [], c30, [.cell 2 (some 4)]⟩
theorem is30 : IsFn Tryz.prog 30 1 a30 := isFn_of mix Tryz.func30 (by kernel_rfl) (by kernel_rfl) (by kernel_rfl) (by kernel_rfl) (by kernel_rfl)
theorem sound30 {args : List AV} {r : AV} (hl : args.length = 1) (h : awp Tryz.prog c30 (unw Tryz.prog [] (Ends [.cell 2 (some 4)] r)) (initSt args)) : Sound Tryz.prog 30 args r := sound_of is30 hl h
theorem total30 {args : List AV} {Φ : AV → Prop} (hl : args.length = 1) (h : awp Tryz.prog c30 (unw Tryz.prog [] (EndsP [.cell 2 (some 4)] Φ)) (initSt args)) : Total Tryz.prog 30 args Φ := total_of is30 hl h

/-! longshore/longshoreref08.Right -/
abbrev c31r0 : List GOp := [⟨none, (some 1), .bbox 1 (.t 0 false)⟩,
  ⟨none, (some 2), .mv 2 (.c (.bool false))⟩]
abbrev c31r1 : List GOp := [⟨none, (some 3), .bload 3 1 none (some 4) false⟩,
  ⟨none, (some 4), .call (some 4) 23 [(.t 3 false), (.c (.int .i64 1)), (.c (.int .i64 2000))]⟩,
  ⟨none, (some 5), .bin 5 .geq false (.t 4 false) (.c (.int .i64 0))⟩,
  ⟨none, (some 2), .mv 2 (.t 5 true)⟩]
abbrev c31s2 : ACode := (.seq (.reg c31r1 [2]) .ret)
abbrev c31 : ACode := (.seq (.reg c31r0 [1, 2]) c31s2)
def a31 : AFn := ⟨[1], [0, 1, 2], [5], [], [], [], [], [], c31, [.tmp 2]⟩
theorem is31 : IsFn Tryz.prog 31 1 a31 := isFn_of mix Tryz.func31 (by kernel_rfl) (by kernel_rfl) (by kernel_rfl) (by kernel_rfl) (by kernel_rfl)
theorem sound31 {args : List AV} {r : AV} (hl : args.length = 1) (h : awp Tryz.prog c31 (unw Tryz.prog [] (Ends [.tmp 2] r)) (initSt args)) : Sound Tryz.prog 31 args r := sound_of is31 hl h
theorem total31 {args : List AV} {Φ : AV → Prop} (hl : args.length = 1) (h : awp Tryz.prog c31 (unw Tryz.prog [] (EndsP [.tmp 2] Φ)) (initSt args)) : Total Tryz.prog 31 args Φ := total_of is31 hl h

/-! longshore/longshoreref08.Get -/
abbrev c40r0 : List GOp := [⟨none, (some 2), .bbox 2 (.t 0 false)⟩,
  ⟨none, (some 4), .balloc 4 (.agg [(.int .i64 0), (.str []), (.oslice 1 []), (.oslice 4 [])])⟩,
  ⟨none, (some 5), .mv 5 (.c (.bool false))⟩]
abbrev c40r1 : List GOp := [⟨none, (some 7), .baddr 7 2 0⟩,
  ⟨none, (some 8), .bload 8 2 (some 7) none false⟩,
  ⟨none, (some 9), .bin 9 .eql false (.t 8 false) (.c (.int .i64 3))⟩]
abbrev c40r2 : List GOp := [⟨none, (some 6), .mv 6 (.c (.int .i64 0))⟩]
abbrev c40r3 : List GOp := [⟨none, (some 10), .mv 10 (.t 6 false)⟩,
  ⟨none, (some 11), .baddr 11 2 2⟩,
  ⟨none, (some 12), .bload 12 2 (some 11) none false⟩,
  ⟨none, (some 13), .len 13 false (.t 12 false)⟩,
  ⟨none, (some 14), .bin 14 .lss false (.t 10 false) (.t 13 false)⟩]
abbrev c40s4 : ACode := (.cond (.t 14 false) .skip (.exit 0))
abbrev c40r5 : List GOp := [⟨none, (some 17), .baddr 17 2 2⟩,
  ⟨none, (some 18), .bload 18 2 (some 17) none false⟩,
  ⟨none, (some 19), .mv 19 (.t 6 false)⟩,
  ⟨none, (some 20), .idx 20 (.t 18 false) (.t 19 false) 1⟩,
  ⟨none, (some 21), .vload 21 20 none⟩,
  ⟨none, (some 22), .mv 22 (.t 1 false)⟩,
  ⟨none, (some 23), .bin 23 .eql false (.t 21 false) (.t 22 false)⟩]
abbrev c40r6 : List GOp := [⟨none, (some 24), .baddr 24 2 3⟩,
  ⟨none, (some 25), .bload 25 2 (some 24) none false⟩,
  ⟨none, (some 26), .mv 26 (.t 6 false)⟩,
  ⟨none, (some 27), .idx 27 (.t 25 false) (.t 26 false) 4⟩,
  ⟨none, (some 28), .vload 28 27 (some 4)⟩,
  ⟨none, none, .bstore 4 none (.t 28 true) 4⟩,
  ⟨none, (some 5), .mv 5 (.c (.bool true))⟩]
abbrev c40s7 : ACode := (.seq (.reg c40r6 [4, 5]) .ret)
abbrev c40s8 : ACode := (.cond (.t 23 false) c40s7 .skip)
abbrev c40s9 : ACode := (.seq (.reg c40r5 [23]) c40s8)
abbrev c40r10 : List GOp := [⟨none, (some 15), .mv 15 (.t 6 false)⟩,
  ⟨none, (some 16), .bin 16 .add false (.t 15 false) (.c (.int .i64 1))⟩,
  ⟨none, (some 6), .mv 6 (.t 16 true)⟩]
abbrev c40s11 : ACode := (.seq (.block 1 c40s9) (.reg c40r10 [6]))
abbrev c40s12 : ACode := (.seq (.seq (.reg c40r3 [14]) c40s4) c40s11)
abbrev c40s13 : ACode := (.loop c40s12)
abbrev c40s14 : ACode := (.block 0 c40s13)
abbrev c40s15 : ACode := (.seq (.reg c40r2 [6]) c40s14)
abbrev c40s16 : ACode := (.cond (.t 9 false) c40s15 .skip)
abbrev c40r17 : List GOp := [⟨none, (some 29), .build 29 [(.int .i64 0), (.str []), (.oslice 1 []), (.oslice 4 [])] []⟩,
  ⟨none, none, .bstore 4 none (.t 29 true) 4⟩,
  ⟨none, (some 5), .mv 5 (.c (.bool false))⟩]
abbrev c40s18 : ACode := (.seq (.reg c40r17 [4, 5]) .ret)
abbrev c40s19 : ACode := (.seq (.seq (.reg c40r1 [9]) c40s16) c40s18)
abbrev c40 : ACode := (.seq (.reg c40r0 [2, 4, 5]) c40s19)
def a40 : AFn := ⟨[2, 4], [0, 1, 2, 4, 5, 6, 9, 14, 23], [16, 28, 29], [], [(24, 2), (17, 2), (11, 2), (7, 2)], [(24, 3), (17, 2), (11, 2), (7, 0)], [], [], c40, [.cell 4 (some 4), .tmp 5]⟩
theorem is40 : IsFn Tryz.prog 40 2 a40 := isFn_of mix Tryz.func40 (by kernel_rfl) (by kernel_rfl) (by kernel_rfl) (by kernel_rfl) (by kernel_rfl)
theorem sound40 {args : List AV} {r : AV} (hl : args.length = 2) (h : awp Tryz.prog c40 (unw Tryz.prog [] (Ends [.cell 4 (some 4), .tmp 5] r)) (initSt args)) : Sound Tryz.prog 40 args r := sound_of is40 hl h
theorem total40 {args : List AV} {Φ : AV → Prop} (hl : args.length = 2) (h : awp Tryz.prog c40 (unw Tryz.prog [] (EndsP [.cell 4 (some 4), .tmp 5] Φ)) (initSt args)) : Total Tryz.prog 40 args Φ := total_of is40 hl h

/-! longshore/longshoreref02.Both -/
abbrev c41r0 : List GOp := [⟨none, (some 4), .mv 4 (.c (.oslice 1 []))⟩]
abbrev c41r1 : List GOp := [⟨none, (some 8), .mkslice 8 1 []⟩,
  ⟨none, (some 5), .mv 5 (.t 8 true)⟩]
abbrev c41r2 : List GOp := [⟨none, (some 6), .mv 6 (.c (.int .i64 0))⟩]
abbrev c41r3 : List GOp := [⟨none, (some 9), .mv 9 (.t 6 false)⟩,
  ⟨none, (some 10), .mv 10 (.t 0 false)⟩,
  ⟨none, (some 11), .len 11 false (.t 10 false)⟩,
  ⟨none, (some 12), .bin 12 .lss false (.t 9 false) (.t 11 false)⟩]
abbrev c41s4 : ACode := (.cond (.t 12 false) .skip (.exit 0))
abbrev c41r5 : List GOp := [⟨none, (some 15), .take 15 5⟩,
  ⟨none, (some 16), .mv 16 (.t 0 false)⟩,
  ⟨none, (some 17), .mv 17 (.t 6 false)⟩,
  ⟨none, (some 18), .idx 18 (.t 16 false) (.t 17 false) 1⟩,
  ⟨none, (some 19), .vload 19 18 none⟩,
  ⟨none, (some 20), .mkslice 20 1 [(.t 19 false)]⟩,
  ⟨none, (some 21), .append 21 (.t 15 true) (.t 20 false) 1 16⟩,
  ⟨none, (some 5), .mv 5 (.t 21 true)⟩]
abbrev c41r6 : List GOp := [⟨none, (some 13), .mv 13 (.t 6 false)⟩,
  ⟨none, (some 14), .bin 14 .add false (.t 13 false) (.c (.int .i64 1))⟩,
  ⟨none, (some 6), .mv 6 (.t 14 true)⟩]
abbrev c41s7 : ACode := (.seq (.block 1 (.reg c41r5 [5])) (.reg c41r6 [6]))
abbrev c41s8 : ACode := (.seq (.seq (.reg c41r3 [12]) c41s4) c41s7)
abbrev c41s9 : ACode := (.loop c41s8)
abbrev c41s10 : ACode := (.block 0 c41s9)
abbrev c41r11 : List GOp := [⟨none, (some 7), .mv 7 (.c (.int .i64 0))⟩]
abbrev c41r12 : List GOp := [⟨none, (some 22), .mv 22 (.t 7 false)⟩,
  ⟨none, (some 23), .mv 23 (.t 1 false)⟩,
  ⟨none, (some 24), .len 24 false (.t 23 false)⟩,
  ⟨none, (some 25), .bin 25 .lss false (.t 22 false) (.t 24 false)⟩]
abbrev c41s13 : ACode := (.cond (.t 25 false) .skip (.exit 2))
abbrev c41r14 : List GOp := [⟨none, (some 28), .take 28 5⟩,
  ⟨none, (some 29), .mv 29 (.t 1 false)⟩,
  ⟨none, (some 30), .mv 30 (.t 7 false)⟩,
  ⟨none, (some 31), .idx 31 (.t 29 false) (.t 30 false) 1⟩,
  ⟨none, (some 32), .vload 32 31 none⟩,
  ⟨none, (some 33), .mkslice 33 1 [(.t 32 false)]⟩,
  ⟨none, (some 34), .append 34 (.t 28 true) (.t 33 false) 1 16⟩,
  ⟨none, (some 5), .mv 5 (.t 34 true)⟩]
abbrev c41r15 : List GOp := [⟨none, (some 26), .mv 26 (.t 7 false)⟩,
  ⟨none, (some 27), .bin 27 .add false (.t 26 false) (.c (.int .i64 1))⟩,
  ⟨none, (some 7), .mv 7 (.t 27 true)⟩]
abbrev c41s16 : ACode := (.seq (.block 3 (.reg c41r14 [5])) (.reg c41r15 [7]))
abbrev c41s17 : ACode := (.seq (.seq (.reg c41r12 [25]) c41s13) c41s16)
abbrev c41s18 : ACode := (.loop c41s17)
abbrev c41s19 : ACode := (.block 2 c41s18)
abbrev c41r20 : List GOp := [⟨none, (some 35), .mv 35 (.t 5 false)⟩,
  ⟨none, (some 36), .call (some 36) 42 [(.t 35 false)]⟩,
  ⟨none, (some 4), .mv 4 (.t 36 true)⟩]
abbrev c41s21 : ACode := (.seq (.reg c41r20 [4]) .ret)
abbrev c41s22 : ACode := (.seq (.seq (.reg c41r11 [7]) c41s19) c41s21)
abbrev c41s23 : ACode := (.seq (.seq (.reg c41r2 [6]) c41s10) c41s22)
abbrev c41s24 : ACode := (.seq (.reg c41r1 [5]) c41s23)
abbrev c41 : ACode := (.seq (.reg c41r0 [4]) c41s24)
def a41 : AFn := ⟨[], [0, 1, 4, 5, 6, 7, 12, 25], [8, 14, 15, 21, 27, 28, 34, 36], [15, 28], [], [], [], [], c41, [.tmp 4]⟩
theorem is41 : IsFn Tryz.prog 41 2 a41 := isFn_of mix Tryz.func41 (by kernel_rfl) (by kernel_rfl) (by kernel_rfl) (by kernel_rfl) (by kernel_rfl)
theorem sound41 {args : List AV} {r : AV} (hl : args.length = 2) (h : awp Tryz.prog c41 (unw Tryz.prog [] (Ends [.tmp 4] r)) (initSt args)) : Sound Tryz.prog 41 args r := sound_of is41 hl h
theorem total41 {args : List AV} {Φ : AV → Prop} (hl : args.length = 2) (h : awp Tryz.prog c41 (unw Tryz.prog [] (EndsP [.tmp 4] Φ)) (initSt args)) : Total Tryz.prog 41 args Φ := total_of is41 hl h

/-! longshore/longshoreref02.Sorted -/
abbrev c42r0 : List GOp := [⟨none, (some 2), .mv 2 (.c (.oslice 1 []))⟩]
abbrev c42r1 : List GOp := [⟨none, (some 6), .mkslice 6 1 []⟩,
  ⟨none, (some 3), .mv 3 (.t 6 true)⟩]
abbrev c42r2 : List GOp := [⟨none, (some 4), .mv 4 (.c (.int .i64 (-1)))⟩]
abbrev c42r3 : List GOp := [⟨none, (some 5), .mv 5 (.c (.int .i64 0))⟩]
abbrev c42r4 : List GOp := [⟨none, (some 7), .mv 7 (.t 5 false)⟩,
  ⟨none, (some 8), .mv 8 (.t 0 false)⟩,
  ⟨none, (some 9), .len 9 false (.t 8 false)⟩,
  ⟨none, (some 10), .bin 10 .lss false (.t 7 false) (.t 9 false)⟩]
abbrev c42s5 : ACode := (.cond (.t 10 false) .skip (.exit 2))
abbrev c42r6 : List GOp := [⟨none, (some 13), .mv 13 (.t 3 false)⟩,
  ⟨none, (some 14), .len 14 false (.t 13 false)⟩,
  ⟨none, (some 15), .bin 15 .eql false (.t 14 false) (.c (.int .i64 0))⟩,
  ⟨none, (some 16), .mv 16 (.t 15 true)⟩,
  ⟨(some (16, false)), (some 17), .mv 17 (.t 0 false)⟩,
  ⟨(some (16, false)), (some 18), .mv 18 (.t 5 false)⟩,
  ⟨(some (16, false)), (some 19), .idx 19 (.t 17 false) (.t 18 false) 1⟩,
  ⟨(some (16, false)), (some 20), .vload 20 19 none⟩,
  ⟨(some (16, false)), (some 21), .mv 21 (.t 3 false)⟩,
  ⟨(some (16, false)), (some 22), .mv 22 (.t 3 false)⟩,
  ⟨(some (16, false)), (some 23), .len 23 false (.t 22 false)⟩,
  ⟨(some (16, false)), (some 24), .bin 24 .sub false (.t 23 false) (.c (.int .i64 1))⟩,
  ⟨(some (16, false)), (some 25), .idx 25 (.t 21 false) (.t 24 false) 1⟩,
  ⟨(some (16, false)), (some 26), .vload 26 25 none⟩,
  ⟨(some (16, false)), (some 27), .bin 27 .gtr false (.t 20 false) (.t 26 false)⟩,
  ⟨none, (some 28), .pick 28 (.t 16 false) (.c (.bool true)) (.t 27 false)⟩,
  ⟨none, (some 29), .mv 29 (.t 28 true)⟩,
  ⟨(some (29, true)), (some 30), .mv 30 (.t 4 false)⟩,
  ⟨(some (29, true)), (some 31), .bin 31 .lss false (.t 30 false) (.c (.int .i64 0))⟩,
  ⟨(some (29, true)), (some 32), .mv 32 (.t 31 true)⟩,
  ⟨(some (32, false)), (some 33), .mv 33 (.t 0 false)⟩,
  ⟨(some (32, false)), (some 34), .mv 34 (.t 5 false)⟩,
  ⟨(some (32, false)), (some 35), .idx 35 (.t 33 false) (.t 34 false) 1⟩,
  ⟨(some (32, false)), (some 36), .vload 36 35 none⟩,
  ⟨(some (32, false)), (some 37), .mv 37 (.t 0 false)⟩,
  ⟨(some (32, false)), (some 38), .mv 38 (.t 4 false)⟩,
  ⟨(some (32, false)), (some 39), .idx 39 (.t 37 false) (.t 38 false) 1⟩,
  ⟨(some (32, false)), (some 40), .vload 40 39 none⟩,
  ⟨(some (32, false)), (some 41), .bin 41 .lss false (.t 36 false) (.t 40 false)⟩,
  ⟨(some (29, true)), (some 42), .pick 42 (.t 32 false) (.c (.bool true)) (.t 41 false)⟩,
  ⟨none, (some 43), .pick 43 (.t 29 false) (.t 42 false) (.c (.bool false))⟩]
abbrev c42r7 : List GOp := [⟨none, (some 44), .mv 44 (.t 5 false)⟩,
  ⟨none, (some 4), .mv 4 (.t 44 true)⟩]
abbrev c42s8 : ACode := (.cond (.t 43 false) (.reg c42r7 [4]) .skip)
abbrev c42s9 : ACode := (.seq (.reg c42r6 [43]) c42s8)
abbrev c42r10 : List GOp := [⟨none, (some 11), .mv 11 (.t 5 false)⟩,
  ⟨none, (some 12), .bin 12 .add false (.t 11 false) (.c (.int .i64 1))⟩,
  ⟨none, (some 5), .mv 5 (.t 12 true)⟩]
abbrev c42s11 : ACode := (.seq (.block 3 c42s9) (.reg c42r10 [5]))
abbrev c42s12 : ACode := (.seq (.seq (.reg c42r4 [10]) c42s5) c42s11)
abbrev c42s13 : ACode := (.loop c42s12)
abbrev c42s14 : ACode := (.block 2 c42s13)
abbrev c42r15 : List GOp := [⟨none, (some 45), .mv 45 (.t 4 false)⟩,
  ⟨none, (some 46), .bin 46 .lss false (.t 45 false) (.c (.int .i64 0))⟩]
abbrev c42r16 : List GOp := [⟨none, (some 47), .mv 47 (.t 3 false)⟩,
  ⟨none, (some 2), .mv 2 (.t 47 true)⟩]
abbrev c42s17 : ACode := (.seq (.reg c42r16 [2]) .ret)
abbrev c42s18 : ACode := (.cond (.t 46 false) c42s17 .skip)
abbrev c42r19 : List GOp := [⟨none, (some 48), .take 48 3⟩,
  ⟨none, (some 49), .mv 49 (.t 0 false)⟩,
  ⟨none, (some 50), .mv 50 (.t 4 false)⟩,
  ⟨none, (some 51), .idx 51 (.t 49 false) (.t 50 false) 1⟩,
  ⟨none, (some 52), .vload 52 51 none⟩,
  ⟨none, (some 53), .mkslice 53 1 [(.t 52 false)]⟩,
  ⟨none, (some 54), .append 54 (.t 48 true) (.t 53 false) 1 16⟩,
  ⟨none, (some 3), .mv 3 (.t 54 true)⟩]
abbrev c42s20 : ACode := (.seq (.seq (.reg c42r15 [46]) c42s18) (.reg c42r19 [3]))
abbrev c42s21 : ACode := (.seq (.seq (.reg c42r3 [5]) c42s14) c42s20)
abbrev c42s22 : ACode := (.seq (.reg c42r2 [4]) c42s21)
abbrev c42s23 : ACode := (.block 1 c42s22)
abbrev c42s24 : ACode := (.loop c42s23)
abbrev c42s25 : ACode := (.block 0 c42s24)
abbrev c42s26 : ACode := (.seq (.reg c42r1 [3]) c42s25)
abbrev c42 : ACode := (.seq (.reg c42r0 [2]) c42s26)
def a42 : AFn := ⟨[], [0, 2, 3, 4, 5, 10, 43, 46], [6, 12, 15, 28, 31, 44, 47, 48, 54], [48], [], [], [], [], c42, [.tmp 2]⟩
theorem is42 : IsFn Tryz.prog 42 1 a42 := isFn_of mix Tryz.func42 (by kernel_rfl) (by kernel_rfl) (by kernel_rfl) (by kernel_rfl) (by kernel_rfl)
theorem sound42 {args : List AV} {r : AV} (hl : args.length = 1) (h : awp Tryz.prog c42 (unw Tryz.prog [] (Ends [.tmp 2] r)) (initSt args)) : Sound Tryz.prog 42 args r := sound_of is42 hl h
theorem total42 {args : List AV} {Φ : AV → Prop} (hl : args.length = 1) (h : awp Tryz.prog c42 (unw Tryz.prog [] (EndsP [.tmp 2] Φ)) (initSt args)) : Total Tryz.prog 42 args Φ := total_of is42 hl h

/-! longshore/longshoreref02.Service -/
abbrev c43r0 : List GOp := [⟨none, (some 2), .mv 2 (.c (.bool false))⟩]
abbrev c43r1 : List GOp := [⟨none, (some 5), .mv 5 (.t 0 false)⟩,
  ⟨none, (some 6), .len 6 true (.t 5 false)⟩,
  ⟨none, (some 7), .bin 7 .lss false (.t 6 false) (.c (.int .i64 1))⟩,
  ⟨none, (some 8), .mv 8 (.t 7 true)⟩,
  ⟨(some (8, false)), (some 9), .mv 9 (.t 0 false)⟩,
  ⟨(some (8, false)), (some 10), .len 10 true (.t 9 false)⟩,
  ⟨(some (8, false)), (some 11), .bin 11 .gtr false (.t 10 false) (.c (.int .i64 24))⟩,
  ⟨none, (some 12), .pick 12 (.t 8 false) (.c (.bool true)) (.t 11 false)⟩]
abbrev c43r2 : List GOp := [⟨none, (some 2), .mv 2 (.c (.bool false))⟩]
abbrev c43s3 : ACode := (.seq (.reg c43r2 [2]) .ret)
abbrev c43s4 : ACode := (.cond (.t 12 false) c43s3 .skip)
abbrev c43r5 : List GOp := [⟨none, (some 3), .mv 3 (.c (.int .i64 0))⟩]
abbrev c43r6 : List GOp := [⟨none, (some 13), .mv 13 (.t 3 false)⟩,
  ⟨none, (some 14), .mv 14 (.t 0 false)⟩,
  ⟨none, (some 15), .len 15 true (.t 14 false)⟩,
  ⟨none, (some 16), .bin 16 .lss false (.t 13 false) (.t 15 false)⟩]
abbrev c43s7 : ACode := (.cond (.t 16 false) .skip (.exit 0))
abbrev c43r8 : List GOp := [⟨none, (some 19), .mv 19 (.t 0 false)⟩,
  ⟨none, (some 20), .mv 20 (.t 3 false)⟩,
  ⟨none, (some 21), .sidx 21 (.t 19 false) (.t 20 false)⟩,
  ⟨none, (some 22), .call (some 22) 45 [(.t 21 false)]⟩,
  ⟨none, (some 4), .mv 4 (.t 22 true)⟩]
abbrev c43r9 : List GOp := [⟨none, (some 23), .mv 23 (.t 4 false)⟩,
  ⟨none, (some 24), .bin 24 .eql false (.t 23 false) (.c (.int .i64 0))⟩,
  ⟨none, (some 25), .mv 25 (.t 24 true)⟩,
  ⟨(some (25, false)), (some 26), .mv 26 (.t 3 false)⟩,
  ⟨(some (25, false)), (some 27), .bin 27 .eql false (.t 26 false) (.c (.int .i64 0))⟩,
  ⟨(some (25, false)), (some 28), .mv 28 (.t 27 true)⟩,
  ⟨(some (28, true)), (some 29), .mv 29 (.t 4 false)⟩,
  ⟨(some (28, true)), (some 30), .bin 30 .gtr false (.t 29 false) (.c (.int .i64 3))⟩,
  ⟨(some (25, false)), (some 31), .pick 31 (.t 28 false) (.t 30 false) (.c (.bool false))⟩,
  ⟨none, (some 32), .pick 32 (.t 25 false) (.c (.bool true)) (.t 31 false)⟩]
abbrev c43r10 : List GOp := [⟨none, (some 2), .mv 2 (.c (.bool false))⟩]
abbrev c43s11 : ACode := (.seq (.reg c43r10 [2]) .ret)
abbrev c43s12 : ACode := (.cond (.t 32 false) c43s11 .skip)
abbrev c43s13 : ACode := (.seq (.reg c43r9 [32]) c43s12)
abbrev c43s14 : ACode := (.seq (.reg c43r8 [4]) c43s13)
abbrev c43r15 : List GOp := [⟨none, (some 17), .mv 17 (.t 3 false)⟩,
  ⟨none, (some 18), .bin 18 .add false (.t 17 false) (.c (.int .i64 1))⟩,
  ⟨none, (some 3), .mv 3 (.t 18 true)⟩]
abbrev c43s16 : ACode := (.seq (.block 1 c43s14) (.reg c43r15 [3]))
abbrev c43s17 : ACode := (.seq (.seq (.reg c43r6 [16]) c43s7) c43s16)
abbrev c43s18 : ACode := (.loop c43s17)
abbrev c43s19 : ACode := (.block 0 c43s18)
abbrev c43r20 : List GOp := [⟨none, (some 2), .mv 2 (.c (.bool true))⟩]
abbrev c43s21 : ACode := (.seq (.reg c43r20 [2]) .ret)
abbrev c43s22 : ACode := (.seq (.seq (.reg c43r5 [3]) c43s19) c43s21)
abbrev c43s23 : ACode := (.seq (.seq (.reg c43r1 [12]) c43s4) c43s22)
abbrev c43 : ACode := (.seq (.reg c43r0 [2]) c43s23)
def a43 : AFn := ⟨[], [0, 2, 3, 4, 12, 16, 32], [7, 18, 22, 24, 27], [], [], [], [], [], c43, [.tmp 2]⟩
theorem is43 : IsFn Tryz.prog 43 1 a43 := isFn_of mix Tryz.func43 (by kernel_rfl) (by kernel_rfl) (by kernel_rfl) (by kernel_rfl) (by kernel_rfl)
theorem sound43 {args : List AV} {r : AV} (hl : args.length = 1) (h : awp Tryz.prog c43 (unw Tryz.prog [] (Ends [.tmp 2] r)) (initSt args)) : Sound Tryz.prog 43 args r := sound_of is43 hl h
theorem total43 {args : List AV} {Φ : AV → Prop} (hl : args.length = 1) (h : awp Tryz.prog c43 (unw Tryz.prog [] (EndsP [.tmp 2] Φ)) (initSt args)) : Total Tryz.prog 43 args Φ := total_of is43 hl h

/-! longshore/longshoreref02.Kind -/
abbrev c45r0 : List GOp := [⟨none, (some 2), .mv 2 (.c (.int .i64 0))⟩]
abbrev c45r1 : List GOp := [⟨none, (some 3), .mv 3 (.t 0 false)⟩,
  ⟨none, (some 4), .bin 4 .geq false (.t 3 false) (.c (.int .u8 97))⟩,
  ⟨none, (some 5), .mv 5 (.t 4 true)⟩,
  ⟨(some (5, true)), (some 6), .mv 6 (.t 0 false)⟩,
  ⟨(some (5, true)), (some 7), .bin 7 .leq false (.t 6 false) (.c (.int .u8 122))⟩,
  ⟨none, (some 8), .pick 8 (.t 5 false) (.t 7 false) (.c (.bool false))⟩]
abbrev c45r2 : List GOp := [⟨none, (some 2), .mv 2 (.c (.int .i64 1))⟩]
abbrev c45s3 : ACode := (.seq (.reg c45r2 [2]) .ret)
abbrev c45s4 : ACode := (.cond (.t 8 false) c45s3 .skip)
abbrev c45r5 : List GOp := [⟨none, (some 9), .mv 9 (.t 0 false)⟩,
  ⟨none, (some 10), .bin 10 .geq false (.t 9 false) (.c (.int .u8 65))⟩,
  ⟨none, (some 11), .mv 11 (.t 10 true)⟩,
  ⟨(some (11, true)), (some 12), .mv 12 (.t 0 false)⟩,
  ⟨(some (11, true)), (some 13), .bin 13 .leq false (.t 12 false) (.c (.int .u8 90))⟩,
  ⟨none, (some 14), .pick 14 (.t 11 false) (.t 13 false) (.c (.bool false))⟩]
abbrev c45r6 : List GOp := [⟨none, (some 2), .mv 2 (.c (.int .i64 2))⟩]
abbrev c45s7 : ACode := (.seq (.reg c45r6 [2]) .ret)
abbrev c45s8 : ACode := (.cond (.t 14 false) c45s7 .skip)
abbrev c45r9 : List GOp := [⟨none, (some 15), .mv 15 (.t 0 false)⟩,
  ⟨none, (some 16), .bin 16 .geq false (.t 15 false) (.c (.int .u8 48))⟩,
  ⟨none, (some 17), .mv 17 (.t 16 true)⟩,
  ⟨(some (17, true)), (some 18), .mv 18 (.t 0 false)⟩,
  ⟨(some (17, true)), (some 19), .bin 19 .leq false (.t 18 false) (.c (.int .u8 57))⟩,
  ⟨none, (some 20), .pick 20 (.t 17 false) (.t 19 false) (.c (.bool false))⟩]
abbrev c45r10 : List GOp := [⟨none, (some 2), .mv 2 (.c (.int .i64 3))⟩]
abbrev c45s11 : ACode := (.seq (.reg c45r10 [2]) .ret)
abbrev c45s12 : ACode := (.cond (.t 20 false) c45s11 .skip)
abbrev c45r13 : List GOp := [⟨none, (some 21), .mv 21 (.t 0 false)⟩,
  ⟨none, (some 22), .bin 22 .eql false (.t 21 false) (.c (.int .u8 95))⟩]
abbrev c45r14 : List GOp := [⟨none, (some 2), .mv 2 (.c (.int .i64 4))⟩]
abbrev c45s15 : ACode := (.seq (.reg c45r14 [2]) .ret)
abbrev c45s16 : ACode := (.cond (.t 22 false) c45s15 .skip)
abbrev c45r17 : List GOp := [⟨none, (some 23), .mv 23 (.t 0 false)⟩,
  ⟨none, (some 24), .bin 24 .eql false (.t 23 false) (.c (.int .u8 45))⟩]
abbrev c45r18 : List GOp := [⟨none, (some 2), .mv 2 (.c (.int .i64 5))⟩]
abbrev c45s19 : ACode := (.seq (.reg c45r18 [2]) .ret)
abbrev c45s20 : ACode := (.cond (.t 24 false) c45s19 .skip)
abbrev c45r21 : List GOp := [⟨none, (some 25), .mv 25 (.t 0 false)⟩,
  ⟨none, (some 26), .bin 26 .eql false (.t 25 false) (.c (.int .u8 46))⟩]
abbrev c45r22 : List GOp := [⟨none, (some 2), .mv 2 (.c (.int .i64 6))⟩]
abbrev c45s23 : ACode := (.seq (.reg c45r22 [2]) .ret)
abbrev c45s24 : ACode := (.cond (.t 26 false) c45s23 .skip)
abbrev c45r25 : List GOp := [⟨none, (some 2), .mv 2 (.c (.int .i64 0))⟩]
abbrev c45s26 : ACode := (.seq (.reg c45r25 [2]) .ret)
abbrev c45s27 : ACode := (.seq (.seq (.reg c45r21 [26]) c45s24) c45s26)
abbrev c45s28 : ACode := (.seq (.seq (.reg c45r17 [24]) c45s20) c45s27)
abbrev c45s29 : ACode := (.seq (.seq (.reg c45r13 [22]) c45s16) c45s28)
abbrev c45s30 : ACode := (.seq (.seq (.reg c45r9 [20]) c45s12) c45s29)
abbrev c45s31 : ACode := (.seq (.seq (.reg c45r5 [14]) c45s8) c45s30)
abbrev c45s32 : ACode := (.seq (.seq (.reg c45r1 [8]) c45s4) c45s31)
abbrev c45 : ACode := (.seq (.reg c45r0 [2]) c45s32)
def a45 : AFn := ⟨[], [0, 2, 8, 14, 20, 22, 24, 26], [4, 10, 16], [], [], [], [], [], c45, [.tmp 2]⟩
theorem is45 : IsFn Tryz.prog 45 1 a45 := isFn_of mix Tryz.func45 (by kernel_rfl) (by kernel_rfl) (by kernel_rfl) (by kernel_rfl) (by kernel_rfl)
theorem sound45 {args : List AV} {r : AV} (hl : args.length = 1) (h : awp Tryz.prog c45 (unw Tryz.prog [] (Ends [.tmp 2] r)) (initSt args)) : Sound Tryz.prog 45 args r := sound_of is45 hl h
theorem total45 {args : List AV} {Φ : AV → Prop} (hl : args.length = 1) (h : awp Tryz.prog c45 (unw Tryz.prog [] (EndsP [.tmp 2] Φ)) (initSt args)) : Total Tryz.prog 45 args Φ := total_of is45 hl h

/-! longshore/longshoreref02.In -/
abbrev c78r0 : List GOp := [⟨none, (some 4), .mv 4 (.c (.bool false))⟩]
abbrev c78r1 : List GOp := [⟨none, (some 5), .mv 5 (.c (.int .i64 0))⟩]
abbrev c78r2 : List GOp := [⟨none, (some 6), .mv 6 (.t 5 false)⟩,
  ⟨none, (some 7), .mv 7 (.t 0 false)⟩,
  ⟨none, (some 8), .len 8 false (.t 7 false)⟩,
  ⟨none, (some 9), .bin 9 .lss false (.t 6 false) (.t 8 false)⟩]
abbrev c78s3 : ACode := (.cond (.t 9 false) .skip (.exit 0))
abbrev c78r4 : List GOp := [⟨none, (some 12), .mv 12 (.t 0 false)⟩,
  ⟨none, (some 13), .mv 13 (.t 5 false)⟩,
  ⟨none, (some 14), .idx 14 (.t 12 false) (.t 13 false) 1⟩,
  ⟨none, (some 15), .vload 15 14 none⟩,
  ⟨none, (some 16), .mv 16 (.t 1 false)⟩,
  ⟨none, (some 17), .bin 17 .eql false (.t 15 false) (.t 16 false)⟩]
abbrev c78r5 : List GOp := [⟨none, (some 4), .mv 4 (.c (.bool true))⟩]
abbrev c78s6 : ACode := (.seq (.reg c78r5 [4]) .ret)
abbrev c78s7 : ACode := (.cond (.t 17 false) c78s6 .skip)
abbrev c78s8 : ACode := (.seq (.reg c78r4 [17]) c78s7)
abbrev c78r9 : List GOp := [⟨none, (some 10), .mv 10 (.t 5 false)⟩,
  ⟨none, (some 11), .bin 11 .add false (.t 10 false) (.c (.int .i64 1))⟩,
  ⟨none, (some 5), .mv 5 (.t 11 true)⟩]
abbrev c78s10 : ACode := (.seq (.block 1 c78s8) (.reg c78r9 [5]))
abbrev c78s11 : ACode := (.seq (.seq (.reg c78r2 [9]) c78s3) c78s10)
abbrev c78s12 : ACode := (.loop c78s11)
abbrev c78s13 : ACode := (.block 0 c78s12)
abbrev c78r14 : List GOp := [⟨none, (some 4), .mv 4 (.c (.bool false))⟩]
abbrev c78s15 : ACode := (.seq (.reg c78r14 [4]) .ret)
abbrev c78s16 : ACode := (.seq (.seq (.reg c78r1 [5]) c78s13) c78s15)
abbrev c78 : ACode := (.seq (.reg c78r0 [4]) c78s16)
def a78 : AFn := ⟨[], [0, 1, 4, 5, 9, 17], [11], [], [], [], [], [], c78, [.tmp 4]⟩
theorem is78 : IsFn Tryz.prog 78 2 a78 := isFn_of mix Tryz.func78 (by kernel_rfl) (by kernel_rfl) (by kernel_rfl) (by kernel_rfl) (by kernel_rfl)
theorem sound78 {args : List AV} {r : AV} (hl : args.length = 2) (h : awp Tryz.prog c78 (unw Tryz.prog [] (Ends [.tmp 4] r)) (initSt args)) : Sound Tryz.prog 78 args r := sound_of is78 hl h
theorem total78 {args : List AV} {Φ : AV → Prop} (hl : args.length = 2) (h : awp Tryz.prog c78 (unw Tryz.prog [] (EndsP [.tmp 4] Φ)) (initSt args)) : Total Tryz.prog 78 args Φ := total_of is78 hl h

/-! longshore/longshoreref02.Variable -/
abbrev c107r0 : List GOp := [⟨none, (some 2), .mv 2 (.c (.bool false))⟩]
abbrev c107r1 : List GOp := [⟨none, (some 5), .mv 5 (.t 0 false)⟩,
  ⟨none, (some 6), .len 6 true (.t 5 false)⟩,
  ⟨none, (some 7), .bin 7 .lss false (.t 6 false) (.c (.int .i64 1))⟩,
  ⟨none, (some 8), .mv 8 (.t 7 true)⟩,
  ⟨(some (8, false)), (some 9), .mv 9 (.t 0 false)⟩,
  ⟨(some (8, false)), (some 10), .len 10 true (.t 9 false)⟩,
  ⟨(some (8, false)), (some 11), .bin 11 .gtr false (.t 10 false) (.c (.int .i64 24))⟩,
  ⟨none, (some 12), .pick 12 (.t 8 false) (.c (.bool true)) (.t 11 false)⟩]
abbrev c107r2 : List GOp := [⟨none, (some 2), .mv 2 (.c (.bool false))⟩]
abbrev c107s3 : ACode := (.seq (.reg c107r2 [2]) .ret)
abbrev c107s4 : ACode := (.cond (.t 12 false) c107s3 .skip)
abbrev c107r5 : List GOp := [⟨none, (some 3), .mv 3 (.c (.int .i64 0))⟩]
abbrev c107r6 : List GOp := [⟨none, (some 13), .mv 13 (.t 3 false)⟩,
  ⟨none, (some 14), .mv 14 (.t 0 false)⟩,
  ⟨none, (some 15), .len 15 true (.t 14 false)⟩,
  ⟨none, (some 16), .bin 16 .lss false (.t 13 false) (.t 15 false)⟩]
abbrev c107s7 : ACode := (.cond (.t 16 false) .skip (.exit 0))
abbrev c107r8 : List GOp := [⟨none, (some 19), .mv 19 (.t 0 false)⟩,
  ⟨none, (some 20), .mv 20 (.t 3 false)⟩,
  ⟨none, (some 21), .sidx 21 (.t 19 false) (.t 20 false)⟩,
  ⟨none, (some 22), .call (some 22) 45 [(.t 21 false)]⟩,
  ⟨none, (some 4), .mv 4 (.t 22 true)⟩]
abbrev c107r9 : List GOp := [⟨none, (some 23), .mv 23 (.t 4 false)⟩,
  ⟨none, (some 24), .bin 24 .eql false (.t 23 false) (.c (.int .i64 0))⟩,
  ⟨none, (some 25), .mv 25 (.t 24 true)⟩,
  ⟨(some (25, false)), (some 26), .mv 26 (.t 4 false)⟩,
  ⟨(some (25, false)), (some 27), .bin 27 .gtr false (.t 26 false) (.c (.int .i64 4))⟩,
  ⟨none, (some 28), .pick 28 (.t 25 false) (.c (.bool true)) (.t 27 false)⟩,
  ⟨none, (some 29), .mv 29 (.t 28 true)⟩,
  ⟨(some (29, false)), (some 30), .mv 30 (.t 3 false)⟩,
  ⟨(some (29, false)), (some 31), .bin 31 .eql false (.t 30 false) (.c (.int .i64 0))⟩,
  ⟨(some (29, false)), (some 32), .mv 32 (.t 31 true)⟩,
  ⟨(some (32, true)), (some 33), .mv 33 (.t 4 false)⟩,
  ⟨(some (32, true)), (some 34), .bin 34 .eql false (.t 33 false) (.c (.int .i64 3))⟩,
  ⟨(some (29, false)), (some 35), .pick 35 (.t 32 false) (.t 34 false) (.c (.bool false))⟩,
  ⟨none, (some 36), .pick 36 (.t 29 false) (.c (.bool true)) (.t 35 false)⟩]
abbrev c107r10 : List GOp := [⟨none, (some 2), .mv 2 (.c (.bool false))⟩]
abbrev c107s11 : ACode := (.seq (.reg c107r10 [2]) .ret)
abbrev c107s12 : ACode := (.cond (.t 36 false) c107s11 .skip)
abbrev c107s13 : ACode := (.seq (.reg c107r9 [36]) c107s12)
abbrev c107s14 : ACode := (.seq (.reg c107r8 [4]) c107s13)
abbrev c107r15 : List GOp := [⟨none, (some 17), .mv 17 (.t 3 false)⟩,
  ⟨none, (some 18), .bin 18 .add false (.t 17 false) (.c (.int .i64 1))⟩,
  ⟨none, (some 3), .mv 3 (.t 18 true)⟩]
abbrev c107s16 : ACode := (.seq (.block 1 c107s14) (.reg c107r15 [3]))
abbrev c107s17 : ACode := (.seq (.seq (.reg c107r6 [16]) c107s7) c107s16)
abbrev c107s18 : ACode := (.loop c107s17)
abbrev c107s19 : ACode := (.block 0 c107s18)
abbrev c107r20 : List GOp := [⟨none, (some 2), .mv 2 (.c (.bool true))⟩]
abbrev c107s21 : ACode := (.seq (.reg c107r20 [2]) .ret)
abbrev c107s22 : ACode := (.seq (.seq (.reg c107r5 [3]) c107s19) c107s21)
abbrev c107s23 : ACode := (.seq (.seq (.reg c107r1 [12]) c107s4) c107s22)
abbrev c107 : ACode := (.seq (.reg c107r0 [2]) c107s23)
def a107 : AFn := ⟨[], [0, 2, 3, 4, 12, 16, 36], [7, 18, 22, 24, 28, 31], [], [], [], [], [], c107, [.tmp 2]⟩
theorem is107 : IsFn Tryz.prog 107 1 a107 := isFn_of mix Tryz.func107 (by kernel_rfl) (by kernel_rfl) (by kernel_rfl) (by kernel_rfl) (by kernel_rfl)
theorem sound107 {args : List AV} {r : AV} (hl : args.length = 1) (h : awp Tryz.prog c107 (unw Tryz.prog [] (Ends [.tmp 2] r)) (initSt args)) : Sound Tryz.prog 107 args r := sound_of is107 hl h
theorem total107 {args : List AV} {Φ : AV → Prop} (hl : args.length = 1) (h : awp Tryz.prog c107 (unw Tryz.prog [] (EndsP [.tmp 2] Φ)) (initSt args)) : Total Tryz.prog 107 args Φ := total_of is107 hl h

end Go.Proofs.YtccmaeefedgcnaaGreat
