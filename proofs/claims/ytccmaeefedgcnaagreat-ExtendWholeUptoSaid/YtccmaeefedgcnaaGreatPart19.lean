/-
  GO's LIBRARY in this program: slices.Sort, Compact, Grow by the shelf's contracts; name.Sorted.
  GO's LIBRARY in this program: slices.Concat, slices.Index; name.Both, name.At.
  THE PROGRAM's node: place, Get, Less, At.
  THE PROGRAM's node.At along maps.
-/
import Derived.Test.YtccmaeefedgcnaaGreatPart07
import Derived.Test.YtccmaeefedgcnaaGreatPart11
import Derived.Test.YtccmaeefedgcnaaGreatPart18
import Derived.Lib.RowBridge
import Derived.Test.YtccmaeefedgcnaaGreatPart17
set_option linter.all false

namespace Go.Proofs.YtccmaeefedgcnaaGreat
open Go.RowKit Go.Sort

theorem RowL_str {M : Mem} : ∀ {l : List Str} {us : List Value}, RowL M 1 (l.map .str) us ↔ us = l.map encStr
  | [], us => by simp [RowL]
  | s :: l, us => by
    simp only [List.map_cons, RowL]
    constructor
    · rintro ⟨u1, u2, rfl, -, -, h, h2⟩
      simp only [AV.cells, Rs] at h
      obtain ⟨u, us', rfl, hu, hs⟩ := h
      simp only [R] at hu
      subst hu; subst hs
      rw [RowL_str.1 h2]; rfl
    · rintro rfl
      exact ⟨[encStr s], l.map encStr, rfl, rfl, by simp [encStr, flat, Value.oneCell'], by simp [AV.cells, Rs, R, encStr], RowL_str.2 rfl⟩

theorem holds_row {w : World} {b off : Nat} {vs : Array Value} {el : TypeId} {l : List Str} (hh : w.heap[b]? = some (.cells vs el (0, 0))) (hus : ∀ (i : Nat) u, (l.map encStr)[i]? = some u → vs[off + i]? = some u) :
    Holds encStr w b off l.toArray := by
  intro j hj
  have hj' : j < l.length := by simpa using hj
  refine ⟨?_, by simp [World.frozen?, hh]⟩
  rw [cell?_cells hh]
  refine hus j _ ?_
  simp [hj']

theorem putRow_heap {w : World} {b off : Nat} {vs : Array Value} {el : TypeId} {fz : Nat × Nat} {d : Array Str} (hh : w.heap[b]? = some (.cells vs el fz)) : (putRow encStr w b off d).heap[b]? = some (.cells (putCells encStr off d vs) el fz) := by
  simp [putRow, mapBlock, Array.getElem?_modify, hh, onCells]
theorem putRow_other {w : World} {b b' off : Nat} {d : Array Str} (h : b' ≠ b) : (putRow encStr w b off d).heap[b']? = w.heap[b']? := by
  simp [putRow, mapBlock, Array.getElem?_modify, Ne.symm h]
theorem putRow_size {w : World} {b off : Nat} {d : Array Str} : (putRow encStr w b off d).heap.size = w.heap.size := by simp [putRow, mapBlock]
theorem putCells_in {off : Nat} {d : Array Str} {vs : Array Value} {i : Nat} (h : i < d.size) (h2 : off + i < vs.size) : (putCells encStr off d vs)[off + i]? = some (encStr d[i]!) := by
  simp [putCells, Array.getElem?_mapIdx, h2, h]
theorem putCells_pre {off o : Nat} {d : Array Str} {vs : Array Value} (h : o < off) : (putCells encStr off d vs)[o]? = vs[o]? := by
  simp only [putCells, Array.getElem?_mapIdx]
  cases vs[o]? with
  | none => rfl
  | some x => simp; omega
theorem putCells_size {off : Nat} {d : Array Str} {vs : Array Value} : (putCells encStr off d vs).size = vs.size := by simp [putCells]

abbrev sortL (l : List Str) : List Str := l.mergeSort fun x y => decide (x ≤ y)

theorem sort_inplace (l : List Str) (hl : l.length ≤ 1073741824) : InPlace Tryz.prog 56 1 (l.map .str) ((sortL l).map .str) := by
  refine ⟨by simp, fun M w a cap hM => ⟨fun h0 => ?_, ?_⟩⟩
  · exact Tryz.slices_Sort_string_none a cap w
  · rintro b off vs el us hne rfl hh hc hfit hrl hus
    rw [RowL_str.1 hrl] at hus
    have hH := holds_row hh hus
    have hb : b < w.heap.size := (Array.getElem?_eq_some_iff.1 hh).1
    have := Tryz.slices_Sort_string b off cap l w hH hb (by omega)
    rw [List.length_map] at hc ⊢
    refine this.mono ?_
    rintro e w' ⟨rfl, n, os, rfl⟩
    have hls : (sortL l).length = l.length := List.length_mergeSort l
    refine ⟨rfl, putCells encStr off (sortL l).toArray vs, (sortL l).map encStr, ?_, putCells_size, fun o ho => putCells_pre ho, RowL_str.2 rfl, ?_, ?_, ?_, rfl, rfl, rfl⟩
    · have h1 : (putRow encStr (Go.Sort.ahead w n) b off (sortL l).toArray).heap[b]? = some (.cells (putCells encStr off (sortL l).toArray vs) el (0, 0)) := putRow_heap hh
      have h2 := (Array.getElem?_eq_some_iff.1 h1).1
      simp only [grow]
      rw [Array.getElem?_append_left h2]; exact h1
    · intro i u hu
      have hi : i < (sortL l).length := by have := (List.getElem?_eq_some_iff.1 hu).1; simpa using this
      rw [putCells_in (by simpa using hi) (by omega), getElem!_pos _ i (by simpa using hi)]
      rw [List.getElem?_map, List.getElem?_eq_getElem hi] at hu
      simpa using hu
    · intro b' hb' hne'
      simp only [grow]
      rw [Array.getElem?_append_left (by rw [putRow_size]; exact hb')]
      exact putRow_other hne'
    · simp [grow, putRow_size, Go.Sort.ahead]

/-! Compact of what is in order. -/

theorem upTo_succ (d : Array Str) (m : Nat) : Lib.compactUpTo d (m + 1) = Lib.compactUpTo d m ++ if Lib.keeps d m = true then [d[m]!] else [] := by
  simp only [Lib.compactUpTo, List.range_succ, List.filter_append, List.map_append]
  congr 1
  by_cases h : Lib.keeps d m = true <;> simp [h]

theorem upTo_rising (d : Array Str) (hs : ∀ i j, i < j → j < d.size → d[i]! ≤ d[j]!) : ∀ m, m ≤ d.size → Rising (Lib.compactUpTo d m) ∧ ∀ x, x ∈ Lib.compactUpTo d m ↔ ∃ j, j < m ∧ d[j]! = x
  | 0, _ => by simp [Lib.compactUpTo]
  | m + 1, h => by
    obtain ⟨h1, h2⟩ := upTo_rising d hs m (by omega)
    rw [upTo_succ]
    by_cases hk : Lib.keeps d m = true
    · rw [if_pos hk]
      refine ⟨List.pairwise_append.2 ⟨h1, by simp, fun x hx y hy => ?_⟩, fun x => ?_⟩
      · simp only [List.mem_singleton] at hy
        subst hy
        obtain ⟨j, hj, rfl⟩ := (h2 x).1 hx
        have hm : 0 < m := by omega
        have hne : d[m]! ≠ d[m - 1]! := by
          intro e
          rw [Lib.keeps_neg hm e] at hk; cases hk
        have h3 : d[m - 1]! ≤ d[m]! := hs (m - 1) m (by omega) (by omega)
        have h4 : d[m - 1]! < d[m]! := by
          rcases str_tri d[m - 1]! d[m]! with h | h | h
          · exact h
          · exact absurd h.symm hne
          · exact absurd h (List.not_lt.2 h3)
        by_cases hj2 : j = m - 1
        · subst hj2; exact h4
        · have h5 := hs j (m - 1) (by omega) (by omega)
          exact List.lt_of_le_of_lt h5 h4
      · simp only [List.mem_append, h2, List.mem_singleton]
        constructor
        · rintro (⟨j, hj, rfl⟩ | rfl)
          · exact ⟨j, by omega, rfl⟩
          · exact ⟨m, by omega, rfl⟩
        · rintro ⟨j, hj, rfl⟩
          by_cases hj2 : j = m
          · subst hj2; exact .inr rfl
          · exact .inl ⟨j, by omega, rfl⟩
    · rw [if_neg hk, List.append_nil]
      refine ⟨h1, fun x => ?_⟩
      rw [h2]
      have hm : 0 < m := by
        rcases Nat.eq_zero_or_pos m with e | e
        · subst e; exact absurd (Lib.keeps_lt_one d 0 (by omega)) hk
        · exact e
      have he : d[m]! = d[m - 1]! := by
        by_cases e : d[m]! = d[m - 1]!
        · exact e
        · exact absurd (Lib.keeps_pos e) hk
      constructor
      · rintro ⟨j, hj, rfl⟩; exact ⟨j, by omega, rfl⟩
      · rintro ⟨j, hj, rfl⟩
        by_cases hj2 : j = m
        · subst hj2; exact ⟨j - 1, by omega, he.symm⟩
        · exact ⟨j, by omega, rfl⟩

theorem compact_sorted (l : List Str) : Lib.compact (sortL l) = sortU l := by
  have hp := List.pairwise_mergeSort (le := fun x y : Str => decide (x ≤ y)) (fun a b c h1 h2 => by simp only [decide_eq_true_eq] at *; exact List.le_trans h1 h2) (fun a b => by
    simp only [Bool.or_eq_true, decide_eq_true_eq]; exact List.le_total a b) l
  have hs : ∀ i j, i < j → j < (sortL l).toArray.size → (sortL l).toArray[i]! ≤ (sortL l).toArray[j]! := by
    intro i j hij hj
    simp only [List.size_toArray] at hj
    have := List.pairwise_iff_getElem.1 hp i j (Nat.lt_trans hij hj) hj hij
    simp only [decide_eq_true_eq] at this
    rw [getElem!_pos _ i (by simpa using Nat.lt_trans hij hj), getElem!_pos _ j (by simpa using hj)]
    simpa using this
  obtain ⟨h1, h2⟩ := upTo_rising (sortL l).toArray hs (sortL l).length (by simp)
  refine eq_sortU h1 fun x => ?_
  have := h2 x
  simp only [Lib.compact]
  rw [this]
  constructor
  · rintro ⟨j, hj, rfl⟩
    rw [getElem!_pos _ j (by simpa using hj)]
    have hm := List.getElem_mem hj
    simpa using (List.mem_mergeSort.1 hm)
  · intro hx
    have hm : x ∈ sortL l := List.mem_mergeSort.2 hx
    obtain ⟨j, hj, rfl⟩ := List.mem_iff_getElem.1 hm
    exact ⟨j, hj, by rw [getElem!_pos _ j (by simpa using hj)]; simp⟩

theorem compact_cut (l : List Str) (hl : l.length ≤ 1073741824) : InCut Tryz.prog 57 1 (l.map .str) ((Lib.compact l).map .str) := by
  have hle := Lib.compact_length_le l
  refine ⟨by simpa using hle, fun M w a cap hM => ⟨fun h0 => ?_, ?_⟩⟩
  · refine (Any.slices_Compact_string_empty Tryz.lays194 a cap w).mono ?_
    intro e w' h; exact h
  · rintro b off vs el us hne rfl hh hc hfit hrl hus
    rw [RowL_str.1 hrl] at hus
    have hH := holds_row hh hus
    rw [List.length_map] at hc ⊢
    have := Tryz.slices_Compact_string b off cap l w hH (by omega) hc
    refine this.mono ?_
    rintro e w' ⟨rfl, q, rfl⟩
    rw [List.length_map]
    refine ⟨rfl, putCells encStr off (Lib.compact l ++ List.replicate (l.length - (Lib.compact l).length) []).toArray vs, (Lib.compact l).map encStr, putRow_heap (w := Go.Sort.ahead w q) hh, putCells_size, fun o ho => putCells_pre ho, RowL_str.2 rfl, ?_, ?_, ?_, rfl, rfl, rfl⟩
    · intro i u hu
      have hi : i < (Lib.compact l).length := by have := (List.getElem?_eq_some_iff.1 hu).1; simpa using this
      rw [putCells_in (by simp; omega) (by omega)]
      rw [getElem!_pos _ i (by simp; omega)]
      rw [List.getElem?_map, List.getElem?_eq_getElem hi] at hu
      simp only [List.getElem_toArray]
      rw [List.getElem_append_left hi]
      simpa using hu
    · intro b' hb' hne'
      exact putRow_other (w := Go.Sort.ahead w q) hne'
    · rw [putRow_size (w := Go.Sort.ahead w q)]; exact Nat.le_refl _

theorem nameSorted (l : List Str) (hl : l.length ≤ 1073741824) : Sound Tryz.prog 49 [.slice 1 (l.map .str)] (.slice 1 ((sortU l).map .str)) := by
  refine sound49 rfl ?_
  have h48 : l.length * 16 ≤ 140737488355328 := by omega
  simp [h48]
  refine awpR_use (.xslice 1 ((sortL l).map .str)) ⟨1, l.map .str, (sortL l).map .str, by simp, by simp, rfl, sort_inplace l hl⟩ ?_
  simp
  refine awpR_use (.slice 1 ((Lib.compact (sortL l)).map .str)) ⟨1, (sortL l).map .str, _, by simp, by simp, rfl, compact_cut _ (by simpa using hl)⟩ ?_
  simp [compact_sorted]

theorem growS_at (k : Nat) (hk : k ≤ 1073741824) : GrowAt Tryz.prog 51 1 k := by
  obtain ⟨i, v, h1, h2, h3⟩ := zeroOf_spec (P := Tryz.prog) (t := Tryz.growS_ren.t 25) (z := [.str []]) (by kernel_rfl)
  have hsz : szOf Tryz.prog (Tryz.growS_ren.t 25) = some 1 := by kernel_rfl
  have hby : (Tryz.prog.info? (Tryz.growS_ren.t 25)).map (·.bytes) = some 16 := by kernel_rfl
  simp only [szOf, h1, Option.map_some, Option.some.injEq] at hsz hby
  intro w
  rcases Nat.eq_zero_or_pos k with rfl | hk0
  · refine (Any8.slices_Grow_room Tryz.growS none 0 0 0 w (by omega) (by omega) (by omega) (by omega)).mono ?_
    rintro e w' ⟨rfl, rfl⟩
    exact .inl ⟨rfl, rfl⟩
  · refine (Any8.slices_Grow_grow Tryz.growS i v h1 h2 (by omega) none 0 0 k [] w (by omega) (by omega) (by rw [hby]; omega) (by omega) (by simp) (by simp) (by simp)).mono ?_
    rintro e w' ⟨rfl, rfl⟩
    refine .inr ⟨_, _, _, w.drawn + 1, rfl, rfl, ?_⟩
    have hz := zero_size h3 rfl
    have hg := grownCap_ge w (0 + k) 0 (Tryz.growS_ren.t 25)
    simp [size_zeroCells, hz] at hg ⊢
    omega

theorem growN_at (k : Nat) (hk : k ≤ 1073741824) : GrowAt Tryz.prog 52 4 k := by
  obtain ⟨i, v, h1, h2, h3⟩ := zeroOf_spec (P := Tryz.prog) (t := Tryz.growN_ren.t 25) (z := [.int .i64 0, .str [], .oslice 1 [], .oslice 4 []]) (by kernel_rfl)
  have hsz : szOf Tryz.prog (Tryz.growN_ren.t 25) = some 4 := by kernel_rfl
  have hby : (Tryz.prog.info? (Tryz.growN_ren.t 25)).map (·.bytes) = some 72 := by kernel_rfl
  simp only [szOf, h1, Option.map_some, Option.some.injEq] at hsz hby
  intro w
  rcases Nat.eq_zero_or_pos k with rfl | hk0
  · refine (Any8.slices_Grow_room Tryz.growN none 0 0 0 w (by omega) (by omega) (by omega) (by omega)).mono ?_
    rintro e w' ⟨rfl, rfl⟩
    exact .inl ⟨rfl, rfl⟩
  · refine (Any8.slices_Grow_grow Tryz.growN i v h1 h2 (by omega) none 0 0 k [] w (by omega) (by omega) (by rw [hby]; omega) (by omega) (by simp) (by simp) (by simp)).mono ?_
    rintro e w' ⟨rfl, rfl⟩
    refine .inr ⟨_, _, _, w.drawn + 1, rfl, rfl, ?_⟩
    have hz := zero_size h3 rfl
    have hg := grownCap_ge w (0 + k) 0 (Tryz.growN_ren.t 25)
    simp [size_zeroCells, hz] at hg ⊢
    omega

end Go.Proofs.YtccmaeefedgcnaaGreat

namespace Go.Proofs.YtccmaeefedgcnaaGreat

/-- The first rows of a list, one behind the other. -/
def catTo {α : Type} (ls : List (List α)) (i : Nat) : List α := (List.take i ls).flatten
@[simp] theorem catTo_zero {α : Type} (ls : List (List α)) : catTo ls 0 = [] := by simp [catTo]
theorem catTo_all {α : Type} (ls : List (List α)) : catTo ls ls.length = ls.flatten := by simp [catTo]
theorem catTo_succ {α : Type} (ls : List (List α)) {i : Nat} (h : i < ls.length) : catTo ls (i + 1) = catTo ls i ++ ls[i] := by
  simp only [catTo]
  rw [List.take_succ_eq_append_getElem h, List.flatten_append]; simp
theorem catTo_le {α : Type} (ls : List (List α)) (i : Nat) : (catTo ls i).length ≤ ls.flatten.length := by
  have : ls.flatten = (List.take i ls).flatten ++ (ls.drop i).flatten := by rw [← List.flatten_append, List.take_append_drop]
  rw [this, List.length_append, catTo]; omega
theorem catTo_at_le {α : Type} (ls : List (List α)) {i : Nat} (h : i < ls.length) : (catTo ls i).length + (ls[i]).length ≤ ls.flatten.length := by
  have := catTo_le ls (i + 1)
  rw [catTo_succ ls h, List.length_append] at this; exact this

abbrev rowsS (ls : List (List Str)) : AV := .slice 1 (ls.map fun l => .slice 1 (l.map .str))
abbrev rowsN (ls : List (List Node)) : AV := .slice 1 (ls.map fun l => .slice 4 (l.map nodeAV))

theorem concatS (ls : List (List Str)) (h1 : ls.length ≤ 1048576) (h2 : ls.flatten.length ≤ 1073741824) : Sound Tryz.prog 38 [rowsS ls] (.slice 1 (ls.flatten.map .str)) := by
  refine sound38 rfl ?_
  refine cutf [2] rfl (fun st => st.e 0 = rowsS ls) (by simp) ?_
  rintro st - g0
  refine cutf [3] rfl (fun st => st.e 3 = .int .i64 0) (by simp) ?_
  rintro st1 hf1 g3
  refine cutf [9, 10, 11, 12, 5, 3, 20] rfl (fun st => st.e 3 = .int .i64 (catTo ls ls.length).length) ?_ ?_
  · refine cutf [9, 10, 11] rfl (fun st => st.e 9 = rowsS ls ∧ st.e 10 = .int .i64 ls.length ∧ st.e 11 = .int .i64 0) ?_ ?_
    · simp [hf1, g0]
    rintro st2 hf2 ⟨g9, g10, g11⟩
    rw [run_block]
    refine run_loopf [12, 5, 3, 20, 11] rfl (fun st => ∃ i : Nat, st.e 11 = .int .i64 i ∧ i ≤ ls.length ∧ st.e 3 = .int .i64 (catTo ls i).length) (fun st => ls.length - natOf (st.e 11)) ?_ ?_
    · exact ⟨0, g11, by omega, by simp [hf2, g3]⟩
    rintro s0 hf ⟨i, f11, hi, f3⟩
    by_cases hlt : i < ls.length
    · have hws := wrap_succ (i := i) (by omega)
      have hle := catTo_at_le ls hlt
      have hsum : IntKind.i64.wrap (((catTo ls i).length : Int) + ((ls[i]).length : Int)) = ((catTo ls (i + 1)).length : Int) := by
        rw [wrap_i64 (by omega) (by omega), catTo_succ ls hlt]; simp
      have hnn : ¬ (((catTo ls (i + 1)).length : Int) < 0) := by omega
      simp [hf, f11, g9, g10, hlt, f3] 
      rw [hsum]
      simp [hws, hnn]
      exact ⟨⟨i + 1, by omega, by omega, rfl⟩, by omega⟩
    · have : i = ls.length := by omega
      subst this
      simp [hf, f11, g10, f3]
  rintro st3 hf3 g3
  have g0' : st3.e 0 = rowsS ls := by simp [hf3, hf1, g0]
  refine cutf [6] rfl (fun st => st.e 6 = .oslice 1 []) ?_ ?_
  · simp [g3]
    exact ⟨_, rfl, growS_at _ (by rw [catTo_all]; exact h2)⟩
  rintro st4 hf4 g6
  refine cutf [25, 26, 27, 28, 8, 6] rfl (fun st => st.e 6 = .oslice 1 ((catTo ls ls.length).map .str)) ?_ ?_
  rotate_left
  · rintro st5 hf5 g6
    simp [g6, catTo_all]
  refine cutf [25, 26, 27] rfl (fun st => st.e 25 = rowsS ls ∧ st.e 26 = .int .i64 ls.length ∧ st.e 27 = .int .i64 0) ?_ ?_
  · simp [hf4, g0']
  rintro st2 hf2 ⟨g9, g10, g11⟩
  rw [run_block]
  refine run_loopf [28, 8, 6, 27] rfl (fun st => ∃ i : Nat, st.e 27 = .int .i64 i ∧ i ≤ ls.length ∧ st.e 6 = .oslice 1 ((catTo ls i).map .str)) (fun st => ls.length - natOf (st.e 27)) ?_ ?_
  · exact ⟨0, g11, by omega, by simp [hf2, g6]⟩
  rintro s0 hf ⟨i, f11, hi, f6⟩
  by_cases hlt : i < ls.length
  · have hws := wrap_succ (i := i) (by omega)
    have hle := catTo_at_le ls hlt
    have hb : ((catTo ls i).length + (ls[i]).length) * 16 ≤ 140737488355328 := by omega
    have hap : List.map AV.str (catTo ls i) ++ List.map AV.str ls[i] = List.map AV.str (catTo ls (i + 1)) := by rw [catTo_succ ls hlt, List.map_append]
    simp [hf, f11, g9, g10, hlt, f6, hws, hb]
    refine ⟨⟨i + 1, by omega, by omega, ?_⟩, by omega⟩
    exact hap
  · have : i = ls.length := by omega
    subst this
    simp [hf, f11, g10, f6]

theorem concatN (ls : List (List Node)) (h1 : ls.length ≤ 1048576) (h2 : ls.flatten.length ≤ 1073741824) : Sound Tryz.prog 39 [rowsN ls] (.slice 4 (ls.flatten.map nodeAV)) := by
  refine sound39 rfl ?_
  refine cutf [2] rfl (fun st => st.e 0 = rowsN ls) (by simp) ?_
  rintro st - g0
  refine cutf [3] rfl (fun st => st.e 3 = .int .i64 0) (by simp) ?_
  rintro st1 hf1 g3
  refine cutf [9, 10, 11, 12, 5, 3, 20] rfl (fun st => st.e 3 = .int .i64 (catTo ls ls.length).length) ?_ ?_
  · refine cutf [9, 10, 11] rfl (fun st => st.e 9 = rowsN ls ∧ st.e 10 = .int .i64 ls.length ∧ st.e 11 = .int .i64 0) ?_ ?_
    · simp [hf1, g0]
    rintro st2 hf2 ⟨g9, g10, g11⟩
    rw [run_block]
    refine run_loopf [12, 5, 3, 20, 11] rfl (fun st => ∃ i : Nat, st.e 11 = .int .i64 i ∧ i ≤ ls.length ∧ st.e 3 = .int .i64 (catTo ls i).length) (fun st => ls.length - natOf (st.e 11)) ?_ ?_
    · exact ⟨0, g11, by omega, by simp [hf2, g3]⟩
    rintro s0 hf ⟨i, f11, hi, f3⟩
    by_cases hlt : i < ls.length
    · have hws := wrap_succ (i := i) (by omega)
      have hle := catTo_at_le ls hlt
      have hsum : IntKind.i64.wrap (((catTo ls i).length : Int) + ((ls[i]).length : Int)) = ((catTo ls (i + 1)).length : Int) := by
        rw [wrap_i64 (by omega) (by omega), catTo_succ ls hlt]; simp
      have hnn : ¬ (((catTo ls (i + 1)).length : Int) < 0) := by omega
      simp [hf, f11, g9, g10, hlt, f3] 
      rw [hsum]
      simp [hws, hnn]
      exact ⟨⟨i + 1, by omega, by omega, rfl⟩, by omega⟩
    · have : i = ls.length := by omega
      subst this
      simp [hf, f11, g10, f3]
  rintro st3 hf3 g3
  have g0' : st3.e 0 = rowsN ls := by simp [hf3, hf1, g0]
  refine cutf [6] rfl (fun st => st.e 6 = .oslice 4 []) ?_ ?_
  · simp [g3]
    exact ⟨_, rfl, growN_at _ (by rw [catTo_all]; exact h2)⟩
  rintro st4 hf4 g6
  refine cutf [25, 26, 27, 28, 8, 6] rfl (fun st => st.e 6 = .oslice 4 ((catTo ls ls.length).map nodeAV)) ?_ ?_
  rotate_left
  · rintro st5 hf5 g6
    simp [g6, catTo_all]
  refine cutf [25, 26, 27] rfl (fun st => st.e 25 = rowsN ls ∧ st.e 26 = .int .i64 ls.length ∧ st.e 27 = .int .i64 0) ?_ ?_
  · simp [hf4, g0']
  rintro st2 hf2 ⟨g9, g10, g11⟩
  rw [run_block]
  refine run_loopf [28, 8, 6, 27] rfl (fun st => ∃ i : Nat, st.e 27 = .int .i64 i ∧ i ≤ ls.length ∧ st.e 6 = .oslice 4 ((catTo ls i).map nodeAV)) (fun st => ls.length - natOf (st.e 27)) ?_ ?_
  · exact ⟨0, g11, by omega, by simp [hf2, g6]⟩
  rintro s0 hf ⟨i, f11, hi, f6⟩
  by_cases hlt : i < ls.length
  · have hws := wrap_succ (i := i) (by omega)
    have hle := catTo_at_le ls hlt
    have hb : ((catTo ls i).length + (ls[i]).length) * 72 ≤ 140737488355328 := by omega
    have hap : List.map nodeAV (catTo ls i) ++ List.map nodeAV ls[i] = List.map nodeAV (catTo ls (i + 1)) := by rw [catTo_succ ls hlt, List.map_append]
    simp [hf, f11, g9, g10, hlt, f6, hws, hb]
    refine ⟨⟨i + 1, by omega, by omega, ?_⟩, by omega⟩
    exact hap
  · have : i = ls.length := by omega
    subst this
    simp [hf, f11, g10, f6]


def idxAV : Option Nat → AV
  | some i => .int .i64 i
  | none => .int .i64 (-1)

theorem idx_none {l : List Str} {s : Str} (h : ∀ j (hj : j < l.length), l[j] ≠ s) : l.idxOf? s = none := by
  rw [List.idxOf?_eq_none_iff]
  intro hm
  obtain ⟨j, hj1, hj2⟩ := List.mem_iff_getElem.1 hm
  exact h j hj1 hj2
theorem idx_some {l : List Str} {s : Str} {i : Nat} (hi : i < l.length) (he : l[i] = s) (h : ∀ j (hj : j < i), l[j] ≠ s) : l.idxOf? s = some i := by
  rw [List.idxOf?_eq_some_iff]
  exact ⟨hi, he, fun j hj => h j hj⟩

theorem libIndex (l : List Str) (s : Str) (hl : l.length ≤ 1073741824) : Sound Tryz.prog 58 [.slice 1 (l.map .str), .str s] (idxAV (l.idxOf? s)) := by
  refine sound58 rfl ?_
  refine cutf [4] rfl (fun st => st.e 0 = .slice 1 (l.map .str) ∧ st.e 1 = .str s) (by simp) ?_
  rintro st - ⟨g0, g1⟩
  refine cutf [7, 8, 9, 5, 16, 4] rfl (fun st => l.idxOf? s = none) ?_ ?_
  rotate_left
  · rintro st1 - hn
    simp [hn, idxAV]
  refine cutf [7, 8] rfl (fun st => st.e 7 = .int .i64 l.length ∧ st.e 8 = .int .i64 0) (by simp [g0]) ?_
  rintro st1 hf1 ⟨g7, g8⟩
  rw [run_block]
  refine run_loopf [9, 5, 16, 4, 8] rfl (fun st => ∃ i : Nat, st.e 8 = .int .i64 i ∧ i ≤ l.length ∧ ∀ j (hj : j < l.length), j < i → l[j] ≠ s) (fun st => l.length - natOf (st.e 8)) ?_ ?_
  · exact ⟨0, g8, by omega, fun j _ h => by omega⟩
  rintro s0 hf ⟨i, f8, hi, hj⟩
  by_cases hlt : i < l.length
  · have hws := wrap_succ (i := i) (by omega)
    by_cases he : s = l[i]
    · have hx := idx_some hlt he.symm (fun j h => hj j (by omega) h)
      simp [hf, hf1, g0, g1, g7, f8, hlt, ← he, hx, idxAV]
    · simp [hf, hf1, g0, g1, g7, f8, hlt, he, hws]
      refine ⟨⟨i + 1, by omega, by omega, fun j h1 h2 => ?_⟩, by omega⟩
      by_cases e : j = i
      · subst e; exact fun h => he h.symm
      · exact hj j h1 (by omega)
  · have hx : l.idxOf? s = none := idx_none fun j h => hj j h (by omega)
    simp [hf, hf1, g0, g1, g7, f8, hlt, hx]

theorem nameAt (l : List Str) (s : Str) (hl : l.length ≤ 1073741824) : Sound Tryz.prog 50 [.slice 1 (l.map .str), .str s] (idxAV (l.idxOf? s)) := by
  refine sound50 rfl ?_
  simp
  refine awpR_call (idxAV (l.idxOf? s)) (by simp) (by simpa using libIndex l s hl) (by cases l.idxOf? s <;> rfl) ?_
  cases l.idxOf? s <;> simp [idxAV]

theorem nameBoth (a b : List Str) (h : a.length + b.length ≤ 1073741824) : Sound Tryz.prog 35 [.slice 1 (a.map .str), .slice 1 (b.map .str)] (.slice 1 ((sortU (a ++ b)).map .str)) := by
  refine sound35 rfl ?_
  have hc := concatS [a, b] (by simp) (by simpa using h)
  have hs := nameSorted (a ++ b) (by simpa using h)
  simp
  refine awpR_call (.slice 1 ((a ++ b).map .str)) (by simp) (by simpa [rowsS] using hc) (by simp) ?_
  simp
  refine awpR_call (.slice 1 ((sortU (a ++ b)).map .str)) (by simp) (by simpa using hs) (by simp) ?_
  simp

end Go.Proofs.YtccmaeefedgcnaaGreat

namespace Go.Proofs.YtccmaeefedgcnaaGreat

/-- Right as to its keys, and not too great. -/
inductive Node.Wide (K : Nat) : Node → Prop
  | mk {n : Node} (h1 : n.keys.length ≤ K) (h2 : n.kids.length ≤ K) (h3 : n.kind = 3 → n.keys.length = n.kids.length ∧ n.text = [] ∧ n.keys.Nodup) (h0 : n.kind ≠ 3 → n.keys = [])
      (ht : n.text.length ≤ 1073741824) (hk : ∀ k ∈ n.keys, k.length ≤ 1073741824) (hc : ∀ k ∈ n.kids, Node.Wide K k) : Node.Wide K n
theorem Node.Wide.keys {K : Nat} {n : Node} (h : n.Wide K) : n.keys.length ≤ K := by cases h; assumption
theorem Node.Wide.kids {K : Nat} {n : Node} (h : n.Wide K) : n.kids.length ≤ K := by cases h; assumption
theorem Node.Wide.map {K : Nat} {n : Node} (h : n.Wide K) : n.kind = 3 → n.keys.length = n.kids.length ∧ n.text = [] ∧ n.keys.Nodup := by cases h; assumption
theorem Node.Wide.text {K : Nat} {n : Node} (h : n.Wide K) : n.text.length ≤ 1073741824 := by cases h; assumption
theorem Node.Wide.key {K : Nat} {n : Node} (h : n.Wide K) : ∀ k ∈ n.keys, k.length ≤ 1073741824 := by cases h; assumption
theorem Node.Wide.nokeys {K : Nat} {n : Node} (h : n.Wide K) : n.kind ≠ 3 → n.keys = [] := by cases h; assumption
theorem Node.Wide.kid {K : Nat} {n : Node} (h : n.Wide K) {k : Node} (hk : k ∈ n.kids) : k.Wide K := by cases h with | mk _ _ _ _ _ _ h7 => exact h7 k hk
theorem Node.Wide.mono {K K' : Nat} {n : Node} (h : n.Wide K) (hK : K ≤ K') : n.Wide K' := by
  induction h with
  | mk h1 h2 h3 h0 ht hk _ ih => exact .mk (by omega) (by omega) h3 h0 ht hk ih
theorem Node.Wide.get {K : Nat} {n : Node} (h : n.Wide K) {key : Str} {v : Node} (hg : n.get key = some v) : v.Wide K := h.kid (get_mem hg)
theorem Node.Wide.good {K : Nat} {n : Node} (hK : K ≤ 1073741824) (h : n.Wide K) : n.Good := by
  induction h with
  | @mk n h1 h2 h3 h0 ht hk _ ih =>
    refine .mk' (by omega) (by omega) ih ht hk (fun _ => ?_)
    by_cases hk3 : n.kind = 3
    · rw [(h3 hk3).1]; exact Nat.le_refl _
    · rw [h0 hk3]; simp
theorem zero_wide {K : Nat} : zeroN.Wide K := .mk (by simp) (by simp) (by simp) (by simp) (by simp) (by simp) (by simp)

/-- A key's place in a map. -/
def Node.place (n : Node) (key : Str) : Option Nat := if n.kind = 3 then n.keys.idxOf? key else none
theorem get_place {n : Node} {key : Str} : n.get key = (n.place key).bind (n.kids[·]?) := by
  unfold Node.get Node.place; split <;> rfl
theorem idx_lt {l : List Str} {s : Str} {i : Nat} (h : l.idxOf? s = some i) : ∃ hi : i < l.length, l[i] = s := by
  rw [List.idxOf?_eq_some_iff] at h
  exact ⟨h.1, h.2.1⟩
theorem place_lt {n : Node} {K : Nat} (hw : n.Wide K) {key : Str} {i : Nat} (h : n.place key = some i) : n.kind = 3 ∧ i < n.keys.length ∧ i < n.kids.length := by
  unfold Node.place at h
  split at h
  · obtain ⟨h1, _⟩ := idx_lt h
    have := (hw.map ‹_›).1
    exact ⟨‹_›, h1, by omega⟩
  · cases h

theorem nodePlace (n : Node) {K : Nat} (hw : n.Wide K) (hK : K ≤ 1073741824) (key : Str) : Sound Tryz.prog 37 [nodeAV n, .str key] (idxAV (n.place key)) := by
  refine sound37 rfl ?_
  have hkeys := hw.keys
  have hkids := hw.kids
  refine cutf [2, 4] rfl (fun st => st.e 2 = nodeAV n ∧ st.e 1 = .str key) (by simp) ?_
  rintro st - ⟨g2, g1⟩
  by_cases hk : n.kind = 3
  · obtain ⟨hl, _, _⟩ := hw.map hk
    have hp : n.place key = n.keys.idxOf? key := by simp [Node.place, hk]
    rw [hp]
    simp [g2, hk, hl, g1]
    refine awpR_call (idxAV (n.keys.idxOf? key)) (by simp) (by simpa using nameAt n.keys key (by omega)) (by cases n.keys.idxOf? key <;> rfl) ?_
    cases n.keys.idxOf? key <;> simp [idxAV]
  · have hp : n.place key = none := by simp [Node.place, hk]
    rw [hp]
    simp [g2, hk, idxAV]

theorem nodeGet (n : Node) {K : Nat} (hw : n.Wide K) (hK : K ≤ 1073741824) (key : Str) : Sound Tryz.prog 36 [nodeAV n, .str key] (getAV (n.get key)) := by
  refine sound36 rfl ?_
  refine cutf [2, 4, 5] rfl (fun st => st.e 2 = nodeAV n ∧ st.e 1 = .str key ∧ st.e 4 = noNode) (by simp) ?_
  rintro st - ⟨g2, g1, g4⟩
  refine cutf [6] rfl (fun st => st.e 6 = idxAV (n.place key)) ?_ ?_
  · simp [g2, g1]
    refine awpR_call (idxAV (n.place key)) (by simp) (by simpa using nodePlace n hw hK key) (by cases n.place key <;> rfl) ?_
    cases n.place key <;> simp [idxAV]
  rintro st1 hf1 g6
  rw [get_place]
  cases hp : n.place key with
  | none =>
    rw [hp] at g6
    simp [g6, idxAV, hf1, g4, getAV, nodeAV_zero]
  | some i =>
    rw [hp] at g6
    obtain ⟨hk3, h1, h2⟩ := place_lt hw hp
    have hneg : ¬ ((i : Int) < 0) := by omega
    simp [g6, idxAV, hf1, g2, g4, hneg, h2, getAV]

theorem nodup_filter {l : List (Str × Node)} {i : Nat} {key : Str} (hn : (l.map (·.1)).Nodup) (hi : i < l.length) (he : (l[i]).1 = key) : l.filter (fun x => decide (x.1 ≠ key)) = l.eraseIdx i := by
  induction l generalizing i with
  | nil => simp at hi
  | cons x l ih =>
    simp only [List.map_cons, List.nodup_cons] at hn
    cases i with
    | zero =>
      simp only [List.getElem_cons_zero] at he
      simp only [List.eraseIdx_cons_zero]
      rw [List.filter_cons_of_neg (by simp [he])]
      rw [List.filter_eq_self]
      intro y hy
      simp only [ne_eq, decide_eq_true_eq]
      intro e
      exact hn.1 (List.mem_map.2 ⟨y, hy, by rw [e, he]⟩)
    | succ i =>
      simp only [List.getElem_cons_succ] at he
      have hi' : i < l.length := by simpa using hi
      have hne : x.1 ≠ key := by
        intro e
        exact hn.1 (List.mem_map.2 ⟨l[i], List.getElem_mem hi', by rw [he, e]⟩)
      rw [List.filter_cons_of_pos (by simp [hne]), List.eraseIdx_cons_succ, ih hn.2 hi' he]

theorem pairs_keys {n : Node} (h : n.keys.length = n.kids.length) : n.pairs.map (·.1) = n.keys ∧ n.pairs.map (·.2) = n.kids := by
  simp only [Node.pairs]
  exact ⟨List.map_fst_zip (by omega), List.map_snd_zip (by omega)⟩

theorem map_erase {α β : Type} (f : α → β) : ∀ (l : List α) (i : Nat), (l.eraseIdx i).map f = (l.map f).eraseIdx i
  | [], i => by simp
  | x :: l, 0 => by simp
  | x :: l, i + 1 => by simp [map_erase f l i]

theorem less_place {n : Node} {K : Nat} (hw : n.Wide K) (key : Str) : n.less key = match n.place key with | some i => ⟨3, [], n.keys.eraseIdx i, n.kids.eraseIdx i⟩ | none => n := by
  by_cases hk : n.kind = 3
  rotate_left
  · simp [Node.less, Node.place, hk]
  obtain ⟨hl, ht, hn⟩ := hw.map hk
  obtain ⟨e1, e2⟩ := pairs_keys hl
  have hp : n.place key = n.keys.idxOf? key := by simp [Node.place, hk]
  rw [hp]
  simp only [Node.less, hk, ne_eq, not_true_eq_false, if_false]
  cases hi : n.keys.idxOf? key with
  | none =>
    rw [List.idxOf?_eq_none_iff] at hi
    have : n.pairs.filter (fun x => decide (¬ x.1 = key)) = n.pairs := by
      rw [List.filter_eq_self]
      intro x hx
      simp only [decide_eq_true_eq]
      intro e
      exact hi (by rw [← e1]; exact List.mem_map.2 ⟨x, hx, e⟩)
    rw [this]
    simp only [ofPairs, e1, e2]
    cases n; simp_all
  | some i =>
    obtain ⟨h1, h2⟩ := idx_lt hi
    have hil : i < n.pairs.length := by rw [← List.length_map (f := (·.1)), e1]; exact h1
    have := nodup_filter (l := n.pairs) (i := i) (key := key) (by rw [e1]; exact hn) hil (by
      have : (n.pairs.map (·.1))[i]'(by simpa using hil) = key := by simp only [e1]; exact h2
      simpa using this)
    simp only [ne_eq] at this
    rw [this]
    simp only [ofPairs]
    rw [map_erase, map_erase, e1, e2]

theorem nodeLess (n : Node) {K : Nat} (hw : n.Wide K) (hK : K ≤ 1073741823) (key : Str) : Sound Tryz.prog 17 [nodeAV n, .str key] (nodeAV (n.less key)) := by
  refine sound17 rfl ?_
  have hkeys := hw.keys
  have hkids := hw.kids
  refine cutf [2, 4] rfl (fun st => st.e 2 = nodeAV n ∧ st.e 1 = .str key ∧ st.e 4 = noNode) (by simp) ?_
  rintro st - ⟨g2, g1, g4⟩
  refine cutf [5] rfl (fun st => st.e 5 = idxAV (n.place key)) ?_ ?_
  · simp [g2, g1]
    refine awpR_call (idxAV (n.place key)) (by simp) (by simpa using nodePlace n hw (by omega) key) (by cases n.place key <;> rfl) ?_
    cases n.place key <;> simp [idxAV]
  rintro st1 hf1 g5
  rw [less_place hw]
  cases hp : n.place key with
  | none =>
    rw [hp] at g5
    simp [g5, idxAV, hf1, g2, g4]
  | some i =>
    rw [hp] at g5
    obtain ⟨hk3, h1, h2⟩ := place_lt hw hp
    have hneg : ¬ ((i : Int) < 0) := by omega
    have hws := wrap_succ (i := i) (by omega)
    have hc1 := concatS [n.keys.take i, n.keys.drop (i + 1)] (by simp) (by simp; omega)
    have hc2 := concatN [n.kids.take i, n.kids.drop (i + 1)] (by simp) (by simp; omega)
    have e1 : [n.keys.take i, n.keys.drop (i + 1)].flatten = n.keys.eraseIdx i := by simp [List.eraseIdx_eq_take_drop_succ]
    have e2 : [n.kids.take i, n.kids.drop (i + 1)].flatten = n.kids.eraseIdx i := by simp [List.eraseIdx_eq_take_drop_succ]
    rw [e1] at hc1; rw [e2] at hc2
    simp [g5, idxAV, hf1, g2, hneg, hws]
    refine ⟨by omega, by omega, ?_⟩
    have t1 : List.take n.keys.length (List.map AV.str n.keys) = List.map AV.str n.keys := List.take_of_length_le (by simp)
    have t2 : List.take n.kids.length (List.map nodeAV n.kids) = List.map nodeAV n.kids := List.take_of_length_le (by simp)
    refine awpR_call (.slice 1 ((n.keys.eraseIdx i).map .str)) (by simp) (by simpa [rowsS, t1, List.map_take, List.map_drop] using hc1) (by simp) ?_
    simp [hf1, g2, g5, idxAV, hws]
    refine ⟨by omega, by omega, ?_⟩
    refine awpR_call (.slice 4 ((n.kids.eraseIdx i).map nodeAV)) (by simp) (by simpa [rowsN, t2, List.map_take, List.map_drop] using hc2) (by simp) ?_
    simp [hf1, g4, nodeAV_eq]

end Go.Proofs.YtccmaeefedgcnaaGreat

namespace Go.Proofs.YtccmaeefedgcnaaGreat

def atN : List Str → Node → Option Node
  | [], n => some n
  | p :: ps, n => (n.get p).bind (atN ps)
/-- No row lies on the path. -/
def atOk : List Str → Node → Prop
  | [], _ => True
  | p :: ps, n => n.kind ≠ 2 ∧ ∀ v, n.get p = some v → atOk ps v

theorem nodeAt (n : Node) {K : Nat} (hw : n.Wide K) (hK : K ≤ 1073741824) (path : List Str) (hp : path.length ≤ 1073741824) (hok : atOk path n) :
    Sound Tryz.prog 48 [nodeAV n, .slice 1 (path.map .str)] (getAV (atN path n)) := by
  refine sound48 rfl ?_
  refine cutf [2, 4, 5] rfl (fun st => st.e 2 = nodeAV n ∧ st.e 1 = .slice 1 (path.map .str) ∧ st.e 4 = noNode) (by simp) ?_
  rintro st - ⟨g2, g1, g4⟩
  refine cutf [12, 13, 14, 15, 7, 20, 8, 9, 37, 2, 10, 11, 51, 4, 5] rfl (fun st => st.e 4 = noNode ∧ ∃ v, IsN (st.e 2) v ∧ atN path n = some v) ?_ ?_
  rotate_left
  · rintro st1 - ⟨f4, v, ⟨q1, q2, q3, q4, q5, q6, q7⟩, hv⟩
    rw [hv]
    simp [q1, q2, q3, f4, getAV]
  refine cutf [12, 13, 14] rfl (fun st => st.e 12 = .slice 1 (path.map .str) ∧ st.e 13 = .int .i64 path.length ∧ st.e 14 = .int .i64 0) (by simp [g1]) ?_
  rintro st1 hf1 ⟨g12, g13, g14⟩
  rw [run_block]
  refine run_loopf [15, 7, 20, 8, 9, 37, 2, 10, 11, 51, 4, 5, 14] rfl (fun st => st.e 4 = noNode ∧ ∃ (i : Nat) (v : Node), st.e 14 = .int .i64 i ∧ i ≤ path.length ∧ IsN (st.e 2) v ∧ v.Wide K ∧ atOk (path.drop i) v ∧ atN (path.drop i) v = atN path n) (fun st => path.length - natOf (st.e 14)) ?_ ?_
  · exact ⟨by simp [hf1, g4], 0, n, g14, by omega, by simp [hf1, g2], hw, by simpa using hok, by simp⟩
  rintro s0 hf ⟨f4, i, v, f14, hi, ⟨q1, q2, q3, q4, q5, q6, q7⟩, hvw, hvo, hva⟩
  by_cases hlt : i < path.length
  rotate_left
  · have hd : path.drop i = [] := List.drop_eq_nil_of_le (by omega)
    rw [hd] at hva
    simp [hf, f14, g13, hlt, f4]
    exact ⟨v, ⟨q1, q2, q3, q4, q5, q6, q7⟩, by rw [← hva]; rfl⟩
  have hws := wrap_succ (i := i) (by omega)
  rw [List.drop_eq_getElem_cons hlt] at hvo hva
  obtain ⟨hk2, hvo⟩ := hvo
  have hget := nodeGet v hvw hK path[i]
  rw [nodeAV_eq v] at hget
  simp only [atN] at hva
  have hc2 : (st.e 4 = st.e 4) := rfl
  have q1k : (s0.e 2).cells[0]?.map AV.un1 = some (.int .i64 v.kind) := by
    have := congrArg (·[0]?) q1
    simpa using this
  simp [hf, f14, g13, hlt, g12, q2, q3, q1, q1k, hk2]
  refine awpR_call (getAV (v.get path[i])) (by simp) (by simpa using hget) (by cases v.get path[i] <;> rfl) ?_
  cases hg : v.get path[i] with
  | none =>
    rw [hg] at hva
    simp only [Option.bind_none] at hva
    simp [getAV, f4, ← hva, nodeAV_zero]
  | some x =>
    rw [hg] at hva
    simp only [Option.bind_some] at hva
    simp [getAV, f4, q2, q3, q4, q7, f14, hws]
    exact ⟨⟨i + 1, by omega, by omega, x, isN_node x, hvw.get hg, hvo x hg, hva⟩, by omega⟩

end Go.Proofs.YtccmaeefedgcnaaGreat
