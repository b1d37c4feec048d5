/-
  CONTRACTS: longshoreref15.Split, Bare, Join.
  CONTRACTS: longshoreref16.
  CONTRACTS: longshoreref17.
-/
import Derived.Test.YtccmaeefedgcnaaGreatPart13
set_option linter.all false

namespace Go.Proofs.YtccmaeefedgcnaaGreat

def isWords (m : Nat) (r : AV) : Prop := ∃ (l : List Str) (e : Int), r = .tup [.slice 1 (l.map .str), .int .i64 e] ∧ l.length ≤ 32 ∧ ∀ w ∈ l, w.length ≤ m
theorem isWords_mk {m : Nat} {l : List Str} {e : Int} (h1 : l.length ≤ 32) (h2 : ∀ w ∈ l, w.length ≤ m) : isWords m (.tup [.slice 1 (l.map .str), .int .i64 e]) := ⟨l, e, rfl, h1, h2⟩
@[simp] theorem isWords_nil {m : Nat} {e : Int} : isWords m (.tup [.slice 1 [], .int .i64 e]) := ⟨[], e, rfl, by simp, by simp⟩

theorem unw_ret_any {P : Program} {Q : Exit → St → Prop} {s : St} : ∀ k : List Fr, unw P k Q .ret s = Q .ret s
  | [] => by simp
  | .code _ :: k => by rw [unw_code_ret]; exact unw_ret_any k
  | .blk _ :: k => by rw [unw_blk_ret]; exact unw_ret_any k
  | .lp _ :: k => by rw [unw_lp_ret]; exact unw_ret_any k

/-- The inner loop: a word. -/
theorem split_word (s : Str) (hs : s.length ≤ 1073741824) (l : List Str) (a : Nat) (ha : a < s.length) (hb : isBlank s[a] = false) (X : St → Prop) (k : List Fr) (st : St)
    (hX : ∀ s', s'.e 0 = .str s → s'.e 4 = .oslice 1 (l.map .str) → (∃ (i : Nat) (w : Str), s'.e 5 = .int .i64 i ∧ a < i ∧ i ≤ s.length ∧ s'.e 6 = .str w ∧ w.length ≤ s.length) → X s')
    (g0 : st.e 0 = .str s) (g4 : st.e 4 = .oslice 1 (l.map .str)) (g5 : st.e 5 = .int .i64 a) (g6 : st.e 6 = .str []) :
    awp Tryz.prog c76s24 (unw Tryz.prog (.blk 2 :: .lp X :: k) (EndsP [.tmp 2, .tmp 3] (isWords s.length))) st := by
  refine run_loop (fun st => st.e 0 = .str s ∧ st.e 4 = .oslice 1 (l.map .str) ∧ ∃ (i : Nat) (w : Str), st.e 5 = .int .i64 i ∧ a ≤ i ∧ i ≤ s.length ∧ st.e 6 = .str w ∧ w.length + a ≤ i) (fun st => s.length - natOf (st.e 5)) ?_ ?_
  · exact ⟨g0, g4, a, [], g5, by omega, by omega, g6, by simp⟩
  · rintro st ⟨g0, g4, i, w, g5, hi1, hi2, g6, hw⟩
    by_cases hlt : i < s.length
    · simp [g0, g4, g5, g6, hlt]
      refine awpR_ggcall _ (by simp) (by simp [hlt]) (fun _ => by simpa [hlt] using ref15blank s[i]) rfl ?_
      cases hbl : isBlank s[i]
      · simp [hbl, g0, g5]
        obtain ⟨_, ⟨p, n, rfl, hp⟩, -, hc⟩ := ref15piece s i hs hlt
        refine awpR_call _ (by simp) (by simpa [g0, g5] using hc) rfl ?_
        rcases hp with rfl | ⟨j, rfl, h1, h2, h3⟩
        · simp
          rw [unw_ret_any]; simp
        · have hneg : ¬ ((j : Int) < 0) := by omega
          simp [g0, g4, g5, g6, hneg]
          exact ⟨by omega, ⟨j, rfl, by omega, by omega, by omega⟩, by omega⟩
      · have hne : a < i := by
          rcases Nat.lt_or_eq_of_le hi1 with h | h
          · exact h
          · subst h; rw [hb] at hbl; cases hbl
        simp [hbl]
        exact hX _ (by simp [g0]) (by simp [g4]) ⟨i, w, by simp [g5], hne, hi2, by simp [g6], by omega⟩
    · simp [g0, g4, g5, g6, hlt]
      refine awpR_ggcall (.bool true) (by simp) (by simp) (by simp) rfl ?_
      simp
      exact hX _ (by simp [g0]) (by simp [g4]) ⟨i, w, by simp [g5], by omega, hi2, by simp [g6], by omega⟩

theorem ref15Split (s : Str) (hs : s.length ≤ 1073741824) : Total Tryz.prog 76 [.str s] (isWords s.length) := by
  refine total76 rfl ?_
  refine cut (fun st => st.e 0 = .str s) (by simp) ?_
  intro st g0
  refine cut (fun st => st.e 0 = .str s ∧ st.e 4 = .oslice 1 []) (by simp [g0]) ?_
  rintro st ⟨g0, g4⟩
  refine cut (fun st => st.e 0 = .str s ∧ st.e 4 = .oslice 1 [] ∧ st.e 5 = .int .i64 0) (by simp [g0, g4]) ?_
  rintro st ⟨g0, g4, g5⟩
  refine cut (fun st => ∃ l : List Str, st.e 4 = .oslice 1 (l.map .str) ∧ ∀ w ∈ l, w.length ≤ s.length) ?_ ?_
  · rw [run_block]
    refine run_loop (fun st => st.e 0 = .str s ∧ ∃ (i : Nat) (l : List Str), st.e 5 = .int .i64 i ∧ i ≤ s.length ∧ st.e 4 = .oslice 1 (l.map .str) ∧ l.length ≤ i ∧ ∀ w ∈ l, w.length ≤ s.length) (fun st => s.length - natOf (st.e 5)) ?_ ?_
    · exact ⟨g0, 0, [], g5, by omega, by simpa using g4, by simp, by simp⟩
    · rintro st ⟨g0, i, l, g5, hi, g4, hl, hw⟩
      by_cases hlt : i < s.length
      · refine cut (fun st' => st' = put st 13 (.bool true)) (by simp [g0, g5, hlt]) ?_
        rintro _ rfl
        rw [run_block]
        refine cut (fun st' => st'.e 0 = .str s ∧ st'.e 4 = .oslice 1 (l.map .str) ∧ st'.e 5 = .int .i64 i ∧ isBlank s[i] = false) ?_ ?_
        · simp [g0, g5, hlt]
          refine awpR_call _ (by simp) (by simpa [hlt] using ref15blank s[i]) rfl ?_
          have hws := wrap_succ (i := i) (by omega)
          cases hbl : isBlank s[i]
          · simp [hbl, g0, g4, g5]
          · simp [hbl, g0, g4, g5, hws]
            exact ⟨⟨i + 1, by omega, by omega, l, by simp, by omega, hw⟩, by omega⟩
        rintro st' ⟨f0, f4, f5, hbl⟩
        refine cut (fun st' => st'.e 0 = .str s ∧ st'.e 4 = .oslice 1 (l.map .str) ∧ st'.e 5 = .int .i64 i ∧ st'.e 6 = .str []) (by simp [f0, f4, f5]) ?_
        rintro st' ⟨f0, f4, f5, f6⟩
        refine cut (fun st' => st'.e 0 = .str s ∧ st'.e 4 = .oslice 1 (l.map .str) ∧ ∃ (j : Nat) (w : Str), st'.e 5 = .int .i64 j ∧ i < j ∧ j ≤ s.length ∧ st'.e 6 = .str w ∧ w.length ≤ s.length) ?_ ?_
        · rw [run_block]
          exact split_word s hs l i hlt hbl _ _ st' (fun s' h1 h2 h3 => ⟨h1, h2, h3⟩) f0 f4 f5 f6
        rintro st' ⟨f0, f4, j, w, f5, hj1, hj2, f6, hwl⟩
        simp [f0, f4, f5, f6, g5]
        refine ⟨by omega, ⟨j, rfl, by omega, l ++ [w], by simp, by simp; omega, ?_⟩, by omega⟩
        intro x hx
        rcases List.mem_append.1 hx with h | h
        · exact hw x h
        · simp at h; subst h; exact hwl
      · simp [g0, g4, g5, hlt]
        exact ⟨l, rfl, hw⟩
  rintro st ⟨l, g4, hw⟩
  by_cases c1 : (32 : Int) < l.length
  · simp [g4, c1]
  · simp [g4, c1]
    exact isWords_mk (by omega) hw

theorem ref15Bare (s : Str) (hs : s.length ≤ 1073741824) : Total Tryz.prog 126 [.str s] isBool := by
  refine total126 rfl ?_
  refine cut (fun st => st.e 0 = .str s) (by simp) ?_
  intro st g0
  refine cut (fun st => st.e 0 = .str s ∧ st.e 3 = .str [46, 95, 45, 47, 58, 61, 44, 43, 64, 37]) (by simp [g0]) ?_
  rintro st ⟨g0, g3⟩
  refine cut (fun st => st.e 0 = .str s) ?_ ?_
  rotate_left
  · intro st g0
    simp [g0]
  simp
  refine run_loop (fun st => st.e 0 = .str s ∧ st.e 3 = .str [46, 95, 45, 47, 58, 61, 44, 43, 64, 37] ∧ ∃ i : Nat, st.e 4 = .int .i64 i ∧ i ≤ s.length) (fun st => s.length - natOf (st.e 4)) ?_ ?_
  · simp [g0, g3]; exact ⟨0, rfl, by omega⟩
  · rintro st ⟨g0, g3, i, g4, hi⟩
    by_cases hlt : i < s.length
    rotate_left
    · simp [g0, g4, hlt]
    have hws := wrap_succ (i := i) (by omega)
    refine cut (fun st' => st' = put st 11 (.bool true)) (by simp [g0, g4, hlt]) ?_
    rintro _ rfl
    refine cut (fun st' => st'.e 0 = .str s ∧ st'.e 3 = .str [46, 95, 45, 47, 58, 61, 44, 43, 64, 37] ∧ st'.e 4 = .int .i64 i) ?_ ?_
    rotate_left
    · rintro st' ⟨f0, f3, f4⟩
      simp [f0, f3, f4, g4, hws]
      exact ⟨⟨i + 1, by omega, by omega⟩, by omega⟩
    rw [run_block]
    refine cut (fun st' => st'.e 0 = .str s ∧ st'.e 3 = .str [46, 95, 45, 47, 58, 61, 44, 43, 64, 37] ∧ st'.e 4 = .int .i64 i ∧ st'.e 5 = .int .u8 (s[i].toNat)) ?_ ?_
    · simp [g0, g3, g4, hlt]
    rintro st' ⟨f0, f3, f4, f5⟩
    refine cut (fun st' => st'.e 0 = .str s ∧ st'.e 3 = .str [46, 95, 45, 47, 58, 61, 44, 43, 64, 37] ∧ st'.e 4 = .int .i64 i ∧ st'.e 5 = .int .u8 (s[i].toNat) ∧ ∃ b, st'.e 6 = .bool b) ?_ ?_
    · by_cases c1 : (97 : Int) ≤ s[i].toNat <;> by_cases c2 : (s[i].toNat : Int) ≤ 122 <;> by_cases c3 : (65 : Int) ≤ s[i].toNat <;> by_cases c4 : (s[i].toNat : Int) ≤ 90 <;> by_cases c5 : (48 : Int) ≤ s[i].toNat <;> by_cases c6 : (s[i].toNat : Int) ≤ 57 <;> (try (exfalso; omega)) <;> simp [f0, f3, f4, f5, c1, c2, c3, c4, c5, c6]
    rintro st' ⟨f0, f3, f4, f5, b, f6⟩
    refine cut (fun st' => st'.e 0 = .str s ∧ st'.e 3 = .str [46, 95, 45, 47, 58, 61, 44, 43, 64, 37] ∧ st'.e 4 = .int .i64 i ∧ ∃ b, st'.e 6 = .bool b) ?_ ?_
    · simp
      refine run_loop (fun st => st.e 0 = .str s ∧ st.e 3 = .str [46, 95, 45, 47, 58, 61, 44, 43, 64, 37] ∧ st.e 4 = .int .i64 i ∧ st.e 5 = .int .u8 (s[i].toNat) ∧ ∃ b, ∃ j : Nat, st.e 6 = .bool b ∧ st.e 7 = .int .i64 j ∧ j ≤ 10) (fun st => 10 - natOf (st.e 7)) ?_ ?_
      · simp [f0, f3, f4, f5, f6]; exact ⟨0, rfl, by omega⟩
      · rintro st ⟨g0, g3, g4, g5, b, j, g6, g7, hj⟩
        by_cases hj2 : (j : Int) < 10
        · have hj3 : j < 10 := by omega
          have hw2 := wrap_succ (i := j) (by omega)
          cases b
          · simp [g0, g3, g4, g5, g6, g7, hj2, hj3, hw2]
            exact ⟨⟨(Classical.em _).symm, ⟨j + 1, by omega, by omega⟩⟩, by omega⟩
          · simp [g0, g3, g4, g5, g6, g7, hj2, hj3, hw2]
            exact ⟨⟨j + 1, by omega, by omega⟩, by omega⟩
        · simp [g0, g3, g4, g5, g6, g7, hj2]
    rintro st' ⟨f0, f3, f4, b, f6⟩
    cases b <;> simp [f0, f3, f4, f6]

theorem ref15Join (l : List Str) (m : Nat) (hl : l.length ≤ 100) (hm : m ≤ 1048576) (hw : ∀ w ∈ l, w.length ≤ m) : Total Tryz.prog 112 [.slice 1 (l.map .str)] (isStr (l.length * (4 * m + 3))) := by
  refine total112 rfl ?_
  refine cut (fun st => st.e 0 = .slice 1 (l.map .str)) (by simp) ?_
  intro st g0
  refine cut (fun st => st.e 0 = .slice 1 (l.map .str) ∧ st.e 3 = .str []) (by simp [g0]) ?_
  rintro st ⟨g0, g3⟩
  refine cut (fun st => ∃ o : Str, st.e 3 = .str o ∧ o.length ≤ l.length * (4 * m + 3)) ?_ ?_
  rotate_left
  · rintro st ⟨o, g3, ho⟩
    simp [g3, ho]
  simp
  refine run_loop (fun st => st.e 0 = .slice 1 (l.map .str) ∧ ∃ (i : Nat) (o : Str), st.e 4 = .int .i64 i ∧ i ≤ l.length ∧ st.e 3 = .str o ∧ o.length ≤ i * (4 * m + 3)) (fun st => l.length - natOf (st.e 4)) ?_ ?_
  · simp [g0, g3]; exact ⟨0, rfl, by omega⟩
  · rintro st ⟨g0, i, o, g4, hi, g3, ho⟩
    have hsucc : (i + 1) * (4 * m + 3) = i * (4 * m + 3) + (4 * m + 3) := Nat.succ_mul _ _
    have hbig : i * (4 * m + 3) ≤ 100 * (4 * 1048576 + 3) := Nat.mul_le_mul (by omega) (by omega)
    by_cases hlt : i < l.length
    rotate_left
    · have : i = l.length := by omega
      subst this
      simp [g0, g3, g4]
      omega
    generalize i * (4 * m + 3) = B at *
    have hws := wrap_succ (i := i) (by omega)
    have hwi := hw l[i] (List.getElem_mem hlt)
    refine cut (fun st' => st' = put st 9 (.bool true)) (by simp [g0, g4, hlt]) ?_
    rintro _ rfl
    refine cut (fun st' => st'.e 0 = .slice 1 (l.map .str) ∧ st'.e 4 = .int .i64 i ∧ ∃ o : Str, st'.e 3 = .str o ∧ o.length ≤ B + 4 * m + 3) ?_ ?_
    rotate_left
    · rintro st' ⟨f0, f4, o, f3, ho⟩
      simp [f0, f3, f4, g4, hws]
      exact ⟨⟨i + 1, by omega, by omega, by omega⟩, by omega⟩
    rw [run_block]
    refine cut (fun st' => st'.e 0 = .slice 1 (l.map .str) ∧ st'.e 4 = .int .i64 i ∧ ∃ o : Str, st'.e 3 = .str o ∧ o.length ≤ B + 1) ?_ ?_
    · by_cases c1 : (0 : Int) < i
      · simp [g0, g3, g4, c1]; omega
      · simp [g0, g3, g4, c1]; omega
    rintro st' ⟨f0, f4, o, f3, ho⟩
    refine cut (fun st' => st'.e 0 = .slice 1 (l.map .str) ∧ st'.e 4 = .int .i64 i ∧ st'.e 3 = .str o) ?_ ?_
    · simp [f0, f4, hlt]
      obtain ⟨_, ⟨b, rfl⟩, -, hc⟩ := ref15Bare l[i] (by omega)
      refine awpR_call _ (by simp) (by simpa [f0, f4, hlt] using hc) rfl ?_
      cases b
      · simp [f0, f3, f4]
      · simp [f0, f3, f4, hlt]
        omega
    rintro st' ⟨f0, f4, f3⟩
    refine cut (fun st' => st'.e 0 = .slice 1 (l.map .str) ∧ st'.e 4 = .int .i64 i ∧ st'.e 3 = .str (o ++ [39])) (by simp [f0, f3, f4]; omega) ?_
    rintro st' ⟨f0, f4, f3⟩
    refine cut (fun st' => st'.e 0 = .slice 1 (l.map .str) ∧ st'.e 4 = .int .i64 i ∧ ∃ o : Str, st'.e 3 = .str o ∧ o.length ≤ B + 2 + 4 * m) ?_ ?_
    rotate_left
    · rintro st' ⟨f0, f4, o, f3, ho⟩
      simp [f0, f3, f4]; omega
    simp
    refine run_loop (fun st => st.e 0 = .slice 1 (l.map .str) ∧ st.e 4 = .int .i64 i ∧ ∃ (k : Nat) (o : Str), st.e 5 = .int .i64 k ∧ k ≤ l[i].length ∧ st.e 3 = .str o ∧ o.length ≤ B + 2 + 4 * k) (fun st => l[i].length - natOf (st.e 5)) ?_ ?_
    · simp [f0, f3, f4]; exact ⟨0, rfl, by omega⟩
    · rintro st ⟨g0, g4, k, o, g5, hk, g3, ho⟩
      by_cases hkl : k < l[i].length
      · have hws := wrap_succ (i := k) (by omega)
        by_cases c1 : (l[i][k].toNat : Int) = 39
        · simp [g0, g3, g4, g5, hlt, hkl, c1, hws]
          exact ⟨by omega, by omega, by omega, ⟨k + 1, by omega, by omega, by omega⟩, by omega⟩
        · simp [g0, g3, g4, g5, hlt, hkl, c1, hws]
          exact ⟨by omega, by omega, ⟨k + 1, by omega, by omega, by omega⟩, by omega⟩
      · simp [g0, g3, g4, g5, hlt, hkl]
        omega

end Go.Proofs.YtccmaeefedgcnaaGreat

namespace Go.Proofs.YtccmaeefedgcnaaGreat

def isParts (m : Nat) (r : AV) : Prop := ∃ l : List Str, r = .slice 1 (l.map .str) ∧ 0 < l.length ∧ l.length ≤ m + 1 ∧ ∀ w ∈ l, w.length ≤ m

theorem ref16cut (s : Str) (c : UInt8) (hs : s.length ≤ 1073741824) : Total Tryz.prog 122 [.str s, .int .u8 c.toNat] (isParts s.length) := by
  refine total122 rfl ?_
  refine cut (fun st => st.e 0 = .str s ∧ st.e 1 = .int .u8 c.toNat) (by simp) ?_
  rintro st ⟨g0, g1⟩
  refine cut (fun st => st.e 0 = .str s ∧ st.e 1 = .int .u8 c.toNat ∧ st.e 5 = .oslice 1 []) (by simp [g0, g1]) ?_
  rintro st ⟨g0, g1, g5⟩
  refine cut (fun st => st.e 0 = .str s ∧ st.e 1 = .int .u8 c.toNat ∧ st.e 5 = .oslice 1 [] ∧ st.e 6 = .int .i64 0) (by simp [g0, g1, g5]) ?_
  rintro st ⟨g0, g1, g5, g6⟩
  refine cut (fun st => st.e 0 = .str s ∧ ∃ (l : List Str) (j : Nat), st.e 5 = .oslice 1 (l.map .str) ∧ st.e 6 = .int .i64 j ∧ j ≤ s.length ∧ l.length ≤ s.length ∧ ∀ w ∈ l, w.length ≤ s.length) ?_ ?_
  rotate_left
  · rintro st ⟨g0, l, j, g5, g6, hj, hl, hw⟩
    simp [g0, g5, g6, hj]
    refine ⟨by omega, l ++ [s.drop j], by simp, by simp, by simp; omega, ?_⟩
    intro x hx
    rcases List.mem_append.1 hx with h | h
    · exact hw x h
    · simp at h; subst h; simp
  simp
  refine run_loop (fun st => st.e 0 = .str s ∧ st.e 1 = .int .u8 c.toNat ∧ ∃ (i j : Nat) (l : List Str), st.e 7 = .int .i64 i ∧ i ≤ s.length ∧ st.e 6 = .int .i64 j ∧ j ≤ i ∧ st.e 5 = .oslice 1 (l.map .str) ∧ l.length ≤ i ∧ ∀ w ∈ l, w.length ≤ s.length) (fun st => s.length - natOf (st.e 7)) ?_ ?_
  · simp [g0, g1, g5, g6]
    exact ⟨0, rfl, by omega, 0, rfl, by omega⟩
  · rintro st ⟨g0, g1, i, j, l, g7, hi, g6, hj, g5, hl, hw⟩
    by_cases hlt : i < s.length
    · have hws := wrap_succ (i := i) (by omega)
      by_cases c1 : (s[i].toNat : Int) = c.toNat
      · simp [g0, g1, g5, g6, g7, hlt, c1, hws]
        refine ⟨⟨hj, by omega⟩, by omega, ⟨i + 1, by omega, by omega, i + 1, by omega, by omega, l ++ [(s.take i).drop j], by simp, by simp; omega, ?_⟩, by omega⟩
        intro x hx
        rcases List.mem_append.1 hx with h | h
        · exact hw x h
        · simp at h; subst h; simp; omega
      · simp [g0, g1, g5, g6, g7, hlt, c1, hws]
        exact ⟨⟨i + 1, by omega, by omega, j, by omega, by omega, l, rfl, by omega, hw⟩, by omega⟩
    · simp [g0, g5, g6, g7, hlt]
      exact ⟨l, rfl, j, rfl, by omega, by omega, hw⟩

theorem ref16address (s : Str) (hs : s.length ≤ 1073741824) : Total Tryz.prog 131 [.str s] isBool := by
  refine total131 rfl ?_
  refine cut (fun st => st.e 0 = .str s) (by simp) ?_
  intro st g0
  obtain ⟨_, ⟨l, rfl, hl1, hl2, hw⟩, -, hc⟩ := ref16cut s 46 hs
  refine cut (fun st => st.e 3 = .slice 1 (l.map .str)) ?_ ?_
  · simp [g0]
    refine awpR_call _ (by simp) (by simpa using hc) rfl ?_
    simp
  intro st g3
  refine cut (fun st => st.e 3 = .slice 1 (l.map .str) ∧ l.length = 4) ?_ ?_
  · by_cases c1 : (l.length : Int) = 4
    · simp [g3, c1]; omega
    · simp [g3, c1]
  rintro st ⟨g3, h4⟩
  refine cut (fun st => True) ?_ (by intro st _; simp)
  simp
  refine run_loop (fun st => st.e 3 = .slice 1 (l.map .str) ∧ ∃ i : Nat, st.e 4 = .int .i64 i ∧ i ≤ 4) (fun st => 4 - natOf (st.e 4)) ?_ ?_
  · simp [g3]; exact ⟨0, rfl, by omega⟩
  · rintro st ⟨g3, i, g4, hi⟩
    by_cases hlt : (i : Int) < 4
    · have hlt2 : i < l.length := by omega
      have hws := wrap_succ (i := i) (by omega)
      simp [g3, g4, hlt, hlt2]
      have := hw l[i] (List.getElem_mem _)
      obtain ⟨_, ⟨n, e, rfl⟩, -, hc⟩ := ref01Count l[i] 255 (by omega)
      refine awpR_call _ (by simp) (by simpa [g3, g4, hlt2] using hc) rfl ?_
      by_cases c1 : e = 0
      · simp [g3, g4, c1, hws]
        exact ⟨⟨i + 1, by omega, by omega⟩, by omega⟩
      · simp [g3, g4, c1]
    · simp [g3, g4, hlt]

/-- A port. -/
abbrev portAV (h : Str) (o i : Int) (p : Str) : AV := .agg [.str h, .int .i64 o, .int .i64 i, .str p]

theorem ref16Right (h p : Str) (o i : Int) (hh : h.length ≤ 1073741824) : Total Tryz.prog 123 [portAV h o i p] isBool := by
  refine total123 rfl ?_
  refine cut (fun st => st.e 1 = portAV h o i p) (by simp) ?_
  intro st g1
  refine cut (fun st => st.e 1 = portAV h o i p) ?_ ?_
  · by_cases c1 : i < 1
    · simp [g1, c1]
    by_cases c2 : 65535 < i
    · simp [g1, c1, c2]
    by_cases c3 : o < 0
    · simp [g1, c1, c2, c3]
    by_cases c4 : 65535 < o
    · simp [g1, c1, c2, c3, c4]
    · simp [g1, c1, c2, c3, c4]
  intro st g1
  refine cut (fun st => st.e 1 = portAV h o i p) ?_ ?_
  · by_cases c1 : p = [116, 99, 112]
    · simp [g1, c1]
    by_cases c2 : p = [117, 100, 112]
    · simp [g1, c2]
    · simp [g1, c1, c2]
  intro st g1
  obtain ⟨_, ⟨b, rfl⟩, -, hc⟩ := ref16address h hh
  by_cases c1 : h = []
  · simp [g1, c1]
    refine awpR_ggcall (.bool true) (by simp) (by simp) (by simp) rfl ?_
    simp
  · simp [g1, c1]
    refine awpR_ggcall (.bool b) (by simp [c1]) (by simp) (fun _ => by simpa using hc) rfl ?_
    simp [c1]

theorem ref16Text (h p : Str) (o i : Int) (hh : h.length ≤ 1073741824) : Total Tryz.prog 109 [portAV h o i p] (isStr (h.length + 200)) := by
  refine total109 rfl ?_
  refine cut (fun st => st.e 1 = portAV h o i p) (by simp) ?_
  intro st g1
  obtain ⟨_, ⟨b, rfl⟩, -, hc⟩ := ref16Right h p o i hh
  refine cut (fun st => st.e 1 = portAV h o i p) ?_ ?_
  · simp [g1]
    refine awpR_call _ (by simp) (by simpa using hc) rfl ?_
    cases b <;> simp [g1]
  intro st g1
  refine cut (fun st => st.e 1 = portAV h o i p ∧ st.e 3 = .str []) (by simp [g1]) ?_
  rintro st ⟨g1, g3⟩
  refine cut (fun st => st.e 1 = portAV h o i p ∧ ∃ t : Str, st.e 3 = .str t ∧ t.length ≤ h.length + 1) ?_ ?_
  · by_cases c1 : 0 < h.length
    · simp [g1, g3, c1]; omega
    · simp [g1, g3, c1]
  rintro st ⟨g1, t, g3, ht⟩
  refine cut (fun st => st.e 1 = portAV h o i p ∧ ∃ t : Str, st.e 3 = .str t ∧ t.length ≤ h.length + 40) ?_ ?_
  · by_cases c1 : 0 < o
    · simp [g1, g3, c1]
      obtain ⟨_, ⟨u, rfl, hu⟩, -, hc⟩ := ref01Text o
      refine awpR_call _ (by simp) (by simpa using hc) rfl ?_
      simp [g1, g3]
      omega
    · by_cases c2 : 0 < h.length
      · simp [g1, g3, c1, c2]; omega
      · simp [g1, g3, c1, c2]; omega
  rintro st ⟨g1, t, g3, ht⟩
  refine cut (fun st => st.e 1 = portAV h o i p ∧ ∃ t : Str, st.e 3 = .str t ∧ t.length ≤ h.length + 80) ?_ ?_
  · simp [g1, g3]
    obtain ⟨_, ⟨u, rfl, hu⟩, -, hc⟩ := ref01Text i
    refine awpR_call _ (by simp) (by simpa using hc) rfl ?_
    simp [g1, g3]
    omega
  rintro st ⟨g1, t, g3, ht⟩
  by_cases c1 : p = [117, 100, 112]
  · simp [g1, g3, c1]; omega
  · simp [g1, g3, c1]; omega

def isPort (m : Nat) (r : AV) : Prop := ∃ (h p : Str) (o i e : Int), r = .tup [portAV h o i p, .int .i64 e] ∧ h.length ≤ m ∧ p.length ≤ m + 3
theorem isPort_mk {m : Nat} {h p : Str} {o i e : Int} (h1 : h.length ≤ m) (h2 : p.length ≤ m + 3) : isPort m (.tup [portAV h o i p, .int .i64 e]) := ⟨h, p, o, i, e, rfl, h1, h2⟩
@[simp] theorem isPort_no {m : Nat} {e : Int} : isPort m (.tup [.agg [.str [], .int .i64 0, .int .i64 0, .str []], .int .i64 e]) := isPort_mk (by simp) (by simp)
abbrev noPort : AV := .agg [.str [], .int .i64 0, .int .i64 0, .str []]

set_option maxHeartbeats 1000000 in
theorem ref16Parse (s : Str) (hs : s.length ≤ 1073741824) : Total Tryz.prog 108 [.str s] (isPort s.length) := by
  refine total108 rfl ?_
  refine cut (fun st => st.e 0 = .str s ∧ st.e 2 = noPort) (by simp) ?_
  rintro st ⟨g0, g2⟩
  refine cut (fun st => st.e 0 = .str s ∧ st.e 2 = noPort ∧ st.e 4 = portAV [] 0 0 [116, 99, 112]) (by simp [g0, g2]) ?_
  rintro st ⟨g0, g2, g4⟩
  refine cut (fun st => st.e 0 = .str s ∧ st.e 2 = noPort ∧ st.e 4 = portAV [] 0 0 [116, 99, 112] ∧ st.e 5 = .int .i64 s.length) (by simp [g0, g2, g4]) ?_
  rintro st ⟨g0, g2, g4, g5⟩
  refine cut (fun st => st.e 2 = noPort ∧ ∃ t p : Str, st.e 0 = .str t ∧ t.length ≤ s.length ∧ st.e 4 = portAV [] 0 0 p ∧ p.length ≤ s.length + 3) ?_ ?_
  · by_cases c1 : (4 : Int) < s.length
    · have h4 : IntKind.i64.wrap ((s.length : Int) - 4) = ((s.length - 4 : Nat) : Int) := by rw [wrap_int] <;> omega
      have h3 : IntKind.i64.wrap ((s.length : Int) - 3) = ((s.length - 3 : Nat) : Int) := by rw [wrap_int] <;> omega
      by_cases c2 : s.drop (s.length - 4) = [47, 116, 99, 112]
      · simp [g0, g2, g4, g5, c1, c2, h4, h3]; omega
      · by_cases c3 : s.drop (s.length - 4) = [47, 117, 100, 112]
        · simp [g0, g2, g4, g5, c1, c3, h4, h3]; omega
        · simp [g0, g2, g4, g5, c1, c2, c3, h4, h3]
    · simp [g0, g2, g4, g5, c1]
  rintro st ⟨g2, t, p, g0, ht, g4, hp⟩
  obtain ⟨_, ⟨l, rfl, hl1, hl2, hw⟩, -, hc⟩ := ref16cut t 58 (by omega)
  refine cut (fun st => st.e 2 = noPort ∧ st.e 4 = portAV [] 0 0 p ∧ st.e 6 = .slice 1 (l.map .str)) ?_ ?_
  · simp [g0]
    refine awpR_call _ (by simp) (by simpa using hc) rfl ?_
    simp [g2, g4]
  rintro st ⟨g2, g4, g6⟩
  refine cut (fun st => st.e 2 = noPort ∧ st.e 4 = portAV [] 0 0 p ∧ st.e 6 = .slice 1 (l.map .str) ∧ st.e 7 = .int .i64 l.length) (by simp [g2, g4, g6]) ?_
  rintro st ⟨g2, g4, g6, g7⟩
  refine cut (fun st => st.e 2 = noPort ∧ st.e 4 = portAV [] 0 0 p ∧ st.e 6 = .slice 1 (l.map .str) ∧ st.e 7 = .int .i64 l.length ∧ l.length ≤ 3) ?_ ?_
  · by_cases c1 : (3 : Int) < l.length
    · simp [g2, g4, g6, g7, c1]
    · by_cases c2 : (l.length : Int) = 3
      · by_cases c3 : l[0] = []
        · simp [g2, g4, g6, g7, c1, c2, c3, hl1]
        · have c3' : 0 < l[0].length := List.length_pos_iff.2 c3
          simp [g2, g4, g6, g7, c1, c2, c3, c3', hl1]
          omega
      · simp [g2, g4, g6, g7, c1, c2]
        omega
  rintro st ⟨g2, g4, g6, g7, h3⟩
  have hk1 : IntKind.i64.wrap ((l.length : Int) - 1) = ((l.length - 1 : Nat) : Int) := by rw [wrap_int] <;> omega
  have hk2 : IntKind.i64.wrap ((l.length : Int) - 2) = (l.length : Int) - 2 := by rw [wrap_int] <;> omega
  have hlt1 : l.length - 1 < l.length := by omega
  obtain ⟨_, ⟨n, e, rfl⟩, -, hc⟩ := ref01Count (l[l.length - 1]) 65535 (by have := hw _ (List.getElem_mem hlt1); omega)
  refine cut (fun st => st.e 2 = noPort ∧ st.e 4 = portAV [] 0 0 p ∧ st.e 6 = .slice 1 (l.map .str) ∧ st.e 7 = .int .i64 l.length ∧ st.e 8 = .int .i64 n ∧ st.e 9 = .int .i64 e) ?_ ?_
  · simp [g6, g7, hk1, hlt1]
    refine awpR_call _ (by simp) (by simpa [g6, g7, hk1, hlt1] using hc) rfl ?_
    simp [g2, g4, g6, g7]
  rintro st ⟨g2, g4, g6, g7, g8, g9⟩
  refine cut (fun st => st.e 2 = noPort ∧ st.e 4 = portAV [] 0 n p ∧ st.e 6 = .slice 1 (l.map .str) ∧ st.e 7 = .int .i64 l.length ∧ st.e 9 = .int .i64 e) (by simp [g2, g4, g6, g7, g8, g9]) ?_
  rintro st ⟨g2, g4, g6, g7, g9⟩
  refine cut (fun st => st.e 2 = noPort ∧ ∃ o, st.e 4 = portAV [] o n p ∧ st.e 6 = .slice 1 (l.map .str) ∧ st.e 7 = .int .i64 l.length ∧ st.e 9 = .int .i64 e) ?_ ?_
  · have hrest : ∀ s0 : St, 2 ≤ l.length → s0.e 2 = noPort → s0.e 4 = portAV [] 0 n p → s0.e 6 = .slice 1 (l.map .str) → s0.e 7 = .int .i64 l.length → s0.e 9 = .int .i64 e →
        awp Tryz.prog c108s25 (unw Tryz.prog [.lp (fun st => st.e 2 = noPort ∧ ∃ o, st.e 4 = portAV [] o n p ∧ st.e 6 = .slice 1 (l.map .str) ∧ st.e 7 = .int .i64 l.length ∧ st.e 9 = .int .i64 e), .code c108s37] (EndsP [.cell 2 (some 4), .tmp 3] (isPort s.length))) s0 := by
      intro s0 h2 g2 g4 g6 g7 g9
      have hk2 : IntKind.i64.wrap ((l.length : Int) - 2) = ((l.length - 2 : Nat) : Int) := by rw [wrap_int] <;> omega
      have hlt2 : l.length - 2 < l.length := by omega
      obtain ⟨_, ⟨m, f, rfl⟩, -, hc⟩ := ref01Count (l[l.length - 2]) 65535 (by have := hw _ (List.getElem_mem hlt2); omega)
      simp [g6, g7, hk2, hlt2]
      refine awpR_call _ (by simp) (by simpa [g6, g7, hk2, hlt2] using hc) rfl ?_
      by_cases c1 : f = 0
      · by_cases c2 : m = 0
        · simp [g2, g4, g6, g7, g9, c1, c2]
        · simp [g2, g4, g6, g7, g9, c1, c2]
      · simp [g2, g4, g6, g7, g9, c1]
    by_cases c1 : (1 : Int) < l.length
    · by_cases c2 : (l.length : Int) = 2
      · refine cut (fun s0 => s0 = put st 85 (.bool true)) ?_ ?_
        · simp [g2, g4, g6, g7, g9, c1, c2]
        rintro _ rfl
        rw [run_cond]
        refine ⟨true, by simp, fun _ => hrest _ (by omega) ?_ ?_ ?_ ?_ ?_, fun h => by cases h⟩ <;> simp [g2, g4, g6, g7, g9]
      · have hlt3 : 1 < l.length := by omega
        by_cases c3 : 0 < l[1].length
        · refine cut (fun s0 => s0 = put st 85 (.bool true)) ?_ ?_
          · simp [g2, g4, g6, g7, g9, c1, c2, c3, hlt3]
          rintro _ rfl
          rw [run_cond]
          refine ⟨true, by simp, fun _ => hrest _ (by omega) ?_ ?_ ?_ ?_ ?_, fun h => by cases h⟩ <;> simp [g2, g4, g6, g7, g9]
        · simp [g2, g4, g6, g7, g9, c1, c2, c3, hlt3]
    · simp [g2, g4, g6, g7, g9, c1]
  rintro st ⟨g2, o, g4, g6, g7, g9⟩
  refine cut (fun st => st.e 2 = noPort ∧ ∃ h : Str, st.e 4 = portAV h o n p ∧ h.length ≤ t.length ∧ st.e 9 = .int .i64 e) ?_ ?_
  · by_cases c1 : (l.length : Int) = 3
    · simp [g2, g4, g6, g7, g9, c1, hl1]
      exact hw _ (List.getElem_mem _)
    · simp [g2, g4, g6, g7, g9, c1]
  rintro st ⟨g2, h, g4, hh, g9⟩
  obtain ⟨_, ⟨b, rfl⟩, -, hc⟩ := ref16Right h p o n (by omega)
  refine cut (fun st => st.e 2 = noPort ∧ st.e 4 = portAV h o n p) ?_ ?_
  · by_cases c1 : e = 0
    · simp [g4, g9, c1]
      refine awpR_ggcall (.bool b) (by simp) (by simp) (fun _ => by simpa using hc) rfl ?_
      cases b <;> simp [g2, g4]
    · simp [g4, g9, c1]
      refine awpR_ggcall (.bool b) (by simp [c1]) (by simp) (by simp) rfl ?_
      simp [g2, c1]
  rintro st ⟨g2, g4⟩
  simp [g2, g4]
  exact isPort_mk (by omega) hp

end Go.Proofs.YtccmaeefedgcnaaGreat

namespace Go.Proofs.YtccmaeefedgcnaaGreat

def isPath (m : Nat) (r : AV) : Prop := ∃ b, r = .bool b ∧ (b = true → 0 < m)
@[simp] theorem isPath_false {m : Nat} : isPath m (.bool false) := ⟨false, rfl, by simp⟩
theorem isPath_true {m : Nat} (h : 0 < m) : isPath m (.bool true) := ⟨true, rfl, fun _ => h⟩

theorem ref17path (s : Str) : Total Tryz.prog 125 [.str s] (isPath s.length) := by
  refine total125 rfl ?_
  refine cut (fun st => st.e 0 = .str s) (by simp) ?_
  intro st g0
  refine cut (fun st => st.e 0 = .str s ∧ 0 < s.length ∧ s.length ≤ 64) ?_ ?_
  · by_cases c1 : (s.length : Int) < 1
    · simp [g0, c1]
    by_cases c2 : (64 : Int) < s.length
    · simp [g0, c1, c2]
    · simp [g0, c1, c2]; omega
  rintro st ⟨g0, hs1, hs2⟩
  refine cut (fun st => True) ?_ (fun st _ => by simp; exact isPath_true hs1)
  simp
  refine run_loop (fun st => st.e 0 = .str s ∧ ∃ i : Nat, st.e 3 = .int .i64 i ∧ i ≤ s.length) (fun st => s.length - natOf (st.e 3)) ?_ ?_
  · simp [g0]; exact ⟨0, rfl, by omega⟩
  · rintro st ⟨g0, i, g3, hi⟩
    by_cases hlt : i < s.length
    · have hws := wrap_succ (i := i) (by omega)
      by_cases c1 : (s[i].toNat : Int) = 47
      · simp [g0, g3, hlt, c1]
        refine awpR_ggcall (.int .i64 0) (by simp) (by simp) (by simp) rfl ?_
        simp [g0, g3, hws]
        exact ⟨⟨i + 1, by omega, by omega⟩, by omega⟩
      · simp [g0, g3, hlt, c1]
        refine awpR_ggcall _ (by simp [c1]) (by simp) (fun _ => by simpa [hlt] using ref02Kind s[i]) rfl ?_
        by_cases c2 : kind2 s[i] = 0
        · simp [g0, g3, c1, c2]
        · simp [g0, g3, hws, c1, c2]
          exact ⟨⟨i + 1, by omega, by omega⟩, by omega⟩
    · simp [g0, g3, hlt]

theorem ref17target (s : Str) (hs : s.length ≤ 1073741824) : Total Tryz.prog 124 [.str s] isBool := by
  refine total124 rfl ?_
  refine cut (fun st => st.e 0 = .str s) (by simp) ?_
  intro st g0
  obtain ⟨_, ⟨b, rfl, hb⟩, -, hc⟩ := ref17path s
  refine cut (fun st => st.e 0 = .str s ∧ 0 < s.length) ?_ ?_
  · simp [g0]
    refine awpR_call _ (by simp) (by simpa using hc) rfl ?_
    cases b
    · simp
    · have := hb rfl
      by_cases c1 : (s[0].toNat : Int) = 47
      · simp [g0, this, c1]
      · simp [g0, this, c1]
  rintro st ⟨g0, hp⟩
  refine cut (fun st => st.e 0 = .str s) ?_ ?_
  · by_cases c1 : s = [47] <;> simp [g0, c1]
  intro st g0
  refine cut (fun st => st.e 0 = .str s ∧ st.e 3 = .int .i64 1) (by simp [g0]) ?_
  rintro st ⟨g0, g3⟩
  refine cut (fun st => True) ?_ (fun st _ => by simp)
  simp
  refine run_loop (fun st => st.e 0 = .str s ∧ ∃ i j : Nat, st.e 4 = .int .i64 i ∧ i ≤ s.length + 1 ∧ st.e 3 = .int .i64 j ∧ j ≤ i) (fun st => s.length + 1 - natOf (st.e 4)) ?_ ?_
  · simp [g0, g3]; exact ⟨1, rfl, by omega, 1, rfl, by omega⟩
  · rintro st ⟨g0, i, j, g4, hi, g3, hj⟩
    by_cases hle : i ≤ s.length
    rotate_left
    · simp [g0, g3, g4, hle]
    have hws := wrap_succ (i := i) (by omega)
    have hrest : ∀ s0 : St, s0.e 0 = .str s → s0.e 4 = .int .i64 i → s0.e 3 = .int .i64 j → awp Tryz.prog c124s22 (unw Tryz.prog [.blk 1, .lp (fun st => st.e 0 = .str s ∧ st.e 4 = .int .i64 i ∧ ∃ j : Nat, st.e 3 = .int .i64 j ∧ j ≤ i + 1), .code (.reg c124r24 [4]), .lp (fun s' => (s'.e 0 = .str s ∧ ∃ i j : Nat, s'.e 4 = .int .i64 i ∧ i ≤ s.length + 1 ∧ s'.e 3 = .int .i64 j ∧ j ≤ i) ∧ s.length + 1 - natOf (s'.e 4) < s.length + 1 - natOf (st.e 4)), .blk 0, .lp (fun _ => True), .code c124s30] (EndsP [.tmp 2] isBool)) s0 := by
      intro s0 f0 f4 f3
      refine cut (fun st => st.e 0 = .str s ∧ st.e 4 = .int .i64 i ∧ st.e 5 = .str ((s.take i).drop j)) ?_ ?_
      · simp [f0, f3, f4, hj, hle]
      rintro s0 ⟨f0, f4, f5⟩
      generalize (s.take i).drop j = q at *
      by_cases c1 : q = []
      · simp [f5, c1]
      by_cases c2 : q = [46]
      · simp [f5, c2]
      by_cases c3 : q = [46, 46]
      · simp [f5, c3]
      · simp [f0, f4, f5, c1, c2, c3, hws]
        exact ⟨i + 1, by omega, by omega⟩
    refine cut (fun st' => st' = put st 19 (.bool true)) (by simp [g0, g4, hle]) ?_
    rintro _ rfl
    refine cut (fun st => st.e 0 = .str s ∧ st.e 4 = .int .i64 i ∧ ∃ j : Nat, st.e 3 = .int .i64 j ∧ j ≤ i + 1) ?_ ?_
    rotate_left
    · rintro s0 ⟨f0, f4, j, f3, hj⟩
      simp [f0, f4, f3, g4, hws]
      exact ⟨⟨i + 1, by omega, by omega, j, rfl, hj⟩, by omega⟩
    rw [run_block]
    by_cases hlt : i < s.length
    · by_cases c1 : (s[i].toNat : Int) = 47
      · refine cut (fun st' => st'.e 0 = .str s ∧ st'.e 4 = .int .i64 i ∧ st'.e 3 = .int .i64 j) ?_ ?_
        · simp [g0, g3, g4, hlt, c1]
        rintro s0 ⟨f0, f4, f3⟩
        exact hrest s0 f0 f4 f3
      · simp [g0, g3, g4, hlt, c1]
        exact ⟨j, rfl, by omega⟩
    · refine cut (fun st' => st'.e 0 = .str s ∧ st'.e 4 = .int .i64 i ∧ st'.e 3 = .int .i64 j) ?_ ?_
      · simp [g0, g3, g4, hlt]
      rintro s0 ⟨f0, f4, f3⟩
      exact hrest s0 f0 f4 f3

/-- A mount. -/
abbrev mountAV (a b : Str) (c : Bool) : AV := .agg [.str a, .str b, .bool c]

theorem ref17Right (a b : Str) (c : Bool) (ha : a.length ≤ 1073741824) (hb : b.length ≤ 1073741824) : Total Tryz.prog 111 [mountAV a b c] isBool := by
  refine total111 rfl ?_
  refine cut (fun st => st.e 1 = mountAV a b c) (by simp) ?_
  intro st g1
  obtain ⟨_, ⟨x, rfl⟩, -, hc⟩ := ref17target b hb
  refine cut (fun st => st.e 1 = mountAV a b c) ?_ ?_
  · simp [g1]
    refine awpR_call _ (by simp) (by simpa using hc) rfl ?_
    cases x <;> simp [g1]
  intro st g1
  refine cut (fun st => st.e 3 = .str a) (by simp [g1]) ?_
  intro st g3
  refine cut (fun st => st.e 3 = .str a) ?_ ?_
  · by_cases c1 : a = []
    · simp [g3, c1]
      refine awpR_ggcall (.bool true) (by simp) (by simp) (by simp) rfl ?_
      simp
    · simp [g3, c1]
      refine awpR_ggcall _ (by simp [c1]) (by simp) (fun _ => by simpa using ref02Service a) rfl ?_
      by_cases c2 : serviceName a = true
      · simp [c1, c2]
      · have c2 : serviceName a = false := by simpa using c2
        simp [g3, c1, c2]
  intro st g3
  obtain ⟨_, ⟨y, rfl, hy⟩, -, hc⟩ := ref17path a
  simp [g3]
  refine awpR_call _ (by simp) (by simpa using hc) rfl ?_
  cases y
  · simp
  · have := hy rfl
    by_cases c1 : (a[0].toNat : Int) = 47
    · simp [g3, this, c1]
    · by_cases c2 : (a[0].toNat : Int) = 46
      · simp [g3, this, c1, c2]
      · simp [g3, this, c1, c2]

theorem ref17Text (a b : Str) (c : Bool) (ha : a.length ≤ 1073741824) (hb : b.length ≤ 1073741824) : Total Tryz.prog 81 [mountAV a b c] (isStr (a.length + b.length + 10)) := by
  refine total81 rfl ?_
  refine cut (fun st => st.e 1 = mountAV a b c) (by simp) ?_
  intro st g1
  obtain ⟨_, ⟨x, rfl⟩, -, hc⟩ := ref17Right a b c ha hb
  refine cut (fun st => st.e 1 = mountAV a b c) ?_ ?_
  · simp [g1]
    refine awpR_call _ (by simp) (by simpa using hc) rfl ?_
    cases x <;> simp [g1]
  intro st g1
  refine cut (fun st => st.e 1 = mountAV a b c ∧ st.e 3 = .str b) (by simp [g1]) ?_
  rintro st ⟨g1, g3⟩
  refine cut (fun st => st.e 1 = mountAV a b c ∧ ∃ t : Str, st.e 3 = .str t ∧ t.length ≤ a.length + b.length + 1) ?_ ?_
  · by_cases c1 : 0 < a.length
    · simp [g1, g3, c1]; omega
    · simp [g1, g3, c1]; omega
  rintro st ⟨g1, t, g3, ht⟩
  cases c
  · simp [g1, g3]; omega
  · simp [g1, g3]; omega

def isMount (m : Nat) (r : AV) : Prop := ∃ (a b : Str) (c : Bool) (e : Int), r = .tup [mountAV a b c, .int .i64 e] ∧ a.length ≤ m ∧ b.length ≤ m
theorem isMount_mk {m : Nat} {a b : Str} {c : Bool} {e : Int} (h1 : a.length ≤ m) (h2 : b.length ≤ m) : isMount m (.tup [mountAV a b c, .int .i64 e]) := ⟨a, b, c, e, rfl, h1, h2⟩
@[simp] theorem isMount_no {m : Nat} {e : Int} : isMount m (.tup [.agg [.str [], .str [], .bool false], .int .i64 e]) := isMount_mk (by simp) (by simp)
abbrev noMount : AV := .agg [.str [], .str [], .bool false]

set_option maxHeartbeats 1000000 in
theorem ref17Parse (s : Str) (hs : s.length ≤ 1073741824) : Total Tryz.prog 110 [.str s] (isMount s.length) := by
  refine total110 rfl ?_
  refine cut (fun st => st.e 0 = .str s ∧ st.e 2 = noMount) (by simp) ?_
  rintro st ⟨g0, g2⟩
  refine cut (fun st => st.e 0 = .str s ∧ st.e 2 = noMount ∧ st.e 4 = noMount) (by simp [g0, g2]) ?_
  rintro st ⟨g0, g2, g4⟩
  refine cut (fun st => st.e 0 = .str s ∧ st.e 2 = noMount ∧ st.e 4 = noMount ∧ st.e 5 = .int .i64 s.length) (by simp [g0, g2, g4]) ?_
  rintro st ⟨g0, g2, g4, g5⟩
  refine cut (fun st => st.e 2 = noMount ∧ ∃ (t : Str) (x : Bool), st.e 0 = .str t ∧ t.length ≤ s.length ∧ st.e 4 = mountAV [] [] x) ?_ ?_
  · by_cases c1 : (3 : Int) ≤ s.length
    · have h3 : IntKind.i64.wrap ((s.length : Int) - 3) = ((s.length - 3 : Nat) : Int) := by rw [wrap_int] <;> omega
      have h1 : IntKind.i64.wrap ((s.length : Int) - 1) = ((s.length - 1 : Nat) : Int) := by rw [wrap_int] <;> omega
      have hlt : s.length - 1 < s.length := by omega
      by_cases c2 : s.drop (s.length - 3) = [58, 114, 111]
      · simp [g0, g2, g4, g5, c1, c2, h1, h3, hlt]
        exact (Classical.em _).symm
      · by_cases c3 : s.drop (s.length - 3) = [58, 114, 119]
        · simp [g0, g2, g4, g5, c1, c3, h1, h3, hlt]
          exact (Classical.em _).symm
        · simp [g0, g2, g4, g5, c1, c2, c3, h3]
    · simp [g0, g2, g4, g5, c1]
  rintro st ⟨g2, t, x, g0, ht, g4⟩
  refine cut (fun st => st.e 2 = noMount ∧ st.e 0 = .str t ∧ st.e 4 = mountAV [] [] x ∧ st.e 6 = .int .i64 (-1)) (by simp [g0, g2, g4]) ?_
  rintro st ⟨g2, g0, g4, g6⟩
  refine cut (fun st => st.e 2 = noMount ∧ st.e 0 = .str t ∧ st.e 4 = mountAV [] [] x ∧ st.e 6 = .int .i64 (-1) ∧ st.e 7 = .int .i64 0) (by simp [g0, g2, g4, g6]) ?_
  rintro st ⟨g2, g0, g4, g6, g7⟩
  refine cut (fun st => st.e 2 = noMount ∧ st.e 0 = .str t ∧ st.e 4 = mountAV [] [] x ∧ ((st.e 6 = .int .i64 (-1) ∧ st.e 7 = .int .i64 0) ∨ ∃ k c : Nat, st.e 6 = .int .i64 k ∧ k < t.length ∧ st.e 7 = .int .i64 c ∧ 0 < c)) ?_ ?_
  · simp
    refine run_loop (fun st => st.e 2 = noMount ∧ st.e 0 = .str t ∧ st.e 4 = mountAV [] [] x ∧ ∃ i : Nat, st.e 8 = .int .i64 i ∧ i ≤ t.length ∧ ((st.e 6 = .int .i64 (-1) ∧ st.e 7 = .int .i64 0) ∨ ∃ k c : Nat, st.e 6 = .int .i64 k ∧ k < t.length ∧ st.e 7 = .int .i64 c ∧ 0 < c ∧ c ≤ i)) (fun st => t.length - natOf (st.e 8)) ?_ ?_
    · simp [g0, g2, g4, g6, g7]; exact ⟨0, rfl, by omega⟩
    · rintro st ⟨g2, g0, g4, i, g8, hi, h⟩
      by_cases hlt : i < t.length
      · have hws := wrap_succ (i := i) (by omega)
        by_cases c1 : (t[i].toNat : Int) = 58
        · rcases h with ⟨g6, g7⟩ | ⟨k, c, g6, hk, g7, hc, hci⟩
          · simp [g0, g2, g4, g6, g7, g8, hlt, c1, hws]
            exact ⟨⟨i + 1, by omega, by omega, i, rfl, hlt, 1, rfl, by omega, by omega⟩, by omega⟩
          · have hwc := wrap_succ (i := c) (by omega)
            simp [g0, g2, g4, g6, g7, g8, hlt, c1, hws, hwc]
            exact ⟨⟨i + 1, by omega, by omega, i, rfl, hlt, c + 1, by omega, by omega, by omega⟩, by omega⟩
        · rcases h with ⟨g6, g7⟩ | ⟨k, c, g6, hk, g7, hc, hci⟩
          · simp [g0, g2, g4, g6, g7, g8, hlt, c1, hws]
            exact ⟨⟨i + 1, by omega, by omega⟩, by omega⟩
          · simp [g0, g2, g4, g6, g7, g8, hlt, c1, hws]
            exact ⟨⟨i + 1, by omega, by omega, k, rfl, hk, c, rfl, by omega, by omega⟩, by omega⟩
      · rcases h with ⟨g6, g7⟩ | ⟨k, c, g6, hk, g7, hc, hci⟩
        · simp [g0, g2, g4, g6, g7, g8, hlt]
        · simp [g0, g2, g4, g6, g7, g8, hlt]
          exact ⟨k, rfl, hk, c, rfl, hc⟩
  rintro st ⟨g2, g0, g4, h⟩
  refine cut (fun st => st.e 2 = noMount ∧ st.e 0 = .str t ∧ st.e 4 = mountAV [] [] x ∧ ((st.e 6 = .int .i64 (-1) ∧ st.e 7 = .int .i64 0) ∨ ∃ k : Nat, st.e 6 = .int .i64 k ∧ k < t.length ∧ st.e 7 = .int .i64 1)) ?_ ?_
  · rcases h with ⟨g6, g7⟩ | ⟨k, c, g6, hk, g7, hc⟩
    · simp [g0, g2, g4, g6, g7]
    · by_cases c1 : (1 : Int) < c
      · simp [g0, g2, g4, g6, g7, c1]
      · have : c = 1 := by omega
        subst this
        by_cases c2 : k = 0
        · simp [g0, g2, g4, g6, g7, c2]
        · simp [g0, g2, g4, g6, g7, c2]
          exact ⟨k, rfl, hk⟩
  rintro st ⟨g2, g0, g4, h⟩
  refine cut (fun st => st.e 2 = noMount ∧ st.e 0 = .str t ∧ ∃ a : Str, st.e 4 = mountAV a [] x ∧ a.length ≤ t.length ∧ (st.e 6 = .int .i64 (-1) ∨ ∃ k : Nat, st.e 6 = .int .i64 k ∧ k < t.length)) ?_ ?_
  · rcases h with ⟨g6, g7⟩ | ⟨k, g6, hk, g7⟩
    · simp [g0, g2, g4, g6, g7]
    · simp [g0, g2, g4, g6, g7]
      exact ⟨by omega, by omega, k, rfl, hk⟩
  rintro st ⟨g2, g0, a, g4, ha, h⟩
  refine cut (fun st => st.e 2 = noMount ∧ ∃ b : Str, st.e 4 = mountAV a b x ∧ b.length ≤ t.length) ?_ ?_
  · rcases h with g6 | ⟨k, g6, hk⟩
    · have w0 : IntKind.i64.wrap 0 = 0 := by decide
      simp [g0, g2, g4, g6, w0]
    · have hws := wrap_succ (i := k) (by omega)
      simp [g0, g2, g4, g6, hws]
      omega
  rintro st ⟨g2, b, g4, hb⟩
  obtain ⟨_, ⟨y, rfl⟩, -, hc⟩ := ref17Right a b x (by omega) (by omega)
  refine cut (fun st => st.e 2 = noMount ∧ st.e 4 = mountAV a b x) ?_ ?_
  · simp [g4]
    refine awpR_call _ (by simp) (by simpa using hc) rfl ?_
    cases y <;> simp [g2, g4]
  rintro st ⟨g2, g4⟩
  simp [g2, g4]
  exact isMount_mk (by omega) (by omega)

end Go.Proofs.YtccmaeefedgcnaaGreat
