/-
  CONTRACTS: longshoreref01, what is needed to know that the rest ends.
  CONTRACTS: longshoreref04.
  CONTRACTS: longshoreref03.
  CONTRACTS: longshoreref03.Parse, Text.
  CONTRACTS: longshoreref15.
-/
import Derived.Test.YtccmaeefedgcnaaGreatPart12
import Derived.Test.YtccmaeefedgcnaaGreatPart09
set_option linter.all false

namespace Go.Proofs.YtccmaeefedgcnaaGreat

def digitAt (c : UInt8) : Bool := decide (48 ≤ (c.toNat : Int)) && decide ((c.toNat : Int) ≤ 57)
/-- longshoreref01.Whole. -/
def wholeText (s : Str) : Bool := decide (¬ s = [] ∧ ¬ ((1 : Int) < s.length ∧ (((s[0]?).getD 0).toNat : Int) = 48) ∧ ∀ j (h : j < s.length), digitAt s[j] = true)

theorem ref01Whole (s : Str) (hl : s.length ≤ 4611686018427387903) : Sound Tryz.prog 101 [.str s] (.bool (wholeText s)) := by
  refine sound101 rfl ?_
  by_cases he : s = []
  · subst he; simp [wholeText]
  have hno : ((1 : Int) < s.length ∧ (((s[0]?).getD 0).toNat : Int) = 48) → wholeText s = false := fun h => by
    simp only [wholeText, decide_eq_false_iff_not]; exact fun h2 => h2.2.1 h
  have hloop : ¬ ((1 : Int) < s.length ∧ (((s[0]?).getD 0).toNat : Int) = 48) → ∀ s0 : St, s0.e 0 = .str s → s0.e 3 = .int .i64 0 →
      awp Tryz.prog c101s16 (unw Tryz.prog [.blk 0, .code c101s19] (Ends [.tmp 2] (.bool (wholeText s)))) s0 := by
    intro hn s0 f0 f3
    refine run_loop (fun st => st.e 0 = .str s ∧ ∃ i : Nat, st.e 3 = .int .i64 i ∧ i ≤ s.length ∧ ∀ j (h : j < s.length), j < i → digitAt s[j] = true) (fun st => s.length - natOf (st.e 3)) ?_ ?_
    · exact ⟨f0, 0, f3, by omega, by simp⟩
    · rintro st ⟨g0, i, g3, hi, hj⟩
      by_cases hlt : i < s.length
      · have hw := wrap_succ (i := i) (by omega)
        have hbad : digitAt s[i] = false → wholeText s = false := fun h => by
          simp only [wholeText, decide_eq_false_iff_not]; intro h2; rw [h2.2.2 i hlt] at h; cases h
        by_cases c1 : (s[i].toNat : Int) < 48
        · simp [g0, g3, hlt, c1, hbad (by simp [digitAt]; omega)]
        · by_cases c2 : (57 : Int) < s[i].toNat
          · simp [g0, g3, hlt, c1, c2, hbad (by simp [digitAt]; omega)]
          · simp [g0, g3, hlt, c1, c2]
            rw [hw]
            refine ⟨⟨i + 1, rfl, by omega, fun j hj1 hj2 => ?_⟩, by omega⟩
            rcases Nat.lt_succ_iff_lt_or_eq.1 hj2 with h | rfl
            · exact hj j hj1 h
            · simp [digitAt]; omega
      · have : i = s.length := by omega
        subst this
        have : wholeText s = true := by
          simp only [wholeText, decide_eq_true_eq]; exact ⟨he, hn, fun j h => hj j h h⟩
        simp [g0, g3, this]
  by_cases c1 : (1 : Int) < s.length
  · have hp : 0 < s.length := by omega
    have e0 : (s[0]?).getD 0 = s[0] := by simp [hp]
    rw [e0] at hno hloop
    by_cases c2 : (s[0].toNat : Int) = 48
    · simp [he, c1, c2, hp, hno ⟨c1, c2⟩]
    · simp [he, c1, c2, hp]
      apply hloop (fun h => c2 h.2) <;> simp
  · simp [he, c1]
    apply hloop (fun h => c1 h.1) <;> simp

theorem ref01Count (s : Str) (most : Int) (hl : s.length ≤ 4611686018427387903) : Total Tryz.prog 75 [.str s, .int .i64 most] isInt2 := by
  refine total75 rfl ?_
  by_cases c1 : most < 0
  · simp [c1]
  simp [c1]
  refine awpR_call _ (by simp) (by simpa using ref01Whole s hl) rfl ?_
  by_cases c2 : wholeText s = true
  rotate_left
  · have c2 : wholeText s = false := by simpa using c2
    simp [c2]
  by_cases c3 : (19 : Int) < s.length
  · simp [c2, c3]
  simp [c2, c3]
  refine run_loop (fun st => st.e 0 = .str s ∧ st.e 1 = .int .i64 most ∧ ∃ i : Nat, ∃ u, st.e 7 = .int .i64 i ∧ i ≤ s.length ∧ st.e 6 = .int .u64 u) (fun st => s.length - natOf (st.e 7)) ?_ ?_
  · simp; exact ⟨0, rfl, by omega⟩
  · rintro st ⟨g0, g1, i, u, g7, hi, g6⟩
    by_cases hlt : i < s.length
    · have hw := wrap_succ (i := i) (by omega)
      simp [g0, g1, g6, g7, hlt]
      rw [hw]
      exact ⟨⟨i + 1, rfl, hlt⟩, by omega⟩
    · simp [g0, g1, g6, g7, hlt]

theorem ref01Value (s : Str) (hl : s.length ≤ 4611686018427387903) : Total Tryz.prog 102 [.str s] isInt := by
  refine total102 rfl ?_
  simp
  refine run_loop (fun st => st.e 0 = .str s ∧ ∃ i : Nat, ∃ u, st.e 4 = .int .i64 i ∧ i ≤ s.length ∧ st.e 3 = .int .i64 u) (fun st => s.length - natOf (st.e 4)) ?_ ?_
  · simp; exact ⟨0, rfl, by omega⟩
  · rintro st ⟨g0, i, u, g4, hi, g3⟩
    by_cases hlt : i < s.length
    · have hw := wrap_succ (i := i) (by omega)
      simp [g0, g3, g4, hlt]
      rw [hw]
      exact fun _ => ⟨⟨i + 1, rfl, hlt⟩, by omega⟩
    · simp [g0, g3, g4, hlt]

theorem ref01digits (u : Int) (hu : 0 ≤ u ∧ u < 18446744073709551616) : Total Tryz.prog 115 [.int .u64 u] (isStr 30) := by
  refine total115 rfl ?_
  simp
  refine run_loop (fun st => ∃ u : Int, ∃ s : Str, st.e 0 = .int .u64 u ∧ st.e 3 = .str s ∧ 0 ≤ u ∧ u < 18446744073709551616 ∧ s.length ≤ 20 ∧ u < 10 ^ (20 - s.length)) (fun st => natOf (st.e 0)) ?_ ?_
  · simp; omega
  · rintro st ⟨u, s, g0, g3, hu, hu2, hs, hb⟩
    by_cases h10 : 10 ≤ u
    · have hq : IntKind.u64.wrap (u.tdiv 10) = u / 10 := by rw [tdiv10 hu, wrap_u64 (by omega) (by omega)]
      have hs2 : s.length ≤ 18 := by
        apply Classical.byContradiction
        intro hh
        have : s.length = 19 ∨ s.length = 20 := by omega
        rcases this with e | e <;> rw [e] at hb <;> simp at hb <;> omega
      have hpow : u / 10 < 10 ^ (20 - (s.length + 1)) := by
        have e : 20 - s.length = 20 - (s.length + 1) + 1 := by omega
        rw [e, Int.pow_succ] at hb
        omega
      simp [g0, g3, h10, hq]
      exact ⟨by omega, ⟨by omega, by omega, by omega, by simpa using hpow⟩, by omega⟩
    · simp [g0, g3, h10]
      omega

theorem ref01Text (n : Int) : Total Tryz.prog 89 [.int .i64 n] (isStr 31) := by
  refine total89 rfl ?_
  by_cases h0 : n < 0
  · simp [h0]
    obtain ⟨_, ⟨s, rfl, hs⟩, -, hc⟩ := ref01digits (IntKind.u64.wrap (0 - IntKind.u64.wrap n)) (wrap_u64_range _)
    refine awpR_call (.str s) (by simp) (by simpa using hc) rfl ?_
    simp
    omega
  · simp [h0]
    obtain ⟨_, ⟨s, rfl, hs⟩, -, hc⟩ := ref01digits (IntKind.u64.wrap n) (wrap_u64_range _)
    refine awpR_call (.str s) (by simp) (by simpa using hc) rfl ?_
    simp
    omega

set_option maxHeartbeats 1000000 in
theorem milli_tail (s t : Str) (i : Nat) (hi : i ≤ s.length) (hs : s.length ≤ 1073741824) (ht : t.length ≤ 1073741824) (s0 : St) (f0 : s0.e 0 = .str s) (f4 : s0.e 4 = .int .i64 i) (f5 : s0.e 5 = .str t) :
    awp Tryz.prog c71s52 (unw Tryz.prog [] (EndsP [.tmp 2, .tmp 3] isInt2)) s0 := by
  have hm : min i s.length = i := by omega
  simp [f0, f4, f5, hi]
  refine awpR_call _ (by simp) (by simpa [f0, f4] using ref01Whole (s.take i) (by simp; omega)) rfl ?_
  by_cases hw : wholeText (s.take i) = true
  rotate_left
  · have hw : wholeText (s.take i) = false := by simpa using hw
    simp [hw]
  simp [hw, f0, f4, f5]
  refine run_loop (fun st => st.e 0 = .str s ∧ st.e 4 = .int .i64 i ∧ st.e 5 = .str t ∧ ∃ k : Nat, st.e 6 = .int .i64 k ∧ k ≤ t.length) (fun st => t.length - natOf (st.e 6)) ?_ ?_
  · simp [f0, f4, f5]; exact ⟨0, rfl, by omega⟩
  · rintro st ⟨g0, g4, g5, k, g6, hk⟩
    by_cases hlt : k < t.length
    · have hw := wrap_succ (i := k) (by omega)
      by_cases c1 : (t[k].toNat : Int) < 48
      · simp [g0, g4, g5, g6, hlt, c1]
      · by_cases c2 : (57 : Int) < t[k].toNat
        · simp [g0, g4, g5, g6, hlt, c1, c2]
        · simp [g0, g4, g5, g6, hlt, c1, c2]
          rw [hw]
          exact ⟨⟨k + 1, rfl, by omega⟩, by omega⟩
    · simp [g0, g4, g5, g6, hlt]
      refine run_loop (fun st => st.e 0 = .str s ∧ st.e 4 = .int .i64 i ∧ ∃ t : Str, st.e 5 = .str t ∧ t.length ≤ 1073741824) (fun st => match st.e 5 with | .str t => 3 - t.length | _ => 0) ?_ ?_
      · simp [g0, g4, g5]; exact ht
      · rintro st ⟨g0, g4, t, g5, ht⟩
        by_cases h3 : (t.length : Int) < 3
        · simp [g0, g4, g5, h3]; omega
        · simp [g0, g4, g5, h3, hi]
          obtain ⟨_, ⟨n, rfl⟩, -, hv⟩ := ref01Value (s.take i) (by simp; omega)
          refine awpR_call _ (by simp) (by simpa [g0, g4] using hv) rfl ?_
          obtain ⟨_, ⟨m, rfl⟩, -, hv2⟩ := ref01Value t (by omega)
          by_cases c1 : 9007199254740 < n
          · simp [g0, g4, g5, c1]
            refine awpR_ggcall (.int .i64 m) (by simp) (by simp) (by simp) rfl ?_
            simp
          · simp [g0, g4, g5, c1]
            refine awpR_ggcall (.int .i64 m) (by simp) (by simp [g5]) (fun _ => by simpa [g5] using hv2) rfl ?_
            simp [g5]
            intro _
            refine awpR_call _ (by simp [g5]) (by simpa [g5] using hv2) rfl ?_
            simp

set_option maxHeartbeats 1000000 in
theorem ref01Milli (s : Str) (hs : s.length ≤ 1073741824) : Total Tryz.prog 71 [.str s] isInt2 := by
  refine total71 rfl ?_
  refine cut (fun st => st.e 0 = .str s) (by simp) fun st g0 => ?_
  refine cut (fun st => st.e 0 = .str s ∧ st.e 4 = .int .i64 0) (by simp [g0]) ?_
  rintro st ⟨g0, g4⟩
  refine cut (fun st => st.e 0 = .str s ∧ ∃ i : Nat, st.e 4 = .int .i64 i ∧ i ≤ s.length) ?_ ?_
  · simp
    refine run_loop (fun st => st.e 0 = .str s ∧ ∃ i : Nat, st.e 4 = .int .i64 i ∧ i ≤ s.length) (fun st => s.length - natOf (st.e 4)) ?_ ?_
    · exact ⟨g0, 0, g4, by omega⟩
    · rintro st ⟨g0, i, g4, hi⟩
      by_cases hlt : i < s.length
      · have hw := wrap_succ (i := i) (by omega)
        by_cases c1 : (s[i].toNat : Int) = 46
        · simp [g0, g4, hlt, c1]
          exact ⟨i, rfl, by omega⟩
        · simp [g0, g4, hlt, c1]
          rw [hw]
          exact ⟨⟨i + 1, rfl, by omega⟩, by omega⟩
      · simp [g0, g4, hlt]
        exact ⟨i, rfl, hi⟩
  rintro st ⟨g0, i, g4, hi⟩
  refine cut (fun st => st.e 0 = .str s ∧ st.e 4 = .int .i64 i ∧ st.e 5 = .str []) (by simp [g0, g4]) ?_
  rintro st ⟨g0, g4, g5⟩
  refine cut (fun st => st.e 0 = .str s ∧ st.e 4 = .int .i64 i ∧ ∃ t : Str, st.e 5 = .str t ∧ t.length ≤ 1073741824) ?_ ?_
  · by_cases hlt : i < s.length
    · have hw := wrap_succ (i := i) (by omega)
      have hnn : (0 : Int) ≤ (i : Int) + 1 := by omega
      have hi1 : i + 1 ≤ s.length := by omega
      have hd : s.length - (i + 1) ≤ 1073741824 := by omega
      by_cases d1 : ((s.length - (i + 1) : Nat) : Int) < 1
      · simp [g0, g4, hlt, hw, hnn, d1, hi1]
      · by_cases d2 : (3 : Int) < ((s.length - (i + 1) : Nat) : Int)
        · simp [g0, g4, hlt, hw, hnn, d1, d2, hi1]
        · have hl : IntKind.i64.wrap (((s.length - (i + 1) : Nat) : Int) - 1) = ((s.length - (i + 1) - 1 : Nat) : Int) := by rw [wrap_int] <;> omega
          have hq : s.length - (i + 1) - 1 < s.length - (i + 1) := by omega
          have hq2 : i + 1 + (s.length - (i + 1) - 1) < s.length := by omega
          by_cases d3 : ((s[i + 1 + (s.length - (i + 1) - 1)]'hq2).toNat : Int) = 48
          · simp [g0, g4, hlt, hw, hnn, d1, d2, d3, hi1, hl, hq]
          · simp [g0, g4, hlt, hw, hnn, d1, d2, d3, hi1, hl, hq]
            omega
    · simp [g0, g4, g5, hlt]
  rintro st ⟨g0, g4, t, g5, ht⟩
  exact milli_tail s t i hi hs ht _ g0 g4 g5

end Go.Proofs.YtccmaeefedgcnaaGreat

namespace Go.Proofs.YtccmaeefedgcnaaGreat

/-- longshoreref04.long. -/
def long4 (s : Str) : Int := if s = [] ∨ s = [98] then 1 else if s = [107] ∨ s = [107, 98] then 1024 else if s = [109] ∨ s = [109, 98] then 1048576 else if s = [103] ∨ s = [103, 98] then 1073741824 else 0

theorem ref04long (s : Str) : Sound Tryz.prog 103 [.str s] (.int .i64 (long4 s)) := by
  refine sound103 rfl ?_
  unfold long4
  by_cases h1 : s = []
  · simp [h1]
  by_cases h2 : s = [98]
  · simp [h2]
  by_cases h3 : s = [107]
  · simp [h3]
  by_cases h4 : s = [107, 98]
  · simp [h4]
  by_cases h5 : s = [109]
  · simp [h5]
  by_cases h6 : s = [109, 98]
  · simp [h6]
  by_cases h7 : s = [103]
  · simp [h7]
  by_cases h8 : s = [103, 98]
  · simp [h8]
  simp [h1, h2, h3, h4, h5, h6, h7, h8]

theorem ref04Parse (s : Str) (hs : s.length ≤ 1073741824) : Total Tryz.prog 72 [.str s] isInt2 := by
  refine total72 rfl ?_
  refine cut (fun st => st.e 0 = .str s) (by simp) fun st g0 => ?_
  refine cut (fun st => st.e 0 = .str s ∧ st.e 4 = .int .i64 0) (by simp [g0]) ?_
  rintro st ⟨g0, g4⟩
  refine cut (fun st => st.e 0 = .str s ∧ ∃ i : Nat, st.e 4 = .int .i64 i ∧ i ≤ s.length) ?_ ?_
  · simp
    refine run_loop (fun st => st.e 0 = .str s ∧ ∃ i : Nat, st.e 4 = .int .i64 i ∧ i ≤ s.length) (fun st => s.length - natOf (st.e 4)) ?_ ?_
    · exact ⟨g0, 0, g4, by omega⟩
    · rintro st ⟨g0, i, g4, hi⟩
      by_cases hlt : i < s.length
      · have hw := wrap_succ (i := i) (by omega)
        by_cases c1 : (48 : Int) ≤ s[i].toNat
        · by_cases c2 : (s[i].toNat : Int) ≤ 57
          · simp [g0, g4, hlt, c1, c2]
            rw [hw]
            exact ⟨⟨i + 1, rfl, by omega⟩, by omega⟩
          · simp [g0, g4, hlt, c1, c2]
            exact ⟨i, rfl, by omega⟩
        · simp [g0, g4, hlt, c1]
          exact ⟨i, rfl, by omega⟩
      · simp [g0, g4, hlt]
        exact ⟨i, rfl, hi⟩
  rintro st ⟨g0, i, g4, hi⟩
  have hm : min i s.length = i := by omega
  simp [g0, g4, hi]
  refine awpR_call _ (by simp) (by simpa [g0, g4] using ref04long (s.drop i)) rfl ?_
  by_cases c1 : long4 (s.drop i) = 0
  · simp [g0, g4, c1, hi]
    refine awpR_ggcall (.bool true) (by simp) (by simp) (by simp) rfl ?_
    simp
  · simp [g0, g4, c1, hi]
    refine awpR_ggcall _ (by simp [c1]) (by simp) (fun _ => by simpa [g0, g4] using ref01Whole (s.take i) (by simp; omega)) rfl ?_
    by_cases c2 : wholeText (s.take i) = true
    rotate_left
    · have c2 : wholeText (s.take i) = false := by simpa using c2
      simp [c1, c2]
    simp [c1, c2, g0, g4, hi]
    obtain ⟨_, ⟨n, rfl⟩, -, hv⟩ := ref01Value (s.take i) (by simp; omega)
    refine awpR_call _ (by simp) (by simpa [g0, g4] using hv) rfl ?_
    simp [c1]

/-- longshoreref04.Unit. -/
def unit4 (n : Int) : Int := if n < 0 ∨ 1125899906842624 < n then 0 else if n = 0 ∨ ¬ n.tmod 1024 = 0 then 1 else if ¬ n.tmod 1048576 = 0 then 1024 else if ¬ n.tmod 1073741824 = 0 then 1048576 else 1073741824

theorem ref04Unit (n : Int) : Sound Tryz.prog 104 [.int .i64 n] (.int .i64 (unit4 n)) := by
  refine sound104 rfl ?_
  unfold unit4
  by_cases h1 : n < 0
  · simp [h1]
  by_cases h2 : 1125899906842624 < n
  · simp [h1, h2]
  by_cases h3 : n = 0
  · subst h3; simp
  by_cases h4 : n.tmod 1024 = 0
  rotate_left
  · simp [h1, h2, h3, h4]
  by_cases h5 : n.tmod 1048576 = 0
  rotate_left
  · simp [h1, h2, h3, h4, h5]
  by_cases h6 : n.tmod 1073741824 = 0
  rotate_left
  · simp [h1, h2, h3, h4, h5, h6]
  simp [h1, h2, h3, h4, h5, h6]

theorem ref04Text (n : Int) : Total Tryz.prog 74 [.int .i64 n] (isStr 40) := by
  refine total74 rfl ?_
  simp
  refine awpR_call _ (by simp) (by simpa using ref04Unit n) rfl ?_
  by_cases h0 : unit4 n = 0
  · simp [h0]
  simp [h0]
  obtain ⟨_, ⟨t, rfl, ht⟩, -, hc⟩ := ref01Text (IntKind.i64.wrap (n.tdiv (unit4 n)))
  refine awpR_call _ (by simp) (by simpa using hc) rfl ?_
  by_cases h1 : unit4 n = 1024
  · simp [h1]; omega
  by_cases h2 : unit4 n = 1048576
  · simp [h1, h2]; omega
  by_cases h3 : unit4 n = 1073741824
  · simp [h1, h2, h3]; omega
  · simp [h1, h2, h3]; omega

end Go.Proofs.YtccmaeefedgcnaaGreat

namespace Go.Proofs.YtccmaeefedgcnaaGreat

abbrev longsAV : AV := .agg [.int .i64 3600000, .int .i64 60000, .int .i64 1000, .int .i64 1]
abbrev namesAV : AV := .agg [.str [104], .str [109], .str [115], .str [109, 115]]
theorem ref03longs : Sound Tryz.prog 128 [] longsAV := by
  refine sound128 rfl ?_
  simp
theorem ref03names : Sound Tryz.prog 129 [] namesAV := by
  refine sound129 rfl ?_
  simp

def isGroup (m : Nat) (r : AV) : Prop := ∃ (h : Str) (u : Nat) (t : Str) (ok : Bool), r = .tup [.str h, .int .i64 u, .str t, .bool ok] ∧ u < 4 ∧ h.length ≤ m ∧ t.length ≤ m ∧ (ok = true → t.length < m)
theorem isGroup_mk {m : Nat} {h t : Str} {u : Nat} {ok : Bool} (h1 : u < 4) (h2 : h.length ≤ m) (h3 : t.length ≤ m) (h4 : ok = true → t.length < m) : isGroup m (.tup [.str h, .int .i64 u, .str t, .bool ok]) := ⟨h, u, t, ok, rfl, h1, h2, h3, h4⟩

theorem ref03group (s : Str) (hs : s.length ≤ 1073741824) : Total Tryz.prog 127 [.str s] (isGroup s.length) := by
  refine total127 rfl ?_
  refine cut (fun st => st.e 0 = .str s) (by simp) fun st g0 => ?_
  refine cut (fun st => st.e 0 = .str s ∧ st.e 6 = .int .i64 0) (by simp [g0]) ?_
  rintro st ⟨g0, g6⟩
  refine cut (fun st => st.e 0 = .str s ∧ ∃ i : Nat, st.e 6 = .int .i64 i ∧ i ≤ s.length) ?_ ?_
  · simp
    refine run_loop (fun st => st.e 0 = .str s ∧ ∃ i : Nat, st.e 6 = .int .i64 i ∧ i ≤ s.length) (fun st => s.length - natOf (st.e 6)) ?_ ?_
    · exact ⟨g0, 0, g6, by omega⟩
    · rintro st ⟨g0, i, g6, hi⟩
      by_cases hlt : i < s.length
      · have hw := wrap_succ (i := i) (by omega)
        by_cases c1 : (48 : Int) ≤ s[i].toNat
        · by_cases c2 : (s[i].toNat : Int) ≤ 57
          · simp [g0, g6, hlt, c1, c2]
            rw [hw]
            exact ⟨⟨i + 1, rfl, by omega⟩, by omega⟩
          · simp [g0, g6, hlt, c1, c2]
            exact ⟨i, rfl, by omega⟩
        · simp [g0, g6, hlt, c1]
          exact ⟨i, rfl, by omega⟩
      · simp [g0, g6, hlt]
        exact ⟨i, rfl, hi⟩
  rintro st ⟨g0, i, g6, hi⟩
  refine cut (fun st => ∃ h t : Str, st.e 7 = .str h ∧ st.e 8 = .str t ∧ h.length ≤ s.length ∧ t.length ≤ s.length) ?_ ?_
  · simp [g0, g6, hi]
  rintro st ⟨h, t, g7, g8, hh, ht⟩
  have hwh := ref01Whole h (by omega)
  by_cases p0 : 0 < t.length
  rotate_left
  · have q1 : ¬ (1 : Int) ≤ t.length := by omega
    have q2 : ¬ (2 : Int) ≤ t.length := by omega
    simp [g7, g8, q1, q2]
    exact isGroup_mk (u := 0) (by omega) (by simp) (by simp) (by simp)
  have q1 : (1 : Int) ≤ t.length := by omega
  have q1' : 1 ≤ t.length := p0
  by_cases a2 : (t[0].toNat : Int) = 109
  · by_cases p1 : 1 < t.length
    · have q2 : (2 : Int) ≤ t.length := by omega
      have q2' : 2 ≤ t.length := by omega
      have p1i : (1 : Int) < t.length := by omega
      by_cases a3 : (t[1].toNat : Int) = 115
      · simp [g7, g8, q1, q2, q2', p0, p1, p1i, a2, a3]
        refine awpR_call _ (by simp) (by simpa [g7] using hwh) rfl ?_
        simp
        exact isGroup_mk (u := 3) (by omega) hh (by simp; omega) (fun _ => by simp; omega)
      · simp [g7, g8, q1, q2, q1', p0, p1, p1i, a2, a3]
        refine awpR_call _ (by simp) (by simpa [g7] using hwh) rfl ?_
        simp
        exact isGroup_mk (u := 1) (by omega) hh (by simp; omega) (fun _ => by simp; omega)
    · have q2 : ¬ (2 : Int) ≤ t.length := by omega
      simp [g7, g8, q1, q2, q1', p0, a2]
      refine awpR_call _ (by simp) (by simpa [g7] using hwh) rfl ?_
      simp
      exact isGroup_mk (u := 1) (by omega) hh (by simp; omega) (fun _ => by simp; omega)
  · by_cases q2 : (2 : Int) ≤ t.length
    · by_cases a4 : (t[0].toNat : Int) = 104
      · simp [g7, g8, q1, q2, q1', p0, a2, a4]
        refine awpR_call _ (by simp) (by simpa [g7] using hwh) rfl ?_
        simp
        exact isGroup_mk (u := 0) (by omega) hh (by simp; omega) (fun _ => by simp; omega)
      · by_cases a5 : (t[0].toNat : Int) = 115
        · simp [g7, g8, q1, q2, q1', p0, a2, a4, a5]
          refine awpR_call _ (by simp) (by simpa [g7] using hwh) rfl ?_
          simp
          exact isGroup_mk (u := 2) (by omega) hh (by simp; omega) (fun _ => by simp; omega)
        · simp [g7, g8, q1, q2, q1', p0, a2, a4, a5]
          exact isGroup_mk (u := 0) (by omega) (by simp) (by simp) (by simp)
    · by_cases a4 : (t[0].toNat : Int) = 104
      · simp [g7, g8, q1, q2, q1', p0, a2, a4]
        refine awpR_call _ (by simp) (by simpa [g7] using hwh) rfl ?_
        simp
        exact isGroup_mk (u := 0) (by omega) hh (by simp; omega) (fun _ => by simp; omega)
      · by_cases a5 : (t[0].toNat : Int) = 115
        · simp [g7, g8, q1, q2, q1', p0, a2, a4, a5]
          refine awpR_call _ (by simp) (by simpa [g7] using hwh) rfl ?_
          simp
          exact isGroup_mk (u := 2) (by omega) hh (by simp; omega) (fun _ => by simp; omega)
        · simp [g7, g8, q1, q2, q1', p0, a2, a4, a5]
          exact isGroup_mk (u := 0) (by omega) (by simp) (by simp) (by simp)

end Go.Proofs.YtccmaeefedgcnaaGreat

namespace Go.Proofs.YtccmaeefedgcnaaGreat

/-- Four numbers. -/
abbrev four (a b c d : Int) : AV := .agg [.int .i64 a, .int .i64 b, .int .i64 c, .int .i64 d]

theorem parse3_end (s0 : St) (a b c d : Int) (f4 : s0.e 4 = four a b c d) (x : Bool) (f5 : s0.e 5 = .bool x) :
    awp Tryz.prog c113s60 (unw Tryz.prog [] (EndsP [.tmp 2, .tmp 3] isInt2)) s0 := by
  refine cut (fun st => st.e 4 = four a b c d ∧ st.e 5 = .bool x ∧ st.e 12 = longsAV) ?_ ?_
  · simp
    refine awpR_call _ (by simp) (by simpa using ref03longs) rfl ?_
    simp [f4, f5]
  rintro st ⟨g4, g5, g12⟩
  refine cut (fun st => st.e 4 = four a b c d ∧ st.e 5 = .bool x ∧ st.e 12 = longsAV ∧ st.e 13 = .int .i64 0) (by simp [g4, g5, g12]) ?_
  rintro st ⟨g4, g5, g12, g13⟩
  refine cut (fun st => ∃ x n, st.e 5 = .bool x ∧ st.e 13 = .int .i64 n) ?_ ?_
  · simp
    refine run_loop (fun st => st.e 4 = four a b c d ∧ st.e 12 = longsAV ∧ ∃ x n, ∃ i : Nat, st.e 5 = .bool x ∧ st.e 13 = .int .i64 n ∧ st.e 14 = .int .i64 i ∧ i ≤ 4) (fun st => 4 - natOf (st.e 14)) ?_ ?_
    · simp [g4, g5, g12, g13]; exact ⟨0, rfl, by omega⟩
    · rintro st ⟨g4, g12, x, n, i, g5, g13, g14, hi⟩
      have hi4 : i = 0 ∨ i = 1 ∨ i = 2 ∨ i = 3 ∨ i = 4 := by omega
      have e0 : IntKind.i64.wrap (Int.tdiv 1099511627776 3600000) = 305419 := by decide
      have e1 : IntKind.i64.wrap (Int.tdiv 1099511627776 60000) = 18325193 := by decide
      have e2 : IntKind.i64.wrap (Int.tdiv 1099511627776 1000) = 1099511627 := by decide
      have e3 : IntKind.i64.wrap (Int.tdiv 1099511627776 1) = 1099511627776 := by decide
      have w2 : IntKind.i64.wrap 2 = 2 := by decide
      have w3 : IntKind.i64.wrap 3 = 3 := by decide
      have w4 : IntKind.i64.wrap 4 = 4 := by decide
      have q0 : IntKind.i64.wrap 305419 = 305419 := by decide
      have q1 : IntKind.i64.wrap 18325193 = 18325193 := by decide
      have q2 : IntKind.i64.wrap 1099511627 = 1099511627 := by decide
      have q3 : IntKind.i64.wrap 1099511627776 = 1099511627776 := by decide
      rcases hi4 with rfl | rfl | rfl | rfl | rfl
      · by_cases c1 : 305419 < a
        · cases x <;> simp [g4, g5, g12, g13, g14, c1, e0, q0, w2, w3, w4] <;> exact ⟨1, rfl, by omega⟩
        · cases x <;> simp [g4, g5, g12, g13, g14, c1, e0, q0, w2, w3, w4] <;> exact ⟨1, rfl, by omega⟩
      · by_cases c1 : 18325193 < b
        · cases x <;> simp [g4, g5, g12, g13, g14, c1, e1, q1, w2, w3, w4] <;> exact ⟨2, rfl, by omega⟩
        · cases x <;> simp [g4, g5, g12, g13, g14, c1, e1, q1, w2, w3, w4] <;> exact ⟨2, rfl, by omega⟩
      · by_cases c1 : 1099511627 < c
        · cases x <;> simp [g4, g5, g12, g13, g14, c1, e2, q2, w2, w3, w4] <;> exact ⟨3, rfl, by omega⟩
        · cases x <;> simp [g4, g5, g12, g13, g14, c1, e2, q2, w2, w3, w4] <;> exact ⟨3, rfl, by omega⟩
      · by_cases c1 : 1099511627776 < d
        · cases x <;> simp [g4, g5, g12, g13, g14, c1, e3, q3, w2, w3, w4] <;> exact ⟨4, rfl, by omega⟩
        · cases x <;> simp [g4, g5, g12, g13, g14, c1, e3, q3, w2, w3, w4] <;> exact ⟨4, rfl, by omega⟩
      · simp [g4, g5, g12, g13, g14]
  rintro st ⟨x, n, g5, g13⟩
  cases x
  · by_cases c1 : 1099511627776 < n
    · simp [g5, g13, c1]
    · simp [g5, g13, c1]
  · simp [g5, g13]

theorem parse3_rest (h r : Str) (u : Nat) (hu : u < 4) (hh : h.length ≤ 1073741824) (a b c d n : Int) (x : Bool) (X : St → Prop) (k : List Fr) (Q : Exit → St → Prop)
    (hX : ∀ s a b c d x n, s.e 0 = .str r → s.e 4 = four a b c d → s.e 5 = .bool x → s.e 6 = .int .i64 n → X s)
    (st : St) (g4 : st.e 4 = four a b c d) (g5 : st.e 5 = .bool x) (g6 : st.e 6 = .int .i64 n) (g7 : st.e 7 = .str h) (g8 : st.e 8 = .int .i64 u) (g9 : st.e 9 = .str r) :
    awp Tryz.prog c113s27 (unw Tryz.prog (.blk 1 :: .lp X :: k) Q) st := by
  refine cut (fun st => st.e 4 = four a b c d ∧ st.e 5 = .bool x ∧ st.e 8 = .int .i64 u ∧ st.e 9 = .str r ∧ ∃ m, st.e 11 = .int .i64 m) ?_ ?_
  · obtain ⟨_, ⟨m, rfl⟩, -, hv⟩ := ref01Value h (by omega)
    simp [g7]
    refine awpR_call _ (by simp) (by simpa [g7] using hv) rfl ?_
    simp [g4, g5, g8, g9]
  rintro st ⟨g4, g5, g8, g9, m, g11⟩
  refine cut (fun st => st.e 4 = four a b c d ∧ st.e 8 = .int .i64 u ∧ st.e 9 = .str r ∧ ∃ m x, st.e 11 = .int .i64 m ∧ st.e 5 = .bool x) ?_ ?_
  · by_cases c1 : 1099511627776 < m
    · simp [g4, g5, g8, g9, g11, c1]
    · simp [g4, g5, g8, g9, g11, c1]
  rintro st ⟨g4, g8, g9, m, x, g11, g5⟩
  have hi4 : u = 0 ∨ u = 1 ∨ u = 2 ∨ u = 3 := by omega
  rcases hi4 with rfl | rfl | rfl | rfl
  · simp [g4, g5, g8, g9, g11]
    exact hX _ m b c d x 0 (by simp) (by simp) (by simp [g5]) (by simp)
  · simp [g4, g5, g8, g9, g11]
    exact hX _ a m c d x 1 (by simp) (by simp) (by simp [g5]) (by simp)
  · simp [g4, g5, g8, g9, g11]
    exact hX _ a b m d x 2 (by simp) (by simp) (by simp [g5]) (by simp)
  · simp [g4, g5, g8, g9, g11]
    exact hX _ a b c m x 3 (by simp) (by simp) (by simp [g5]) (by simp)

set_option maxHeartbeats 1000000 in
theorem ref03Parse (s : Str) (hs : s.length ≤ 1073741824) : Total Tryz.prog 113 [.str s] isInt2 := by
  refine total113 rfl ?_
  refine cut (fun st => st.e 0 = .str s) (by simp) fun st g0 => ?_
  refine cut (fun st => st.e 0 = .str s ∧ st.e 4 = four 0 0 0 0) (by simp [g0]) ?_
  rintro st ⟨g0, g4⟩
  refine cut (fun st => st.e 0 = .str s ∧ st.e 4 = four 0 0 0 0 ∧ st.e 5 = .bool false) (by simp [g0, g4]) ?_
  rintro st ⟨g0, g4, g5⟩
  refine cut (fun st => st.e 0 = .str s ∧ st.e 4 = four 0 0 0 0 ∧ st.e 5 = .bool false ∧ st.e 6 = .int .i64 (-1)) (by simp [g0, g4, g5]) ?_
  rintro st ⟨g0, g4, g5, g6⟩
  refine cut (fun st => st.e 0 = .str s ∧ st.e 4 = four 0 0 0 0 ∧ st.e 5 = .bool false ∧ st.e 6 = .int .i64 (-1)) ?_ ?_
  · by_cases h0 : s = [] <;> simp [g0, g4, g5, g6, h0]
  rintro st ⟨g0, g4, g5, g6⟩
  refine cut (fun st => ∃ a b c d x, st.e 4 = four a b c d ∧ st.e 5 = .bool x) ?_ ?_
  rotate_left
  · rintro st ⟨a, b, c, d, x, g4, g5⟩
    exact parse3_end st a b c d g4 x g5
  simp
  refine run_loop (fun st => ∃ t : Str, ∃ a b c d x n, st.e 0 = .str t ∧ t.length ≤ 1073741824 ∧ st.e 4 = four a b c d ∧ st.e 5 = .bool x ∧ st.e 6 = .int .i64 n) (fun st => match st.e 0 with | .str t => t.length | _ => 0) ?_ ?_
  · exact ⟨s, _, _, _, _, _, _, g0, hs, g4, g5, g6⟩
  · rintro st ⟨t, a, b, c, d, x, n, g0, ht, g4, g5, g6⟩
    by_cases h0 : 0 < t.length
    rotate_left
    · simp [g0, g4, g5, g6, h0]
    have hbody : awp Tryz.prog c113s29 (unw Tryz.prog (.blk 1 :: .lp (fun s' => (∃ t : Str, ∃ a b c d x n, s'.e 0 = .str t ∧ t.length ≤ 1073741824 ∧ s'.e 4 = four a b c d ∧ s'.e 5 = .bool x ∧ s'.e 6 = .int .i64 n) ∧ (match s'.e 0 with | .str t => t.length | _ => 0) < (match st.e 0 with | .str t => t.length | _ => 0)) :: [.blk 0, .lp (fun st => ∃ a b c d x, st.e 4 = four a b c d ∧ st.e 5 = .bool x), .code c113s60]) (EndsP [.tmp 2, .tmp 3] isInt2)) (put st 20 (.bool true)) := by
      obtain ⟨_, ⟨h, u, r, ok, rfl, hu, hh, hr, hok⟩, -, hc⟩ := ref03group t ht
      refine cut (fun st => st.e 4 = four a b c d ∧ st.e 5 = .bool x ∧ st.e 6 = .int .i64 n ∧ st.e 7 = .str h ∧ st.e 8 = .int .i64 u ∧ st.e 9 = .str r ∧ st.e 10 = .bool ok) ?_ ?_
      · simp [g0]
        refine awpR_call _ (by simp) (by simpa [g0] using hc) rfl ?_
        simp [g4, g5, g6]
      rintro st ⟨g4, g5, g6, g7, g8, g9, g10⟩
      refine cut (fun st => st.e 4 = four a b c d ∧ st.e 5 = .bool x ∧ st.e 6 = .int .i64 n ∧ st.e 7 = .str h ∧ st.e 8 = .int .i64 u ∧ st.e 9 = .str r ∧ ok = true) ?_ ?_
      · cases ok
        · simp [g7, g10]
        by_cases c1 : (u : Int) ≤ n
        · simp [g7, g8, g6, g10, c1]
        by_cases c2 : h = [48]
        rotate_left
        · simp [g4, g5, g7, g8, g9, g6, g10, c1, c2]
        by_cases c3 : 0 ≤ n
        · simp [g4, g5, g7, g8, g9, g6, g10, c1, c2, c3]
        by_cases c4 : 0 < r.length
        · simp [g4, g5, g7, g8, g9, g6, g10, c1, c2, c3, c4]
        · have c4 : r = [] := by
            cases r with
            | nil => rfl
            | cons _ _ => simp at c4
          simp [g4, g5, g7, g8, g9, g6, g10, c1, c2, c3, c4]
      rintro st ⟨g4, g5, g6, g7, g8, g9, hok1⟩
      have := hok hok1
      refine parse3_rest h r u hu (by omega) a b c d n x _ _ _ ?_ st g4 g5 g6 g7 g8 g9
      intro s' a b c d x n f0 f4 f5 f6
      refine ⟨⟨r, a, b, c, d, x, n, f0, by omega, f4, f5, f6⟩, ?_⟩
      rw [f0, g0]; exact this
    refine cut (fun st' => st' = put st 20 (.bool true)) ?_ ?_
    · simp [g0, h0]
    · rintro _ rfl
      rw [run_block]; exact hbody

set_option maxHeartbeats 1000000 in
theorem ref03Text (n : Int) : Total Tryz.prog 114 [.int .i64 n] (isStr 1000) := by
  refine total114 rfl ?_
  refine cut (fun st => st.e 0 = .int .i64 n) ?_ ?_
  · simp
  intro st g0
  refine cut (fun st => st.e 0 = .int .i64 n ∧ 0 ≤ n ∧ n ≤ 1099511627776) ?_ ?_
  · by_cases c1 : n < 0
    · simp [g0, c1]
    by_cases c2 : 1099511627776 < n
    · simp [g0, c1, c2]
    · simp [g0, c1, c2]; omega
  rintro st ⟨g0, hn1, hn2⟩
  refine cut (fun st => st.e 0 = .int .i64 n) ?_ ?_
  · by_cases c1 : n = 0 <;> simp [g0, c1]
  intro st g0
  refine cut (fun st => st.e 0 = .int .i64 n ∧ st.e 3 = .str []) (by simp [g0]) ?_
  rintro st ⟨g0, g3⟩
  refine cut (fun st => st.e 0 = .int .i64 n ∧ st.e 3 = .str [] ∧ st.e 4 = longsAV) ?_ ?_
  · simp
    refine awpR_call _ (by simp) (by simpa using ref03longs) rfl ?_
    simp [g0, g3]
  rintro st ⟨g0, g3, g4⟩
  refine cut (fun st => st.e 0 = .int .i64 n ∧ st.e 3 = .str [] ∧ st.e 4 = longsAV ∧ st.e 5 = namesAV) ?_ ?_
  · simp
    refine awpR_call _ (by simp) (by simpa using ref03names) rfl ?_
    simp [g0, g3, g4]
  rintro st ⟨g0, g3, g4, g5⟩
  refine cut (fun st => ∃ t : Str, st.e 3 = .str t ∧ t.length ≤ 1000) ?_ ?_
  · simp
    refine run_loop (fun st => st.e 4 = longsAV ∧ st.e 5 = namesAV ∧ ∃ n, ∃ t : Str, ∃ i : Nat, st.e 0 = .int .i64 n ∧ st.e 3 = .str t ∧ t.length ≤ 100 * i ∧ st.e 6 = .int .i64 i ∧ i ≤ 4) (fun st => 4 - natOf (st.e 6)) ?_ ?_
    · simp [g0, g3, g4, g5]; exact ⟨0, by simp⟩
    · rintro st ⟨g4, g5, n, t, i, g0, g3, ht, g6, hi⟩
      have hi4 : i = 0 ∨ i = 1 ∨ i = 2 ∨ i = 3 ∨ i = 4 := by omega
      have w2 : IntKind.i64.wrap 2 = 2 := by decide
      have w3 : IntKind.i64.wrap 3 = 3 := by decide
      have w4 : IntKind.i64.wrap 4 = 4 := by decide
      rcases hi4 with rfl | rfl | rfl | rfl | rfl
      · by_cases c1 : 0 < IntKind.i64.wrap (n.tdiv 3600000)
        · simp [g0, g3, g4, g5, g6, c1]
          obtain ⟨_, ⟨u, rfl, hu⟩, -, hc⟩ := ref01Text (IntKind.i64.wrap (n.tdiv 3600000))
          refine awpR_call _ (by simp) (by simpa using hc) rfl ?_
          simp [g0, g3, g4, g5, g6, w2, w3, w4]
          exact ⟨by omega, by omega, 1, by omega, rfl, by omega⟩
        · simp [g0, g3, g4, g5, g6, c1, w2, w3, w4]
          exact ⟨1, by omega, rfl, by omega⟩
      · by_cases c1 : 0 < IntKind.i64.wrap (n.tdiv 60000)
        · simp [g0, g3, g4, g5, g6, c1]
          obtain ⟨_, ⟨u, rfl, hu⟩, -, hc⟩ := ref01Text (IntKind.i64.wrap (n.tdiv 60000))
          refine awpR_call _ (by simp) (by simpa using hc) rfl ?_
          simp [g0, g3, g4, g5, g6, w2, w3, w4]
          exact ⟨by omega, by omega, 2, by omega, rfl, by omega⟩
        · simp [g0, g3, g4, g5, g6, c1, w2, w3, w4]
          exact ⟨2, by omega, rfl, by omega⟩
      · by_cases c1 : 0 < IntKind.i64.wrap (n.tdiv 1000)
        · simp [g0, g3, g4, g5, g6, c1]
          obtain ⟨_, ⟨u, rfl, hu⟩, -, hc⟩ := ref01Text (IntKind.i64.wrap (n.tdiv 1000))
          refine awpR_call _ (by simp) (by simpa using hc) rfl ?_
          simp [g0, g3, g4, g5, g6, w2, w3, w4]
          exact ⟨by omega, by omega, 3, by omega, rfl, by omega⟩
        · simp [g0, g3, g4, g5, g6, c1, w2, w3, w4]
          exact ⟨3, by omega, rfl, by omega⟩
      · by_cases c1 : 0 < IntKind.i64.wrap n
        · simp [g0, g3, g4, g5, g6, c1]
          obtain ⟨_, ⟨u, rfl, hu⟩, -, hc⟩ := ref01Text (IntKind.i64.wrap n)
          refine awpR_call _ (by simp) (by simpa using hc) rfl ?_
          simp [g0, g3, g4, g5, g6, w2, w3, w4]
          exact ⟨by omega, by omega, 4, by omega, rfl, by omega⟩
        · simp [g0, g3, g4, g5, g6, c1, w2, w3, w4]
          exact ⟨4, by omega, rfl, by omega⟩
      · simp [g0, g3, g4, g5, g6]
        omega
  rintro st ⟨t, g3, ht⟩
  simp [g3, ht]

end Go.Proofs.YtccmaeefedgcnaaGreat

namespace Go.Proofs.YtccmaeefedgcnaaGreat

def isBlank (c : UInt8) : Bool := decide (c = 32 ∨ c = 9)
theorem ref15blank (c : UInt8) : Sound Tryz.prog 105 [.int .u8 c.toNat] (.bool (isBlank c)) := by
  refine sound105 rfl ?_
  unfold isBlank
  have e1 : c = 32 ↔ (c.toNat : Int) = 32 := byte_iff c 32
  have e2 : c = 9 ↔ (c.toNat : Int) = 9 := byte_iff c 9
  by_cases h1 : (c.toNat : Int) = 32
  · simp [e1, e2, h1]
  · by_cases h2 : (c.toNat : Int) = 9 <;> simp [e1, e2, h1, h2]

def isPiece (m a : Nat) (r : AV) : Prop := ∃ (p : Str) (n : Int), r = .tup [.str p, .int .i64 n] ∧ (n = -1 ∨ ∃ k : Nat, n = k ∧ a < k ∧ k ≤ m ∧ p.length + a ≤ k)
@[simp] theorem isPiece_no {m a : Nat} {p : Str} : isPiece m a (.tup [.str p, .int .i64 (-1)]) := ⟨p, -1, rfl, .inl rfl⟩
theorem isPiece_mk {m a k : Nat} {p : Str} (h1 : a < k) (h2 : k ≤ m) (h3 : p.length + a ≤ k) : isPiece m a (.tup [.str p, .int .i64 k]) := ⟨p, k, rfl, .inr ⟨k, rfl, h1, h2, h3⟩⟩

set_option maxHeartbeats 1000000 in
theorem ref15piece (s : Str) (a : Nat) (hs : s.length ≤ 1073741824) (ha : a < s.length) : Total Tryz.prog 106 [.str s, .int .i64 a] (isPiece s.length a) := by
  refine total106 rfl ?_
  have hw1 := wrap_succ (i := a) (by omega)
  have hw2 : IntKind.i64.wrap ((a : Int) + 2) = ((a + 2 : Nat) : Int) := by rw [wrap_int] <;> omega
  have hwl : IntKind.i64.wrap (s.length : Int) = s.length := wrap_int (by omega) (by omega)
  refine cut (fun st => st.e 0 = .str s ∧ st.e 1 = .int .i64 a) (by simp) ?_
  rintro st ⟨g0, g1⟩
  refine cut (fun st => st.e 0 = .str s ∧ st.e 1 = .int .i64 a ∧ st.e 6 = .int .u8 (s[a].toNat)) (by simp [g0, g1, ha]) ?_
  rintro st ⟨g0, g1, g6⟩
  refine cut (fun st => st.e 0 = .str s ∧ st.e 1 = .int .i64 a ∧ st.e 6 = .int .u8 (s[a].toNat)) ?_ ?_
  · by_cases c1 : (s[a].toNat : Int) = 92
    · by_cases c2 : (a : Int) + 1 = s.length
      · simp [g0, g1, g6, c1, c2, hwl]
      · simp [g0, g1, g6, c1, c2, hw1, hw2]
        exact ⟨by omega, by simpa using isPiece_mk (m := s.length) (a := a) (k := a + 2) (p := (s.take (a + 2)).drop (a + 1)) (by omega) (by omega) (by simp; omega)⟩
    · simp [g0, g1, g6, c1]
  rintro st ⟨g0, g1, g6⟩
  refine cut (fun st => st.e 0 = .str s ∧ st.e 1 = .int .i64 a ∧ st.e 6 = .int .u8 (s[a].toNat)) ?_ ?_
  · by_cases c1 : (s[a].toNat : Int) = 39
    · simp [g0, g1, g6, c1, hw1]
      refine run_loop (fun st => st.e 0 = .str s ∧ st.e 1 = .int .i64 a ∧ ∃ i : Nat, st.e 7 = .int .i64 i ∧ a < i ∧ i ≤ s.length) (fun st => s.length - natOf (st.e 7)) ?_ ?_
      · simp [g0, g1]; exact ⟨a + 1, rfl, by omega, by omega⟩
      · rintro st ⟨g0, g1, i, g7, hi1, hi2⟩
        by_cases hlt : i < s.length
        · have hw := wrap_succ (i := i) (by omega)
          by_cases c2 : (s[i].toNat : Int) = 39
          · simp [g0, g1, g7, hlt, c2, hw1, hw]
            exact ⟨by omega, by simpa using isPiece_mk (m := s.length) (a := a) (k := i + 1) (p := (s.take i).drop (a + 1)) (by omega) (by omega) (by simp; omega)⟩
          · simp [g0, g1, g7, hlt, c2]
            rw [hw]
            exact ⟨⟨i + 1, rfl, by omega, by omega⟩, by omega⟩
        · simp [g0, g1, g7, hlt]
    · simp [g0, g1, g6, c1]
  rintro st ⟨g0, g1, g6⟩
  refine cut (fun st => st.e 0 = .str s ∧ st.e 1 = .int .i64 a) ?_ ?_
  · by_cases c1 : (s[a].toNat : Int) = 34
    · simp [g0, g1, g6, c1]
    · simp [g0, g1, g6, c1, hw1]
      exact ⟨by omega, by simpa using isPiece_mk (m := s.length) (a := a) (k := a + 1) (p := (s.take (a + 1)).drop a) (by omega) (by omega) (by simp; omega)⟩
  rintro st ⟨g0, g1⟩
  refine cut (fun st => st.e 0 = .str s ∧ st.e 1 = .int .i64 a ∧ st.e 8 = .str []) (by simp [g0, g1]) ?_
  rintro st ⟨g0, g1, g8⟩
  refine cut (fun st => st.e 0 = .str s ∧ st.e 1 = .int .i64 ((a + 1 : Nat) : Int) ∧ st.e 8 = .str []) (by simp [g0, g1, g8, hw1]) ?_
  rintro st ⟨g0, g1, g8⟩
  refine cut (fun st => True) ?_ ?_
  · simp
    refine run_loop (fun st => st.e 0 = .str s ∧ ∃ (i : Nat) (o : Str), st.e 1 = .int .i64 i ∧ a < i ∧ i ≤ s.length ∧ st.e 8 = .str o ∧ o.length + a + 1 ≤ i) (fun st => s.length - natOf (st.e 1)) ?_ ?_
    · simp [g0, g1, g8]; exact ⟨a + 1, rfl, by omega, by omega, by omega⟩
    · rintro st ⟨g0, i, o, g1, hi1, hi2, g8, ho⟩
      by_cases hlt : i < s.length
      · have hw := wrap_succ (i := i) (by omega)
        by_cases c2 : (s[i].toNat : Int) = 34
        · simp [g0, g1, g8, hlt, c2, hw]
          simpa using isPiece_mk (m := s.length) (a := a) (k := i + 1) (p := o) (by omega) (by omega) (by omega)
        · by_cases c3 : (s[i].toNat : Int) = 92
          · by_cases c4 : (i : Int) + 1 = s.length
            · simp [g0, g1, g8, hlt, c2, c3, c4, hwl]
            · have hlt2 : i + 1 < s.length := by omega
              have hw3 := wrap_succ (i := i + 1) (by omega)
              have hw4 : IntKind.i64.wrap ((i : Int) + 1 + 1) = (i : Int) + 2 := by rw [wrap_int] <;> omega
              by_cases c5 : (s[i + 1].toNat : Int) = 34
              · simp [g0, g1, g8, hlt, hlt2, c2, c3, c4, c5, hw, hw4]
                exact ⟨by omega, by omega, by omega, ⟨i + 2, by omega, by omega, by omega, by omega⟩, by omega⟩
              · by_cases c6 : (s[i + 1].toNat : Int) = 92
                · simp [g0, g1, g8, hlt, hlt2, c2, c3, c4, c5, c6, hw, hw4]
                  exact ⟨by omega, by omega, by omega, ⟨i + 2, by omega, by omega, by omega, by omega⟩, by omega⟩
                · simp [g0, g1, g8, hlt, hlt2, c2, c3, c4, c5, c6, hw, hw4]
                  exact ⟨by omega, by omega, by omega, by omega, by omega, ⟨i + 2, by omega, by omega, by omega, by omega⟩, by omega⟩
          · simp [g0, g1, g8, hlt, c2, c3, hw]
            exact ⟨by omega, by omega, ⟨i + 1, by omega, by omega, by omega, by omega⟩, by omega⟩
      · simp [g0, g1, g8, hlt]
  · intro st _
    simp

end Go.Proofs.YtccmaeefedgcnaaGreat
