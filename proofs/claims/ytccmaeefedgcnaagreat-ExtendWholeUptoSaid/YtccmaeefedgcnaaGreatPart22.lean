/-
  CONTRACTS: longshorelaw21.text, one, awake.
  CONTRACT: longshorelaw21.formed.
  THE LAW: longshorelaw21.ExtendWhole answers true.
-/
import Derived.Test.YtccmaeefedgcnaaGreatPart21
set_option linter.all false

namespace Go.Proofs.YtccmaeefedgcnaaGreat

def textL (s : Str) : Node := ⟨1, s, [], []⟩
def oneL (k : Str) (v : Node) : Node := ⟨3, [], [k], [v]⟩
theorem textL_wide {K : Nat} {s : Str} (h : s.length ≤ 1073741824) : (textL s).Wide K := .mk (by simp [textL]) (by simp [textL]) (by simp [textL]) (by simp [textL]) h (by simp [textL]) (by simp [textL])
theorem oneL_wide {K : Nat} {k : Str} {v : Node} (hk : k.length ≤ 1073741824) (hK : 1 ≤ K) (hv : v.Wide K) : (oneL k v).Wide K :=
  .mk (by simpa [oneL] using hK) (by simpa [oneL] using hK) (by simp [oneL]) (by simp [oneL]) (by simp [oneL]) (by simpa [oneL] using hk) (by simpa [oneL] using hv)

theorem law21text (s : Str) : Sound Tryz.prog 14 [.str s] (nodeAV (textL s)) := by
  refine sound14 rfl ?_
  simp [textL, nodeAV]
theorem law21one (k : Str) (v : Node) : Sound Tryz.prog 13 [.str k, nodeAV v] (nodeAV (oneL k v)) := by
  refine sound13 rfl ?_
  simp [oneL, nodeAV]

/-- A file whose one service extends itself. -/
def selfL : Files := [([102], oneL servicesT (oneL [97] (oneL extendsT (oneL serviceT (textL [97])))))]
theorem selfL_filed : Filed 1 selfL := by
  refine ⟨?_, ?_, by simp [selfL], by decide, by decide⟩
  · intro x hx
    simp only [selfL, List.mem_singleton] at hx
    subst hx
    refine oneL_wide (by decide) (by omega) (oneL_wide (by decide) (by omega) (oneL_wide (by decide) (by omega) (oneL_wide (by decide) (by omega) (textL_wide (by decide)))))
  · intro x hx
    simp only [selfL, List.mem_singleton] at hx
    subst hx
    refine ⟨rfl, ?_⟩
    intro v hv
    have : (oneL servicesT (oneL [97] (oneL extendsT (oneL serviceT (textL [97]))))).get servicesT = some (oneL [97] (oneL extendsT (oneL serviceT (textL [97])))) := by rfl
    rw [this] at hv
    obtain rfl := Option.some.inj hv
    rfl
theorem self_a : chainN selfL ([102], [97]) = ([([102], [97]), ([102], [97])], 5) := by decide
theorem self_b : chainN selfL ([102], [98]) = ([([102], [98])], 7) := by decide
theorem whole_a : wholeN selfL ([102], [97]) = (zeroN, 5) := by simp [wholeN, self_a]
theorem whole_b : wholeN selfL ([102], [98]) = (zeroN, 7) := by simp [wholeN, self_b]

theorem law21awake : Sound Tryz.prog 5 [] (.bool true) := by
  have ca := chainE selfL_filed ([102], [97])
  have oa := oneE selfL_filed ([102], [97])
  have ob := oneE selfL_filed ([102], [98])
  rw [self_a] at ca
  rw [whole_a] at oa
  rw [whole_b] at ob
  refine sound5 rfl ?_
  refine cutf [0] rfl (fun st => True) (by simp) ?_
  rintro st - -
  refine cutf [1] rfl (fun st => st.e 1 = .oslice 5 (selfL.map namedAV)) ?_ ?_
  · rw [run_reg]
    refine awpR_call (nodeAV (textL [97])) (by simp) (by simpa using law21text [97]) (by simp) ?_
    simp
    refine awpR_call (nodeAV (oneL serviceT (textL [97]))) (by simp) (by simpa using law21one serviceT (textL [97])) (by simp) ?_
    simp
    refine awpR_call (nodeAV (oneL extendsT (oneL serviceT (textL [97])))) (by simp) (by simpa using law21one extendsT (oneL serviceT (textL [97]))) (by simp) ?_
    simp
    refine awpR_call (nodeAV (oneL [97] (oneL extendsT (oneL serviceT (textL [97]))))) (by simp) (by simpa using law21one [97] (oneL extendsT (oneL serviceT (textL [97])))) (by simp) ?_
    simp
    refine awpR_call (nodeAV (oneL servicesT (oneL [97] (oneL extendsT (oneL serviceT (textL [97])))))) (by simp) (by simpa using law21one servicesT (oneL [97] (oneL extendsT (oneL serviceT (textL [97]))))) (by simp) ?_
    simp [selfL]
  rintro st1 hf1 g1
  refine cutf [2, 3] rfl (fun st => st.e 3 = .int .i64 5) ?_ ?_
  · simp [g1]
    refine awpR_call (wholeAV (zeroN, 5)) (by simp) (by simpa using oa) (by simp) ?_
    simp
  rintro st2 hf2 g3
  refine cutf [4, 5] rfl (fun st => st.e 5 = .int .i64 7) ?_ ?_
  · simp [hf2, g1]
    refine awpR_call (wholeAV (zeroN, 7)) (by simp) (by simpa using ob) (by simp) ?_
    simp
  rintro st3 hf3 g5
  simp [hf3, hf2, g1, g3, g5]
  refine awpR_ggcall (chainAV [([102], [97]), ([102], [97])]) (by simp) (by simp) (fun _ => by simpa using ca) (by simp) ?_
  simp

end Go.Proofs.YtccmaeefedgcnaaGreat

namespace Go.Proofs.YtccmaeefedgcnaaGreat

theorem lefts_all : ∀ (ks : List Node) (deep l : Int), 0 ≤ lefts ks deep l → (ks.length : Int) ≤ l ∧ ∀ k ∈ ks, ∃ l', l' ≤ l ∧ 0 ≤ left k deep l'
  | [], deep, l, h => by rw [lefts] at h; exact ⟨by simpa using h, by simp⟩
  | k :: ks, deep, l, h => by
    rw [lefts] at h
    split at h
    · omega
    rename_i hk0
    have hl0 : 0 ≤ l := by
      rcases Int.lt_or_le l 0 with hneg | h0
      · rw [left_eq] at hk0
        rw [if_pos (by omega)] at hk0
        omega
      · exact h0
    have hr := left_range k deep l hl0
    obtain ⟨q1, q2⟩ := lefts_all ks deep _ h
    refine ⟨by simp; omega, fun x hx => ?_⟩
    rcases List.mem_cons.1 hx with rfl | hx
    · exact ⟨l, by omega, by omega⟩
    · obtain ⟨l', h1, h2⟩ := q2 x hx
      exact ⟨l', by omega, h2⟩

theorem short_mem {n : Node} (h : short n = true) : n.text.length ≤ 200 ∧ (∀ k ∈ n.keys, k.length ≤ 200) ∧ ∀ k ∈ n.kids, short k = true := by
  rw [short_eq, shorts_all] at h
  simpa [and_assoc] using h

/-- What is small is right. -/
theorem small_inp : ∀ (n : Node), n.Short → ∀ (deep l : Int), 0 ≤ left n deep l → l ≤ 200 → short n = true → n.Inp := by
  intro n hs
  induction hs with
  | @mk n h1 h2 h3 h4 h5 ih =>
    intro deep l hl hb hsh
    rw [left_eq] at hl
    split at hl
    · omega
    rename_i c1
    split at hl
    · omega
    rename_i c2
    split at hl
    · omega
    rename_i c3
    obtain ⟨q1, q2⟩ := lefts_all _ _ _ hl
    obtain ⟨t1, t2, t3⟩ := short_mem hsh
    refine .mk (by omega) ?_ ?_ ?_ (by omega) (by omega) (fun k hk => by have := t2 k hk; omega) ?_
    · intro hk; exact Classical.byContradiction fun hne => c2 (.inr (.inl ⟨hk, hne⟩))
    · intro hk; exact Classical.byContradiction fun hne => c2 (.inr (.inr ⟨hk, hne⟩))
    · intro hk; exact Classical.byContradiction fun hne => c3 ⟨hk, .inl hne⟩
    · intro k hk
      obtain ⟨l', e1, e2⟩ := q2 k hk
      exact ih k hk (deep + 1) l' e2 (by omega) (t3 k hk)

theorem flatMap_len {α β : Type} (f : α → List β) (K : Nat) : ∀ {l : List α}, (∀ x ∈ l, (f x).length ≤ K) → (l.flatMap f).length ≤ l.length * K
  | [], _ => by simp
  | x :: l, h => by
    rw [List.flatMap_cons, List.length_append, List.length_cons, Nat.add_mul, Nat.one_mul]
    have h1 := h x (by simp)
    have h2 := flatMap_len f K (l := l) fun y hy => h y (by simp [hy])
    omega
theorem services_len {l : Files} {K : Nat} (hw : ∀ x ∈ l, x.2.Wide K) : (servicesOf l).length ≤ l.length * K := by
  refine flatMap_len _ K fun x hx => ?_
  cases hv : x.2.get servicesT with
  | none => simp
  | some v => simpa using ((hw x hx).get hv).keys

/-- A form that layer 19 has passed. -/
def Passed (x : Str × Node) : Prop := x.2.Wide 2000 ∧ x.2.kind = 3 ∧ ∀ v, x.2.get servicesT = some v → v.kind = 3
theorem passed_filed {l : Files} (h : ∀ x ∈ l, Passed x) (hl : l.length ≤ 5) : Filed 2000 l := by
  have hs := services_len (K := 2000) fun x hx => (h x hx).1
  exact ⟨fun x hx => (h x hx).1, fun x hx => (h x hx).2, by omega, by omega, by omega⟩

def isPassed (r : AV) : Prop := r = .tup [.slice 5 [], .slice 5 [], .bool false] ∨ ∃ l : Files, r = .tup [filesAV l, filesAV l, .bool true] ∧ (∀ x ∈ l, Passed x) ∧ l.length ≤ 5
theorem isPassed_no : isPassed (.tup [.slice 5 [], .slice 5 [], .bool false]) := .inl rfl
theorem isPassed_yes {l : Files} (h : ∀ x ∈ l, Passed x) (hl : l.length ≤ 5) : isPassed (.tup [filesAV l, filesAV l, .bool true]) := .inr ⟨l, rfl, h, hl⟩

theorem law21formed (l : Files) (h : ∀ x ∈ l, x.2.Short) : Total Tryz.prog 4 [filesAV l] isPassed := by
  refine total4 rfl ?_
  refine cutf [2, 3, 4] rfl (fun st => st.e 0 = filesAV l ∧ st.e 2 = .oslice 5 [] ∧ st.e 3 = .oslice 5 []) (by simp) ?_
  rintro st - ⟨g0, g2, g3⟩
  refine cutf [11, 2, 3, 4] rfl (fun st => l.length ≤ 5 ∧ st.e 2 = .oslice 5 [] ∧ st.e 3 = .oslice 5 []) ?_ ?_
  · by_cases h5 : (5 : Int) < l.length
    · simp [g0, h5]; exact isPassed_no
    · simp [g0, h5, g2, g3]; omega
  rintro st1 hf1 ⟨h5, g2, g3⟩
  refine cutf [5] rfl (fun st => st.e 5 = .oslice 5 []) (by simp) ?_
  rintro st2 hf2 g5
  refine cutf [6] rfl (fun st => st.e 6 = .oslice 5 []) (by simp) ?_
  rintro st3 hf3 g6
  refine cutf [7, 15, 33, 8, 42, 5, 6, 2, 3, 4] rfl (fun st => ∃ out : Files, st.e 5 = .oslice 5 (out.map namedAV) ∧ st.e 6 = .oslice 5 (out.map namedAV) ∧ (∀ x ∈ out, Passed x) ∧ out.length ≤ 5) ?_ ?_
  rotate_left
  · rintro st4 hf4 ⟨out, r5, r6, hp, hl⟩
    simp [r5, r6]
    exact isPassed_yes hp hl
  refine cutf [7] rfl (fun st => st.e 7 = .int .i64 0) (by simp) ?_
  rintro st4 hf4 g7
  rw [run_block]
  refine run_loopf [15, 33, 8, 42, 5, 6, 2, 3, 4, 7] rfl (fun st => st.e 2 = .oslice 5 [] ∧ st.e 3 = .oslice 5 [] ∧ ∃ (i : Nat) (out : Files), st.e 7 = .int .i64 i ∧ i ≤ l.length ∧ st.e 5 = .oslice 5 (out.map namedAV) ∧ st.e 6 = .oslice 5 (out.map namedAV) ∧ (∀ x ∈ out, Passed x) ∧ out.length = i) (fun st => l.length - natOf (st.e 7)) ?_ ?_
  · exact ⟨by simp [hf4, hf3, hf2, g2], by simp [hf4, hf3, hf2, g3], 0, [], g7, by omega, by simp [hf4, hf3, g5], by simp [hf4, g6], by simp, rfl⟩
  rintro s0 hf ⟨f2, f3, i, out, f7, hi, f5, f6, hp, hol⟩
  have q0 : s0.e 0 = filesAV l := by simp [hf, hf4, hf3, hf2, hf1, g0]
  clear hf hf1 hf2 hf3 hf4 g0 g2 g3 g5 g6 g7
  by_cases hlt : i < l.length
  rotate_left
  · simp [f7, q0, hlt, f5, f6]
    exact ⟨out, rfl, fun a b hx => hp _ hx, by omega⟩
  have hws := wrap_succ (i := i) (by omega)
  have hsh := h l[i] (List.getElem_mem hlt)
  have hsm := ref08Small (l[i]).2 hsh 200 (by omega)
  rw [nodeAV_eq] at hsm
  obtain ⟨sm, hsmd⟩ : ∃ sm, sm = (decide (0 ≤ left (l[i]).2 1 200) && short (l[i]).2) := ⟨_, rfl⟩
  rw [← hsmd] at hsm
  refine cut (fun st' => st' = put s0 15 (.bool true)) (by simp [f7, q0, hlt]) ?_
  rintro _ rfl
  rw [run_seq, run_block]
  refine cutf [33, 2, 3, 4] rfl (fun st => st.e 2 = .oslice 5 [] ∧ st.e 3 = .oslice 5 [] ∧ sm = true) ?_ ?_
  · simp [f7, q0, hlt]
    refine awpR_call (.bool sm) (by simp) (by simpa using hsm) (by simp) ?_
    cases sm
    · simp [f7, q0, hlt]
      exact isPassed_no
    · by_cases c2 : (100 : Int) < (l[i]).1.length
      · simp [f7, q0, hlt, c2]; exact isPassed_no
      · simp [f7, q0, hlt, c2, f2, f3]
  rintro s1 hs1 ⟨f2, f3, hc⟩
  rw [hc] at hsmd
  have hc := hsmd.symm
  rw [Bool.and_eq_true, decide_eq_true_eq] at hc
  have hinp := small_inp _ hsh 1 200 hc.1 (by omega) hc.2
  obtain ⟨_, ⟨m, p, e, rfl, hg, hpl, he0⟩, -, hcf⟩ := ref19File _ hinp
  rw [nodeAV_eq] at hcf
  refine cutf [8] rfl (fun st => st.e 8 = formedAV m p e) ?_ ?_
  · simp [hs1, f7, q0, hlt]
    refine awpR_call (formedAV m p e) (by simp) (by simpa using hcf) (by simp) ?_
    simp
  rintro s2 hs2 r8
  by_cases he : e = 0
  rotate_left
  · simp [r8, he]; exact isPassed_no
  have hfm := he0 he
  have hwm := left_wide m hg 1 2000 hfm.right (by omega)
  have b1 : (out.length + 1) * 88 ≤ 140737488355328 := by omega
  simp [r8, he, hs2, hs1, f7, q0, hlt, f5, f6, b1, hws, f2, f3]
  refine ⟨⟨i + 1, by omega, by omega, out ++ [((l[i]).1, m)], by simp, ?_, by simp [hol]⟩, by omega⟩
  intro a b hx
  rw [List.mem_append, List.mem_singleton] at hx
  rcases hx with hx | hx
  · exact hp _ hx
  · rw [Prod.mk.injEq] at hx
    obtain ⟨rfl, rfl⟩ := hx
    exact ⟨hwm, hfm.kind, hfm.services⟩

end Go.Proofs.YtccmaeefedgcnaaGreat

namespace Go.Proofs.YtccmaeefedgcnaaGreat

theorem whole_short {K : Nat} {l : Files} (h : Filed K l) (p : At) : (wholeN l p).1.Short := by
  unfold wholeN
  split
  · have hl := chainN_len l p
    have hw := overN_wide h.wide (chainN l p).1
    have hb := h.big
    have : K * (chainN l p).1.length ≤ K * ((servicesOf l).length + 2) := Nat.mul_le_mul_left K (by omega)
    exact (hw.good (by omega)).short
  · exact zero_good.short

theorem law21whole (l : Files) (h : ∀ x ∈ l, x.2.Short) (file service : Str) : Sound Tryz.prog 3 [filesAV l, .str file, .str service] (.bool true) := by
  refine sound3 rfl ?_
  refine cutf [6] rfl (fun st => st.e 0 = filesAV l ∧ st.e 1 = .str file ∧ st.e 2 = .str service) (by simp) ?_
  rintro st - ⟨g0, g1, g2⟩
  obtain ⟨r, hr, hrd, hcf⟩ := law21formed l h
  refine cutf [7, 8, 9] rfl (fun st => .tup [st.e 7, st.e 8, st.e 9] = r) ?_ ?_
  · simp [g0]
    refine awpR_call r (by simp) (by simpa using hcf) hrd ?_
    rcases hr with rfl | ⟨l', rfl, _, _⟩ <;> simp
  rintro st1 hf1 gr
  rcases hr with rfl | ⟨l', rfl, hp, hl5⟩
  · simp only [AV.tup.injEq, List.cons.injEq, and_true] at gr
    obtain ⟨g7, g8, g9⟩ := gr
    simp [g9]
    refine awpR_call (.bool true) (by simp) (by simpa using law21awake) (by simp) ?_
    simp
  simp only [AV.tup.injEq, List.cons.injEq, and_true] at gr
  obtain ⟨g7, g8, g9⟩ := gr
  have hfd := passed_filed (fun x hx => hp x hx) hl5
  have oe := oneE hfd (file, service)
  have o1 := one21 hfd (file, service)
  have ce := chainE hfd (file, service)
  have c1 := chain21 hfd (file, service)
  have hlen := chainN_len l' (file, service)
  have hfew := hfd.few
  have hsh := whole_short hfd (file, service)
  generalize wholeN l' (file, service) = wh at oe o1 hsh
  generalize (chainN l' (file, service)).1 = ch at ce c1 hlen
  obtain ⟨wn, we⟩ := wh
  refine cutf [24, 6] rfl (fun st => True) (by simp [g9]) ?_
  rintro st2 hf2 -
  refine cutf [10, 11] rfl (fun st => st.e 10 = nodeAV wn ∧ st.e 11 = .int .i64 we) ?_ ?_
  · simp [hf2, hf1, g8, g1, g2]
    refine awpR_call (wholeAV (wn, we)) (by simp) (by simpa using oe) (by simp) ?_
    simp
  rintro st3 hf3 ⟨g10, g11⟩
  refine cutf [12, 13] rfl (fun st => st.e 12 = nodeAV wn ∧ st.e 13 = .int .i64 we) ?_ ?_
  · simp [hf3, hf2, hf1, g7, g1, g2]
    refine awpR_call (wholeAV (wn, we)) (by simp) (by simpa using o1) (by simp) ?_
    simp
  rintro st4 hf4 ⟨g12, g13⟩
  refine cutf [14, 15] rfl (fun st => st.e 14 = chainAV ch ∧ st.e 15 = chainAV ch) ?_ ?_
  · simp [hf4, hf3, hf2, hf1, g7, g8, g1, g2]
    refine awpR_call (chainAV ch) (by simp) (by simpa using ce) (by simp) ?_
    simp [hf4, hf3, hf2, hf1, g7, g8, g1, g2]
    refine awpR_call (chainAV ch) (by simp) (by simpa using c1) (by simp) ?_
    simp
  rintro st5 hf5 ⟨g14, g15⟩
  refine cutf [65, 6] rfl (fun st => True) ?_ ?_
  · simp [hf5, hf4, g10, g12]
    refine awpR_call (.bool true) (by simp) (by simpa using ref08Same wn hsh) (by simp) ?_
    simp [hf5, hf4, g10, g11, g12, g13, g14, g15]
  rintro st6 hf6 -
  refine cutf [16, 69, 80, 6] rfl (fun st => True) ?_ ?_
  rotate_left
  · rintro st7 - -
    simp
    refine awpR_call (.bool true) (by simp) (by simpa using law21awake) (by simp) ?_
    simp
  refine cutf [16] rfl (fun st => st.e 16 = .int .i64 0) (by simp) ?_
  rintro st7 hf7 g16
  rw [run_block]
  refine run_loopf [69, 80, 6, 16] rfl (fun st => ∃ i : Nat, st.e 16 = .int .i64 i ∧ i ≤ ch.length) (fun st => ch.length - natOf (st.e 16)) ?_ ?_
  · exact ⟨0, g16, by omega⟩
  rintro s0 hf ⟨i, f16, hi⟩
  by_cases hlt : i < ch.length
  · have hws := wrap_succ (i := i) (by omega)
    simp [hf, hf7, hf6, g14, g15, f16, hlt, hws]
    exact ⟨⟨i + 1, by omega, by omega⟩, by omega⟩
  · simp [hf, hf7, hf6, g14, g15, f16, hlt]

end Go.Proofs.YtccmaeefedgcnaaGreat
