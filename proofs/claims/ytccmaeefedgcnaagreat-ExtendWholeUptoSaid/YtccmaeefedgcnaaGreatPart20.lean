/-
  A NODE OVER ANOTHER ONE: what it is, and what it keeps.
  CONTRACTS: longshoreref20.Two and blend.Two: both are the one node over the other.
  CONTRACT: longshoreref20.Two is the one node over the other.
-/
import Derived.Test.YtccmaeefedgcnaaGreatPart19
set_option linter.all false

namespace Go.Proofs.YtccmaeefedgcnaaGreat

abbrev extendsT : Str := [101, 120, 116, 101, 110, 100, 115]
mutual
/-- The second node is the one below. -/
def Node.over : Node → Node → Node
  | ⟨kind, text, keys, kids⟩, a => if a.kind = 3 ∧ kind = 3 then
      ⟨3, [], sortU (a.keys ++ keys), (sortU (a.keys ++ keys)).map fun k => match (keys.idxOf? k).bind fun i => (overs kids keys a)[i]? with | some v => v | none => (a.get k).getD zeroN⟩
    else ⟨kind, text, keys, kids⟩
def overs : List Node → List Str → Node → List Node
  | [], _, _ => []
  | _ :: _, [], _ => []
  | y :: ys, k :: ks, a => (match a.get k with | some x => if k = extendsT then y else y.over x | none => y) :: overs ys ks a
end
/-- A node laid over another one. -/
def Node.two (a b : Node) : Node := b.over a
def twoPick (a : Node) (k : Str) (y : Node) : Node := match a.get k with | some x => if k = extendsT then y else x.two y | none => y
/-- What stands by a key. -/
def twoAt (a b : Node) (k : Str) : Node := match b.get k with | some y => twoPick a k y | none => (a.get k).getD zeroN

theorem overs_get (a : Node) : ∀ (kids : List Node) (keys : List Str) (i : Nat), (overs kids keys a)[i]? = (keys[i]?).bind fun k => (kids[i]?).map (twoPick a k)
  | [], keys, i => by simp [overs]
  | y :: ys, [], i => by simp [overs]
  | y :: ys, k :: ks, 0 => by simp [overs, twoPick, Node.two]
  | y :: ys, k :: ks, i + 1 => by simp only [overs, List.getElem?_cons_succ]; exact overs_get a ys ks i

theorem two_eq (a b : Node) : a.two b = if a.kind = 3 ∧ b.kind = 3 then ⟨3, [], sortU (a.keys ++ b.keys), (sortU (a.keys ++ b.keys)).map (twoAt a b)⟩ else b := by
  cases b with
  | mk kind text keys kids =>
    simp only [Node.two, Node.over]
    split
    · rename_i h
      simp only [Node.mk.injEq, true_and]
      apply List.map_congr_left
      intro k _
      simp only [twoAt, Node.get, h.2, if_true]
      cases hi : keys.idxOf? k with
      | none => rfl
      | some i =>
        obtain ⟨h1, h2⟩ := idx_lt hi
        simp only [Option.bind_some, overs_get, List.getElem?_eq_getElem h1, h2]
        cases kids[i]? <;> rfl
    · rfl


theorem twoAt_wide {K1 K2 : Nat} {a b : Node} (ha : a.Wide K1) (hb : b.Wide K2) (ih : ∀ y ∈ b.kids, ∀ x : Node, x.Wide K1 → (x.two y).Wide (K1 + K2)) (k : Str) : (twoAt a b k).Wide (K1 + K2) := by
  unfold twoAt
  cases hy : b.get k with
  | some y =>
    have hyw := (hb.get hy).mono (K' := K1 + K2) (by omega)
    simp only [twoPick]
    cases hx : a.get k with
    | some x =>
      simp only
      split
      · exact hyw
      · exact ih y (get_mem hy) x (ha.get hx)
    | none => exact hyw
  | none =>
    cases hx : a.get k with
    | some x => exact (ha.get hx).mono (by omega)
    | none => exact zero_wide

theorem two_wide {K1 K2 : Nat} {b : Node} (hb : b.Wide K2) : ∀ {a : Node}, a.Wide K1 → (a.two b).Wide (K1 + K2) := by
  induction hb with
  | @mk b h1 h2 h3 h0 ht hk hc ih =>
    intro a ha
    have hb : b.Wide K2 := .mk h1 h2 h3 h0 ht hk hc
    rw [two_eq]
    split
    · have hl := sortU_len_le (a.keys ++ b.keys)
      rw [List.length_append] at hl
      have := ha.keys
      refine .mk (by simp; omega) (by simp; omega) (fun _ => ⟨by simp, rfl, rising_nodup (rising_sortU _)⟩) (by simp) (by simp) ?_ ?_
      · intro k hkm
        rw [mem_sortU, List.mem_append] at hkm
        rcases hkm with h | h
        · exact ha.key k h
        · exact hk k h
      · intro v hv
        simp only [List.mem_map] at hv
        obtain ⟨k, _, rfl⟩ := hv
        exact twoAt_wide ha hb (fun y hy x hx => ih y hy hx) k
    · exact hb.mono (by omega)

theorem less_wide {K : Nat} {n : Node} (h : n.Wide K) (key : Str) : (n.less key).Wide K := by
  rw [less_place h]
  cases hp : n.place key with
  | none => exact h
  | some i =>
    obtain ⟨hk3, h1, h2⟩ := place_lt h hp
    obtain ⟨hl, ht, hn⟩ := h.map hk3
    have q1 := h.keys
    have q2 := h.kids
    refine .mk (by simp [List.length_eraseIdx, h1]; omega) (by simp [List.length_eraseIdx, h2]; omega) (fun _ => ⟨by simp [List.length_eraseIdx, h1, h2]; omega, rfl, hn.sublist (List.eraseIdx_sublist _ _)⟩) (by simp) (by simp) ?_ ?_
    · intro k hk; exact h.key k (List.mem_of_mem_eraseIdx hk)
    · intro k hk; exact h.kid (List.mem_of_mem_eraseIdx hk)

theorem sortU_nodup {l : List Str} (h : (sortU l).length = l.length) : l.Nodup := by
  induction l with
  | nil => simp
  | cons x l ih =>
    have hle := sortU_len_le l
    have e : sortU (x :: l) = ins x (sortU l) := rfl
    rw [e] at h
    have key : ∀ (m : List Str), (ins x m).length ≤ m.length + 1 ∧ ((ins x m).length = m.length + 1 → Rising m → x ∉ m) := by
      intro m
      induction m with
      | nil => simp [ins]
      | cons y m ihm =>
        simp only [ins]
        split
        · rename_i hxy
          refine ⟨by simp, fun _ hr hm => ?_⟩
          rcases List.mem_cons.1 hm with rfl | hm
          · exact str_irrefl _ hxy
          · exact str_irrefl _ (str_trans hxy ((List.pairwise_cons.1 hr).1 x hm))
        · split
          · refine ⟨by simp, fun h => by simp at h⟩
          · rename_i h1 h2
            refine ⟨by simp; exact ihm.1, fun h hr hm => ?_⟩
            rcases List.mem_cons.1 hm with rfl | hm
            · exact h2 rfl
            · exact ihm.2 (by simpa using h) (List.pairwise_cons.1 hr).2 hm
    obtain ⟨k1, k2⟩ := key (sortU l)
    simp only [List.length_cons] at h
    refine List.nodup_cons.2 ⟨fun hx => k2 (by omega) (rising_sortU l) (mem_sortU.2 hx), ih (by omega)⟩

/-- What is right, and good, is wide. -/
theorem left_wide : ∀ (n : Node), n.Good → ∀ (deep l : Int), 0 ≤ left n deep l → l ≤ 2000 → n.Wide 2000 := by
  intro n hg
  obtain ⟨hs, hf⟩ := hg
  induction hs with
  | @mk n h1 h2 h3 h4 h5 ih =>
    intro deep l hl hb
    rw [left_eq] at hl
    split at hl
    · omega
    rename_i c1
    split at hl
    · omega
    rename_i c2
    split at hl
    · omega
    rename_i c3
    have key : ∀ (ks : List Node) (l : Int), (∀ k ∈ ks, k ∈ n.kids) → 0 ≤ lefts ks (deep + 1) l → l ≤ 2000 → (∀ k ∈ ks, k.Wide 2000) ∧ (ks.length : Int) ≤ l := by
      intro ks
      induction ks with
      | nil => intro l _ h _; rw [lefts] at h; exact ⟨by simp, by simpa using h⟩
      | cons k ks ihk =>
        intro l hm h hb
        rw [lefts] at h
        split at h
        · omega
        rename_i hk0
        have hl0 : 0 ≤ l := by
          rcases Int.lt_or_le l 0 with hneg | h0
          · rw [left_eq] at hk0
            rw [if_pos (by omega)] at hk0
            omega
          · exact h0
        have hr := left_range k (deep + 1) l hl0
        obtain ⟨q1, q2⟩ := ihk (left k (deep + 1) l) (fun x hx => hm x (by simp [hx])) h (by omega)
        refine ⟨fun x hx => ?_, by simp; omega⟩
        rcases List.mem_cons.1 hx with rfl | hx
        · exact ih x (hm x (by simp)) (hf.kid (hm x (by simp))) (deep + 1) l (by omega) hb
        · exact q1 x hx
    obtain ⟨q1, q2⟩ := key n.kids (l - 1) (fun _ h => h) hl (by omega)
    have hkl : n.keys.length ≤ n.kids.length := by
      by_cases hk : n.kind = 3
      · have : n.keys.length = n.kids.length := by
          refine Classical.byContradiction fun hne => c3 ⟨hk, .inl hne⟩
        omega
      · have : n.keys = [] := Classical.byContradiction fun hne => c2 (.inr (.inl ⟨hk, hne⟩))
        rw [this]; simp
    refine .mk (by omega) (by omega) (fun hk => ⟨?_, ?_, ?_⟩) (fun hk => Classical.byContradiction fun hne => c2 (.inr (.inl ⟨hk, hne⟩))) h4 h5 q1
    · exact Classical.byContradiction fun hne => c3 ⟨hk, .inl hne⟩
    · exact Classical.byContradiction fun hne => c2 (.inl ⟨by omega, hne⟩)
    · exact sortU_nodup (Classical.byContradiction fun hne => c3 ⟨hk, .inr (.inr hne)⟩)

end Go.Proofs.YtccmaeefedgcnaaGreat

namespace Go.Proofs.YtccmaeefedgcnaaGreat

/-- The first keys, with what stands by them. -/
def twoK (a b : Node) (i : Nat) : List Str := (sortU (a.keys ++ b.keys)).take i
def twoV (a b : Node) (i : Nat) : List Node := (twoK a b i).map (twoAt a b)
@[simp] theorem twoK_zero (a b : Node) : twoK a b 0 = [] := by simp [twoK]
@[simp] theorem twoV_zero (a b : Node) : twoV a b 0 = [] := by simp [twoV]
theorem twoK_succ (a b : Node) {i : Nat} (h : i < (sortU (a.keys ++ b.keys)).length) : twoK a b (i + 1) = twoK a b i ++ [(sortU (a.keys ++ b.keys))[i]] := by
  simp only [twoK]; exact List.take_succ_eq_append_getElem h
theorem twoV_succ (a b : Node) {i : Nat} (h : i < (sortU (a.keys ++ b.keys)).length) : twoV a b (i + 1) = twoV a b i ++ [twoAt a b (sortU (a.keys ++ b.keys))[i]] := by
  simp only [twoV, twoK_succ a b h, List.map_append, List.map_cons, List.map_nil]
theorem twoK_len (a b : Node) (i : Nat) : (twoK a b i).length ≤ i := by simp only [twoK, List.length_take]; omega
theorem twoV_len (a b : Node) (i : Nat) : (twoV a b i).length ≤ i := by simp only [twoV, List.length_map]; exact twoK_len a b i

abbrev buildN (ks : List Str) (vs : List Node) : AV := .agg [.int .i64 3, .str [], .oslice 1 (ks.map .str), .oslice 4 (vs.map nodeAV)]

theorem pairsB (a b : Node) : Sound Tryz.prog 34 [nodeAV a, nodeAV b] (.bool (decide (a.kind = 3 ∧ b.kind = 3))) := by
  refine sound34 rfl ?_
  by_cases h1 : a.kind = 3
  · by_cases h2 : b.kind = 3 <;> simp [h1, h2]
  · simp [h1]

set_option maxHeartbeats 1000000 in
theorem twoB {K1 K2 : Nat} {b : Node} (hb : b.Wide K2) (hK : K1 + K2 ≤ 1073741824) : ∀ {a : Node}, a.Wide K1 → Sound Tryz.prog 16 [nodeAV a, nodeAV b] (nodeAV (a.two b)) := by
  induction hb with
  | @mk b h1 h2 h3 h0 ht hk hc ih =>
  intro a ha
  have hb : b.Wide K2 := .mk h1 h2 h3 h0 ht hk hc
  have hka := ha.keys
  refine sound16 rfl ?_
  refine cutf [2, 3, 4] rfl (fun st => st.e 2 = nodeAV a ∧ st.e 3 = nodeAV b ∧ st.e 4 = noNode) (by simp) ?_
  rintro st - ⟨g2, g3, g4⟩
  refine cutf [15, 4] rfl (fun st => st.e 4 = noNode ∧ a.kind = 3 ∧ b.kind = 3) ?_ ?_
  · simp [g2, g3]
    refine awpR_call (.bool (decide (a.kind = 3 ∧ b.kind = 3))) (by simp) (by simpa using pairsB a b) (by simp) ?_
    by_cases hc : a.kind = 3 ∧ b.kind = 3
    · simp [hc, g4]
    · rw [two_eq, if_neg hc]
      simp [hc, g3, g4]
  rintro st1 hf1 ⟨f4, hak, hbk⟩
  have f2 : st1.e 2 = nodeAV a := by simp [hf1, g2]
  have f3 : st1.e 3 = nodeAV b := by simp [hf1, g3]
  clear hf1 g2 g3 g4
  rw [two_eq, if_pos ⟨hak, hbk⟩]
  refine cutf [5] rfl (fun st => st.e 5 = buildN [] []) (by simp) ?_
  rintro st2 hf2 g5
  have hK2 := sortU_len_le (a.keys ++ b.keys)
  rw [List.length_append] at hK2
  have hgoal : ∀ K, K = sortU (a.keys ++ b.keys) → K.length ≤ 1073741824 := fun K e => by rw [e]; omega
  refine cutf [22, 23, 24, 25, 7, 8, 9, 10, 11, 40, 44, 5] rfl (fun st => st.e 5 = buildN (twoK a b (sortU (a.keys ++ b.keys)).length) (twoV a b (sortU (a.keys ++ b.keys)).length)) ?_ ?_
  rotate_left
  · rintro st3 hf3 g5
    have e1 : twoK a b (sortU (a.keys ++ b.keys)).length = sortU (a.keys ++ b.keys) := by simp [twoK]
    rw [twoV, e1] at g5
    simp [g5, hf3, hf2, f4, nodeAV]
  refine cutf [22, 23, 24] rfl (fun st => st.e 22 = .slice 1 ((sortU (a.keys ++ b.keys)).map .str) ∧ st.e 23 = .int .i64 (sortU (a.keys ++ b.keys)).length ∧ st.e 24 = .int .i64 0) ?_ ?_
  · simp [hf2, f2, f3]
    refine awpR_call (.slice 1 ((sortU (a.keys ++ b.keys)).map .str)) (by simp) (by simpa using nameBoth a.keys b.keys (by omega)) (by simp) ?_
    simp
  rintro st3 hf3 ⟨g22, g23, g24⟩
  rw [run_block]
  refine run_loopf [25, 7, 8, 9, 10, 11, 40, 44, 5, 24] rfl (fun st => ∃ i : Nat, st.e 24 = .int .i64 i ∧ i ≤ (sortU (a.keys ++ b.keys)).length ∧ st.e 5 = buildN (twoK a b i) (twoV a b i)) (fun st => (sortU (a.keys ++ b.keys)).length - natOf (st.e 24)) ?_ ?_
  · exact ⟨0, g24, by omega, by simp [hf3, g5]⟩
  rintro s0 hf ⟨i, f24, hi, f5⟩
  have q2 : s0.e 2 = nodeAV a := by simp [hf, hf3, hf2, f2]
  have q3 : s0.e 3 = nodeAV b := by simp [hf, hf3, hf2, f3]
  have q22 : s0.e 22 = .slice 1 ((sortU (a.keys ++ b.keys)).map .str) := by simp [hf, g22]
  have q23 : s0.e 23 = .int .i64 (sortU (a.keys ++ b.keys)).length := by simp [hf, g23]
  clear hf
  by_cases hlt : i < (sortU (a.keys ++ b.keys)).length
  rotate_left
  · have : i = (sortU (a.keys ++ b.keys)).length := by omega
    subst this
    simp [f24, q23, f5]
  have hws := wrap_succ (i := i) (by omega)
  have ks := twoK_succ a b hlt
  have vs := twoV_succ a b hlt
  have kl := twoK_len a b i
  have vl := twoV_len a b i
  generalize hkey : (sortU (a.keys ++ b.keys))[i] = key at ks vs
  refine cut (fun st' => st' = put s0 25 (.bool true)) (by simp [f24, q23, hlt]) ?_
  rintro _ rfl
  rw [run_seq, run_cond]
  refine ⟨true, by simp, fun _ => ?_, fun h => absurd h (by simp)⟩
  rw [run_skip, unw_code]
  refine cutf [7, 8, 9, 10, 11, 40, 44, 5] rfl (fun st => st.e 5 = buildN (twoK a b (i + 1)) (twoV a b (i + 1))) ?_ ?_
  rotate_left
  · rintro s1 hs1 r5
    simp [hs1, f24, hws, r5]
    exact ⟨⟨i + 1, by omega, by omega, rfl, rfl⟩, by omega⟩
  rw [run_block]
  refine cutf [7] rfl (fun st => st.e 7 = .str key) ?_ ?_
  · simp [q22, f24, hlt, hkey]
  rintro s1 hs1 r7
  refine cutf [8, 9] rfl (fun st => st.e 8 = nodeAV ((a.get key).getD zeroN) ∧ st.e 9 = .bool (a.get key).isSome) ?_ ?_
  · simp [hs1, q2, r7]
    refine awpR_call (getAV (a.get key)) (by simp) (by simpa using nodeGet a ha (by omega) key) (getAV_data _) ?_
    cases a.get key <;> simp [getAV, nodeAV_zero]
  rintro s2 hs2 ⟨r8, r9⟩
  refine cutf [10, 11] rfl (fun st => st.e 10 = nodeAV ((b.get key).getD zeroN) ∧ st.e 11 = .bool (b.get key).isSome) ?_ ?_
  · simp [hs2, hs1, q3, r7]
    refine awpR_call (getAV (b.get key)) (by simp) (by simpa using nodeGet b hb (by omega) key) (getAV_data _) ?_
    cases b.get key <;> simp [getAV, nodeAV_zero]
  rintro s3 hs3 ⟨r10, r11⟩
  refine cutf [40, 10, 44] rfl (fun st => st.e 10 = nodeAV (twoAt a b key)) ?_ ?_
  · cases hy : b.get key with
    | none =>
      rw [hy] at r10 r11
      have e : twoAt a b key = (a.get key).getD zeroN := by simp [twoAt, hy]
      rw [e]
      simp [r11, hs3, hs2, r8, r10]
    | some y =>
      rw [hy] at r10 r11
      cases hx : a.get key with
      | none =>
        rw [hx] at r9
        have e : twoAt a b key = y := by simp [twoAt, hy, twoPick, hx]
        rw [e]
        simp [r11, hs3, hs2, r9, r10]
      | some x =>
        rw [hx] at r8 r9
        by_cases he : key = extendsT
        · have e : twoAt a b key = y := by simp only [twoAt, hy, twoPick, hx, if_pos he]
          rw [e]
          simp [r11, hs3, hs2, hs1, r9, r7, he, r10]
        · have e : twoAt a b key = x.two y := by simp [twoAt, hy, twoPick, hx, he]
          rw [e]
          simp [r11, hs3, hs2, hs1, r9, r7, he, r8, r10]
          refine awpR_call (nodeAV (x.two y)) (by simp) (by simpa using ih y (get_mem hy) (ha.get hx)) (by simp) ?_
          simp [r10, hs3]
  rintro s4 hs4 r10
  have b1 : ((twoK a b i).length + 1) * 16 ≤ 140737488355328 := by omega
  have b2 : ((twoV a b i).length + 1) * 72 ≤ 140737488355328 := by omega
  simp [hs4, hs3, hs2, hs1, f5, r7, r10, b1, b2, ks, vs]

end Go.Proofs.YtccmaeefedgcnaaGreat

namespace Go.Proofs.YtccmaeefedgcnaaGreat

set_option maxHeartbeats 1000000 in
theorem two20 {K1 K2 : Nat} {b : Node} (hb : b.Wide K2) (hK : K1 + K2 ≤ 1073741824) : ∀ {a : Node}, a.Wide K1 → Sound Tryz.prog 19 [nodeAV a, nodeAV b] (nodeAV (a.two b)) := by
  induction hb with
  | @mk b h1 h2 h3 h0 ht hk hc ih =>
  intro a ha
  have hb : b.Wide K2 := .mk h1 h2 h3 h0 ht hk hc
  have hka := ha.keys
  refine sound19 rfl ?_
  refine cutf [2, 3, 4] rfl (fun st => st.e 2 = nodeAV a ∧ st.e 3 = nodeAV b ∧ st.e 4 = noNode) (by simp) ?_
  rintro st - ⟨g2, g3, g4⟩
  refine cutf [20, 4] rfl (fun st => st.e 4 = noNode ∧ a.kind = 3 ∧ b.kind = 3) ?_ ?_
  · rw [two_eq]
    by_cases c1 : a.kind = 3
    · by_cases c2 : b.kind = 3
      · simp [g2, g3, g4, c1, c2]
      · simp [g2, g3, g4, c1, c2]
    · simp [g2, g3, g4, c1]
  rintro st1 hf1 ⟨f4, hak, hbk⟩
  have f2 : st1.e 2 = nodeAV a := by simp [hf1, g2]
  have f3 : st1.e 3 = nodeAV b := by simp [hf1, g3]
  clear hf1 g2 g3 g4
  rw [two_eq, if_pos ⟨hak, hbk⟩]
  have hK2 := sortU_len_le (a.keys ++ b.keys)
  rw [List.length_append] at hK2
  refine cutf [5] rfl (fun st => st.e 5 = .slice 1 ((sortU (a.keys ++ b.keys)).map .str)) ?_ ?_
  · simp [f2, f3]
    refine awpR_call (.slice 1 ((sortU (a.keys ++ b.keys)).map .str)) (by simp) (by simpa using ref02Both a.keys b.keys (by omega)) (by simp) ?_
    simp
  rintro st2 hf2 g5
  refine cutf [6] rfl (fun st => st.e 6 = buildN [] []) (by simp) ?_
  rintro st3 hf3 g6
  refine cutf [7, 31, 8, 9, 10, 11, 12, 54, 63, 6] rfl (fun st => st.e 6 = buildN (twoK a b (sortU (a.keys ++ b.keys)).length) (twoV a b (sortU (a.keys ++ b.keys)).length)) ?_ ?_
  rotate_left
  · rintro st4 hf4 g5
    have e1 : twoK a b (sortU (a.keys ++ b.keys)).length = sortU (a.keys ++ b.keys) := by simp [twoK]
    rw [twoV, e1] at g5
    simp [g5, hf4, hf3, hf2, f4, nodeAV]
  refine cutf [7] rfl (fun st => st.e 7 = .int .i64 0) (by simp) ?_
  rintro st4 hf4 g7
  rw [run_block]
  refine run_loopf [31, 8, 9, 10, 11, 12, 54, 63, 6, 7] rfl (fun st => ∃ i : Nat, st.e 7 = .int .i64 i ∧ i ≤ (sortU (a.keys ++ b.keys)).length ∧ st.e 6 = buildN (twoK a b i) (twoV a b i)) (fun st => (sortU (a.keys ++ b.keys)).length - natOf (st.e 7)) ?_ ?_
  · exact ⟨0, g7, by omega, by simp [hf4, g6]⟩
  rintro s0 hf ⟨i, f7, hi, f6⟩
  have q2 : s0.e 2 = nodeAV a := by simp [hf, hf4, hf3, hf2, f2]
  have q3 : s0.e 3 = nodeAV b := by simp [hf, hf4, hf3, hf2, f3]
  have q5 : s0.e 5 = .slice 1 ((sortU (a.keys ++ b.keys)).map .str) := by simp [hf, hf4, hf3, g5]
  clear hf
  by_cases hlt : i < (sortU (a.keys ++ b.keys)).length
  rotate_left
  · have : i = (sortU (a.keys ++ b.keys)).length := by omega
    subst this
    simp [f7, q5, f6]
  have hws := wrap_succ (i := i) (by omega)
  have ks := twoK_succ a b hlt
  have vs := twoV_succ a b hlt
  have kl := twoK_len a b i
  have vl := twoV_len a b i
  have hget? : ((sortU (a.keys ++ b.keys)).map AV.str)[i]? = some (.str (sortU (a.keys ++ b.keys))[i]) := by simp [hlt]
  generalize hkey : (sortU (a.keys ++ b.keys))[i] = key at ks vs hget?
  refine cut (fun st' => st' = put s0 31 (.bool true)) (by simp [f7, q5, hlt]) ?_
  rintro _ rfl
  refine cutf [8, 9, 10, 11, 12, 54, 63, 6] rfl (fun st => st.e 6 = buildN (twoK a b (i + 1)) (twoV a b (i + 1))) ?_ ?_
  rotate_left
  · rintro s1 hs1 r5
    simp [hs1, f7, hws, r5]
    exact ⟨⟨i + 1, by omega, by omega, rfl, rfl⟩, by omega⟩
  rw [run_block]
  refine cutf [8, 9] rfl (fun st => st.e 8 = nodeAV ((a.get key).getD zeroN) ∧ st.e 9 = .bool (a.get key).isSome) ?_ ?_
  · simp [q2, q5, f7, hlt, hkey]
    refine awpR_call (getAV (a.get key)) (by simp) (by simpa using soundGet (ha.good (by omega)) key) (getAV_data _) ?_
    cases a.get key <;> simp [getAV, nodeAV_zero]
  rintro s2 hs2 ⟨r8, r9⟩
  refine cutf [10, 11] rfl (fun st => st.e 10 = nodeAV ((b.get key).getD zeroN) ∧ st.e 11 = .bool (b.get key).isSome) ?_ ?_
  · simp [hs2, q3, q5, f7, hlt, hkey]
    refine awpR_call (getAV (b.get key)) (by simp) (by simpa using soundGet (hb.good (by omega)) key) (getAV_data _) ?_
    cases b.get key <;> simp [getAV, nodeAV_zero]
  rintro s3 hs3 ⟨r10, r11⟩
  refine cutf [12] rfl (fun st => st.e 12 = nodeAV ((b.get key).getD zeroN)) (by simp [r10]) ?_
  rintro s4 hs4 r12
  refine cutf [12, 54, 63] rfl (fun st => st.e 12 = nodeAV (twoAt a b key)) ?_ ?_
  · cases hy : b.get key with
    | none =>
      rw [hy] at r10 r11 r12
      have e : twoAt a b key = (a.get key).getD zeroN := by simp [twoAt, hy]
      rw [e]
      simp [r11, hs4, hs3, r8, r12]
    | some y =>
      rw [hy] at r10 r11 r12
      cases hx : a.get key with
      | none =>
        rw [hx] at r9
        have e : twoAt a b key = y := by simp [twoAt, hy, twoPick, hx]
        rw [e]
        simp [r11, hs4, hs3, r9, r12]
      | some x =>
        rw [hx] at r8 r9
        by_cases he : key = extendsT
        · have e : twoAt a b key = y := by simp only [twoAt, hy, twoPick, hx, if_pos he]
          rw [e]
          simp [r11, hs4, hs3, hs2, r9, q5, f7, hlt, hkey, he, r12]
        · have e : twoAt a b key = x.two y := by simp [twoAt, hy, twoPick, hx, he]
          rw [e]
          simp [r11, hs4, hs3, hs2, r9, q5, f7, hlt, hkey, he, r8, r10]
          refine awpR_call (nodeAV (x.two y)) (by simp) (by simpa using ih y (get_mem hy) (ha.get hx)) (by simp) ?_
          simp [r12]
  rintro s5 hs5 r12
  have b1 : ((twoK a b i).length + 1) * 16 ≤ 140737488355328 := by omega
  have b2 : ((twoV a b i).length + 1) * 72 ≤ 140737488355328 := by omega
  simp [hs5, hs4, hs3, hs2, f6, q5, f7, hlt, hkey, r12, b1, b2, ks, vs]

end Go.Proofs.YtccmaeefedgcnaaGreat
