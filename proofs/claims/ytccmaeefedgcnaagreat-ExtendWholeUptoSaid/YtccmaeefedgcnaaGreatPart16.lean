/-
  CONTRACTS: longshoreref18, onePort, Ports.
  CONTRACTS: longshoreref18, oneMount, Mounts.
  CONTRACTS: longshoreref18, edge, Deps, Extends.
-/
import Derived.Test.YtccmaeefedgcnaaGreatPart15
import Derived.Test.YtccmaeefedgcnaaGreatPart14
import Derived.Test.YtccmaeefedgcnaaGreatPart07
set_option linter.all false

namespace Go.Proofs.YtccmaeefedgcnaaGreat

/-- A variable that holds a node, of its own or not. -/
structure IsN (v : AV) (m : Node) : Prop where
  cells : v.cells.map AV.un1 = [.int .i64 m.kind, .str m.text, .slice 1 (m.keys.map .str), .slice 4 (m.kids.map nodeAV)]
  undef : v ≠ .undef
  len : v.cells.length = 4
  of : ∀ l, AV.ofCells v l = .agg l
  noB : v.noB = v
  un : v.un = nodeAV m
  drop : v.cells.drop 4 = []
theorem isN_node (m : Node) : IsN (nodeAV m) m := ⟨by rw [nodeAV_eq]; rfl, nodeAV_undef m, by simp, nodeAV_of m, nodeAV_noB m, nodeAV_un m, by simp⟩
theorem isN_agg (m : Node) : IsN (.agg [.int .i64 m.kind, .str m.text, .slice 1 (m.keys.map .str), .slice 4 (m.kids.map nodeAV)]) m := by rw [nodeAV_fold]; exact isN_node m
theorem isN_zero : IsN noNode zeroN := ⟨rfl, by simp, rfl, fun _ => rfl, rfl, by rw [nodeAV_zero]; rfl, rfl⟩
theorem isN_zero' : IsN (.agg [.int .i64 0, .str [], .slice 1 [], .slice 4 []]) zeroN := by rw [← nodeAV_zero]; exact isN_node _
attribute [simp] isN_agg isN_node isN_zero isN_zero'

/-- A node as files have them: right, and not too great. -/
inductive Node.Inp : Node → Prop
  | mk {n : Node} (hk : 0 ≤ n.kind ∧ n.kind ≤ 3) (h3 : n.kind ≠ 3 → n.keys = []) (h2 : n.kind < 2 → n.kids = []) (h : n.kind = 3 → n.keys.length = n.kids.length)
      (hl : n.kids.length ≤ 1048576) (ht : n.text.length ≤ 1048576) (hkey : ∀ k ∈ n.keys, k.length ≤ 1048576) (hc : ∀ k ∈ n.kids, Node.Inp k) : Node.Inp n
theorem Node.Inp.kind {n : Node} (h : n.Inp) : 0 ≤ n.kind ∧ n.kind ≤ 3 := by cases h; assumption
theorem Node.Inp.nokeys {n : Node} (h : n.Inp) : n.kind ≠ 3 → n.keys = [] := by cases h; assumption
theorem Node.Inp.nokids {n : Node} (h : n.Inp) : n.kind < 2 → n.kids = [] := by cases h; assumption
theorem Node.Inp.len {n : Node} (h : n.Inp) : n.kind = 3 → n.keys.length = n.kids.length := by cases h; assumption
theorem Node.Inp.kids {n : Node} (h : n.Inp) : n.kids.length ≤ 1048576 := by cases h; assumption
theorem Node.Inp.text {n : Node} (h : n.Inp) : n.text.length ≤ 1048576 := by cases h; assumption
theorem Node.Inp.key {n : Node} (h : n.Inp) {k : Str} (hk : k ∈ n.keys) : k.length ≤ 1048576 := by cases h with | mk _ _ _ _ _ _ h7 _ => exact h7 k hk
theorem Node.Inp.kid {n : Node} (h : n.Inp) {k : Node} (hk : k ∈ n.kids) : k.Inp := by cases h with | mk _ _ _ _ _ _ _ h8 => exact h8 k hk
theorem Node.Inp.keys {n : Node} (h : n.Inp) : n.keys.length ≤ n.kids.length := by
  by_cases hk : n.kind = 3
  · rw [h.len hk]; exact Nat.le_refl _
  · rw [h.nokeys hk]; simp
theorem Node.Inp.good {n : Node} (h : n.Inp) : n.Good := by
  induction h with
  | @mk n hk h3 h2 h4 hl ht hkey hc ih =>
    have hle : n.keys.length ≤ n.kids.length := by
      by_cases hk : n.kind = 3
      · rw [h4 hk]; exact Nat.le_refl _
      · rw [h3 hk]; simp
    exact .mk' (by omega) (by omega) ih (by omega) (fun k hk => by have := hkey k hk; omega) (fun _ => hle)

def isStrBM (m : Nat) (r : AV) : Prop := ∃ (s : Str) (b : Bool), r = .tup [.str s, .bool b] ∧ s.length ≤ m
theorem isStrBM_mk {m : Nat} {s : Str} {b : Bool} (h : s.length ≤ m) : isStrBM m (.tup [.str s, .bool b]) := ⟨s, b, rfl, h⟩
theorem inp_field (n : Node) (h : n.Inp) (k o : Str) (ho : o.length ≤ 1048576) : Total Tryz.prog 84 [nodeAV n, .str k, .str o] (isStrBM 1048576) := by
  refine total84 rfl ?_
  refine cut (fun st => st.e 3 = nodeAV n ∧ st.e 1 = .str k ∧ st.e 2 = .str o) (by simp) ?_
  rintro st ⟨g3, g1, g2⟩
  simp [g3, g1]
  refine awpR_call _ (by simp) (by simpa using soundGet h.good k) (getAV_data _) ?_
  cases hg : n.get k with
  | none =>
    simp [getAV, g2]
    exact isStrBM_mk ho
  | some v =>
    simp [getAV]
    exact isStrBM_mk (h.kid (get_mem hg)).text

theorem ref18onePort (n : Node) (h : n.Inp) : Total Tryz.prog 79 [nodeAV n] (isStr 1073741824) := by
  refine total79 rfl ?_
  have hk := h.keys
  have hk2 := h.kids
  refine cutf [1, 2] rfl (fun st => st.e 1 = nodeAV n) (by simp) ?_
  intro st hf g1
  refine cutf [15, 3, 4, 23, 2] rfl (fun _ => True) ?_ ?_
  · by_cases c1 : n.kind = 1
    rotate_left
    · simp [g1, c1]
    have := h.text
    obtain ⟨_, ⟨hh, p, o, i, e, rfl, h1, h2⟩, -, hc⟩ := ref16Parse n.text (by omega)
    obtain ⟨_, ⟨s, rfl, hs⟩, -, hc2⟩ := ref16Text hh p o i (by omega)
    simp [g1, c1]
    refine awpR_call _ (by simp) (by simpa using hc) rfl ?_
    by_cases c2 : e = 0
    · simp [c2]
      refine awpR_call _ (by simp) (by simpa using hc2) rfl ?_
      simp
      omega
    · simp [c2]
  intro st1 hf1 _
  obtain ⟨_, ⟨b0, rfl, hb⟩, -, hc0⟩ := ref18only n [[116, 97, 114, 103, 101, 116], [112, 117, 98, 108, 105, 115, 104, 101, 100], [104, 111, 115, 116, 95, 105, 112], [112, 114, 111, 116, 111, 99, 111, 108]] (by omega) (by simp)
  obtain ⟨_, ⟨i, b1, rfl⟩, -, hc1⟩ := ref18number n h.good [116, 97, 114, 103, 101, 116]
  obtain ⟨_, ⟨o, b2, rfl⟩, -, hc2⟩ := ref18number n h.good [112, 117, 98, 108, 105, 115, 104, 101, 100]
  obtain ⟨_, ⟨hh, b3, rfl, h3⟩, -, hc3⟩ := inp_field n h [104, 111, 115, 116, 95, 105, 112] [] (by simp)
  obtain ⟨_, ⟨p, b4, rfl, h4⟩, -, hc4⟩ := inp_field n h [112, 114, 111, 116, 111, 99, 111, 108] [116, 99, 112] (by simp)
  obtain ⟨_, ⟨s, rfl, hs⟩, -, hc5⟩ := ref16Text hh p o i (by omega)
  simp [hf1, g1]
  refine awpR_call _ (by simp) (by simpa using hc0) rfl ?_
  cases b0
  · simp
  simp [hf1, g1]
  refine awpR_call _ (by simp) (by simpa using hc1) rfl ?_
  simp [hf1, g1]
  refine awpR_call _ (by simp) (by simpa using hc2) rfl ?_
  simp [hf1, g1]
  refine awpR_call _ (by simp) (by simpa using hc3) rfl ?_
  simp [hf1, g1]
  refine awpR_call _ (by simp) (by simpa using hc4) rfl ?_
  cases b1 <;> cases b2 <;> cases b3 <;> cases b4 <;> simp
  refine awpR_call _ (by simp) (by simpa using hc5) rfl ?_
  simp
  omega

theorem ref18Ports (n : Node) (h : n.Inp) : Total Tryz.prog 62 [nodeAV n] isNodeB := by
  refine total62 rfl ?_
  have hkeys := h.keys
  have hkids := h.kids
  refine cutf [1, 2, 3] rfl (fun st => st.e 1 = nodeAV n ∧ st.e 2 = noNode) (by simp) ?_
  rintro st - ⟨g1, g2⟩
  refine cutf [15, 2, 3] rfl (fun st => st.e 2 = noNode ∧ n.kids.length ≤ 32 ∧ 2 ≤ n.kind) ?_ ?_
  · by_cases c1 : (32 : Int) < n.kids.length
    · simp [g1, g2, c1]
    · by_cases c2 : n.kind < 2
      · simp [g1, g2, c1, c2]
      · simp [g1, g2, c1, c2]; omega
  rintro st1 hf1 ⟨g2, h32, hkd⟩
  have g1' : st1.e 1 = nodeAV n := by simp [hf1, g1]
  clear hf1 g1
  refine cutf [4] rfl (fun st => st.e 4 = noNode) (by simp) ?_
  rintro st2 hf2 g4
  refine cutf [5, 22, 6, 27, 55, 62, 4, 2, 3] rfl (fun st => st.e 2 = noNode ∧ ∃ m, IsN (st.e 4) m ∧ Making 32 m) ?_ ?_
  rotate_left
  · rintro st hf ⟨g2, m, ⟨q1, q2, q3, q4, q5, q6, q7⟩, hm⟩
    obtain ⟨_, ⟨r, b2, rfl, hr⟩, -, hc⟩ := ref18done m true (hm.good (by omega)) hm.len
    simp [q1, q2, q3, g2]
    refine awpR_call _ (by simp) (by simpa using hc) rfl ?_
    simp [g2]
    exact isNodeB_mk hr
  simp
  refine run_loopf [22, 6, 27, 55, 62, 4, 2, 3, 5] rfl (fun st => st.e 2 = noNode ∧ ∃ (i : Nat) (m : Node), st.e 5 = .int .i64 i ∧ i ≤ n.kids.length ∧ IsN (st.e 4) m ∧ Making i m) (fun st => n.kids.length - natOf (st.e 5)) ?_ ?_
  · exact ⟨by simp [hf2, g2], 0, zeroN, by simp, by omega, by simp [g4], making_zero⟩
  rintro s0 hf ⟨f2, i, m, f5, hi, ⟨q1, q2, q3, q4, q5, q6, q7⟩, hm⟩
  have f1 : s0.e 1 = nodeAV n := by simp [hf, hf2, g1']
  clear hf hf2
  by_cases hlt : i < n.kids.length
  rotate_left
  · simp [f1, f2, f5, hlt]
    exact ⟨m, ⟨q1, q2, q3, q4, q5, q6, q7⟩, hm.mono (by omega)⟩
  have hws := wrap_succ (i := i) (by omega)
  have hkid := h.kid (List.getElem_mem hlt)
  refine cut (fun st' => st' = put s0 22 (.bool true)) (by simp [f1, f5, hlt]) ?_
  rintro _ rfl
  refine cutf [6, 27, 55, 62, 2, 3, 4] rfl (fun st => st.e 2 = noNode ∧ ∃ m, IsN (st.e 4) m ∧ Making (i + 1) m) ?_ ?_
  rotate_left
  · rintro s1 hf ⟨r2, m', hN, hm'⟩
    simp [hf, f5, hws, r2]
    exact ⟨⟨i + 1, by omega, by omega, m', hN, hm'⟩, by omega⟩
  rw [run_block]
  refine cutf [6] rfl (fun st => st.e 6 = .str []) (by simp) ?_
  rintro s1 hs1 r6
  refine cutf [27, 55, 6] rfl (fun st => ∃ s : Str, st.e 6 = .str s ∧ s.length ≤ 1073741824) ?_ ?_
  · by_cases c1 : n.kind = 2
    · obtain ⟨_, ⟨s, rfl, hs⟩, -, hc⟩ := ref18onePort _ hkid
      simp [hs1, f1, c1, f5, hlt]
      refine awpR_call _ (by simp) (by simpa using hc) rfl ?_
      simp
      exact hs
    · have c3 : n.kind = 3 := by have := h.kind; omega
      have hl3 := h.len c3
      have hltk : i < n.keys.length := by omega
      have hkey := h.key (List.getElem_mem hltk)
      have hti : (textN n.keys[i]).Inp := .mk (by simp) (by simp) (by simp) (by simp) (by simp) (by simpa using hkey) (by simp) (by simp)
      obtain ⟨_, ⟨s, rfl, hs⟩, -, hc⟩ := ref18onePort _ hti
      by_cases c4 : (n.kids[i]).kind = 0
      · simp [hs1, f1, c1, f5, hlt, c4, hltk]
        refine awpR_ggcall _ (by simp) (by simp) (fun _ => by simpa using ref18Text n.keys[i]) (by simp) ?_
        simp
        refine awpR_ggcall _ (by simp) (by simp) (fun _ => by simpa using hc) (by simp) ?_
        by_cases c5 : s = n.keys[i]
        · simp [hs1, f1, f5, hltk, c5]; omega
        · simp [hs1, f1, f5, hltk, c5, r6]
      · simp [hs1, f1, c1, f5, hlt, c4]
        refine awpR_ggcall (.bool true) (by simp) (by simp [c4]) (by simp [c4]) rfl ?_
        simp
        refine awpR_ggcall (.bool true) (by simp) (by simp [c4]) (by simp [c4]) rfl ?_
        simp [r6, c4]
  rintro s2 hs2 ⟨s, t6, hs⟩
  refine cutf [62, 2, 3] rfl (fun st => st.e 2 = noNode) ?_ ?_
  · by_cases c1 : s = []
    · simp [t6, c1, hs2, hs1, f2]
    · simp [t6, c1, hs2, hs1, f2]
  rintro s3 hs3 t2
  have hwith := ref08With m s zeroN (by have := hm.le; omega) (fun _ => hm.len)
  have e4 : s3.e 4 = s0.e 4 := by simp [hs3, hs2, hs1]
  simp [e4, q1, q2, q3, hs3, t6]
  refine awpR_call (nodeAV (m.with s zeroN)) (by simp) (by simpa [nodeAV_zero] using hwith) (by simp) ?_
  simp [e4, q2, q3, q4, q7, t2]
  exact ⟨_, isN_node _, hm.with hs zero_good⟩

end Go.Proofs.YtccmaeefedgcnaaGreat

namespace Go.Proofs.YtccmaeefedgcnaaGreat

theorem inp_truth (n : Node) (h : n.Inp) (k o : Str) (ho : o.length ≤ 1048576) : Total Tryz.prog 85 [nodeAV n, .str k, .str o] (isStrBM 1048576) := by
  refine total85 rfl ?_
  obtain ⟨_, ⟨s, b, rfl, hs⟩, -, hc⟩ := inp_field n h k o ho
  simp
  refine awpR_call _ (by simp) (by simpa using hc) rfl ?_
  cases b
  · simp
    exact isStrBM_mk hs
  · by_cases c1 : s = [116, 114, 117, 101]
    · simp [c1]; exact isStrBM_mk (by simp)
    · by_cases c2 : s = [102, 97, 108, 115, 101]
      · simp [c2]; exact isStrBM_mk (by simp)
      · simp [c1, c2]; exact isStrBM_mk hs

def isMountB (r : AV) : Prop := ∃ (a b : Str) (c ok : Bool), r = .tup [mountAV a b c, .bool ok] ∧ a.length ≤ 1048576 ∧ b.length ≤ 1048576
theorem isMountB_mk {a b : Str} {c ok : Bool} (h1 : a.length ≤ 1048576) (h2 : b.length ≤ 1048576) : isMountB (.tup [mountAV a b c, .bool ok]) := ⟨a, b, c, ok, rfl, h1, h2⟩

set_option maxHeartbeats 1000000 in
theorem ref18oneMount (n : Node) (h : n.Inp) : Total Tryz.prog 80 [nodeAV n] isMountB := by
  refine total80 rfl ?_
  have hk := h.keys
  have hk2 := h.kids
  refine cutf [1, 2, 3] rfl (fun st => st.e 1 = nodeAV n ∧ st.e 2 = noMount) (by simp) ?_
  rintro st hf ⟨g1, g2⟩
  refine cutf [17, 4, 5, 2, 3] rfl (fun st => st.e 2 = noMount) ?_ ?_
  · by_cases c1 : n.kind = 1
    rotate_left
    · simp [g1, g2, c1]
    have := h.text
    obtain ⟨_, ⟨a, b, c, e, rfl, h1, h2⟩, -, hc⟩ := ref17Parse n.text (by omega)
    simp [g1, c1]
    refine awpR_call _ (by simp) (by simpa using hc) rfl ?_
    simp [g2]
    exact isMountB_mk (by omega) (by omega)
  rintro st1 hf1 f2
  obtain ⟨_, ⟨b0, rfl, hb⟩, -, hc0⟩ := ref18only n [[115, 111, 117, 114, 99, 101], [116, 97, 114, 103, 101, 116], [114, 101, 97, 100, 95, 111, 110, 108, 121], [116, 121, 112, 101]] (by omega) (by simp)
  obtain ⟨_, ⟨x1, b1, rfl, h1⟩, -, hc1⟩ := inp_field n h [115, 111, 117, 114, 99, 101] [] (by simp)
  obtain ⟨_, ⟨x2, b2, rfl, h2⟩, -, hc2⟩ := inp_field n h [116, 97, 114, 103, 101, 116] [] (by simp)
  obtain ⟨_, ⟨x3, b3, rfl, h3⟩, -, hc3⟩ := inp_truth n h [114, 101, 97, 100, 95, 111, 110, 108, 121] [102, 97, 108, 115, 101] (by simp)
  obtain ⟨_, ⟨x4, b4, rfl, h4⟩, -, hc4⟩ := inp_field n h [116, 121, 112, 101] [98, 105, 110, 100] (by simp)
  obtain ⟨_, ⟨b5, rfl⟩, -, hc5⟩ := ref17Right x1 x2 (x3 == [116, 114, 117, 101]) (by omega) (by omega)
  refine cutf [30, 2, 3] rfl (fun st => st.e 2 = noMount) ?_ ?_
  · simp [hf1, g1]
    refine awpR_call _ (by simp) (by simpa using hc0) rfl ?_
    cases b0
    · simp [f2]
      exact isMountB_mk (by simp) (by simp)
    · simp [f2]
  rintro st2 hf2 f2
  refine cutf [6, 7] rfl (fun st => st.e 6 = .str x1 ∧ st.e 7 = .bool b1) ?_ ?_
  · simp [hf2, hf1, g1]
    refine awpR_call _ (by simp) (by simpa using hc1) rfl ?_
    simp
  rintro s1 hs1 ⟨r6, r7⟩
  refine cutf [8, 9] rfl (fun st => st.e 8 = .str x2 ∧ st.e 9 = .bool b2) ?_ ?_
  · simp [hs1, hf2, hf1, g1]
    refine awpR_call _ (by simp) (by simpa using hc2) rfl ?_
    simp
  rintro s2 hs2 ⟨r8, r9⟩
  refine cutf [10, 11] rfl (fun st => st.e 10 = .str x3 ∧ st.e 11 = .bool b3) ?_ ?_
  · simp [hs2, hs1, hf2, hf1, g1]
    refine awpR_call _ (by simp) (by simpa using hc3) rfl ?_
    simp
  rintro s3 hs3 ⟨r10, r11⟩
  refine cutf [12, 13] rfl (fun st => st.e 12 = .str x4 ∧ st.e 13 = .bool b4) ?_ ?_
  · simp [hs3, hs2, hs1, hf2, hf1, g1]
    refine awpR_call _ (by simp) (by simpa using hc4) rfl ?_
    simp
  rintro s4 hs4 ⟨r12, r13⟩
  refine cut (fun st => st.e 14 = mountAV x1 x2 (x3 == [116, 114, 117, 101]) ∧ st.e 7 = .bool b1 ∧ st.e 9 = .bool b2 ∧ st.e 11 = .bool b3 ∧ st.e 13 = .bool b4 ∧ st.e 12 = .str x4 ∧ st.e 2 = noMount) ?_ ?_
  · simp [hs4, hs3, hs2, hs1, f2, r6, r7, r8, r9, r10, r11, r12, r13]
  rintro st3 ⟨f14, f7, f9, f11, f13, f12, f2⟩
  cases b1 <;> cases b2 <;> cases b3 <;> cases b4
  case true.true.true.true =>
    simp [f14, f7, f9, f11, f13, f12, f2]
    refine awpR_ggcall _ (by simp) (by simp) (fun _ => by simpa using hc5) (by simp) ?_
    cases b5
    · simp [f12, f2]; exact isMountB_mk h1 h2
    · by_cases c1 : x4 = [118, 111, 108, 117, 109, 101]
      · simp [c1, f12, f2]; exact isMountB_mk h1 h2
      · by_cases c2 : x4 = [98, 105, 110, 100]
        · simp [c2, f12, f2]; exact isMountB_mk h1 h2
        · simp [c1, c2, f12, f2]; exact isMountB_mk h1 h2
  all_goals
    simp [f14, f7, f9, f11, f13, f12, f2]
    refine awpR_ggcall (.bool true) (by simp) (by simp) (by simp) (by simp) ?_
    simp [f12, f2]; exact isMountB_mk h1 h2

set_option maxHeartbeats 1000000 in
theorem ref18Mounts (n : Node) (h : n.Inp) : Total Tryz.prog 63 [nodeAV n] isNodeB := by
  refine total63 rfl ?_
  have hkeys := h.keys
  have hkids := h.kids
  refine cutf [1, 2, 3] rfl (fun st => st.e 1 = nodeAV n ∧ st.e 2 = noNode) (by simp) ?_
  rintro st - ⟨g1, g2⟩
  refine cutf [17, 2, 3] rfl (fun st => st.e 2 = noNode ∧ n.kids.length ≤ 32 ∧ 2 ≤ n.kind) ?_ ?_
  · by_cases c1 : (32 : Int) < n.kids.length
    · simp [g1, g2, c1]
    · by_cases c2 : n.kind < 2
      · simp [g1, g2, c1, c2]
      · simp [g1, g2, c1, c2]; omega
  rintro st1 hf1 ⟨g2, h32, hkd⟩
  have g1' : st1.e 1 = nodeAV n := by simp [hf1, g1]
  clear hf1 g1
  refine cutf [4] rfl (fun st => st.e 4 = noNode) (by simp) ?_
  rintro st2 hf2 g4
  refine cutf [5, 24, 6, 7, 8, 73, 4, 2, 3] rfl (fun st => st.e 2 = noNode ∧ ∃ m, IsN (st.e 4) m ∧ Making 32 m) ?_ ?_
  rotate_left
  · rintro st hf ⟨g2, m, ⟨q1, q2, q3, q4, q5, q6, q7⟩, hm⟩
    obtain ⟨_, ⟨r, b2, rfl, hr⟩, -, hc⟩ := ref18done m true (hm.good (by omega)) hm.len
    simp [q1, q2, q3, g2]
    refine awpR_call _ (by simp) (by simpa using hc) rfl ?_
    simp [g2]
    exact isNodeB_mk hr
  simp
  refine run_loopf [24, 6, 7, 8, 73, 4, 2, 3, 5] rfl (fun st => st.e 2 = noNode ∧ ∃ (i : Nat) (m : Node), st.e 5 = .int .i64 i ∧ i ≤ n.kids.length ∧ IsN (st.e 4) m ∧ Making i m) (fun st => n.kids.length - natOf (st.e 5)) ?_ ?_
  · exact ⟨by simp [hf2, g2], 0, zeroN, by simp, by omega, by simp [g4], making_zero⟩
  rintro s0 hf ⟨f2, i, m, f5, hi, ⟨q1, q2, q3, q4, q5, q6, q7⟩, hm⟩
  have f1 : s0.e 1 = nodeAV n := by simp [hf, hf2, g1']
  clear hf hf2
  by_cases hlt : i < n.kids.length
  rotate_left
  · simp [f1, f2, f5, hlt]
    exact ⟨m, ⟨q1, q2, q3, q4, q5, q6, q7⟩, hm.mono (by omega)⟩
  have hws := wrap_succ (i := i) (by omega)
  have hkid := h.kid (List.getElem_mem hlt)
  refine cut (fun st' => st' = put s0 24 (.bool true)) (by simp [f1, f5, hlt]) ?_
  rintro _ rfl
  refine cutf [6, 7, 8, 73, 2, 3, 4] rfl (fun st => st.e 2 = noNode ∧ ∃ m, IsN (st.e 4) m ∧ Making (i + 1) m) ?_ ?_
  rotate_left
  · rintro s1 hf ⟨r2, m', hN, hm'⟩
    simp [hf, f5, hws, r2]
    exact ⟨⟨i + 1, by omega, by omega, m', hN, hm'⟩, by omega⟩
  rw [run_block]
  obtain ⟨_, ⟨a, b, c, ok, rfl, ha, hb⟩, -, hc⟩ := ref18oneMount _ hkid
  obtain ⟨_, ⟨s, rfl, hs⟩, -, hc2⟩ := ref17Text a b c (by omega) (by omega)
  refine cutf [6, 7] rfl (fun st => st.e 6 = mountAV a b c ∧ st.e 7 = .bool ok) ?_ ?_
  · simp [f1, f5, hlt]
    refine awpR_call _ (by simp) (by simpa using hc) rfl ?_
    simp
  rintro s1 hs1 ⟨r6, r7⟩
  refine cutf [8] rfl (fun st => st.e 8 = .str s) ?_ ?_
  · simp [r6]
    refine awpR_call _ (by simp) (by simpa using hc2) rfl ?_
    simp
  rintro s2 hs2 r8
  refine cutf [73, 2, 3] rfl (fun st => st.e 2 = noNode) ?_ ?_
  · cases ok
    · simp [hs2, hs1, f1, f2, f5, r6, r7, r8]
    by_cases c3 : n.kind = 3
    rotate_left
    · simp [hs2, hs1, f1, f2, f5, r6, r7, r8, c3]
    have hl3 := h.len c3
    have hltk : i < n.keys.length := by omega
    by_cases c4 : (n.kids[i]).kind = 1
    rotate_left
    · simp [hs2, hs1, f1, f2, f5, r6, r7, r8, c3, c4, hlt]
    by_cases c5 : (n.kids[i]).text = s
    rotate_left
    · simp [hs2, hs1, f1, f2, f5, r6, r7, r8, c3, c4, c5, hlt]
    by_cases c6 : n.keys[i] = b
    · simp [hs2, hs1, f1, f2, f5, r6, r7, r8, c3, c4, c5, c6, hlt, hltk]
    · simp [hs2, hs1, f1, f2, f5, r6, r7, r8, c3, c4, c5, c6, hlt, hltk]
  rintro s3 hs3 t2
  have hwith := ref08With m b (textN s) (by have := hm.le; omega) (fun _ => hm.len)
  have e4 : s3.e 4 = s0.e 4 := by simp [hs3, hs2, hs1]
  simp [e4, q1, q2, q3, hs3, hs2, r6, r8]
  refine awpR_call _ (by simp) (by simpa using ref18Text s) (by simp) ?_
  simp
  refine awpR_call (nodeAV (m.with b (textN s))) (by simp) (by simpa using hwith) (by simp) ?_
  simp [e4, q2, q3, q4, q7, t2]
  exact ⟨_, isN_node _, hm.with (by omega) (text_good (by omega))⟩

end Go.Proofs.YtccmaeefedgcnaaGreat

namespace Go.Proofs.YtccmaeefedgcnaaGreat

theorem isNodeB_agg {kind : Int} {text : Str} {keys : List Str} {kids : List Node} {b : Bool} (h : (⟨kind, text, keys, kids⟩ : Node).Good) : isNodeB (.tup [.agg [.int .i64 kind, .str text, .slice 1 (keys.map .str), .slice 4 (kids.map nodeAV)], .bool b]) := by
  rw [nodeAV_mk]; exact isNodeB_mk h

def isTextsK (n : Node) (m : Nat) (r : AV) : Prop := ∃ (l : List Str) (b : Bool), r = .tup [.slice 1 (l.map .str), .bool b] ∧ l.length ≤ 32 ∧ (∀ w ∈ l, w.length ≤ m) ∧ (b = true → n.kind = 2)
theorem isTextsK_mk {n : Node} {m : Nat} {l : List Str} {b : Bool} (h1 : l.length ≤ 32) (h2 : ∀ w ∈ l, w.length ≤ m) (h3 : b = true → n.kind = 2) : isTextsK n m (.tup [.slice 1 (l.map .str), .bool b]) := ⟨l, b, rfl, h1, h2, h3⟩

theorem inp_texts (n : Node) (h : n.Inp) : Total Tryz.prog 46 [nodeAV n] (isTextsK n 1048576) := by
  have hk := h.kids
  refine total46 rfl ?_
  refine cut (fun st => st.e 1 = nodeAV n) (by simp) ?_
  intro st g1
  refine cut (fun st => st.e 1 = nodeAV n ∧ st.e 4 = .oslice 1 []) (by simp [g1]) ?_
  rintro st ⟨g1, g4⟩
  refine cut (fun st => st.e 1 = nodeAV n ∧ st.e 4 = .oslice 1 [] ∧ n.kind = 2 ∧ n.kids.length ≤ 32) ?_ ?_
  · by_cases c1 : n.kind = 2
    · by_cases c2 : (32 : Int) < n.kids.length
      · simp [g1, g4, c1, c2]
        exact isTextsK_mk (l := []) (by simp) (by simp) (by simp)
      · simp [g1, g4, c1, c2]
        omega
    · simp [g1, g4, c1]
      exact isTextsK_mk (l := []) (by simp) (by simp) (by simp)
  rintro st ⟨g1, g4, c2, h32⟩
  refine cut (fun st => ∃ l : List Str, st.e 4 = .oslice 1 (l.map .str) ∧ l.length ≤ 32 ∧ ∀ w ∈ l, w.length ≤ 1048576) ?_ ?_
  rotate_left
  · rintro st ⟨l, g4, hl, hw⟩
    simp [g4]
    exact isTextsK_mk hl hw (fun _ => c2)
  simp
  refine run_loop (fun st => st.e 1 = nodeAV n ∧ ∃ (i : Nat) (l : List Str), st.e 5 = .int .i64 i ∧ i ≤ n.kids.length ∧ st.e 4 = .oslice 1 (l.map .str) ∧ l.length ≤ i ∧ ∀ w ∈ l, w.length ≤ 1048576) (fun st => n.kids.length - natOf (st.e 5)) ?_ ?_
  · simp [g1, g4]; exact ⟨0, rfl, by omega⟩
  · rintro st ⟨g1, i, l, g5, hi, g4, hl, hw⟩
    by_cases hlt : i < n.kids.length
    · have hws := wrap_succ (i := i) (by omega)
      have hwi := (h.kid (List.getElem_mem hlt)).text
      by_cases c1 : (n.kids[i]).kind = 1
      · simp [g1, g4, g5, hlt, c1, hws]
        refine ⟨by omega, ⟨i + 1, by omega, by omega, l ++ [(n.kids[i]).text], by simp, by simp; omega, ?_⟩, by omega⟩
        intro x hx
        rcases List.mem_append.1 hx with h | h
        · exact hw x h
        · simp at h; subst h; exact hwi
      · simp [g1, g4, g5, hlt, c1]
        exact isTextsK_mk (by omega) hw (by simp)
    · simp [g1, g4, g5, hlt]
      exact ⟨l, rfl, by omega, hw⟩

theorem inp_map : (⟨3, [], [], []⟩ : Node).Inp := .mk (by simp) (by simp) (by simp) (by simp) (by simp) (by simp) (by simp) (by simp)

set_option maxHeartbeats 1000000 in
theorem ref18edge (n : Node) (h : n.Inp) : Total Tryz.prog 82 [nodeAV n] isNodeB := by
  refine total82 rfl ?_
  refine cutf [1, 2, 3] rfl (fun st => st.e 1 = nodeAV n ∧ st.e 2 = noNode) (by simp) ?_
  rintro st - ⟨g1, g2⟩
  refine cut (fun st => st.e 2 = noNode ∧ ∃ n : Node, IsN (st.e 1) n ∧ n.Inp) ?_ ?_
  · by_cases c1 : n.kind = 0
    · simp [g1, g2, c1]
      exact ⟨⟨3, [], [], []⟩, ⟨rfl, by simp, rfl, fun _ => rfl, rfl, by rw [nodeAV_eq]; rfl, rfl⟩, inp_map⟩
    · simp [g1, g2, c1]
      exact ⟨n, by simp, h⟩
  clear g1 g2 h
  rintro st ⟨g2, n, ⟨q1, q2, q3, q4, q5, q6, q7⟩, h⟩
  have hk := h.keys
  have hk2 := h.kids
  obtain ⟨_, ⟨b0, rfl, hb⟩, -, hc0⟩ := ref18only n [[99, 111, 110, 100, 105, 116, 105, 111, 110], [114, 101, 115, 116, 97, 114, 116], [114, 101, 113, 117, 105, 114, 101, 100]] (by omega) (by simp)
  obtain ⟨_, ⟨x1, b1, rfl, h1⟩, -, hc1⟩ := inp_field n h [99, 111, 110, 100, 105, 116, 105, 111, 110] [115, 101, 114, 118, 105, 99, 101, 95, 115, 116, 97, 114, 116, 101, 100] (by simp)
  obtain ⟨_, ⟨x2, b2, rfl, h2⟩, -, hc2⟩ := inp_truth n h [114, 101, 115, 116, 97, 114, 116] [102, 97, 108, 115, 101] (by simp)
  obtain ⟨_, ⟨x3, b3, rfl, h3⟩, -, hc3⟩ := inp_truth n h [114, 101, 113, 117, 105, 114, 101, 100] [116, 114, 117, 101] (by simp)
  rw [nodeAV_eq] at hc0 hc1 hc2 hc3
  refine cutf [18, 2, 3] rfl (fun st => st.e 2 = noNode) ?_ ?_
  · simp [q1, q2, q3]
    refine awpR_call _ (by simp) (by simpa using hc0) rfl ?_
    cases b0
    · simp [g2]
    · simp [g2]
  rintro s0 hs0 f2
  have e1 : s0.e 1 = st.e 1 := hs0 1 (by simp)
  refine cutf [4, 5] rfl (fun st => st.e 4 = .str x1 ∧ st.e 5 = .bool b1) ?_ ?_
  · simp [e1, q1, q2, q3]
    refine awpR_call _ (by simp) (by simpa using hc1) rfl ?_
    simp
  rintro s1 hs1 ⟨r4, r5⟩
  have e1 : s1.e 1 = st.e 1 := by simp [hs1, e1]
  refine cutf [6, 7] rfl (fun st => st.e 6 = .str x2 ∧ st.e 7 = .bool b2) ?_ ?_
  · simp [e1, q1, q2, q3]
    refine awpR_call _ (by simp) (by simpa using hc2) rfl ?_
    simp
  rintro s2 hs2 ⟨r6, r7⟩
  have e1 : s2.e 1 = st.e 1 := by simp [hs2, e1]
  refine cutf [8, 9] rfl (fun st => st.e 8 = .str x3 ∧ st.e 9 = .bool b3) ?_ ?_
  · simp [e1, q1, q2, q3]
    refine awpR_call _ (by simp) (by simpa using hc3) rfl ?_
    simp
  rintro s3 hs3 ⟨r8, r9⟩
  refine cutf [10] rfl (fun st => ∃ b, st.e 10 = .bool b) ?_ ?_
  · by_cases c1 : x1 = [115, 101, 114, 118, 105, 99, 101, 95, 115, 116, 97, 114, 116, 101, 100]
    · simp [hs3, hs2, hs1, r4, c1]
    · by_cases c2 : x1 = [115, 101, 114, 118, 105, 99, 101, 95, 104, 101, 97, 108, 116, 104, 121]
      · simp [hs3, hs2, hs1, r4, c2]
      · simp [hs3, hs2, hs1, r4, c1, c2]
        exact (Classical.em _).symm
  rintro s4 hs4 ⟨b, r10⟩
  simp [hs4, hs3, hs2, hs1, r4, r5, r6, r7, r8, r9, r10, f2]
  refine awpR_call _ (by simp) (by simpa using ref18Text x1) (by simp) ?_
  simp [hs4, hs3, hs2, hs1, r4, r5, r6, r7, r8, r9, r10, f2]
  refine awpR_call _ (by simp) (by simpa using ref18Text x3) (by simp) ?_
  simp [hs4, hs3, hs2, hs1, r4, r5, r6, r7, r8, r9, r10, f2]
  refine awpR_call _ (by simp) (by simpa using ref18Text x2) (by simp) ?_
  have hg : (⟨3, [], [[99, 111, 110, 100, 105, 116, 105, 111, 110], [114, 101, 113, 117, 105, 114, 101, 100], [114, 101, 115, 116, 97, 114, 116]], [textN x1, textN x3, textN x2]⟩ : Node).Good := by
    refine .mk' (by simp) (by simp) ?_ (by simp) (by simp) (by simp)
    intro k hk
    simp at hk
    rcases hk with rfl | rfl | rfl
    · exact text_good (by omega)
    · exact text_good (by omega)
    · exact text_good (by omega)
  have hfin := fun b => isNodeB_agg (b := b) hg
  cases b1 <;> cases b2 <;> cases b3 <;> cases b <;> (simp [hs4, hs3, hs2, hs1, r5, r7, r9, r10, f2]; exact hfin _)

set_option maxHeartbeats 1000000 in
theorem ref18Deps (n : Node) (h : n.Inp) : Total Tryz.prog 64 [nodeAV n] isNodeB := by
  refine total64 rfl ?_
  have hkeys := h.keys
  have hkids := h.kids
  refine cutf [1, 2, 3] rfl (fun st => st.e 1 = nodeAV n ∧ st.e 2 = noNode) (by simp) ?_
  rintro st - ⟨g1, g2⟩
  obtain ⟨_, ⟨l0, b0, rfl, hl0, hw0, hk0⟩, -, hc0⟩ := inp_texts n h
  refine cutf [4, 5] rfl (fun st => st.e 4 = .slice 1 (l0.map .str) ∧ st.e 5 = .bool b0) ?_ ?_
  · simp [g1]
    refine awpR_call _ (by simp) (by simpa using hc0) rfl ?_
    simp
  rintro st1 hf1 ⟨g4, g5⟩
  refine cutf [24, 4, 5] rfl (fun st => ∃ (l : List Str) (b : Bool), st.e 4 = .slice 1 (l.map .str) ∧ st.e 5 = .bool b ∧ l.length ≤ 32 ∧ (∀ w ∈ l, w.length ≤ 1048576) ∧ (b = true → n.kind = 3 → l.length ≤ n.kids.length)) ?_ ?_
  · by_cases c1 : n.kind = 3
    rotate_left
    · simp [hf1, g1, g4, g5, c1]; exact ⟨l0, rfl, hl0, hw0⟩
    by_cases c2 : (n.keys.length : Int) ≤ 32
    rotate_left
    · cases b0
      · simp [hf1, g1, g4, g5, c1, c2]; exact ⟨l0, rfl, hl0, hw0⟩
      · have := hk0 rfl; omega
    · simp [hf1, g1, g4, g5, c1, c2]; exact ⟨n.keys, rfl, by omega, fun w hw => h.key hw, by omega⟩
  rintro st2 hf2 ⟨l, b, f4, f5, hl, hw, hk⟩
  have g2' : st2.e 2 = noNode := by simp [hf2, hf1, g2]
  have g1' : st2.e 1 = nodeAV n := by simp [hf2, hf1, g1]
  clear hf2 hf1 g1 g2 g4 g5 hk0 hc0 hl0 hw0
  refine cutf [6] rfl (fun st => st.e 6 = noNode) (by simp) ?_
  rintro st3 hf3 g6
  refine cutf [7, 34, 8, 40, 9, 10, 5, 6] rfl (fun st => ∃ m b, st.e 5 = .bool b ∧ IsN (st.e 6) m ∧ Making 32 m) ?_ ?_
  rotate_left
  · rintro st hf ⟨m, b, f5, ⟨q1, q2, q3, q4, q5, q6, q7⟩, hm⟩
    obtain ⟨_, ⟨r, b2, rfl, hr⟩, -, hc⟩ := ref18done m b (hm.good (by omega)) hm.len
    simp [q1, q2, q3, f5]
    refine awpR_call _ (by simp) (by simpa using hc) rfl ?_
    simp [hf, hf3, g2']
    exact isNodeB_mk hr
  simp
  refine run_loopf [34, 8, 40, 9, 10, 5, 6, 7] rfl (fun st => ∃ (i : Nat) (m : Node) (c : Bool), st.e 7 = .int .i64 i ∧ i ≤ l.length ∧ st.e 5 = .bool c ∧ (c = true → b = true) ∧ IsN (st.e 6) m ∧ Making i m) (fun st => l.length - natOf (st.e 7)) ?_ ?_
  · exact ⟨0, zeroN, b, by simp, by omega, by simp [hf3, f5], id, by simp [g6], making_zero⟩
  rintro s0 hf ⟨i, m, c, f7, hi, f5, hcb, ⟨q1, q2, q3, q4, q5, q6, q7⟩, hm⟩
  have f1 : s0.e 1 = nodeAV n := by simp [hf, hf3, g1']
  have f4' : s0.e 4 = .slice 1 (l.map .str) := by simp [hf, hf3, f4]
  clear hf hf3
  by_cases hlt : i < l.length
  rotate_left
  · simp [f4', f5, f7, hlt]
    exact ⟨m, ⟨q1, q2, q3, q4, q5, q6, q7⟩, hm.mono (by omega)⟩
  cases c
  · simp [f4', f5, f7, hlt]
    exact ⟨m, ⟨q1, q2, q3, q4, q5, q6, q7⟩, hm.mono (by omega)⟩
  have hb := hcb rfl
  have hws := wrap_succ (i := i) (by omega)
  refine cut (fun st' => st' = put s0 34 (.bool true)) (by simp [f4', f5, f7, hlt]) ?_
  rintro _ rfl
  refine cutf [8, 40, 9, 10, 5, 6] rfl (fun st => ∃ m b, st.e 5 = .bool b ∧ IsN (st.e 6) m ∧ Making (i + 1) m) ?_ ?_
  rotate_left
  · rintro s1 hf ⟨m', b', r5, hN, hm'⟩
    cases b' <;> (simp [hf, f7, hws, r5, hb]; exact ⟨⟨i + 1, by omega, by omega, m', hN, hm'⟩, by omega⟩)
  rw [run_block]
  refine cutf [8] rfl (fun st => st.e 8 = noNode) (by simp) ?_
  rintro s1 hs1 r8
  refine cutf [40, 8] rfl (fun st => ∃ k : Node, IsN (st.e 8) k ∧ k.Inp) ?_ ?_
  · by_cases c1 : n.kind = 3
    · have hlt2 : i < n.kids.length := by have := hk hb c1; omega
      simp [hs1, f1, f7, c1, r8, hlt2]
      exact ⟨_, isN_node _, h.kid (List.getElem_mem hlt2)⟩
    · simp [hs1, f1, c1, r8]
      exact ⟨zeroN, by simp, .mk (by simp) (by simp) (by simp) (by simp) (by simp) (by simp) (by simp) (by simp)⟩
  rintro s2 hs2 ⟨k, ⟨p1, p2, p3, p4, p5, p6, p7⟩, hki⟩
  obtain ⟨_, ⟨v, bv, rfl, hv⟩, -, hcv⟩ := ref18edge k hki
  rw [nodeAV_eq] at hcv
  refine cutf [9, 10] rfl (fun st => st.e 9 = nodeAV v ∧ st.e 10 = .bool bv) ?_ ?_
  · simp [p1, p2, p3]
    refine awpR_call _ (by simp) (by simpa using hcv) rfl ?_
    simp
  rintro s3 hs3 ⟨r9, r10⟩
  refine cutf [5] rfl (fun st => ∃ b, st.e 5 = .bool b) ?_ ?_
  · cases bv
    · simp [r10]
      refine awpR_ggcall (.bool true) (by simp) (by simp) (by simp) (by simp) ?_
      simp
    · simp [r10, hs3, hs2, hs1, f4', f7, hlt]
      refine awpR_ggcall _ (by simp) (by simp) (fun _ => by simpa using ref02Service l[i]) (by simp) ?_
      simp
  rintro s4 hs4 ⟨b5, r5⟩
  have hwith := ref08With m l[i] v (by have := hm.le; omega) (fun _ => hm.len)
  have e6 : s4.e 6 = s0.e 6 := by simp [hs4, hs3, hs2, hs1]
  simp [e6, q1, q2, q3, hs4, hs3, hs2, hs1, r9, f4', f7, hlt]
  refine awpR_call (nodeAV (m.with l[i] v)) (by simp) (by simpa using hwith) (by simp) ?_
  simp [e6, q2, q3, q4, q7, r5]
  exact ⟨_, isN_node _, hm.with (by have := hw _ (List.getElem_mem hlt); omega) hv⟩

set_option maxHeartbeats 1000000 in
theorem ref18Extends (n : Node) (h : n.Inp) : Total Tryz.prog 65 [nodeAV n] isNodeB := by
  refine total65 rfl ?_
  refine cutf [1, 2, 3] rfl (fun st => st.e 1 = nodeAV n ∧ st.e 2 = noNode) (by simp) ?_
  rintro st - ⟨g1, g2⟩
  refine cut (fun st => st.e 2 = noNode ∧ ∃ n : Node, IsN (st.e 1) n ∧ n.Inp) ?_ ?_
  · by_cases c1 : n.kind = 1
    · simp [g1, g2, c1]
      have hi : (⟨3, [], [[115, 101, 114, 118, 105, 99, 101]], [n]⟩ : Node).Inp := .mk (by simp) (by simp) (by simp) (by simp) (by simp) (by simp) (by simp) (by simpa using h)
      refine ⟨_, ⟨?_, by simp, rfl, fun _ => rfl, rfl, ?_, rfl⟩, hi⟩
      · simp [nodeAV_eq, c1]
      · rw [nodeAV_eq]; simp [nodeAV_eq, c1]
    · simp [g1, g2, c1]
      exact ⟨n, by simp, h⟩
  clear g1 g2 h
  rintro st ⟨g2, n, ⟨q1, q2, q3, q4, q5, q6, q7⟩, h⟩
  have hk := h.keys
  have hk2 := h.kids
  obtain ⟨_, ⟨b0, rfl, hb⟩, -, hc0⟩ := ref18only n [[115, 101, 114, 118, 105, 99, 101], [102, 105, 108, 101]] (by omega) (by simp)
  obtain ⟨_, ⟨x1, b1, rfl, h1⟩, -, hc1⟩ := inp_field n h [115, 101, 114, 118, 105, 99, 101] [] (by simp)
  obtain ⟨_, ⟨x2, b2, rfl, h2⟩, -, hc2⟩ := inp_field n h [102, 105, 108, 101] [120] (by simp)
  obtain ⟨_, ⟨r, b3, rfl, hr⟩, -, hc3⟩ := ref18done n true h.good hk
  rw [nodeAV_eq n] at hc0 hc1 hc2 hc3
  refine cutf [18, 2, 3] rfl (fun st => st.e 2 = noNode) ?_ ?_
  · simp [q1, q2, q3]
    refine awpR_call _ (by simp) (by simpa using hc0) rfl ?_
    cases b0
    · simp [g2]
    · simp [g2]
  rintro s0 hs0 f2
  have e1 : s0.e 1 = st.e 1 := hs0 1 (by simp)
  refine cutf [4, 5] rfl (fun st => st.e 4 = .str x1 ∧ st.e 5 = .bool b1) ?_ ?_
  · simp [e1, q1, q2, q3]
    refine awpR_call _ (by simp) (by simpa using hc1) rfl ?_
    simp
  rintro s1 hs1 ⟨r4, r5⟩
  have e1 : s1.e 1 = st.e 1 := by simp [hs1, e1]
  refine cutf [6, 7] rfl (fun st => st.e 6 = .str x2 ∧ st.e 7 = .bool b2) ?_ ?_
  · simp [e1, q1, q2, q3]
    refine awpR_call _ (by simp) (by simpa using hc2) rfl ?_
    simp
  rintro s2 hs2 ⟨r6, r7⟩
  have e1 : s2.e 1 = st.e 1 := by simp [hs2, e1]
  refine cutf [50, 2, 3] rfl (fun st => st.e 2 = noNode) ?_ ?_
  · cases b1
    · simp [hs2, hs1, r5, r7]
      refine awpR_ggcall (.bool true) (by simp) (by simp) (by simp) (by simp) ?_
      simp [hs2, hs1, f2]
    cases b2
    · simp [hs2, hs1, r5, r7]
      refine awpR_ggcall (.bool true) (by simp) (by simp) (by simp) (by simp) ?_
      simp [hs2, hs1, f2]
    simp [hs2, hs1, r4, r5, r7]
    refine awpR_ggcall _ (by simp) (by simp) (fun _ => by simpa using ref02Service x1) (by simp) ?_
    by_cases c1 : serviceName x1 = true
    rotate_left
    · simp [c1, hs2, hs1, f2]
    by_cases c2 : (x2.length : Int) < 1
    · simp [c1, c2, r6, hs2, hs1, f2]
    by_cases c3 : (64 : Int) < x2.length
    · simp [c1, c2, c3, r6, hs2, hs1, f2]
    · simp [c1, c2, c3, r6, hs2, hs1, f2]
  rintro s3 hs3 t2
  have e1 : s3.e 1 = st.e 1 := by simp [hs3, e1]
  simp [e1, q1, q2, q3]
  refine awpR_call _ (by simp) (by simpa using hc3) rfl ?_
  simp [t2]
  exact isNodeB_mk hr

end Go.Proofs.YtccmaeefedgcnaaGreat
