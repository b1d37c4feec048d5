/-
  CONTRACTS: longshoreref18, test, span, Health, Again, One, Field.
  CONTRACTS: longshoreref18, Health, Field.
  CONTRACTS: longshoreref19: number, foreign, Service, services.
  CONTRACTS: longshoreref19: services, File.
-/
import Derived.Test.YtccmaeefedgcnaaGreatPart16
import Derived.Test.YtccmaeefedgcnaaGreatPart13
import Derived.Test.YtccmaeefedgcnaaGreatPart14
import Derived.Test.YtccmaeefedgcnaaGreatPart12
set_option linter.all false

namespace Go.Proofs.YtccmaeefedgcnaaGreat

def isStrI (r : AV) : Prop := ∃ (s : Str) (k : Int), r = .tup [.str s, .int .i64 k] ∧ s.length ≤ 1073741824
theorem isStrI_mk {s : Str} {k : Int} (h : s.length ≤ 1073741824) : isStrI (.tup [.str s, .int .i64 k]) := ⟨s, k, rfl, h⟩

theorem ref18test (n : Node) (h : n.Inp) : Total Tryz.prog 86 [nodeAV n] isStrI := by
  refine total86 rfl ?_
  have ht := h.text
  refine cutf [1, 2, 3] rfl (fun st => st.e 1 = nodeAV n) (by simp) ?_
  rintro st - g1
  refine cutf [8, 2, 3] rfl (fun st => True) ?_ ?_
  · by_cases c1 : n.kind = 1
    · simp [g1, c1]; exact isStrI_mk (by omega)
    · simp [g1, c1]
  rintro st1 hf1 -
  obtain ⟨_, ⟨l, b, rfl, hl, hw, hk⟩, -, hc⟩ := inp_texts n h
  refine cutf [4, 5] rfl (fun st => st.e 4 = .slice 1 (l.map .str) ∧ st.e 5 = .bool b) ?_ ?_
  · simp [hf1, g1]
    refine awpR_call _ (by simp) (by simpa using hc) rfl ?_
    simp
  rintro st2 hf2 ⟨g4, g5⟩
  refine cutf [22, 2, 3] rfl (fun st => 0 < l.length) ?_ ?_
  · cases b
    · simp [g4, g5]; exact isStrI_mk (by simp)
    · by_cases c1 : l = []
      · simp [g4, g5, c1]; exact isStrI_mk (by simp)
      · simp [g4, g5, c1]
        exact List.length_pos_iff.2 c1
  rintro st3 hf3 h0
  have f4 : st3.e 4 = .slice 1 (l.map .str) := by simp [hf3, g4]
  clear hf3 hf2 hf1 g4 g5 g1
  refine cutf [31, 2, 3] rfl (fun st => True) ?_ ?_
  · by_cases c1 : l[0] = [78, 79, 78, 69]
    · by_cases c2 : (l.length : Int) = 1
      · simp [f4, h0, c1, c2]; exact isStrI_mk (by simp)
      · simp [f4, h0, c1, c2]
    · simp [f4, h0, c1]
  rintro st4 hf4 -
  have f4' : st4.e 4 = .slice 1 (l.map .str) := by simp [hf4, f4]
  refine cutf [40, 2, 3] rfl (fun st => True) ?_ ?_
  · by_cases c1 : l[0] = [67, 77, 68, 45, 83, 72, 69, 76, 76]
    · by_cases c2 : (l.length : Int) = 2
      · have h1 : 1 < l.length := by omega
        simp [f4', h0, c1, c2, h1]
        have := hw _ (List.getElem_mem h1)
        exact isStrI_mk (by omega)
      · simp [f4', h0, c1, c2]
    · simp [f4', h0, c1]
  rintro st5 hf5 -
  have f4'' : st5.e 4 = .slice 1 (l.map .str) := by simp [hf5, f4']
  refine cutf [52, 2, 3] rfl (fun st => True) ?_ ?_
  · by_cases c1 : l[0] = [67, 77, 68]
    · by_cases c2 : (1 : Int) < l.length
      · obtain ⟨_, ⟨s, rfl, hs⟩, -, hc2⟩ := ref15Join (l.drop 1) 1048576 (by simp; omega) (by omega) (fun w hm => hw w (List.mem_of_mem_drop hm))
        have hle : (l.drop 1).length * (4 * 1048576 + 3) ≤ 32 * (4 * 1048576 + 3) := Nat.mul_le_mul_right _ (by simp; omega)
        simp [f4'', h0, c1, c2]
        have hcc : 1 ≤ l.length := by omega
        simp [hcc]
        have he : List.take l.length (List.map AV.str l) = List.map AV.str l := List.take_of_length_le (by simp)
        refine awpR_call _ (by simp) (by simpa [he] using hc2) rfl ?_
        simp
        exact isStrI_mk (by omega)
      · simp [f4'', h0, c1, c2]
    · simp [f4'', h0, c1]
  rintro st6 hf6 -
  simp
  exact isStrI_mk (by simp)

theorem ref18span (n : Node) (h : n.Inp) (k : Str) (least : Int) : Total Tryz.prog 87 [nodeAV n, .str k, .int .i64 least] isStrB := by
  refine total87 rfl ?_
  refine cutf [3, 6, 7] rfl (fun st => st.e 3 = nodeAV n ∧ st.e 1 = .str k ∧ st.e 2 = .int .i64 least) (by simp) ?_
  rintro st - ⟨g3, g1, g2⟩
  obtain ⟨_, ⟨s, b, rfl, hs⟩, -, hc⟩ := inp_field n h k [] (by simp)
  obtain ⟨_, ⟨ms, e, rfl⟩, -, hc2⟩ := ref03Parse s (by omega)
  obtain ⟨_, ⟨t, rfl, ht⟩, -, hc3⟩ := ref03Text ms
  simp [g3, g1]
  refine awpR_call _ (by simp) (by simpa using soundGet h.good k) (getAV_data _) ?_
  cases hg : n.get k with
  | none => simp [getAV]; exact isStrB_mk (by simp)
  | some x =>
    simp [getAV, g1, g3]
    refine awpR_call _ (by simp) (by simpa using hc) rfl ?_
    simp
    refine awpR_call _ (by simp) (by simpa using hc2) rfl ?_
    simp
    refine awpR_call _ (by simp) (by simpa using hc3) rfl ?_
    cases b
    · simp; exact isStrB_mk (by omega)
    · by_cases c1 : e = 0
      · simp [c1, g2]; exact isStrB_mk (by omega)
      · simp [c1]; exact isStrB_mk (by omega)

theorem ref18Again (s : Str) (hs : s.length ≤ 1073741824) : Total Tryz.prog 70 [.str s] isBool := by
  refine total70 rfl ?_
  refine cutf [2] rfl (fun st => st.e 0 = .str s) (by simp) ?_
  rintro st - g0
  refine cutf [12, 3, 4, 2] rfl (fun st => True) ?_ ?_
  · by_cases c1 : (11 : Int) < s.length
    · have c2 : 11 ≤ s.length := by omega
      by_cases c3 : s.take 11 = [111, 110, 45, 102, 97, 105, 108, 117, 114, 101, 58]
      · obtain ⟨_, ⟨v, e, rfl⟩, -, hc2⟩ := ref01Count (s.drop 11) 10 (by simp; omega)
        simp [g0, c1, c2, c3]
        refine awpR_call _ (by simp) (by simpa using hc2) rfl ?_
        by_cases c4 : e = 0 <;> simp [c4]
      · simp [g0, c1, c2, c3]
    · simp [g0, c1]
  rintro st1 hf1 -
  have f0 : st1.e 0 = .str s := by simp [hf1, g0]
  by_cases c1 : s = [110, 111]
  · simp [f0, c1]
  by_cases c2 : s = [97, 108, 119, 97, 121, 115]
  · simp [f0, c2]
  by_cases c3 : s = [117, 110, 108, 101, 115, 115, 45, 115, 116, 111, 112, 112, 101, 100]
  · simp [f0, c3]
  simp [f0, c1, c2, c3]

def isGoodN (v : AV) : Prop := ∃ m, v = nodeAV m ∧ m.Good
theorem isGoodN_mk {m : Node} (h : m.Good) : isGoodN (nodeAV m) := ⟨m, rfl, h⟩
theorem isGoodN_agg {kind : Int} {text : Str} {keys : List Str} {kids : List Node} (h : (⟨kind, text, keys, kids⟩ : Node).Good) : isGoodN (.agg [.int .i64 kind, .str text, .slice 1 (keys.map .str), .slice 4 (kids.map nodeAV)]) := by
  rw [nodeAV_mk]; exact isGoodN_mk h
theorem isGoodN_text {t : Str} (h : t.length ≤ 1073741824) : isGoodN (.agg [.int .i64 1, .str t, .slice 1 [], .slice 4 []]) := isGoodN_agg (kids := []) (keys := []) (text_good h)

theorem ref18One (n : Node) (h : n.Inp) (k : Int) : Total Tryz.prog 59 [nodeAV n, .int .i64 k] isNodeB := by
  refine total59 rfl ?_
  have ht := h.text
  refine cutf [2, 4, 5] rfl (fun st => st.e 2 = nodeAV n ∧ st.e 1 = .int .i64 k ∧ st.e 4 = noNode) (by simp) ?_
  rintro st - ⟨g2, g1, g4⟩
  refine cutf [15, 4, 5] rfl (fun st => st.e 4 = noNode ∧ n.kind = 1) ?_ ?_
  · by_cases c1 : n.kind = 1
    · simp [g2, g4, c1]
    · simp [g2, g4, c1]
  rintro st1 hf1 ⟨f4, hk⟩
  refine cutf [6] rfl (fun st => True) (by simp) ?_
  rintro st2 hf2 -
  have f2 : st2.e 2 = nodeAV n := by simp [hf2, hf1, g2]
  have f1 : st2.e 1 = .int .i64 k := by simp [hf2, hf1, g1]
  have f4' : st2.e 4 = noNode := by simp [hf2, f4]
  clear hf2 hf1 f4
  refine cutf [18, 6, 23, 7, 8, 37, 9, 10, 2, 54, 12] rfl (fun st => isGoodN (st.e 2) ∧ isBool (st.e 6)) ?_ ?_
  · by_cases c0 : k = 0
    · obtain ⟨_, ⟨b, rfl⟩, -, hc⟩ := ref18Again n.text (by omega)
      simp [f1, f2, c0]
      refine awpR_call _ (by simp) (by simpa using hc) rfl ?_
      simp [f2]
      exact isGoodN_mk h.good
    by_cases c1 : k = 1
    · obtain ⟨_, ⟨v, e, rfl⟩, -, hc⟩ := ref01Milli n.text (by omega)
      simp [f1, f2, c1]
      refine awpR_call _ (by simp) (by simpa using hc) rfl ?_
      by_cases d1 : e = 0
      · simp [d1, f2]
        exact isGoodN_mk h.good
      · simp [d1, f2]
        exact isGoodN_mk h.good
    by_cases c2 : k = 2
    · obtain ⟨_, ⟨v, e, rfl⟩, -, hc⟩ := ref04Parse n.text (by omega)
      obtain ⟨_, ⟨t, rfl, hlt⟩, -, hc2⟩ := ref04Text v
      simp [f1, f2, c2]
      refine awpR_call _ (by simp) (by simpa using hc) rfl ?_
      by_cases d1 : e = 0
      · simp [d1, f2]
        refine awpR_call _ (by simp) (by simpa using hc2) rfl ?_
        simp
        refine awpR_call _ (by simp) (by simpa using ref18Text t) (by simp) ?_
        simp [f2]
        exact isGoodN_text (by omega)
      · simp [d1, f2]
        refine awpR_call _ (by simp) (by simpa using hc2) rfl ?_
        simp
        refine awpR_call _ (by simp) (by simpa using ref18Text t) (by simp) ?_
        simp [f2]
        exact isGoodN_text (by omega)
    by_cases c3 : k = 3
    · obtain ⟨_, ⟨v, e, rfl⟩, -, hc⟩ := ref01Count n.text 8 (by omega)
      simp [f1, f2, c3]
      refine awpR_call _ (by simp) (by simpa using hc) rfl ?_
      simp [f2]
      exact isGoodN_mk h.good
    by_cases d1 : (1 : Int) ≤ n.text.length
    · simp [f1, f2, c0, c1, c2, c3, d1]
      exact isGoodN_mk h.good
    · simp [f1, f2, c0, c1, c2, c3, d1]
      exact isGoodN_mk h.good
  rintro st3 hf3 ⟨⟨m, r2, hm⟩, ⟨b, r6⟩⟩
  cases b
  · simp [r2, r6, hf3, f4']
  · simp [r2, r6, hf3, f4']
    exact isNodeB_mk hm

end Go.Proofs.YtccmaeefedgcnaaGreat

namespace Go.Proofs.YtccmaeefedgcnaaGreat

/-- Where nothing is yet, or a map is made. -/
def isMaking (k : Nat) (v : AV) : Prop := ∃ m, IsN v m ∧ Making k m
theorem isMaking_node {k : Nat} {m : Node} (h : Making k m) : isMaking k (nodeAV m) := ⟨m, isN_node m, h⟩
theorem isMaking_agg {k : Nat} {m : Node} (h : Making k m) : isMaking k (.agg [.int .i64 m.kind, .str m.text, .slice 1 (m.keys.map .str), .slice 4 (m.kids.map nodeAV)]) := ⟨m, isN_agg m, h⟩

def isInp (v : AV) : Prop := ∃ m, v = nodeAV m ∧ m.Inp
theorem isInp_agg {kind : Int} {text : Str} {keys : List Str} {kids : List Node} (h : (⟨kind, text, keys, kids⟩ : Node).Inp) : isInp (.agg [.int .i64 kind, .str text, .slice 1 (keys.map .str), .slice 4 (kids.map nodeAV)]) := by
  rw [nodeAV_mk]; exact ⟨_, rfl, h⟩

set_option maxHeartbeats 2000000 in
theorem ref18Health (n : Node) (h : n.Inp) : Total Tryz.prog 66 [nodeAV n] isNodeB := by
  refine total66 rfl ?_
  have hk := h.keys
  have hk2 := h.kids
  refine cutf [1, 2, 3] rfl (fun st => st.e 1 = nodeAV n ∧ st.e 2 = noNode) (by simp) ?_
  rintro st - ⟨g1, g2⟩
  obtain ⟨_, ⟨b0, rfl, hb⟩, -, hc0⟩ := ref18only n [[116, 101, 115, 116], [105, 110, 116, 101, 114, 118, 97, 108], [115, 116, 97, 114, 116, 95, 112, 101, 114, 105, 111, 100], [114, 101, 116, 114, 105, 101, 115], [100, 105, 115, 97, 98, 108, 101]] (by omega) (by simp)
  refine cutf [20, 2, 3] rfl (fun st => st.e 2 = noNode) ?_ ?_
  · simp [g1]
    refine awpR_call _ (by simp) (by simpa using hc0) rfl ?_
    cases b0
    · simp [g2]
    · simp [g2]
  rintro s1 hs1 r2
  have r1 : s1.e 1 = nodeAV n := by simp [hs1, g1]
  clear hs1 g1 g2
  refine cutf [4] rfl (fun st => st.e 4 = noNode) (by simp) ?_
  rintro s2 hs2 r4
  obtain ⟨_, ⟨x, bx, rfl, hx⟩, -, hcx⟩ := inp_truth n h [100, 105, 115, 97, 98, 108, 101] [102, 97, 108, 115, 101] (by simp)
  refine cutf [5, 6] rfl (fun st => st.e 5 = .str x ∧ st.e 6 = .bool bx) ?_ ?_
  · simp [hs2, r1]
    refine awpR_call _ (by simp) (by simpa using hcx) rfl ?_
    simp
  rintro s3 hs3 ⟨r5, r6⟩
  refine cutf [7, 8] rfl (fun st => isInp (st.e 7) ∧ isBool (st.e 8)) ?_ ?_
  · simp [hs3, hs2, r1]
    refine awpR_call _ (by simp) (by simpa using soundGet h.good _) (getAV_data _) ?_
    cases hg : n.get [116, 101, 115, 116] with
    | none =>
      simp [getAV]
      exact isInp_agg (keys := []) (kids := []) (.mk (by simp) (by simp) (by simp) (by simp) (by simp) (by simp) (by simp) (by simp))
    | some v =>
      simp [getAV]
      exact ⟨v, rfl, h.kid (get_mem hg)⟩
  rintro s4 hs4 ⟨⟨v, r7, hv⟩, b8, r8⟩
  have e1 : s4.e 1 = nodeAV n := by simp [hs4, hs3, hs2, r1]
  have e2 : s4.e 2 = noNode := by simp [hs4, hs3, hs2, r2]
  have e4 : s4.e 4 = noNode := by simp [hs4, hs3, r4]
  have e5 : s4.e 5 = .str x := by simp [hs4, r5]
  have e6 : s4.e 6 = .bool bx := by simp [hs4, r6]
  clear hs2 hs3 hs4 r1 r2 r4 r5 r6
  refine cutf [33, 9, 10, 40, 43, 5, 4, 2, 3] rfl (fun st => st.e 2 = noNode ∧ (∃ x, st.e 5 = .str x) ∧ isMaking 1 (st.e 4)) ?_ ?_
  · cases b8
    · simp [r8, e2, e5, e4]
      exact ⟨zeroN, isN_zero, making_zero⟩
    obtain ⟨_, ⟨t, k, rfl, ht⟩, -, hc⟩ := ref18test v hv
    have hwith := ref08With zeroN [116, 101, 115, 116] (textN t) (by simp) (by simp)
    have hnext : Making 1 (zeroN.with [116, 101, 115, 116] (textN t)) := making_zero.with (k := 0) (by simp) (text_good ht)
    rw [nodeAV_zero] at hwith
    have hts : Sound Tryz.prog _ [.str t] (nodeAV (textN t)) := ref18Text t
    simp [r8, r7]
    refine awpR_call _ (by simp) (by simpa using hc) rfl ?_
    by_cases c0 : k = 0
    · simp [c0, e2]
    · by_cases c2 : k = 2
      · simp [c2, e2, e4]
        refine awpR_call _ (by simp) (by simpa using hts) (by simp) ?_
        simp
        refine awpR_call (nodeAV (zeroN.with [116, 101, 115, 116] (textN t))) (by simp) (by simpa using hwith) (by simp) ?_
        simp [e2, e4]
        first | exact isMaking_node hnext | exact isMaking_agg hnext
      · simp [c0, c2, e2, e4]
        refine awpR_call _ (by simp) (by simpa using hts) (by simp) ?_
        simp
        refine awpR_call (nodeAV (zeroN.with [116, 101, 115, 116] (textN t))) (by simp) (by simpa using hwith) (by simp) ?_
        simp [e2, e4, e5]
        first | exact isMaking_node hnext | exact isMaking_agg hnext
  rintro s5 hs5 ⟨r2, ⟨x', r5⟩, hm⟩
  have r1 : s5.e 1 = nodeAV n := by simp [hs5, e1]
  have r6 : s5.e 6 = .bool bx := by simp [hs5, e6]
  clear hs5 e1 e2 e4 e5 e6 r7 r8
  obtain ⟨_, ⟨y1, b1, rfl, h1⟩, -, hc1⟩ := ref18span n h [105, 110, 116, 101, 114, 118, 97, 108] 1
  obtain ⟨_, ⟨y2, b2, rfl, h2⟩, -, hc2⟩ := ref18span n h [115, 116, 97, 114, 116, 95, 112, 101, 114, 105, 111, 100] 0
  obtain ⟨_, ⟨y3, b3, rfl⟩, -, hc3⟩ := ref18number n h.good [114, 101, 116, 114, 105, 101, 115]
  refine cutf [11, 12] rfl (fun st => st.e 11 = .str y1 ∧ st.e 12 = .bool b1) ?_ ?_
  · simp [r1]
    refine awpR_call _ (by simp) (by simpa using hc1) rfl ?_
    simp
  rintro s6 hs6 ⟨t11, t12⟩
  refine cutf [13, 14] rfl (fun st => st.e 13 = .str y2 ∧ st.e 14 = .bool b2) ?_ ?_
  · simp [hs6, r1]
    refine awpR_call _ (by simp) (by simpa using hc2) rfl ?_
    simp
  rintro s7 hs7 ⟨t13, t14⟩
  refine cutf [15, 16] rfl (fun st => st.e 15 = .int .i64 y3 ∧ st.e 16 = .bool b3) ?_ ?_
  · simp [hs7, hs6, r1]
    refine awpR_call _ (by simp) (by simpa using hc3) rfl ?_
    simp
  rintro s8 hs8 ⟨t15, t16⟩
  have e1 : s8.e 1 = nodeAV n := by simp [hs8, hs7, hs6, r1]
  have e2 : s8.e 2 = noNode := by simp [hs8, hs7, hs6, r2]
  have e4 : s8.e 4 = s5.e 4 := by simp [hs8, hs7, hs6]
  have e5 : s8.e 5 = .str x' := by simp [hs8, hs7, hs6, r5]
  have e6 : s8.e 6 = .bool bx := by simp [hs8, hs7, hs6, r6]
  have e11 : s8.e 11 = .str y1 := by simp [hs8, hs7, t11]
  have e12 : s8.e 12 = .bool b1 := by simp [hs8, hs7, t12]
  have e13 : s8.e 13 = .str y2 := by simp [hs8, t13]
  have e14 : s8.e 14 = .bool b2 := by simp [hs8, t14]
  rw [← e4] at hm
  clear hs8 hs7 hs6 r1 r2 r5 r6 t11 t12 t13 t14 e4
  refine cutf [80, 2, 3] rfl (fun st => st.e 2 = noNode) ?_ ?_
  · cases bx
    · simp [e6, e12, e14, t15, t16, e2]
    cases b1
    · simp [e6, e12, e14, t15, t16, e2]
    cases b2
    · simp [e6, e12, e14, t15, t16, e2]
    cases b3
    · simp [e6, e12, e14, t15, t16, e2]
    by_cases c1 : 10 < y3
    · simp [e6, e12, e14, t15, t16, e2, c1]
    · simp [e6, e12, e14, t15, t16, e2, c1]
  rintro s9 hs9 f2
  refine cutf [83, 2, 3] rfl (fun st => st.e 2 = noNode) ?_ ?_
  · by_cases c1 : x' = [116, 114, 117, 101]
    · simp [hs9, e5, c1]
      refine awpR_call _ (by simp) (by simpa using ref18Text [116, 114, 117, 101]) (by simp) ?_
      simp [f2]
      refine isNodeB_agg (keys := [[100, 105, 115, 97, 98, 108, 101]]) (kids := [textN [116, 114, 117, 101]]) (.mk' (by simp) (by simp) ?_ (by simp) (by simp) (by simp))
      intro k hk
      simp at hk; subst hk
      exact text_good (by simp)
    · simp [hs9, e5, c1, f2]
  rintro s10 hs10 u2
  have u4 : s10.e 4 = s8.e 4 := by simp [hs10, hs9]
  have u11 : s10.e 11 = .str y1 := by simp [hs10, hs9, e11]
  have u13 : s10.e 13 = .str y2 := by simp [hs10, hs9, e13]
  have u15 : s10.e 15 = .int .i64 y3 := by simp [hs10, hs9, t15]
  rw [← u4] at hm
  clear hs10 hs9 e1 e2 e5 e6 e11 e12 e13 e14 t15 t16 f2 u4
  obtain ⟨m, ⟨q1, q2, q3, q4, q5, q6, q7⟩, hm⟩ := hm
  refine cutf [89, 4] rfl (fun st => isMaking 2 (st.e 4)) ?_ ?_
  · by_cases c1 : y1 = []
    · simp [u11, c1]; exact ⟨m, ⟨q1, q2, q3, q4, q5, q6, q7⟩, hm.mono (by omega)⟩
    · have hwith := ref08With m [105, 110, 116, 101, 114, 118, 97, 108] (textN y1) (by have := hm.le; omega) (fun _ => hm.len)
      simp [u11, c1, q1, q2, q3]
      refine awpR_call _ (by simp) (by simpa using ref18Text y1) (by simp) ?_
      simp
      refine awpR_call (nodeAV (m.with [105, 110, 116, 101, 114, 118, 97, 108] (textN y1))) (by simp) (by simpa using hwith) (by simp) ?_
      simp [q2, q3, q4, q7]
      exact isMaking_node (hm.with (by simp) (text_good h1))
  rintro s11 hs11 ⟨m, ⟨q1, q2, q3, q4, q5, q6, q7⟩, hm⟩
  refine cutf [95, 4] rfl (fun st => isMaking 3 (st.e 4)) ?_ ?_
  · by_cases c1 : y2 = []
    · simp [hs11, u13, c1]; exact ⟨m, ⟨q1, q2, q3, q4, q5, q6, q7⟩, hm.mono (by omega)⟩
    · have hwith := ref08With m [115, 116, 97, 114, 116, 95, 112, 101, 114, 105, 111, 100] (textN y2) (by have := hm.le; omega) (fun _ => hm.len)
      simp [hs11, u13, c1, q1, q2, q3]
      refine awpR_call _ (by simp) (by simpa using ref18Text y2) (by simp) ?_
      simp
      refine awpR_call (nodeAV (m.with [115, 116, 97, 114, 116, 95, 112, 101, 114, 105, 111, 100] (textN y2))) (by simp) (by simpa using hwith) (by simp) ?_
      simp [q2, q3, q4, q7]
      exact isMaking_node (hm.with (by simp) (text_good h2))
  rintro s12 hs12 ⟨m, ⟨q1, q2, q3, q4, q5, q6, q7⟩, hm⟩
  refine cutf [101, 4] rfl (fun st => isMaking 4 (st.e 4)) ?_ ?_
  · by_cases c1 : 0 < y3
    rotate_left
    · simp [hs12, hs11, u15, c1]; exact ⟨m, ⟨q1, q2, q3, q4, q5, q6, q7⟩, hm.mono (by omega)⟩
    · obtain ⟨_, ⟨t, rfl, ht⟩, -, hc⟩ := ref01Text y3
      have hwith := ref08With m [114, 101, 116, 114, 105, 101, 115] (textN t) (by have := hm.le; omega) (fun _ => hm.len)
      simp [hs12, hs11, u15, c1, q1, q2, q3]
      refine awpR_call _ (by simp) (by simpa using hc) (by simp) ?_
      simp
      refine awpR_call _ (by simp) (by simpa using ref18Text t) (by simp) ?_
      simp
      refine awpR_call (nodeAV (m.with [114, 101, 116, 114, 105, 101, 115] (textN t))) (by simp) (by simpa using hwith) (by simp) ?_
      simp [q2, q3, q4, q7]
      exact isMaking_node (hm.with (by simp) (text_good (by omega)))
  rintro s13 hs13 ⟨m, ⟨q1, q2, q3, q4, q5, q6, q7⟩, hm⟩
  obtain ⟨_, ⟨r, b2, rfl, hr⟩, -, hc⟩ := ref18done m true (hm.good (by omega)) hm.len
  simp [q1, q2, q3]
  refine awpR_call _ (by simp) (by simpa using hc) rfl ?_
  simp [hs13, hs12, hs11, u2]
  exact isNodeB_mk hr

theorem ref18Field (n : Node) (h : n.Inp) (k : Int) : Total Tryz.prog 54 [nodeAV n, .int .i64 k] isNodeB := by
  refine total54 rfl ?_
  refine cutf [2, 4, 5] rfl (fun st => st.e 2 = nodeAV n ∧ st.e 1 = .int .i64 k ∧ st.e 4 = noNode) (by simp) ?_
  rintro st - ⟨g2, g1, g4⟩
  by_cases c0 : k < 5
  · obtain ⟨_, ⟨r, b, rfl, hr⟩, -, hc⟩ := ref18One n h k
    simp [g1, g2, c0]
    refine awpR_call _ (by simp) (by simpa using hc) rfl ?_
    simp [g4]; exact isNodeB_mk hr
  by_cases c5 : k = 5
  · obtain ⟨_, ⟨r, b, rfl, hr⟩, -, hc⟩ := ref18Words n h.good
    simp [g1, g2, c5]
    refine awpR_call _ (by simp) (by simpa using hc) rfl ?_
    simp [g4]; exact isNodeB_mk hr
  by_cases c6 : k = 6
  · obtain ⟨_, ⟨r, b, rfl, hr⟩, -, hc⟩ := ref18Pairs n h.good true
    simp [g1, g2, c6]
    refine awpR_call _ (by simp) (by simpa using hc) rfl ?_
    simp [g4]; exact isNodeB_mk hr
  by_cases c7 : k = 7
  · obtain ⟨_, ⟨r, b, rfl, hr⟩, -, hc⟩ := ref18Pairs n h.good false
    simp [g1, g2, c7]
    refine awpR_call _ (by simp) (by simpa using hc) rfl ?_
    simp [g4]; exact isNodeB_mk hr
  by_cases c8 : k = 8
  · obtain ⟨_, ⟨r, b, rfl, hr⟩, -, hc⟩ := ref18Set n h.good
    simp [g1, g2, c8]
    refine awpR_call _ (by simp) (by simpa using hc) rfl ?_
    simp [g4]; exact isNodeB_mk hr
  by_cases c9 : k = 9
  · obtain ⟨_, ⟨r, b, rfl, hr⟩, -, hc⟩ := ref18Ports n h
    simp [g1, g2, c9]
    refine awpR_call _ (by simp) (by simpa using hc) rfl ?_
    simp [g4]; exact isNodeB_mk hr
  by_cases c10 : k = 10
  · obtain ⟨_, ⟨r, b, rfl, hr⟩, -, hc⟩ := ref18Mounts n h
    simp [g1, g2, c10]
    refine awpR_call _ (by simp) (by simpa using hc) rfl ?_
    simp [g4]; exact isNodeB_mk hr
  by_cases c11 : k = 11
  · obtain ⟨_, ⟨r, b, rfl, hr⟩, -, hc⟩ := ref18Deps n h
    simp [g1, g2, c11]
    refine awpR_call _ (by simp) (by simpa using hc) rfl ?_
    simp [g4]; exact isNodeB_mk hr
  by_cases c12 : k = 12
  · obtain ⟨_, ⟨r, b, rfl, hr⟩, -, hc⟩ := ref18Extends n h
    simp [g1, g2, c12]
    refine awpR_call _ (by simp) (by simpa using hc) rfl ?_
    simp [g4]; exact isNodeB_mk hr
  obtain ⟨_, ⟨r, b, rfl, hr⟩, -, hc⟩ := ref18Health n h
  simp [g1, g2, c0, c5, c6, c7, c8, c9, c10, c11, c12]
  refine awpR_call _ (by simp) (by simpa using hc) rfl ?_
  simp [g4]; exact isNodeB_mk hr

end Go.Proofs.YtccmaeefedgcnaaGreat

namespace Go.Proofs.YtccmaeefedgcnaaGreat

/-- A map under construction of which something holds at each key. -/
def Mapped (k : Nat) (Φ : Str → Node → Prop) (m : Node) : Prop := ∃ l, m = ofPairs l ∧ GoodL k l ∧ ∀ x ∈ l, Φ x.1 x.2
def mapN : Node := ⟨3, [], [], []⟩
theorem mapped_nil {k : Nat} {Φ : Str → Node → Prop} : Mapped k Φ mapN := ⟨[], rfl, goodL_nil, by simp⟩
theorem Mapped.kind {k : Nat} {Φ : Str → Node → Prop} {m : Node} (h : Mapped k Φ m) : m.kind = 3 := by obtain ⟨l, rfl, _⟩ := h; rfl
theorem Mapped.good {k : Nat} {Φ : Str → Node → Prop} {m : Node} (h : Mapped k Φ m) (hk : k ≤ 1073741824) : m.Good := by
  obtain ⟨l, rfl, hl, _⟩ := h; exact ofPairs_good hl hk
theorem Mapped.len {k : Nat} {Φ : Str → Node → Prop} {m : Node} (h : Mapped k Φ m) : m.keys.length ≤ m.kids.length := by obtain ⟨l, rfl, _⟩ := h; simp [ofPairs]
theorem Mapped.le {k : Nat} {Φ : Str → Node → Prop} {m : Node} (h : Mapped k Φ m) : m.keys.length ≤ k := by obtain ⟨l, rfl, hl, _⟩ := h; simpa [ofPairs] using hl.1
theorem Mapped.mono {k k' : Nat} {Φ : Str → Node → Prop} {m : Node} (h : Mapped k Φ m) (hk : k ≤ k') : Mapped k' Φ m := by
  obtain ⟨l, rfl, hl, hx⟩ := h; exact ⟨l, rfl, hl.mono hk, hx⟩
theorem Mapped.with {k : Nat} {Φ : Str → Node → Prop} {m : Node} (h : Mapped k Φ m) {key : Str} {v : Node} (hk : key.length ≤ 1073741824) (hv : v.Good) (hx : Φ key v) : Mapped (k + 1) Φ (m.with key v) := by
  obtain ⟨l, rfl, hl, hl2⟩ := h
  refine ⟨_, with_ofPairs l key v, withL_good hl hk hv, ?_⟩
  intro x hm
  simp only [withL, List.mem_append, List.mem_map] at hm
  rcases hm with ⟨y, hy, rfl⟩ | hm
  · by_cases e : y.1 = key
    · simp only [if_pos e, e]; exact hx
    · simp only [if_neg e]; exact hl2 y hy
  · split at hm
    · cases hm
    · simp at hm; subst hm; exact hx
theorem get_ofPairs {l : List (Str × Node)} {key : Str} {v : Node} (h : (ofPairs l).get key = some v) : (key, v) ∈ l := by
  simp only [Node.get, ofPairs, if_true, List.idxOf?] at h
  cases hi : (l.map (·.1)).findIdx? (· == key) with
  | none => rw [hi] at h; simp at h
  | some i =>
    rw [hi] at h
    simp only [Option.bind_some, List.getElem?_map] at h
    rw [List.findIdx?_eq_some_iff_getElem] at hi
    obtain ⟨h1, h2, _⟩ := hi
    have hil : i < l.length := by simpa using h1
    rw [List.getElem?_eq_getElem hil] at h
    simp at h h2
    have := List.getElem_mem hil
    rw [← h, ← h2]
    exact this
theorem Mapped.get {k : Nat} {Φ : Str → Node → Prop} {m : Node} (h : Mapped k Φ m) {key : Str} {v : Node} (hg : m.get key = some v) : Φ key v := by
  obtain ⟨l, rfl, _, hx⟩ := h
  exact hx _ (get_ofPairs hg)
theorem isN_map : IsN (.agg [.int .i64 3, .str [], .oslice 1 [], .oslice 4 []]) mapN := ⟨rfl, by simp, rfl, fun _ => rfl, rfl, by rw [nodeAV_eq]; rfl, rfl⟩
attribute [simp] isN_map

/-- A form, or why there is none. -/
abbrev formedAV (n : Node) (p : Str) (e : Int) : AV := .agg [.int .i64 n.kind, .str n.text, .slice 1 (n.keys.map .str), .slice 4 (n.kids.map nodeAV), .str p, .int .i64 e]
def isFormed (m : Nat) (Φ : Node → Prop) (r : AV) : Prop := ∃ n p e, r = formedAV n p e ∧ n.Good ∧ p.length ≤ m ∧ (e = 0 → Φ n)
theorem isFormed_mk {m : Nat} {Φ : Node → Prop} {n : Node} {p : Str} {e : Int} (h : n.Good) (hp : p.length ≤ m) (hx : e = 0 → Φ n) : isFormed m Φ (formedAV n p e) := ⟨n, p, e, rfl, h, hp, hx⟩
theorem isFormed_no {m : Nat} {Φ : Node → Prop} {p : Str} {e : Int} (hp : p.length ≤ m) (he : e ≠ 0) : isFormed m Φ (.agg [.int .i64 0, .str [], .slice 1 [], .slice 4 [], .str p, .int .i64 e]) :=
  ⟨zeroN, p, e, rfl, zero_good, hp, fun h => absurd h he⟩
abbrev noFormed : AV := .agg [.int .i64 0, .str [], .oslice 1 [], .oslice 4 [], .str [], .int .i64 0]

theorem ref19foreign (s : Str) : Total Tryz.prog 25 [.str s] isBool := by
  refine total25 rfl ?_
  refine cutf [2] rfl (fun st => st.e 0 = .str s) (by simp) ?_
  rintro st - g0
  by_cases c1 : (2 : Int) ≤ s.length
  · have c2 : 2 ≤ s.length := by omega
    simp [g0, c1, c2]
  · simp [g0, c1]

theorem ref19number (s : Str) : Total Tryz.prog 53 [.str s] isInt := by
  refine total53 rfl ?_
  refine cutf [2] rfl (fun st => st.e 0 = .str s) (by simp) ?_
  rintro st - g0
  refine cutf [3] rfl (fun st => ∃ l : List Str, st.e 3 = .oslice 1 (l.map .str) ∧ l.length ≤ 100) ?_ ?_
  · simp
    refine ⟨[[114, 101, 115, 116, 97, 114, 116], [99, 112, 117, 115], [109, 101, 109, 95, 108, 105, 109, 105, 116], [115, 99, 97, 108, 101], [105, 109, 97, 103, 101], [99, 111, 109, 109, 97, 110, 100], [101, 110, 118, 105, 114, 111, 110, 109, 101, 110, 116], [108, 97, 98, 101, 108, 115], [110, 101, 116, 119, 111, 114, 107, 115], [112, 111, 114, 116, 115], [118, 111, 108, 117, 109, 101, 115], [100, 101, 112, 101, 110, 100, 115, 95, 111, 110], [101, 120, 116, 101, 110, 100, 115], [104, 101, 97, 108, 116, 104, 99, 104, 101, 99, 107]], rfl, by simp⟩
  rintro st1 hf1 ⟨l, g3, hl⟩
  refine cutf [4, 9, 17, 2] rfl (fun st => True) ?_ ?_
  rotate_left
  · rintro st2 hf2 -
    by_cases c1 : s = [112, 114, 111, 102, 105, 108, 101, 115] <;> simp [hf2, hf1, g0, c1]
  simp
  refine run_loopf [9, 17, 2, 4] rfl (fun st => ∃ i : Nat, st.e 4 = .int .i64 i ∧ i ≤ l.length) (fun st => l.length - natOf (st.e 4)) ?_ ?_
  · exact ⟨0, by simp, by omega⟩
  rintro s0 hf ⟨i, f4, hi⟩
  have f3 : s0.e 3 = .oslice 1 (l.map .str) := by simp [hf, g3]
  have f0 : s0.e 0 = .str s := by simp [hf, hf1, g0]
  by_cases hlt : i < l.length
  · have hws := wrap_succ (i := i) (by omega)
    by_cases c1 : l[i] = s
    · simp [f0, f3, f4, hlt, c1]
    · simp [f0, f3, f4, hlt, c1, hws]
      exact ⟨⟨i + 1, by omega, by omega⟩, by omega⟩
  · simp [f0, f3, f4, hlt]

set_option maxHeartbeats 1000000 in
theorem ref19Service (n : Node) (h : n.Inp) : Total Tryz.prog 44 [nodeAV n] (isFormed 1048576 fun _ => True) := by
  refine total44 rfl ?_
  have hkeys := h.keys
  have hkids := h.kids
  refine cutf [1, 2] rfl (fun st => st.e 1 = nodeAV n ∧ st.e 2 = noFormed) (by simp) ?_
  rintro st - ⟨g1, g2⟩
  refine cutf [15, 2] rfl (fun st => st.e 2 = noFormed) ?_ ?_
  · by_cases c0 : n.kind = 0
    · simp [g1, g2, c0]
    by_cases c3 : n.kind = 3
    · simp [g1, g2, c3]
    · simp [g1, g2, c0, c3]; exact isFormed_no (by simp) (by simp)
  rintro st1 hf1 g2
  have g1' : st1.e 1 = nodeAV n := by simp [hf1, g1]
  clear hf1 g1
  refine cutf [3] rfl (fun st => IsN (st.e 3) mapN) (by simp) ?_
  rintro st2 hf2 g3
  refine cutf [4, 22, 30, 5, 38, 51, 6, 7, 63, 3, 2] rfl (fun st => st.e 2 = noFormed ∧ ∃ m, IsN (st.e 3) m ∧ Mapped 1048576 (fun _ _ => True) m) ?_ ?_
  rotate_left
  · rintro st hf ⟨g2, m, ⟨q1, q2, q3, q4, q5, q6, q7⟩, hm⟩
    have hg := hm.good (by omega)
    have hs := ref08Sorted m hg.fit hg.short
    rw [nodeAV_eq m] at hs
    simp [q1, q2, q3, g2]
    refine awpR_call _ (by simp) (by simpa using hs) (by simp) ?_
    simp [g2]
    exact isFormed_mk (sorted_good hg) (by simp) (fun _ => trivial)
  simp
  refine run_loopf [22, 30, 5, 38, 51, 6, 7, 63, 3, 2, 4] rfl (fun st => st.e 2 = noFormed ∧ ∃ (i : Nat) (m : Node), st.e 4 = .int .i64 i ∧ i ≤ n.keys.length ∧ IsN (st.e 3) m ∧ Mapped i (fun _ _ => True) m) (fun st => n.keys.length - natOf (st.e 4)) ?_ ?_
  · exact ⟨by simp [hf2, g2], 0, mapN, by simp, by omega, by simp [g3], mapped_nil⟩
  rintro s0 hf ⟨f2, i, m, f4, hi, ⟨q1, q2, q3, q4, q5, q6, q7⟩, hm⟩
  have f1 : s0.e 1 = nodeAV n := by simp [hf, hf2, g1']
  clear hf hf2
  by_cases hlt : i < n.keys.length
  rotate_left
  · simp [f1, f2, f4, hlt]
    exact ⟨m, ⟨q1, q2, q3, q4, q5, q6, q7⟩, hm.mono (by omega)⟩
  have hlt2 : i < n.kids.length := by omega
  have hws := wrap_succ (i := i) (by omega)
  have hkid := h.kid (List.getElem_mem hlt2)
  have hkl := h.key (List.getElem_mem hlt)
  refine cut (fun st' => st' = put s0 22 (.bool true)) (by simp [f1, f4, hlt]) ?_
  rintro _ rfl
  refine cutf [30, 5, 38, 51, 6, 7, 63, 3, 2] rfl (fun st => st.e 2 = noFormed ∧ ∃ m, IsN (st.e 3) m ∧ Mapped (i + 1) (fun _ _ => True) m) ?_ ?_
  rotate_left
  · rintro s1 hf ⟨r2, m', hN, hm'⟩
    simp [hf, f4, hws, r2]
    exact ⟨⟨i + 1, by omega, by omega, m', hN, hm'⟩, by omega⟩
  rw [run_block]
  have hsame : ∃ m, IsN (s0.e 3) m ∧ Mapped (i + 1) (fun _ _ => True) m := ⟨m, ⟨q1, q2, q3, q4, q5, q6, q7⟩, hm.mono (by omega)⟩
  obtain ⟨_, ⟨bf, rfl⟩, -, hcf⟩ := ref19foreign n.keys[i]
  obtain ⟨_, ⟨kn, rfl⟩, -, hcn⟩ := ref19number n.keys[i]
  obtain ⟨_, ⟨v, bv, rfl, hv⟩, -, hcv⟩ := ref18Field _ hkid kn
  refine cutf [30] rfl (fun st => True) ?_ ?_
  · simp [f1, f4, hlt]
    refine awpR_call _ (by simp) (by simpa using hcf) (by simp) ?_
    cases bf
    · simp
    · simp [f2]; exact hsame
  rintro s1 hs1 -
  refine cutf [5] rfl (fun st => st.e 5 = .int .i64 kn) ?_ ?_
  · simp [hs1, f1, f4, hlt]
    refine awpR_call _ (by simp) (by simpa using hcn) (by simp) ?_
    simp
  rintro s2 hs2 r5
  refine cutf [38, 2] rfl (fun st => st.e 2 = noFormed) ?_ ?_
  · by_cases c1 : kn < 0
    · simp [hs2, hs1, r5, c1, f1, f2, f4, hlt]
      exact isFormed_no hkl (by simp)
    · simp [hs2, hs1, r5, c1, f2]
  rintro s3 hs3 t2
  refine cutf [51] rfl (fun st => True) ?_ ?_
  · by_cases c1 : (n.kids[i]).kind = 0
    · simp [hs3, hs2, hs1, f1, f4, hlt2, c1, t2]; exact hsame
    · simp [hs3, hs2, hs1, f1, f4, hlt2, c1]
  rintro s4 hs4 -
  refine cutf [6, 7] rfl (fun st => st.e 6 = nodeAV v ∧ st.e 7 = .bool bv) ?_ ?_
  · simp [hs4, hs3, hs2, hs1, f1, f4, hlt2, r5]
    refine awpR_call _ (by simp) (by simpa using hcv) (by simp) ?_
    simp
  rintro s5 hs5 ⟨r6, r7⟩
  refine cutf [63, 2] rfl (fun st => st.e 2 = noFormed) ?_ ?_
  · cases bv
    · simp [hs5, hs4, hs3, hs2, hs1, f1, f2, t2, f4, r7, hlt]
      exact isFormed_no hkl (by simp)
    · simp [hs5, hs4, t2, r7]
  rintro s6 hs6 u2
  have hwith := ref08With m n.keys[i] v (by have := hm.le; omega) (fun _ => hm.len)
  have e3 : s6.e 3 = s0.e 3 := by simp [hs6, hs5, hs4, hs3, hs2, hs1]
  simp [e3, q1, q2, q3, hs6, hs5, hs4, hs3, hs2, hs1, r6, f1, f4, hlt]
  refine awpR_call (nodeAV (m.with n.keys[i] v)) (by simp) (by simpa using hwith) (by simp) ?_
  simp [e3, q2, q3, q4, q7, u2]
  exact ⟨_, isN_node _, hm.with (by omega) hv trivial⟩

end Go.Proofs.YtccmaeefedgcnaaGreat

namespace Go.Proofs.YtccmaeefedgcnaaGreat

theorem sorted_kind (n : Node) : n.sorted.kind = n.kind := by
  rw [sorted_eq]; split <;> simp_all

set_option maxHeartbeats 1000000 in
theorem ref19services (n : Node) (h : n.Inp) : Total Tryz.prog 26 [nodeAV n] (isFormed 3145728 fun n => n.kind = 3) := by
  refine total26 rfl ?_
  have hkeys := h.keys
  have hkids := h.kids
  refine cutf [1, 2] rfl (fun st => st.e 1 = nodeAV n ∧ st.e 2 = noFormed) (by simp) ?_
  rintro st - ⟨g1, g2⟩
  refine cutf [10, 2] rfl (fun st => st.e 2 = noFormed) ?_ ?_
  · by_cases c3 : n.kind = 3
    · simp [g1, g2, c3]
    · simp [g1, g2, c3]; exact isFormed_no (by simp) (by simp)
  rintro st1 hf1 g2
  have g1' : st1.e 1 = nodeAV n := by simp [hf1, g1]
  clear hf1 g1
  refine cutf [3] rfl (fun st => IsN (st.e 3) mapN) (by simp) ?_
  rintro st2 hf2 g3
  refine cutf [4, 17, 26, 5, 38, 6, 49, 7, 58, 3, 2] rfl (fun st => st.e 2 = noFormed ∧ ∃ m, IsN (st.e 3) m ∧ Mapped 1048576 (fun _ _ => True) m) ?_ ?_
  rotate_left
  · rintro st hf ⟨g2, m, ⟨q1, q2, q3, q4, q5, q6, q7⟩, hm⟩
    have hg := hm.good (by omega)
    have hs := ref08Sorted m hg.fit hg.short
    rw [nodeAV_eq m] at hs
    have hk3 : m.sorted.kind = 3 := by rw [sorted_kind]; exact hm.kind
    have q1' : (st.e 3).cells[2]? = none ∨ ((st.e 3).cells[2]?.map AV.un1 = some (.slice 1 (m.keys.map .str))) := by
      right
      have := congrArg (·[2]?) q1
      simpa using this
    by_cases c1 : (16 : Int) < m.keys.length
    · simp [q1, q2, q3, q1', g2, c1]
      exact isFormed_no (by simp) (by simp)
    · simp [q1, q2, q3, q1', g2, c1]
      refine awpR_call _ (by simp) (by simpa using hs) (by simp) ?_
      simp [g2]
      exact isFormed_mk (sorted_good hg) (by simp) (fun _ => hk3)
  simp
  refine run_loopf [17, 26, 5, 38, 6, 49, 7, 58, 3, 2, 4] rfl (fun st => st.e 2 = noFormed ∧ ∃ (i : Nat) (m : Node), st.e 4 = .int .i64 i ∧ i ≤ n.keys.length ∧ IsN (st.e 3) m ∧ Mapped i (fun _ _ => True) m) (fun st => n.keys.length - natOf (st.e 4)) ?_ ?_
  · exact ⟨by simp [hf2, g2], 0, mapN, by simp, by omega, by simp [g3], mapped_nil⟩
  rintro s0 hf ⟨f2, i, m, f4, hi, ⟨q1, q2, q3, q4, q5, q6, q7⟩, hm⟩
  have f1 : s0.e 1 = nodeAV n := by simp [hf, hf2, g1']
  clear hf hf2
  by_cases hlt : i < n.keys.length
  rotate_left
  · simp [f1, f2, f4, hlt]
    exact ⟨m, ⟨q1, q2, q3, q4, q5, q6, q7⟩, hm.mono (by omega)⟩
  have hlt2 : i < n.kids.length := by omega
  have hws := wrap_succ (i := i) (by omega)
  have hkid := h.kid (List.getElem_mem hlt2)
  have hkl := h.key (List.getElem_mem hlt)
  refine cut (fun st' => st' = put s0 17 (.bool true)) (by simp [f1, f4, hlt]) ?_
  rintro _ rfl
  refine cutf [26, 5, 38, 6, 49, 7, 58, 3, 2] rfl (fun st => st.e 2 = noFormed ∧ ∃ m, IsN (st.e 3) m ∧ Mapped (i + 1) (fun _ _ => True) m) ?_ ?_
  rotate_left
  · rintro s1 hf ⟨r2, m', hN, hm'⟩
    simp [hf, f4, hws, r2]
    exact ⟨⟨i + 1, by omega, by omega, m', hN, hm'⟩, by omega⟩
  rw [run_block]
  obtain ⟨_, ⟨v, p, e, rfl, hv, hp, -⟩, -, hcv⟩ := ref19Service _ hkid
  refine cutf [26, 5, 38, 2] rfl (fun st => st.e 2 = noFormed) ?_ ?_
  · simp [f1, f4, hlt]
    refine awpR_call _ (by simp) (by simpa using ref02Service n.keys[i]) (by simp) ?_
    by_cases c1 : serviceName n.keys[i] = true
    · simp [c1, f2]
    · have c1' : serviceName n.keys[i] = false := by simpa using c1
      by_cases c2 : n.keys[i] = []
      · simp [c1', f1, f2, f4, hlt, c2]
        exact .inr ⟨by simpa [c2] using c1', isFormed_no (by simp) (by simp)⟩
      · simp [c1', f1, f2, f4, hlt, c2]
        refine ⟨by omega, ?_⟩
        exact isFormed_no (by simp; omega) (by simp)
  rintro s1 hs1 r2
  refine cutf [6] rfl (fun st => st.e 6 = formedAV v p e) ?_ ?_
  · simp [hs1, f1, f4, hlt2]
    refine awpR_call _ (by simp) (by simpa using hcv) (by simp) ?_
    simp
  rintro s2 hs2 r6
  refine cutf [49, 7, 58, 2] rfl (fun st => st.e 2 = noFormed) ?_ ?_
  · by_cases c1 : e = 0
    · simp [hs2, r6, c1, r2]
    · by_cases c2 : p = []
      · simp [hs2, hs1, r6, c1, c2, r2, f1, f4, hlt]
        exact ⟨by omega, isFormed_no (by simp; omega) c1⟩
      · simp [hs2, hs1, r6, c1, c2, r2, f1, f4, hlt]
        exact ⟨by omega, by omega, by omega, isFormed_no (by simp; omega) c1⟩
  rintro s3 hs3 u2
  have hwith := ref08With m n.keys[i] v (by have := hm.le; omega) (fun _ => hm.len)
  rw [nodeAV_eq v] at hwith
  have e3 : s3.e 3 = s0.e 3 := by simp [hs3, hs2, hs1]
  simp [e3, q1, q2, q3, hs3, hs2, hs1, r6, f1, f4, hlt]
  refine awpR_call (nodeAV (m.with n.keys[i] v)) (by simp) (by simpa using hwith) (by simp) ?_
  simp [e3, q2, q3, q4, q7, u2]
  exact ⟨_, isN_node _, hm.with (by omega) hv trivial⟩

/-- What a form is. -/
structure Formed (n : Node) : Prop where
  right : 0 ≤ left n 1 2000
  kind : n.kind = 3
  services : ∀ v, n.get [115, 101, 114, 118, 105, 99, 101, 115] = some v → v.kind = 3

theorem sorted_get {n : Node} (hk : n.kind = 3) {key : Str} {v : Node} (h : n.sorted.get key = some v) : (key ∈ n.keys) ∧ v = ((n.get key).map Node.sorted).getD zeroN := by
  have hk2 := sorted_kind n
  rw [sorted_eq, if_pos hk] at h
  simp only [Node.get, if_true, List.idxOf?] at h
  cases hi : (sortU n.keys).findIdx? (· == key) with
  | none => rw [hi] at h; simp at h
  | some i =>
    rw [hi] at h
    simp only [Option.bind_some, List.getElem?_map] at h
    rw [List.findIdx?_eq_some_iff_getElem] at hi
    obtain ⟨h1, h2, _⟩ := hi
    rw [List.getElem?_eq_getElem h1] at h
    simp at h h2
    have hm := List.getElem_mem h1
    rw [h2] at hm h
    refine ⟨mem_sortU.1 hm, ?_⟩
    rw [← h]
    simp [Node.get, List.idxOf?]

theorem mapped_formed {k : Nat} {m : Node} (hm : Mapped k (fun key v => key = [115, 101, 114, 118, 105, 99, 101, 115] → v.kind = 3) m) (hr : 0 ≤ left m.sorted 1 2000) : Formed m.sorted := by
  refine ⟨hr, by rw [sorted_kind]; exact hm.kind, ?_⟩
  intro v hv
  obtain ⟨h1, h2⟩ := sorted_get hm.kind hv
  obtain ⟨w, hw, _⟩ := get_some hm.kind hm.len h1
  rw [hw] at h2
  simp at h2
  rw [h2, sorted_kind]
  exact hm.get hw rfl

abbrev servicesT : Str := [115, 101, 114, 118, 105, 99, 101, 115]
def isVal (key : Str) (v : AV) : Prop := ∃ w, v = nodeAV w ∧ w.Good ∧ (key = servicesT → w.kind = 3)
theorem isVal_mk {key : Str} {w : Node} (h : w.Good) (h3 : key = servicesT → w.kind = 3) : isVal key (nodeAV w) := ⟨w, rfl, h, h3⟩

set_option maxHeartbeats 2000000 in
theorem ref19File (n : Node) (h : n.Inp) : Total Tryz.prog 12 [nodeAV n] (isFormed 3145728 Formed) := by
  refine total12 rfl ?_
  have hkeys := h.keys
  have hkids := h.kids
  refine cutf [1, 2] rfl (fun st => st.e 1 = nodeAV n ∧ st.e 2 = noFormed) (by simp) ?_
  rintro st - ⟨g1, g2⟩
  refine cutf [18, 2] rfl (fun st => st.e 2 = noFormed) ?_ ?_
  · by_cases c0 : n.kind = 0
    · simp [g1, g2, c0]
    by_cases c3 : n.kind = 3
    · simp [g1, g2, c3]
    · simp [g1, g2, c0, c3]; exact isFormed_no (by simp) (by simp)
  rintro st1 hf1 g2
  have g1' : st1.e 1 = nodeAV n := by simp [hf1, g1]
  clear hf1 g1
  refine cutf [3] rfl (fun st => IsN (st.e 3) mapN) (by simp) ?_
  rintro st2 hf2 g3
  refine cutf [4, 25, 6, 5, 39, 53, 58, 60, 7, 65, 70, 79, 8, 9, 88, 3, 2] rfl (fun st => st.e 2 = noFormed ∧ ∃ m, IsN (st.e 3) m ∧ Mapped 1048576 (fun key v => key = servicesT → v.kind = 3) m) ?_ ?_
  rotate_left
  · rintro st hf ⟨g2, m, ⟨q1, q2, q3, q4, q5, q6, q7⟩, hm⟩
    have hg := hm.good (by omega)
    have hs := ref08Sorted m hg.fit hg.short
    have hsg := sorted_good hg
    have hright := ref08Right m.sorted hsg.short
    rw [nodeAV_eq m] at hs
    refine cutf [10] rfl (fun st => st.e 10 = nodeAV m.sorted) ?_ ?_
    · simp [q1, q2, q3]
      refine awpR_call _ (by simp) (by simpa using hs) (by simp) ?_
      simp
    rintro st3 hf3 f10
    simp [f10]
    refine awpR_call _ (by simp) (by simpa using hright) (by simp) ?_
    by_cases c1 : 0 ≤ left m.sorted 1 2000
    · simp [c1, hf3, f10, g2]
      exact isFormed_mk hsg (by simp) (fun _ => mapped_formed hm c1)
    · simp [c1, hf3, f10, g2]
      exact isFormed_no (by simp) (by simp)
  simp
  refine run_loopf [25, 6, 5, 39, 53, 58, 60, 7, 65, 70, 79, 8, 9, 88, 3, 2, 4] rfl (fun st => st.e 2 = noFormed ∧ ∃ (i : Nat) (m : Node), st.e 4 = .int .i64 i ∧ i ≤ n.keys.length ∧ IsN (st.e 3) m ∧ Mapped i (fun key v => key = servicesT → v.kind = 3) m) (fun st => n.keys.length - natOf (st.e 4)) ?_ ?_
  · exact ⟨by simp [hf2, g2], 0, mapN, by simp, by omega, by simp [g3], mapped_nil⟩
  rintro s0 hf ⟨f2, i, m, f4, hi, ⟨q1, q2, q3, q4, q5, q6, q7⟩, hm⟩
  have f1 : s0.e 1 = nodeAV n := by simp [hf, hf2, g1']
  clear hf hf2
  by_cases hlt : i < n.keys.length
  rotate_left
  · simp [f1, f2, f4, hlt]
    exact ⟨m, ⟨q1, q2, q3, q4, q5, q6, q7⟩, hm.mono (by omega)⟩
  have hlt2 : i < n.kids.length := by omega
  have hws := wrap_succ (i := i) (by omega)
  have hkid := h.kid (List.getElem_mem hlt2)
  have hkl := h.key (List.getElem_mem hlt)
  refine cut (fun st' => st' = put s0 25 (.bool true)) (by simp [f1, f4, hlt]) ?_
  rintro _ rfl
  refine cutf [6, 5, 39, 53, 58, 60, 7, 65, 70, 79, 8, 9, 88, 3, 2] rfl (fun st => st.e 2 = noFormed ∧ ∃ m, IsN (st.e 3) m ∧ Mapped (i + 1) (fun key v => key = servicesT → v.kind = 3) m) ?_ ?_
  rotate_left
  · rintro s1 hf ⟨r2, m', hN, hm'⟩
    simp [hf, f4, hws, r2]
    exact ⟨⟨i + 1, by omega, by omega, m', hN, hm'⟩, by omega⟩
  rw [run_block]
  have hsame : ∃ m, IsN (s0.e 3) m ∧ Mapped (i + 1) (fun key v => key = servicesT → v.kind = 3) m := ⟨m, ⟨q1, q2, q3, q4, q5, q6, q7⟩, hm.mono (by omega)⟩
  refine cutf [6, 5] rfl (fun st => st.e 6 = nodeAV n.kids[i] ∧ st.e 5 = .str n.keys[i]) ?_ ?_
  · simp [f1, f4, hlt, hlt2]
  rintro s1 hs1 ⟨r6, r5⟩
  generalize n.kids[i] = kid at *
  generalize n.keys[i] = key at *
  obtain ⟨_, ⟨bf, rfl⟩, -, hcf⟩ := ref19foreign key
  refine cutf [39] rfl (fun st => True) ?_ ?_
  · simp [r5]
    refine awpR_call _ (by simp) (by simpa using hcf) (by simp) ?_
    cases bf
    · simp
    · simp [hs1, f2]; exact hsame
  rintro s2 hs2 -
  refine cutf [53, 2] rfl (fun st => st.e 2 = noFormed) ?_ ?_
  · by_cases c1 : key = [110, 97, 109, 101]
    · simp [hs2, hs1, r5, c1, f2]
    by_cases c2 : key = servicesT
    · simp [hs2, hs1, r5, c2, f2]
    by_cases c3 : key = [110, 101, 116, 119, 111, 114, 107, 115]
    · simp [hs2, hs1, r5, c3, f2]
    by_cases c4 : key = [118, 111, 108, 117, 109, 101, 115]
    · simp [hs2, hs1, r5, c4, f2]
    simp [hs2, hs1, r5, c1, c2, c3, c4, f2]
    exact isFormed_no (by omega) (by simp)
  rintro s3 hs3 t2
  refine cutf [58] rfl (fun st => True) ?_ ?_
  · by_cases c1 : kid.kind = 0
    · simp [hs3, hs2, hs1, r6, c1, t2]; exact hsame
    · simp [hs3, hs2, r6, c1]
  rintro s4 hs4 -
  have e5 : s4.e 5 = .str key := by simp [hs4, hs3, hs2, r5]
  have e6 : s4.e 6 = nodeAV kid := by simp [hs4, hs3, hs2, r6]
  have e2 : s4.e 2 = noFormed := by simp [hs4, t2]
  have e3 : s4.e 3 = s0.e 3 := by simp [hs4, hs3, hs2, hs1]
  clear hs4 hs3 hs2 hs1 r5 r6 t2
  refine cutf [60, 7, 65, 6, 70, 79, 8, 9, 88, 2] rfl (fun st => st.e 2 = noFormed ∧ isVal key (st.e 6)) ?_ ?_
  · by_cases c1 : key = servicesT
    · obtain ⟨_, ⟨v, p, e, rfl, hv, hp, hve⟩, -, hcv⟩ := ref19services kid hkid
      simp [e5, e6, c1]
      refine awpR_call _ (by simp) (by simpa using hcv) (by simp) ?_
      by_cases c2 : e = 0
      · simp [c2, e2, e6]
        exact isVal_mk hv (fun _ => hve c2)
      · simp [c2, e2, e6]
        exact isFormed_mk hv hp (fun h => absurd h c2)
    by_cases c2 : key = [110, 97, 109, 101]
    · by_cases c3 : kid.kind = 1
      · simp [e5, e6, c2, c3]
        refine awpR_ggcall _ (by simp) (by simp [c3]) (fun _ => by simpa using ref02Project kid.text) (by simp) ?_
        by_cases c4 : projectName kid.text = true
        · simp [c4, e2, e6, c3]
          exact isVal_mk hkid.good (fun h => absurd h (by decide))
        · have c4' : projectName kid.text = false := by simpa using c4
          simp [c4', e2, e5, c2]
          exact isFormed_no (by simp) (by simp)
      · simp [e5, e6, c2, c3]
        refine awpR_ggcall (.bool true) (by simp [c3]) (by simp [c3]) (by simp [c3]) (by simp) ?_
        simp [c3, e2, e5, c2]
        exact isFormed_no (by simp) (by simp)
    obtain ⟨_, ⟨v, ok, rfl, hv⟩, -, hcv⟩ := ref18Set kid hkid.good
    simp [e5, e6, c1, c2]
    refine awpR_call _ (by simp) (by simpa using hcv) (by simp) ?_
    cases ok
    · simp [e2, e5]
      exact isFormed_no (by omega) (by simp)
    · simp [e2, e6]
      exact isVal_mk hv (fun h => absurd h c1)
  rintro s5 hs5 ⟨u2, w, u6, hw, hw3⟩
  have hwith := ref08With m key w (by have := hm.le; omega) (fun _ => hm.len)
  have e3' : s5.e 3 = s0.e 3 := by simp [hs5, e3]
  have e5' : s5.e 5 = .str key := by simp [hs5, e5]
  simp [e3', q1, q2, q3, u6, e5']
  refine awpR_call (nodeAV (m.with key w)) (by simp) (by simpa using hwith) (by simp) ?_
  simp [e3', q2, q3, q4, q7, u2]
  exact ⟨_, isN_node _, hm.with (by omega) hw hw3⟩

end Go.Proofs.YtccmaeefedgcnaaGreat
