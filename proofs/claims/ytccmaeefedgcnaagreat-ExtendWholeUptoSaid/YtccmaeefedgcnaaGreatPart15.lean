/-
  LAWS OF NODES: what is short and fit stays so.
  CONTRACTS: longshoreref18, small ones.
  CONTRACTS: longshoreref18, fields; Words, Set.
  CONTRACTS: longshoreref18, Words, Set.
  CONTRACTS: longshoreref18.Set.
  CONTRACTS: longshoreref18.Pairs.
-/
import Derived.Test.YtccmaeefedgcnaaGreatPart12
import Derived.Test.YtccmaeefedgcnaaGreatPart13
import Derived.Test.YtccmaeefedgcnaaGreatPart10
import Derived.Test.YtccmaeefedgcnaaGreatPart14
set_option linter.all false

namespace Go.Proofs.YtccmaeefedgcnaaGreat

/-- Short and fit. -/
structure Node.Good (n : Node) : Prop where
  short : n.Short
  fit : n.Fit
theorem Node.Good.mk' {n : Node} (h1 : n.keys.length ≤ 1073741824) (h2 : n.kids.length ≤ 1073741824) (h3 : ∀ k ∈ n.kids, k.Good) (h4 : n.text.length ≤ 1073741824) (h5 : ∀ k ∈ n.keys, k.length ≤ 1073741824)
    (h6 : n.kind = 3 ∨ n.kind = 0 → n.keys.length ≤ n.kids.length) : n.Good := ⟨.mk h1 h2 (fun k hk => (h3 k hk).short) h4 h5, .mk h6 fun k hk => (h3 k hk).fit⟩
theorem Node.Good.kid {n : Node} (h : n.Good) {k : Node} (hk : k ∈ n.kids) : k.Good := ⟨h.short.kid hk, h.fit.kid hk⟩
theorem Node.Short.text {n : Node} (h : n.Short) : n.text.length ≤ 1073741824 := by cases h; assumption
theorem Node.Short.key {n : Node} (h : n.Short) {k : Str} (hk : k ∈ n.keys) : k.length ≤ 1073741824 := by cases h with | mk _ _ _ _ h5 => exact h5 k hk
theorem zero_good : zeroN.Good := .mk' (by simp) (by simp) (by simp) (by simp) (by simp) (by simp)
theorem text_good {s : Str} (h : s.length ≤ 1073741824) : (⟨1, s, [], []⟩ : Node).Good := .mk' (by simp) (by simp) (by simp) h (by simp) (by simp)

/-- Pairs that are good. -/
def GoodL (k : Nat) (l : List (Str × Node)) : Prop := l.length ≤ k ∧ ∀ x ∈ l, x.1.length ≤ 1073741824 ∧ x.2.Good
theorem goodL_nil {k : Nat} : GoodL k [] := ⟨by simp, by simp⟩
theorem ofPairs_good {k : Nat} {l : List (Str × Node)} (h : GoodL k l) (hk : k ≤ 1073741824) : (ofPairs l).Good := by
  refine .mk' (by simp [ofPairs]; exact Nat.le_trans h.1 hk) (by simp [ofPairs]; exact Nat.le_trans h.1 hk) ?_ (by simp [ofPairs]) ?_ (by simp [ofPairs])
  · intro n hn
    simp only [ofPairs, List.mem_map] at hn
    obtain ⟨x, hx, rfl⟩ := hn
    exact (h.2 x hx).2
  · intro n hn
    simp only [ofPairs, List.mem_map] at hn
    obtain ⟨x, hx, rfl⟩ := hn
    exact (h.2 x hx).1
theorem pairs_ofPairs (l : List (Str × Node)) : (ofPairs l).pairs = l := by
  simp only [Node.pairs, ofPairs]
  induction l with
  | nil => rfl
  | cons x l ih => simp [ih]
/-- A map (or nothing) with a value more. -/
def withL (l : List (Str × Node)) (key : Str) (v : Node) : List (Str × Node) := l.map (fun x => (x.1, if x.1 = key then v else x.2)) ++ if key ∈ l.map (·.1) then [] else [(key, v)]
theorem with_ofPairs (l : List (Str × Node)) (key : Str) (v : Node) : (ofPairs l).with key v = ofPairs (withL l key v) := by
  simp only [Node.with]
  rw [if_neg (by simp [ofPairs]), pairs_ofPairs]
  rfl
theorem with_zero (key : Str) (v : Node) : zeroN.with key v = ofPairs (withL [] key v) := by
  simp only [Node.with]
  rw [if_neg (by simp)]
  rfl
theorem withL_good {k : Nat} {l : List (Str × Node)} {key : Str} {v : Node} (h : GoodL k l) (hk : key.length ≤ 1073741824) (hv : v.Good) : GoodL (k + 1) (withL l key v) := by
  constructor
  · have := h.1
    simp only [withL, List.length_append, List.length_map]
    split <;> simp <;> omega
  · intro x hx
    simp only [withL, List.mem_append, List.mem_map] at hx
    rcases hx with ⟨y, hy, rfl⟩ | hx
    · refine ⟨(h.2 y hy).1, ?_⟩
      by_cases e : y.1 = key
      · simp only [if_pos e]; exact hv
      · simp only [if_neg e]; exact (h.2 y hy).2
    · split at hx
      · cases hx
      · simp at hx; subst hx; exact ⟨hk, hv⟩
theorem GoodL.mono {k k' : Nat} {l : List (Str × Node)} (h : GoodL k l) (hk : k ≤ k') : GoodL k' l := ⟨Nat.le_trans h.1 hk, h.2⟩

theorem get_mem {n : Node} {key : Str} {v : Node} (hv : n.get key = some v) : v ∈ n.kids := by
  unfold Node.get at hv
  by_cases hk : n.kind = 3
  · rw [if_pos hk] at hv
    cases hi : n.keys.idxOf? key with
    | none => rw [hi] at hv; simp at hv
    | some i =>
      rw [hi] at hv
      simp only [Option.bind_some] at hv
      exact List.mem_of_getElem? hv
  · rw [if_neg hk] at hv; cases hv
theorem get_good {n : Node} (h : n.Good) {key : Str} {v : Node} (hv : n.get key = some v) : v.Good := h.kid (get_mem hv)

theorem sorted_good {n : Node} (h : n.Good) : n.sorted.Good := by
  obtain ⟨hs, hf⟩ := h
  induction hf with
  | @mk n hfit h3 ih =>
    rw [sorted_eq]
    have hkeys := hs.keys
    have hkids := hs.kids
    split
    · rename_i hk
      have hl := sortU_len_le n.keys
      refine .mk' (by simp; omega) (by simp; omega) ?_ hs.text ?_ (by simp)
      · intro x hx
        simp only [List.mem_map] at hx
        obtain ⟨k, _, rfl⟩ := hx
        cases hg : n.get k with
        | none => exact zero_good
        | some v =>
          have hv := get_mem hg
          exact ih v hv (hs.kid hv)
      · intro k hk
        exact hs.key (mem_sortU.1 hk)
    · rename_i hk
      refine .mk' (by simp) (by simpa using hkids) ?_ hs.text (by simp) (by simp)
      intro x hx
      simp only [List.mem_map] at hx
      obtain ⟨k, hkm, rfl⟩ := hx
      exact ih k hkm (hs.kid hkm)

end Go.Proofs.YtccmaeefedgcnaaGreat

namespace Go.Proofs.YtccmaeefedgcnaaGreat

abbrev textN (s : Str) : Node := ⟨1, s, [], []⟩
theorem ref18Text (s : Str) : Sound Tryz.prog 73 [.str s] (nodeAV (textN s)) := by
  refine sound73 rfl ?_
  rw [nodeAV_eq]
  simp

def isTexts (m : Nat) (r : AV) : Prop := ∃ (l : List Str) (b : Bool), r = .tup [.slice 1 (l.map .str), .bool b] ∧ l.length ≤ 32 ∧ ∀ w ∈ l, w.length ≤ m
theorem isTexts_mk {m : Nat} {l : List Str} {b : Bool} (h1 : l.length ≤ 32) (h2 : ∀ w ∈ l, w.length ≤ m) : isTexts m (.tup [.slice 1 (l.map .str), .bool b]) := ⟨l, b, rfl, h1, h2⟩

/-- Texts of the kids are bounded. -/
theorem ref18texts (n : Node) (m : Nat) (hk : n.kids.length ≤ 1073741824) (hm : ∀ k ∈ n.kids, k.text.length ≤ m) : Total Tryz.prog 46 [nodeAV n] (isTexts m) := by
  refine total46 rfl ?_
  refine cut (fun st => st.e 1 = nodeAV n) (by simp) ?_
  intro st g1
  refine cut (fun st => st.e 1 = nodeAV n ∧ st.e 4 = .oslice 1 []) (by simp [g1]) ?_
  rintro st ⟨g1, g4⟩
  refine cut (fun st => st.e 1 = nodeAV n ∧ st.e 4 = .oslice 1 [] ∧ n.kids.length ≤ 32) ?_ ?_
  · by_cases c1 : n.kind = 2
    · by_cases c2 : (32 : Int) < n.kids.length
      · simp [g1, g4, c1, c2]
        exact isTexts_mk (l := []) (by simp) (by simp)
      · simp [g1, g4, c1, c2]
        omega
    · simp [g1, g4, c1]
      exact isTexts_mk (l := []) (by simp) (by simp)
  rintro st ⟨g1, g4, h32⟩
  refine cut (fun st => ∃ l : List Str, st.e 4 = .oslice 1 (l.map .str) ∧ l.length ≤ 32 ∧ ∀ w ∈ l, w.length ≤ m) ?_ ?_
  rotate_left
  · rintro st ⟨l, g4, hl, hw⟩
    simp [g4]
    exact isTexts_mk hl hw
  simp
  refine run_loop (fun st => st.e 1 = nodeAV n ∧ ∃ (i : Nat) (l : List Str), st.e 5 = .int .i64 i ∧ i ≤ n.kids.length ∧ st.e 4 = .oslice 1 (l.map .str) ∧ l.length ≤ i ∧ ∀ w ∈ l, w.length ≤ m) (fun st => n.kids.length - natOf (st.e 5)) ?_ ?_
  · simp [g1, g4]; exact ⟨0, rfl, by omega⟩
  · rintro st ⟨g1, i, l, g5, hi, g4, hl, hw⟩
    by_cases hlt : i < n.kids.length
    · have hws := wrap_succ (i := i) (by omega)
      have hwi := hm _ (List.getElem_mem hlt)
      by_cases c1 : (n.kids[i]).kind = 1
      · simp [g1, g4, g5, hlt, c1, hws]
        refine ⟨by omega, ⟨i + 1, by omega, by omega, l ++ [(n.kids[i]).text], by simp, by simp; omega, ?_⟩, by omega⟩
        intro x hx
        rcases List.mem_append.1 hx with h | h
        · exact hw x h
        · simp at h; subst h; exact hwi
      · simp [g1, g4, g5, hlt, c1]
        exact isTexts_mk (by omega) hw
    · simp [g1, g4, g5, hlt]
      exact ⟨l, rfl, by omega, hw⟩

theorem ref18key (s : Str) (b : Bool) : Total Tryz.prog 77 [.str s, .bool b] isBool := by
  refine total77 rfl ?_
  cases b
  · simp
    refine awpR_call _ (by simp) (by simpa using ref02Service s) rfl ?_
    simp
  · simp
    refine awpR_call _ (by simp) (by simpa using ref02Variable s) rfl ?_
    simp

theorem ref18only (n : Node) (l : List Str) (h1 : n.keys.length ≤ 1073741824) (hl : l.length ≤ 1073741824) : Total Tryz.prog 83 [nodeAV n, .slice 1 (l.map .str)] (fun r => ∃ b, r = .bool b ∧ (b = true → n.kind = 3)) := by
  refine total83 rfl ?_
  refine cut (fun st => st.e 2 = nodeAV n ∧ st.e 1 = .slice 1 (l.map .str)) (by simp) ?_
  rintro st ⟨g2, g1⟩
  refine cut (fun st => st.e 2 = nodeAV n ∧ st.e 1 = .slice 1 (l.map .str) ∧ n.kind = 3) ?_ ?_
  · by_cases c1 : n.kind = 3 <;> simp [g1, g2, c1]
  rintro st ⟨g2, g1, hk⟩
  refine cut (fun st => True) ?_ (fun st _ => by simp [hk])
  simp
  refine run_loop (fun st => st.e 2 = nodeAV n ∧ st.e 1 = .slice 1 (l.map .str) ∧ ∃ i : Nat, st.e 5 = .int .i64 i ∧ i ≤ n.keys.length) (fun st => n.keys.length - natOf (st.e 5)) ?_ ?_
  · simp [g1, g2]; exact ⟨0, rfl, by omega⟩
  · rintro st ⟨g2, g1, i, g5, hi⟩
    by_cases hlt : i < n.keys.length
    · have hws := wrap_succ (i := i) (by omega)
      simp [g1, g2, g5, hlt]
      refine awpR_call _ (by simp) (by simpa [g1, g2, g5, hlt] using ref02In l n.keys[i] (by omega)) rfl ?_
      by_cases c1 : n.keys[i] ∈ l
      · simp [g1, g2, g5, c1, hws]
        exact ⟨⟨i + 1, by omega, by omega⟩, by omega⟩
      · simp [g1, g2, g5, c1]
    · simp [g1, g2, g5, hlt]

end Go.Proofs.YtccmaeefedgcnaaGreat

namespace Go.Proofs.YtccmaeefedgcnaaGreat

def isStrB (r : AV) : Prop := ∃ (s : Str) (b : Bool), r = .tup [.str s, .bool b] ∧ s.length ≤ 1073741824
theorem isStrB_mk {s : Str} {b : Bool} (h : s.length ≤ 1073741824) : isStrB (.tup [.str s, .bool b]) := ⟨s, b, rfl, h⟩
def isIntB (r : AV) : Prop := ∃ (n : Int) (b : Bool), r = .tup [.int .i64 n, .bool b]
@[simp] theorem isIntB_mk {n : Int} {b : Bool} : isIntB (.tup [.int .i64 n, .bool b]) := ⟨n, b, rfl⟩
def isNodeB (r : AV) : Prop := ∃ (n : Node) (b : Bool), r = .tup [nodeAV n, .bool b] ∧ n.Good
theorem isNodeB_mk {n : Node} {b : Bool} (h : n.Good) : isNodeB (.tup [nodeAV n, .bool b]) := ⟨n, b, rfl, h⟩
@[simp] theorem isNodeB_no {b : Bool} : isNodeB (.tup [.agg [.int .i64 0, .str [], .slice 1 [], .slice 4 []], .bool b]) := by
  have := isNodeB_mk (b := b) zero_good; rwa [nodeAV_zero] at this
abbrev noNode : AV := .agg [.int .i64 0, .str [], .oslice 1 [], .oslice 4 []]

theorem getAV_data (o : Option Node) : (getAV o).data = true := by cases o <;> rfl
theorem soundGet {n : Node} (h : n.Good) (key : Str) : Sound Tryz.prog 40 [nodeAV n, .str key] (getAV (n.get key)) := ref08Get n key (fun hk => h.fit.keys (.inl hk)) (by have := h.short.keys; omega)

theorem ref18field (n : Node) (h : n.Good) (k o : Str) (ho : o.length ≤ 1073741824) : Total Tryz.prog 84 [nodeAV n, .str k, .str o] isStrB := by
  refine total84 rfl ?_
  refine cut (fun st => st.e 3 = nodeAV n ∧ st.e 1 = .str k ∧ st.e 2 = .str o) (by simp) ?_
  rintro st ⟨g3, g1, g2⟩
  simp [g3, g1]
  refine awpR_call _ (by simp) (by simpa using soundGet h k) (getAV_data _) ?_
  cases hg : n.get k with
  | none =>
    simp [getAV, g2]
    exact isStrB_mk ho
  | some v =>
    simp [getAV]
    exact isStrB_mk (get_good h hg).short.text

theorem ref18truth (n : Node) (h : n.Good) (k o : Str) (ho : o.length ≤ 1073741824) : Total Tryz.prog 85 [nodeAV n, .str k, .str o] isStrB := by
  refine total85 rfl ?_
  obtain ⟨_, ⟨s, b, rfl, hs⟩, -, hc⟩ := ref18field n h k o ho
  simp
  refine awpR_call _ (by simp) (by simpa using hc) rfl ?_
  cases b
  · simp
    exact isStrB_mk hs
  · by_cases c1 : s = [116, 114, 117, 101]
    · simp [c1]; exact isStrB_mk (by simp)
    · by_cases c2 : s = [102, 97, 108, 115, 101]
      · simp [c2]; exact isStrB_mk (by simp)
      · simp [c1, c2]; exact isStrB_mk hs

theorem ref18number (n : Node) (h : n.Good) (k : Str) : Total Tryz.prog 88 [nodeAV n, .str k] isIntB := by
  refine total88 rfl ?_
  refine cut (fun st => st.e 2 = nodeAV n ∧ st.e 1 = .str k) (by simp) ?_
  rintro st ⟨g2, g1⟩
  obtain ⟨_, ⟨s, b, rfl, hs⟩, -, hc⟩ := ref18field n h k [] (by simp)
  obtain ⟨_, ⟨v, e, rfl⟩, -, hc2⟩ := ref01Count s 65536 (by omega)
  simp [g2, g1]
  refine awpR_call _ (by simp) (by simpa using soundGet h k) (getAV_data _) ?_
  cases hg : n.get k with
  | none => simp [getAV]
  | some x =>
    simp [getAV, g1, g2]
    refine awpR_call _ (by simp) (by simpa using hc) rfl ?_
    simp
    refine awpR_call _ (by simp) (by simpa using hc2) rfl ?_
    cases b
    · simp
    · by_cases c1 : e = 0
      · by_cases c2 : 0 < v <;> simp [c1, c2]
      · simp [c1]

def Node.mapped (n : Node) : Node := ⟨3, n.text, n.keys, n.kids⟩
theorem ref18done (n : Node) (b : Bool) (h : n.Good) (hk : n.keys.length ≤ n.kids.length) : Total Tryz.prog 47 [nodeAV n, .bool b] isNodeB := by
  refine total47 rfl ?_
  refine cut (fun st => st.e 2 = nodeAV n ∧ st.e 1 = .bool b ∧ st.e 4 = noNode) (by simp) ?_
  rintro st ⟨g2, g1, g4⟩
  refine cut (fun st => st.e 2 = nodeAV n ∧ st.e 4 = noNode) ?_ ?_
  · cases b
    · simp [g1, g4]
    · by_cases c1 : (32 : Int) < n.keys.length
      · simp [g1, g2, g4, c1]
      · simp [g1, g2, g4, c1]
  rintro st ⟨g2, g4⟩
  have hg : n.mapped.Good := .mk' h.short.keys h.short.kids (fun k hk => h.kid hk) h.short.text (fun k hk => h.short.key hk) (fun _ => hk)
  refine cut (fun st => st.e 2 = nodeAV n.mapped ∧ st.e 4 = noNode) ?_ ?_
  · have e : nodeAV n.mapped = .agg [.int .i64 3, .str n.text, .slice 1 (n.keys.map .str), .slice 4 (n.kids.map nodeAV)] := nodeAV_eq _
    rw [e]
    simp [g2, g4]
  rintro st ⟨g2, g4⟩
  simp [g2]
  refine awpR_call _ (by simp) (by simpa using ref08Sorted _ hg.fit hg.short) (by simp) ?_
  simp [g4]
  exact isNodeB_mk (sorted_good hg)

end Go.Proofs.YtccmaeefedgcnaaGreat

namespace Go.Proofs.YtccmaeefedgcnaaGreat

theorem kids_text {n : Node} (h : n.Good) : ∀ k ∈ n.kids, k.text.length ≤ 1073741824 := fun k hk => (h.kid hk).short.text

theorem ref18Words (n : Node) (h : n.Good) : Total Tryz.prog 60 [nodeAV n] isNodeB := by
  refine total60 rfl ?_
  refine cut (fun st => st.e 1 = nodeAV n ∧ st.e 2 = noNode) (by simp) ?_
  rintro st ⟨g1, g2⟩
  obtain ⟨_, ⟨l, b, rfl, hl, hw⟩, -, hc⟩ := ref18texts n 1073741824 h.short.kids (kids_text h)
  refine cut (fun st => st.e 1 = nodeAV n ∧ st.e 2 = noNode ∧ st.e 4 = .slice 1 (l.map .str) ∧ st.e 5 = .bool b) ?_ ?_
  · simp [g1]
    refine awpR_call _ (by simp) (by simpa using hc) rfl ?_
    simp [g1, g2]
  rintro st ⟨g1, g2, g4, g5⟩
  refine cut (fun st => st.e 2 = noNode ∧ ∃ (l : List Str) (b : Bool), st.e 4 = .slice 1 (l.map .str) ∧ st.e 5 = .bool b ∧ l.length ≤ 32 ∧ ∀ w ∈ l, w.length ≤ 1073741824) ?_ ?_
  · by_cases c1 : n.kind = 1
    · obtain ⟨_, ⟨l2, e, rfl, hl2, hw2⟩, -, hc⟩ := ref15Split n.text h.short.text
      simp [g1, g2, c1]
      refine awpR_call _ (by simp) (by simpa using hc) rfl ?_
      have ht := h.short.text
      by_cases c2 : e = 0
      · simp [g2, c2]
        exact ⟨l2, rfl, hl2, fun w hwm => by have := hw2 w hwm; omega⟩
      · simp [g2, c2]
        exact ⟨l2, rfl, hl2, fun w hwm => by have := hw2 w hwm; omega⟩
    · simp [g1, g2, g4, g5, c1]
      exact ⟨l, rfl, hl, hw⟩
  rintro st ⟨g2, l, b, g4, g5, hl, hw⟩
  refine cut (fun st => st.e 2 = noNode ∧ st.e 4 = .slice 1 (l.map .str)) ?_ ?_
  · cases b <;> simp [g2, g4, g5]
  rintro st ⟨g2, g4⟩
  refine cut (fun st => st.e 2 = noNode ∧ st.e 4 = .slice 1 (l.map .str) ∧ st.e 8 = .agg [.int .i64 2, .str [], .oslice 1 [], .oslice 4 []]) (by simp [g2, g4]) ?_
  rintro st ⟨g2, g4, g8⟩
  refine cut (fun st => st.e 2 = noNode ∧ ∃ m : List Node, st.e 8 = .agg [.int .i64 2, .str [], .oslice 1 [], .oslice 4 (m.map nodeAV)] ∧ m.length ≤ 32 ∧ ∀ k ∈ m, k.Good) ?_ ?_
  · simp
    refine run_loop (fun st => st.e 2 = noNode ∧ st.e 4 = .slice 1 (l.map .str) ∧ ∃ (i : Nat) (m : List Node), st.e 9 = .int .i64 i ∧ i ≤ l.length ∧ st.e 8 = .agg [.int .i64 2, .str [], .oslice 1 [], .oslice 4 (m.map nodeAV)] ∧ m.length ≤ i ∧ ∀ k ∈ m, k.Good) (fun st => l.length - natOf (st.e 9)) ?_ ?_
    · simp [g2, g4, g8]; exact ⟨0, rfl, by omega⟩
    · rintro st ⟨g2, g4, i, m, g9, hi, g8, hm, hg⟩
      by_cases hlt : i < l.length
      · have hws := wrap_succ (i := i) (by omega)
        simp [g2, g4, g8, g9, hlt]
        refine awpR_call (nodeAV (textN l[i])) (by simp) (by simpa using ref18Text l[i]) (by simp) ?_
        simp [g2, g4, g8, g9, hws]
        refine ⟨by omega, ⟨i + 1, by omega, by omega, m ++ [textN l[i]], by simp, by simp; omega, ?_⟩, by omega⟩
        intro x hx
        rcases List.mem_append.1 hx with h | h
        · exact hg x h
        · simp at h; subst h; exact text_good (hw _ (List.getElem_mem hlt))
      · simp [g2, g4, g8, g9, hlt]
        exact ⟨m, rfl, by omega, hg⟩
  rintro st ⟨g2, m, g8, hm, hg⟩
  simp [g2, g8]
  have := isNodeB_mk (n := ⟨2, [], [], m⟩) (b := true) (.mk' (by simp) (by simpa using (by omega : m.length ≤ 1073741824)) hg (by simp) (by simp) (by simp))
  rw [nodeAV_eq] at this
  simpa using this

end Go.Proofs.YtccmaeefedgcnaaGreat

namespace Go.Proofs.YtccmaeefedgcnaaGreat

/-- A map under construction, or nothing yet. -/
def Making (k : Nat) (n : Node) : Prop := n = zeroN ∨ ∃ l, n = ofPairs l ∧ GoodL k l
theorem making_zero {k : Nat} : Making k zeroN := .inl rfl
theorem Making.good {k : Nat} {n : Node} (h : Making k n) (hk : k ≤ 1073741824) : n.Good := by
  rcases h with rfl | ⟨l, rfl, hl⟩
  · exact zero_good
  · exact ofPairs_good hl hk
theorem Making.len {k : Nat} {n : Node} (h : Making k n) : n.keys.length ≤ n.kids.length := by
  rcases h with rfl | ⟨l, rfl, hl⟩ <;> simp [ofPairs]
theorem Making.le {k : Nat} {n : Node} (h : Making k n) : n.keys.length ≤ k := by
  rcases h with rfl | ⟨l, rfl, hl⟩
  · simp
  · simpa [ofPairs] using hl.1
theorem Making.with {k : Nat} {n : Node} (h : Making k n) {key : Str} {v : Node} (hk : key.length ≤ 1073741824) (hv : v.Good) : Making (k + 1) (n.with key v) := by
  rcases h with rfl | ⟨l, rfl, hl⟩
  · exact .inr ⟨_, with_zero key v, (withL_good (goodL_nil (k := 0)) hk hv).mono (by omega)⟩
  · exact .inr ⟨_, with_ofPairs l key v, withL_good hl hk hv⟩
theorem Making.mono {k k' : Nat} {n : Node} (h : Making k n) (hk : k ≤ k') : Making k' n := by
  rcases h with rfl | ⟨l, rfl, hl⟩
  · exact .inl rfl
  · exact .inr ⟨l, rfl, hl.mono hk⟩

theorem ref18Set (n : Node) (h : n.Good) : Total Tryz.prog 28 [nodeAV n] isNodeB := by
  refine total28 rfl ?_
  refine cut (fun st => st.e 1 = nodeAV n ∧ st.e 2 = noNode) (by simp) ?_
  rintro st ⟨g1, g2⟩
  obtain ⟨_, ⟨l, b, rfl, hl, hw⟩, -, hc⟩ := ref18texts n 1073741824 h.short.kids (kids_text h)
  refine cut (fun st => st.e 1 = nodeAV n ∧ st.e 2 = noNode ∧ st.e 4 = .slice 1 (l.map .str) ∧ st.e 5 = .bool b) ?_ ?_
  · simp [g1]
    refine awpR_call _ (by simp) (by simpa using hc) rfl ?_
    simp [g1, g2]
  rintro st ⟨g1, g2, g4, g5⟩
  refine cut (fun st => st.e 2 = noNode ∧ ∃ (l : List Str) (b : Bool), st.e 4 = .slice 1 (l.map .str) ∧ st.e 5 = .bool b ∧ l.length ≤ 32 ∧ ∀ w ∈ l, w.length ≤ 1073741824) ?_ ?_
  · by_cases c1 : n.kind = 3
    rotate_left
    · simp [g1, g2, g4, g5, c1]; exact ⟨l, rfl, hl, hw⟩
    by_cases c2 : (n.keys.length : Int) ≤ 32
    rotate_left
    · simp [g1, g2, g4, g5, c1, c2]; exact ⟨l, rfl, hl, hw⟩
    have hkids := h.short.kids
    simp [g1, g2, c1, c2]
    refine run_loop (fun st => st.e 1 = nodeAV n ∧ st.e 2 = noNode ∧ st.e 4 = .slice 1 (n.keys.map .str) ∧ ∃ (i : Nat) (b : Bool), st.e 6 = .int .i64 i ∧ i ≤ n.kids.length ∧ st.e 5 = .bool b) (fun st => n.kids.length - natOf (st.e 6)) ?_ ?_
    · simp [g1, g2]; exact ⟨0, rfl, by omega⟩
    · rintro st ⟨g1, g2, g4, i, b, g6, hi, g5⟩
      by_cases hlt : i < n.kids.length
      · have hws := wrap_succ (i := i) (by omega)
        by_cases d1 : (n.kids[i]).kind = 0
        · simp [g1, g2, g4, g5, g6, hlt, d1, hws]
          exact ⟨⟨i + 1, by omega, by omega⟩, by omega⟩
        · by_cases d2 : (n.kids[i]).kind = 3
          · by_cases d3 : 0 < (n.kids[i]).keys.length
            · simp [g1, g2, g4, g5, g6, hlt, d1, d2, d3, hws]
              exact ⟨⟨i + 1, by omega, by omega⟩, by omega⟩
            · simp [g1, g2, g4, g5, g6, hlt, d1, d2, d3, hws]
              exact ⟨⟨i + 1, by omega, by omega⟩, by omega⟩
          · simp [g1, g2, g4, g5, g6, hlt, d1, d2, hws]
            exact ⟨⟨i + 1, by omega, by omega⟩, by omega⟩
      · simp [g1, g2, g4, g5, g6, hlt]
        exact ⟨n.keys, rfl, by omega, fun w hw => h.short.key hw⟩
  rintro st ⟨g2, l, b, g4, g5, hl, hw⟩
  refine cut (fun st => st.e 2 = noNode ∧ st.e 4 = .slice 1 (l.map .str) ∧ st.e 5 = .bool b ∧ st.e 7 = noNode) (by simp [g2, g4, g5]) ?_
  rintro st ⟨g2, g4, g5, g7⟩
  refine cut (fun st => st.e 2 = noNode ∧ ∃ (m : Node) (b : Bool), Making 32 m ∧ st.e 5 = .bool b ∧ (st.e 7 = nodeAV m ∨ m = zeroN ∧ st.e 7 = noNode)) ?_ ?_
  · simp
    refine run_loop (fun st => st.e 2 = noNode ∧ st.e 4 = .slice 1 (l.map .str) ∧ ∃ (i : Nat) (b : Bool) (m : Node), st.e 8 = .int .i64 i ∧ i ≤ l.length ∧ st.e 5 = .bool b ∧ Making i m ∧ (st.e 7 = nodeAV m ∨ m = zeroN ∧ st.e 7 = noNode)) (fun st => l.length - natOf (st.e 8)) ?_ ?_
    · simp [g2, g4, g5, g7]; exact ⟨0, rfl, by omega, zeroN, making_zero, .inr rfl⟩
    · rintro st ⟨g2, g4, i, b, m, g8, hi, g5, hm, h7⟩
      by_cases hlt : i < l.length
      · have hws := wrap_succ (i := i) (by omega)
        cases b
        · simp [g2, g4, g5, g8, hlt]
          exact ⟨m, hm.mono (by omega), h7⟩
        · simp [g2, g4, g5, g8, hlt]
          refine awpR_call _ (by simp) (by simpa [g4, g8, hlt] using ref02Service l[i]) rfl ?_
          have hmg := hm.good (by omega)
          have hwith := ref08With m l[i] zeroN (by have := hm.le; omega) (fun _ => hm.len)
          have hnext : Making (i + 1) (m.with l[i] zeroN) := hm.with (hw _ (List.getElem_mem hlt)) zero_good
          rcases h7 with g7 | ⟨rfl, g7⟩
          · simp [g2, g4, g5, g7, g8, hlt]
            refine awpR_call (nodeAV (m.with l[i] zeroN)) (by simp) (by simpa [nodeAV_zero] using hwith) (by simp) ?_
            simp [g2, g4, g5, g7, g8, hws]
            exact ⟨⟨i + 1, by omega, by omega, _, hnext, .inl rfl⟩, by omega⟩
          · rw [nodeAV_zero] at hwith
            simp [g2, g4, g5, g7, g8, hlt]
            refine awpR_call (nodeAV (zeroN.with l[i] zeroN)) (by simp) (by simpa using hwith) (by simp) ?_
            simp [g2, g4, g5, g7, g8, hws]
            exact ⟨⟨i + 1, by omega, by omega, _, hnext, .inl rfl⟩, by omega⟩
      · simp [g2, g4, g5, g8, hlt]
        exact ⟨m, hm.mono (by omega), h7⟩
  rintro st ⟨g2, m, b, hm, g5, h7⟩
  obtain ⟨_, ⟨r, b2, rfl, hr⟩, -, hc⟩ := ref18done m b (hm.good (by omega)) hm.len
  rcases h7 with g7 | ⟨rfl, g7⟩
  · simp [g5, g7]
    refine awpR_call _ (by simp) (by simpa using hc) rfl ?_
    simp [g2]
    exact isNodeB_mk hr
  · rw [nodeAV_zero] at hc
    simp [g5, g7]
    refine awpR_call _ (by simp) (by simpa using hc) rfl ?_
    simp [g2]
    exact isNodeB_mk hr

end Go.Proofs.YtccmaeefedgcnaaGreat

namespace Go.Proofs.YtccmaeefedgcnaaGreat

/-- A map under construction, as it lies in its variable. -/
def Lies (k : Nat) (v : AV) : Prop := ∃ m : Node, Making k m ∧ (v = nodeAV m ∨ m = zeroN ∧ v = noNode)
theorem lies_zero {k : Nat} : Lies k noNode := ⟨zeroN, making_zero, .inr ⟨rfl, rfl⟩⟩
theorem lies_mk {k : Nat} {m : Node} (h : Making k m) : Lies k (nodeAV m) := ⟨m, h, .inl rfl⟩

set_option maxHeartbeats 1000000 in
theorem pairs_texts (vars : Bool) (l : List Str) (hl : l.length ≤ 32) (hw : ∀ w ∈ l, w.length ≤ 1073741824) (st : St) (g1 : st.e 1 = .bool vars) (g4 : st.e 4 = noNode) (g6 : st.e 6 = noNode) (g7 : st.e 7 = .slice 1 (l.map .str)) (k : List Fr) :
    awp Tryz.prog c61s37 (unw Tryz.prog k (EndsP [.cell 4 (some 4), .tmp 5] isNodeB)) st := by
  refine cut (fun st => st.e 4 = noNode ∧ Lies 32 (st.e 6)) ?_ ?_
  rotate_left
  · rintro st ⟨g4, m, hm, h6⟩
    obtain ⟨_, ⟨r, b2, rfl, hr⟩, -, hc⟩ := ref18done m true (hm.good (by omega)) hm.len
    rcases h6 with g6 | ⟨rfl, g6⟩
    · simp [g6]
      refine awpR_call _ (by simp) (by simpa using hc) rfl ?_
      simp [g4]
      rw [unw_ret_any]
      simp
      exact isNodeB_mk hr
    · rw [nodeAV_zero] at hc
      simp [g6]
      refine awpR_call _ (by simp) (by simpa using hc) rfl ?_
      simp [g4]
      rw [unw_ret_any]
      simp
      exact isNodeB_mk hr
  simp
  refine run_loop (fun st => st.e 1 = .bool vars ∧ st.e 4 = noNode ∧ st.e 7 = .slice 1 (l.map .str) ∧ ∃ i : Nat, st.e 9 = .int .i64 i ∧ i ≤ l.length ∧ Lies i (st.e 6)) (fun st => l.length - natOf (st.e 9)) ?_ ?_
  · simp [g1, g4, g6, g7]; exact ⟨0, rfl, by omega, lies_zero⟩
  · rintro st ⟨g1, g4, g7, i, g9, hi, m, hm, h6⟩
    by_cases hlt : i < l.length
    rotate_left
    · simp [g4, g7, g9, hlt]
      exact ⟨m, hm.mono (by omega), h6⟩
    have hws := wrap_succ (i := i) (by omega)
    have hwl := hw _ (List.getElem_mem hlt)
    refine cut (fun st' => st' = put st 24 (.bool true)) (by simp [g7, g9, hlt]) ?_
    rintro _ rfl
    refine cut (fun st => st.e 1 = .bool vars ∧ st.e 4 = noNode ∧ st.e 7 = .slice 1 (l.map .str) ∧ st.e 9 = .int .i64 i ∧ Lies (i + 1) (st.e 6)) ?_ ?_
    rotate_left
    · rintro s0 ⟨f1, f4, f7, f9, f6⟩
      simp [f1, f4, f7, f9, g9, hws]
      exact ⟨⟨i + 1, by omega, by omega, f6⟩, by omega⟩
    rw [run_block]
    refine cut (fun st => st.e 1 = .bool vars ∧ st.e 4 = noNode ∧ st.e 7 = .slice 1 (l.map .str) ∧ st.e 9 = .int .i64 i ∧ (st.e 6 = nodeAV m ∨ m = zeroN ∧ st.e 6 = noNode) ∧ st.e 10 = .int .i64 0) (by simpa [g1, g4, g7, g9] using h6) ?_
    rintro s0 ⟨f1, f4, f7, f9, f6, f10⟩
    refine cut (fun st => st.e 1 = .bool vars ∧ st.e 4 = noNode ∧ st.e 7 = .slice 1 (l.map .str) ∧ st.e 9 = .int .i64 i ∧ (st.e 6 = nodeAV m ∨ m = zeroN ∧ st.e 6 = noNode) ∧ ∃ j : Nat, st.e 10 = .int .i64 j ∧ j ≤ (l[i]).length) ?_ ?_
    · simp
      refine run_loop (fun st => st.e 1 = .bool vars ∧ st.e 4 = noNode ∧ st.e 7 = .slice 1 (l.map .str) ∧ st.e 9 = .int .i64 i ∧ (st.e 6 = nodeAV m ∨ m = zeroN ∧ st.e 6 = noNode) ∧ ∃ j : Nat, st.e 10 = .int .i64 j ∧ j ≤ (l[i]).length) (fun st => (l[i]).length - natOf (st.e 10)) ?_ ?_
      · exact ⟨f1, f4, f7, f9, f6, 0, f10, by omega⟩
      · rintro s1 ⟨f1, f4, f7, f9, f6, j, f10, hj⟩
        by_cases hjl : j < (l[i]).length
        · have hwj := wrap_succ (i := j) (by omega)
          by_cases d1 : ((l[i])[j].toNat : Int) = 61
          · simp [f1, f4, f7, f9, f10, hlt, hjl, d1]
            exact ⟨f6, j, rfl, by omega⟩
          · simp [f1, f4, f7, f9, f10, hlt, hjl, d1, hwj]
            exact ⟨⟨f6, j + 1, by omega, by omega⟩, by omega⟩
        · simp [f1, f4, f7, f9, f10, hlt, hjl]
          exact ⟨f6, j, rfl, by omega⟩
    rintro s0 ⟨f1, f4, f7, f9, f6, j, f10, hj⟩
    refine cut (fun st => st.e 1 = .bool vars ∧ st.e 4 = noNode ∧ st.e 7 = .slice 1 (l.map .str) ∧ st.e 9 = .int .i64 i ∧ (st.e 6 = nodeAV m ∨ m = zeroN ∧ st.e 6 = noNode) ∧ st.e 10 = .int .i64 j ∧ st.e 11 = .str []) (by simpa [f1, f4, f7, f9, f10] using f6) ?_
    rintro s0 ⟨f1, f4, f7, f9, f6, f10, f11⟩
    refine cut (fun st => st.e 1 = .bool vars ∧ st.e 4 = noNode ∧ st.e 7 = .slice 1 (l.map .str) ∧ st.e 9 = .int .i64 i ∧ (st.e 6 = nodeAV m ∨ m = zeroN ∧ st.e 6 = noNode) ∧ st.e 10 = .int .i64 j ∧ ∃ v : Str, st.e 11 = .str v ∧ v.length ≤ 1073741824) ?_ ?_
    · by_cases d1 : j < (l[i]).length
      · have hwj := wrap_succ (i := j) (by omega)
        simp [f1, f4, f7, f9, f10, hlt, d1, hwj]
        exact ⟨by omega, f6, by omega⟩
      · simp [f1, f4, f7, f9, f10, f11, hlt, d1]
        exact f6
    rintro s0 ⟨f1, f4, f7, f9, f6, f10, v, f11, hv⟩
    refine cut (fun st => st.e 1 = .bool vars ∧ st.e 4 = noNode ∧ st.e 7 = .slice 1 (l.map .str) ∧ st.e 9 = .int .i64 i ∧ (st.e 6 = nodeAV m ∨ m = zeroN ∧ st.e 6 = noNode) ∧ st.e 11 = .str v ∧ st.e 12 = .str ((l[i]).take j)) (by simpa [f1, f4, f7, f9, f10, f11, hlt, hj] using f6) ?_
    rintro s0 ⟨f1, f4, f7, f9, f6, f11, f12⟩
    have hkl : ((l[i]).take j).length ≤ 1073741824 := by simp; omega
    generalize (l[i]).take j = key at *
    obtain ⟨_, ⟨b, rfl⟩, -, hc⟩ := ref18key key vars
    have hin := ref02In m.keys key (by have := hm.le; omega)
    refine cut (fun st => st.e 1 = .bool vars ∧ st.e 4 = noNode ∧ st.e 7 = .slice 1 (l.map .str) ∧ st.e 9 = .int .i64 i ∧ (st.e 6 = nodeAV m ∨ m = zeroN ∧ st.e 6 = noNode) ∧ st.e 11 = .str v ∧ st.e 12 = .str key) ?_ ?_
    · simp [f1, f12]
      refine awpR_call _ (by simp) (by simpa using hc) rfl ?_
      cases b
      · simp
        refine awpR_ggcall (.bool true) (by simp) (by simp) (by simp) rfl ?_
        simp [f4]
        rw [unw_ret_any]
        simp
      · rcases f6 with f6 | ⟨rfl, q6⟩
        · simp [f6, f12]
          refine awpR_ggcall _ (by simp) (by simp) (fun _ => by simpa [f12] using hin) rfl ?_
          by_cases d1 : key ∈ m.keys
          · simp [f4, d1]
            rw [unw_ret_any]
            simp
          · simp [f1, f4, f6, f7, f9, f11, f12, d1]
        · simp [q6, f12]
          refine awpR_ggcall _ (by simp) (by simp) (fun _ => by simpa [f12] using hin) rfl ?_
          simp [f1, f4, q6, f7, f9, f11, f12]
    rintro s0 ⟨f1, f4, f7, f9, f6, f11, f12⟩
    have hwith := ref08With m key (textN v) (by have := hm.le; omega) (fun _ => hm.len)
    have hnext : Making (i + 1) (m.with key (textN v)) := hm.with hkl (text_good hv)
    rcases f6 with f6 | ⟨rfl, q6⟩
    · simp [f6, f11, f12]
      refine awpR_call _ (by simp) (by simpa using ref18Text v) (by simp) ?_
      simp
      refine awpR_call (nodeAV (m.with key (textN v))) (by simp) (by simpa using hwith) (by simp) ?_
      simp [f1, f4, f6, f7, f9]
      exact lies_mk hnext
    · rw [nodeAV_zero] at hwith
      simp [q6, f11, f12]
      refine awpR_call _ (by simp) (by simpa using ref18Text v) (by simp) ?_
      simp
      refine awpR_call (nodeAV (zeroN.with key (textN v))) (by simp) (by simpa using hwith) (by simp) ?_
      simp [f1, f4, q6, f7, f9]
      exact lies_mk hnext

set_option maxHeartbeats 1000000 in
theorem pairs_map (n : Node) (h : n.Good) (vars : Bool) (st : St) (g1 : st.e 1 = .bool vars) (g2 : st.e 2 = nodeAV n) (g4 : st.e 4 = noNode) (g6 : st.e 6 = noNode) :
    awp Tryz.prog c61s60 (unw Tryz.prog [] (EndsP [.cell 4 (some 4), .tmp 5] isNodeB)) st := by
  have hkeys := h.short.keys
  refine cut (fun st => st.e 1 = .bool vars ∧ st.e 2 = nodeAV n ∧ st.e 4 = noNode ∧ st.e 6 = noNode ∧ n.kind = 3) ?_ ?_
  · by_cases c1 : n.kind = 3 <;> simp [g1, g2, g4, g6, c1]
  rintro st ⟨g1, g2, g4, g6, hk⟩
  have hkk := h.fit.keys (.inl hk)
  refine cut (fun st => st.e 4 = noNode ∧ Lies 1073741824 (st.e 6)) ?_ ?_
  rotate_left
  · rintro st ⟨g4, m, hm, h6⟩
    obtain ⟨_, ⟨r, b2, rfl, hr⟩, -, hc⟩ := ref18done m true (hm.good (by omega)) hm.len
    rcases h6 with g6 | ⟨rfl, g6⟩
    · simp [g6]
      refine awpR_call _ (by simp) (by simpa using hc) rfl ?_
      simp [g4]
      exact isNodeB_mk hr
    · rw [nodeAV_zero] at hc
      simp [g6]
      refine awpR_call _ (by simp) (by simpa using hc) rfl ?_
      simp [g4]
      exact isNodeB_mk hr
  simp
  refine run_loop (fun st => st.e 1 = .bool vars ∧ st.e 2 = nodeAV n ∧ st.e 4 = noNode ∧ ∃ i : Nat, st.e 13 = .int .i64 i ∧ i ≤ n.keys.length ∧ Lies i (st.e 6)) (fun st => n.keys.length - natOf (st.e 13)) ?_ ?_
  · simp [g1, g2, g4, g6]; exact ⟨0, rfl, by omega, lies_zero⟩
  · rintro st ⟨g1, g2, g4, i, g13, hi, m, hm, h6⟩
    by_cases hlt : i < n.keys.length
    rotate_left
    · simp [g2, g4, g13, hlt]
      exact ⟨m, hm.mono (by omega), h6⟩
    have hlt2 : i < n.kids.length := by omega
    have hws := wrap_succ (i := i) (by omega)
    have hwl := h.short.key (List.getElem_mem hlt)
    have hkid := h.kid (List.getElem_mem hlt2)
    refine cut (fun st' => st' = put st 93 (.bool true)) (by simp [g2, g13, hlt]) ?_
    rintro _ rfl
    refine cut (fun st => st.e 1 = .bool vars ∧ st.e 2 = nodeAV n ∧ st.e 4 = noNode ∧ st.e 13 = .int .i64 i ∧ Lies (i + 1) (st.e 6)) ?_ ?_
    rotate_left
    · rintro s0 ⟨f1, f2, f4, f13, f6⟩
      simp [f1, f2, f4, f13, g13, hws]
      exact ⟨⟨i + 1, by omega, by omega, f6⟩, by omega⟩
    rw [run_block]
    obtain ⟨_, ⟨b, rfl⟩, -, hc⟩ := ref18key n.keys[i] vars
    refine cut (fun st => st.e 1 = .bool vars ∧ st.e 2 = nodeAV n ∧ st.e 4 = noNode ∧ st.e 13 = .int .i64 i ∧ (st.e 6 = nodeAV m ∨ m = zeroN ∧ st.e 6 = noNode)) ?_ ?_
    · simp [g1, g2, g13, hlt]
      refine awpR_call _ (by simp) (by simpa using hc) rfl ?_
      cases b
      · simp [g4]
      · by_cases d1 : 1 < (n.kids[i]).kind
        · simp [g2, g4, g13, hlt2, d1]
        · simp [g1, g2, g4, g13, hlt2, d1]
          exact h6
    rintro s0 ⟨f1, f2, f4, f13, f6⟩
    have hwith := ref08With m n.keys[i] (textN (n.kids[i]).text) (by have := hm.le; omega) (fun _ => hm.len)
    have hnext : Making (i + 1) (m.with n.keys[i] (textN (n.kids[i]).text)) := hm.with hwl (text_good hkid.short.text)
    rcases f6 with f6 | ⟨rfl, q6⟩
    · simp [f2, f6, f13, hlt, hlt2]
      refine awpR_call _ (by simp) (by simpa using ref18Text (n.kids[i]).text) (by simp) ?_
      simp
      refine awpR_call (nodeAV (m.with n.keys[i] (textN (n.kids[i]).text))) (by simp) (by simpa using hwith) (by simp) ?_
      simp [f1, f2, f4, f6, f13]
      exact lies_mk hnext
    · rw [nodeAV_zero] at hwith
      simp [f2, q6, f13, hlt, hlt2]
      refine awpR_call _ (by simp) (by simpa using ref18Text (n.kids[i]).text) (by simp) ?_
      simp
      refine awpR_call (nodeAV (zeroN.with n.keys[i] (textN (n.kids[i]).text))) (by simp) (by simpa using hwith) (by simp) ?_
      simp [f1, f2, f4, q6, f13]
      exact lies_mk hnext

theorem ref18Pairs (n : Node) (h : n.Good) (vars : Bool) : Total Tryz.prog 61 [nodeAV n, .bool vars] isNodeB := by
  refine total61 rfl ?_
  refine cut (fun st => st.e 1 = .bool vars ∧ st.e 2 = nodeAV n ∧ st.e 4 = noNode) (by simp) ?_
  rintro st ⟨g1, g2, g4⟩
  refine cut (fun st => st.e 1 = .bool vars ∧ st.e 2 = nodeAV n ∧ st.e 4 = noNode ∧ st.e 6 = noNode) (by simp [g1, g2, g4]) ?_
  rintro st ⟨g1, g2, g4, g6⟩
  obtain ⟨_, ⟨l, b, rfl, hl, hw⟩, -, hc⟩ := ref18texts n 1073741824 h.short.kids (kids_text h)
  refine cut (fun st => st.e 1 = .bool vars ∧ st.e 2 = nodeAV n ∧ st.e 4 = noNode ∧ st.e 6 = noNode ∧ st.e 7 = .slice 1 (l.map .str) ∧ st.e 8 = .bool b) ?_ ?_
  · simp [g2]
    refine awpR_call _ (by simp) (by simpa using hc) rfl ?_
    simp [g1, g2, g4, g6]
  rintro st ⟨g1, g2, g4, g6, g7, g8⟩
  refine cut (fun st => st.e 1 = .bool vars ∧ st.e 2 = nodeAV n ∧ st.e 4 = noNode ∧ st.e 6 = noNode) ?_ ?_
  rotate_left
  · rintro st ⟨g1, g2, g4, g6⟩
    exact pairs_map n h vars st g1 g2 g4 g6
  refine cut (fun st' => st' = put st 20 (.bool b)) (by simp [g8]) ?_
  rintro _ rfl
  rw [run_cond]
  cases b
  · refine ⟨false, by simp, ⟨fun h => absurd h (by simp), fun _ => ?_⟩⟩
    simp [g1, g2, g4, g6]
  · refine ⟨true, by simp, ⟨fun _ => ?_, fun h => absurd h (by simp)⟩⟩
    exact pairs_texts vars l hl hw _ (by simp [g1]) (by simp [g4]) (by simp [g6]) (by simp [g7]) _

end Go.Proofs.YtccmaeefedgcnaaGreat
