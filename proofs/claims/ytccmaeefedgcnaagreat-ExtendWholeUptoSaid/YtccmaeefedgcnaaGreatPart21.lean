/-
  CHAINS OF SERVICES in plain words: find, next, the walk, and a service made whole.
  CONTRACTS: longshoreref21.find, next, Chain, One.
  CONTRACT: longshoreref21.One.
  CONTRACTS: extend.find, next.
  CONTRACT: extend.walk, Chain.
  CONTRACT: extend.One.
-/
import Derived.Test.YtccmaeefedgcnaaGreatPart20
set_option linter.all false

namespace Go.Proofs.YtccmaeefedgcnaaGreat

abbrev serviceT : Str := [115, 101, 114, 118, 105, 99, 101]
abbrev fileT : Str := [102, 105, 108, 101]
abbrev At := Str × Str
/-- Named forms of files. -/
abbrev Files := List (Str × Node)
def findN (l : Files) (p : At) : Option Node := (l.find? fun x => decide (x.1 = p.1)).bind fun x => (x.2.get servicesT).bind (·.get p.2)
def nextN (n : Node) (p : At) : Option At := match n.get extendsT with
  | some v => if v.kind = 3 then some (((v.get fileT).map (·.text)).getD p.1, ((v.get serviceT).getD zeroN).text) else none
  | none => none
/-- All services there are. -/
def servicesOf (l : Files) : List At := l.flatMap fun x => match x.2.get servicesT with | some v => v.keys.map fun k => (x.1, k) | none => []

theorem findN_mem {l : Files} {p : At} {n : Node} (h : findN l p = some n) : p ∈ servicesOf l := by
  unfold findN at h
  cases hx : l.find? fun x => decide (x.1 = p.1) with
  | none => rw [hx] at h; simp at h
  | some x =>
    rw [hx] at h
    simp only [Option.bind_some] at h
    have hm := List.mem_of_find?_eq_some hx
    have he := List.find?_some hx
    simp only [decide_eq_true_eq] at he
    cases hv : x.2.get servicesT with
    | none => rw [hv] at h; simp at h
    | some v =>
      rw [hv] at h
      simp only [Option.bind_some] at h
      unfold servicesOf
      rw [List.mem_flatMap]
      refine ⟨x, hm, ?_⟩
      simp only [hv]
      rw [List.mem_map]
      unfold Node.get at h
      split at h
      · cases hi : v.keys.idxOf? p.2 with
        | none => rw [hi] at h; simp at h
        | some i =>
          obtain ⟨h1, h2⟩ := idx_lt hi
          refine ⟨p.2, by rw [← h2]; exact List.getElem_mem h1, ?_⟩
          rw [he]
      · cases h

theorem findN_wide {l : Files} {K : Nat} (hw : ∀ x ∈ l, x.2.Wide K) {p : At} {n : Node} (h : findN l p = some n) : n.Wide K := by
  unfold findN at h
  cases hx : l.find? fun x => decide (x.1 = p.1) with
  | none => rw [hx] at h; simp at h
  | some x =>
    rw [hx] at h
    simp only [Option.bind_some] at h
    have hm := hw x (List.mem_of_find?_eq_some hx)
    cases hv : x.2.get servicesT with
    | none => rw [hv] at h; simp at h
    | some v =>
      rw [hv] at h
      exact (hm.get hv).get h
/-- A service, or nothing. -/
def findD (l : Files) (p : At) : Node := (findN l p).getD zeroN
theorem findD_wide {l : Files} {K : Nat} (hw : ∀ x ∈ l, x.2.Wide K) (p : At) : (findD l p).Wide K := by
  unfold findD
  cases h : findN l p with
  | none => exact zero_wide
  | some n => exact findN_wide hw h

theorem subset_len {α : Type} [DecidableEq α] : ∀ {l m : List α}, l.Nodup → (∀ x ∈ l, x ∈ m) → l.length ≤ m.length
  | [], m, _, _ => by simp
  | x :: l, m, hn, hs => by
    rw [List.nodup_cons] at hn
    have hx := hs x (by simp)
    have := subset_len (l := l) (m := m.erase x) hn.2 (fun y hy => (List.mem_erase_of_ne (by rintro rfl; exact hn.1 hy)).2 (hs y (by simp [hy])))
    rw [List.length_erase_of_mem hx] at this
    have := List.length_pos_of_mem hx
    simp only [List.length_cons]; omega

/-- A chain: the services, and what is wrong with it. -/
def walkN (l : Files) : Nat → List At → At → List At × Int
  | 0, out, _ => (out, 0)
  | k + 1, out, p => if p ∈ out then (out ++ [p], 5) else match findN l p with
    | none => (out ++ [p], 7)
    | some n => match nextN n p with
      | some q => walkN l k (out ++ [p]) q
      | none => (out ++ [p], 0)
/-- Services that are there, none of them twice. -/
def Met (l : Files) (out : List At) : Prop := out.Nodup ∧ ∀ x ∈ out, (findN l x).isSome
theorem met_nil (l : Files) : Met l [] := ⟨List.nodup_nil, by simp⟩
theorem Met.len {l : Files} {out : List At} (h : Met l out) : out.length ≤ (servicesOf l).length :=
  subset_len h.1 fun x hx => by
    obtain ⟨n, hn⟩ := Option.isSome_iff_exists.1 (h.2 x hx)
    exact findN_mem hn
theorem Met.snoc {l : Files} {out : List At} (h : Met l out) {p : At} (hp : p ∉ out) {n : Node} (hn : findN l p = some n) : Met l (out ++ [p]) := by
  refine ⟨?_, ?_⟩
  · rw [List.nodup_append]
    refine ⟨h.1, by simp, ?_⟩
    intro a ha b hb
    simp only [List.mem_singleton] at hb
    subst hb
    rintro rfl; exact hp ha
  · intro x hx
    rw [List.mem_append, List.mem_singleton] at hx
    rcases hx with hx | rfl
    · exact h.2 x hx
    · simp [hn]

theorem walkN_spec (l : Files) : ∀ (k : Nat) (out : List At) (p : At), Met l out → (servicesOf l).length < k + out.length →
    ∃ init last, (walkN l k out p).1 = init ++ [last] ∧ Met l init ∧ (((walkN l k out p).2 = 5 ∧ last ∈ init) ∨ ((walkN l k out p).2 = 7 ∧ last ∉ init ∧ findN l last = none) ∨ ((walkN l k out p).2 = 0 ∧ last ∉ init ∧ (findN l last).isSome))
  | 0, out, p, hm, hk => by have := hm.len; omega
  | k + 1, out, p, hm, hk => by
    by_cases hp : p ∈ out
    · have e : walkN l (k + 1) out p = (out ++ [p], 5) := by simp [walkN, hp]
      rw [e]
      exact ⟨out, p, rfl, hm, .inl ⟨rfl, hp⟩⟩
    · cases hf : findN l p with
      | none =>
        have e : walkN l (k + 1) out p = (out ++ [p], 7) := by simp [walkN, hp, hf]
        rw [e]
        exact ⟨out, p, rfl, hm, .inr (.inl ⟨rfl, hp, hf⟩)⟩
      | some n =>
        cases hn : nextN n p with
        | none =>
          have e : walkN l (k + 1) out p = (out ++ [p], 0) := by simp [walkN, hp, hf, hn]
          rw [e]
          exact ⟨out, p, rfl, hm, .inr (.inr ⟨rfl, hp, by simp [hf]⟩)⟩
        | some q =>
          have e : walkN l (k + 1) out p = walkN l k (out ++ [p]) q := by simp [walkN, hp, hf, hn]
          rw [e]
          exact walkN_spec l k (out ++ [p]) q (hm.snoc hp hf) (by simp; omega)

/-- The whole chain of a service. -/
def chainN (l : Files) (p : At) : List At × Int := walkN l ((servicesOf l).length + 1) [] p
theorem chainN_spec (l : Files) (p : At) : ∃ init last, (chainN l p).1 = init ++ [last] ∧ Met l init ∧ (((chainN l p).2 = 5 ∧ last ∈ init) ∨ ((chainN l p).2 = 7 ∧ last ∉ init ∧ findN l last = none) ∨ ((chainN l p).2 = 0 ∧ last ∉ init ∧ (findN l last).isSome)) :=
  walkN_spec l _ [] p (met_nil l) (by simp)
theorem chainN_len (l : Files) (p : At) : (chainN l p).1.length ≤ (servicesOf l).length + 1 := by
  obtain ⟨init, last, e, hm, _⟩ := chainN_spec l p
  have := hm.len
  rw [e]; simp; omega

/-- The last of a chain, each before it laid over what stands behind it. -/
def overN (l : Files) : List At → Node
  | [] => zeroN
  | [p] => findD l p
  | p :: q :: r => (overN l (q :: r)).two ((findD l p).less extendsT)
theorem overN_cons (l : Files) (p : At) {r : List At} (h : r ≠ []) : overN l (p :: r) = (overN l r).two ((findD l p).less extendsT) := by
  cases r with
  | nil => exact absurd rfl h
  | cons q r => rfl
theorem overN_wide {l : Files} {K : Nat} (hw : ∀ x ∈ l, x.2.Wide K) : ∀ c : List At, (overN l c).Wide (K * c.length)
  | [] => by simp only [overN]; exact zero_wide
  | [p] => by simp only [overN, List.length_singleton, Nat.mul_one]; exact findD_wide hw p
  | p :: q :: r => by
    simp only [overN]
    have h1 := overN_wide hw (q :: r)
    have h2 := less_wide (findD_wide hw p) extendsT
    have := two_wide h2 h1
    refine this.mono (by simp only [List.length_cons, Nat.mul_add]; omega)
theorem overN_drop {l : Files} {c : List At} {i : Nat} (h : i + 1 < c.length) : overN l (c.drop i) = (overN l (c.drop (i + 1))).two ((findD l c[i]).less extendsT) := by
  rw [List.drop_eq_getElem_cons (by omega)]
  exact overN_cons l _ (by intro e; have := congrArg List.length e; simp at this; omega)
theorem overN_last {l : Files} {c : List At} {i : Nat} (h : i + 1 = c.length) : overN l (c.drop i) = findD l c[i] := by
  rw [List.drop_eq_getElem_cons (by omega), List.drop_eq_nil_of_le (by omega)]
  rfl
/-- A service made whole. -/
def wholeN (l : Files) (p : At) : Node × Int := if (chainN l p).2 = 0 then (overN l (chainN l p).1, 0) else (zeroN, (chainN l p).2)

abbrev atAV (p : At) : AV := .agg [.str p.1, .str p.2]
abbrev namedAV (x : Str × Node) : AV := .agg [.str x.1, .int .i64 x.2.kind, .str x.2.text, .slice 1 (x.2.keys.map .str), .slice 4 (x.2.kids.map nodeAV)]
abbrev filesAV (l : Files) : AV := .slice 5 (l.map namedAV)
def nextAV (p : At) : Option At → AV
  | some q => .tup [atAV q, .bool true]
  | none => .tup [atAV p, .bool false]
theorem nextAV_data (p : At) (o : Option At) : (nextAV p o).data = true := by cases o <;> rfl

/-- What the proofs ask of the files. -/
structure Filed (K : Nat) (l : Files) : Prop where
  wide : ∀ x ∈ l, x.2.Wide K
  formed : ∀ x ∈ l, x.2.kind = 3 ∧ ∀ v, x.2.get servicesT = some v → v.kind = 3
  len : l.length ≤ 1048576
  few : (servicesOf l).length ≤ 1048576
  big : K * ((servicesOf l).length + 2) ≤ 1073741823
theorem Filed.K {K : Nat} {l : Files} (h : Filed K l) : K ≤ 1073741823 := Nat.le_trans (Nat.le_mul_of_pos_right K (by omega)) h.big

end Go.Proofs.YtccmaeefedgcnaaGreat

namespace Go.Proofs.YtccmaeefedgcnaaGreat

theorem find21 {K : Nat} {l : Files} (h : Filed K l) (p : At) : Sound Tryz.prog 18 [filesAV l, atAV p] (getAV (findN l p)) := by
  have hK := h.K
  have hlen := h.len
  refine sound18 rfl ?_
  refine cutf [3, 4, 5] rfl (fun st => st.e 0 = filesAV l ∧ st.e 3 = atAV p ∧ st.e 4 = noNode) (by simp) ?_
  rintro st - ⟨g0, g3, g4⟩
  refine cutf [6, 12, 22, 7, 8, 33, 4, 5] rfl (fun st => st.e 4 = noNode ∧ findN l p = none) ?_ ?_
  rotate_left
  · rintro st1 hf1 ⟨f4, hn⟩
    rw [hn]
    simp [f4, getAV, nodeAV_zero]
  refine cutf [6] rfl (fun st => st.e 6 = .int .i64 0) (by simp) ?_
  rintro st1 hf1 g6
  rw [run_block]
  refine run_loopf [12, 22, 7, 8, 33, 4, 5, 6] rfl (fun st => st.e 4 = noNode ∧ ∃ i : Nat, st.e 6 = .int .i64 i ∧ i ≤ l.length ∧ ∀ x ∈ l.take i, x.1 ≠ p.1) (fun st => l.length - natOf (st.e 6)) ?_ ?_
  · exact ⟨by simp [hf1, g4], 0, g6, by omega, by simp⟩
  rintro s0 hf ⟨f4, i, f6, hi, hno⟩
  have q0 : s0.e 0 = filesAV l := by simp [hf, hf1, g0]
  have q3 : s0.e 3 = atAV p := by simp [hf, hf1, g3]
  clear hf
  by_cases hlt : i < l.length
  rotate_left
  · have hfind : findN l p = none := by
      have : l.take i = l := List.take_of_length_le (by omega)
      rw [this] at hno
      unfold findN
      rw [List.find?_eq_none.2 (by simpa using hno)]
      rfl
    simp [f6, q0, hlt, f4, hfind]
  have hws := wrap_succ (i := i) (by omega)
  have hw := h.wide l[i] (List.getElem_mem hlt)
  have hfd := h.formed l[i] (List.getElem_mem hlt)
  by_cases he : (l[i]).1 = p.1
  rotate_left
  · simp [f6, q0, q3, hlt, he, hws, f4]
    refine ⟨⟨i + 1, by omega, by omega, ?_⟩, by omega⟩
    intro a b hx
    rw [List.take_succ_eq_append_getElem hlt, List.mem_append, List.mem_singleton] at hx
    rcases hx with hx | hx
    · exact hno _ hx
    · rw [← hx] at he; exact he
  have hfind : findN l p = ((l[i]).2.get servicesT).bind (·.get p.2) := by
    unfold findN
    have : (l.find? fun x => decide (x.1 = p.1)) = some l[i] := by
      rw [List.find?_eq_some_iff_append]
      refine ⟨by simp [he], l.take i, l.drop (i + 1), ?_, ?_⟩
      · rw [← List.drop_eq_getElem_cons hlt, List.take_append_drop]
      · intro x hx; simpa using hno x hx
    rw [this]; rfl
  have hget := soundGet (hw.good (by omega)) servicesT
  rw [nodeAV_eq] at hget
  rw [hfind]
  simp [f6, q0, q3, hlt, he]
  refine awpR_call (getAV ((l[i]).2.get servicesT)) (by simp) (by simpa using hget) (getAV_data _) ?_
  cases hv : (l[i]).2.get servicesT with
  | none => simp [getAV, f4, nodeAV_zero]
  | some v =>
    have hg2 := soundGet ((hw.get hv).good (by omega)) p.2
    simp [getAV, q3, f4]
    refine awpR_call (getAV (v.get p.2)) (by simp) (by simpa using hg2) (getAV_data _) ?_
    cases v.get p.2 <;> simp [getAV, f4, nodeAV_zero]

theorem next21 {K : Nat} {n : Node} (hw : n.Wide K) (hK : K ≤ 1073741824) (p : At) : Sound Tryz.prog 21 [nodeAV n, atAV p] (nextAV p (nextN n p)) := by
  refine sound21 rfl ?_
  refine cutf [2, 3, 4, 5] rfl (fun st => st.e 2 = nodeAV n ∧ st.e 3 = atAV p ∧ st.e 4 = .agg [.str [], .str []]) (by simp) ?_
  rintro st - ⟨g2, g3, g4⟩
  refine cutf [6, 7] rfl (fun st => st.e 6 = nodeAV ((n.get extendsT).getD zeroN) ∧ st.e 7 = .bool (n.get extendsT).isSome) ?_ ?_
  · simp [g2]
    refine awpR_call (getAV (n.get extendsT)) (by simp) (by simpa using soundGet (hw.good hK) extendsT) (getAV_data _) ?_
    cases n.get extendsT <;> simp [getAV, nodeAV_zero]
  rintro st1 hf1 ⟨g6, g7⟩
  unfold nextN
  cases hv : n.get extendsT with
  | none =>
    rw [hv] at g7
    simp [g7, hf1, g3, g4, nextAV]
  | some v =>
    rw [hv] at g6 g7
    simp only
    by_cases hk : v.kind = 3
    rotate_left
    · simp [g7, g6, hf1, g3, g4, nextAV, hk]
    rw [if_pos hk]
    have hvg := (hw.get hv).good hK
    have t1 := soundGet hvg serviceT
    rw [nodeAV_eq] at t1
    simp [g7, g6, hf1, g3, g4, hk]
    refine awpR_call (getAV (v.get serviceT)) (by simp) (by simpa [hk] using t1) (getAV_data _) ?_
    have hs : ∃ s, getAV (v.get serviceT) = .tup [nodeAV s, .bool (v.get serviceT).isSome] ∧ (v.get serviceT).getD zeroN = s := by
      cases v.get serviceT <;> simp [getAV]
    obtain ⟨s, hs1, hs2⟩ := hs
    rw [hs1, hs2]
    simp [g6]
    refine awpR_call (getAV (v.get fileT)) (by simp) (by simpa using soundGet hvg fileT) (getAV_data _) ?_
    cases v.get fileT with
    | none => simp [getAV, g3, hf1, g4, nextAV]
    | some f => simp [getAV, g3, hf1, g4, nextAV]

@[simp] theorem fits_at (a b : Str) : fitsSh [.str [], .str []] [.str a, .str b] = true := rfl
@[simp] theorem eq_at (x y : At) : eqCells [.str x.1, .str x.2] [.str y.1, .str y.2] = decide (x = y) := by
  rw [Bool.eq_iff_iff]
  simp [eqCells, cellEq, Prod.ext_iff]
/-- How many rows. -/
def rowsOf : AV → Nat
  | .oslice _ es => es.length
  | _ => 0
@[simp] theorem rowsOf_o (z : Nat) (es : List AV) : rowsOf (.oslice z es) = es.length := rfl
abbrev chainAV (c : List At) : AV := .slice 2 (c.map atAV)
abbrev ochainAV (c : List At) : AV := .oslice 2 (c.map atAV)

set_option maxHeartbeats 1000000 in
theorem chain21 {K : Nat} {l : Files} (h : Filed K l) (p : At) : Sound Tryz.prog 9 [filesAV l, atAV p] (chainAV (chainN l p).1) := by
  have hK := h.K
  have hlen := h.len
  have hfew := h.few
  refine sound9 rfl ?_
  refine cutf [3, 4] rfl (fun st => st.e 0 = filesAV l ∧ st.e 3 = atAV p ∧ st.e 4 = .oslice 2 []) (by simp) ?_
  rintro st - ⟨g0, g3, g4⟩
  refine cutf [5] rfl (fun st => st.e 5 = ochainAV []) (by simp) ?_
  rintro st1 hf1 g5
  rw [run_block]
  refine run_loopf [6, 7, 16, 24, 5, 8, 9, 39, 4, 10, 11, 48, 3] rfl (fun st => st.e 4 = .oslice 2 [] ∧ ∃ (k : Nat) (out : List At) (q : At), st.e 5 = ochainAV out ∧ st.e 3 = atAV q ∧ Met l out ∧ k + out.length = (servicesOf l).length + 1 ∧ walkN l k out q = chainN l p) (fun st => (servicesOf l).length + 1 - rowsOf (st.e 5)) ?_ ?_
  · exact ⟨by simp [hf1, g4], _, [], p, g5, by simp [hf1, g3], met_nil l, rfl, rfl⟩
  rintro s0 hf ⟨f4, k, out, q, f5, f3, hm, hk, hw⟩
  have q0 : s0.e 0 = filesAV l := by simp [hf, hf1, g0]
  have ho := hm.len
  clear hf hf1 g3 g4 g5 g0
  obtain ⟨k, rfl⟩ : ∃ k', k = k' + 1 := ⟨k - 1, by omega⟩
  rw [run_block]
  refine cutf [6] rfl (fun st => st.e 6 = .bool false) (by simp) ?_
  rintro s1 hs1 r6
  refine cutf [7, 16, 24, 6] rfl (fun st => st.e 6 = .bool (decide (q ∈ out))) ?_ ?_
  · refine cutf [7] rfl (fun st => st.e 7 = .int .i64 0) (by simp) ?_
    rintro s2 hs2 r7
    rw [run_block]
    refine run_loopf [16, 24, 6, 7] rfl (fun st => ∃ i : Nat, st.e 7 = .int .i64 i ∧ i ≤ out.length ∧ st.e 6 = .bool (decide (q ∈ out.take i))) (fun st => out.length - natOf (st.e 7)) ?_ ?_
    · exact ⟨0, r7, by omega, by simp [hs2, r6]⟩
    rintro s3 hs3 ⟨i, r7, hi, r6⟩
    by_cases hlt : i < out.length
    rotate_left
    · have : out.take i = out := List.take_of_length_le (by omega)
      rw [this] at r6
      simp [r7, hs3, hs2, hs1, f5, hlt, r6]
    have hws := wrap_succ (i := i) (by omega)
    have e : q ∈ out.take (i + 1) ↔ q ∈ out.take i ∨ out[i] = q := by
      rw [List.take_succ_eq_append_getElem hlt, List.mem_append, List.mem_singleton, eq_comm (a := q)]
    by_cases he : out[i] = q
    · simp [r7, hs3, hs2, hs1, f5, f3, hlt, r6, he, hws]
      exact ⟨⟨i + 1, by omega, by omega, e.2 (.inr he)⟩, by omega⟩
    · simp [r7, hs3, hs2, hs1, f5, f3, hlt, r6, he, hws]
      exact ⟨⟨i + 1, by omega, by omega, by rw [e]; simp [he]⟩, by omega⟩
  rintro s2 hs2 r6
  have b1 : (out.length + 1) * 32 ≤ 140737488355328 := by omega
  refine cutf [5] rfl (fun st => st.e 5 = ochainAV (out ++ [q])) (by simp [hs2, hs1, f5, f3, b1]) ?_
  rintro s3 hs3 r5
  refine cutf [8, 9] rfl (fun st => st.e 8 = nodeAV ((findN l q).getD zeroN) ∧ st.e 9 = .bool (findN l q).isSome) ?_ ?_
  · simp [hs3, hs2, hs1, q0, f3]
    refine awpR_call (getAV (findN l q)) (by simp) (by simpa using find21 h q) (getAV_data _) ?_
    cases findN l q <;> simp [getAV, nodeAV_zero]
  rintro s4 hs4 ⟨r8, r9⟩
  by_cases hq : q ∈ out
  · have e : chainN l p = (out ++ [q], 5) := by rw [← hw]; simp [walkN, hq]
    rw [e]
    simp [hs4, hs3, r6, hq, r5]
  cases hfn : findN l q with
  | none =>
    rw [hfn] at r9
    have e : chainN l p = (out ++ [q], 7) := by rw [← hw]; simp [walkN, hq, hfn]
    rw [e]
    simp [hs4, hs3, r6, hq, r5, r9]
  | some n =>
    rw [hfn] at r8 r9
    refine cutf [39, 4] rfl (fun st => st.e 4 = .oslice 2 []) (by simp [hs4, hs3, hs2, hs1, r6, hq, r9, f4]) ?_
    rintro s5 hs5 r4
    refine cutf [10, 11] rfl (fun st => st.e 10 = atAV ((nextN n q).getD q) ∧ st.e 11 = .bool (nextN n q).isSome) ?_ ?_
    · simp [hs5, hs4, hs3, hs2, hs1, r8, f3]
      refine awpR_call (nextAV q (nextN n q)) (by simp) (by simpa using next21 (findN_wide h.wide hfn) (by omega) q) (nextAV_data _ _) ?_
      cases nextN n q <;> simp [nextAV]
    rintro s6 hs6 ⟨r10, r11⟩
    cases hnx : nextN n q with
    | none =>
      rw [hnx] at r11
      have e : chainN l p = (out ++ [q], 0) := by rw [← hw]; simp [walkN, hq, hfn, hnx]
      rw [e]
      simp [r11, hs6, hs5, hs4, r5]
    | some to =>
      rw [hnx] at r10 r11
      have e : chainN l p = walkN l k (out ++ [q]) to := by rw [← hw]; simp [walkN, hq, hfn, hnx]
      rw [e]
      simp [r11, r10, hs6, hs5, hs4, hs3, hs2, hs1, r5, f3, r4]
      refine ⟨⟨k, out ++ [q], by simp, to.1, to.2, ⟨rfl, rfl⟩, hm.snoc hq hfn, by simp; omega, rfl⟩, ?_⟩
      simp [f5]; omega

end Go.Proofs.YtccmaeefedgcnaaGreat

namespace Go.Proofs.YtccmaeefedgcnaaGreat

abbrev wholeAV (x : Node × Int) : AV := .tup [nodeAV x.1, .int .i64 x.2]
/-- An index that runs down to -1. -/
def natOf1 : AV → Nat
  | .int _ n => (n + 1).toNat
  | _ => 0
@[simp] theorem natOf1_int (k : IntKind) (n : Int) : natOf1 (.int k n) = (n + 1).toNat := rfl
theorem wrap_down {i : Nat} (h : i ≤ 1073741824) : IntKind.i64.wrap ((i : Int) - 1) = (i : Int) - 1 := wrap_i64 (by omega) (by omega)

set_option maxHeartbeats 1000000 in
theorem one21 {K : Nat} {l : Files} (h : Filed K l) (p : At) : Sound Tryz.prog 7 [filesAV l, atAV p] (wholeAV (wholeN l p)) := by
  have hK := h.K
  have hlen := h.len
  have hfew := h.few
  have hbig := h.big
  obtain ⟨init, last, hc, hm, hres⟩ := chainN_spec l p
  have hil := hm.len
  have hcl : (chainN l p).1.length = init.length + 1 := by rw [hc]; simp
  refine sound7 rfl ?_
  refine cutf [3, 4, 5] rfl (fun st => st.e 0 = filesAV l ∧ st.e 3 = atAV p ∧ st.e 4 = noNode) (by simp) ?_
  rintro st - ⟨g0, g3, g4⟩
  refine cutf [6] rfl (fun st => st.e 6 = chainAV (init ++ [last])) ?_ ?_
  · simp [g0, g3]
    refine awpR_call (chainAV (chainN l p).1) (by simp) (by simpa using chain21 h p) (by simp) ?_
    simp [hc]
  rintro st1 hf1 g6
  have hws' : IntKind.i64.wrap (init.length : Int) = (init.length : Int) := wrap_i64 (by omega) (by omega)
  have hlast : (init.map atAV ++ [atAV last])[init.length]? = some (atAV last) := by rw [List.getElem?_append_right (by simp)]; simp
  refine cutf [7] rfl (fun st => st.e 7 = atAV last) ?_ ?_
  · simp [g6, hws', hlast]; omega
  rintro st2 hf2 g7
  refine cutf [8, 27, 35, 4, 5] rfl (fun st => st.e 4 = noNode ∧ last ∉ init) ?_ ?_
  · refine cutf [8] rfl (fun st => st.e 8 = .int .i64 0) (by simp) ?_
    rintro st3 hf3 g8
    rw [run_block]
    refine run_loopf [27, 35, 4, 5, 8] rfl (fun st => st.e 4 = noNode ∧ ∃ i : Nat, st.e 8 = .int .i64 i ∧ i ≤ init.length ∧ last ∉ init.take i) (fun st => init.length - natOf (st.e 8)) ?_ ?_
    · exact ⟨by simp [hf3, hf2, hf1, g4], 0, g8, by omega, by simp⟩
    rintro s0 hf ⟨f4, i, f8, hi, hno⟩
    by_cases hlt : i < init.length
    rotate_left
    · have : init.take i = init := List.take_of_length_le (by omega)
      rw [this] at hno
      simp [f8, hf, hf3, hf2, g6, hws', hlt, f4, hno]
    have hws2 := wrap_succ (i := i) (by omega)
    have hi2 : (i : Int) < init.length + 1 := by omega
    have hg : (init ++ [last])[i]'(by simp; omega) = init[i] := List.getElem_append_left hlt
    have hg2 : ((init ++ [last]).map atAV)[i]? = some (atAV init[i]) := by
      rw [List.getElem?_map, List.getElem?_append_left hlt, List.getElem?_eq_getElem hlt]; rfl
    simp only [List.map_append, List.map_cons, List.map_nil] at hg2
    by_cases he : init[i] = last
    · have e : wholeN l p = (zeroN, 5) := by
        have : last ∈ init := by rw [← he]; exact List.getElem_mem hlt
        rcases hres with ⟨h1, _⟩ | ⟨_, h2, _⟩ | ⟨_, h2, _⟩
        · simp [wholeN, h1]
        · exact absurd this h2
        · exact absurd this h2
      rw [e]
      simp [f8, hf, hf3, hf2, g6, g7, hws', hlt, hi2, hg2, he, nodeAV_zero, f4]
    · have e : last ∉ init.take (i + 1) := by
        rw [List.take_succ_eq_append_getElem hlt, List.mem_append, List.mem_singleton, eq_comm (a := last)]
        simp [hno, he]
      simp [f8, hf, hf3, hf2, g6, g7, hws', hlt, hi2, hg2, he, hws2, f4]
      exact ⟨⟨i + 1, by omega, by omega, e⟩, by omega⟩
  rintro st3 hf3 ⟨f4, hni⟩
  have q0 : st3.e 0 = filesAV l := by simp [hf3, hf2, hf1, g0]
  have q6 : st3.e 6 = chainAV (init ++ [last]) := by simp [hf3, hf2, g6]
  have q7 : st3.e 7 = atAV last := by simp [hf3, g7]
  clear hf3 hf2 hf1 g0 g3 g4 g6 g7
  refine cutf [9, 10] rfl (fun st => st.e 9 = nodeAV (findD l last) ∧ st.e 10 = .bool (findN l last).isSome) ?_ ?_
  · simp [q0, q7]
    refine awpR_call (getAV (findN l last)) (by simp) (by simpa using find21 h last) (getAV_data _) ?_
    unfold findD
    cases findN l last <;> simp [getAV, nodeAV_zero]
  rintro st4 hf4 ⟨r9, r10⟩
  cases hfn : findN l last with
  | none =>
    rw [hfn] at r10
    have e : wholeN l p = (zeroN, 7) := by
      rcases hres with ⟨_, h2⟩ | ⟨h1, _⟩ | ⟨_, _, h2⟩
      · exact absurd h2 hni
      · simp [wholeN, h1]
      · simp [hfn] at h2
    rw [e]
    simp [r10, nodeAV_zero, hf4, f4]
  | some n =>
    rw [hfn] at r10
    have e : wholeN l p = (overN l (init ++ [last]), 0) := by
      rcases hres with ⟨_, h2⟩ | ⟨_, _, h2⟩ | ⟨h1, _⟩
      · exact absurd h2 hni
      · simp [hfn] at h2
      · simp [wholeN, h1, hc]
    rw [e]
    refine cutf [44, 4, 5] rfl (fun st => st.e 4 = noNode) (by simp [r10, hf4, f4]) ?_
    rintro st5 hf5 f4
    refine cutf [11, 50, 12, 13, 9] rfl (fun st => st.e 9 = nodeAV (overN l (init ++ [last]))) ?_ ?_
    rotate_left
    · rintro st6 hf6 r9
      simp [r9, hf6, f4]
    have hws3 : IntKind.i64.wrap ((init.length : Int) + 1 - 2) = (init.length : Int) - 1 := by rw [wrap_i64 (by omega) (by omega)]; omega
    refine cutf [11] rfl (fun st => st.e 11 = .int .i64 ((init.length : Int) - 1)) ?_ ?_
    · simp [hf5, hf4, q6, hws3]
    rintro st6 hf6 g11
    rw [run_block]
    refine run_loopf [50, 12, 13, 9, 11] rfl (fun st => ∃ j : Nat, st.e 11 = .int .i64 ((j : Int) - 1) ∧ j ≤ init.length ∧ st.e 9 = nodeAV (overN l ((init ++ [last]).drop j))) (fun st => natOf1 (st.e 11)) ?_ ?_
    · refine ⟨init.length, g11, by omega, ?_⟩
      rw [overN_last (by simp)]
      simp [hf6, hf5, r9]
    rintro s0 hf ⟨j, f11, hj, f9⟩
    cases j with
    | zero => simp [f11, f9]
    | succ j =>
      have hlt : j < init.length := by omega
      have e0 : ((j + 1 : Nat) : Int) - 1 = (j : Int) := by omega
      rw [e0] at f11
      have hi2 : (j : Int) < init.length + 1 := by omega
      have hg2 : ((init ++ [last]).map atAV)[j]? = some (atAV init[j]) := by
        rw [List.getElem?_map, List.getElem?_append_left hlt, List.getElem?_eq_getElem hlt]; rfl
      simp only [List.map_append, List.map_cons, List.map_nil] at hg2
      have hd := overN_drop (l := l) (c := init ++ [last]) (i := j) (by simp; omega)
      rw [List.getElem_append_left hlt] at hd
      have hwide := findD_wide h.wide init[j]
      have hwl := less_wide hwide extendsT
      have hwo := overN_wide h.wide ((init ++ [last]).drop (j + 1))
      have hws4 := wrap_down (i := j) (by omega)
      have hge : (0 : Int) ≤ j := by omega
      have hb2 : K * ((init ++ [last]).drop (j + 1)).length + K ≤ 1073741824 := by
        refine Nat.le_trans ?_ (Nat.le_trans hbig (by omega))
        rw [← Nat.mul_succ]
        refine Nat.mul_le_mul_left K ?_
        simp only [List.length_drop, List.length_append, List.length_singleton]; omega
      simp [f11, hf, hf6, hf5, hf4, q0, q6, hi2, hg2, hge]
      generalize hq : init[j] = q at hg2 hd hwide hwl
      refine awpR_call (getAV (findN l q)) (by simp) (by simpa using find21 h q) (getAV_data _) ?_
      have hs : ∃ b, getAV (findN l q) = .tup [nodeAV (findD l q), .bool b] := by
        unfold findD; cases findN l q <;> simp [getAV]
      obtain ⟨b, hs⟩ := hs
      rw [hs]
      simp [f9]
      have hless := ref08Less (findD l q) extendsT (by have := hwide.keys; omega) (fun hk => by rw [(hwide.map hk).1]; exact Nat.le_refl _)
      refine awpR_call (nodeAV ((findD l q).less extendsT)) (by simp) (by simpa using hless) (by simp) ?_
      simp [f9]
      refine awpR_call (nodeAV ((overN l ((init ++ [last]).drop (j + 1))).two ((findD l q).less extendsT))) (by simp) (by simpa using two20 hwl hb2 hwo) (by simp) ?_
      simp [f9, f11, hws4]
      exact ⟨j, rfl, by omega, by rw [hd]⟩

end Go.Proofs.YtccmaeefedgcnaaGreat

namespace Go.Proofs.YtccmaeefedgcnaaGreat

theorem findE {K : Nat} {l : Files} (h : Filed K l) (p : At) : Sound Tryz.prog 32 [filesAV l, .str p.1, .str p.2] (getAV (findN l p)) := by
  have hK := h.K
  have hlen := h.len
  refine sound32 rfl ?_
  refine cutf [6, 7] rfl (fun st => st.e 0 = filesAV l ∧ st.e 1 = .str p.1 ∧ st.e 2 = .str p.2 ∧ st.e 6 = noNode) (by simp) ?_
  rintro st - ⟨g0, g1, g2, g4⟩
  refine cutf [10, 11, 12, 13, 9, 19, 6, 7] rfl (fun st => st.e 6 = noNode ∧ findN l p = none) ?_ ?_
  rotate_left
  · rintro st1 hf1 ⟨f4, hn⟩
    rw [hn]
    simp [f4, getAV, nodeAV_zero]
  refine cutf [10, 11, 12] rfl (fun st => st.e 10 = filesAV l ∧ st.e 11 = .int .i64 l.length ∧ st.e 12 = .int .i64 0) (by simp [g0]) ?_
  rintro st1 hf1 ⟨g10, g11, g12⟩
  rw [run_block]
  refine run_loopf [13, 9, 19, 6, 7, 12] rfl (fun st => st.e 6 = noNode ∧ ∃ i : Nat, st.e 12 = .int .i64 i ∧ i ≤ l.length ∧ ∀ x ∈ l.take i, x.1 ≠ p.1) (fun st => l.length - natOf (st.e 12)) ?_ ?_
  · exact ⟨by simp [hf1, g4], 0, g12, by omega, by simp⟩
  rintro s0 hf ⟨f4, i, f12, hi, hno⟩
  have q1 : s0.e 1 = .str p.1 := by simp [hf, hf1, g1]
  have q2 : s0.e 2 = .str p.2 := by simp [hf, hf1, g2]
  have q10 : s0.e 10 = filesAV l := by simp [hf, g10]
  have q11 : s0.e 11 = .int .i64 l.length := by simp [hf, g11]
  clear hf
  by_cases hlt : i < l.length
  rotate_left
  · have hfind : findN l p = none := by
      have : l.take i = l := List.take_of_length_le (by omega)
      rw [this] at hno
      unfold findN
      rw [List.find?_eq_none.2 (by simpa using hno)]
      rfl
    simp [f12, q11, hlt, f4, hfind]
  have hws := wrap_succ (i := i) (by omega)
  have hw := h.wide l[i] (List.getElem_mem hlt)
  have hfd := h.formed l[i] (List.getElem_mem hlt)
  by_cases he : (l[i]).1 = p.1
  rotate_left
  · simp [f12, q11, q10, q1, hlt, he, hws, f4]
    refine ⟨⟨i + 1, by omega, by omega, ?_⟩, by omega⟩
    intro a b hx
    rw [List.take_succ_eq_append_getElem hlt, List.mem_append, List.mem_singleton] at hx
    rcases hx with hx | hx
    · exact hno _ hx
    · rw [← hx] at he; exact he
  have hfind : findN l p = ((l[i]).2.get servicesT).bind (·.get p.2) := by
    unfold findN
    have : (l.find? fun x => decide (x.1 = p.1)) = some l[i] := by
      rw [List.find?_eq_some_iff_append]
      refine ⟨by simp [he], l.take i, l.drop (i + 1), ?_, ?_⟩
      · rw [← List.drop_eq_getElem_cons hlt, List.take_append_drop]
      · intro x hx; simpa using hno x hx
    rw [this]; rfl
  have hat : findN l p = atN [servicesT, p.2] (l[i]).2 := by
    rw [hfind]
    simp only [atN]
    congr 1
    funext v
    cases v.get p.2 <;> rfl
  have hok : atOk [servicesT, p.2] (l[i]).2 := by
    refine ⟨by rw [hfd.1]; decide, fun v hv => ⟨by rw [hfd.2 v hv]; decide, fun w _ => trivial⟩⟩
  have hget := nodeAt (l[i]).2 hw (by omega) [servicesT, p.2] (by simp) hok
  rw [← hat] at hget
  rw [nodeAV_eq] at hget
  have hb : (2 * 16 : Nat) ≤ 140737488355328 := by omega
  simp [f12, q11, q10, q1, q2, hlt, he]
  refine awpR_call (getAV (findN l p)) (by simp) (by simpa using hget) (getAV_data _) ?_
  cases findN l p <;> simp [getAV, f4, nodeAV_zero]

theorem nextE {K : Nat} {n : Node} (hw : n.Wide K) (hK : K ≤ 1073741824) (p : At) : Sound Tryz.prog 33 [nodeAV n, atAV p] (nextAV p (nextN n p)) := by
  refine sound33 rfl ?_
  refine cutf [2, 3, 4, 5] rfl (fun st => st.e 2 = nodeAV n ∧ st.e 3 = atAV p ∧ st.e 4 = .agg [.str [], .str []]) (by simp) ?_
  rintro st - ⟨g2, g3, g4⟩
  refine cutf [6, 7] rfl (fun st => st.e 6 = nodeAV ((n.get extendsT).getD zeroN) ∧ st.e 7 = .bool (n.get extendsT).isSome) ?_ ?_
  · simp [g2]
    refine awpR_call (getAV (n.get extendsT)) (by simp) (by simpa using nodeGet n hw hK extendsT) (getAV_data _) ?_
    cases n.get extendsT <;> simp [getAV, nodeAV_zero]
  rintro st1 hf1 ⟨g6, g7⟩
  unfold nextN
  cases hv : n.get extendsT with
  | none =>
    rw [hv] at g7
    simp [g7, hf1, g3, g4, nextAV]
  | some v =>
    rw [hv] at g6 g7
    simp only
    by_cases hk : v.kind = 3
    rotate_left
    · simp [g7, g6, hf1, g3, g4, nextAV, hk]
    rw [if_pos hk]
    have hvw := hw.get hv
    have t1 := nodeGet v hvw hK serviceT
    rw [nodeAV_eq] at t1
    simp [g7, g6, hf1, g3, g4, hk]
    refine awpR_call (getAV (v.get serviceT)) (by simp) (by simpa [hk] using t1) (getAV_data _) ?_
    have hs : ∃ s, getAV (v.get serviceT) = .tup [nodeAV s, .bool (v.get serviceT).isSome] ∧ (v.get serviceT).getD zeroN = s := by
      cases v.get serviceT <;> simp [getAV]
    obtain ⟨s, hs1, hs2⟩ := hs
    rw [hs1, hs2]
    simp [g6]
    refine awpR_call (getAV (v.get fileT)) (by simp) (by simpa using nodeGet v hvw hK fileT) (getAV_data _) ?_
    cases v.get fileT with
    | none => simp [getAV, g3, hf1, g4, nextAV]
    | some f => simp [getAV, g3, hf1, g4, nextAV]

end Go.Proofs.YtccmaeefedgcnaaGreat

namespace Go.Proofs.YtccmaeefedgcnaaGreat

/-- How often a chain was at a service: once at each. -/
def countAV (out : List At) : AV := .omap (out.map atAV) (out.map fun _ => .int .i64 1) (List.range out.length) out.length
def enterAV (out : List At) (q : At) : AV := .omap (out.map atAV ++ [atAV q]) ((out.map fun _ => .int .i64 1) ++ [.int .i64 0]) (List.range out.length ++ [out.length]) (out.length + 1)
def twiceAV (out : List At) (i : Nat) : AV := .omap (out.map atAV) ((out.map fun _ => .int .i64 1).set i (.int .i64 2)) (List.range out.length) out.length

theorem keyIdx_at (q : At) : ∀ out : List At, keyIdx (atAV q) (out.map atAV) = out.idxOf? q
  | [] => rfl
  | x :: out => by
    simp only [List.map_cons, keyIdx, keyIdx_at q out, AV.cells, eq_at, List.idxOf?_cons]
    by_cases h : q = x
    · subst h; simp
    · have h' : ¬ x = q := fun e => h e.symm
      simp [h, h']
theorem idx_mem {out : List At} {q : At} (h : q ∈ out) : ∃ i, i < out.length ∧ out.idxOf? q = some i := by
  cases hi : out.idxOf? q with
  | none => rw [List.idxOf?_eq_none_iff] at hi; exact absurd h hi
  | some i => rw [List.idxOf?_eq_some_iff] at hi; exact ⟨i, hi.1, rfl⟩
theorem idx_not {out : List At} {q : At} (h : q ∉ out) : out.idxOf? q = none := List.idxOf?_eq_none_iff.2 h
theorem fit_at (q : At) : keyFit [.str [], .str []] true (atAV q) = true := rfl
theorem all_fit (out : List At) : (out.map atAV).all (keyFit [.str [], .str []] true) = true := by
  simp [fit_at]
theorem count_map (out : List At) : isMap (countAV out) = true := by simp [countAV, isMap]
theorem enter_map' (out : List At) (q : At) : isMap (enterAV out q) = true := by simp [enterAV, isMap]
theorem twice_map (out : List At) (i : Nat) : isMap (twiceAV out i) = true := by simp [twiceAV, isMap]
theorem count_ok (out : List At) (q : At) : keyOk [.str [], .str []] true (atAV q) (countAV out) = true := by
  simp only [keyOk, fit_at, countAV, mapOf, all_fit, Bool.and_self]
theorem twice_ok (out : List At) (i : Nat) (q : At) : keyOk [.str [], .str []] true (atAV q) (twiceAV out i) = true := by
  simp only [keyOk, fit_at, twiceAV, mapOf, all_fit, Bool.and_self]
theorem look0 {out : List At} {q : At} (h : q ∉ out) (z : AV) : mapLook (countAV out) (atAV q) z = (z, false) := by
  simp only [mapLook, countAV, mapOf, keyIdx_at, idx_not h]
theorem count_getD {out : List At} {i : Nat} (h : i < out.length) : (out.map fun _ => AV.int .i64 1).getD i .undef = .int .i64 1 := by
  simp [List.getD_eq_getElem?_getD, h]
theorem look1 {out : List At} {q : At} (h : q ∈ out) (z : AV) : mapLook (countAV out) (atAV q) z = (.int .i64 1, true) := by
  obtain ⟨i, h1, h2⟩ := idx_mem h
  simp only [mapLook, countAV, mapOf, keyIdx_at, h2, count_getD h1]
theorem enter0 {out : List At} {q : At} (h : q ∉ out) : mapEnter (countAV out) (atAV q) (.int .i64 0) = (.tup [.int .i64 0, .int .i64 out.length], enterAV out q) := by
  simp only [mapEnter, countAV, mapOf, keyIdx_at, idx_not h, enterAV]
theorem enter1 {out : List At} {q : At} {i : Nat} (h1 : i < out.length) (h2 : out.idxOf? q = some i) : mapEnter (countAV out) (atAV q) (.int .i64 0) = (.tup [.int .i64 1, .int .i64 i], countAV out) := by
  have : (List.range out.length).getD i 0 = i := by simp [List.getD_eq_getElem?_getD, h1]
  simp only [mapEnter, countAV, mapOf, keyIdx_at, h2, count_getD h1, this]
theorem stamp0 (out : List At) (q : At) : stampIn (out.length : Int) (enterAV out q) = true := by
  simp [stampIn, enterAV, mapOf]
theorem stamp1 {out : List At} {i : Nat} (h : i < out.length) : stampIn (i : Int) (countAV out) = true := by
  simp only [stampIn, countAV, mapOf, List.any_eq_true]
  exact ⟨i, by simpa using h, by simp⟩
theorem findIdx_range {n i : Nat} (h : i < n) : (List.range n).findIdx? (fun b : Nat => (b : Int) == (i : Int)) = some i := by
  rw [List.findIdx?_eq_some_iff_getElem]
  exact ⟨by simpa using h, by simp, fun j hj => by simp; omega⟩
theorem put0 (out : List At) (q : At) : mapPut (enterAV out q) (out.length : Int) (.int .i64 1) = countAV (out ++ [q]) := by
  have e : List.range out.length ++ [out.length] = List.range (out.length + 1) := List.range_succ.symm
  simp only [mapPut, enterAV, countAV, e, findIdx_range (Nat.lt_succ_self out.length)]
  simp
theorem put1 {out : List At} {i : Nat} (h : i < out.length) : mapPut (countAV out) (i : Int) (.int .i64 2) = twiceAV out i := by
  simp only [mapPut, countAV, twiceAV, findIdx_range h]
theorem look2 {out : List At} {q : At} {i : Nat} (h1 : i < out.length) (h2 : out.idxOf? q = some i) (z : AV) : mapLook (twiceAV out i) (atAV q) z = (.int .i64 2, true) := by
  simp only [mapLook, twiceAV, mapOf, keyIdx_at, h2]
  simp [List.getD_eq_getElem?_getD, h1]

@[simp] theorem count_special (out : List At) : (countAV out).special = true := by simp [countAV]
@[simp] theorem enter_special (out : List At) (q : At) : (enterAV out q).special = true := by simp [enterAV]
@[simp] theorem twice_special (out : List At) (i : Nat) : (twiceAV out i).special = true := by simp [twiceAV]
@[simp] theorem count_noB (out : List At) : (countAV out).noB = countAV out := by simp [countAV]
@[simp] theorem enter_noB (out : List At) (q : At) : (enterAV out q).noB = enterAV out q := by simp [enterAV]
@[simp] theorem twice_noB (out : List At) (i : Nat) : (twiceAV out i).noB = twiceAV out i := by simp [twiceAV]
theorem wrap_two : IntKind.i64.wrap 2 = 2 := by decide

abbrev allAV (l : Files) (c : List At) : AV := .slice 4 (c.map fun p => nodeAV (findD l p))
abbrev oallAV (l : Files) (c : List At) : AV := .oslice 4 (c.map fun p => nodeAV (findD l p))
def walkAV (l : Files) (p : At) : AV := .tup [chainAV (chainN l p).1, if (chainN l p).2 = 0 then allAV l (chainN l p).1 else .slice 4 [], .int .i64 (chainN l p).2]
theorem walkAV_data (l : Files) (p : At) : (walkAV l p).data = true := by
  unfold walkAV; split <;> simp

set_option maxHeartbeats 1000000 in
theorem walkE {K : Nat} {l : Files} (h : Filed K l) (p : At) : Sound Tryz.prog 15 [filesAV l, .str p.1, .str p.2] (walkAV l p) := by
  have hK := h.K
  have hlen := h.len
  have hfew := h.few
  refine sound15 rfl ?_
  refine cutf [6, 7, 8] rfl (fun st => st.e 0 = filesAV l ∧ st.e 1 = .str p.1 ∧ st.e 2 = .str p.2 ∧ st.e 6 = .oslice 2 [] ∧ st.e 7 = .oslice 4 []) (by simp) ?_
  rintro st - ⟨g0, g1, g2, g6, g7⟩
  refine cutf [9] rfl (fun st => st.e 9 = ochainAV []) (by simp) ?_
  rintro st1 hf1 g9
  refine cutf [10] rfl (fun st => st.e 10 = oallAV l []) (by simp) ?_
  rintro st2 hf2 g10
  refine cutf [16, 11] rfl (fun st => st.e 11 = countAV []) (by simp [countAV]) ?_
  rintro st3 hf3 g11
  refine cutf [12, 13] rfl (fun st => st.e 12 = atAV p ∧ st.e 13 = .bool true) (by simp [hf3, hf2, hf1, g1, g2]) ?_
  rintro st4 hf4 ⟨g12, g13⟩
  refine cutf [20, 9, 11, 34, 14, 15, 46, 10, 12, 13, 6, 7, 8] rfl (fun st => (chainN l p).2 = 0 ∧ st.e 9 = ochainAV (chainN l p).1 ∧ st.e 10 = oallAV l (chainN l p).1) ?_ ?_
  rotate_left
  · rintro st5 hf5 ⟨e, r9, r10⟩
    simp [walkAV, e, r9, r10]
  rw [run_block]
  refine run_loopf [20, 9, 11, 34, 14, 15, 46, 10, 12, 13, 6, 7, 8] rfl (fun st => st.e 6 = .oslice 2 [] ∧ st.e 7 = .oslice 4 [] ∧ ∃ (k : Nat) (out : List At), st.e 9 = ochainAV out ∧ st.e 10 = oallAV l out ∧ k + out.length = (servicesOf l).length + 1 ∧
    ((∃ q, st.e 11 = countAV out ∧ st.e 13 = .bool true ∧ st.e 12 = atAV q ∧ Met l out ∧ walkN l k out q = chainN l p) ∨ (st.e 13 = .bool false ∧ chainN l p = (out, 0)))) (fun st => (servicesOf l).length + 1 - rowsOf (st.e 9)) ?_ ?_
  · exact ⟨by simp [hf4, hf3, hf2, hf1, g6], by simp [hf4, hf3, hf2, hf1, g7], _, [], by simp [hf4, hf3, hf2, g9], by simp [hf4, hf3, g10], rfl, .inl ⟨p, by simp [hf4, g11], g13, g12, met_nil l, rfl⟩⟩
  rintro s0 hf ⟨f6, f7, k, out, f9, f10, hk, hcase⟩
  have q0 : s0.e 0 = filesAV l := by simp [hf, hf4, hf3, hf2, hf1, g0]
  clear hf hf1 hf2 hf3 hf4 g0 g1 g2 g6 g7 g9 g10 g11 g12 g13
  rcases hcase with ⟨q, f11, f13, f12, hm, hw⟩ | ⟨f13, e⟩
  rotate_left
  · simp [f13, e, f9, f10]
  have ho := hm.len
  obtain ⟨k, rfl⟩ : ∃ k', k = k' + 1 := ⟨k - 1, by omega⟩
  refine cutf [20] rfl (fun st => True) (by simp [f13]) ?_
  rintro s1 hs1 -
  rw [run_block]
  have b1 : (out.length + 1) * 32 ≤ 140737488355328 := by omega
  have b2 : (out.length + 1) * 72 ≤ 140737488355328 := by omega
  refine cutf [9] rfl (fun st => st.e 9 = ochainAV (out ++ [q])) (by simp [hs1, f9, f12, b1]) ?_
  rintro s2 hs2 r9
  by_cases hq : q ∈ out
  · obtain ⟨i, h1, h2⟩ := idx_mem hq
    have e : chainN l p = (out ++ [q], 5) := by rw [← hw]; simp [walkN, hq]
    have l1 := look1 hq (.int .i64 0)
    have l2 := enter1 h1 h2
    have l3 := look2 h1 h2 (.int .i64 0)
    have l4 := put1 h1
    simp [hs2, hs1, f11, f12, count_map, count_ok, l1, l2, l3, l4, stamp1 h1, wrap_two, and_assoc, twice_map, twice_ok, walkAV, e, r9]
  have l1 := look0 hq (.int .i64 0)
  have l2 := enter0 hq
  have l3 := look1 (out := out ++ [q]) (q := q) (by simp) (.int .i64 0)
  have l4 := put0 out q
  refine cutf [11, 34, 6, 7, 8] rfl (fun st => st.e 11 = countAV (out ++ [q]) ∧ st.e 6 = .oslice 2 [] ∧ st.e 7 = .oslice 4 []) ?_ ?_
  · simp [hs2, hs1, f11, f12, count_map, count_ok, l1, l2, l3, l4, stamp0, and_assoc, enter_map', f6, f7]
  rintro s3 hs3 ⟨r11, r6, r7⟩
  refine cutf [14, 15] rfl (fun st => st.e 14 = nodeAV (findD l q) ∧ st.e 15 = .bool (findN l q).isSome) ?_ ?_
  · simp [hs3, hs2, hs1, q0, f12]
    refine awpR_call (getAV (findN l q)) (by simp) (by simpa using findE h q) (getAV_data _) ?_
    unfold findD
    cases findN l q <;> simp [getAV, nodeAV_zero]
  rintro s4 hs4 ⟨r14, r15⟩
  cases hfn : findN l q with
  | none =>
    rw [hfn] at r15
    have e : chainN l p = (out ++ [q], 7) := by rw [← hw]; simp [walkN, hq, hfn]
    simp [r15, hs4, hs3, r9, walkAV, e]
  | some n =>
    rw [hfn] at r15
    have hfd : findD l q = n := by simp [findD, hfn]
    rw [hfd] at r14
    refine cutf [46, 6, 7, 8] rfl (fun st => st.e 6 = .oslice 2 [] ∧ st.e 7 = .oslice 4 []) (by simp [r15, hs4, r6, r7]) ?_
    rintro s5 hs5 ⟨r6, r7⟩
    simp [hs5, hs4, hs3, hs2, hs1, f10, b2, r14, f12]
    refine awpR_call (nextAV q (nextN n q)) (by simp) (by simpa using nextE (findN_wide h.wide hfn) (by omega) q) (nextAV_data _ _) ?_
    cases hnx : nextN n q with
    | none =>
      have e : chainN l p = (out ++ [q], 0) := by rw [← hw]; simp [walkN, hq, hfn, hnx]
      simp [nextAV, r6, r7, hs5, hs4, hs3, hs2, hs1, r9, f12, f9]
      exact ⟨⟨k, out ++ [q], by simp, by simp [hfd], by simp; omega, e⟩, by omega⟩
    | some to =>
      have e : walkN l k (out ++ [q]) to = chainN l p := by rw [← hw]; simp [walkN, hq, hfn, hnx]
      simp [nextAV, r6, r7, hs5, hs4, hs3, hs2, hs1, r9, f12, r11, f9]
      exact ⟨⟨k, out ++ [q], by simp, by simp [hfd], by simp; omega, rfl, to.1, to.2, ⟨rfl, rfl⟩, hm.snoc hq hfn, e⟩, by omega⟩

theorem chainE {K : Nat} {l : Files} (h : Filed K l) (p : At) : Sound Tryz.prog 8 [filesAV l, .str p.1, .str p.2] (chainAV (chainN l p).1) := by
  refine sound8 rfl ?_
  refine cutf [6] rfl (fun st => st.e 0 = filesAV l ∧ st.e 1 = .str p.1 ∧ st.e 2 = .str p.2) (by simp) ?_
  rintro st - ⟨g0, g1, g2⟩
  simp [g0, g1, g2]
  refine awpR_call (walkAV l p) (by simp) (by simpa using walkE h p) (walkAV_data l p) ?_
  unfold walkAV
  by_cases hz : (chainN l p).2 = 0 <;> simp [hz]

end Go.Proofs.YtccmaeefedgcnaaGreat

namespace Go.Proofs.YtccmaeefedgcnaaGreat

theorem oneE {K : Nat} {l : Files} (h : Filed K l) (p : At) : Sound Tryz.prog 6 [filesAV l, .str p.1, .str p.2] (wholeAV (wholeN l p)) := by
  have hK := h.K
  have hlen := h.len
  have hfew := h.few
  have hbig := h.big
  obtain ⟨init, last, hc, hm, hres⟩ := chainN_spec l p
  have hil := hm.len
  refine sound6 rfl ?_
  refine cutf [6, 7] rfl (fun st => st.e 0 = filesAV l ∧ st.e 1 = .str p.1 ∧ st.e 2 = .str p.2 ∧ st.e 6 = noNode) (by simp) ?_
  rintro st - ⟨g0, g1, g2, g6⟩
  refine cutf [8, 9, 10] rfl (fun st => st.e 9 = (if (chainN l p).2 = 0 then allAV l (chainN l p).1 else .slice 4 []) ∧ st.e 10 = .int .i64 (chainN l p).2) ?_ ?_
  · simp [g0, g1, g2]
    refine awpR_call (walkAV l p) (by simp) (by simpa using walkE h p) (walkAV_data l p) ?_
    unfold walkAV
    by_cases hz : (chainN l p).2 = 0 <;> simp [hz]
  rintro st1 hf1 ⟨g9, g10⟩
  by_cases hz : (chainN l p).2 = 0
  rotate_left
  · have e : wholeN l p = (zeroN, (chainN l p).2) := by simp [wholeN, hz]
    rw [e]
    simp [g10, hz, hf1, g6, nodeAV_zero]
  rw [if_pos hz, hc] at g9
  have e : wholeN l p = (overN l (init ++ [last]), 0) := by simp [wholeN, hz, hc]
  rw [hz] at g10
  rw [e]
  refine cutf [23, 6, 7] rfl (fun st => st.e 6 = noNode) (by simp [g10, hf1, g6]) ?_
  rintro st2 hf2 f6
  refine cutf [11] rfl (fun st => st.e 11 = noNode) (by simp) ?_
  rintro st3 hf3 g11
  have q9 : st3.e 9 = allAV l (init ++ [last]) := by simp [hf3, hf2, g9]
  have q6 : st3.e 6 = noNode := by simp [hf3, f6]
  clear hf1 hf2 hf3 g0 g1 g2 g6 f6 g9 g10
  refine cutf [12, 30, 13, 41, 11] rfl (fun st => st.e 11 = nodeAV (overN l (init ++ [last]))) ?_ ?_
  rotate_left
  · rintro st4 hf4 r11
    simp [r11, hf4, q6]
  have hws0 : IntKind.i64.wrap (init.length : Int) = (init.length : Int) := wrap_i64 (by omega) (by omega)
  refine cutf [12] rfl (fun st => st.e 12 = .int .i64 (init.length : Int)) (by simp [q9, hws0]) ?_
  rintro st4 hf4 g12
  rw [run_block]
  refine run_loopf [30, 13, 41, 11, 12] rfl (fun st => ∃ j : Nat, st.e 12 = .int .i64 ((j : Int) - 1) ∧ j ≤ init.length + 1 ∧ ((j = init.length + 1 ∧ st.e 11 = noNode) ∨ (j ≤ init.length ∧ st.e 11 = nodeAV (overN l ((init ++ [last]).drop j))))) (fun st => natOf1 (st.e 12)) ?_ ?_
  · exact ⟨init.length + 1, by rw [g12]; simp, by omega, .inl ⟨rfl, by simp [hf4, g11]⟩⟩
  rintro s0 hf ⟨j, f12, hj, hcase⟩
  have r9 : s0.e 9 = allAV l (init ++ [last]) := by simp [hf, hf4, q9]
  clear hf
  cases j with
  | zero =>
    rcases hcase with ⟨h1, _⟩ | ⟨_, f11⟩
    · omega
    · simp [f12, f11]
  | succ j =>
    have e0 : ((j + 1 : Nat) : Int) - 1 = (j : Int) := by omega
    rw [e0] at f12
    have hi2 : (j : Int) < init.length + 1 := by omega
    have hge : (0 : Int) ≤ j := by omega
    have hws4 := wrap_down (i := j) (by omega)
    have hws5 := wrap_succ (i := j) (by omega)
    obtain ⟨q, hq⟩ : ∃ q, (init ++ [last])[j]? = some q := ⟨_, List.getElem?_eq_getElem (by simp; omega)⟩
    have hg2 : ((init ++ [last]).map fun p => nodeAV (findD l p))[j]? = some (nodeAV (findD l q)) := by
      rw [List.getElem?_map, hq]; rfl
    simp only [List.map_append, List.map_cons, List.map_nil] at hg2
    have hqe : (init ++ [last])[j]'(by simp; omega) = q := by
      rw [List.getElem?_eq_getElem (by simp; omega)] at hq
      exact Option.some.inj hq
    rcases hcase with ⟨h1, f11⟩ | ⟨h1, f11⟩
    · have hjl : j = init.length := by omega
      have hd := overN_last (l := l) (c := init ++ [last]) (i := j) (by simp [hjl])
      rw [hqe] at hd
      have hjl' : init.length = j := hjl.symm
      have hi3 : (j : Int) < (j : Int) + 1 := by omega
      simp [f12, r9, hi3, hg2, hge, hws5, hjl', f11, hws4]
      have hql : q = last := by
        rw [hjl, List.getElem?_append_right (by simp)] at hq
        simp at hq
        exact hq.symm
      exact ⟨j, rfl, by omega, .inr ⟨by omega, by rw [hd, hql]⟩⟩
    · have hjl : ¬ j = init.length := by omega
      have hd := overN_drop (l := l) (c := init ++ [last]) (i := j) (by simp; omega)
      rw [hqe] at hd
      have hji : ¬ (j : Int) = init.length := by omega
      have hwide := findD_wide h.wide q
      have hwl := less_wide hwide extendsT
      have hwo := overN_wide h.wide ((init ++ [last]).drop (j + 1))
      have hb2 : K * ((init ++ [last]).drop (j + 1)).length + K ≤ 1073741824 := by
        refine Nat.le_trans ?_ (Nat.le_trans hbig (by omega))
        rw [← Nat.mul_succ]
        refine Nat.mul_le_mul_left K ?_
        simp only [List.length_drop, List.length_append, List.length_singleton]; omega
      simp [f12, r9, hi2, hg2, hge, hws5, hjl, hji, f11, hws4]
      refine awpR_call (nodeAV ((findD l q).less extendsT)) (by simp) (by simpa using nodeLess (findD l q) hwide (by omega) extendsT) (by simp) ?_
      simp [f11]
      refine awpR_call (nodeAV ((overN l ((init ++ [last]).drop (j + 1))).two ((findD l q).less extendsT))) (by simp) (by simpa using twoB hwl hb2 hwo) (by simp) ?_
      simp [f11, f12, hws4]
      exact ⟨j, rfl, by omega, .inr ⟨by omega, by rw [hd]⟩⟩

end Go.Proofs.YtccmaeefedgcnaaGreat
