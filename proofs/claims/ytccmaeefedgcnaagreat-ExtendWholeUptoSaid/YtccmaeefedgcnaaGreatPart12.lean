/-
  CONTRACTS: longshoreref02, longshoreref08.
  CONTRACTS: longshoreref02, lists in order.
  CONTRACTS: longshoreref02, names; both lists.
  CONTRACTS: longshoreref08, what is right.
  CONTRACTS: longshoreref08, maps.
  CONTRACTS: longshoreref08, what is short and small.
  CONTRACTS: longshoreref08.Sorted.
-/
import Derived.Test.YtccmaeefedgcnaaGreatPart07
import Derived.Test.YtccmaeefedgcnaaGreatPart08
set_option linter.all false

namespace Go.Proofs.YtccmaeefedgcnaaGreat

theorem ref02Same (a b : List Str) (ha : a.length < 4611686018427387904) : Sound Tryz.prog 22 [.slice 1 (a.map .str), .slice 1 (b.map .str)] (.bool (a == b)) := by
  refine sound22 rfl ?_
  simp
  refine ⟨fun h e => h (by rw [e]), fun hl => ?_⟩
  have hl : a.length = b.length := by omega
  refine run_loop (fun s => s.e 0 = .slice 1 (a.map .str) ∧ s.e 1 = .slice 1 (b.map .str) ∧ ∃ i : Nat, s.e 5 = .int .i64 i ∧ i ≤ a.length ∧ ∀ j < i, a[j]? = b[j]?) (fun s => a.length - natOf (s.e 5)) ?_ ?_
  · simp; exact ⟨0, rfl, by simp⟩
  · rintro s ⟨h0, h1, i, h5, hi, hj⟩
    by_cases hlt : i < a.length
    · have hlt2 : i < b.length := by omega
      have hw := wrap_succ (i := i) (by omega)
      by_cases hab : a[i] = b[i]
      · simp [h0, h1, h5, hlt, hlt2, hab]
        rw [hw]
        refine ⟨⟨i + 1, rfl, hlt, fun j hj' => ?_⟩, by omega⟩
        rcases Nat.lt_succ_iff_lt_or_eq.1 hj' with h | h
        · exact hj j h
        · subst h; simp [hlt, hlt2, hab]
      · have : a ≠ b := by rintro rfl; exact hab rfl
        simp [h0, h1, h5, hlt, hlt2, hab, this]
    · have : a = b := by
        apply List.ext_getElem?
        intro j
        by_cases hj' : j < a.length
        · exact hj j (by omega)
        · rw [List.getElem?_eq_none (by omega), List.getElem?_eq_none (by omega)]
      subst this
      simp [h0, h1, h5, hlt]

theorem idxOf_get {l : List Str} {k : Str} {i : Nat} (hi : l[i]? = some k) (hj : ∀ j < i, l[j]? ≠ some k) : l.idxOf? k = some i := by
  induction l generalizing i with
  | nil => simp at hi
  | cons x l ih =>
    rw [List.idxOf?_cons]
    cases i with
    | zero => simp at hi; simp [hi]
    | succ i =>
      have h0 := hj 0 (by omega)
      simp at h0 hi
      have := ih hi (fun j hj' => by simpa using hj (j + 1) (by omega))
      simp [h0, this]
theorem idxOf_none {l : List Str} {k : Str} (hj : ∀ j < l.length, l[j]? ≠ some k) : l.idxOf? k = none := by
  rw [List.idxOf?_eq_none_iff]
  intro hm
  obtain ⟨j, hj1, hj2⟩ := List.mem_iff_getElem.1 hm
  exact hj j hj1 (by rw [List.getElem?_eq_getElem hj1, hj2])

/-- The value by a key. -/
def Node.get (n : Node) (key : Str) : Option Node := if n.kind = 3 then (n.keys.idxOf? key).bind (n.kids[·]?) else none
def getAV : Option Node → AV
  | some n => .tup [nodeAV n, .bool true]
  | none => .tup [nodeAV zeroN, .bool false]

theorem ref08Get (n : Node) (key : Str) (hn : n.kind = 3 → n.keys.length ≤ n.kids.length) (hlen : n.keys.length < 4611686018427387904) : Sound Tryz.prog 40 [nodeAV n, .str key] (getAV (n.get key)) := by
  refine sound40 rfl ?_
  simp
  constructor
  · intro hk
    refine run_loop (fun s => s.e 2 = nodeAV n ∧ s.e 1 = .str key ∧ s.e 4 = (.agg [.int .i64 0, .str [], .oslice 1 [], .oslice 4 []]) ∧ ∃ i : Nat, s.e 6 = .int .i64 i ∧ i ≤ n.keys.length ∧ ∀ j < i, n.keys[j]? ≠ some key)
      (fun s => n.keys.length - natOf (s.e 6)) ?_ ?_
    · simp; exact ⟨0, rfl, by simp⟩
    · rintro s ⟨h2, h1, h4, i, h6, hi, hj⟩
      by_cases hlt : i < n.keys.length
      · have hk3 : i < n.kids.length := by have := hn hk; omega
        have hw := wrap_succ (i := i) (by omega)
        by_cases hkey : n.keys[i] = key
        · have hg : n.get key = some (n.kids[i]'hk3) := by
            simp [Node.get, hk, idxOf_get (l := n.keys) (k := key) (i := i) (by simp [hlt, hkey]) hj, hk3]
          simp [h2, h6, h1, h4, hlt, hkey, hk3, hg, getAV]
        · simp [h2, h6, h1, h4, hlt, hkey]
          rw [hw]
          refine ⟨⟨i + 1, rfl, hlt, fun j hj' => ?_⟩, by omega⟩
          rcases Nat.lt_succ_iff_lt_or_eq.1 hj' with h | h
          · exact hj j h
          · subst h; simpa [hlt] using hkey
      · have hg : n.get key = none := by
          simp [Node.get, hk, idxOf_none (l := n.keys) (k := key) (fun j hj' => hj j (by omega))]
        simp [h2, h6, h4, hlt, hg, getAV, nodeAV_zero]
  · intro hk
    simp [Node.get, hk, getAV, nodeAV_zero]

/-- longshoreref02.Kind. -/
def kind2 (c : UInt8) : Int :=
  if 97 ≤ (c.toNat : Int) ∧ (c.toNat : Int) ≤ 122 then 1 else if 65 ≤ (c.toNat : Int) ∧ (c.toNat : Int) ≤ 90 then 2 else if 48 ≤ (c.toNat : Int) ∧ (c.toNat : Int) ≤ 57 then 3
  else if (c.toNat : Int) = 95 then 4 else if (c.toNat : Int) = 45 then 5 else if (c.toNat : Int) = 46 then 6 else 0

theorem ref02Kind (c : UInt8) : Sound Tryz.prog 45 [.int .u8 c.toNat] (.int .i64 (kind2 c)) := by
  refine sound45 rfl ?_
  simp
  unfold kind2
  by_cases h1 : 97 ≤ (c.toNat : Int) <;> by_cases h2 : 65 ≤ (c.toNat : Int) <;> by_cases h3 : 48 ≤ (c.toNat : Int) <;> (try (exfalso; omega)) <;> simp [h1, h2, h3] <;> omega

theorem ref02In (l : List Str) (s : Str) (hl : l.length < 4611686018427387904) : Sound Tryz.prog 78 [.slice 1 (l.map .str), .str s] (.bool (decide (s ∈ l))) := by
  refine sound78 rfl ?_
  simp
  refine run_loop (fun st => st.e 0 = .slice 1 (l.map .str) ∧ st.e 1 = .str s ∧ ∃ i : Nat, st.e 5 = .int .i64 i ∧ i ≤ l.length ∧ ∀ j < i, l[j]? ≠ some s) (fun st => l.length - natOf (st.e 5)) ?_ ?_
  · simp; exact ⟨0, rfl, by simp⟩
  · rintro st ⟨h0, h1, i, h5, hi, hj⟩
    by_cases hlt : i < l.length
    · have hw := wrap_succ (i := i) (by omega)
      by_cases hab : l[i] = s
      · have : s ∈ l := by rw [← hab]; exact List.getElem_mem _
        simp [h0, h1, h5, hlt, hab, this]
      · simp [h0, h1, h5, hlt, hab]
        rw [hw]
        refine ⟨⟨i + 1, rfl, hlt, fun j hj' => ?_⟩, by omega⟩
        rcases Nat.lt_succ_iff_lt_or_eq.1 hj' with h | h
        · exact hj j h
        · subst h; simpa [hlt] using hab
    · have : s ∉ l := by
        intro hm
        obtain ⟨j, hj1, hj2⟩ := List.mem_iff_getElem.1 hm
        exact hj j (by omega) (by rw [List.getElem?_eq_getElem hj1, hj2])
      simp [h0, h5, hlt, this]

/-- All lists of a node and its parts are short. -/
inductive Node.Short : Node → Prop
  | mk {n : Node} (h1 : n.keys.length ≤ 1073741824) (h2 : n.kids.length ≤ 1073741824) (h3 : ∀ k ∈ n.kids, Node.Short k) (h4 : n.text.length ≤ 1073741824) (h5 : ∀ k ∈ n.keys, k.length ≤ 1073741824) : Node.Short n
theorem Node.Short.keys {n : Node} (h : n.Short) : n.keys.length ≤ 1073741824 := by cases h; assumption
theorem Node.Short.kids {n : Node} (h : n.Short) : n.kids.length ≤ 1073741824 := by cases h; assumption
theorem Node.Short.kid {n : Node} (h : n.Short) {k : Node} (hk : k ∈ n.kids) : k.Short := by cases h with | mk _ _ h3 _ _ => exact h3 k hk

/-- longshoreref08.Same, of a node and itself. -/
theorem ref08Same (a : Node) (hs : a.Short) : Sound Tryz.prog 10 [nodeAV a, nodeAV a] (.bool true) := by
  induction hs with
  | @mk n h1 h2 h3 h4 h5 ih =>
    refine sound10 rfl ?_
    simp
    refine awpR_ggcall (.bool true) (by simp) (by simp) (fun _ => by simpa using ref02Same n.keys n.keys (by omega)) rfl ?_
    simp
    refine run_loop (fun st => st.e 2 = nodeAV n ∧ st.e 3 = nodeAV n ∧ ∃ i : Nat, st.e 5 = .int .i64 i ∧ i ≤ n.kids.length) (fun st => n.kids.length - natOf (st.e 5)) ?_ ?_
    · simp; exact ⟨0, rfl, by simp⟩
    · rintro st ⟨g2, g3, i, g5, hi⟩
      by_cases hlt : i < n.kids.length
      · have hw := wrap_succ (i := i) (by omega)
        simp [g2, g3, g5, hlt]
        refine awpR_call (.bool true) (by simp) (by simpa [hlt] using ih (n.kids[i]) (List.getElem_mem _)) rfl ?_
        simp [g2, g3, g5, hw]
        exact ⟨⟨i + 1, rfl, hlt⟩, by omega⟩
      · simp [g2, g3, g5, hlt]

end Go.Proofs.YtccmaeefedgcnaaGreat

namespace Go.Proofs.YtccmaeefedgcnaaGreat

theorem nil_or_last (o : List Str) : o = [] ∨ ∃ p z, o = p ++ [z] := by
  rcases List.eq_nil_or_concat o with h | ⟨p, z, h⟩
  · exact .inl h
  · exact .inr ⟨p, z, by simpa using h⟩

/-- A text that may follow. -/
def Cand (o : List Str) (x : Str) : Prop := ∀ y ∈ o.getLast?, y < x
@[simp] theorem cand_nil {x : Str} : Cand [] x := by simp [Cand]
@[simp] theorem cand_last {p : List Str} {z x : Str} : Cand (p ++ [z]) x ↔ z < x := by simp [Cand]
theorem gtr_iff {x y : Str} : ¬ (x < y) ∧ ¬ x = y ↔ y < x := by
  constructor
  · rintro ⟨h1, h2⟩
    rcases str_tri x y with h | h | h
    · exact absurd h h1
    · exact absurd h h2
    · exact h
  · intro h; exact ⟨fun h2 => str_irrefl _ (str_trans h h2), fun e => by subst e; exact str_irrefl _ h⟩

/-- What is known of the best one. -/
def Best (l o : List Str) (i : Nat) (v : AV) : Prop :=
  (v = .int .i64 (-1) ∧ ∀ j < i, ∀ x, l[j]? = some x → ¬ Cand o x) ∨
    ∃ b : Nat, ∃ y, v = .int .i64 b ∧ b < l.length ∧ l[b]? = some y ∧ Cand o y ∧ ∀ j < i, ∀ x, l[j]? = some x → Cand o x → ¬ x < y
theorem Best.skip {l o : List Str} {i : Nat} {v : AV} {x : Str} (h : Best l o i v) (hx : l[i]? = some x) (hn : ¬ Cand o x ∨ ∃ b : Nat, ∃ y, v = .int .i64 b ∧ l[b]? = some y ∧ ¬ x < y) : Best l o (i + 1) v := by
  rcases h with ⟨e, h⟩ | ⟨b, y, e, hb, hy, hc, h⟩
  · refine .inl ⟨e, fun j hj x' hx' => ?_⟩
    rcases Nat.lt_succ_iff_lt_or_eq.1 hj with hj | rfl
    · exact h j hj x' hx'
    · rw [hx] at hx'; cases hx'
      rcases hn with hn | ⟨b, y, e2, _⟩
      · exact hn
      · rw [e] at e2; cases e2
  · refine .inr ⟨b, y, e, hb, hy, hc, fun j hj x' hx' hc' => ?_⟩
    rcases Nat.lt_succ_iff_lt_or_eq.1 hj with hj | rfl
    · exact h j hj x' hx' hc'
    · rw [hx] at hx'; cases hx'
      rcases hn with hn | ⟨b2, y2, e2, hy2, h2⟩
      · exact absurd hc' hn
      · rw [e] at e2; injection e2 with _ e3
        have : b = b2 := by omega
        subst this; rw [hy] at hy2; cases hy2; exact h2
theorem Best.new {l o : List Str} {i : Nat} {v : AV} {x : Str} (h : Best l o i v) (hx : l[i]? = some x) (hc : Cand o x) (hb : v = .int .i64 (-1) ∨ ∃ b : Nat, ∃ y, v = .int .i64 b ∧ l[b]? = some y ∧ x < y) : Best l o (i + 1) (.int .i64 i) := by
  have hi : i < l.length := by
    rcases Nat.lt_or_ge i l.length with h | h
    · exact h
    · rw [List.getElem?_eq_none h] at hx; cases hx
  refine .inr ⟨i, x, rfl, hi, hx, hc, fun j hj x' hx' hc' => ?_⟩
  rcases Nat.lt_succ_iff_lt_or_eq.1 hj with hj | rfl
  · rcases h with ⟨e, h⟩ | ⟨b, y, e, _, hy, _, h⟩
    · exact absurd hc' (h j hj x' hx')
    · rcases hb with hb | ⟨b2, y2, e2, hy2, hlt⟩
      · rw [e] at hb; injection hb with _ e3
        exact absurd e3 (by omega)
      · rw [e] at e2; injection e2 with _ e3
        have : b = b2 := by omega
        subst this; rw [hy] at hy2; cases hy2
        exact fun hh => h j hj x' hx' hc' (str_trans hh hlt)
  · rw [hx] at hx'; cases hx'; exact str_irrefl _

theorem ref02Sorted (l : List Str) (hl : l.length ≤ 1073741824) : Sound Tryz.prog 42 [.slice 1 (l.map .str)] (.slice 1 ((sortU l).map .str)) := by
  refine sound42 rfl ?_
  simp
  refine run_loop (fun s => s.e 0 = .slice 1 (l.map .str) ∧ ∃ o : List Str, s.e 3 = .oslice 1 (o.map .str) ∧ Rising o ∧ (∀ x ∈ o, x ∈ l) ∧ ∀ x ∈ l, x ∉ o → ∀ y ∈ o, y < x)
    (fun s => match s.e 3 with | .oslice _ o => l.length - o.length | _ => 0) ?_ ?_
  · simp
  · rintro s ⟨h0, o, h3, ho, hsub, hinit⟩
    have hol : o.length ≤ l.length := (rising_nodup ho).length_le_of_subset hsub
    simp [h3]
    refine run_loop (fun s => s.e 0 = .slice 1 (l.map .str) ∧ s.e 3 = .oslice 1 (o.map .str) ∧ ∃ i : Nat, s.e 5 = .int .i64 i ∧ i ≤ l.length ∧ Best l o i (s.e 4))
      (fun s => l.length - natOf (s.e 5)) ?_ ?_
    · simp [h0, h3]; exact ⟨0, rfl, by simp, .inl ⟨rfl, by simp⟩⟩
    · rintro s ⟨h0, h3, i, h5, hi, h4⟩
      by_cases hlt : i < l.length
      · have hw := wrap_succ (i := i) (by omega)
        have hx : l[i]? = some l[i] := List.getElem?_eq_getElem hlt
        rcases h4 with ⟨e4, hall⟩ | ⟨b, y, e4, hb, hy, hc, hall⟩
        · have h4 : Best l o i (s.e 4) := .inl ⟨e4, hall⟩
          rcases nil_or_last o with rfl | ⟨p, z, rfl⟩
          · simp [h0, h3, h5, hlt, e4]
            rw [hw]
            exact ⟨⟨i + 1, rfl, hlt, h4.new hx (by simp) (.inl e4)⟩, by omega⟩
          · have hp : IntKind.i64.wrap (p.length : Int) = p.length := by rw [wrap_int] <;> simp at hol <;> omega
            have hp2 : (p.length : Int) + 1 ≠ 0 := by omega
            by_cases hz : z < l[i]
            · have hz2 := gtr_iff.2 hz
              simp [h0, h3, h5, hlt, e4, hp, hp2, hz2]
              rw [hw]
              exact ⟨by omega, ⟨i + 1, rfl, hlt, h4.new hx (by simpa using hz) (.inl e4)⟩, by omega⟩
            · have hz2 : l[i] < z ∨ l[i] = z := by
                rcases str_tri l[i] z with h | h | h
                · exact .inl h
                · exact .inr h
                · exact absurd h hz
              rcases hz2 with hz2 | rfl
              · simp [h0, h3, h5, hlt, e4, hp, hp2, hz2]
                rw [hw]
                exact ⟨by omega, ⟨i + 1, rfl, hlt, by rw [← e4]; exact h4.skip hx (.inl (by simpa using hz))⟩, by omega⟩
              · simp [h0, h3, h5, hlt, e4, hp, hp2]
                rw [hw]
                exact ⟨by omega, ⟨i + 1, rfl, hlt, by rw [← e4]; exact h4.skip hx (.inl (by simpa using hz))⟩, by omega⟩
        · have h4 : Best l o i (s.e 4) := .inr ⟨b, y, e4, hb, hy, hc, hall⟩
          have hy' : l[b] = y := by rw [List.getElem?_eq_getElem hb] at hy; simpa using hy
          have hneg : ¬ ((b : Int) < 0) := by omega
          by_cases hxy : l[i] < y
          · rcases nil_or_last o with rfl | ⟨p, z, rfl⟩
            · simp [h0, h3, h5, hlt, e4, hb, hy', hneg, hxy]
              rw [hw]
              exact ⟨⟨i + 1, rfl, hlt, h4.new hx (by simp) (.inr ⟨b, y, e4, hy, hxy⟩)⟩, by omega⟩
            · have hp : IntKind.i64.wrap (p.length : Int) = p.length := by rw [wrap_int] <;> simp at hol <;> omega
              have hp2 : (p.length : Int) + 1 ≠ 0 := by omega
              by_cases hz : z < l[i]
              · have hz2 := gtr_iff.2 hz
                simp [h0, h3, h5, hlt, e4, hb, hy', hneg, hxy, hp, hp2, hz2]
                rw [hw]
                exact ⟨by omega, ⟨i + 1, rfl, hlt, h4.new hx (by simpa using hz) (.inr ⟨b, y, e4, hy, hxy⟩)⟩, by omega⟩
              · have hz2 : l[i] < z ∨ l[i] = z := by
                  rcases str_tri l[i] z with h | h | h
                  · exact .inl h
                  · exact .inr h
                  · exact absurd h hz
                rcases hz2 with hz2 | rfl
                · simp [h0, h3, h5, hlt, e4, hb, hy', hneg, hxy, hp, hp2, hz2]
                  rw [hw]
                  exact ⟨by omega, ⟨i + 1, rfl, hlt, by rw [← e4]; exact h4.skip hx (.inl (by simpa using hz))⟩, by omega⟩
                · simp [h0, h3, h5, hlt, e4, hb, hy', hneg, hxy, hp, hp2]
                  rw [hw]
                  exact ⟨by omega, ⟨i + 1, rfl, hlt, by rw [← e4]; exact h4.skip hx (.inl (by simpa using hz))⟩, by omega⟩
          · rcases nil_or_last o with rfl | ⟨p, z, rfl⟩
            · simp [h0, h3, h5, hlt, e4, hb, hy', hneg, hxy]
              rw [hw]
              exact ⟨⟨i + 1, rfl, hlt, by rw [← e4]; exact h4.skip hx (.inr ⟨b, y, e4, hy, hxy⟩)⟩, by omega⟩
            · have hp : IntKind.i64.wrap (p.length : Int) = p.length := by rw [wrap_int] <;> simp at hol <;> omega
              have hp2 : (p.length : Int) + 1 ≠ 0 := by omega
              by_cases hz : z < l[i]
              · have hz2 := gtr_iff.2 hz
                simp [h0, h3, h5, hlt, e4, hb, hy', hneg, hxy, hp, hp2, hz2]
                rw [hw]
                exact ⟨by omega, ⟨i + 1, rfl, hlt, by rw [← e4]; exact h4.skip hx (.inr ⟨b, y, e4, hy, hxy⟩)⟩, by omega⟩
              · have hz2 : l[i] < z ∨ l[i] = z := by
                  rcases str_tri l[i] z with h | h | h
                  · exact .inl h
                  · exact .inr h
                  · exact absurd h hz
                rcases hz2 with hz2 | rfl
                · simp [h0, h3, h5, hlt, e4, hb, hy', hneg, hxy, hp, hp2, hz2]
                  rw [hw]
                  exact ⟨by omega, ⟨i + 1, rfl, hlt, by rw [← e4]; exact h4.skip hx (.inl (by simpa using hz))⟩, by omega⟩
                · simp [h0, h3, h5, hlt, e4, hb, hy', hneg, hxy, hp, hp2]
                  rw [hw]
                  exact ⟨by omega, ⟨i + 1, rfl, hlt, by rw [← e4]; exact h4.skip hx (.inl (by simpa using hz))⟩, by omega⟩
      · simp [h0, h3, h5, hlt]
        rcases h4 with ⟨e4, hall⟩ | ⟨b, y, e4, hb, hy, hc, hall⟩
        · simp [e4]
          congr 1
          refine eq_sortU ho fun x => ⟨hsub x, fun hx => ?_⟩
          apply Classical.byContradiction
          intro hn
          obtain ⟨j, hj1, hj2⟩ := List.mem_iff_getElem.1 hx
          refine hall j (by omega) x (by rw [List.getElem?_eq_getElem hj1, hj2]) ?_
          intro z hz
          exact hinit x hx hn z (List.mem_of_getLast? hz)
        · have hy' : l[b] = y := by rw [List.getElem?_eq_getElem hb] at hy; simpa using hy
          have hmem : y ∈ l := hy' ▸ List.getElem_mem hb
          have hno : ∀ z ∈ o, z < y := by
            rcases nil_or_last o with rfl | ⟨p, z, rfl⟩
            · simp
            · simp at hc
              intro w hw
              rcases List.mem_append.1 hw with hw | hw
              · exact str_trans ((List.pairwise_append.1 ho).2.2 w hw z (by simp)) hc
              · simp at hw; subst hw; exact hc
          have hol2 : o.length + 1 ≤ l.length := by
            have : (o ++ [y]).length ≤ l.length := (rising_nodup (List.pairwise_append.2 ⟨ho, by simp, fun a ha b hb => by simp at hb; subst hb; exact hno a ha⟩)).length_le_of_subset
              fun a ha => by
                rcases List.mem_append.1 ha with h | h
                · exact hsub a h
                · simp at h; subst h; exact hmem
            simpa using this
          have hneg : ¬ ((b : Int) < 0) := by omega
          simp [h0, h3, e4, hb, hy', hneg]
          refine ⟨by omega, ⟨o ++ [y], by simp, ?_, ?_, ?_⟩, by omega⟩
          · exact List.pairwise_append.2 ⟨ho, by simp, fun a ha b hb => by simp at hb; subst hb; exact hno a ha⟩
          · intro a ha
            rcases List.mem_append.1 ha with h | h
            · exact hsub a h
            · simp at h; subst h; exact hmem
          · intro x hx hnx z hz
            simp at hnx
            rcases List.mem_append.1 hz with h | h
            · exact hinit x hx hnx.1 z h
            · simp at h; subst h
              obtain ⟨j, hj1, hj2⟩ := List.mem_iff_getElem.1 hx
              have := hall j (by omega) x (by rw [List.getElem?_eq_getElem hj1, hj2]) (fun w hw => hinit x hx hnx.1 w (List.mem_of_getLast? hw))
              rcases str_tri x z with h | h | h
              · exact absurd h this
              · exact absurd h hnx.2
              · exact h

end Go.Proofs.YtccmaeefedgcnaaGreat

namespace Go.Proofs.YtccmaeefedgcnaaGreat

theorem take_snoc {α : Type} {l : List α} {i : Nat} (h : i < l.length) : l.take i ++ [l[i]] = l.take (i + 1) := by
  rw [List.take_add_one, List.getElem?_eq_getElem h]; rfl

theorem map_take_snoc {α : Type} (f : α → AV) {l : List α} {i : Nat} (h : i < l.length) : (l.map f).take i ++ [f l[i]] = (l.map f).take (i + 1) := by
  have := take_snoc (l := l.map f) (i := i) (by simpa using h)
  rw [List.getElem_map] at this; exact this
theorem ref02Both (a b : List Str) (hl : a.length + b.length ≤ 1073741824) : Sound Tryz.prog 41 [.slice 1 (a.map .str), .slice 1 (b.map .str)] (.slice 1 ((sortU (a ++ b)).map .str)) := by
  refine sound41 rfl ?_
  simp
  refine run_loop (fun s => s.e 0 = .slice 1 (a.map .str) ∧ s.e 1 = .slice 1 (b.map .str) ∧ ∃ i : Nat, s.e 6 = .int .i64 i ∧ i ≤ a.length ∧ s.e 5 = .oslice 1 ((a.take i).map .str))
    (fun s => a.length - natOf (s.e 6)) ?_ ?_
  · simp
    exact ⟨0, rfl, by omega, by simp⟩
  · rintro s ⟨h0, h1, i, h6, hi, h5⟩
    by_cases hlt : i < a.length
    · have hw := wrap_succ (i := i) (by omega)
      have hm : min i a.length = i := by omega
      simp [h0, h1, h5, h6, hlt, hm]
      rw [hw]
      exact ⟨by omega, ⟨i + 1, rfl, by omega, map_take_snoc _ hlt⟩, by omega⟩
    · have : i = a.length := by omega
      subst this
      simp [h0, h1, h5, h6]
      refine run_loop (fun s => s.e 0 = .slice 1 (a.map .str) ∧ s.e 1 = .slice 1 (b.map .str) ∧ ∃ i : Nat, s.e 7 = .int .i64 i ∧ i ≤ b.length ∧ s.e 5 = .oslice 1 ((a ++ b.take i).map .str))
        (fun s => b.length - natOf (s.e 7)) ?_ ?_
      · simp [h0, h1, h5]
        exact ⟨0, rfl, by omega, by simp⟩
      · rintro s ⟨h0, h1, i, h7, hi, h5⟩
        by_cases hlt : i < b.length
        · have hw := wrap_succ (i := i) (by omega)
          have hm : min i b.length = i := by omega
          simp [h0, h1, h5, h7, hlt, hm]
          rw [hw]
          exact ⟨by omega, ⟨i + 1, rfl, by omega, map_take_snoc _ hlt⟩, by omega⟩
        · have : i = b.length := by omega
          subst this
          simp [h0, h1, h5, h7]
          refine awpR_call _ (by simp) (by simpa using ref02Sorted (a ++ b) (by simpa using hl)) rfl ?_
          simp

/-- A name of its kind: at most so long, of such bytes. -/
def nameOf (p : Nat → Int → Bool) (s : Str) : Bool := decide (1 ≤ s.length ∧ s.length ≤ 24 ∧ ∀ j (h : j < s.length), p j (kind2 s[j]) = true)
def serviceAt (j : Nat) (k : Int) : Bool := !(k == 0 || j == 0 && decide (k > 3))
def serviceName (s : Str) : Bool := nameOf serviceAt s

theorem name_short {p : Nat → Int → Bool} {s : Str} (h : (s.length : Int) < 1) : nameOf p s = false := by
  simp only [nameOf, decide_eq_false_iff_not]; rintro ⟨h1, _⟩; omega
theorem name_long {p : Nat → Int → Bool} {s : Str} (h : (s.length : Int) > 24) : nameOf p s = false := by
  simp only [nameOf, decide_eq_false_iff_not]; rintro ⟨_, h1, _⟩; omega
theorem name_no {p : Nat → Int → Bool} {s : Str} {i : Nat} (hlt : i < s.length) (h : p i (kind2 s[i]) = false) : nameOf p s = false := by
  simp only [nameOf, decide_eq_false_iff_not]
  rintro ⟨_, _, h3⟩
  rw [h3 i hlt] at h; cases h
theorem name_step {p : Nat → Int → Bool} {s : Str} {i : Nat} (hj : ∀ j (h : j < s.length), j < i → p j (kind2 s[j]) = true) (hlt : i < s.length) (h : p i (kind2 s[i]) = true) :
    ∀ j (h : j < s.length), j < i + 1 → p j (kind2 s[j]) = true := fun j hjl hji => by
  rcases Nat.lt_succ_iff_lt_or_eq.1 hji with h' | rfl
  · exact hj j hjl h'
  · exact h
theorem name_yes {p : Nat → Int → Bool} {s : Str} (h1 : ¬ (s.length : Int) < 1) (h2 : ¬ (s.length : Int) > 24) (hj : ∀ j (h : j < s.length), j < s.length → p j (kind2 s[j]) = true) : nameOf p s = true := by
  simp only [nameOf, decide_eq_true_eq]; exact ⟨by omega, by omega, fun j h => hj j h h⟩

theorem ref02Service (s : Str) : Sound Tryz.prog 43 [.str s] (.bool (serviceName s)) := by
  refine sound43 rfl ?_
  by_cases h1 : (s.length : Int) < 1
  · simp [h1, serviceName, name_short h1]
  by_cases h2 : (s.length : Int) > 24
  · simp [h1, h2, serviceName, name_long h2]
  simp [h1, h2]
  refine run_loop (fun st => st.e 0 = .str s ∧ ∃ i : Nat, st.e 3 = .int .i64 i ∧ i ≤ s.length ∧ ∀ j (h : j < s.length), j < i → serviceAt j (kind2 s[j]) = true)
    (fun st => s.length - natOf (st.e 3)) ?_ ?_
  · simp; exact ⟨0, rfl, by omega, by simp⟩
  · rintro st ⟨g0, i, g3, hi, hj⟩
    by_cases hlt : i < s.length
    · have hw := wrap_succ (i := i) (by omega)
      simp [g0, g3, hlt]
      refine awpR_call (.int .i64 (kind2 s[i])) (by simp) (by simpa [g0, g3, hlt] using ref02Kind s[i]) rfl ?_
      by_cases k0 : kind2 s[i] = 0
      · simp [g0, g3, k0, serviceName, name_no (p := serviceAt) hlt (by simp [serviceAt, k0])]
      · by_cases i0 : i = 0
        · subst i0
          by_cases k3 : kind2 s[0] > 3
          · simp [g0, g3, k0, k3, serviceName, name_no (p := serviceAt) hlt (by simp [serviceAt, k3])]
          · simp [g0, g3, k0, k3]
            exact ⟨⟨1, rfl, by omega, name_step hj hlt (by simp [serviceAt, k0, k3])⟩, by omega⟩
        · simp [g0, g3, k0, i0]
          rw [hw]
          exact ⟨⟨i + 1, rfl, by omega, name_step hj hlt (by simp [serviceAt, k0, i0])⟩, by omega⟩
    · have : i = s.length := by omega
      subst this
      simp [g0, g3, serviceName, name_yes h1 h2 hj]

def variableAt (j : Nat) (k : Int) : Bool := !(k == 0 || decide (k > 4) || j == 0 && k == 3)
def variableName (s : Str) : Bool := nameOf variableAt s
theorem ref02Variable (s : Str) : Sound Tryz.prog 107 [.str s] (.bool (variableName s)) := by
  refine sound107 rfl ?_
  by_cases h1 : (s.length : Int) < 1
  · simp [h1, variableName, name_short h1]
  by_cases h2 : (s.length : Int) > 24
  · simp [h1, h2, variableName, name_long h2]
  simp [h1, h2]
  refine run_loop (fun st => st.e 0 = .str s ∧ ∃ i : Nat, st.e 3 = .int .i64 i ∧ i ≤ s.length ∧ ∀ j (h : j < s.length), j < i → variableAt j (kind2 s[j]) = true)
    (fun st => s.length - natOf (st.e 3)) ?_ ?_
  · simp; exact ⟨0, rfl, by omega, by simp⟩
  · rintro st ⟨g0, i, g3, hi, hj⟩
    by_cases hlt : i < s.length
    · have hw := wrap_succ (i := i) (by omega)
      simp [g0, g3, hlt]
      refine awpR_call (.int .i64 (kind2 s[i])) (by simp) (by simpa [g0, g3, hlt] using ref02Kind s[i]) rfl ?_
      by_cases k0 : kind2 s[i] = 0
      · simp [g0, g3, k0, variableName, name_no (p := variableAt) hlt (by simp [variableAt, k0])]
      by_cases k4 : kind2 s[i] > 4
      · simp [g0, g3, k0, k4, variableName, name_no (p := variableAt) hlt (by simp [variableAt, k4])]
      · by_cases i0 : i = 0
        · subst i0
          by_cases k3 : kind2 s[0] = 3
          · simp [g0, g3, k0, k3, k4, variableName, name_no (p := variableAt) hlt (by simp [variableAt, k3])]
          · simp [g0, g3, k0, k3, k4]
            exact ⟨⟨1, rfl, by omega, name_step hj hlt (by simp [variableAt, k0, k3, k4])⟩, by omega⟩
        · simp [g0, g3, k0, i0, k4]
          rw [hw]
          exact ⟨⟨i + 1, rfl, by omega, name_step hj hlt (by simp [variableAt, k0, i0, k4])⟩, by omega⟩
    · have : i = s.length := by omega
      subst this
      simp [g0, g3, variableName, name_yes h1 h2 hj]

def projectAt (j : Nat) (k : Int) : Bool := !(k == 0 || k == 2 || k == 6 || j == 0 && decide (k > 3))
def projectName (s : Str) : Bool := nameOf projectAt s
theorem ref02Project (s : Str) : Sound Tryz.prog 27 [.str s] (.bool (projectName s)) := by
  refine sound27 rfl ?_
  by_cases h1 : (s.length : Int) < 1
  · simp [h1, projectName, name_short h1]
  by_cases h2 : (s.length : Int) > 24
  · simp [h1, h2, projectName, name_long h2]
  simp [h1, h2]
  refine run_loop (fun st => st.e 0 = .str s ∧ ∃ i : Nat, st.e 3 = .int .i64 i ∧ i ≤ s.length ∧ ∀ j (h : j < s.length), j < i → projectAt j (kind2 s[j]) = true)
    (fun st => s.length - natOf (st.e 3)) ?_ ?_
  · simp; exact ⟨0, rfl, by omega, by simp⟩
  · rintro st ⟨g0, i, g3, hi, hj⟩
    by_cases hlt : i < s.length
    · have hw := wrap_succ (i := i) (by omega)
      simp [g0, g3, hlt]
      refine awpR_call (.int .i64 (kind2 s[i])) (by simp) (by simpa [g0, g3, hlt] using ref02Kind s[i]) rfl ?_
      by_cases k0 : kind2 s[i] = 0
      · simp [g0, g3, k0, projectName, name_no (p := projectAt) hlt (by simp [projectAt, k0])]
      by_cases k2 : kind2 s[i] = 2
      · simp [g0, g3, k0, k2, projectName, name_no (p := projectAt) hlt (by simp [projectAt, k2])]
      by_cases k6 : kind2 s[i] = 6
      · simp [g0, g3, k0, k2, k6, projectName, name_no (p := projectAt) hlt (by simp [projectAt, k6])]
      · by_cases i0 : i = 0
        · subst i0
          by_cases k3 : kind2 s[0] > 3
          · simp [g0, g3, k0, k2, k6, k3, projectName, name_no (p := projectAt) hlt (by simp [projectAt, k3])]
          · simp [g0, g3, k0, k2, k6, k3]
            exact ⟨⟨1, rfl, by omega, name_step hj hlt (by simp [projectAt, k0, k2, k6, k3])⟩, by omega⟩
        · simp [g0, g3, k0, k2, k6, i0]
          rw [hw]
          exact ⟨⟨i + 1, rfl, by omega, name_step hj hlt (by simp [projectAt, k0, k2, k6, i0])⟩, by omega⟩
    · have : i = s.length := by omega
      subst this
      simp [g0, g3, projectName, name_yes h1 h2 hj]

end Go.Proofs.YtccmaeefedgcnaaGreat

namespace Go.Proofs.YtccmaeefedgcnaaGreat

mutual
/-- longshoreref08.Left. -/
def left : Node → Int → Int → Int
  | ⟨kind, text, keys, kids⟩, deep, l =>
    if l - 1 < 0 ∨ 12 < deep ∨ kind < 0 ∨ 3 < kind then -1
    else if (kind ≠ 1 ∧ text ≠ []) ∨ (kind ≠ 3 ∧ keys ≠ []) ∨ (kind < 2 ∧ kids ≠ []) then -1
    else if kind = 3 ∧ (keys.length ≠ kids.length ∨ l - 1 < kids.length ∨ (sortU keys).length ≠ keys.length) then -1
    else lefts kids (deep + 1) (l - 1)
def lefts : List Node → Int → Int → Int
  | [], _, l => l
  | k :: ks, deep, l => if left k deep l < 0 then -1 else lefts ks deep (left k deep l)
end

theorem left_eq (n : Node) (deep l : Int) : left n deep l =
    if l - 1 < 0 ∨ 12 < deep ∨ n.kind < 0 ∨ 3 < n.kind then -1
    else if (n.kind ≠ 1 ∧ n.text ≠ []) ∨ (n.kind ≠ 3 ∧ n.keys ≠ []) ∨ (n.kind < 2 ∧ n.kids ≠ []) then -1
    else if n.kind = 3 ∧ (n.keys.length ≠ n.kids.length ∨ l - 1 < n.kids.length ∨ (sortU n.keys).length ≠ n.keys.length) then -1
    else lefts n.kids (deep + 1) (l - 1) := by cases n; rw [left]

mutual
theorem left_range : ∀ (n : Node) (deep l : Int), 0 ≤ l → -1 ≤ left n deep l ∧ left n deep l < l
  | ⟨kind, text, keys, kids⟩, deep, l, h => by
    rw [left]
    split
    · exact ⟨by omega, by omega⟩
    · split
      · exact ⟨by omega, by omega⟩
      · split
        · exact ⟨by omega, by omega⟩
        · rename_i h1 _ _
          have := lefts_range kids (deep + 1) (l - 1) (by omega)
          omega
theorem lefts_range : ∀ (ks : List Node) (deep l : Int), 0 ≤ l → -1 ≤ lefts ks deep l ∧ lefts ks deep l ≤ l
  | [], deep, l, h => by rw [lefts]; omega
  | k :: ks, deep, l, h => by
    rw [lefts]
    have h1 := left_range k deep l h
    split
    · omega
    · have := lefts_range ks deep (left k deep l) (by omega)
      omega
end

theorem lefts_drop {ks : List Node} {i : Nat} {deep l : Int} (h : i < ks.length) : lefts (ks.drop i) deep l = if left ks[i] deep l < 0 then -1 else lefts (ks.drop (i + 1)) deep (left ks[i] deep l) := by
  rw [List.drop_eq_getElem_cons h, lefts]

theorem len_zero_iff {α : Type} (l : List α) : (0 : Int) < l.length ↔ l ≠ [] := by cases l <;> simp <;> omega

theorem left_loop (n : Node) (h2 : n.kids.length ≤ 1073741824) (deep l : Int) (hd : 0 ≤ deep ∧ deep ≤ 12) (hl : 0 ≤ l ∧ l ≤ 1073741824)
    (ih : ∀ k ∈ n.kids, ∀ (deep l : Int), 0 ≤ deep ∧ deep ≤ 13 → 0 ≤ l ∧ l ≤ 1073741824 → Sound Tryz.prog 23 [nodeAV k, .int .i64 deep, .int .i64 l] (.int .i64 (left k deep l)))
    (s : St) (g3 : s.e 3 = nodeAV n) (g1 : s.e 1 = .int .i64 deep) (g2 : s.e 2 = .int .i64 l) (g7 : s.e 7 = .int .i64 0) :
    awp Tryz.prog c23s27 (unw Tryz.prog [.blk 0, .code c23s30] (Ends [.tmp 6] (.int .i64 (lefts n.kids (deep + 1) l)))) s := by
  have hw2 : IntKind.i64.wrap (deep + 1) = deep + 1 := wrap_int (by omega) (by omega)
  refine run_loop (fun st => st.e 3 = nodeAV n ∧ st.e 1 = .int .i64 deep ∧ ∃ i : Nat, ∃ m : Int, st.e 7 = .int .i64 i ∧ st.e 2 = .int .i64 m ∧ i ≤ n.kids.length ∧ 0 ≤ m ∧ m ≤ 1073741824 ∧ lefts (n.kids.drop i) (deep + 1) m = lefts n.kids (deep + 1) l)
    (fun st => n.kids.length - natOf (st.e 7)) ?_ ?_
  · exact ⟨g3, g1, 0, l, g7, g2, by omega, hl.1, hl.2, rfl⟩
  · rintro st ⟨g3, g1, i, m, g7, g2, hi, hm1, hm2, hm⟩
    by_cases hlt : i < n.kids.length
    · have hw := wrap_succ (i := i) (by omega)
      simp [g3, g1, g2, g7, hlt]
      refine awpR_call (.int .i64 (left n.kids[i] (deep + 1) m)) (by simp [g1, g2, hw2]) (by simpa [g1, g2, g3, g7, hlt, hw2] using ih n.kids[i] (List.getElem_mem _) (deep + 1) m (by omega) ⟨hm1, hm2⟩) rfl ?_
      have hr := left_range n.kids[i] (deep + 1) m hm1
      rw [lefts_drop hlt] at hm
      by_cases hneg : left n.kids[i] (deep + 1) m < 0
      · rw [if_pos hneg] at hm
        simp [g3, g1, g7, hneg, hm]
      · rw [if_neg hneg] at hm
        simp [g3, g1, g7, hneg]
        rw [hw]
        exact ⟨⟨i + 1, rfl, by omega, by omega, by omega, hm⟩, by omega⟩
    · have : i = n.kids.length := by omega
      subst this
      rw [List.drop_length, lefts] at hm
      simp [g3, g1, g7, g2, hm]

set_option maxRecDepth 8192 in
set_option maxHeartbeats 4000000 in
theorem ref08Left (n : Node) (hs : n.Short) (deep l : Int) (hd : 0 ≤ deep ∧ deep ≤ 13) (hl : 0 ≤ l ∧ l ≤ 1073741824) :
    Sound Tryz.prog 23 [nodeAV n, .int .i64 deep, .int .i64 l] (.int .i64 (left n deep l)) := by
  induction hs generalizing deep l with
  | @mk n h1 h2 h3 h4 h5 ih =>
    refine sound23 rfl ?_
    have hw : IntKind.i64.wrap (l - 1) = l - 1 := wrap_int (by omega) (by omega)
    rw [left_eq]
    by_cases c1 : l - 1 < 0
    · rw [if_pos (.inl c1)]
      simp [hw, c1]
    by_cases c2 : 12 < deep
    · rw [if_pos (.inr (.inl c2))]
      simp [hw, c1, c2]
    by_cases c3 : n.kind < 0
    · rw [if_pos (.inr (.inr (.inl c3)))]
      simp [hw, c1, c2, c3]
    by_cases c4 : 3 < n.kind
    · rw [if_pos (.inr (.inr (.inr c4)))]
      simp [hw, c1, c2, c3, c4]
    rw [if_neg (by simp only [c1, c2, c3, c4, or_self, not_false_eq_true])]
    have hloop := left_loop n h2 deep (l - 1) (by omega) (by omega) ih
    have hk : n.kind = 0 ∨ n.kind = 1 ∨ n.kind = 2 ∨ n.kind = 3 := by omega
    rcases hk with hk | hk | hk | hk
    · -- kind 0
      by_cases t1 : n.text = []
      rotate_left
      · have hp : 0 < n.text.length := List.length_pos_iff.2 t1
        rw [if_pos (by simp [hk, t1])]
        simp [hw, c1, c2, hk, t1, hp]
      by_cases t2 : n.keys = []
      rotate_left
      · have hp : 0 < n.keys.length := List.length_pos_iff.2 t2
        rw [if_pos (by simp [hk, t2])]
        simp [hw, c1, c2, hk, t1, t2, hp]
      by_cases t3 : n.kids = []
      rotate_left
      · have hp : 0 < n.kids.length := List.length_pos_iff.2 t3
        rw [if_pos (by simp [hk, t3])]
        simp [hw, c1, c2, hk, t1, t2, t3, hp]
      rw [if_neg (by simp [hk, t1, t2, t3]), if_neg (by simp [hk])]
      simp [hw, c1, c2, hk, t1, t2, t3]
      refine awpR_ggcall (.bool true) (by simp) (by simp) (by simp) rfl ?_
      simp
      rw [t3] at hloop
      refine hloop _ ?_ ?_ ?_ ?_ <;> simp [hw]
    · -- kind 1
      by_cases t2 : n.keys = []
      rotate_left
      · have hp : 0 < n.keys.length := List.length_pos_iff.2 t2
        rw [if_pos (by simp [hk, t2])]
        simp [hw, c1, c2, hk, t2, hp]
      by_cases t3 : n.kids = []
      rotate_left
      · have hp : 0 < n.kids.length := List.length_pos_iff.2 t3
        rw [if_pos (by simp [hk, t3])]
        simp [hw, c1, c2, hk, t2, t3, hp]
      rw [if_neg (by simp [hk, t2, t3]), if_neg (by simp [hk])]
      simp [hw, c1, c2, hk, t2, t3]
      refine awpR_ggcall (.bool true) (by simp) (by simp) (by simp) rfl ?_
      simp
      rw [t3] at hloop
      refine hloop _ ?_ ?_ ?_ ?_ <;> simp [hw]
    · -- kind 2
      by_cases t1 : n.text = []
      rotate_left
      · have hp : 0 < n.text.length := List.length_pos_iff.2 t1
        rw [if_pos (by simp [hk, t1])]
        simp [hw, c1, c2, hk, t1, hp]
      by_cases t2 : n.keys = []
      rotate_left
      · have hp : 0 < n.keys.length := List.length_pos_iff.2 t2
        rw [if_pos (by simp [hk, t2])]
        simp [hw, c1, c2, hk, t1, t2, hp]
      rw [if_neg (by simp [hk, t1, t2]), if_neg (by simp [hk])]
      simp [hw, c1, c2, hk, t1, t2]
      refine awpR_ggcall (.bool true) (by simp) (by simp) (by simp) rfl ?_
      simp
      refine hloop _ ?_ ?_ ?_ ?_ <;> simp [hw]
    · -- kind 3
      by_cases t1 : n.text = []
      rotate_left
      · have hp : 0 < n.text.length := List.length_pos_iff.2 t1
        rw [if_pos (by simp [hk, t1])]
        simp [hw, c1, c2, hk, t1, hp]
      rw [if_neg (by simp [hk, t1])]
      by_cases q1 : (n.keys.length : Int) = n.kids.length
      rotate_left
      · rw [if_pos ⟨hk, .inl (by omega)⟩]
        simp [hw, c1, c2, hk, t1, q1]
        refine awpR_ggcall (.bool true) (by simp) (by simp) (by simp) rfl ?_
        simp
      by_cases q2 : l - 1 < (n.kids.length : Int)
      · rw [if_pos ⟨hk, .inr (.inl q2)⟩]
        simp [hw, c1, c2, hk, t1, q1, q2]
        refine awpR_ggcall (.bool true) (by simp) (by simp) (by simp) rfl ?_
        simp
      have hsl := sortU_len_le n.keys
      by_cases q3 : ((sortU n.keys).length : Int) = n.keys.length
      · rw [if_neg (by simp only [hk, true_and, not_or]; omega)]
        simp [hw, c1, c2, hk, t1, q1, q2]
        refine awpR_ggcall (.slice 1 ((sortU n.keys).map .str)) (by simp) (by simp) (fun _ => by simpa using ref02Sorted n.keys h1) rfl ?_
        simp [q1, q3]
        refine hloop _ ?_ ?_ ?_ ?_ <;> simp [hw]
      · rw [if_pos ⟨hk, .inr (.inr (by omega))⟩]
        have q4 : ¬ ((sortU n.keys).length : Int) = n.kids.length := by omega
        simp [hw, c1, c2, hk, t1, q1, q2]
        refine awpR_ggcall (.slice 1 ((sortU n.keys).map .str)) (by simp) (by simp) (fun _ => by simpa using ref02Sorted n.keys h1) rfl ?_
        simp [q1, q3, q4]

end Go.Proofs.YtccmaeefedgcnaaGreat

namespace Go.Proofs.YtccmaeefedgcnaaGreat

/-- A map's keys and values, pair by pair; a map of such pairs. -/
abbrev Node.pairs (n : Node) : List (Str × Node) := n.keys.zip n.kids
abbrev ofPairs (l : List (Str × Node)) : Node := ⟨3, [], l.map (·.1), l.map (·.2)⟩
abbrev keyAV (x : Str × Node) : AV := .str x.1
abbrev kidAV (x : Str × Node) : AV := nodeAV x.2
theorem pairs_get {n : Node} {i : Nat} (h1 : i < n.keys.length) (h2 : i < n.kids.length) : ∃ h : i < n.pairs.length, n.pairs[i] = (n.keys[i], n.kids[i]) := by
  have h : i < n.pairs.length := by simp [Node.pairs]; omega
  exact ⟨h, by simp [Node.pairs]⟩
theorem ofPairs_AV (l : List (Str × Node)) : nodeAV (ofPairs l) = .agg [.int .i64 3, .str [], .slice 1 (l.map keyAV), .slice 4 (l.map kidAV)] := by
  rw [nodeAV_eq]; simp [ofPairs]

/-- longshoreref08.Less. -/
def Node.less (n : Node) (key : Str) : Node := if n.kind ≠ 3 then n else ofPairs (n.pairs.filter fun x => decide (x.1 ≠ key))

def Node.lessTo (n : Node) (key : Str) (i : Nat) : List (Str × Node) := (n.pairs.take i).filter fun x => decide (x.1 ≠ key)
theorem lessTo_len (n : Node) (key : Str) (i : Nat) : (n.lessTo key i).length ≤ i := Nat.le_trans (List.length_filter_le _ _) (by simp; omega)
theorem lessTo_succ {n : Node} (key : Str) {i : Nat} (h1 : i < n.keys.length) (h2 : i < n.kids.length) : n.lessTo key (i + 1) = if n.keys[i] = key then n.lessTo key i else n.lessTo key i ++ [(n.keys[i], n.kids[i])] := by
  obtain ⟨hpi, hp⟩ := pairs_get h1 h2
  simp only [Node.lessTo]
  rw [← take_snoc hpi, List.filter_append, hp]
  split <;> simp_all

theorem ref08Less (n : Node) (key : Str) (h1 : n.keys.length ≤ 1073741824) (hn : n.kind = 3 → n.keys.length ≤ n.kids.length) : Sound Tryz.prog 20 [nodeAV n, .str key] (nodeAV (n.less key)) := by
  refine sound20 rfl ?_
  by_cases hk : n.kind = 3
  rotate_left
  · have hl : n.less key = n := by simp [Node.less, hk]
    rw [hl]
    simp [hk]
  have hn := hn hk
  simp [hk]
  refine run_loop (fun st => st.e 2 = nodeAV n ∧ st.e 1 = .str key ∧ st.e 4 = (.agg [.int .i64 0, .str [], .oslice 1 [], .oslice 4 []]) ∧ ∃ i : Nat, st.e 6 = .int .i64 i ∧ i ≤ n.keys.length ∧
      st.e 5 = .agg [.int .i64 3, .str [], .oslice 1 ((n.lessTo key i).map keyAV), .oslice 4 ((n.lessTo key i).map kidAV)])
    (fun st => n.keys.length - natOf (st.e 6)) ?_ ?_
  · simp
    exact ⟨0, rfl, by omega, by simp [Node.lessTo]⟩
  · rintro st ⟨g2, g1, g4, i, g6, hi, g5⟩
    by_cases hlt : i < n.keys.length
    · have hw := wrap_succ (i := i) (by omega)
      have hlt2 : i < n.kids.length := by omega
      have hlen := lessTo_len n key i
      have hs := lessTo_succ key hlt hlt2
      by_cases he : n.keys[i] = key
      · rw [if_pos he] at hs
        simp [g2, g1, g4, g5, g6, hlt, hlt2, he]
        rw [hw]
        exact ⟨⟨i + 1, rfl, by omega, by rw [hs], by rw [hs]⟩, by omega⟩
      · rw [if_neg he] at hs
        simp [g2, g1, g4, g5, g6, hlt, hlt2, he]
        rw [hw]
        exact ⟨by omega, by omega, ⟨i + 1, rfl, by omega, by rw [hs]; simp, by rw [hs]; simp⟩, by omega⟩
    · have : i = n.keys.length := by omega
      subst this
      have hl2 : n.less key = ofPairs (n.lessTo key n.keys.length) := by
        simp only [Node.less, hk]
        rw [if_neg (by simp), Node.lessTo, List.take_of_length_le (by simp; omega)]
      rw [hl2, ofPairs_AV]
      simp [g2, g4, g5, g6]

/-- longshoreref08.With, of a map (or nothing). -/
def Node.with (n : Node) (key : Str) (v : Node) : Node := if n.kind ≠ 0 ∧ n.kind ≠ 3 then n else
  ofPairs (n.pairs.map (fun x => (x.1, if x.1 = key then v else x.2)) ++ if key ∈ n.keys then [] else [(key, v)])

def Node.withTo (n : Node) (key : Str) (v : Node) (i : Nat) : List (Str × Node) := (n.pairs.take i).map (fun x => (x.1, if x.1 = key then v else x.2))
theorem withTo_succ {n : Node} (key : Str) (v : Node) {i : Nat} (h1 : i < n.keys.length) (h2 : i < n.kids.length) : n.withTo key v (i + 1) = n.withTo key v i ++ [(n.keys[i], if n.keys[i] = key then v else n.kids[i])] := by
  obtain ⟨hpi, hp⟩ := pairs_get h1 h2
  simp only [Node.withTo]
  rw [← take_snoc hpi, List.map_append, hp]; rfl
theorem withTo_len {n : Node} (key : Str) (v : Node) (i : Nat) : (n.withTo key v i).length ≤ i := by simp [Node.withTo]; omega

theorem with_loop (n : Node) (key : Str) (v : Node) (h1 : n.keys.length ≤ 1073741824) (hk : n.kind = 0 ∨ n.kind = 3) (hn : n.keys.length ≤ n.kids.length)
    (s : St) (g3 : s.e 3 = nodeAV n) (g1 : s.e 1 = .str key) (g5 : s.e 5 = nodeAV v) (g6 : s.e 6 = .agg [.int .i64 0, .str [], .oslice 1 [], .oslice 4 []]) (g7 : s.e 7 = .agg [.int .i64 3, .str [], .oslice 1 [], .oslice 4 []]) (g8 : s.e 8 = .bool false) (g9 : s.e 9 = .int .i64 0) :
    awp Tryz.prog c29s22 (unw Tryz.prog [.blk 0, .code c29s31] (Ends [.cell 6 (some 4)] (nodeAV (n.with key v)))) s := by
  refine run_loop (fun st => st.e 3 = nodeAV n ∧ st.e 1 = .str key ∧ st.e 5 = nodeAV v ∧ st.e 6 = (.agg [.int .i64 0, .str [], .oslice 1 [], .oslice 4 []]) ∧ ∃ i : Nat, st.e 9 = .int .i64 i ∧ i ≤ n.keys.length ∧
      st.e 8 = .bool (decide (key ∈ n.keys.take i)) ∧
      st.e 7 = .agg [.int .i64 3, .str [], .oslice 1 ((n.withTo key v i).map keyAV), .oslice 4 ((n.withTo key v i).map kidAV)])
    (fun st => n.keys.length - natOf (st.e 9)) ?_ ?_
  · exact ⟨g3, g1, g5, g6, 0, g9, by omega, by simpa using g8, by simpa [Node.withTo] using g7⟩
  · rintro st ⟨g3, g1, g5, g6, i, g9, hi, g8, g7⟩
    by_cases hlt : i < n.keys.length
    · have hw := wrap_succ (i := i) (by omega)
      have hlt2 : i < n.kids.length := by omega
      have hlen := withTo_len (n := n) key v i
      have hs := withTo_succ key v hlt hlt2
      have htk := take_snoc hlt
      by_cases he : n.keys[i] = key
      · rw [if_pos he] at hs
        simp [g3, g1, g5, g6, g7, g8, g9, hlt, hlt2, he]
        rw [hw]
        refine ⟨by omega, by omega, ⟨i + 1, rfl, by omega, ?_, by rw [hs]; simp [he], by rw [hs]; simp⟩, by omega⟩
        rw [← htk]; simp [he]
      · rw [if_neg he] at hs
        simp [g3, g1, g5, g6, g7, g8, g9, hlt, hlt2, he]
        rw [hw]
        refine ⟨by omega, by omega, ⟨i + 1, rfl, by omega, ?_, by rw [hs]; simp, by rw [hs]; simp⟩, by omega⟩
        have he' : ¬ key = n.keys[i] := fun e => he e.symm
        rw [← htk, List.mem_append]; simp [he']
    · have : i = n.keys.length := by omega
      subst this
      have hl2 : n.with key v = ofPairs (n.withTo key v n.keys.length ++ if key ∈ n.keys then [] else [(key, v)]) := by
        simp only [Node.with]
        rw [if_neg (by omega), Node.withTo, List.take_of_length_le (by simp; omega)]
      have hlen := withTo_len (n := n) key v n.keys.length
      rw [hl2, ofPairs_AV]
      rw [List.take_length] at g8
      by_cases hm : key ∈ n.keys
      · simp [g3, g1, g5, g6, g7, g8, g9, hm]
      · simp [g3, g1, g5, g6, g7, g8, g9, hm]
        omega

set_option maxRecDepth 8192 in
theorem ref08With (n : Node) (key : Str) (v : Node) (h1 : n.keys.length ≤ 1073741824) (hn : n.kind = 0 ∨ n.kind = 3 → n.keys.length ≤ n.kids.length) : Sound Tryz.prog 29 [nodeAV n, .str key, nodeAV v] (nodeAV (n.with key v)) := by
  refine sound29 rfl ?_
  by_cases hk : n.kind = 0 ∨ n.kind = 3
  rotate_left
  · have hl : n.with key v = n := by simp only [Node.with]; rw [if_pos (by omega)]
    rw [hl]
    have k0 : ¬ n.kind = 0 := by omega
    have k3 : ¬ n.kind = 3 := by omega
    simp [k0, k3]
  have hstart := with_loop n key v h1 hk (hn hk)
  rcases hk with hk | hk
  · simp [hk]
    apply hstart <;> simp
  · simp [hk]
    apply hstart <;> simp

end Go.Proofs.YtccmaeefedgcnaaGreat

namespace Go.Proofs.YtccmaeefedgcnaaGreat

mutual
/-- longshoreref08.short. -/
def short : Node → Bool
  | ⟨_, text, keys, kids⟩ => decide (text.length ≤ 200) && keys.all (fun k => decide (k.length ≤ 200)) && shorts kids
def shorts : List Node → Bool
  | [] => true
  | k :: ks => short k && shorts ks
end
theorem short_eq (n : Node) : short n = (decide (n.text.length ≤ 200) && n.keys.all (fun k => decide (k.length ≤ 200)) && shorts n.kids) := by cases n; rw [short]
theorem shorts_all (ks : List Node) : shorts ks = ks.all short := by
  induction ks with
  | nil => rw [shorts]; rfl
  | cons k ks ih => rw [shorts, ih]; rfl

theorem short_loop (n : Node) (h2 : n.kids.length ≤ 1073741824) (ht : n.text.length ≤ 200) (hk : n.keys.all (fun k => decide (k.length ≤ 200)) = true)
    (ih : ∀ k ∈ n.kids, Sound Tryz.prog 24 [nodeAV k] (.bool (short k)))
    (s : St) (g1 : s.e 1 = nodeAV n) (g4 : s.e 4 = .int .i64 0) :
    awp Tryz.prog c24s29 (unw Tryz.prog [.blk 2, .code c24s32] (Ends [.tmp 2] (.bool (short n)))) s := by
  refine run_loop (fun st => st.e 1 = nodeAV n ∧ ∃ i : Nat, st.e 4 = .int .i64 i ∧ i ≤ n.kids.length ∧ ∀ j (h : j < n.kids.length), j < i → short n.kids[j] = true)
    (fun st => n.kids.length - natOf (st.e 4)) ?_ ?_
  · exact ⟨g1, 0, g4, by omega, by simp⟩
  · rintro st ⟨g1, i, g4, hi, hj⟩
    by_cases hlt : i < n.kids.length
    · have hw := wrap_succ (i := i) (by omega)
      simp [g1, g4, hlt]
      refine awpR_call (.bool (short n.kids[i])) (by simp) (by simpa [g1, g4, hlt] using ih n.kids[i] (List.getElem_mem _)) rfl ?_
      by_cases hc : short n.kids[i] = true
      · simp [g1, g4, hc]
        rw [hw]
        refine ⟨⟨i + 1, rfl, by omega, fun j hj1 hj2 => ?_⟩, by omega⟩
        rcases Nat.lt_succ_iff_lt_or_eq.1 hj2 with h | rfl
        · exact hj j hj1 h
        · exact hc
      · have hc : short n.kids[i] = false := by simpa using hc
        have : short n = false := by
          have : shorts n.kids = false := by
            rw [shorts_all, List.all_eq_false]; exact ⟨_, List.getElem_mem hlt, by simp [hc]⟩
          rw [short_eq, this, Bool.and_false]
        simp [g1, g4, hc, this]
    · have : i = n.kids.length := by omega
      subst this
      have : short n = true := by
        rw [short_eq, hk, shorts_all]
        simp only [Bool.and_true, Bool.and_eq_true, decide_eq_true_eq, List.all_eq_true]
        refine ⟨ht, fun x hx => ?_⟩
        obtain ⟨j, hj1, rfl⟩ := List.mem_iff_getElem.1 hx
        exact hj j hj1 hj1
      simp [g1, g4, this]

theorem ref08short (n : Node) (hs : n.Short) : Sound Tryz.prog 24 [nodeAV n] (.bool (short n)) := by
  induction hs with
  | @mk n h1 h2 h3 h4 h5 ih =>
    refine sound24 rfl ?_
    by_cases ht : (200 : Int) < n.text.length
    · have : short n = false := by
        rw [short_eq]
        have : decide (n.text.length ≤ 200) = false := by simp; omega
        rw [this]; rfl
      simp [ht, this]
    simp [ht]
    refine run_loop (fun st => st.e 1 = nodeAV n ∧ ∃ i : Nat, st.e 3 = .int .i64 i ∧ i ≤ n.keys.length ∧ ∀ j (h : j < n.keys.length), j < i → n.keys[j].length ≤ 200)
      (fun st => n.keys.length - natOf (st.e 3)) ?_ ?_
    · simp; exact ⟨0, rfl, by omega, by simp⟩
    · rintro st ⟨g1, i, g3, hi, hj⟩
      by_cases hlt : i < n.keys.length
      · have hw := wrap_succ (i := i) (by omega)
        by_cases hc : (200 : Int) < n.keys[i].length
        · have : short n = false := by
            have : n.keys.all (fun k => decide (k.length ≤ 200)) = false := by
              rw [List.all_eq_false]; exact ⟨_, List.getElem_mem hlt, by simp; omega⟩
            rw [short_eq, this, Bool.and_false]; rfl
          simp [g1, g3, hlt, hc, this]
        · simp [g1, g3, hlt, hc]
          rw [hw]
          refine ⟨⟨i + 1, rfl, by omega, fun j hj1 hj2 => ?_⟩, by omega⟩
          rcases Nat.lt_succ_iff_lt_or_eq.1 hj2 with h | rfl
          · exact hj j hj1 h
          · omega
      · have : i = n.keys.length := by omega
        subst this
        have hk : n.keys.all (fun k => decide (k.length ≤ 200)) = true := by
          rw [List.all_eq_true]
          intro x hx
          obtain ⟨j, hj1, rfl⟩ := List.mem_iff_getElem.1 hx
          simpa using hj j hj1 hj1
        simp [g1, g3]
        exact short_loop n h2 (by omega) hk ih _ (by simp [g1]) (by simp)

theorem ref08Right (n : Node) (hs : n.Short) : Sound Tryz.prog 31 [nodeAV n] (.bool (decide (0 ≤ left n 1 2000))) := by
  refine sound31 rfl ?_
  simp
  refine awpR_call _ (by simp) (by simpa using ref08Left n hs 1 2000 (by omega) (by omega)) rfl ?_
  simp

theorem ref08Small (n : Node) (hs : n.Short) (m : Int) (hm : 0 ≤ m ∧ m ≤ 1073741824) : Sound Tryz.prog 11 [nodeAV n, .int .i64 m] (.bool (decide (0 ≤ left n 1 m) && short n)) := by
  refine sound11 rfl ?_
  simp
  refine awpR_call _ (by simp) (by simpa using ref08Left n hs 1 m (by omega) hm) rfl ?_
  simp
  refine awpR_ggcall (.bool (short n)) (by simp) (by simp) (fun _ => by simpa using ref08short n hs) rfl ?_
  by_cases h : 0 ≤ left n 1 m <;> simp [h]

end Go.Proofs.YtccmaeefedgcnaaGreat

namespace Go.Proofs.YtccmaeefedgcnaaGreat

/-- Every key has a value, at all depths. -/
inductive Node.Fit : Node → Prop
  | mk {n : Node} (h : n.kind = 3 ∨ n.kind = 0 → n.keys.length ≤ n.kids.length) (h3 : ∀ k ∈ n.kids, Node.Fit k) : Node.Fit n
theorem Node.Fit.keys {n : Node} (h : n.Fit) : n.kind = 3 ∨ n.kind = 0 → n.keys.length ≤ n.kids.length := by cases h; assumption
theorem Node.Fit.kid {n : Node} (h : n.Fit) {k : Node} (hk : k ∈ n.kids) : k.Fit := by cases h with | mk _ h3 => exact h3 k hk

mutual
/-- longshoreref08.Sorted. -/
def Node.sorted : Node → Node
  | ⟨kind, text, keys, kids⟩ => if kind = 3 then ⟨3, text, sortU keys, (sortU keys).map fun k => ((keys.idxOf? k).bind fun i => (sorteds kids)[i]?).getD zeroN⟩ else ⟨kind, text, [], sorteds kids⟩
def sorteds : List Node → List Node
  | [] => []
  | k :: ks => k.sorted :: sorteds ks
end
theorem sorteds_map (ks : List Node) : sorteds ks = ks.map Node.sorted := by
  induction ks with
  | nil => rw [sorteds]; rfl
  | cons k ks ih => rw [sorteds, ih]; rfl
theorem sorted_eq (n : Node) : n.sorted = if n.kind = 3 then ⟨3, n.text, sortU n.keys, (sortU n.keys).map fun k => ((n.get k).map Node.sorted).getD zeroN⟩ else ⟨n.kind, n.text, [], n.kids.map Node.sorted⟩ := by
  cases n with
  | mk kind text keys kids =>
    rw [Node.sorted, sorteds_map]
    by_cases hk : kind = 3
    · subst hk
      simp only [if_true, Node.get, Node.mk.injEq, true_and]
      apply List.map_congr_left
      intro k _
      cases keys.idxOf? k with
      | none => rfl
      | some i => simp
    · simp [hk]

theorem get_some {n : Node} {key : Str} (hk : n.kind = 3) (hn : n.keys.length ≤ n.kids.length) (hm : key ∈ n.keys) : ∃ v, n.get key = some v ∧ v ∈ n.kids := by
  cases hi : n.keys.idxOf? key with
  | none => rw [List.idxOf?_eq_none_iff] at hi; exact absurd hm hi
  | some i =>
    have hlt : i < n.keys.length := by
      rw [List.idxOf?_eq_some_iff] at hi; exact hi.1
    refine ⟨n.kids[i]'(by omega), by simp [Node.get, hk, hi], List.getElem_mem _⟩

theorem ref08Sorted (n : Node) (hf : n.Fit) (hs : n.Short) : Sound Tryz.prog 30 [nodeAV n] (nodeAV n.sorted) := by
  induction hf with
  | @mk n hfit h3 ih =>
    refine sound30 rfl ?_
    by_cases hk : n.kind = 3
    · have hn := hfit (.inl hk)
      have hkeys := hs.keys
      have hsl := sortU_len_le n.keys
      simp [hk]
      refine awpR_call _ (by simp) (by simpa using ref02Sorted n.keys hs.keys) rfl ?_
      simp
      refine run_loop (fun st => st.e 1 = nodeAV n ∧ st.e 4 = .slice 1 ((sortU n.keys).map .str) ∧ st.e 2 = (.agg [.int .i64 0, .str [], .oslice 1 [], .oslice 4 []]) ∧ ∃ i : Nat, st.e 5 = .int .i64 i ∧ i ≤ (sortU n.keys).length ∧
          st.e 3 = .agg [.int .i64 3, .str n.text, .oslice 1 (((sortU n.keys).map .str).take i), .oslice 4 (((sortU n.keys).map fun k => nodeAV (((n.get k).map Node.sorted).getD zeroN)).take i)])
        (fun st => (sortU n.keys).length - natOf (st.e 5)) ?_ ?_
      · simp
        exact ⟨0, rfl, by omega, by simp⟩
      · rintro st ⟨g1, g4, g2, i, g5, hi, g3⟩
        by_cases hlt : i < (sortU n.keys).length
        · have hw := wrap_succ (i := i) (by omega)
          have hm : (sortU n.keys)[i] ∈ n.keys := mem_sortU.1 (List.getElem_mem _)
          obtain ⟨v, hv, hvm⟩ := get_some hk hn hm
          simp [g1, g4, g5, hlt]
          refine awpR_call (getAV (n.get (sortU n.keys)[i])) (by simp [g1, g4]) (by simpa [g1, g4, g5, hlt] using ref08Get n (sortU n.keys)[i] (fun _ => hn) (by omega)) (by rw [hv]; rfl) ?_
          have hi1 : min i (sortU n.keys).length = i := by omega
          simp [hv, getAV, g1, g2, g3, g4, g5, hlt, hi1]
          refine ⟨by omega, ?_⟩
          refine awpR_call (nodeAV v.sorted) (by simp) (by simpa using ih v hvm (hs.kid hvm)) (by simp) ?_
          simp [g1, g2, g3, g4, g5, hlt, hi1]
          rw [hw]
          refine ⟨by omega, ⟨i + 1, rfl, by omega, ?_, ?_⟩, by omega⟩
          · exact map_take_snoc _ hlt
          · have := map_take_snoc (fun k => nodeAV (((n.get k).map Node.sorted).getD zeroN)) hlt
            simpa [hv] using this
        · have : i = (sortU n.keys).length := by omega
          subst this
          have e1 : ((sortU n.keys).map AV.str).take (sortU n.keys).length = (sortU n.keys).map AV.str := List.take_of_length_le (by simp)
          have e2 : ((sortU n.keys).map fun k => nodeAV (((n.get k).map Node.sorted).getD zeroN)).take (sortU n.keys).length = (sortU n.keys).map fun k => nodeAV (((n.get k).map Node.sorted).getD zeroN) := List.take_of_length_le (by simp)
          rw [e1, e2] at g3
          rw [sorted_eq, if_pos hk]
          simp [g2, g3, g4, g5]
          rw [nodeAV_eq]; simp only [List.map_map, Function.comp_def]
    · have hkids := hs.kids
      simp [hk]
      refine run_loop (fun st => st.e 1 = nodeAV n ∧ st.e 2 = (.agg [.int .i64 0, .str [], .oslice 1 [], .oslice 4 []]) ∧ ∃ i : Nat, st.e 8 = .int .i64 i ∧ i ≤ n.kids.length ∧
          st.e 3 = .agg [.int .i64 n.kind, .str n.text, .oslice 1 [], .oslice 4 ((n.kids.map fun k => nodeAV k.sorted).take i)])
        (fun st => n.kids.length - natOf (st.e 8)) ?_ ?_
      · simp
        exact ⟨0, rfl, by omega, by simp⟩
      · rintro st ⟨g1, g2, i, g8, hi, g3⟩
        by_cases hlt : i < n.kids.length
        · have hw := wrap_succ (i := i) (by omega)
          have hi1 : min i n.kids.length = i := by omega
          simp [g1, g2, g3, g8, hlt, hi1]
          refine awpR_call (nodeAV (n.kids[i]).sorted) (by simp) (by simpa [g1, g8, hlt] using ih n.kids[i] (List.getElem_mem _) (hs.kid (List.getElem_mem _))) (by simp) ?_
          simp [g1, g2, g3, g8, hlt, hi1]
          rw [hw]
          refine ⟨by omega, ⟨i + 1, rfl, by omega, ?_⟩, by omega⟩
          exact map_take_snoc _ hlt
        · have : i = n.kids.length := by omega
          subst this
          have e2 : (n.kids.map fun k => nodeAV k.sorted).take n.kids.length = n.kids.map fun k => nodeAV k.sorted := List.take_of_length_le (by simp)
          rw [e2] at g3
          rw [sorted_eq, if_neg hk]
          simp [g1, g2, g3, g8]
          rw [nodeAV_eq]; simp only [List.map_map, Function.comp_def, List.map_nil]

end Go.Proofs.YtccmaeefedgcnaaGreat
