/-
  HOW ARGUMENTS READ: what the given form reads of strings, nodes and named nodes is what the layer's relation asks.
  HOW ARGUMENTS READ: texts, nodes, named nodes of this program.
-/
import Derived.Test.YtccmaeefedgcnaaGreatPart22
import Derived.Test.YtccmaeefedgcnaaGreatRows
import Derived.ChangeArms
import Derived.DataReads
import Derived.ChangeShapes
import Derived.KernelRfl
set_option linter.all false

namespace Go.Proofs.YtccmaeefedgcnaaGreat
open Go.ChangeShapes Go.WideShapes

/-- What the cells of a world hold. -/
def memOf (w : World) : Mem := fun b o => w.cell? ⟨b, o, none⟩

theorem bulk_part {H : Type} {d : DataW H} {l : List (DataW H)} (h : d ∈ l) : Rows.uptoBulk d ≤ Rows.uptoBulkAll l := by
  induction l with
  | nil => cases h
  | cons x r ih =>
    simp only [Rows.uptoBulkAll]
    cases List.mem_cons.1 h with
    | inl e => subst e; omega
    | inr e => have := ih e; omega
theorem bulk_pos {H : Type} (d : DataW H) : 1 ≤ Rows.uptoBulk d := by
  cases d with
  | lit l => cases l <;> simp [Rows.uptoBulk]
  | _ => simp [Rows.uptoBulk]
theorem bulk_len {H : Type} (l : List (DataW H)) : l.length ≤ Rows.uptoBulkAll l := by
  induction l with
  | nil => simp [Rows.uptoBulkAll]
  | cons x r ih => have := bulk_pos x; simp only [Rows.uptoBulkAll, List.length_cons]; omega

theorem Rmem_of {M : Mem} : ∀ {cs : List AV} {vs : List Value} {b o : Nat}, Rs M cs vs → (∀ u ∈ vs, flat u = true) → (∀ i u, vs[i]? = some u → M b (o + i) = some u) → Rmem M cs b o
  | [], vs, b, o, _, _, _ => by simp [Rmem]
  | c :: cs, vs, b, o, h, hf, hm => by
    simp only [Rs] at h
    obtain ⟨u, us, rfl, h1, h2⟩ := h
    simp only [Rmem]
    refine ⟨⟨u, hm 0 u rfl, hf u (by simp), h1⟩, Rmem_of h2 (fun x hx => hf x (by simp [hx])) fun i x hx => ?_⟩
    have := hm (i + 1) x (by simpa using hx)
    rw [← this]; congr 1; omega
theorem Rrow_of_index {M : Mem} {z b : Nat} : ∀ {es : List AV} {off : Nat}, (∀ i e, es[i]? = some e → Relem M z e b (off + i * z)) → Rrow M z es b off
  | [], off, _ => by simp [Rrow]
  | e :: es, off, h => by
    rw [Rrow_cons]
    refine ⟨by simpa using h 0 e rfl, Rrow_of_index fun i x hx => ?_⟩
    have := h (i + 1) x (by simpa using hx)
    have e' : off + (i + 1) * z = off + z + i * z := by rw [Nat.add_mul]; omega
    rwa [e'] at this

section
variable {H : Type} {enc : TypeId × Value → H} {P : Program} {w : World}

theorem list_of {α : Type} {p : Nat → α → Prop} : ∀ {n : Nat}, (∀ i, i < n → ∃ a, p i a) → ∃ l : List α, l.length = n ∧ ∀ i a, l[i]? = some a → p i a
  | 0, _ => ⟨[], rfl, by simp⟩
  | n + 1, h => by
    obtain ⟨l, hl, hp⟩ := list_of (n := n) fun i hi => h i (by omega)
    obtain ⟨a, ha⟩ := h n (by omega)
    refine ⟨l ++ [a], by simp [hl], fun i x hx => ?_⟩
    by_cases hi : i < l.length
    · rw [List.getElem?_append_left hi] at hx; exact hp i x hx
    · rw [List.getElem?_append_right (by omega)] at hx
      have h0 : i - l.length = 0 := by
        cases hd : i - l.length with
        | zero => rfl
        | succ k => rw [hd] at hx; simp at hx
      rw [h0] at hx
      simp at hx
      have : i = n := by omega
      subst this; subst hx; exact ha

/-- A slice, whose elements read by F. -/
theorem slice_R {α : Type} {t e : TypeId} {z fuel : Nat} {cs : List Value} {x : DataW H × List MemPlace} (f : α → AV) (φ : DataW H → α → Prop) (ht : P.underlying t = some (.slice e)) (hz : P.cellsOf e = z) (hz0 : 0 < z)
    (hf : ∀ a, (f a).cells.length = z)
    (hel : ∀ n, n < fuel → ∀ cs' x', DataW.trod enc P w 0 (fun _ => true) true n e cs' = some x' → ∃ a, φ x'.1 a ∧ Rs (memOf w) (f a).cells cs' ∧ ∀ u ∈ cs', flat u = true)
    (h : DataW.trod enc P w 0 (fun _ => true) true fuel t cs = some x) :
    ∃ (l : List α) (v : Value), cs = [v] ∧ flat v = true ∧ R (memOf w) (.slice z (l.map f)) v ∧ l.length ≤ Rows.uptoBulk x.1 ∧ ∀ a ∈ l, ∃ d, φ d a ∧ Rows.uptoBulk d ≤ Rows.uptoBulk x.1 := by
  rcases DataW.trod_slice ht h with ⟨rfl, rfl⟩ | ⟨a, len, cap, elems, rest, n, rfl, rfl, rfl, hb, hl, hm, hlen, h1, h2, h3⟩
  · refine ⟨[], _, rfl, rfl, ?_, by simp, by simp⟩
    simp only [R, List.map_nil]
    exact ⟨none, 0, 0, rfl, rfl, Nat.le_refl _, fun _ => rfl, fun h => absurd rfl h⟩
  obtain ⟨hr, h2⟩ := h2 rfl
  rw [hz] at h1 h2
  have hread : ∀ i, i < len → ∃ a', (∃ d, φ d a' ∧ d ∈ elems.map (·.1)) ∧ ∃ cs', w.cells? 0 (a.add (i * z)) z = some cs' ∧ Rs (memOf w) (f a').cells cs' ∧ ∀ u ∈ cs', flat u = true := by
    intro i hi
    have := h1 i hi
    rw [List.getElem?_eq_getElem (by omega)] at this
    obtain ⟨cs', g1, g2⟩ := Option.bind_eq_some_iff.1 this
    obtain ⟨a', q1, q2, q3⟩ := hel n (by omega) cs' _ g2
    exact ⟨a', ⟨_, q1, List.mem_map.2 ⟨_, List.getElem_mem _, rfl⟩⟩, cs', g1, q2, q3⟩
  obtain ⟨l, hll, hlp⟩ := list_of hread
  have hspot : cap ≠ 0 → a.spot = none := by
    intro hc
    have key : ∃ cs', w.cells? 0 (a.add 0) z = some cs' := by
      by_cases h0 : 0 < len
      · have := h1 0 h0
        rw [List.getElem?_eq_getElem (by omega)] at this
        obtain ⟨cs', g1, _⟩ := Option.bind_eq_some_iff.1 this
        exact ⟨cs', by simpa using g1⟩
      · have := h2 0 (by omega)
        rw [List.getElem?_eq_getElem (by omega)] at this
        obtain ⟨cs', g1, _⟩ := Option.bind_eq_some_iff.1 this
        have e0 : len + 0 = 0 := by omega
        rw [e0] at g1
        exact ⟨cs', by simpa using g1⟩
    obtain ⟨cs', g⟩ := key
    obtain ⟨_, g2, g3⟩ := World.cells?_some g
    have := g3 0 hz0
    rw [List.getElem?_eq_getElem (by omega)] at this
    simpa [Addr.add] using World.cell?_spot this
  have hbulk : Rows.uptoBulk (DataW.slice (elems.map (·.1)) (rest.map (·.1))) = Rows.uptoBulkAll (elems.map (·.1)) + Rows.uptoBulkAll (rest.map (·.1)) + 1 := by simp [Rows.uptoBulk]
  refine ⟨l, _, rfl, rfl, ?_, ?_, ?_⟩
  · simp only [R]
    refine ⟨some a, len, cap, rfl, by simp [hll], hl, fun h => by simp at h, fun hc => ?_⟩
    have hs := hspot hc
    obtain ⟨b, off, spot⟩ := a
    simp only at hs
    subst hs
    refine ⟨b, off, rfl, Rrow_of_index fun i e he => ?_⟩
    rw [List.getElem?_map, Option.map_eq_some_iff] at he
    obtain ⟨a', ha', rfl⟩ := he
    obtain ⟨_, cs', g1, g2, g3⟩ := hlp i a' ha'
    obtain ⟨_, g5, g6⟩ := World.cells?_some g1
    refine ⟨hf a', Rmem_of g2 g3 fun j u hu => ?_⟩
    have hj : j < z := by rw [← g5]; exact (List.getElem?_eq_some_iff.1 hu).1
    have := g6 j hj
    rw [hu] at this
    rw [← this, Addr.add_lit, Addr.add_lit]
    rfl
  · show l.length ≤ Rows.uptoBulk (DataW.slice _ _)
    rw [hbulk]
    have := bulk_len (elems.map (·.1))
    rw [List.length_map] at this
    omega
  · intro a' ha'
    obtain ⟨i, hi, rfl⟩ := List.mem_iff_getElem.1 ha'
    obtain ⟨⟨d, hd, hdm⟩, _⟩ := hlp i _ (List.getElem?_eq_getElem hi)
    refine ⟨d, hd, ?_⟩
    show _ ≤ Rows.uptoBulk (DataW.slice _ _)
    rw [hbulk]
    have := bulk_part hdm
    omega
end
end Go.Proofs.YtccmaeefedgcnaaGreat

namespace Go.Proofs.YtccmaeefedgcnaaGreat
open Go.ChangeShapes Go.WideShapes

theorem size9 : Tryz.prog.cellsOf 9 = 1 := by kernel_rfl
theorem size3 : Tryz.prog.cellsOf 3 = 1 := by kernel_rfl
theorem size27 : Tryz.prog.cellsOf 27 = 1 := by kernel_rfl
theorem size28 : Tryz.prog.cellsOf 28 = 1 := by kernel_rfl
theorem size30 : Tryz.prog.cellsOf 30 = 4 := by kernel_rfl
theorem size43 : Tryz.prog.cellsOf 43 = 5 := by kernel_rfl

section
variable {H : Type} {enc : TypeId × Value → H} {w : World}

theorem str_R {fuel : Nat} {cs : List Value} {x : DataW H × List MemPlace} (h : DataW.trod enc Tryz.prog w 0 (fun _ => true) true fuel 9 cs = some x) :
    ∃ (s : Str) (v : Value), cs = [v] ∧ flat v = true ∧ R (memOf w) (.str s) v ∧ Rows.uptoBulk x.1 = s.length + 1 := by
  obtain ⟨s, rfl, rfl, _⟩ := DataW.trod_string Tryz.underlying9 h
  refine ⟨s.data.toList, _, rfl, rfl, ?_, by simp [Rows.uptoBulk]⟩
  simp only [R]

theorem strs_R {fuel : Nat} {cs : List Value} {x : DataW H × List MemPlace} (h : DataW.trod enc Tryz.prog w 0 (fun _ => true) true fuel 27 cs = some x) :
    ∃ (l : List Str) (v : Value), cs = [v] ∧ flat v = true ∧ R (memOf w) (.slice 1 (l.map .str)) v ∧ l.length ≤ Rows.uptoBulk x.1 ∧ ∀ s ∈ l, s.length ≤ Rows.uptoBulk x.1 := by
  obtain ⟨l, v, e1, e2, e3, e4, e5⟩ := slice_R (z := 1) AV.str (fun d s => Rows.uptoBulk d = s.length + 1) Tryz.underlying27 size9 (by omega) (fun _ => rfl) (fun n _ cs' x' hx => by
    obtain ⟨s, v, rfl, q1, q2, q3⟩ := str_R hx
    refine ⟨s, q3, ?_, by simpa using q1⟩
    simp only [AV.cells, Rs]
    exact ⟨v, [], rfl, q2, rfl⟩) h
  refine ⟨l, v, e1, e2, e3, e4, fun s hs => ?_⟩
  obtain ⟨d, h1, h2⟩ := e5 s hs
  omega

theorem len_four {α : Type} {l : List α} (h : l.length = 4) : ∃ a b c d, l = [a, b, c, d] := by
  match l, h with
  | [a, b, c, d], _ => exact ⟨a, b, c, d, rfl⟩
theorem len_two {α : Type} {l : List α} (h : l.length = 2) : ∃ a b, l = [a, b] := by
  match l, h with
  | [a, b], _ => exact ⟨a, b, rfl⟩
/-- A struct's parts in bulk. -/
theorem bulk_agg {d : DataW H} {l : List (DataW H)} (h : d ∈ l) : Rows.uptoBulk d ≤ Rows.uptoBulk (DataW.agg l) := by
  have := bulk_part h
  simp only [Rows.uptoBulk]; omega

theorem node_R : ∀ (fuel : Nat) {cs : List Value} {x : DataW H × List MemPlace}, DataW.trod enc Tryz.prog w 0 (fun _ => true) true fuel 30 cs = some x →
    ∃ n : Node, (Rows.uptoBulk x.1 ≤ 1048576 → n.Short) ∧ Rs (memOf w) (nodeAV n).cells cs ∧ ∀ u ∈ cs, flat u = true := by
  intro fuel
  induction fuel using Nat.strongRecOn with
  | ind fuel ih =>
  intro cs x h
  obtain ⟨xs, n, rfl, rfl, hlen, hxl, hf⟩ := DataW.trod_struct Tryz.underlying30 h
  rw [size30] at hlen
  have hxl : xs.length = 4 := hxl
  obtain ⟨c0, c1, c2, c3, rfl⟩ := len_four hlen
  obtain ⟨x0, x1, x2, x3, rfl⟩ := len_four hxl
  have f0 : DataW.trod enc Tryz.prog w 0 (fun _ => true) true n 3 ([c0].take (Tryz.prog.cellsOf 3)) = some x0 := by rw [size3]; have := hf 0 _ rfl; exact (congrArg (fun k => DataW.trod enc Tryz.prog w 0 (fun _ => true) true n 3 ([c0, c1, c2, c3].take k)) size3).symm.trans this
  have f1 : DataW.trod enc Tryz.prog w 0 (fun _ => true) true n 9 ([c1].take (Tryz.prog.cellsOf 9)) = some x1 := by rw [size9]; have := hf 1 _ rfl; exact (congrArg (fun k => DataW.trod enc Tryz.prog w 0 (fun _ => true) true n 9 ([c1, c2, c3].take k)) size9).symm.trans this
  have f2 : DataW.trod enc Tryz.prog w 0 (fun _ => true) true n 27 ([c2].take (Tryz.prog.cellsOf 27)) = some x2 := by rw [size27]; have := hf 2 _ rfl; exact (congrArg (fun k => DataW.trod enc Tryz.prog w 0 (fun _ => true) true n 27 ([c2, c3].take k)) size27).symm.trans this
  have f3 : DataW.trod enc Tryz.prog w 0 (fun _ => true) true n 28 ([c3].take (Tryz.prog.cellsOf 28)) = some x3 := by rw [size28]; have := hf 3 _ rfl; exact (congrArg (fun k => DataW.trod enc Tryz.prog w 0 (fun _ => true) true n 28 ([c3].take k)) size28).symm.trans this
  simp only [size3, size9, size27, size28, List.take] at f0 f1 f2 f3
  obtain ⟨k, e0, rfl, _⟩ := DataW.trod_int Tryz.underlying3 f0
  obtain ⟨s, v1, e1, q1, r1, b1⟩ := str_R f1
  obtain ⟨ks, v2, e2, q2, r2, b2, b2'⟩ := strs_R f2
  obtain ⟨l, v3, e3, q3, r3, b3, b3'⟩ := slice_R (z := 4) nodeAV (fun d m => Rows.uptoBulk d ≤ 1048576 → m.Short) Tryz.underlying28 size30 (by omega) (fun _ => by simp) (fun m hm cs' x' hx => ih m (by omega) hx) f3
  simp only [List.cons.injEq, and_true] at e0 e1 e2 e3
  subst e0 e1 e2 e3
  refine ⟨⟨k, s, ks, l⟩, fun hb => ?_, ?_, ?_⟩
  · have a1 := bulk_agg (d := x1.1) (l := [(DataW.lit (.int .i64 k) : DataW H), x1.1, x2.1, x3.1]) (by simp)
    have a2 := bulk_agg (d := x2.1) (l := [(DataW.lit (.int .i64 k) : DataW H), x1.1, x2.1, x3.1]) (by simp)
    have a3 := bulk_agg (d := x3.1) (l := [(DataW.lit (.int .i64 k) : DataW H), x1.1, x2.1, x3.1]) (by simp)
    simp only [List.map_cons, List.map_nil] at hb
    refine .mk (by simp; omega) (by simp; omega) ?_ (by simp; omega) ?_
    · intro m hm
      obtain ⟨d, d1, d2⟩ := b3' m hm
      exact d1 (by omega)
    · intro t ht
      have := b2' t ht
      omega
  · simp only [nodeAV_cells, Rs]
    exact ⟨_, _, rfl, by simp [R], _, _, rfl, r1, _, _, rfl, r2, _, _, rfl, r3, rfl⟩
  · intro u hu
    simp only [List.mem_cons, List.not_mem_nil, or_false] at hu
    rcases hu with rfl | rfl | rfl | rfl
    · rfl
    · exact q1
    · exact q2
    · exact q3

theorem files_R {fuel : Nat} {cs : List Value} {x : DataW H × List MemPlace} (h : DataW.trod enc Tryz.prog w 0 (fun _ => true) true fuel 22 cs = some x) (hb : Rows.uptoBulk x.1 ≤ 1048576) :
    ∃ (l : List (Str × Node)) (v : Value), cs = [v] ∧ R (memOf w) (.slice 5 (l.map fun p => .agg (.str p.1 :: (nodeAV p.2).cells))) v ∧ ∀ p ∈ l, p.2.Short := by
  obtain ⟨l, v, e1, e2, e3, e4, e5⟩ := slice_R (z := 5) (fun p : Str × Node => AV.agg (.str p.1 :: (nodeAV p.2).cells)) (fun d p => Rows.uptoBulk d ≤ 1048576 → p.2.Short) Tryz.underlying22 size43 (by omega) (fun p => by show (AV.str p.1 :: (nodeAV p.2).cells).length = 5; simp) (fun m _ cs' x' hx => by
    obtain ⟨xs, n, rfl, rfl, hlen, hxl, hf⟩ := DataW.trod_struct Tryz.underlying43 hx
    rw [size43] at hlen
    have hxl : xs.length = 2 := hxl
    obtain ⟨c0, cs2, rfl⟩ : ∃ c0 cs2, cs' = c0 :: cs2 := by
      cases cs' with
      | nil => simp at hlen
      | cons c r => exact ⟨c, r, rfl⟩
    obtain ⟨x0, x1, rfl⟩ := len_two hxl
    have hl4 : cs2.length = 4 := by simpa using hlen
    have f0 : DataW.trod enc Tryz.prog w 0 (fun _ => true) true n 9 [c0] = some x0 := by have := hf 0 _ rfl; exact (congrArg (fun k => DataW.trod enc Tryz.prog w 0 (fun _ => true) true n 9 ((c0 :: cs2).take k)) size9).symm.trans this
    have f1 : DataW.trod enc Tryz.prog w 0 (fun _ => true) true n 30 (cs2.take 4) = some x1 := by have := hf 1 _ rfl; exact (congrArg (fun k => DataW.trod enc Tryz.prog w 0 (fun _ => true) true n 30 (cs2.take k)) size30).symm.trans this
    rw [List.take_of_length_le (by omega)] at f1
    obtain ⟨s, v1, e1, q1, r1, b1⟩ := str_R f0
    obtain ⟨nd, p1, p2, p3⟩ := node_R _ f1
    simp only [List.cons.injEq, and_true] at e1
    subst e1
    refine ⟨(s, nd), fun hb => p1 ?_, ?_, ?_⟩
    · have := bulk_agg (d := x1.1) (l := [x0.1, x1.1]) (by simp)
      simp only [List.map_cons, List.map_nil] at hb
      omega
    · simp only [AV.cells, Rs]
      exact ⟨_, _, rfl, r1, p2⟩
    · intro u hu
      rcases List.mem_cons.1 hu with rfl | hu
      · exact q1
      · exact p3 u hu) h
  refine ⟨l, v, e1, e3, fun p hp => ?_⟩
  obtain ⟨d, d1, d2⟩ := e5 p hp
  exact d1 (by omega)
end
end Go.Proofs.YtccmaeefedgcnaaGreat
