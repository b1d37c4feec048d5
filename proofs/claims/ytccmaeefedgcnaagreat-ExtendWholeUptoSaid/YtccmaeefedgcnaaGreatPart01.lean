/-
  THE ABSTRACT LAYER, PART A: pure values, the immutable memory, and what it means that a value of the model reads as a pure value.
  THE ABSTRACT LAYER, PART B: who owns which block; what it means that a frame and a world stand for an abstract state; how that is kept by a step.
  THE ABSTRACT LAYER, PART C: the steps of the world: a new block, a value that moves, a store into a block of one's own.
  THE ABSTRACT LAYER, PART D: the operations over pure states, and what a contract says.
  THE ABSTRACT LAYER, PART E: the compile step of one operation, and that each operation does what its abstract twin says. First half.
  THE ABSTRACT LAYER, PART F: each operation does what its abstract twin says: variables in memory.
-/
import Derived.WalkKit
set_option linter.all false

namespace Go.Proofs.YtccmaeefedgcnaaGreat

/-- The immutable memory: the cells that nobody writes any more, with what they hold. -/
abbrev Mem := Nat → Nat → Option Value

/-- Pure values. -/
inductive AV where
  | undef
  | int (k : IntKind) (n : Int)
  | bool (b : Bool)
  | str (s : List UInt8)
  | agg (cs : List AV)
  | slice (z : Nat) (es : List AV)
  | oslice (z : Nat) (es : List AV)
  | vptr (cs : List AV) (off : Nat)
  | bptr (t off ver : Nat)
  | ptr (b off : Nat)
  | nilptr
  | fn (f : FuncId) (caps : List AV)
  | nilfn
  | tup (vs : List AV)
  /-- What is left where an operation is passed by. -/
  | dead
  /-- A map of one's own: keys, values, the entries' stamps, the clock. -/
  | omap (ks vs : List AV) (bs : List Nat) (clk : Nat)
  /-- A slice whose row nobody else reads: it may be written in place. -/
  | xslice (z : Nat) (es : List AV)
  deriving Inhabited

def AV.cells : AV → List AV
  | .agg cs => cs
  | .omap .. => []
  | .xslice .. => []
  | v => [v]

/-- What only a variable of one's own can be. -/
def AV.special : AV → Bool
  | .omap .. | .xslice .. => true
  | _ => false

/-- The value of one cell. -/
abbrev flat (v : Value) : Bool := v.oneCell'

/-- A copy does not own its spare room. -/
def AV.un1 : AV → AV
  | .oslice z es => .slice z es
  | v => v

def AV.un : AV → AV
  | .agg cs => .agg (cs.map AV.un1)
  | v => v.un1

mutual
/-- 'v reads as the pure value in M'. -/
def R (M : Mem) : AV → Value → Prop
  | .int k n, v => v = .int k n
  | .bool b, v => v = .bool b
  | .str s, v => v = .string ⟨s.toArray⟩
  | .agg cs, v => ∃ vs : List Value, v = .agg vs.toArray ∧ (∀ u ∈ vs, flat u = true) ∧ Rs M cs vs
  | .slice z es, v => ∃ a len cap, v = .slice a len cap ∧ len = es.length ∧ len ≤ cap ∧ (a = none → cap = 0) ∧ (cap ≠ 0 → ∃ b off, a = some ⟨b, off, none⟩ ∧ Rrow M z es b off)
  | .vptr cs off, v => ∃ b o, v = .pointer (some ⟨b, o + off, none⟩) ∧ Rmem M cs b o
  | .ptr b off, v => v = .pointer (some ⟨b, off, none⟩)
  | .nilptr, v => v = .pointer none
  | .fn f caps, v => ∃ vs : List Value, v = .func (.func f) #[] vs.toArray ∧ Rs M caps vs
  | .nilfn, v => v = .nilFunc
  | .tup cs, v => ∃ vs : List Value, v = .tuple vs.toArray ∧ Rs M cs vs
  | .dead, v => v = Go.undef
  | _, _ => False
def Rs (M : Mem) : List AV → List Value → Prop
  | [], vs => vs = []
  | c :: cs, vs => ∃ u us, vs = u :: us ∧ R M c u ∧ Rs M cs us
def Rmem (M : Mem) : List AV → Nat → Nat → Prop
  | [], _, _ => True
  | c :: cs, b, o => (∃ u, M b o = some u ∧ flat u = true ∧ R M c u) ∧ Rmem M cs b (o + 1)
def Rrow (M : Mem) (z : Nat) : List AV → Nat → Nat → Prop
  | [], _, _ => True
  | e :: es, b, o => (match e with
      | .agg cs => cs.length = z ∧ Rmem M cs b o
      | .omap .. => 0 = z
      | .xslice .. => 0 = z
      | e => z = 1 ∧ ∃ u, M b o = some u ∧ flat u = true ∧ R M e u) ∧ Rrow M z es b (o + z)
end

/-- One element of a row. -/
def Relem (M : Mem) (z : Nat) (e : AV) (b o : Nat) : Prop := e.cells.length = z ∧ Rmem M e.cells b o

theorem Rmem_one (M : Mem) (e : AV) (b o : Nat) : Rmem M [e] b o ↔ ∃ u, M b o = some u ∧ flat u = true ∧ R M e u := by
  simp [Rmem]

theorem Rrow_cons (M : Mem) (z : Nat) (e : AV) (es : List AV) (b o : Nat) :
    Rrow M z (e :: es) b o ↔ Relem M z e b o ∧ Rrow M z es b (o + z) := by
  cases e <;> simp only [Rrow, Relem, AV.cells, Rmem, and_true, List.length_cons, List.length_nil, Nat.zero_add, eq_comm (a := z)]

def Mle (M M' : Mem) : Prop := ∀ b o u, M b o = some u → M' b o = some u
theorem Mle.refl (M : Mem) : Mle M M := fun _ _ _ h => h
theorem Mle.trans {M M' M'' : Mem} (h : Mle M M') (h' : Mle M' M'') : Mle M M'' := fun b o u x => h' b o u (h b o u x)

mutual
theorem R_mono {M M' : Mem} (hm : Mle M M') : ∀ (av : AV) (v : Value), R M av v → R M' av v
  | .undef, v, h => by simp [R] at h
  | .int .., v, h => by simpa [R] using h
  | .bool .., v, h => by simpa [R] using h
  | .str .., v, h => by simpa [R] using h
  | .agg cs, v, h => by
    simp only [R] at h ⊢
    obtain ⟨vs, e, ho, hs⟩ := h
    exact ⟨vs, e, ho, Rs_mono hm cs vs hs⟩
  | .slice z es, v, h => by
    simp only [R] at h ⊢
    obtain ⟨a, len, cap, e, hl, hc, hn, hr⟩ := h
    refine ⟨a, len, cap, e, hl, hc, hn, fun ha => ?_⟩
    obtain ⟨b, off, hb, hr⟩ := hr ha
    exact ⟨b, off, hb, Rrow_mono hm z es b off hr⟩
  | .oslice .., v, h => by simp [R] at h
  | .vptr cs off, v, h => by
    simp only [R] at h ⊢
    obtain ⟨b, o, e, hr⟩ := h
    exact ⟨b, o, e, Rmem_mono hm cs b o hr⟩
  | .bptr .., v, h => by simp [R] at h
  | .ptr .., v, h => by simpa [R] using h
  | .nilptr, v, h => by simpa [R] using h
  | .fn f caps, v, h => by
    simp only [R] at h ⊢
    obtain ⟨vs, e, hs⟩ := h
    exact ⟨vs, e, Rs_mono hm caps vs hs⟩
  | .nilfn, v, h => by simpa [R] using h
  | .tup cs, v, h => by
    simp only [R] at h ⊢
    obtain ⟨vs, e, hs⟩ := h
    exact ⟨vs, e, Rs_mono hm cs vs hs⟩
  | .dead, v, h => by simpa [R] using h
  | .omap .., v, h => by simp [R] at h
  | .xslice .., v, h => by simp [R] at h
theorem Rs_mono {M M' : Mem} (hm : Mle M M') : ∀ (cs : List AV) (vs : List Value), Rs M cs vs → Rs M' cs vs
  | [], vs, h => by simpa [Rs] using h
  | c :: cs, vs, h => by
    simp only [Rs] at h ⊢
    obtain ⟨u, us, e, hu, hs⟩ := h
    exact ⟨u, us, e, R_mono hm c u hu, Rs_mono hm cs us hs⟩
theorem Rmem_mono {M M' : Mem} (hm : Mle M M') : ∀ (cs : List AV) (b o : Nat), Rmem M cs b o → Rmem M' cs b o
  | [], b, o, h => by simp [Rmem]
  | c :: cs, b, o, h => by
    simp only [Rmem] at h ⊢
    obtain ⟨⟨u, hu, ho, hr⟩, hs⟩ := h
    exact ⟨⟨u, hm _ _ _ hu, ho, R_mono hm c u hr⟩, Rmem_mono hm cs b (o + 1) hs⟩
theorem Rrow_mono {M M' : Mem} (hm : Mle M M') (z : Nat) : ∀ (es : List AV) (b o : Nat), Rrow M z es b o → Rrow M' z es b o
  | [], b, o, h => by simp [Rrow]
  | .agg cs :: es, b, o, h => by
    simp only [Rrow] at h ⊢
    exact ⟨⟨h.1.1, Rmem_mono hm cs b o h.1.2⟩, Rrow_mono hm z es b (o + z) h.2⟩
  | .undef :: es, b, o, h => by simp [Rrow, R] at h
  | .oslice .. :: es, b, o, h => by simp [Rrow, R] at h
  | .omap .. :: es, b, o, h => by
    simp only [Rrow] at h ⊢
    exact ⟨h.1, Rrow_mono hm z es b (o + z) h.2⟩
  | .xslice .. :: es, b, o, h => by
    simp only [Rrow] at h ⊢
    exact ⟨h.1, Rrow_mono hm z es b (o + z) h.2⟩
  | .bptr .. :: es, b, o, h => by simp [Rrow, R] at h
  | .int k n :: es, b, o, h => by
    simp only [Rrow] at h ⊢; obtain ⟨⟨hz, u, hu, ho, hr⟩, hs⟩ := h
    exact ⟨⟨hz, u, hm _ _ _ hu, ho, R_mono hm _ u hr⟩, Rrow_mono hm z es b (o + z) hs⟩
  | .bool k :: es, b, o, h => by
    simp only [Rrow] at h ⊢; obtain ⟨⟨hz, u, hu, ho, hr⟩, hs⟩ := h
    exact ⟨⟨hz, u, hm _ _ _ hu, ho, R_mono hm _ u hr⟩, Rrow_mono hm z es b (o + z) hs⟩
  | .str k :: es, b, o, h => by
    simp only [Rrow] at h ⊢; obtain ⟨⟨hz, u, hu, ho, hr⟩, hs⟩ := h
    exact ⟨⟨hz, u, hm _ _ _ hu, ho, R_mono hm _ u hr⟩, Rrow_mono hm z es b (o + z) hs⟩
  | .slice k n :: es, b, o, h => by
    simp only [Rrow] at h ⊢; obtain ⟨⟨hz, u, hu, ho, hr⟩, hs⟩ := h
    exact ⟨⟨hz, u, hm _ _ _ hu, ho, R_mono hm _ u hr⟩, Rrow_mono hm z es b (o + z) hs⟩
  | .vptr k n :: es, b, o, h => by
    simp only [Rrow] at h ⊢; obtain ⟨⟨hz, u, hu, ho, hr⟩, hs⟩ := h
    exact ⟨⟨hz, u, hm _ _ _ hu, ho, R_mono hm _ u hr⟩, Rrow_mono hm z es b (o + z) hs⟩
  | .ptr k n :: es, b, o, h => by
    simp only [Rrow] at h ⊢; obtain ⟨⟨hz, u, hu, ho, hr⟩, hs⟩ := h
    exact ⟨⟨hz, u, hm _ _ _ hu, ho, R_mono hm _ u hr⟩, Rrow_mono hm z es b (o + z) hs⟩
  | .nilptr :: es, b, o, h => by
    simp only [Rrow] at h ⊢; obtain ⟨⟨hz, u, hu, ho, hr⟩, hs⟩ := h
    exact ⟨⟨hz, u, hm _ _ _ hu, ho, R_mono hm _ u hr⟩, Rrow_mono hm z es b (o + z) hs⟩
  | .fn k n :: es, b, o, h => by
    simp only [Rrow] at h ⊢; obtain ⟨⟨hz, u, hu, ho, hr⟩, hs⟩ := h
    exact ⟨⟨hz, u, hm _ _ _ hu, ho, R_mono hm _ u hr⟩, Rrow_mono hm z es b (o + z) hs⟩
  | .nilfn :: es, b, o, h => by
    simp only [Rrow] at h ⊢; obtain ⟨⟨hz, u, hu, ho, hr⟩, hs⟩ := h
    exact ⟨⟨hz, u, hm _ _ _ hu, ho, R_mono hm _ u hr⟩, Rrow_mono hm z es b (o + z) hs⟩
  | .tup k :: es, b, o, h => by
    simp only [Rrow] at h ⊢; obtain ⟨⟨hz, u, hu, ho, hr⟩, hs⟩ := h
    exact ⟨⟨hz, u, hm _ _ _ hu, ho, R_mono hm _ u hr⟩, Rrow_mono hm z es b (o + z) hs⟩
  | .dead :: es, b, o, h => by
    simp only [Rrow] at h ⊢; obtain ⟨⟨hz, u, hu, ho, hr⟩, hs⟩ := h
    exact ⟨⟨hz, u, hm _ _ _ hu, ho, R_mono hm _ u hr⟩, Rrow_mono hm z es b (o + z) hs⟩
end

theorem Rs_length {M : Mem} : ∀ {cs : List AV} {vs : List Value}, Rs M cs vs → vs.length = cs.length
  | [], vs, h => by simp [Rs] at h; simp [h]
  | c :: cs, vs, h => by
    simp only [Rs] at h
    obtain ⟨u, us, rfl, _, hs⟩ := h
    simp [Rs_length hs]

theorem R_cells_size {M : Mem} {av : AV} {v : Value} (h : R M av v) : v.cells.toList.length = av.cells.length := by
  cases av <;> simp only [R] at h <;> (try exact h.elim)
  case agg cs => obtain ⟨vs, rfl, _, hs⟩ := h; simp [Value.cells, AV.cells, Rs_length hs]
  case slice => obtain ⟨a, len, cap, rfl, _⟩ := h; simp [Value.cells, AV.cells]
  case vptr => obtain ⟨b, o, rfl, _⟩ := h; simp [Value.cells, AV.cells]
  case fn => obtain ⟨vs, rfl, _⟩ := h; simp [Value.cells, AV.cells]
  case tup => obtain ⟨vs, rfl, _⟩ := h; simp [Value.cells, AV.cells]
  all_goals (subst h; simp [Value.cells, AV.cells, undef])

theorem Rmem_get {M : Mem} : ∀ {cs : List AV} {b o : Nat}, Rmem M cs b o → ∀ {i : Nat} {c : AV}, cs[i]? = some c → ∃ u, M b (o + i) = some u ∧ flat u = true ∧ R M c u
  | [], _, _, _, i, c, hc => by simp at hc
  | c :: cs, b, o, h, 0, c', hc => by
    simp only [Rmem] at h; simp at hc; subst hc; simpa using h.1
  | c :: cs, b, o, h, i + 1, c', hc => by
    simp only [Rmem] at h; simp at hc
    obtain ⟨u, hu, hr⟩ := Rmem_get h.2 hc
    exact ⟨u, by rw [show o + (i + 1) = o + 1 + i from by omega]; exact hu, hr⟩

theorem Rrow_get {M : Mem} {z : Nat} : ∀ {es : List AV} {b o : Nat}, Rrow M z es b o → ∀ {i : Nat} {e : AV}, es[i]? = some e → Relem M z e b (o + i * z)
  | [], _, _, _, i, c, hc => by simp at hc
  | e :: es, b, o, h, 0, e', hc => by
    rw [Rrow_cons] at h; simp at hc; subst hc; simpa using h.1
  | e :: es, b, o, h, i + 1, e', hc => by
    rw [Rrow_cons] at h; simp at hc
    have := Rrow_get h.2 hc
    rwa [show o + (i + 1) * z = o + z + i * z from by rw [Nat.add_mul]; omega]

theorem Rrow_drop {M : Mem} {z : Nat} : ∀ (i : Nat) {es : List AV} {b o : Nat}, Rrow M z es b o → Rrow M z (es.drop i) b (o + i * z)
  | 0, es, b, o, h => by simpa using h
  | i + 1, [], b, o, h => by simp [Rrow]
  | i + 1, e :: es, b, o, h => by
    rw [Rrow_cons] at h
    have := Rrow_drop i h.2
    rw [show o + (i + 1) * z = o + z + i * z from by rw [Nat.add_mul]; omega]
    simpa using this

theorem Rrow_take {M : Mem} {z : Nat} : ∀ (i : Nat) {es : List AV} {b o : Nat}, Rrow M z es b o → Rrow M z (es.take i) b o
  | 0, es, b, o, h => by simp [Rrow]
  | i + 1, [], b, o, h => by simp [Rrow]
  | i + 1, e :: es, b, o, h => by
    rw [Rrow_cons] at h
    simp only [List.take_succ_cons, Rrow_cons]
    exact ⟨h.1, Rrow_take i h.2⟩

theorem Rrow_append {M : Mem} {z : Nat} : ∀ {es fs : List AV} {b o : Nat}, Rrow M z es b o → Rrow M z fs b (o + es.length * z) → Rrow M z (es ++ fs) b o
  | [], fs, b, o, _, h => by simpa using h
  | e :: es, fs, b, o, h, h' => by
    rw [Rrow_cons] at h
    rw [List.cons_append, Rrow_cons]
    refine ⟨h.1, Rrow_append h.2 ?_⟩
    rw [show o + z + es.length * z = o + (e :: es).length * z from by simp [Nat.add_mul]; omega]
    exact h'

end Go.Proofs.YtccmaeefedgcnaaGreat

namespace Go.Proofs.YtccmaeefedgcnaaGreat

inductive Own where
  | none
  | box (t : Nat)
  | spare (t j : Nat)
  | heap
  deriving DecidableEq

/-- The abstract state: the slots, and the blocks that may be written by whoever holds a pointer. -/
structure St where
  e : Nat → AV
  h : Nat → Option (List AV)
  nx : Nat

def upd {α : Type} (f : Nat → α) (i : Nat) (v : α) : Nat → α := fun j => if j = i then v else f j
theorem upd_same {α : Type} (f : Nat → α) (i : Nat) (v : α) : upd f i v i = v := by simp [upd]
theorem upd_other {α : Type} (f : Nat → α) {i j : Nat} (v : α) (h : j ≠ i) : upd f i v j = f j := by simp [upd, h]

/-- What does not change while one function runs. -/
structure Cx where
  P : Program
  boxed : Nat → Bool
  n : Nat
  w0 : World
  M0 : Mem
  hb : Nat → Prop

/-- A cell at the place (t, j). -/
def RO (own : Nat → Own) (M : Mem) (w : World) (t j : Nat) : AV → Value → Prop
  | .oslice z es, v => ∃ a len cap, v = .slice a len cap ∧ len = es.length ∧ len ≤ cap ∧ (a = none → cap = 0) ∧
      (a ≠ none → ∃ b off, a = some ⟨b, off, none⟩ ∧ Rrow M z es b off ∧
        (len = cap ∨ (own b = .spare t j ∧ ∃ vs el, w.heap[b]? = some (.cells vs el (0, 0)) ∧ off + cap * z ≤ vs.size ∧ ∀ o, off + len * z ≤ o → M b o = none)))
  | av, v => R M av v

def ROs (own : Nat → Own) (M : Mem) (w : World) (t : Nat) : Nat → List AV → List Value → Prop
  | _, [], vs => vs = []
  | j, c :: cs, vs => ∃ u us, vs = u :: us ∧ flat u = true ∧ RO own M w t j c u ∧ ROs own M w t (j + 1) cs us

/-- A value whose cells lie at the places (t, k), (t, k + 1), .. -/
def RV (own : Nat → Own) (M : Mem) (w : World) (t k : Nat) : AV → Value → Prop
  | .agg cs, v => ∃ vs : List Value, v = .agg vs.toArray ∧ ROs own M w t k cs vs
  | av, v => RO own M w t k av v

def RBox (own : Nat → Own) (M : Mem) (w : World) (t : Nat) (cs : List AV) (b : Nat) : Prop :=
  own b = .box t ∧ (∀ o, M b o = none) ∧ ∃ (vs : List Value) (el : TypeId), w.heap[b]? = some (.cells vs.toArray el (0, 0)) ∧ ROs own M w t 0 cs vs

/-- A row of elements as a list of values. -/
def RowL (M : Mem) (z : Nat) : List AV → List Value → Prop
  | [], us => us = []
  | e :: es, us => ∃ u1 u2, us = u1 ++ u2 ∧ e.cells.length = z ∧ (∀ u ∈ u1, flat u = true) ∧ Rs M e.cells u1 ∧ RowL M z es u2

/-- A variable's own block: its cells, a map, or a row. -/
def RBoxV (own : Nat → Own) (M : Mem) (w : World) (t : Nat) : AV → Value → Prop
  | .omap ks vs bs clk, v => ∃ b, v = .map (some b) ∧ own b = .box t ∧ (∀ o, M b o = none) ∧ ∃ ents : List MapEntry, w.heap[b]? = some (.map ents.toArray clk) ∧
      Rs M ks (ents.map (·.key)) ∧ Rs M vs (ents.map (·.val)) ∧ bs = ents.map (·.born)
  | .xslice z es, v => ∃ a len cap, v = .slice a len cap ∧ len = es.length ∧ len ≤ cap ∧ (a = none → cap = 0) ∧ (a ≠ none → ∃ b off, a = some ⟨b, off, none⟩) ∧ (es = [] ∨ ∃ b off, a = some ⟨b, off, none⟩ ∧ own b = .box t ∧ (∀ o, off ≤ o → M b o = none) ∧
      ∃ (vs : Array Value) (el : TypeId) (us : List Value), w.heap[b]? = some (.cells vs el (0, 0)) ∧ off + cap * z ≤ vs.size ∧ RowL M z es us ∧ ∀ (i : Nat) u, us[i]? = some u → vs[off + i]? = some u)
  | av, v => ∃ b, v = .pointer (some ⟨b, 0, none⟩) ∧ RBox own M w t av.cells b

/-- What a pointer into a variable is, beside the variable's own. -/
def ptrAt (v0 : Value) (off : Nat) (v : Value) : Prop := (∃ b, v0 = .pointer (some ⟨b, 0, none⟩) ∧ v = .pointer (some ⟨b, off, none⟩)) ∨ ((∀ a, v0 ≠ .pointer a) ∧ v = v0)

theorem RBoxV_box {own : Nat → Own} {M : Mem} {w : World} {t : Nat} {av : AV} {v : Value} (h : RBoxV own M w t av v) (hc : 0 < av.cells.length) : ∃ b, v = .pointer (some ⟨b, 0, none⟩) ∧ RBox own M w t av.cells b := by
  cases av <;> first | exact h | simp [AV.cells] at hc
theorem RBoxV_mk {own : Nat → Own} {M : Mem} {w : World} {t b : Nat} {av : AV} (hc : av.special = false) (h : RBox own M w t av.cells b) : RBoxV own M w t av (.pointer (some ⟨b, 0, none⟩)) := by
  cases av <;> first | exact ⟨b, rfl, h⟩ | cases hc

/-- A slot. -/
def RSlot (cx : Cx) (ver : Nat → Nat) (own : Nat → Own) (M : Mem) (w : World) (tmps : Array Value) (t : Nat) (av : AV) : Prop :=
  av = .undef ∨ ∃ v, tmps[t]? = some v ∧
    (if cx.boxed t then RBoxV own M w t av v
     else match av with
      | .bptr u off k => k ≤ ver u ∧ (k = ver u → cx.boxed u = true ∧ ∃ v0, tmps[u]? = some v0 ∧ ptrAt v0 off v)
      | av => RV own M w t 0 av v)

def RHeap (M : Mem) (w : World) (cs : List AV) (b : Nat) : Prop :=
  (∀ o, M b o = none) ∧ ∃ (vs : List Value) (el : TypeId), w.heap[b]? = some (.cells vs.toArray el (0, 0)) ∧ (∀ u ∈ vs, flat u = true) ∧ Rs M cs vs

structure Base (cx : Cx) (own : Nat → Own) (M : Mem) (w : World) : Prop where
  mem : ∀ b o u, M b o = some u → w.cell? ⟨b, o, none⟩ = some u
  own_lt : ∀ b, own b ≠ .none → b < w.heap.size
  own_new : ∀ b, own b ≠ .none → cx.w0.heap.size ≤ b ∨ (own b = .heap ∧ cx.hb b)
  mnew : ∀ b o u, M b o = some u → cx.M0 b o = some u ∨ cx.w0.heap.size ≤ b
  frame : ∀ b, b < cx.w0.heap.size → own b = .none → w.heap[b]? = cx.w0.heap[b]?
  grow : cx.w0.heap.size ≤ w.heap.size
  rest : w.os = cx.w0.os ∧ w.output = cx.w0.output ∧ w.tape = cx.w0.tape

structure Rel (cx : Cx) (st : St) (ver : Nat → Nat) (M : Mem) (own : Nat → Own) (tmps : Array Value) (w : World) : Prop where
  base : Base cx own M w
  size : tmps.size = cx.n
  slot : ∀ t, RSlot cx ver own M w tmps t (st.e t)
  heap : ∀ b cs, st.h b = some cs → b < st.nx ∧ own b = .heap ∧ RHeap M w cs b
  nx : st.nx ≤ w.heap.size

/-- A step that keeps all that block b's owner relies on. -/
def Keeps (own : Nat → Own) (M : Mem) (w : World) (own' : Nat → Own) (M' : Mem) (w' : World) (b : Nat) : Prop :=
  own' b = own b ∧ w'.heap[b]? = w.heap[b]? ∧ ∀ o, M' b o = M b o

theorem RO_of_R {own M w t j av v} (h : R M av v) : RO own M w t j av v := by
  cases av <;> simp_all [RO, R]

theorem RO_mono {own own' : Nat → Own} {M M' : Mem} {w w' : World} {t j j' t' : Nat} (hm : Mle M M')
    (hk : ∀ b, own b = .spare t j → own' b = .spare t' j' ∧ w'.heap[b]? = w.heap[b]? ∧ ∀ o, M' b o = M b o) {av : AV} {v : Value}
    (h : RO own M w t j av v) : RO own' M' w' t' j' av v := by
  cases av
  case oslice z es =>
    simp only [RO] at h ⊢
    obtain ⟨a, len, cap, rfl, hl, hc, hn, hr⟩ := h
    refine ⟨a, len, cap, rfl, hl, hc, hn, fun ha => ?_⟩
    obtain ⟨b, off, hb, hrow, hs⟩ := hr ha
    refine ⟨b, off, hb, Rrow_mono hm z es b off hrow, hs.imp id ?_⟩
    rintro ⟨ho, vs, el, hh, hle, hno⟩
    obtain ⟨ho', hh', hM⟩ := hk b ho
    exact ⟨ho', vs, el, hh'.trans hh, hle, fun o hlo => (hM o).trans (hno o hlo)⟩
  all_goals (simp only [RO] at h ⊢; exact R_mono hm _ _ h)

theorem ROs_mono {own own' : Nat → Own} {M M' : Mem} {w w' : World} {t t' k : Nat} (hm : Mle M M')
    : ∀ {cs : List AV} {j : Nat} {vs : List Value},
    (∀ b i, j ≤ i → i < j + cs.length → own b = .spare t i → own' b = .spare t' (i + k) ∧ w'.heap[b]? = w.heap[b]? ∧ ∀ o, M' b o = M b o) →
    ROs own M w t j cs vs → ROs own' M' w' t' (j + k) cs vs
  | [], _, _, _, h => by simpa [ROs] using h
  | c :: cs, j, vs, hk, h => by
    simp only [ROs] at h ⊢
    obtain ⟨u, us, rfl, hf, hu, hs⟩ := h
    refine ⟨u, us, rfl, hf, RO_mono hm (fun b hb => hk b j (Nat.le_refl _) (by simp) hb) hu, ?_⟩
    have := ROs_mono (k := k) hm (fun b i h1 h2 hb => hk b i (by omega) (by simp; omega) hb) hs
    rwa [show j + 1 + k = j + k + 1 from by omega] at this

theorem RV_mono {own own' : Nat → Own} {M M' : Mem} {w w' : World} {t t' j k : Nat} (hm : Mle M M') {av : AV} {v : Value}
    (hk : ∀ b i, own b = .spare t i → own' b = .spare t' (i + k) ∧ w'.heap[b]? = w.heap[b]? ∧ ∀ o, M' b o = M b o)
    (h : RV own M w t j av v) : RV own' M' w' t' (j + k) av v := by
  cases av
  case agg cs =>
    simp only [RV] at h ⊢
    obtain ⟨vs, rfl, hs⟩ := h
    exact ⟨vs, rfl, ROs_mono hm (fun b i _ _ hb => hk b i hb) hs⟩
  all_goals (simp only [RV] at h ⊢; exact RO_mono hm (fun b hb => hk b j hb) h)

theorem RBox_mono {own own' : Nat → Own} {M M' : Mem} {w w' : World} {t b : Nat} (hm : Mle M M') {cs : List AV}
    (hk : ∀ b, (own b = .box t ∨ ∃ j, own b = .spare t j) → Keeps own M w own' M' w' b) (h : RBox own M w t cs b) : RBox own' M' w' t cs b := by
  obtain ⟨ho, hn, vs, el, hh, hs⟩ := h
  obtain ⟨k1, k2, k3⟩ := hk b (.inl ho)
  refine ⟨k1.trans ho, fun o => (k3 o).trans (hn o), vs, el, k2.trans hh, ?_⟩
  have := ROs_mono (own' := own') (M' := M') (w' := w') (t' := t) (k := 0) hm
    (fun b i _ _ hb => by have := hk b (.inr ⟨i, hb⟩); exact ⟨this.1.trans hb, this.2⟩) hs
  simpa using this

theorem RowL_mono {M M' : Mem} (hm : Mle M M') {z : Nat} : ∀ {es : List AV} {us : List Value}, RowL M z es us → RowL M' z es us
  | [], _, h => h
  | e :: es, us, ⟨u1, u2, h1, h2, h3, h4, h5⟩ => ⟨u1, u2, h1, h2, h3, Rs_mono hm _ _ h4, RowL_mono hm h5⟩

theorem RBoxV_mono {own own' : Nat → Own} {M M' : Mem} {w w' : World} {t : Nat} (hm : Mle M M') {av : AV} {v : Value}
    (hk : ∀ b, (own b = .box t ∨ ∃ j, own b = .spare t j) → Keeps own M w own' M' w' b) (h : RBoxV own M w t av v) : RBoxV own' M' w' t av v := by
  cases av
  case omap ks vs bs clk =>
    obtain ⟨b, rfl, ho, hn, ents, hh, h1, h2, h3⟩ := h
    obtain ⟨k1, k2, k3⟩ := hk b (.inl ho)
    exact ⟨b, rfl, k1.trans ho, fun o => (k3 o).trans (hn o), ents, k2.trans hh, Rs_mono hm _ _ h1, Rs_mono hm _ _ h2, h3⟩
  case xslice z es =>
    obtain ⟨a, len, cap, rfl, hl, hc, hn0, hs0, h⟩ := h
    refine ⟨a, len, cap, rfl, hl, hc, hn0, hs0, h.imp id ?_⟩
    rintro ⟨b, off, ha, ho, hn, vs, el, us, hh, h2, h3, h4⟩
    obtain ⟨k1, k2, k3⟩ := hk b (.inl ho)
    exact ⟨b, off, ha, k1.trans ho, fun o h => (k3 o).trans (hn o h), vs, el, us, k2.trans hh, h2, RowL_mono hm h3, h4⟩
  all_goals
    obtain ⟨b, e, hbx⟩ := h
    exact ⟨b, e, RBox_mono hm hk hbx⟩

theorem RSlot_mono {cx : Cx} {ver : Nat → Nat} {own own' : Nat → Own} {M M' : Mem} {w w' : World} {tmps : Array Value} {t : Nat} (hm : Mle M M')
    (hk : ∀ b, (own b = .box t ∨ ∃ j, own b = .spare t j) → Keeps own M w own' M' w' b) {av : AV}
    (h : RSlot cx ver own M w tmps t av) : RSlot cx ver own' M' w' tmps t av := by
  refine h.imp id ?_
  rintro ⟨v, hv, h⟩
  refine ⟨v, hv, ?_⟩
  by_cases hb : cx.boxed t = true
  · rw [if_pos hb] at h ⊢
    exact RBoxV_mono hm hk h
  · rw [if_neg hb] at h ⊢
    have key : ∀ av, RV own M w t 0 av v → RV own' M' w' t 0 av v := fun av h =>
      RV_mono (k := 0) hm (fun b i hbi => by have := hk b (.inr ⟨i, hbi⟩); exact ⟨this.1.trans hbi, this.2⟩) h
    cases av <;> first | exact h | exact key _ h

theorem RHeap_mono {M M' : Mem} {w w' : World} {cs : List AV} {b : Nat} (hm : Mle M M') (hw : w'.heap[b]? = w.heap[b]?) (hn : ∀ o, M' b o = M b o)
    (h : RHeap M w cs b) : RHeap M' w' cs b := by
  obtain ⟨h1, vs, el, hh, hf, hs⟩ := h
  exact ⟨fun o => (hn o).trans (h1 o), vs, el, hw.trans hh, hf, Rs_mono hm cs vs hs⟩

/-- The step that leaves all owned blocks alone. -/
theorem Rel.step {cx st ver M own tmps w} {M' : Mem} {own' : Nat → Own} {w' : World} (h : Rel cx st ver M own tmps w) (hb : Base cx own' M' w') (hm : Mle M M')
    (hk : ∀ b, own b ≠ .none → Keeps own M w own' M' w' b) (hsz : w.heap.size ≤ w'.heap.size) : Rel cx st ver M' own' tmps w' where
  base := hb
  size := h.size
  slot t := RSlot_mono hm (fun b hb => hk b (by rcases hb with hb | ⟨j, hb⟩ <;> simp [hb])) (h.slot t)
  heap b cs hbc := by
    obtain ⟨h1, h2, h3⟩ := h.heap b cs hbc
    obtain ⟨k1, k2, k3⟩ := hk b (by simp [h2])
    exact ⟨h1, k1.trans h2, RHeap_mono hm k2 k3 h3⟩
  nx := Nat.le_trans h.nx hsz

theorem get_set {tmps : Array Value} {d t : Nat} {v : Value} (h : d < tmps.size) : (tmps.setIfInBounds d v)[t]? = if d = t then some v else tmps[t]? := by
  rw [Array.getElem?_setIfInBounds]
  by_cases hd : d = t
  · subst hd; simp [h]
  · simp [hd]

/-- A plain slot is given a new value; nothing else changes. -/
theorem Rel.put {cx st ver M own tmps w} {d : Nat} {av : AV} {v : Value} (h : Rel cx st ver M own tmps w) (hd : d < cx.n) (hb : cx.boxed d = false)
    (hv : RSlot cx ver own M w (tmps.setIfInBounds d v) d av) : Rel cx { st with e := upd st.e d av } ver M own (tmps.setIfInBounds d v) w where
  base := h.base
  size := by simp [h.size]
  slot t := by
    by_cases ht : t = d
    · subst ht; simpa [upd] using hv
    · have hs := h.slot t
      have hd' : d < tmps.size := by rw [h.size]; exact hd
      simp only [upd, ht, if_false]
      refine hs.imp id ?_
      rintro ⟨u, hu, hr⟩
      refine ⟨u, by rw [get_set hd', if_neg (by omega)]; exact hu, ?_⟩
      by_cases hbt : cx.boxed t = true
      · rw [if_pos hbt] at hr ⊢; exact hr
      · rw [if_neg hbt] at hr ⊢
        cases hav : st.e t <;> rw [hav] at hr <;> first | exact hr | skip
        case bptr u' off k =>
          refine ⟨hr.1, fun hk => ?_⟩
          obtain ⟨h1, b, h2, h3⟩ := hr.2 hk
          refine ⟨h1, b, ?_, h3⟩
          have hne : ¬ d = u' := by rintro rfl; simp [hb] at h1
          rw [get_set hd', if_neg hne]; exact h2
  heap := h.heap
  nx := h.nx

theorem Rel.put_RV {cx st ver M own tmps w} {d : Nat} {av : AV} {v : Value} (h : Rel cx st ver M own tmps w) (hd : d < cx.n) (hb : cx.boxed d = false)
    (hv : RV own M w d 0 av v) : Rel cx { st with e := upd st.e d av } ver M own (tmps.setIfInBounds d v) w := by
  refine h.put hd hb (.inr ⟨v, by rw [get_set (by rw [h.size]; exact hd), if_pos rfl], ?_⟩)
  rw [if_neg (by simp [hb])]
  cases av <;> first | exact hv | skip
  case bptr => simp [RV, RO, R] at hv

theorem Rel.put_undef {cx st ver M own tmps w} {d : Nat} {v : Value} (h : Rel cx st ver M own tmps w) (hd : d < cx.n) (hb : cx.boxed d = false) :
    Rel cx { st with e := upd st.e d .undef } ver M own (tmps.setIfInBounds d v) w := h.put hd hb (.inl rfl)

/-- What a slot says may be forgotten. -/
theorem Rel.forget {cx st ver M own tmps w} (t : Nat) (h : Rel cx st ver M own tmps w) : Rel cx { st with e := upd st.e t .undef } ver M own tmps w where
  base := h.base
  size := h.size
  slot u := by
    by_cases hu : u = t
    · subst hu; exact .inl (by simp [upd])
    · simp only [upd, hu, if_false]; exact h.slot u
  heap := h.heap
  nx := h.nx

theorem RV_of_R {own M w t j av v} (h : R M av v) : RV own M w t j av v := by
  cases av
  case agg cs =>
    simp only [R] at h
    obtain ⟨vs, rfl, hf, hs⟩ := h
    refine ⟨vs, rfl, ?_⟩
    induction cs generalizing vs j with
    | nil => simpa [Rs, ROs] using hs
    | cons c cs ih =>
      simp only [Rs] at hs
      obtain ⟨u, us, rfl, hu, hs⟩ := hs
      exact ⟨u, us, rfl, hf u (by simp), RO_of_R hu, ih us (fun x hx => hf x (by simp [hx])) hs⟩
  all_goals (simp only [RV]; exact RO_of_R h)

theorem R_un1_of_RO {own M w t j} {av : AV} {v : Value} (h : RO own M w t j av v) : R M av.un1 v := by
  cases av
  case oslice z es =>
    simp only [RO] at h
    obtain ⟨a, len, cap, rfl, hl, hc, hn, hr⟩ := h
    simp only [AV.un1, R]
    refine ⟨a, len, cap, rfl, hl, hc, hn, fun ha => ?_⟩
    obtain ⟨b, off, hb, hrow, _⟩ := hr (fun e => ha (hn e))
    exact ⟨b, off, hb, hrow⟩
  all_goals simpa [RO, AV.un1] using h

theorem Rs_un_of_ROs {own M w t} : ∀ {cs : List AV} {j : Nat} {vs : List Value}, ROs own M w t j cs vs → (∀ u ∈ vs, flat u = true) ∧ Rs M (cs.map AV.un1) vs
  | [], j, vs, h => by simp [ROs] at h; subst h; simp [Rs]
  | c :: cs, j, vs, h => by
    simp only [ROs] at h
    obtain ⟨u, us, rfl, hf, hu, hs⟩ := h
    obtain ⟨h1, h2⟩ := Rs_un_of_ROs hs
    exact ⟨by simpa [hf] using h1, u, us, rfl, R_un1_of_RO hu, h2⟩

theorem R_un_of_RV {own M w t j} {av : AV} {v : Value} (h : RV own M w t j av v) : R M av.un v := by
  cases av
  case agg cs =>
    simp only [RV] at h
    obtain ⟨vs, rfl, hs⟩ := h
    obtain ⟨h1, h2⟩ := Rs_un_of_ROs hs
    simp only [AV.un, R]
    exact ⟨vs, rfl, h1, h2⟩
  all_goals (simp only [RV] at h; exact R_un1_of_RO h)

end Go.Proofs.YtccmaeefedgcnaaGreat

namespace Go.Proofs.YtccmaeefedgcnaaGreat

def pushW (w : World) (o : Obj) (dr : Nat) : World := { w with heap := w.heap.push o, drawn := dr }
theorem pushW_new (w : World) (o : Obj) (dr : Nat) : (pushW w o dr).heap[w.heap.size]? = some o := by simp [pushW]
theorem pushW_old (w : World) (o : Obj) (dr : Nat) {b : Nat} (h : b ≠ w.heap.size) : (pushW w o dr).heap[b]? = w.heap[b]? := by
  simp only [pushW, Array.getElem?_push]; simp [h]
theorem pushW_size (w : World) (o : Obj) (dr : Nat) : (pushW w o dr).heap.size = w.heap.size + 1 := by simp [pushW]

theorem cell?_of_heap {w w' : World} {b o : Nat} (h : w'.heap[b]? = w.heap[b]?) : w'.cell? ⟨b, o, none⟩ = w.cell? ⟨b, o, none⟩ := by
  simp [World.cell?, h]
theorem cell?_cells {w : World} {b o : Nat} {vs : Array Value} {el : TypeId} {fz : Nat × Nat} (h : w.heap[b]? = some (.cells vs el fz)) : w.cell? ⟨b, o, none⟩ = vs[o]? := by
  simp [World.cell?, h]

theorem Base.lt {cx own M w} (h : Base cx own M w) {b o : Nat} {u : Value} (hm : M b o = some u) : b < w.heap.size :=
  World.block_lt_of_cell? w ⟨b, o, none⟩ (h.mem b o u hm)
theorem Base.fresh {cx own M w} (h : Base cx own M w) : own w.heap.size = .none := by
  by_cases hn : own w.heap.size = .none
  · exact hn
  · have := h.own_lt _ hn; omega
theorem Base.freshM {cx own M w} (h : Base cx own M w) (o : Nat) : M w.heap.size o = none := by
  cases hm : M w.heap.size o with
  | none => rfl
  | some u => have := h.lt hm; omega

def pushM (M : Mem) (n : Nat) (new : Nat → Option Value) : Mem := fun b o => if b = n then new o else M b o

theorem Base.pushMle {cx own M w} (h : Base cx own M w) (new : Nat → Option Value) : Mle M (pushM M w.heap.size new) := by
  intro b o u hm
  have := h.lt hm
  simp only [pushM]
  rw [if_neg (by omega)]; exact hm

theorem Base.push {cx own M w} (h : Base cx own M w) (o : Obj) (X : Own) (new : Nat → Option Value) (dr : Nat) 
    (hnew : ∀ k u, new k = some u → ∃ vs el fz, o = .cells vs el fz ∧ vs[k]? = some u) :
    Base cx (upd own w.heap.size X) (pushM M w.heap.size new) (pushW w o dr) where
  mem b k u hm := by
    by_cases hb : b = w.heap.size
    · subst hb
      simp only [pushM, if_true] at hm
      obtain ⟨vs, el, fz, rfl, hk⟩ := hnew k u hm
      rw [cell?_cells (pushW_new w _ dr)]; exact hk
    · simp only [pushM, hb, if_false] at hm
      rw [cell?_of_heap (pushW_old w o dr hb)]; exact h.mem b k u hm
  own_lt b hb := by
    rw [pushW_size]
    by_cases he : b = w.heap.size
    · omega
    · simp only [upd, he, if_false] at hb; have := h.own_lt b hb; omega
  own_new b hb := by
    by_cases he : b = w.heap.size
    · have := h.grow; left; omega
    · simp only [upd, he, if_false] at hb ⊢; exact h.own_new b hb
  mnew b k u hm := by
    by_cases hb : b = w.heap.size
    · right; have := h.grow; omega
    · simp only [pushM, hb, if_false] at hm; exact h.mnew b k u hm
  frame b hb ho := by
    have hg := h.grow
    have he : b ≠ w.heap.size := by omega
    simp only [upd, he, if_false] at ho
    rw [pushW_old w o dr he]; exact h.frame b hb ho
  grow := by rw [pushW_size]; have := h.grow; omega
  rest := h.rest

theorem Base.pushKeeps {cx own M w} (h : Base cx own M w) (o : Obj) (X : Own) (new : Nat → Option Value) (dr : Nat) {b : Nat} (hb : own b ≠ .none) :
    Keeps own M w (upd own w.heap.size X) (pushM M w.heap.size new) (pushW w o dr) b := by
  have := h.own_lt b hb
  have he : b ≠ w.heap.size := by omega
  exact ⟨by simp [upd, he], pushW_old w o dr he, fun o => by simp [pushM, he]⟩

theorem Rel.push {cx st ver M own tmps w} (h : Rel cx st ver M own tmps w) (o : Obj) (X : Own) (new : Nat → Option Value) (dr : Nat)
    (hnew : ∀ k u, new k = some u → ∃ vs el fz, o = .cells vs el fz ∧ vs[k]? = some u) :
    Rel cx st ver (pushM M w.heap.size new) (upd own w.heap.size X) tmps (pushW w o dr) :=
  h.step (h.base.push o X new dr hnew) (h.base.pushMle new) (fun _ hb => h.base.pushKeeps o X new dr hb) (by rw [pushW_size]; omega)

theorem Rel.drawn {cx st ver M own tmps w} (h : Rel cx st ver M own tmps w) (dr : Nat) : Rel cx st ver M own tmps { w with drawn := dr } :=
  h.step ⟨fun b o u hm => h.base.mem b o u hm, h.base.own_lt, h.base.own_new, h.base.mnew, h.base.frame, h.base.grow, h.base.rest⟩ (Mle.refl M) (fun _ _ => ⟨rfl, rfl, fun _ => rfl⟩) (Nat.le_refl _)

/-- A slot's content is said anew; the frame does not change. -/
theorem Rel.setSlot {cx st ver M own tmps w} (h : Rel cx st ver M own tmps w) {t : Nat} {av : AV} (hs : RSlot cx ver own M w tmps t av) :
    Rel cx { st with e := upd st.e t av } ver M own tmps w where
  base := h.base
  size := h.size
  slot u := by
    by_cases hu : u = t
    · subst hu; simpa [upd] using hs
    · simp only [upd, hu, if_false]; exact h.slot u
  heap := h.heap
  nx := h.nx

/-- A step that touches blocks of slot t alone, of which nothing is said. -/
theorem Rel.stepX {cx st ver M own tmps w} {M' : Mem} {own' : Nat → Own} {w' : World} (h : Rel cx st ver M own tmps w) (t : Nat) (ht : st.e t = .undef)
    (hb : Base cx own' M' w') (hm : Mle M M')
    (hk : ∀ b, own b ≠ .none → own b ≠ .box t → (∀ j, own b ≠ .spare t j) → Keeps own M w own' M' w' b) (hsz : w.heap.size ≤ w'.heap.size) :
    Rel cx st ver M' own' tmps w' where
  base := hb
  size := h.size
  slot u := by
    by_cases hu : u = t
    · subst hu; exact .inl ht
    · refine RSlot_mono hm (fun b hb => hk b ?_ ?_ ?_) (h.slot u)
      · rcases hb with hb | ⟨j, hb⟩ <;> simp [hb]
      · rcases hb with hb | ⟨j, hb⟩ <;> simp [hb, hu]
      · intro j'; rcases hb with hb | ⟨j, hb⟩ <;> simp [hb, hu]
  heap b cs hbc := by
    obtain ⟨h1, h2, h3⟩ := h.heap b cs hbc
    obtain ⟨k1, k2, k3⟩ := hk b (by simp [h2]) (by simp [h2]) (by simp [h2])
    exact ⟨h1, k1.trans h2, RHeap_mono hm k2 k3 h3⟩
  nx := Nat.le_trans h.nx hsz

/-- A new block of one's own in slot d. -/
theorem Rel.newboxV {cx st ver M own tmps w} (h : Rel cx st ver M own tmps w) {d : Nat} (hd : d < cx.n) (hb : cx.boxed d = true) {av : AV} {o : Obj} {dr : Nat} {pv : Value}
    (hv : RBoxV (upd own w.heap.size (.box d)) (pushM M w.heap.size fun _ => none) (pushW w o dr) d av pv) :
    ∃ M' own', Mle M M' ∧ Rel cx { st with e := upd st.e d av } (upd ver d (ver d + 1)) M' own' (tmps.setIfInBounds d pv) (pushW w o dr) := by
  have hp := h.push o (.box d) (fun _ => none) dr (by simp)
  refine ⟨pushM M w.heap.size fun _ => none, upd own w.heap.size (.box d), h.base.pushMle _, ?_⟩
  have hd' : d < tmps.size := by rw [h.size]; exact hd
  constructor
  · exact hp.base
  · simp [h.size]
  · intro t
    by_cases ht : t = d
    · subst ht
      refine .inr ⟨_, by rw [get_set hd', if_pos rfl], ?_⟩
      rw [if_pos hb]
      simp only [upd_same]
      exact hv
    · simp only [upd_other _ _ ht]
      refine (hp.slot t).imp id ?_
      rintro ⟨v, hv, hr⟩
      refine ⟨v, by rw [get_set hd', if_neg (by omega)]; exact hv, ?_⟩
      by_cases hbt : cx.boxed t = true
      · rw [if_pos hbt] at hr ⊢; exact hr
      · rw [if_neg hbt] at hr ⊢
        cases hav : st.e t <;> rw [hav] at hr <;> first | exact hr | skip
        case bptr u off k =>
          by_cases hu : u = d
          · subst hu
            refine ⟨by rw [upd_same]; have := hr.1; omega, fun hk => ?_⟩
            rw [upd_same] at hk
            have := hr.1; omega
          · refine ⟨by rw [upd_other _ _ hu]; exact hr.1, fun hk => ?_⟩
            rw [upd_other _ _ hu] at hk
            obtain ⟨h1, b, h2, h3⟩ := hr.2 hk
            exact ⟨h1, b, by rw [get_set hd', if_neg (by omega)]; exact h2, h3⟩
  · exact hp.heap
  · exact hp.nx

theorem Rel.newbox {cx st ver M own tmps w} (h : Rel cx st ver M own tmps w) {d : Nat} (hd : d < cx.n) (hb : cx.boxed d = true) {av : AV} {vs : List Value} {el : TypeId} {dr : Nat}
    (hv : ROs own M w d 0 av.cells vs) (hnm : av.special = false) :
    ∃ M' own', Mle M M' ∧ Rel cx { st with e := upd st.e d av } (upd ver d (ver d + 1)) M' own' (tmps.setIfInBounds d (.pointer (some ⟨w.heap.size, 0, none⟩))) (pushW w (.cells vs.toArray el (0, 0)) dr) := by
  refine h.newboxV hd hb (RBoxV_mk hnm ⟨by simp [upd], fun o => by simp [pushM], vs, el, pushW_new w _ dr, ?_⟩)
  have := ROs_mono (own' := upd own w.heap.size (.box d)) (M' := pushM M w.heap.size fun _ => none) (w' := pushW w (.cells vs.toArray el (0, 0)) dr) (t' := d) (k := 0)
    (h.base.pushMle _) (fun b i _ _ hbi => by
      have := h.base.pushKeeps (.cells vs.toArray el (0, 0)) (.box d) (fun _ => none) dr (b := b) (by simp [hbi])
      exact ⟨this.1.trans hbi, this.2⟩) hv
  simpa using this

def retag (own : Nat → Own) (s d k : Nat) : Nat → Own := fun b => match own b with
  | .spare t j => if t = s then .spare d (j + k) else .spare t j
  | o => o

theorem retag_none {own : Nat → Own} {s d k b : Nat} : retag own s d k b = .none ↔ own b = .none := by
  unfold retag; split <;> (try split) <;> simp_all
theorem retag_heap {own : Nat → Own} {s d k b : Nat} : retag own s d k b = .heap ↔ own b = .heap := by
  unfold retag; split <;> (try split) <;> simp_all

theorem Base.retag {cx own M w} (h : Base cx own M w) (s d k : Nat) : Base cx (retag own s d k) M w where
  mem := h.mem
  own_lt b hb := h.own_lt b (fun e => hb (retag_none.2 e))
  own_new b hb := (h.own_new b (fun e => hb (retag_none.2 e))).imp id (fun x => ⟨retag_heap.2 x.1, x.2⟩)
  mnew := h.mnew
  frame b hb ho := h.frame b hb (retag_none.1 ho)
  grow := h.grow
  rest := h.rest

/-- A value is moved out of a plain slot, to the places (d, k), (d, k + 1), .. -/
theorem Rel.take {cx st ver M own tmps w} (h : Rel cx st ver M own tmps w) {s : Nat} (d k : Nat) (hb : cx.boxed s = false) (hu : st.e s ≠ .undef) (hp : ∀ u off k, st.e s ≠ .bptr u off k) :
    ∃ own', Rel cx { st with e := upd st.e s .undef } ver M own' tmps w ∧ RV own' M w d k (st.e s) (tmps.getD s undef) := by
  have hf := h.forget s
  refine ⟨retag own s d k, ?_, ?_⟩
  · refine hf.stepX s (by simp [upd]) (h.base.retag s d k) (Mle.refl M) (fun b h1 _ h3 => ⟨?_, rfl, fun _ => rfl⟩) (Nat.le_refl _)
    unfold retag; split
    · rename_i t j ho; rw [if_neg (by rintro rfl; exact h3 j ho)]; exact ho.symm
    · rfl
  · rcases h.slot s with h0 | ⟨v, hv, hr⟩
    · exact absurd h0 hu
    · rw [if_neg (by simp [hb])] at hr
      have hg : tmps.getD s undef = v := by simp [Array.getD_eq_getD_getElem?, hv]
      rw [hg]
      have key : RV own M w s 0 (st.e s) v := by
        cases hav : st.e s <;> rw [hav] at hr <;> first | exact hr | exact absurd hav (hp _ _ _)
      have := RV_mono (own' := retag own s d k) (t' := d) (k := k) (w' := w) (Mle.refl M) (fun b i hbi => ⟨by simp [retag, hbi], rfl, fun _ => rfl⟩) key
      simpa using this

end Go.Proofs.YtccmaeefedgcnaaGreat

namespace Go.Proofs.YtccmaeefedgcnaaGreat

inductive Opd where
  | t (s : Nat) (mv : Bool)
  | c (v : AV)
  deriving Inhabited

def Opd.val (st : St) : Opd → AV
  | .t s true => st.e s
  | .t s false => (st.e s).un
  | .c v => v

def Opd.done (st : St) : Opd → St
  | .t s true => { st with e := upd st.e s .undef }
  | _ => st

def Opd.reads : Opd → List Nat
  | .t s _ => [s]
  | .c _ => []
def Opd.writes : Opd → List Nat
  | .t s true => [s]
  | _ => []

inductive Cv where
  | int (k : IntKind)
  | same
  | b2s
  deriving DecidableEq, Inhabited

inductive AOp where
  | mv (d : Nat) (x : Opd)
  | take (d s : Nat)
  | pick (d : Nat) (c a b : Opd)
  | balloc (d : Nat) (z : AV)
  | bbox (d : Nat) (x : Opd)
  | baddr (d t off : Nat)
  | paddr (d p : Nat) (rt : Option Nat) (off : Nat)
  | bload (d t : Nat) (p : Option Nat) (n : Option Nat) (tk : Bool)
  | vload (d p : Nat) (n : Option Nat)
  | bstore (t : Nat) (p : Option Nat) (x : Opd) (n : Nat)
  | idx (d : Nat) (s i : Opd) (z : Nat)
  | bidx (d t : Nat) (p : Option Nat) (i : Opd) (len z : Nat)
  | field (d : Nat) (x : Opd) (off : Nat) (n : Option Nat)
  | aidx (d : Nat) (x i : Opd) (len z : Nat) (n : Option Nat)
  | sidx (d : Nat) (s i : Opd)
  | bin (d : Nat) (op : BinOp) (bl : Bool) (x y : Opd)
  | un (d : Nat) (op : UnOp) (x : Opd)
  | conv (d : Nat) (c : Cv) (x : Opd)
  | sslice (d : Nat) (x : Opd) (lo hi : Option Opd)
  | lslice (d : Nat) (x : Opd) (lo hi : Option Opd) (z : Nat)
  | build (d : Nat) (z : List AV) (parts : List (Nat × Nat × Opd))
  | mkslice (d : Nat) (z : Nat) (xs : List Opd)
  | len (d : Nat) (isStr : Bool) (x : Opd)
  | append (d : Nat) (s x : Opd) (z by_ : Nat)
  | call (d : Option Nat) (f : FuncId) (xs : List Opd)
  | extract (d : Nat) (x : Opd) (i : Nat)
  | aeq (d : Nat) (neg : Bool) (x y : Opd) (sh : List AV)
  | grow (d f : Nat) (n : Opd) (z : Nat)
  | mkmap (d : Nat)
  | mvb (d s : Nat)
  | malias (d t : Nat)
  | mlook (d t : Nat) (p : Option Nat) (k : Opd) (z : AV) (sh : List AV) (ag two : Bool)
  | mentry (d t : Nat) (p : Option Nat) (k : Opd) (z : AV) (sh : List AV) (ag : Bool)
  | mestore (t : Nat) (p : Option Nat) (stamp x : Opd)
  | bot (d : Option Nat)
  | btk (d t : Nat) (p : Option Nat) (off : Nat)
  | xapp (d : Nat) (s x : Opd) (z by_ : Nat)
  | xcall (d : Option Nat) (f t : Nat) (p : Option Nat)
  | xcut (d f t : Nat) (p : Option Nat)
  | xfreeze (d t : Nat)
  deriving Inhabited

/-- The world behind a call: what lay there lies there as it was. -/
structure Ext (w w' : World) : Prop where
  size : w.heap.size ≤ w'.heap.size
  old : ∀ b, b < w.heap.size → w'.heap[b]? = w.heap[b]?
  rest : w'.os = w.os ∧ w'.output = w.output ∧ w'.tape = w.tape

/-- A CONTRACT: called with what reads as args, f returns what reads as r; nothing that was there has changed. -/
def Sound (P : Program) (f : FuncId) (args : List AV) (r : AV) : Prop :=
  ∀ (M : Mem) (w : World) (vals : List Value), (∀ b o u, M b o = some u → w.cell? ⟨b, o, none⟩ = some u) → Rs M args vals →
    Calls P f vals.toArray w fun e w' => ∃ v M', e = .returned v ∧ Mle M M' ∧ (∀ b o u, M' b o = some u → w'.cell? ⟨b, o, none⟩ = some u) ∧
      (∀ b o u, M' b o = some u → M b o = some u ∨ w.heap.size ≤ b) ∧ R M' r v ∧ Ext w w'

def AV.data : AV → Bool
  | .undef | .bptr .. | .dead | .omap .. | .xslice .. => false
  | _ => true

def AV.isTrue : AV → Bool
  | .bool b => b
  | _ => false

/-- What can lie in a cell, or in several. -/
def AV.solid : AV → Bool
  | .undef | .bptr .. | .tup _ | .dead | .omap .. | .xslice .. => false
  | _ => true

/-- The part of some cells that begins at off. -/
def subs (cs : List AV) (off : Nat) : Option Nat → AV
  | none => cs.getD off .undef
  | some n => .agg ((cs.drop off).take n)

def setRange (cs : List AV) (off : Nat) (xs : List AV) : List AV := cs.take off ++ xs ++ cs.drop (off + xs.length)
def AV.ofCells (old : AV) (cs : List AV) : AV := match old with
  | .agg _ => .agg cs
  | _ => cs.headD .undef

def ptrOff (st : St) (ver : Nat → Nat) (t : Nat) : Option Nat → Option Nat
  | none => some 0
  | some p => match st.e p with
    | .bptr t' off k => if t' = t ∧ k = ver t then some off else none
    | _ => none

def toNatAV : AV → Option Nat
  | .int _ n => if 0 ≤ n then some n.toNat else none
  | _ => none

def optNat (st : St) (dflt : Nat) : Option Opd → Option Nat
  | none => some dflt
  | some x => toNatAV (x.val st)

def intBin (op : BinOp) (k : IntKind) (a b : Int) : AV := match op with
  | .add => .int k (k.wrap (a + b))
  | .sub => .int k (k.wrap (a - b))
  | .mul => .int k (k.wrap (a * b))
  | .quo => .int k (k.wrap (a.tdiv b))
  | .rem => .int k (a.tmod b)
  | .and => .int k (k.wrap ((BitVec.ofInt k.bits a &&& BitVec.ofInt k.bits b).toNat : Int))
  | .or => .int k (k.wrap ((BitVec.ofInt k.bits a ||| BitVec.ofInt k.bits b).toNat : Int))
  | .xor => .int k (k.wrap ((BitVec.ofInt k.bits a ^^^ BitVec.ofInt k.bits b).toNat : Int))
  | .andNot => .int k (k.wrap ((BitVec.ofInt k.bits a &&& ~~~BitVec.ofInt k.bits b).toNat : Int))
  | .shl => .int k (k.wrap (a * 2 ^ min b.toNat k.bits))
  | .shr => .int k (a.fdiv (2 ^ min b.toNat k.bits))
  | .eql => .bool (a == b)
  | .neq => .bool (a != b)
  | .lss => .bool (a < b)
  | .leq => .bool (a ≤ b)
  | .gtr => .bool (a > b)
  | .geq => .bool (a ≥ b)

def strBin (op : BinOp) (a b : List UInt8) : AV := match op with
  | .add => .str (a ++ b)
  | .eql => .bool (a == b)
  | .neq => .bool (!(a == b))
  | .lss => .bool (Op.bytesLess a b)
  | .leq => .bool (Op.bytesLess a b || a == b)
  | .gtr => .bool (!(Op.bytesLess a b || a == b))
  | .geq => .bool (!Op.bytesLess a b)
  | _ => .undef

def sameCells : List AV → List AV → Option Bool
  | [], [] => some true
  | .int k a :: xs, .int k' b :: ys => if k = k' then (sameCells xs ys).map fun r => a == b && r else none
  | .str a :: xs, .str b :: ys => (sameCells xs ys).map fun r => a == b && r
  | .bool a :: xs, .bool b :: ys => (sameCells xs ys).map fun r => a == b && r
  | _, _ => none

def binOut (op : BinOp) : AV → AV → AV
  | .int k a, .int _ b => intBin op k a b
  | .str a, .str b => strBin op a b
  | .bool a, .bool b => match op with | .eql => .bool (a == b) | .neq => .bool (!(a == b)) | _ => .undef
  | _, _ => .undef

def binOk (op : BinOp) (bl : Bool) : AV → AV → Prop
  | .int k _, .int k' b => match op with
    | .shl | .shr => 0 ≤ b
    | .quo | .rem => k = k' ∧ b ≠ 0
    | _ => k = k'
  | .str a, .str b => match op with
    | .add => a.length + b.length ≤ 9223372036854775807
    | .eql | .neq | .lss | .leq | .gtr | .geq => True
    | _ => False
  | .bool _, .bool _ => match op with | .eql | .neq => bl = true | _ => False
  | _, _ => False

def unOut (op : UnOp) : AV → AV
  | .int k n => match op with
    | .neg => .int k (k.wrap (0 - n))
    | _ => .undef
  | .bool b => match op with | .not => .bool (!b) | _ => .undef
  | _ => .undef
def unOk (op : UnOp) : AV → Prop
  | .int _ _ => op = .neg
  | .bool _ => op = .not
  | _ => False

def byteOf : AV → Option UInt8
  | .int .u8 n => if 0 ≤ n ∧ n < 256 then some (UInt8.ofNat n.toNat) else none
  | _ => none

def convOut (c : Cv) : AV → AV
  | .int _ n => match c with | .int k => .int k (k.wrap n) | _ => .undef
  | .str s => match c with | .same => .str s | _ => .undef
  | .slice _ es => match c with | .b2s => (match es.mapM byteOf with | some l => .str l | none => .undef) | _ => .undef
  | _ => .undef
def convOk (c : Cv) : AV → Prop
  | .int _ _ => match c with | .int _ => True | _ => False
  | .str _ => c = .same
  | .slice z es => c = .b2s ∧ z = 1 ∧ (es.mapM byteOf).isSome = true
  | _ => False

def lenOut : AV → AV
  | .str s => .int .i64 s.length
  | .slice _ es => .int .i64 es.length
  | _ => .undef
def lenOk (isStr : Bool) : AV → Prop
  | .str _ => isStr = true
  | .slice .. => isStr = false
  | _ => False

def fillParts (st : St) : List AV → List (Nat × Nat × Opd) → List AV
  | cs, [] => cs
  | cs, (off, _, x) :: rest => fillParts st (setRange cs off (x.val st).cells) rest
def partsOk (st : St) (n : Nat) : List (Nat × Nat × Opd) → Prop
  | [] => True
  | (off, sz, x) :: rest => ((x.val st).solid = true ∧ (x.val st).cells.length = sz ∧ off + sz ≤ n) ∧ partsOk st n rest

def elemsOk (st : St) (z : Nat) : List Opd → Prop
  | [] => True
  | x :: rest => ((x.val st).solid = true ∧ (x.val st).cells.length = z) ∧ elemsOk st z rest
def argsOk (st : St) : List Opd → Prop
  | [] => True
  | x :: rest => (x.val st).data = true ∧ argsOk st rest

/-- The place that an operation writes, when it writes a plain slot. -/
def put (st : St) (d : Nat) (v : AV) : St := { st with e := upd st.e d v }

def sameSh : AV → AV → Bool
  | .int k _, .int k' _ => k == k'
  | .str _, .str _ => true
  | .bool _, .bool _ => true
  | _, _ => false
/-- Whether cells are of a shape (of integers, strings and bools alone). -/
def fitsSh : List AV → List AV → Bool
  | [], [] => true
  | s :: sh, c :: cs => sameSh s c && fitsSh sh cs
  | _, _ => false
def cellEq : AV → AV → Bool
  | .int _ a, .int _ b => a == b
  | .str a, .str b => a == b
  | .bool a, .bool b => a == b
  | _, _ => false
def eqCells : List AV → List AV → Bool
  | [], [] => true
  | a :: as, b :: bs => cellEq a b && eqCells as bs
  | _, _ => false

/-- What a function does to a row in place (or to an empty one). -/
def InPlace (P : Program) (f : FuncId) (z : Nat) (es es' : List AV) : Prop := es'.length = es.length ∧ ∀ (M : Mem) (w : World) (a : Option Addr) (cap : Nat), (∀ b o u, M b o = some u → w.cell? ⟨b, o, none⟩ = some u) →
  (es = [] → Calls P f #[.slice a 0 cap] w fun e w' => e = .returned (.tuple #[]) ∧ w' = w) ∧
  ∀ b off (vs : Array Value) el us, es ≠ [] → a = some ⟨b, off, none⟩ → w.heap[b]? = some (.cells vs el (0, 0)) → es.length ≤ cap → off + cap * z ≤ vs.size → RowL M z es us → (∀ (i : Nat) u, us[i]? = some u → vs[off + i]? = some u) →
    Calls P f #[.slice a es.length cap] w fun e w' => e = .returned (.tuple #[]) ∧ ∃ (vs' : Array Value) (us' : List Value), w'.heap[b]? = some (.cells vs' el (0, 0)) ∧ vs'.size = vs.size ∧ (∀ o, o < off → vs'[o]? = vs[o]?) ∧ RowL M z es' us' ∧
      (∀ (i : Nat) u, us'[i]? = some u → vs'[off + i]? = some u) ∧ (∀ b', b' < w.heap.size → b' ≠ b → w'.heap[b']? = w.heap[b']?) ∧ w.heap.size ≤ w'.heap.size ∧ w'.os = w.os ∧ w'.output = w.output ∧ w'.tape = w.tape
/-- The same of a function that answers the row's beginning. -/
def InCut (P : Program) (f : FuncId) (z : Nat) (es es' : List AV) : Prop := es'.length ≤ es.length ∧ ∀ (M : Mem) (w : World) (a : Option Addr) (cap : Nat), (∀ b o u, M b o = some u → w.cell? ⟨b, o, none⟩ = some u) →
  (es = [] → Calls P f #[.slice a 0 cap] w fun e w' => e = .returned (.slice a 0 cap) ∧ w' = w) ∧
  ∀ b off (vs : Array Value) el us, es ≠ [] → a = some ⟨b, off, none⟩ → w.heap[b]? = some (.cells vs el (0, 0)) → es.length ≤ cap → off + cap * z ≤ vs.size → RowL M z es us → (∀ (i : Nat) u, us[i]? = some u → vs[off + i]? = some u) →
    Calls P f #[.slice a es.length cap] w fun e w' => e = .returned (.slice a es'.length cap) ∧ ∃ (vs' : Array Value) (us' : List Value), w'.heap[b]? = some (.cells vs' el (0, 0)) ∧ vs'.size = vs.size ∧ (∀ o, o < off → vs'[o]? = vs[o]?) ∧ RowL M z es' us' ∧
      (∀ (i : Nat) u, us'[i]? = some u → vs'[off + i]? = some u) ∧ (∀ b', b' < w.heap.size → b' ≠ b → w'.heap[b']? = w.heap[b']?) ∧ w.heap.size ≤ w'.heap.size ∧ w'.os = w.os ∧ w'.output = w.output ∧ w'.tape = w.tape
def xsOf : AV → Nat × List AV
  | .xslice z es => (z, es)
  | _ => (0, [])
def isXs : AV → Bool
  | .xslice .. => true
  | _ => false

/-- What slices.Grow does of nothing. -/
def GrowAt (P : Program) (f : FuncId) (z k : Nat) : Prop := ∀ w, Calls P f #[.slice none 0 0, .int .i64 k] w fun e w' =>
  (e = .returned (.slice none 0 0) ∧ w' = w) ∨ ∃ cap vs el dr, e = .returned (.slice (some ⟨w.heap.size, 0, none⟩) 0 cap) ∧ w' = pushW w (.cells vs el (0, 0)) dr ∧ cap * z ≤ vs.size

def isMap : AV → Bool
  | .omap ks vs _ _ => ks.length == vs.length
  | _ => false
def mapOf : AV → List AV × List AV × List Nat × Nat
  | .omap ks vs bs clk => (ks, vs, bs, clk)
  | _ => ([], [], [], 0)
/-- A key's place among others. -/
def keyIdx (k : AV) : List AV → Option Nat
  | [] => none
  | k' :: ks => if eqCells k.cells k'.cells then some 0 else (keyIdx k ks).map (· + 1)
def isAgg' : AV → Bool
  | .agg _ => true
  | _ => false
def keyFit (sh : List AV) (ag : Bool) (k : AV) : Bool := fitsSh sh k.cells && (isAgg' k == ag)
def keyOk (sh : List AV) (ag : Bool) (k m : AV) : Bool := keyFit sh ag k && (mapOf m).1.all (keyFit sh ag)
def stampIn (n : Int) (m : AV) : Bool := (mapOf m).2.2.1.any fun b : Nat => (b : Int) == n
def mapLook (m k z : AV) : AV × Bool := match keyIdx k (mapOf m).1 with
  | some i => ((mapOf m).2.1.getD i .undef, true)
  | none => (z, false)
def mapEnter (m k z : AV) : AV × AV := match keyIdx k (mapOf m).1 with
  | some i => (.tup [(mapOf m).2.1.getD i .undef, .int .i64 ((mapOf m).2.2.1.getD i 0 : Nat)], m)
  | none => (.tup [z, .int .i64 ((mapOf m).2.2.2 : Nat)], .omap ((mapOf m).1 ++ [k]) ((mapOf m).2.1 ++ [z]) ((mapOf m).2.2.1 ++ [(mapOf m).2.2.2]) ((mapOf m).2.2.2 + 1))
def mapPut (m : AV) (n : Int) (x : AV) : AV := match m with
  | .omap ks vs bs clk => .omap ks (match bs.findIdx? (fun b : Nat => (b : Int) == n) with | some i => vs.set i x | none => vs) bs clk
  | m => m
def intOf' : AV → Int
  | .int _ n => n
  | _ => 0

/-- What an operation asks. The AV r is what a call answers. -/
def AOp.ok (P : Program) (r : AV) (st : St) (ver : Nat → Nat) : AOp → Prop
  | .mv _ x => (x.val st).data = true
  | .take _ s => (st.e s).data = true
  | .pick _ c a b => ∃ t, c.val st = .bool t ∧ (if t then a.val st else b.val st).data = true
  | .balloc _ _ => True
  | .bbox _ x => (x.val st).solid = true
  | .baddr _ t _ => st.e t ≠ .undef ∧ 0 < (st.e t).cells.length
  | .paddr _ p rt _ => match st.e p with | .vptr .. => True | .bptr t _ k => (rt = some t ∧ k = ver t) ∧ st.e t ≠ .undef ∧ 0 < (st.e t).cells.length | _ => False
  | .bload _ t p n tk => (st.e t ≠ .undef ∧ 0 < (st.e t).cells.length) ∧ (tk = true → n = none) ∧ ∃ off, ptrOff st ver t p = some off ∧ off + n.getD 1 ≤ (st.e t).cells.length
  | .vload _ p n => match st.e p with | .vptr cs off => off + n.getD 1 ≤ cs.length | _ => False
  | .bstore t p x n => (st.e t ≠ .undef ∧ 0 < (st.e t).cells.length) ∧ (x.val st).solid = true ∧ (x.val st).cells.length = n ∧ ∃ off, ptrOff st ver t p = some off ∧ off + n ≤ (st.e t).cells.length
  | .idx _ s i z => match s.val st, i.val st with | .slice z' es, .int _ n => z' = z ∧ 0 ≤ n ∧ n < es.length | _, _ => False
  | .bidx _ t p i ln _ => (st.e t ≠ .undef ∧ 0 < (st.e t).cells.length) ∧ (ptrOff st ver t p).isSome = true ∧ match i.val st with | .int _ n => 0 ≤ n ∧ n < ln | _ => False
  | .field _ x off n => match x.val st with | .agg cs => off + n.getD 1 ≤ cs.length | _ => False
  | .aidx _ x i ln z n => match x.val st, i.val st with | .agg cs, .int _ k => 0 ≤ k ∧ k < ln ∧ k.toNat * z + n.getD 1 ≤ cs.length | _, _ => False
  | .sidx _ s i => match s.val st, i.val st with | .str l, .int _ n => 0 ≤ n ∧ n < l.length | _, _ => False
  | .bin _ op bl x y => binOk op bl (x.val st) (y.val st)
  | .un _ op x => unOk op (x.val st)
  | .conv _ c x => convOk c (x.val st)
  | .sslice _ x lo hi => match x.val st with | .str l => ∃ a b, optNat st 0 lo = some a ∧ optNat st l.length hi = some b ∧ a ≤ b ∧ b ≤ l.length | _ => False
  | .lslice _ x lo hi z => match x.val st with | .slice z' es => z' = z ∧ ∃ a b, optNat st 0 lo = some a ∧ optNat st es.length hi = some b ∧ a ≤ b ∧ b ≤ es.length | _ => False
  | .build _ z parts => partsOk st z.length parts
  | .mkslice _ z xs => elemsOk st z xs
  | .len _ is x => lenOk is (x.val st)
  | .append _ s x z by_ => match s.val st, x.val st with | .oslice z' es, .slice z'' fs => z' = z ∧ z'' = z ∧ (es.length + fs.length) * by_ ≤ 140737488355328 | _, _ => False
  | .call _ f xs => argsOk st xs ∧ Sound P f (xs.map (Opd.val st)) r ∧ r.data = true
  | .extract _ x i => match x.val st with | .tup vs => i < vs.length ∧ (vs.getD i .undef).data = true | _ => False
  | .aeq _ _ x y sh => fitsSh sh (x.val st).cells = true ∧ fitsSh sh (y.val st).cells = true ∧ (∃ cs, x.val st = .agg cs) ∧ ∃ cs, y.val st = .agg cs
  | .grow _ f n z => ∃ k : Nat, n.val st = .int .i64 k ∧ GrowAt P f z k
  | .mkmap _ => True
  | .mvb _ s => (st.e s).special = true
  | .malias _ t => (st.e t).special = true
  | .mlook _ t p k z sh ag _ => isMap (st.e t) = true ∧ ptrOff st ver t p = some 0 ∧ keyOk sh ag (k.val st) (st.e t) = true
  | .mentry _ t p k z sh ag => isMap (st.e t) = true ∧ ptrOff st ver t p = some 0 ∧ keyOk sh ag (k.val st) (st.e t) = true
  | .mestore t p s x => isMap (st.e t) = true ∧ ptrOff st ver t p = some 0 ∧ (x.val st).solid = true ∧ ∃ k n, s.val st = .int k n ∧ stampIn n (st.e t) = true
  | .bot _ => False
  | .xapp _ s x z by_ => match s.val st, x.val st with | .oslice z' [], .slice z'' fs => z' = z ∧ z'' = z ∧ fs.length * by_ ≤ 140737488355328 | _, _ => False
  | .xcall _ f t p => ∃ z es es', st.e t = .xslice z es ∧ ptrOff st ver t p = some 0 ∧ r = .xslice z es' ∧ InPlace P f z es es'
  | .xcut _ f t p => ∃ z es es', st.e t = .xslice z es ∧ ptrOff st ver t p = some 0 ∧ r = .slice z es' ∧ InCut P f z es es'
  | .xfreeze _ t => isXs (st.e t) = true
  | .btk _ t p off => isAgg' (st.e t) = true ∧ ptrOff st ver t p = some off ∧ off + 1 ≤ (st.e t).cells.length

def natOf : AV → Nat
  | .int _ n => n.toNat
  | _ => 0

/-- The state behind an operation. -/
def AOp.next (r : AV) (st : St) (ver : Nat → Nat) : AOp → St × (Nat → Nat)
  | .mv d x => (put (x.done st) d (x.val st), ver)
  | .take d s => (put (put st s (st.e s).un) d (st.e s), ver)
  | .pick d c a b => (put st d (if (c.val st).isTrue then a.val st else b.val st), ver)
  | .balloc d z => (put st d z, upd ver d (ver d + 1))
  | .bbox d x => (put (x.done st) d (x.val st), upd ver d (ver d + 1))
  | .baddr d t off => (put st d (.bptr t off (ver t)), ver)
  | .paddr d p _ off => (put st d (match st.e p with | .vptr cs o => .vptr cs (o + off) | .bptr t o k => .bptr t (o + off) k | _ => .undef), ver)
  | .bload d t p n tk => (let off := (ptrOff st ver t p).getD 0
      if tk then put (put st t (AV.ofCells (st.e t) ((st.e t).cells.set off ((st.e t).cells.getD off .undef).un1))) d (subs (st.e t).cells off n)
      else put st d (subs ((st.e t).cells.map AV.un1) off n), ver)
  | .vload d p n => (put st d (match st.e p with | .vptr cs off => subs cs off n | _ => .undef), ver)
  | .bstore t p x _ => (put (x.done st) t (AV.ofCells (st.e t) (setRange (st.e t).cells ((ptrOff st ver t p).getD 0) (x.val st).cells)), ver)
  | .idx d s i _ => (put st d (match s.val st with | .slice _ es => .vptr (es.getD (natOf (i.val st)) .undef).cells 0 | _ => .undef), ver)
  | .bidx d t p i _ z => (put st d (.bptr t ((ptrOff st ver t p).getD 0 + natOf (i.val st) * z) (ver t)), ver)
  | .field d x off n => (put st d (match x.val st with | .agg cs => subs cs off n | _ => .undef), ver)
  | .aidx d x i _ z n => (put st d (match x.val st with | .agg cs => subs cs (natOf (i.val st) * z) n | _ => .undef), ver)
  | .sidx d s i => (put st d (match s.val st with | .str l => .int .u8 (l.getD (natOf (i.val st)) 0).toNat | _ => .undef), ver)
  | .bin d op _ x y => (put st d (binOut op (x.val st) (y.val st)), ver)
  | .un d op x => (put st d (unOut op (x.val st)), ver)
  | .conv d c x => (put st d (convOut c (x.val st)), ver)
  | .sslice d x lo hi => (put st d (match x.val st with | .str l => .str ((l.take ((optNat st l.length hi).getD 0)).drop ((optNat st 0 lo).getD 0)) | _ => .undef), ver)
  | .lslice d x lo hi z => (put st d (match x.val st with | .slice _ es => .slice z ((es.take ((optNat st es.length hi).getD 0)).drop ((optNat st 0 lo).getD 0)) | _ => .undef), ver)
  | .build d z parts => (put st d (.agg (fillParts st z parts)), ver)
  | .mkslice d z xs => (put st d (.oslice z (xs.map (Opd.val st))), ver)
  | .len d _ x => (put st d (lenOut (x.val st)), ver)
  | .append d s x z _ => (put (s.done st) d (match s.val st, x.val st with | .oslice _ es, .slice _ fs => .oslice z (es ++ fs) | _, _ => .undef), ver)
  | .call d _ _ => ((match d with | some d => put st d r | none => st), ver)
  | .extract d x i => (put st d (match x.val st with | .tup vs => vs.getD i .undef | _ => .undef), ver)
  | .aeq d neg x y _ => (put st d (.bool (if neg then !eqCells (x.val st).cells (y.val st).cells else eqCells (x.val st).cells (y.val st).cells)), ver)
  | .grow d _ _ z => (put st d (.oslice z []), ver)
  | .mkmap d => (put st d (.omap [] [] [] 0), upd ver d (ver d + 1))
  | .mvb d s => (put (put st s .undef) d (st.e s), upd ver d (ver d + 1))
  | .malias d t => (put st d (.bptr t 0 (ver t)), ver)
  | .mlook d t _ k z _ _ two => (put st d (if two then .tup [(mapLook (st.e t) (k.val st) z).1, .bool (mapLook (st.e t) (k.val st) z).2] else (mapLook (st.e t) (k.val st) z).1), ver)
  | .mentry d t _ k z _ _ => (put (put st t (mapEnter (st.e t) (k.val st) z).2) d (mapEnter (st.e t) (k.val st) z).1, ver)
  | .mestore t _ s x => (put st t (mapPut (st.e t) (intOf' (s.val st)) (x.val st)), ver)
  | .bot d => ((match d with | some d => put st d .undef | none => st), ver)
  | .xapp d s x z _ => (put (s.done st) d (match x.val st with | .slice _ fs => .xslice z fs | _ => .undef), upd ver d (ver d + 1))
  | .xcall d _ t _ => ((match d with | some d => put (put st t r) d (.tup []) | none => put st t r), ver)
  | .xcut d _ t _ => (put (put st t .undef) d r, ver)
  | .xfreeze d t => (put (put st t .undef) d (.slice (xsOf (st.e t)).1 (xsOf (st.e t)).2), ver)
  | .btk d t _ off => (put (put st t (AV.ofCells (st.e t) ((st.e t).cells.set off ((st.e t).cells.getD off .undef).un1))) d ((st.e t).cells.getD off .undef), ver)

end Go.Proofs.YtccmaeefedgcnaaGreat

namespace Go.Proofs.YtccmaeefedgcnaaGreat

structure CE where
  P : Program
  boxed : Nat → Bool
  n : Nat
  mvs : Nat → Bool
  takes : Nat → Bool
  root : Nat → Option Nat
  off : Nat → Option Nat
  grow : Nat → Option Nat
  inpl : Nat → Option Bool

def szOf (P : Program) (t : TypeId) : Option Nat := (P.info? t).map (·.size)
def aggOf (P : Program) (t : TypeId) : Option (Option Nat) := match P.underlying t with
  | none => none
  | some (.struct _) => (szOf P t).map some
  | some (.array _ _) => (szOf P t).map some
  | some _ => some none

def constAV (P : Program) (ty : TypeId) : Value → Option AV
  | .int k n => some (.int k n)
  | .bool b => some (.bool b)
  | .string s => some (.str s.data.toList)
  | .slice none 0 0 => match P.underlying ty with
    | some (.slice e) => (szOf P e).map (.oslice · [])
    | _ => none
  | .pointer none => some .nilptr
  | .nilFunc => some .nilfn
  | _ => none

def cOpd (E : CE) (ty : TypeId) : Operand → Option Opd
  | .tmp t => if E.boxed t then none else some (.t t (E.mvs t))
  | .const v => (constAV E.P ty v).map .c
  | .func f => some (.c (.fn f []))
  | .global _ => none
def cOpdC (E : CE) (ty : TypeId) : Operand → Option Opd
  | .tmp t => if E.boxed t then none else some (.t t false)
  | .const v => (constAV E.P ty v).map fun v => .c v.un
  | .func f => some (.c (.fn f []))
  | .global _ => none

theorem constAV_RV {P : Program} {ty : TypeId} {v : Value} {av : AV} (h : constAV P ty v = some av) (own M w t k) : RV own M w t k av v := by
  unfold constAV at h
  split at h
  · cases h; exact RV_of_R (by simp [R])
  · cases h; exact RV_of_R (by simp [R])
  · rename_i s; cases h; exact RV_of_R (by simp only [R])
  · split at h
    · simp only [Option.map_eq_some_iff] at h
      obtain ⟨z, _, rfl⟩ := h
      simp only [RV, RO]
      exact ⟨none, 0, 0, rfl, rfl, Nat.le_refl _, fun _ => rfl, fun h => absurd rfl h⟩
    · cases h
  · cases h; exact RV_of_R (by simp [R])
  · cases h; exact RV_of_R (by simp [R])
  · cases h

theorem constAV_un_R {P : Program} {ty : TypeId} {v : Value} {av : AV} (h : constAV P ty v = some av) (M) : R M av.un v :=
  R_un_of_RV (constAV_RV h (fun _ => .none) M default 0 0)

theorem un_data {av : AV} : av.un.data = av.data := by cases av <;> simp [AV.un, AV.un1, AV.data]

section
variable {cx : Cx} {st : St} {ver : Nat → Nat} {M : Mem} {own : Nat → Own} {tmps : Array Value} {w : World}

/-- What a plain slot holds reads as what the state says. -/
theorem Rel.read (h : Rel cx st ver M own tmps w) {s : Nat} (hb : cx.boxed s = false) (hd : (st.e s).data = true) : R M (st.e s).un (tmps.getD s undef) := by
  rcases h.slot s with h0 | ⟨v, hv, hr⟩
  · rw [h0] at hd; cases hd
  · rw [if_neg (by simp [hb])] at hr
    have hg : tmps.getD s undef = v := by simp [Array.getD_eq_getD_getElem?, hv]
    rw [hg]
    have key : RV own M w s 0 (st.e s) v := by
      cases hav : st.e s <;> rw [hav] at hr hd <;> first | exact hr | exact absurd hd (by simp [AV.data])
    exact R_un_of_RV key

theorem opdC_R {E : CE} {ty : TypeId} {o : Operand} {x : Opd} (hc : cOpdC E ty o = some x) (hb : cx.boxed = E.boxed) (h : Rel cx st ver M own tmps w)
    (hd : (x.val st).data = true) {ds : List Deferred} : R M (x.val st) (Act.eval ⟨tmps, ds⟩ o) := by
  cases o with
  | tmp t =>
    simp only [cOpdC] at hc
    split at hc
    · cases hc
    · rename_i hbt
      cases hc
      simp only [Opd.val] at hd ⊢
      rw [un_data] at hd
      exact h.read (by rw [hb]; simpa using hbt) hd
  | const v =>
    simp only [cOpdC, Option.map_eq_some_iff] at hc
    obtain ⟨av, hc, rfl⟩ := hc
    exact constAV_un_R hc M
  | func f => simp only [cOpdC] at hc; cases hc; simp only [Opd.val, Act.eval, R]; exact ⟨[], rfl, by simp [Rs]⟩
  | global g => cases hc

theorem opdM_RV {E : CE} {ty : TypeId} {o : Operand} {x : Opd} (hc : cOpd E ty o = some x) (hb : cx.boxed = E.boxed) (h : Rel cx st ver M own tmps w)
    (hd : (x.val st).data = true) {ds : List Deferred} (d k : Nat) :
    ∃ own', Rel cx (x.done st) ver M own' tmps w ∧ RV own' M w d k (x.val st) (Act.eval ⟨tmps, ds⟩ o) := by
  cases o with
  | tmp t =>
    simp only [cOpd] at hc
    split at hc
    · cases hc
    · rename_i hbt
      cases hc
      have hbt' : cx.boxed t = false := by rw [hb]; simpa using hbt
      cases hm : E.mvs t with
      | true =>
        simp only [hm, Opd.val] at hd
        obtain ⟨own', h1, h2⟩ := h.take d k hbt' (by intro e; rw [e] at hd; cases hd) (by intro u off k e; rw [e] at hd; cases hd)
        exact ⟨own', by simpa [Opd.done] using h1, by simpa [Opd.val, Act.eval] using h2⟩
      | false =>
        simp only [hm, Opd.val] at hd
        rw [un_data] at hd
        exact ⟨own, by simpa [Opd.done] using h, by simpa [Opd.val, Act.eval] using RV_of_R (h.read hbt' hd)⟩
  | const v =>
    simp only [cOpd, Option.map_eq_some_iff] at hc
    obtain ⟨av, hc, rfl⟩ := hc
    exact ⟨own, h, constAV_RV hc own M w d k⟩
  | func f => simp only [cOpd] at hc; cases hc; exact ⟨own, h, RV_of_R (by simp only [Opd.val, Act.eval, R]; exact ⟨[], rfl, by simp [Rs]⟩)⟩
  | global g => cases hc
end

theorem wp_value {P : Program} {o : Oper} {a : Act} {w w' : World} {K : Act → World → Prop} {Q : Exit → Act → World → Prop} {v : Value}
    (h : (execOp a.eval o).run P w = .ok (.value v) w') (hK : K (a.put o.dst v) w') : o.wp P a w K Q := by
  simp only [Oper.wp, h, Oper.upon]; exact hK
theorem wp_skip' {P : Program} {o : Oper} {a : Act} {w w' : World} {K : Act → World → Prop} {Q : Exit → Act → World → Prop}
    (h : (execOp a.eval o).run P w = .ok .skip w') (hK : K (a.put o.dst undef) w') : o.wp P a w K Q := by
  simp only [Oper.wp, h, Oper.upon]; exact hK

/-- What is left to show of an operation: whatever comes behind it holds. -/
def OpGoal (cx : Cx) (st : St) (ver : Nat → Nat) (M : Mem) (ds : List Deferred) (K : Act → World → Prop) : Prop :=
  ∀ M' own' tmps' w', Mle M M' → Rel cx st ver M' own' tmps' w' → K ⟨tmps', ds⟩ w'

section
variable {cx : Cx} {E : CE} {st : St} {ver : Nat → Nat} {M : Mem} {own : Nat → Own} {tmps : Array Value} {w : World} {ds : List Deferred}
  {o : Oper} {K : Act → World → Prop} {Q : Exit → Act → World → Prop}

theorem put_some {d : Nat} {v : Value} (h : o.dst = some d) : (Act.put ⟨tmps, ds⟩ o.dst v) = ⟨tmps.setIfInBounds d v, ds⟩ := by rw [h]; rfl

/-- A value that leaves the world alone, into a plain slot. -/
theorem sound_pure {d : Nat} {av : AV} {v : Value} (hR : Rel cx st ver M own tmps w) (hdst : o.dst = some d) (hd : d < cx.n) (hb : cx.boxed d = false)
    (hrun : (execOp (Act.eval ⟨tmps, ds⟩) o).run cx.P w = .ok (.value v) w) (hv : R M av v) (hK : OpGoal cx (put st d av) ver M ds K) :
    o.wp cx.P ⟨tmps, ds⟩ w K Q := by
  refine wp_value hrun ?_
  rw [put_some hdst]
  exact hK _ _ _ _ (Mle.refl M) (hR.put_RV hd hb (RV_of_R hv))

theorem run_move {x : Operand} (h : o.op = .move x ∨ o.op = .assign x) : (execOp (Act.eval ⟨tmps, ds⟩) o).run cx.P w = .ok (.value (Act.eval ⟨tmps, ds⟩ x)) w := by
  rcases h with h | h <;> simp [execOp, h]

theorem sound_mv {x : Operand} {ty : TypeId} {d : Nat} {y : Opd} (hE : cx.boxed = E.boxed) (hR : Rel cx st ver M own tmps w) (ho : o.op = .move x ∨ o.op = .assign x) (hdst : o.dst = some d) (hd : d < cx.n)
    (hb : cx.boxed d = false) (hc : cOpd E ty x = some y) (hok : (y.val st).data = true) (hK : OpGoal cx (put (y.done st) d (y.val st)) ver M ds K) :
    o.wp cx.P ⟨tmps, ds⟩ w K Q := by
  refine wp_value (run_move ho) ?_
  rw [put_some hdst]
  obtain ⟨own', h1, h2⟩ := opdM_RV hc hE hR hok (ds := ds) d 0
  exact hK _ _ _ _ (Mle.refl M) (h1.put_RV hd hb h2)

theorem sound_take {s d : Nat} (hR : Rel cx st ver M own tmps w) (ho : o.op = .move (.tmp s) ∨ o.op = .assign (.tmp s)) (hdst : o.dst = some d) (hd : d < cx.n)
    (hb : cx.boxed d = false) (hbs : cx.boxed s = false) (hok : (st.e s).data = true) (hK : OpGoal cx (put (put st s (st.e s).un) d (st.e s)) ver M ds K) :
    o.wp cx.P ⟨tmps, ds⟩ w K Q := by
  refine wp_value (run_move ho) ?_
  rw [put_some hdst]
  obtain ⟨own', h1, h2⟩ := hR.take d 0 hbs (by intro e; rw [e] at hok; cases hok) (by intro u off k e; rw [e] at hok; cases hok)
  have hr := hR.read hbs hok
  have hr1 : RSlot cx ver own' M w tmps s (st.e s).un := by
    rcases hR.slot s with h0 | ⟨v, hv, _⟩
    · rw [h0] at hok; cases hok
    · refine .inr ⟨v, hv, ?_⟩
      rw [if_neg (by simp [hbs])]
      have hg : tmps.getD s undef = v := by simp [Array.getD_eq_getD_getElem?, hv]
      rw [hg] at hr
      have := RV_of_R (own := own') (w := w) (t := s) (j := 0) hr
      have hd2 : (st.e s).un.data = true := by rw [un_data]; exact hok
      cases hav : (st.e s).un <;> rw [hav] at this hd2 <;> first | exact this | exact absurd hd2 (by simp [AV.data])
  have h3 := h1.setSlot hr1
  have h4 := h3.put_RV hd hb (v := tmps.getD s undef) (av := st.e s) h2
  refine hK M own' _ w (Mle.refl M) ?_
  have e : (put (put st s (st.e s).un) d (st.e s)).e = upd (upd (upd st.e s .undef) s (st.e s).un) d (st.e s) := by
    funext j; simp only [put, upd]; split <;> (try split) <;> simp_all
  have e2 : put (put st s (st.e s).un) d (st.e s) = ⟨upd (upd (upd st.e s .undef) s (st.e s).un) d (st.e s), st.h, st.nx⟩ := by
    rw [← e]; rfl
  rw [e2]; exact h4

theorem sound_pick {c x y : Operand} {ty : TypeId} {d : Nat} {c' x' y' : Opd} (hE : cx.boxed = E.boxed) (hR : Rel cx st ver M own tmps w) (ho : o.op = .pick c x y) (hdst : o.dst = some d) (hd : d < cx.n)
    (hb : cx.boxed d = false) (h1 : cOpdC E ty c = some c') (h2 : cOpdC E ty x = some x') (h3 : cOpdC E ty y = some y')
    (hok : AOp.ok cx.P .undef st ver (.pick d c' x' y')) (hK : OpGoal cx (AOp.next .undef st ver (.pick d c' x' y')).1 ver M ds K) :
    o.wp cx.P ⟨tmps, ds⟩ w K Q := by
  obtain ⟨t, ht, hv⟩ := hok
  have hcR := opdC_R h1 hE hR (ds := ds) (by rw [ht]; rfl)
  rw [ht] at hcR
  simp only [R] at hcR
  simp only [AOp.next, ht, AV.isTrue] at hK
  cases t with
  | true =>
    simp only [if_true] at hv hK
    exact sound_pure hR hdst hd hb (by simp [execOp, ho, hcR, asBool]) (opdC_R h2 hE hR (ds := ds) hv) hK
  | false =>
    simp only [Bool.false_eq_true, if_false] at hv hK
    exact sound_pure hR hdst hd hb (by simp [execOp, ho, hcR, asBool]) (opdC_R h3 hE hR (ds := ds) hv) hK
end

end Go.Proofs.YtccmaeefedgcnaaGreat

namespace Go.Proofs.YtccmaeefedgcnaaGreat

theorem solid_data {av : AV} (h : av.solid = true) : av.data = true := by cases av <;> simp_all [AV.solid, AV.data]

theorem Rs_iff {M : Mem} : ∀ {cs : List AV} {vs : List Value}, Rs M cs vs ↔ vs.length = cs.length ∧ ∀ (i : Nat) c u, cs[i]? = some c → vs[i]? = some u → R M c u
  | [], vs => by simp [Rs]
  | c :: cs, vs => by
    simp only [Rs]
    constructor
    · rintro ⟨u, us, rfl, hu, hs⟩
      obtain ⟨h1, h2⟩ := Rs_iff.1 hs
      refine ⟨by simp [h1], fun i c' u' hc hu' => ?_⟩
      cases i with
      | zero => simp at hc hu'; subst hc; subst hu'; exact hu
      | succ i => simp at hc hu'; exact h2 i c' u' hc hu'
    · rintro ⟨h1, h2⟩
      cases vs with
      | nil => simp at h1
      | cons u us =>
        refine ⟨u, us, rfl, h2 0 c u rfl rfl, Rs_iff.2 ⟨by simpa using h1, fun i c' u' hc hu' => h2 (i + 1) c' u' (by simpa using hc) (by simpa using hu')⟩⟩

theorem ROs_iff {own M w t} : ∀ {j : Nat} {cs : List AV} {vs : List Value}, ROs own M w t j cs vs ↔
    vs.length = cs.length ∧ ∀ (i : Nat) c u, cs[i]? = some c → vs[i]? = some u → flat u = true ∧ RO own M w t (j + i) c u
  | _, [], vs => by simp [ROs]
  | j, c :: cs, vs => by
    simp only [ROs]
    constructor
    · rintro ⟨u, us, rfl, hf, hu, hs⟩
      obtain ⟨h1, h2⟩ := ROs_iff.1 hs
      refine ⟨by simp [h1], fun i c' u' hc hu' => ?_⟩
      cases i with
      | zero => simp at hc hu'; subst hc; subst hu'; exact ⟨hf, hu⟩
      | succ i => simp at hc hu'; have := h2 i c' u' hc hu'; rwa [show j + 1 + i = j + (i + 1) from by omega] at this
    · rintro ⟨h1, h2⟩
      cases vs with
      | nil => simp at h1
      | cons u us =>
        have h0 := h2 0 c u rfl rfl
        refine ⟨u, us, rfl, h0.1, h0.2, ROs_iff.2 ⟨by simpa using h1, fun i c' u' hc hu' => ?_⟩⟩
        have := h2 (i + 1) c' u' (by simpa using hc) (by simpa using hu')
        rwa [show j + (i + 1) = j + 1 + i from by omega] at this

theorem R_flat {M : Mem} {av : AV} {v : Value} (h : R M av v) (hs : av.solid = true) (ha : ∀ cs, av ≠ .agg cs) : flat v = true := by
  cases av <;> simp only [R, AV.solid] at h hs <;> (try exact h.elim) <;> (try cases hs)
  case agg cs => exact absurd rfl (ha cs)
  case slice => obtain ⟨a, len, cap, rfl, _⟩ := h; rfl
  case vptr => obtain ⟨b, o, rfl, _⟩ := h; rfl
  case fn => obtain ⟨vs, rfl, _⟩ := h; rfl
  all_goals (subst h; rfl)

theorem RV_ROs {own M w t k} {av : AV} {v : Value} (h : RV own M w t k av v) (hs : av.solid = true) : ∃ vs : List Value, v.cells = vs.toArray ∧ ROs own M w t k av.cells vs := by
  by_cases ha : ∃ cs, av = .agg cs
  · obtain ⟨cs, rfl⟩ := ha
    simp only [RV] at h
    obtain ⟨vs, rfl, hv⟩ := h
    exact ⟨vs, rfl, hv⟩
  · have ha' : ∀ cs, av ≠ .agg cs := fun cs e => ha ⟨cs, e⟩
    have hc : av.cells = [av] := by cases av <;> first | rfl | (cases hs; done) | exact absurd rfl (ha' _)
    have hro : RO own M w t k av v := by cases av <;> first | exact h | exact absurd rfl (ha' _)
    have hf : flat v = true := by
      cases av <;> simp only [RO] at hro <;> first | exact R_flat hro hs ha' | skip
      case oslice => obtain ⟨a, len, cap, rfl, _⟩ := hro; rfl
    have hvc : v.cells = #[v] := by cases v <;> first | rfl | cases hf
    exact ⟨[v], hvc, by rw [hc]; exact ⟨v, [], rfl, hf, hro, rfl⟩⟩

/-! Zero values. -/

def chkC : AV → Value → Bool
  | .int k n, .int k' n' => decide (k = k') && decide (n = n')
  | .bool b, .bool b' => b == b'
  | .str s, .string s' => s'.data.toList == s
  | .oslice _ [], .slice none 0 0 => true
  | .nilptr, .pointer none => true
  | .nilfn, .nilFunc => true
  | _, _ => false
def chkCs : List AV → List Value → Bool
  | [], [] => true
  | c :: cs, v :: vs => chkC c v && chkCs cs vs
  | _, _ => false

theorem chkC_RO {c : AV} {v : Value} (h : chkC c v = true) (own M w t j) : RO own M w t j c v ∧ flat v = true := by
  unfold chkC at h
  split at h <;> first | cases h | skip
  · simp at h; obtain ⟨rfl, rfl⟩ := h; exact ⟨by simp [RO, R], rfl⟩
  · simp at h; subst h; exact ⟨by simp [RO, R], rfl⟩
  · rename_i s s'; simp at h; subst h; exact ⟨by simp [RO, R], rfl⟩
  · exact ⟨by simp only [RO]; exact ⟨none, 0, 0, rfl, rfl, Nat.le_refl _, fun _ => rfl, fun h => absurd rfl h⟩, rfl⟩
  · exact ⟨by simp [RO, R], rfl⟩
  · exact ⟨by simp [RO, R], rfl⟩

theorem chkCs_ROs : ∀ {cs : List AV} {vs : List Value}, chkCs cs vs = true → ∀ (own M w t j), ROs own M w t j cs vs
  | [], [], _, _, _, _, _, _ => rfl
  | [], _ :: _, h, _, _, _, _, _ => by simp [chkCs] at h
  | _ :: _, [], h, _, _, _, _, _ => by simp [chkCs] at h
  | c :: cs, v :: vs, h, own, M, w, t, j => by
    simp only [chkCs, Bool.and_eq_true] at h
    obtain ⟨h1, h2⟩ := chkC_RO h.1 own M w t j
    exact ⟨v, vs, rfl, h2, h1, chkCs_ROs h.2 own M w t (j + 1)⟩

def zeroCells (P : Program) : Nat → TypeId → Option (List AV)
  | 0, _ => none
  | d + 1, t => match P.underlying t with
    | some .bool => some [.bool false]
    | some (.int k) => some [.int k 0]
    | some .string => some [.str []]
    | some (.slice e) => (szOf P e).map fun z => [.oslice z []]
    | some (.pointer _) => some [.nilptr]
    | some (.func ..) => some [.nilfn]
    | some (.struct fs) => (fs.toList.mapM fun f => zeroCells P d f.type).map List.flatten
    | some (.array n e) => (zeroCells P d e).map fun z => (List.replicate n z).flatten
    | _ => none

/-- The zero cells of a type, checked against the model's own. -/
def zeroOf (P : Program) (t : TypeId) : Option (List AV) :=
  match zeroCells P 20 t, (P.info? t).bind (·.zero) with
  | some z, some v => if chkCs z v.cells.toList then some z else none
  | _, _ => none
def zeroAV (P : Program) (t : TypeId) : Option AV :=
  match zeroOf P t, aggOf P t with
  | some z, some (some _) => some (.agg z)
  | some [c], some none => some c
  | _, _ => none

theorem zeroOf_spec {P : Program} {t : TypeId} {z : List AV} (h : zeroOf P t = some z) : ∃ i v, P.info? t = some i ∧ i.zero = some v ∧ chkCs z v.cells.toList = true := by
  unfold zeroOf at h
  split at h
  · rename_i z' v _ hv
    split at h
    · cases h
      cases hi : P.info? t with
      | none => simp [hi] at hv
      | some i => rw [hi] at hv; exact ⟨i, v, rfl, by simpa using hv, ‹_›⟩
    · cases h
  · cases h

theorem zeroAV_special {P : Program} {t : TypeId} {z : AV} (h : zeroAV P t = some z) : z.special = false := by
  unfold zeroAV at h
  split at h
  · cases h; rfl
  · rename_i c hc _
    cases h
    obtain ⟨i, v, h1, h2, h3⟩ := zeroOf_spec hc
    cases hcc : v.cells.toList with
    | nil => rw [hcc] at h3; simp [chkCs] at h3
    | cons u us => rw [hcc] at h3; simp only [chkCs, Bool.and_eq_true] at h3; cases z <;> first | rfl | (simp [chkC] at h3)
  · cases h

theorem zeroAV_spec {P : Program} {t : TypeId} {z : AV} (h : zeroAV P t = some z) : ∃ i v, P.info? t = some i ∧ i.zero = some v ∧ chkCs z.cells v.cells.toList = true := by
  unfold zeroAV at h
  split at h
  · cases h; exact zeroOf_spec ‹_›
  · rename_i hc _
    cases h
    obtain ⟨i, v, h1, h2, h3⟩ := zeroOf_spec hc
    refine ⟨i, v, h1, h2, ?_⟩
    have : z.cells = [z] := by
      cases hcc : v.cells.toList with
      | nil => rw [hcc] at h3; simp [chkCs] at h3
      | cons u us => rw [hcc] at h3; simp only [chkCs, Bool.and_eq_true] at h3; cases z <;> first | rfl | (simp [chkC] at h3)
    rw [this]; exact h3
  · cases h

section
variable {cx : Cx} {E : CE} {st : St} {ver : Nat → Nat} {M : Mem} {own : Nat → Own} {tmps : Array Value} {w : World} {ds : List Deferred}
  {o : Oper} {K : Act → World → Prop} {Q : Exit → Act → World → Prop}

theorem sound_balloc {elem : TypeId} {d : Nat} {z : AV} (hR : Rel cx st ver M own tmps w) (ho : o.op = .alloc elem) (hdst : o.dst = some d) (hd : d < cx.n) (hb : cx.boxed d = true)
    (hz : zeroAV cx.P elem = some z) (hK : OpGoal cx (put st d z) (upd ver d (ver d + 1)) M ds K) : o.wp cx.P ⟨tmps, ds⟩ w K Q := by
  obtain ⟨i, v, h1, h2, h3⟩ := zeroAV_spec hz
  have hrun : (execOp (Act.eval ⟨tmps, ds⟩) o).run cx.P w = .ok (.value (.pointer (some ⟨w.heap.size, 0, none⟩))) (pushW w (.cells v.cells.toList.toArray elem (0, 0)) w.drawn) := by
    simp [execOp, ho, Instr.alloc, zeroValue, typeInfo, h1, h2, newVar, newRow, pushW]
  refine wp_value hrun ?_
  rw [put_some hdst]
  obtain ⟨M', own', hm, hr⟩ := hR.newbox (el := elem) (dr := w.drawn) hd hb (chkCs_ROs h3 own M w d 0) (zeroAV_special hz)
  exact hK M' own' _ _ hm hr

theorem sound_bbox {elem ty : TypeId} {x : Operand} {d : Nat} {y : Opd} (hE : cx.boxed = E.boxed) (hR : Rel cx st ver M own tmps w) (ho : o.op = .box elem x) (hdst : o.dst = some d) (hd : d < cx.n) (hb : cx.boxed d = true)
    (hc : cOpd E ty x = some y) (hok : (y.val st).solid = true) (hK : OpGoal cx (put (y.done st) d (y.val st)) (upd ver d (ver d + 1)) M ds K) : o.wp cx.P ⟨tmps, ds⟩ w K Q := by
  obtain ⟨own1, h1, h2⟩ := opdM_RV hc hE hR (solid_data hok) (ds := ds) d 0
  obtain ⟨vs, hvs, hro⟩ := RV_ROs h2 hok
  have hrun : (execOp (Act.eval ⟨tmps, ds⟩) o).run cx.P w = .ok (.value (.pointer (some ⟨w.heap.size, 0, none⟩))) (pushW w (.cells vs.toArray elem (0, 0)) w.drawn) := by
    simp [execOp, ho, Instr.box, newVar, newRow, pushW, hvs]
  refine wp_value hrun ?_
  rw [put_some hdst]
  obtain ⟨M', own', hm, hr⟩ := h1.newbox (el := elem) (dr := w.drawn) hd hb hro (by generalize y.val st = q at hok; cases q <;> first | rfl | cases hok)
  exact hK M' own' _ _ hm hr

/-- What a variable's slot says of the frame and of memory. -/
theorem Rel.box (hR : Rel cx st ver M own tmps w) {t : Nat} (hb : cx.boxed t = true) (hu : st.e t ≠ .undef ∧ 0 < (st.e t).cells.length) :
    ∃ b, tmps[t]? = some (.pointer (some ⟨b, 0, none⟩)) ∧ RBox own M w t (st.e t).cells b := by
  rcases hR.slot t with h | ⟨v, hv, h⟩
  · exact absurd h hu.1
  · rw [if_pos hb] at h
    obtain ⟨b, rfl, hbx⟩ := RBoxV_box h hu.2
    exact ⟨b, hv, hbx⟩

theorem Rel.bptr (hR : Rel cx st ver M own tmps w) {p t off : Nat} (hb : cx.boxed p = false) (h : st.e p = .bptr t off (ver t)) :
    ∃ v0 v, tmps[t]? = some v0 ∧ tmps[p]? = some v ∧ ptrAt v0 off v ∧ cx.boxed t = true := by
  rcases hR.slot p with h0 | ⟨v, hv, hr⟩
  · rw [h] at h0; cases h0
  · rw [if_neg (by simp [hb]), h] at hr
    obtain ⟨h1, v0, h2, h3⟩ := hr.2 rfl
    exact ⟨v0, v, h2, hv, h3, h1⟩

/-- The operand of a load or store that reaches the variable t, at off. -/
def ptrOpd (t : Nat) : Option Nat → Operand
  | none => .tmp t
  | some p => .tmp p

theorem Rel.ptr (hR : Rel cx st ver M own tmps w) {t off : Nat} {p : Option Nat} (hb : cx.boxed t = true) (hu : st.e t ≠ .undef ∧ 0 < (st.e t).cells.length) (hp : ∀ q, p = some q → cx.boxed q = false)
    (h : ptrOff st ver t p = some off) : ∃ b, tmps[t]? = some (.pointer (some ⟨b, 0, none⟩)) ∧ Act.eval ⟨tmps, ds⟩ (ptrOpd t p) = .pointer (some ⟨b, off, none⟩) ∧ RBox own M w t (st.e t).cells b := by
  obtain ⟨b, h1, h2⟩ := hR.box hb hu
  cases p with
  | none =>
    simp only [ptrOff, Option.some.injEq] at h
    subst h
    exact ⟨b, h1, by simp [ptrOpd, Act.eval, Array.getD_eq_getD_getElem?, h1], h2⟩
  | some q =>
    simp only [ptrOff] at h
    split at h
    · rename_i t' o k hq
      split at h
      · rename_i hc; cases h
        obtain ⟨rfl, rfl⟩ := hc
        obtain ⟨v0, v, h3, h4, hat, _⟩ := hR.bptr (hp q rfl) hq
        rw [h1] at h3; cases h3
        rcases hat with ⟨b', e1, rfl⟩ | ⟨e1, _⟩
        rotate_left
        · exact absurd rfl (e1 _)
        cases e1
        exact ⟨b, h1, by simp [ptrOpd, Act.eval, Array.getD_eq_getD_getElem?, h4], h2⟩
      · cases h
    · cases h

theorem sound_baddr {s : TypeId} {t d f : Nat} {fs : Array Field} {fl : Field} (hR : Rel cx st ver M own tmps w) (ho : o.op = .fieldAddr s (.tmp t) f) (hdst : o.dst = some d) (hd : d < cx.n)
    (hb : cx.boxed d = false) (hbt : cx.boxed t = true) (h1 : cx.P.underlying s = some (.struct fs)) (h2 : fs[f]? = some fl) {z : Nat} (h3 : szOf cx.P fl.type = some z) (hz : z ≠ 0)
    (hok : st.e t ≠ .undef ∧ 0 < (st.e t).cells.length) (hK : OpGoal cx (put st d (.bptr t fl.offset (ver t))) ver M ds K) : o.wp cx.P ⟨tmps, ds⟩ w K Q := by
  obtain ⟨b, hb1, _⟩ := hR.box hbt hok
  simp only [szOf, Option.map_eq_some_iff] at h3
  obtain ⟨i, hi, rfl⟩ := h3
  have hev : tmps.getD t undef = .pointer (some ⟨b, 0, none⟩) := by simp [Array.getD_eq_getD_getElem?, hb1]
  have hrun : (execOp (Act.eval ⟨tmps, ds⟩) o).run cx.P w = .ok (.value (.pointer (some ⟨b, fl.offset, none⟩))) w := by
    simp [execOp, ho, Instr.fieldAt, run_underlying h1, h2, Instr.sureAddr, Act.eval, hev, fieldPlace, sizeOf, typeInfo, hi, hz, Addr.add_lit]
  refine wp_value hrun ?_
  rw [put_some hdst]
  refine hK _ _ _ _ (Mle.refl M) (hR.put hd hb (.inr ⟨_, by rw [get_set (by rw [hR.size]; exact hd), if_pos rfl], ?_⟩))
  rw [if_neg (by simp [hb])]
  refine ⟨Nat.le_refl _, fun _ => ⟨hbt, _, ?_, .inl ⟨b, rfl, rfl⟩⟩⟩
  rw [get_set (by rw [hR.size]; exact hd), if_neg (by rintro rfl; simp [hb] at hbt)]
  exact hb1

theorem sound_paddr {s : TypeId} {p d f : Nat} {rt : Option Nat} {fs : Array Field} {fl : Field} (hR : Rel cx st ver M own tmps w) (ho : o.op = .fieldAddr s (.tmp p) f) (hdst : o.dst = some d) (hd : d < cx.n)
    (hb : cx.boxed d = false) (hbp : cx.boxed p = false) (h1 : cx.P.underlying s = some (.struct fs)) (h2 : fs[f]? = some fl) {z : Nat} (h3 : szOf cx.P fl.type = some z) (hz : z ≠ 0)
    (hok : AOp.ok cx.P .undef st ver (.paddr d p rt fl.offset)) (hK : OpGoal cx (AOp.next .undef st ver (.paddr d p rt fl.offset)).1 ver M ds K) : o.wp cx.P ⟨tmps, ds⟩ w K Q := by
  simp only [szOf, Option.map_eq_some_iff] at h3
  obtain ⟨i, hi, rfl⟩ := h3
  rcases hR.slot p with h0 | ⟨v, hv, hr⟩
  · simp [AOp.ok, h0] at hok
  · rw [if_neg (by simp [hbp])] at hr
    have hev : tmps.getD p undef = v := by simp [Array.getD_eq_getD_getElem?, hv]
    have hd' : d < tmps.size := by rw [hR.size]; exact hd
    cases hp : st.e p <;> simp only [AOp.ok, hp] at hok
    case vptr cs off =>
      rw [hp] at hr
      simp only [RV, RO, R] at hr
      obtain ⟨b, o', rfl, hm⟩ := hr
      simp only [AOp.next, hp] at hK
      refine sound_pure (v := .pointer (some ⟨b, o' + off + fl.offset, none⟩)) hR hdst hd hb ?_ ?_ hK
      · simp [execOp, ho, Instr.fieldAt, run_underlying h1, h2, Instr.sureAddr, Act.eval, hev, fieldPlace, sizeOf, typeInfo, hi, hz, Addr.add_lit]
      · simp only [R]; exact ⟨b, o', by rw [Nat.add_assoc], hm⟩
    case bptr t off k =>
      rw [hp] at hr
      simp only [AOp.next, hp] at hK
      obtain ⟨hbt, v0, hb1, hat⟩ := hr.2 hok.1.2
      obtain ⟨b0, hb0, _⟩ := hR.box hbt hok.2
      rw [hb1] at hb0
      obtain ⟨b, e1, rfl⟩ : ∃ b, v0 = .pointer (some ⟨b, 0, none⟩) ∧ v = .pointer (some ⟨b, off, none⟩) := by
        rcases hat with h | ⟨e1, _⟩
        · exact h
        · exact absurd hb0 (by intro e; cases e; exact e1 _ rfl)
      subst e1
      have hrun : (execOp (Act.eval ⟨tmps, ds⟩) o).run cx.P w = .ok (.value (.pointer (some ⟨b, off + fl.offset, none⟩))) w := by
        simp [execOp, ho, Instr.fieldAt, run_underlying h1, h2, Instr.sureAddr, Act.eval, hev, fieldPlace, sizeOf, typeInfo, hi, hz, Addr.add_lit]
      refine wp_value hrun ?_
      rw [put_some hdst]
      refine hK _ _ _ _ (Mle.refl M) (hR.put hd hb (.inr ⟨_, by rw [get_set hd', if_pos rfl], ?_⟩))
      rw [if_neg (by simp [hb])]
      refine ⟨hr.1, fun _ => ⟨hbt, _, ?_, .inl ⟨_, rfl, rfl⟩⟩⟩
      rw [get_set hd', if_neg (by rintro rfl; simp [hb] at hbt)]
      exact hb1
end

end Go.Proofs.YtccmaeefedgcnaaGreat
