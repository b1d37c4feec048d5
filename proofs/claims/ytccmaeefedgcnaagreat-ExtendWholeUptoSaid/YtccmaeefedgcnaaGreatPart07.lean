/-
  NODES, as pure values; small laws that all contracts use.
  ORDER OF TEXTS, and lists in order, each text once.
  MORE STEPPING RULES: a cut between two parts; what is dead.
  FRAMES: a piece of code changes no slot but those that it writes; cuts and loops that tell only what is written.
-/
import Derived.Test.YtccmaeefedgcnaaGreatPart06
import Derived.Sort.Walk0
set_option linter.all false

namespace Go.Proofs.YtccmaeefedgcnaaGreat

abbrev Str := List UInt8

structure Node where
  kind : Int
  text : Str
  keys : List Str
  kids : List Node
  deriving Inhabited

def nodeAV : Node → AV
  | ⟨kind, text, keys, kids⟩ => .agg [.int .i64 kind, .str text, .slice 1 (keys.map .str), .slice 4 (kids.map nodeAV)]

theorem nodeAV_eq (n : Node) : nodeAV n = .agg [.int .i64 n.kind, .str n.text, .slice 1 (n.keys.map .str), .slice 4 (n.kids.map nodeAV)] := by
  cases n; rw [nodeAV]
@[simp] theorem nodeAV_fold (n : Node) : .agg [.int .i64 n.kind, .str n.text, .slice 1 (n.keys.map .str), .slice 4 (n.kids.map nodeAV)] = nodeAV n := (nodeAV_eq n).symm
theorem nodeAV_mk (a b c d) : .agg [.int .i64 a, .str b, .slice 1 (c.map .str), .slice 4 (d.map nodeAV)] = nodeAV ⟨a, b, c, d⟩ := by rw [nodeAV]

@[simp] theorem nodeAV_cells (n : Node) : (nodeAV n).cells = [.int .i64 n.kind, .str n.text, .slice 1 (n.keys.map .str), .slice 4 (n.kids.map nodeAV)] := by rw [nodeAV_eq]; rfl
@[simp] theorem nodeAV_un (n : Node) : (nodeAV n).un = nodeAV n := by rw [nodeAV_eq]; rfl
@[simp] theorem nodeAV_data (n : Node) : (nodeAV n).data = true := by rw [nodeAV_eq]; rfl
@[simp] theorem nodeAV_solid (n : Node) : (nodeAV n).solid = true := by rw [nodeAV_eq]; rfl
@[simp] theorem nodeAV_noB (n : Node) : (nodeAV n).noB = nodeAV n := by rw [nodeAV_eq]; rfl
@[simp] theorem nodeAV_un1 (n : Node) : (nodeAV n).un1 = nodeAV n := by rw [nodeAV_eq]; rfl
@[simp] theorem nodeAV_undef (n : Node) : nodeAV n ≠ .undef := by rw [nodeAV_eq]; intro h; exact AV.noConfusion h
@[simp] theorem nodeAV_of (n : Node) (cs : List AV) : AV.ofCells (nodeAV n) cs = .agg cs := by rw [nodeAV_eq]; rfl

/-- A loop's counter goes up by one. -/
theorem wrap_succ {i : Nat} (h : i < 4611686018427387904) : IntKind.i64.wrap ((i : Int) + 1) = ((i + 1 : Nat) : Int) := by
  rw [wrap_i64 (by omega) (by omega)]; simp

def zeroN : Node := ⟨0, [], [], []⟩
theorem nodeAV_zero : nodeAV zeroN = .agg [.int .i64 0, .str [], .slice 1 [], .slice 4 []] := by rw [nodeAV_eq]; rfl
@[simp] theorem zeroN_kind : zeroN.kind = 0 := rfl
@[simp] theorem zeroN_text : zeroN.text = [] := rfl
@[simp] theorem zeroN_keys : zeroN.keys = [] := rfl
@[simp] theorem zeroN_kids : zeroN.kids = [] := rfl

end Go.Proofs.YtccmaeefedgcnaaGreat

namespace Go.Proofs.YtccmaeefedgcnaaGreat

@[simp] theorem bytesLess_dec (x y : Str) : Op.bytesLess x y = decide (x < y) := bytesLess_eq x y

theorem str_irrefl (x : Str) : ¬ x < x := List.lt_irrefl x
theorem str_trans {x y z : Str} (h : x < y) (h2 : y < z) : x < z := List.lt_trans h h2
theorem str_tri (x y : Str) : x < y ∨ x = y ∨ y < x := by
  by_cases h : x < y
  · exact .inl h
  · by_cases h2 : y < x
    · exact .inr (.inr h2)
    · exact .inr (.inl (List.le_antisymm (List.not_lt.1 h2) (List.not_lt.1 h)))

/-- In order, each once. -/
abbrev Rising (o : List Str) : Prop := o.Pairwise (· < ·)

theorem Rising.ext {a b : List Str} (ha : Rising a) (hb : Rising b) (h : ∀ x, x ∈ a ↔ x ∈ b) : a = b := by
  induction a generalizing b with
  | nil =>
    cases b with
    | nil => rfl
    | cons y b => exact absurd ((h y).2 (by simp)) (by simp)
  | cons x a ih =>
    cases b with
    | nil => exact absurd ((h x).1 (by simp)) (by simp)
    | cons y b =>
      obtain ⟨hx, ha'⟩ := List.pairwise_cons.1 ha
      obtain ⟨hy, hb'⟩ := List.pairwise_cons.1 hb
      have e : x = y := by
        rcases List.mem_cons.1 ((h x).1 (by simp)) with e | e
        · exact e
        · rcases List.mem_cons.1 ((h y).2 (by simp)) with e2 | e2
          · exact e2.symm
          · exact absurd (str_trans (hy x e) (hx y e2)) (str_irrefl y)
      subst e
      congr 1
      refine ih ha' hb' fun z => ⟨fun hz => ?_, fun hz => ?_⟩
      · rcases List.mem_cons.1 ((h z).1 (by simp [hz])) with e | e
        · subst e; exact absurd (hx z hz) (str_irrefl z)
        · exact e
      · rcases List.mem_cons.1 ((h z).2 (by simp [hz])) with e | e
        · subst e; exact absurd (hy z hz) (str_irrefl z)
        · exact e

def ins (x : Str) : List Str → List Str
  | [] => [x]
  | y :: ys => if x < y then x :: y :: ys else if x = y then y :: ys else y :: ins x ys
def sortU (l : List Str) : List Str := l.foldr ins []

theorem mem_ins {x y : Str} {l : List Str} : y ∈ ins x l ↔ y = x ∨ y ∈ l := by
  induction l with
  | nil => simp [ins]
  | cons z l ih =>
    simp only [ins]
    split
    · simp
    · split
      · rename_i h; subst h; simp
      · simp only [List.mem_cons, ih]
        constructor
        · rintro (h | h | h) <;> simp [h]
        · rintro (h | h | h) <;> simp [h]
theorem rising_ins {x : Str} {l : List Str} (h : Rising l) : Rising (ins x l) := by
  induction l with
  | nil => simp [ins]
  | cons z l ih =>
    obtain ⟨hz, hl⟩ := List.pairwise_cons.1 h
    simp only [ins]
    split
    · rename_i hx
      refine List.pairwise_cons.2 ⟨fun y hy => ?_, h⟩
      rcases List.mem_cons.1 hy with rfl | hy
      · exact hx
      · exact str_trans hx (hz y hy)
    · split
      · exact h
      · rename_i h1 h2
        refine List.pairwise_cons.2 ⟨fun y hy => ?_, ih hl⟩
        rcases mem_ins.1 hy with rfl | hy
        · rcases str_tri z y with h | h | h
          · exact h
          · exact absurd h.symm h2
          · exact absurd h h1
        · exact hz y hy
theorem rising_sortU (l : List Str) : Rising (sortU l) := by
  induction l with
  | nil => simp [sortU]
  | cons x l ih => exact rising_ins ih
@[simp] theorem mem_sortU {x : Str} {l : List Str} : x ∈ sortU l ↔ x ∈ l := by
  induction l with
  | nil => simp [sortU]
  | cons y l ih =>
    have : sortU (y :: l) = ins y (sortU l) := rfl
    rw [this, mem_ins, ih]; simp
theorem eq_sortU {o l : List Str} (h : Rising o) (hm : ∀ x, x ∈ o ↔ x ∈ l) : o = sortU l := h.ext (rising_sortU l) fun x => by rw [hm, mem_sortU]
theorem rising_nodup {o : List Str} (h : Rising o) : o.Nodup := h.imp fun {a b} hab e => by subst e; exact str_irrefl a hab
theorem sortU_len_le (l : List Str) : (sortU l).length ≤ l.length := (rising_nodup (rising_sortU l)).length_le_of_subset fun x hx => mem_sortU.1 hx
theorem nodup_of_sortU_len {l : List Str} (h : (sortU l).length = l.length) : l.Nodup := by
  induction l with
  | nil => simp
  | cons x l ih =>
    have e : sortU (x :: l) = ins x (sortU l) := rfl
    have hle := sortU_len_le l
    by_cases hx : x ∈ l
    · have hsub : (sortU (x :: l)).length ≤ l.length := (rising_nodup (rising_sortU _)).length_le_of_subset fun y hy => by
        rcases List.mem_cons.1 (mem_sortU.1 hy) with rfl | h
        · exact hx
        · exact h
      simp at h; omega
    · have hins : ∀ (l : List Str), (ins x l).length ≤ l.length + 1 := by
        intro l
        induction l with
        | nil => simp [ins]
        | cons y l ih => simp only [ins]; split <;> (try split) <;> simp <;> omega
      have := hins (sortU l)
      rw [e] at h; simp at h
      exact List.nodup_cons.2 ⟨hx, ih (by omega)⟩

end Go.Proofs.YtccmaeefedgcnaaGreat

namespace Go.Proofs.YtccmaeefedgcnaaGreat

/-- Between two parts, what is known is enough. -/
theorem cut {P : Program} {a b : ACode} {k : List Fr} {Q : Exit → St → Prop} {s : St} (I : St → Prop) (h1 : awp P a (unw P (.lp I :: .code b :: k) Q) s) (h2 : ∀ s, I s → awp P b (unw P k Q) s) :
    awp P (.seq a b) (unw P k Q) s := by
  rw [run_seq]
  refine awp_mono (fun e s' h => ?_) h1
  cases e with
  | normal => rw [unw_lp] at h; rw [unw_code]; exact h2 _ h
  | exit i => rwa [unw_lp_exit] at h
  | ret => rwa [unw_lp_ret] at h
  | _ => exact h

@[simp] theorem isTrue_dead : AV.isTrue .dead = false := (rfl)
@[simp] theorem live_l {c : Prop} [Decidable c] {x y : Bool} : ((if c then AV.bool x else AV.dead) = AV.bool y) ↔ c ∧ x = y := by split <;> simp_all
@[simp] theorem live_r {c : Prop} [Decidable c] {x y : Bool} : ((if c then AV.dead else AV.bool x) = AV.bool y) ↔ ¬ c ∧ x = y := by split <;> simp_all

theorem wrap_int {x : Int} (h1 : -9223372036854775808 ≤ x) (h2 : x ≤ 9223372036854775807) : IntKind.i64.wrap x = x := wrap_i64 h1 h2
@[simp] theorem wrap_one : IntKind.i64.wrap 1 = 1 := by decide
theorem wrap_u64 {x : Int} (h1 : 0 ≤ x) (h2 : x < 18446744073709551616) : IntKind.u64.wrap x = x := by
  simp [IntKind.wrap, IntKind.bits, IntKind.signed]; omega
theorem wrap_u64_range (x : Int) : 0 ≤ IntKind.u64.wrap x ∧ IntKind.u64.wrap x < 18446744073709551616 := by
  simp [IntKind.wrap, IntKind.bits, IntKind.signed]; omega
theorem wrap_range (x : Int) : -9223372036854775808 ≤ IntKind.i64.wrap x ∧ IntKind.i64.wrap x ≤ 9223372036854775807 := by
  simp [IntKind.wrap, IntKind.bits, IntKind.signed]; omega
/-- A number cut to a byte. -/
def cutByte (x : Int) : UInt8 := UInt8.ofNat (IntKind.u8.wrap x).toNat
@[simp] theorem byteOf_wrap (x : Int) : byteOf (.int .u8 (IntKind.u8.wrap x)) = some (cutByte x) := by
  have : 0 ≤ IntKind.u8.wrap x ∧ IntKind.u8.wrap x < 256 := by
    simp [IntKind.wrap, IntKind.bits, IntKind.signed]; omega
  simp [byteOf, this, cutByte]
theorem tdiv10 {u : Int} (h : 0 ≤ u) : u.tdiv 10 = u / 10 := Int.tdiv_eq_ediv_of_nonneg h

@[simp] theorem nn1 (a : Nat) : (0 : Int) ≤ (a : Int) + 1 := by omega
@[simp] theorem nn2 (a : Nat) : (0 : Int) ≤ (a : Int) + 2 := by omega
@[simp] theorem nn3 (a : Nat) : (0 : Int) ≤ (a : Int) + 3 := by omega
@[simp] theorem tn2 (a : Nat) : ((a : Int) + 2).toNat = a + 2 := by omega
@[simp] theorem tn3 (a : Nat) : ((a : Int) + 3).toNat = a + 3 := by omega
theorem byte_iff (c d : UInt8) : c = d ↔ (c.toNat : Int) = (d.toNat : Int) := by
  rw [← UInt8.toNat_inj]; omega
def isInt (r : AV) : Prop := ∃ n, r = .int .i64 n
def isBool (r : AV) : Prop := ∃ b, r = .bool b
def isStr (m : Nat) (r : AV) : Prop := ∃ s : List UInt8, r = .str s ∧ s.length ≤ m
def isInt2 (r : AV) : Prop := ∃ n e, r = .tup [.int .i64 n, .int .i64 e]
@[simp] theorem isInt_mk {n : Int} : isInt (.int .i64 n) := ⟨n, rfl⟩
@[simp] theorem isBool_mk {b : Bool} : isBool (.bool b) := ⟨b, rfl⟩
@[simp] theorem isStr_mk {m : Nat} {s : List UInt8} : isStr m (.str s) ↔ s.length ≤ m := ⟨fun ⟨_, e, h⟩ => by cases e; exact h, fun h => ⟨s, rfl, h⟩⟩
@[simp] theorem isInt2_mk {n e : Int} : isInt2 (.tup [.int .i64 n, .int .i64 e]) := ⟨n, e, rfl⟩

end Go.Proofs.YtccmaeefedgcnaaGreat

namespace Go.Proofs.YtccmaeefedgcnaaGreat

/-- The slots that a piece of code may write. -/
def ACode.wr : ACode → List Nat
  | .reg _ outs => outs
  | .seq a b => a.wr ++ b.wr
  | .cond _ a b => a.wr ++ b.wr
  | .block _ a => a.wr
  | .loop a => a.wr
  | _ => []

theorem fin_e {st st' : St} {outs : List Nat} {t : Nat} (h : t ∉ outs) : (fin st st' outs).e t = st.e t := by
  unfold fin
  rw [sets_e, if_neg h]

theorem awp_frame {P : Program} : ∀ {c : ACode} {Q : Exit → St → Prop} {st : St}, awp P c Q st → awp P c (fun e s => Q e s ∧ ∀ t, t ∉ c.wr → s.e t = st.e t) st
  | .skip, _, _, h => ⟨h, fun _ _ => rfl⟩
  | .reg gs outs, _, st, h => awpS_mono (fun s hs => ⟨hs, fun t ht => fin_e ht⟩) h
  | .seq a b, Q, st, h => by
    refine awp_mono (c := a) ?_ (awp_frame (c := a) h)
    rintro e s ⟨hq, hf⟩
    cases e <;> simp only [AExit.then] at hq ⊢
    case normal =>
      refine awp_mono (c := b) ?_ (awp_frame (c := b) hq)
      rintro e s' ⟨h1, h2⟩
      refine ⟨h1, fun t ht => ?_⟩
      simp only [ACode.wr, List.mem_append, not_or] at ht
      rw [h2 t ht.2, hf t ht.1]
    all_goals
      refine ⟨hq, fun t ht => ?_⟩
      simp only [ACode.wr, List.mem_append, not_or] at ht
      exact hf t ht.1
  | .cond c a b, Q, st, ⟨t, h1, h2, h3⟩ => by
    refine ⟨t, h1, fun ht => ?_, fun ht => ?_⟩
    · refine awp_mono (c := a) ?_ (awp_frame (c := a) (h2 ht))
      rintro e s ⟨hq, hf⟩
      refine ⟨hq, fun t ht => ?_⟩
      simp only [ACode.wr, List.mem_append, not_or] at ht
      exact hf t ht.1
    · refine awp_mono (c := b) ?_ (awp_frame (c := b) (h3 ht))
      rintro e s ⟨hq, hf⟩
      refine ⟨hq, fun t ht => ?_⟩
      simp only [ACode.wr, List.mem_append, not_or] at ht
      exact hf t ht.2
  | .block id a, Q, st, h => by
    refine awp_mono (c := a) ?_ (awp_frame (c := a) h)
    rintro e s ⟨hq, hf⟩
    cases e <;> simp only [AExit.inBlock] at hq ⊢
    case exit i =>
      split at hq
      · rw [if_pos ‹_›]; exact ⟨hq, hf⟩
      · rw [if_neg ‹_›]; exact ⟨hq, hf⟩
    all_goals exact ⟨hq, hf⟩
  | .loop a, Q, st, h => by
    refine h (fun s => ∀ u : St, (∀ t, t ∉ a.wr → s.e t = u.e t) → awp P (.loop a) (fun e s' => Q e s' ∧ ∀ t, t ∉ a.wr → s'.e t = u.e t) s) ?_ st (fun _ _ => rfl)
    intro s hs u hu
    refine awp_loop_unroll (awp_mono (c := a) ?_ (awp_frame (c := a) hs))
    rintro e s' ⟨hq, hf⟩
    have hf' : ∀ t, t ∉ a.wr → s'.e t = u.e t := fun t ht => by rw [hf t ht, hu t ht]
    cases e <;> simp only [AExit.then] at hq ⊢
    case normal => exact hq u hf'
    all_goals exact ⟨hq, hf'⟩
  | .exit id, _, _, h => ⟨h, fun _ _ => rfl⟩
  | .ret, _, _, h => ⟨h, fun _ _ => rfl⟩

/-- Between two parts: what is written, and what is known of it. -/
theorem cutf {P : Program} {a b : ACode} {k : List Fr} {Q : Exit → St → Prop} {s : St} (w : List Nat) (hw : (a.wr.all fun t => w.contains t) = true) (I : St → Prop)
    (h1 : awp P a (unw P (.lp I :: .code b :: k) Q) s) (h2 : ∀ s', (∀ t, t ∉ w → s'.e t = s.e t) → I s' → awp P b (unw P k Q) s') :
    awp P (.seq a b) (unw P k Q) s := by
  rw [run_seq]
  refine awp_mono (fun e s' h => ?_) (awp_frame h1)
  obtain ⟨h, hf⟩ := h
  have hf' : ∀ t, t ∉ w → s'.e t = s.e t := fun t ht => hf t fun hm => ht (by
    have := List.all_eq_true.1 hw t hm
    simpa using this)
  cases e with
  | normal => rw [unw_lp] at h; rw [unw_code]; exact h2 _ hf' h
  | exit i => rwa [unw_lp_exit] at h
  | ret => rwa [unw_lp_ret] at h
  | _ => exact h

/-- A loop, by what its rounds change and a measure. -/
theorem run_loopf {P : Program} {a : ACode} {k : List Fr} {Q : Exit → St → Prop} {s : St} (w : List Nat) (hw : (a.wr.all fun t => w.contains t) = true) (I : St → Prop) (μ : St → Nat) (h0 : I s)
    (round : ∀ s', (∀ t, t ∉ w → s'.e t = s.e t) → I s' → awp P a (unw P (.lp (fun s2 => I s2 ∧ μ s2 < μ s') :: k) Q) s') : awp P (.loop a) (unw P k Q) s := by
  refine run_loop (fun s' => (∀ t, t ∉ w → s'.e t = s.e t) ∧ I s') μ ⟨fun _ _ => rfl, h0⟩ ?_
  rintro s' ⟨hf, hI⟩
  refine awp_mono (fun e s2 h => ?_) (awp_frame (round s' hf hI))
  obtain ⟨h, hf2⟩ := h
  have hf' : ∀ t, t ∉ w → s2.e t = s.e t := fun t ht => by
    rw [hf2 t fun hm => ht (by simpa using List.all_eq_true.1 hw t hm), hf t ht]
  cases e with
  | normal => rw [unw_lp] at h ⊢; exact ⟨⟨hf', h.1⟩, h.2⟩
  | exit i => rwa [unw_lp_exit] at h ⊢
  | ret => rwa [unw_lp_ret] at h ⊢
  | _ => exact h

end Go.Proofs.YtccmaeefedgcnaaGreat
