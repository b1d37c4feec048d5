/-
  THE ABSTRACT LAYER, PART S: how a proof over compiled code goes on: what stands behind, as a list; one rule for each form.
  THE ABSTRACT LAYER, PART U: what is brought about is one state; contracts that only tell something of the result.
  THE ABSTRACT LAYER OVER THE LOADED PROGRAM: the orders that its regions may take.
-/
import Derived.Test.YtccmaeefedgcnaaGreatPart05
import Derived.Test.YtccmaeefedgcnaaGreatProg
import Derived.KernelRfl
set_option linter.all false

namespace Go.Proofs.YtccmaeefedgcnaaGreat

/-- What stands behind the code at hand. -/
inductive Fr where
  | code (c : ACode)
  | blk (id : Nat)
  | lp (X : St → Prop)

def unw (P : Program) : List Fr → (Exit → St → Prop) → Exit → St → Prop
  | [], Q, e, s => Q e s
  | .code c :: k, Q, .normal, s => awp P c (unw P k Q) s
  | .code _ :: k, Q, e, s => unw P k Q e s
  | .blk id :: k, Q, .exit i, s => if i = id then unw P k Q .normal s else unw P k Q (.exit i) s
  | .blk _ :: k, Q, e, s => unw P k Q e s
  | .lp X :: _, _, .normal, s => X s
  | .lp _ :: k, Q, e, s => unw P k Q e s

section
variable {P : Program} {k : List Fr} {Q : Exit → St → Prop} {s : St}

@[simp] theorem unw_nil {e : Exit} : unw P [] Q e s = Q e s := by cases e <;> rfl
@[simp] theorem unw_code {c : ACode} : unw P (.code c :: k) Q .normal s = awp P c (unw P k Q) s := (rfl)
@[simp] theorem unw_code_exit {c : ACode} {i : Nat} : unw P (.code c :: k) Q (.exit i) s = unw P k Q (.exit i) s := (rfl)
@[simp] theorem unw_code_ret {c : ACode} : unw P (.code c :: k) Q .ret s = unw P k Q .ret s := (rfl)
@[simp] theorem unw_blk {i : Nat} : unw P (.blk i :: k) Q .normal s = unw P k Q .normal s := (rfl)
@[simp] theorem unw_blk_exit {i j : Nat} : unw P (.blk i :: k) Q (.exit j) s = if j = i then unw P k Q .normal s else unw P k Q (.exit j) s := (rfl)
@[simp] theorem unw_blk_ret {i : Nat} : unw P (.blk i :: k) Q .ret s = unw P k Q .ret s := (rfl)
@[simp] theorem unw_lp {X : St → Prop} : unw P (.lp X :: k) Q .normal s = X s := (rfl)
@[simp] theorem unw_lp_exit {X : St → Prop} {i : Nat} : unw P (.lp X :: k) Q (.exit i) s = unw P k Q (.exit i) s := (rfl)
@[simp] theorem unw_lp_ret {X : St → Prop} : unw P (.lp X :: k) Q .ret s = unw P k Q .ret s := (rfl)

/-- A region, its end kept closed. -/
def awpR (P : Program) (gs : List GOp) (md : Option Md) (st0 st : St) (ver : Nat → Nat) (outs : List Nat) (K : Exit → St → Prop) : Prop :=
  awpS P gs md st ver fun st' => K .normal (fin st0 st' outs)

@[simp] theorem run_skip : awp P .skip (unw P k Q) s = unw P k Q .normal s := (rfl)
@[simp] theorem run_seq {a b : ACode} : awp P (.seq a b) (unw P k Q) s = awp P a (unw P (.code b :: k) Q) s := by
  show awp P a (AExit.then (awp P b (unw P k Q)) (unw P k Q)) s = _
  congr 1
  funext e s; cases e <;> rfl
@[simp] theorem run_block {id : Nat} {a : ACode} : awp P (.block id a) (unw P k Q) s = awp P a (unw P (.blk id :: k) Q) s := by
  show awp P a (AExit.inBlock id (unw P k Q)) s = _
  congr 1
  funext e s; cases e <;> rfl
@[simp] theorem run_exit {id : Nat} : awp P (.exit id) (unw P k Q) s = unw P k Q (.exit id) s := (rfl)
@[simp] theorem run_ret : awp P .ret (unw P k Q) s = unw P k Q .ret s := (rfl)
@[simp] theorem run_reg {gs : List GOp} {outs : List Nat} : awp P (.reg gs outs) (unw P k Q) s = awpR P gs none s s (fun _ => 0) outs (unw P k Q) := (rfl)
@[simp] theorem run_cond {c : Opd} {a b : ACode} : awp P (.cond c a b) (unw P k Q) s = ∃ t, c.val s = .bool t ∧ (t = true → awp P a (unw P k Q) s) ∧ (t = false → awp P b (unw P k Q) s) := (rfl)

/-- A loop: by a relation and a measure. -/
theorem run_loop {a : ACode} (I : St → Prop) (μ : St → Nat) (h0 : I s) (round : ∀ s, I s → awp P a (unw P (.lp (fun s' => I s' ∧ μ s' < μ s) :: k) Q) s) : awp P (.loop a) (unw P k Q) s := by
  refine awp_loop I μ h0 (fun s hs => ?_)
  have e : AExit.then (fun s' => I s' ∧ μ s' < μ s) (unw P k Q) = unw P (.lp (fun s' => I s' ∧ μ s' < μ s) :: k) Q := by
    funext e s; cases e <;> rfl
  rw [e]; exact round s hs
theorem run_unroll {a : ACode} (h : awp P a (unw P (.code (.loop a) :: k) Q) s) : awp P (.loop a) (unw P k Q) s := by
  refine awp_loop_unroll ?_
  have e : AExit.then (awp P (.loop a) (unw P k Q)) (unw P k Q) = unw P (.code (.loop a) :: k) Q := by
    funext e s; cases e <;> rfl
  rw [e]; exact h

def AOp.isCall : AOp → Bool
  | .xcall .. => true
  | .xcut .. => true
  | .call .. => true
  | _ => false

variable {st0 st : St} {ver : Nat → Nat} {outs : List Nat} {K : Exit → St → Prop} {gs : List GOp}

@[simp] theorem awpR_nil : awpR P [] none st0 st ver outs K = K .normal (fin st0 st outs) := (rfl)
@[simp] theorem awpR_nil' {t : Nat} {w b : Bool} {sF : St} {vF : Nat → Nat} : awpR P [] (some ⟨t, w, b, sF, vF⟩) st0 st ver outs K = K .normal (fin st0 (if b = true then st else sF) outs) := (rfl)
theorem ok_any {op : AOp} (h : op.isCall = false) (r q : AV) : op.ok P r st ver = op.ok P q st ver ∧ op.next r st ver = op.next q st ver := by
  cases op <;> first | exact ⟨rfl, rfl⟩ | cases h
theorem awpR_op {d : Option Nat} {op : AOp} (h : op.isCall = false) : awpR P (⟨none, d, op⟩ :: gs) none st0 st ver outs K = (op.ok P .undef st ver ∧ awpR P gs none st0 (op.next .undef st ver).1 (op.next .undef st ver).2 outs K) := by
  apply propext
  constructor
  · rintro ⟨r, h1, h2⟩
    obtain ⟨e1, e2⟩ := ok_any (P := P) (st := st) (ver := ver) h r .undef
    simp only [joinS, joinV] at h1 h2
    rw [e1] at h1; rw [e2] at h2; exact ⟨h1, h2⟩
  · rintro ⟨h1, h2⟩; exact ⟨.undef, h1, h2⟩
/-- The end of a group. -/
@[simp] theorem awpR_join {d : Option Nat} {op : AOp} {t : Nat} {w b : Bool} {sF : St} {vF : Nat → Nat} : awpR P (⟨none, d, op⟩ :: gs) (some ⟨t, w, b, sF, vF⟩) st0 st ver outs K =
    awpR P (⟨none, d, op⟩ :: gs) none st0 (if b = true then st else sF) (if b = true then ver else vF) outs K := (rfl)
theorem awpR_g {d : Option Nat} {op : AOp} {t : Nat} {w : Bool} (h : op.isCall = false) : awpR P (⟨some (t, w), d, op⟩ :: gs) none st0 st ver outs K =
    ∃ b, gtest (st.e t) w = some b ∧ (b = true → op.ok P .undef st ver) ∧ awpR P gs (some ⟨t, w, b, GOp.skip ⟨none, d, op⟩ st, ver⟩) st0 (op.next .undef st ver).1 (op.next .undef st ver).2 outs K := by
  apply propext
  constructor
  · rintro ⟨b, hb, r, h1, h2⟩
    obtain ⟨e1, e2⟩ := ok_any (P := P) (st := st) (ver := ver) h r .undef
    rw [e1] at h1; rw [e2] at h2; exact ⟨b, hb, h1, h2⟩
  · rintro ⟨b, hb, h1, h2⟩; exact ⟨b, hb, .undef, h1, h2⟩
theorem awpR_gg {d : Option Nat} {op : AOp} {t t' : Nat} {w w' b : Bool} {sF : St} {vF : Nat → Nat} (h : op.isCall = false) : awpR P (⟨some (t', w'), d, op⟩ :: gs) (some ⟨t, w, b, sF, vF⟩) st0 st ver outs K =
    if t = t' ∧ w = w' then ((gtest (st.e t') w' = some b ∧ gtest (sF.e t') w' = some b) ∧ (b = true → op.ok P .undef st ver) ∧ awpR P gs (some ⟨t', w', b, GOp.skip ⟨none, d, op⟩ sF, vF⟩) st0 (op.next .undef st ver).1 (op.next .undef st ver).2 outs K)
    else awpR P (⟨some (t', w'), d, op⟩ :: gs) none st0 (if b = true then st else sF) (if b = true then ver else vF) outs K := by
  apply propext
  by_cases hc : t = t' ∧ w = w'
  · rw [if_pos hc]
    simp only [awpR, awpS]
    rw [if_pos hc]
    constructor
    · rintro ⟨hb, r, h1, h2⟩
      obtain ⟨e1, e2⟩ := ok_any (P := P) (st := st) (ver := ver) h r .undef
      rw [e1] at h1; rw [e2] at h2; exact ⟨hb, h1, h2⟩
    · rintro ⟨hb, h1, h2⟩; exact ⟨hb, .undef, h1, h2⟩
  · rw [if_neg hc]
    simp only [awpR, awpS]
    rw [if_neg hc]
/-- Another group begins. -/
theorem awpR_other {d : Option Nat} {op : AOp} {t t' : Nat} {w w' b : Bool} {sF : St} {vF : Nat → Nat} (hc : ¬ (t = t' ∧ w = w')) (h : awpR P (⟨some (t', w'), d, op⟩ :: gs) none st0 (if b = true then st else sF) (if b = true then ver else vF) outs K) :
    awpR P (⟨some (t', w'), d, op⟩ :: gs) (some ⟨t, w, b, sF, vF⟩) st0 st ver outs K := by
  simp only [awpR, awpS] at h ⊢
  rw [if_neg hc]; exact h

@[simp] theorem awpR_mv {d : Option Nat} (a : Nat) (x : Opd) : awpR P (⟨none, d, (.mv a x)⟩ :: gs) none st0 st ver outs K = (AOp.ok P .undef st ver (.mv a x) ∧ awpR P gs none st0 (AOp.next .undef st ver (.mv a x)).1 (AOp.next .undef st ver (.mv a x)).2 outs K) := awpR_op rfl
@[simp] theorem awpRg_mv {d : Option Nat} {t : Nat} {w : Bool} (a : Nat) (x : Opd) : awpR P (⟨some (t, w), d, (.mv a x)⟩ :: gs) none st0 st ver outs K = ∃ b, gtest (st.e t) w = some b ∧ (b = true → AOp.ok P .undef st ver (.mv a x)) ∧ awpR P gs (some ⟨t, w, b, GOp.skip ⟨none, d, (.mv a x)⟩ st, ver⟩) st0 (AOp.next .undef st ver (.mv a x)).1 (AOp.next .undef st ver (.mv a x)).2 outs K := awpR_g rfl
@[simp] theorem awpRgg_mv {d : Option Nat} {t t' : Nat} {w w' b : Bool} {sF : St} {vF : Nat → Nat} (a : Nat) (x : Opd) : awpR P (⟨some (t', w'), d, (.mv a x)⟩ :: gs) (some ⟨t, w, b, sF, vF⟩) st0 st ver outs K = if t = t' ∧ w = w' then ((gtest (st.e t') w' = some b ∧ gtest (sF.e t') w' = some b) ∧ (b = true → AOp.ok P .undef st ver (.mv a x)) ∧ awpR P gs (some ⟨t', w', b, GOp.skip ⟨none, d, (.mv a x)⟩ sF, vF⟩) st0 (AOp.next .undef st ver (.mv a x)).1 (AOp.next .undef st ver (.mv a x)).2 outs K) else awpR P (⟨some (t', w'), d, (.mv a x)⟩ :: gs) none st0 (if b = true then st else sF) (if b = true then ver else vF) outs K := awpR_gg rfl
@[simp] theorem awpR_take {d : Option Nat} (a s : Nat) : awpR P (⟨none, d, (.take a s)⟩ :: gs) none st0 st ver outs K = (AOp.ok P .undef st ver (.take a s) ∧ awpR P gs none st0 (AOp.next .undef st ver (.take a s)).1 (AOp.next .undef st ver (.take a s)).2 outs K) := awpR_op rfl
@[simp] theorem awpRg_take {d : Option Nat} {t : Nat} {w : Bool} (a s : Nat) : awpR P (⟨some (t, w), d, (.take a s)⟩ :: gs) none st0 st ver outs K = ∃ b, gtest (st.e t) w = some b ∧ (b = true → AOp.ok P .undef st ver (.take a s)) ∧ awpR P gs (some ⟨t, w, b, GOp.skip ⟨none, d, (.take a s)⟩ st, ver⟩) st0 (AOp.next .undef st ver (.take a s)).1 (AOp.next .undef st ver (.take a s)).2 outs K := awpR_g rfl
@[simp] theorem awpRgg_take {d : Option Nat} {t t' : Nat} {w w' b : Bool} {sF : St} {vF : Nat → Nat} (a s : Nat) : awpR P (⟨some (t', w'), d, (.take a s)⟩ :: gs) (some ⟨t, w, b, sF, vF⟩) st0 st ver outs K = if t = t' ∧ w = w' then ((gtest (st.e t') w' = some b ∧ gtest (sF.e t') w' = some b) ∧ (b = true → AOp.ok P .undef st ver (.take a s)) ∧ awpR P gs (some ⟨t', w', b, GOp.skip ⟨none, d, (.take a s)⟩ sF, vF⟩) st0 (AOp.next .undef st ver (.take a s)).1 (AOp.next .undef st ver (.take a s)).2 outs K) else awpR P (⟨some (t', w'), d, (.take a s)⟩ :: gs) none st0 (if b = true then st else sF) (if b = true then ver else vF) outs K := awpR_gg rfl
@[simp] theorem awpR_pick {d : Option Nat} (a : Nat) (c x y : Opd) : awpR P (⟨none, d, (.pick a c x y)⟩ :: gs) none st0 st ver outs K = (AOp.ok P .undef st ver (.pick a c x y) ∧ awpR P gs none st0 (AOp.next .undef st ver (.pick a c x y)).1 (AOp.next .undef st ver (.pick a c x y)).2 outs K) := awpR_op rfl
@[simp] theorem awpRg_pick {d : Option Nat} {t : Nat} {w : Bool} (a : Nat) (c x y : Opd) : awpR P (⟨some (t, w), d, (.pick a c x y)⟩ :: gs) none st0 st ver outs K = ∃ b, gtest (st.e t) w = some b ∧ (b = true → AOp.ok P .undef st ver (.pick a c x y)) ∧ awpR P gs (some ⟨t, w, b, GOp.skip ⟨none, d, (.pick a c x y)⟩ st, ver⟩) st0 (AOp.next .undef st ver (.pick a c x y)).1 (AOp.next .undef st ver (.pick a c x y)).2 outs K := awpR_g rfl
@[simp] theorem awpRgg_pick {d : Option Nat} {t t' : Nat} {w w' b : Bool} {sF : St} {vF : Nat → Nat} (a : Nat) (c x y : Opd) : awpR P (⟨some (t', w'), d, (.pick a c x y)⟩ :: gs) (some ⟨t, w, b, sF, vF⟩) st0 st ver outs K = if t = t' ∧ w = w' then ((gtest (st.e t') w' = some b ∧ gtest (sF.e t') w' = some b) ∧ (b = true → AOp.ok P .undef st ver (.pick a c x y)) ∧ awpR P gs (some ⟨t', w', b, GOp.skip ⟨none, d, (.pick a c x y)⟩ sF, vF⟩) st0 (AOp.next .undef st ver (.pick a c x y)).1 (AOp.next .undef st ver (.pick a c x y)).2 outs K) else awpR P (⟨some (t', w'), d, (.pick a c x y)⟩ :: gs) none st0 (if b = true then st else sF) (if b = true then ver else vF) outs K := awpR_gg rfl
@[simp] theorem awpR_balloc {d : Option Nat} (a : Nat) (z : AV) : awpR P (⟨none, d, (.balloc a z)⟩ :: gs) none st0 st ver outs K = (AOp.ok P .undef st ver (.balloc a z) ∧ awpR P gs none st0 (AOp.next .undef st ver (.balloc a z)).1 (AOp.next .undef st ver (.balloc a z)).2 outs K) := awpR_op rfl
@[simp] theorem awpRg_balloc {d : Option Nat} {t : Nat} {w : Bool} (a : Nat) (z : AV) : awpR P (⟨some (t, w), d, (.balloc a z)⟩ :: gs) none st0 st ver outs K = ∃ b, gtest (st.e t) w = some b ∧ (b = true → AOp.ok P .undef st ver (.balloc a z)) ∧ awpR P gs (some ⟨t, w, b, GOp.skip ⟨none, d, (.balloc a z)⟩ st, ver⟩) st0 (AOp.next .undef st ver (.balloc a z)).1 (AOp.next .undef st ver (.balloc a z)).2 outs K := awpR_g rfl
@[simp] theorem awpRgg_balloc {d : Option Nat} {t t' : Nat} {w w' b : Bool} {sF : St} {vF : Nat → Nat} (a : Nat) (z : AV) : awpR P (⟨some (t', w'), d, (.balloc a z)⟩ :: gs) (some ⟨t, w, b, sF, vF⟩) st0 st ver outs K = if t = t' ∧ w = w' then ((gtest (st.e t') w' = some b ∧ gtest (sF.e t') w' = some b) ∧ (b = true → AOp.ok P .undef st ver (.balloc a z)) ∧ awpR P gs (some ⟨t', w', b, GOp.skip ⟨none, d, (.balloc a z)⟩ sF, vF⟩) st0 (AOp.next .undef st ver (.balloc a z)).1 (AOp.next .undef st ver (.balloc a z)).2 outs K) else awpR P (⟨some (t', w'), d, (.balloc a z)⟩ :: gs) none st0 (if b = true then st else sF) (if b = true then ver else vF) outs K := awpR_gg rfl
@[simp] theorem awpR_bbox {d : Option Nat} (a : Nat) (x : Opd) : awpR P (⟨none, d, (.bbox a x)⟩ :: gs) none st0 st ver outs K = (AOp.ok P .undef st ver (.bbox a x) ∧ awpR P gs none st0 (AOp.next .undef st ver (.bbox a x)).1 (AOp.next .undef st ver (.bbox a x)).2 outs K) := awpR_op rfl
@[simp] theorem awpRg_bbox {d : Option Nat} {t : Nat} {w : Bool} (a : Nat) (x : Opd) : awpR P (⟨some (t, w), d, (.bbox a x)⟩ :: gs) none st0 st ver outs K = ∃ b, gtest (st.e t) w = some b ∧ (b = true → AOp.ok P .undef st ver (.bbox a x)) ∧ awpR P gs (some ⟨t, w, b, GOp.skip ⟨none, d, (.bbox a x)⟩ st, ver⟩) st0 (AOp.next .undef st ver (.bbox a x)).1 (AOp.next .undef st ver (.bbox a x)).2 outs K := awpR_g rfl
@[simp] theorem awpRgg_bbox {d : Option Nat} {t t' : Nat} {w w' b : Bool} {sF : St} {vF : Nat → Nat} (a : Nat) (x : Opd) : awpR P (⟨some (t', w'), d, (.bbox a x)⟩ :: gs) (some ⟨t, w, b, sF, vF⟩) st0 st ver outs K = if t = t' ∧ w = w' then ((gtest (st.e t') w' = some b ∧ gtest (sF.e t') w' = some b) ∧ (b = true → AOp.ok P .undef st ver (.bbox a x)) ∧ awpR P gs (some ⟨t', w', b, GOp.skip ⟨none, d, (.bbox a x)⟩ sF, vF⟩) st0 (AOp.next .undef st ver (.bbox a x)).1 (AOp.next .undef st ver (.bbox a x)).2 outs K) else awpR P (⟨some (t', w'), d, (.bbox a x)⟩ :: gs) none st0 (if b = true then st else sF) (if b = true then ver else vF) outs K := awpR_gg rfl
@[simp] theorem awpR_baddr {d : Option Nat} (a q o : Nat) : awpR P (⟨none, d, (.baddr a q o)⟩ :: gs) none st0 st ver outs K = (AOp.ok P .undef st ver (.baddr a q o) ∧ awpR P gs none st0 (AOp.next .undef st ver (.baddr a q o)).1 (AOp.next .undef st ver (.baddr a q o)).2 outs K) := awpR_op rfl
@[simp] theorem awpRg_baddr {d : Option Nat} {t : Nat} {w : Bool} (a q o : Nat) : awpR P (⟨some (t, w), d, (.baddr a q o)⟩ :: gs) none st0 st ver outs K = ∃ b, gtest (st.e t) w = some b ∧ (b = true → AOp.ok P .undef st ver (.baddr a q o)) ∧ awpR P gs (some ⟨t, w, b, GOp.skip ⟨none, d, (.baddr a q o)⟩ st, ver⟩) st0 (AOp.next .undef st ver (.baddr a q o)).1 (AOp.next .undef st ver (.baddr a q o)).2 outs K := awpR_g rfl
@[simp] theorem awpRgg_baddr {d : Option Nat} {t t' : Nat} {w w' b : Bool} {sF : St} {vF : Nat → Nat} (a q o : Nat) : awpR P (⟨some (t', w'), d, (.baddr a q o)⟩ :: gs) (some ⟨t, w, b, sF, vF⟩) st0 st ver outs K = if t = t' ∧ w = w' then ((gtest (st.e t') w' = some b ∧ gtest (sF.e t') w' = some b) ∧ (b = true → AOp.ok P .undef st ver (.baddr a q o)) ∧ awpR P gs (some ⟨t', w', b, GOp.skip ⟨none, d, (.baddr a q o)⟩ sF, vF⟩) st0 (AOp.next .undef st ver (.baddr a q o)).1 (AOp.next .undef st ver (.baddr a q o)).2 outs K) else awpR P (⟨some (t', w'), d, (.baddr a q o)⟩ :: gs) none st0 (if b = true then st else sF) (if b = true then ver else vF) outs K := awpR_gg rfl
@[simp] theorem awpR_paddr {d : Option Nat} (a p : Nat) (r : Option Nat) (o : Nat) : awpR P (⟨none, d, (.paddr a p r o)⟩ :: gs) none st0 st ver outs K = (AOp.ok P .undef st ver (.paddr a p r o) ∧ awpR P gs none st0 (AOp.next .undef st ver (.paddr a p r o)).1 (AOp.next .undef st ver (.paddr a p r o)).2 outs K) := awpR_op rfl
@[simp] theorem awpRg_paddr {d : Option Nat} {t : Nat} {w : Bool} (a p : Nat) (r : Option Nat) (o : Nat) : awpR P (⟨some (t, w), d, (.paddr a p r o)⟩ :: gs) none st0 st ver outs K = ∃ b, gtest (st.e t) w = some b ∧ (b = true → AOp.ok P .undef st ver (.paddr a p r o)) ∧ awpR P gs (some ⟨t, w, b, GOp.skip ⟨none, d, (.paddr a p r o)⟩ st, ver⟩) st0 (AOp.next .undef st ver (.paddr a p r o)).1 (AOp.next .undef st ver (.paddr a p r o)).2 outs K := awpR_g rfl
@[simp] theorem awpRgg_paddr {d : Option Nat} {t t' : Nat} {w w' b : Bool} {sF : St} {vF : Nat → Nat} (a p : Nat) (r : Option Nat) (o : Nat) : awpR P (⟨some (t', w'), d, (.paddr a p r o)⟩ :: gs) (some ⟨t, w, b, sF, vF⟩) st0 st ver outs K = if t = t' ∧ w = w' then ((gtest (st.e t') w' = some b ∧ gtest (sF.e t') w' = some b) ∧ (b = true → AOp.ok P .undef st ver (.paddr a p r o)) ∧ awpR P gs (some ⟨t', w', b, GOp.skip ⟨none, d, (.paddr a p r o)⟩ sF, vF⟩) st0 (AOp.next .undef st ver (.paddr a p r o)).1 (AOp.next .undef st ver (.paddr a p r o)).2 outs K) else awpR P (⟨some (t', w'), d, (.paddr a p r o)⟩ :: gs) none st0 (if b = true then st else sF) (if b = true then ver else vF) outs K := awpR_gg rfl
@[simp] theorem awpR_bload {d : Option Nat} (a q : Nat) (p n : Option Nat) (tk : Bool) : awpR P (⟨none, d, (.bload a q p n tk)⟩ :: gs) none st0 st ver outs K = (AOp.ok P .undef st ver (.bload a q p n tk) ∧ awpR P gs none st0 (AOp.next .undef st ver (.bload a q p n tk)).1 (AOp.next .undef st ver (.bload a q p n tk)).2 outs K) := awpR_op rfl
@[simp] theorem awpRg_bload {d : Option Nat} {t : Nat} {w : Bool} (a q : Nat) (p n : Option Nat) (tk : Bool) : awpR P (⟨some (t, w), d, (.bload a q p n tk)⟩ :: gs) none st0 st ver outs K = ∃ b, gtest (st.e t) w = some b ∧ (b = true → AOp.ok P .undef st ver (.bload a q p n tk)) ∧ awpR P gs (some ⟨t, w, b, GOp.skip ⟨none, d, (.bload a q p n tk)⟩ st, ver⟩) st0 (AOp.next .undef st ver (.bload a q p n tk)).1 (AOp.next .undef st ver (.bload a q p n tk)).2 outs K := awpR_g rfl
@[simp] theorem awpRgg_bload {d : Option Nat} {t t' : Nat} {w w' b : Bool} {sF : St} {vF : Nat → Nat} (a q : Nat) (p n : Option Nat) (tk : Bool) : awpR P (⟨some (t', w'), d, (.bload a q p n tk)⟩ :: gs) (some ⟨t, w, b, sF, vF⟩) st0 st ver outs K = if t = t' ∧ w = w' then ((gtest (st.e t') w' = some b ∧ gtest (sF.e t') w' = some b) ∧ (b = true → AOp.ok P .undef st ver (.bload a q p n tk)) ∧ awpR P gs (some ⟨t', w', b, GOp.skip ⟨none, d, (.bload a q p n tk)⟩ sF, vF⟩) st0 (AOp.next .undef st ver (.bload a q p n tk)).1 (AOp.next .undef st ver (.bload a q p n tk)).2 outs K) else awpR P (⟨some (t', w'), d, (.bload a q p n tk)⟩ :: gs) none st0 (if b = true then st else sF) (if b = true then ver else vF) outs K := awpR_gg rfl
@[simp] theorem awpR_vload {d : Option Nat} (a p : Nat) (n : Option Nat) : awpR P (⟨none, d, (.vload a p n)⟩ :: gs) none st0 st ver outs K = (AOp.ok P .undef st ver (.vload a p n) ∧ awpR P gs none st0 (AOp.next .undef st ver (.vload a p n)).1 (AOp.next .undef st ver (.vload a p n)).2 outs K) := awpR_op rfl
@[simp] theorem awpRg_vload {d : Option Nat} {t : Nat} {w : Bool} (a p : Nat) (n : Option Nat) : awpR P (⟨some (t, w), d, (.vload a p n)⟩ :: gs) none st0 st ver outs K = ∃ b, gtest (st.e t) w = some b ∧ (b = true → AOp.ok P .undef st ver (.vload a p n)) ∧ awpR P gs (some ⟨t, w, b, GOp.skip ⟨none, d, (.vload a p n)⟩ st, ver⟩) st0 (AOp.next .undef st ver (.vload a p n)).1 (AOp.next .undef st ver (.vload a p n)).2 outs K := awpR_g rfl
@[simp] theorem awpRgg_vload {d : Option Nat} {t t' : Nat} {w w' b : Bool} {sF : St} {vF : Nat → Nat} (a p : Nat) (n : Option Nat) : awpR P (⟨some (t', w'), d, (.vload a p n)⟩ :: gs) (some ⟨t, w, b, sF, vF⟩) st0 st ver outs K = if t = t' ∧ w = w' then ((gtest (st.e t') w' = some b ∧ gtest (sF.e t') w' = some b) ∧ (b = true → AOp.ok P .undef st ver (.vload a p n)) ∧ awpR P gs (some ⟨t', w', b, GOp.skip ⟨none, d, (.vload a p n)⟩ sF, vF⟩) st0 (AOp.next .undef st ver (.vload a p n)).1 (AOp.next .undef st ver (.vload a p n)).2 outs K) else awpR P (⟨some (t', w'), d, (.vload a p n)⟩ :: gs) none st0 (if b = true then st else sF) (if b = true then ver else vF) outs K := awpR_gg rfl
@[simp] theorem awpR_bstore {d : Option Nat} (q : Nat) (p : Option Nat) (x : Opd) (n : Nat) : awpR P (⟨none, d, (.bstore q p x n)⟩ :: gs) none st0 st ver outs K = (AOp.ok P .undef st ver (.bstore q p x n) ∧ awpR P gs none st0 (AOp.next .undef st ver (.bstore q p x n)).1 (AOp.next .undef st ver (.bstore q p x n)).2 outs K) := awpR_op rfl
@[simp] theorem awpRg_bstore {d : Option Nat} {t : Nat} {w : Bool} (q : Nat) (p : Option Nat) (x : Opd) (n : Nat) : awpR P (⟨some (t, w), d, (.bstore q p x n)⟩ :: gs) none st0 st ver outs K = ∃ b, gtest (st.e t) w = some b ∧ (b = true → AOp.ok P .undef st ver (.bstore q p x n)) ∧ awpR P gs (some ⟨t, w, b, GOp.skip ⟨none, d, (.bstore q p x n)⟩ st, ver⟩) st0 (AOp.next .undef st ver (.bstore q p x n)).1 (AOp.next .undef st ver (.bstore q p x n)).2 outs K := awpR_g rfl
@[simp] theorem awpRgg_bstore {d : Option Nat} {t t' : Nat} {w w' b : Bool} {sF : St} {vF : Nat → Nat} (q : Nat) (p : Option Nat) (x : Opd) (n : Nat) : awpR P (⟨some (t', w'), d, (.bstore q p x n)⟩ :: gs) (some ⟨t, w, b, sF, vF⟩) st0 st ver outs K = if t = t' ∧ w = w' then ((gtest (st.e t') w' = some b ∧ gtest (sF.e t') w' = some b) ∧ (b = true → AOp.ok P .undef st ver (.bstore q p x n)) ∧ awpR P gs (some ⟨t', w', b, GOp.skip ⟨none, d, (.bstore q p x n)⟩ sF, vF⟩) st0 (AOp.next .undef st ver (.bstore q p x n)).1 (AOp.next .undef st ver (.bstore q p x n)).2 outs K) else awpR P (⟨some (t', w'), d, (.bstore q p x n)⟩ :: gs) none st0 (if b = true then st else sF) (if b = true then ver else vF) outs K := awpR_gg rfl
@[simp] theorem awpR_idx {d : Option Nat} (a : Nat) (x i : Opd) (z : Nat) : awpR P (⟨none, d, (.idx a x i z)⟩ :: gs) none st0 st ver outs K = (AOp.ok P .undef st ver (.idx a x i z) ∧ awpR P gs none st0 (AOp.next .undef st ver (.idx a x i z)).1 (AOp.next .undef st ver (.idx a x i z)).2 outs K) := awpR_op rfl
@[simp] theorem awpRg_idx {d : Option Nat} {t : Nat} {w : Bool} (a : Nat) (x i : Opd) (z : Nat) : awpR P (⟨some (t, w), d, (.idx a x i z)⟩ :: gs) none st0 st ver outs K = ∃ b, gtest (st.e t) w = some b ∧ (b = true → AOp.ok P .undef st ver (.idx a x i z)) ∧ awpR P gs (some ⟨t, w, b, GOp.skip ⟨none, d, (.idx a x i z)⟩ st, ver⟩) st0 (AOp.next .undef st ver (.idx a x i z)).1 (AOp.next .undef st ver (.idx a x i z)).2 outs K := awpR_g rfl
@[simp] theorem awpRgg_idx {d : Option Nat} {t t' : Nat} {w w' b : Bool} {sF : St} {vF : Nat → Nat} (a : Nat) (x i : Opd) (z : Nat) : awpR P (⟨some (t', w'), d, (.idx a x i z)⟩ :: gs) (some ⟨t, w, b, sF, vF⟩) st0 st ver outs K = if t = t' ∧ w = w' then ((gtest (st.e t') w' = some b ∧ gtest (sF.e t') w' = some b) ∧ (b = true → AOp.ok P .undef st ver (.idx a x i z)) ∧ awpR P gs (some ⟨t', w', b, GOp.skip ⟨none, d, (.idx a x i z)⟩ sF, vF⟩) st0 (AOp.next .undef st ver (.idx a x i z)).1 (AOp.next .undef st ver (.idx a x i z)).2 outs K) else awpR P (⟨some (t', w'), d, (.idx a x i z)⟩ :: gs) none st0 (if b = true then st else sF) (if b = true then ver else vF) outs K := awpR_gg rfl
@[simp] theorem awpR_bidx {d : Option Nat} (a q : Nat) (p : Option Nat) (i : Opd) (l z : Nat) : awpR P (⟨none, d, (.bidx a q p i l z)⟩ :: gs) none st0 st ver outs K = (AOp.ok P .undef st ver (.bidx a q p i l z) ∧ awpR P gs none st0 (AOp.next .undef st ver (.bidx a q p i l z)).1 (AOp.next .undef st ver (.bidx a q p i l z)).2 outs K) := awpR_op rfl
@[simp] theorem awpRg_bidx {d : Option Nat} {t : Nat} {w : Bool} (a q : Nat) (p : Option Nat) (i : Opd) (l z : Nat) : awpR P (⟨some (t, w), d, (.bidx a q p i l z)⟩ :: gs) none st0 st ver outs K = ∃ b, gtest (st.e t) w = some b ∧ (b = true → AOp.ok P .undef st ver (.bidx a q p i l z)) ∧ awpR P gs (some ⟨t, w, b, GOp.skip ⟨none, d, (.bidx a q p i l z)⟩ st, ver⟩) st0 (AOp.next .undef st ver (.bidx a q p i l z)).1 (AOp.next .undef st ver (.bidx a q p i l z)).2 outs K := awpR_g rfl
@[simp] theorem awpRgg_bidx {d : Option Nat} {t t' : Nat} {w w' b : Bool} {sF : St} {vF : Nat → Nat} (a q : Nat) (p : Option Nat) (i : Opd) (l z : Nat) : awpR P (⟨some (t', w'), d, (.bidx a q p i l z)⟩ :: gs) (some ⟨t, w, b, sF, vF⟩) st0 st ver outs K = if t = t' ∧ w = w' then ((gtest (st.e t') w' = some b ∧ gtest (sF.e t') w' = some b) ∧ (b = true → AOp.ok P .undef st ver (.bidx a q p i l z)) ∧ awpR P gs (some ⟨t', w', b, GOp.skip ⟨none, d, (.bidx a q p i l z)⟩ sF, vF⟩) st0 (AOp.next .undef st ver (.bidx a q p i l z)).1 (AOp.next .undef st ver (.bidx a q p i l z)).2 outs K) else awpR P (⟨some (t', w'), d, (.bidx a q p i l z)⟩ :: gs) none st0 (if b = true then st else sF) (if b = true then ver else vF) outs K := awpR_gg rfl
@[simp] theorem awpR_field {d : Option Nat} (a : Nat) (x : Opd) (o : Nat) (n : Option Nat) : awpR P (⟨none, d, (.field a x o n)⟩ :: gs) none st0 st ver outs K = (AOp.ok P .undef st ver (.field a x o n) ∧ awpR P gs none st0 (AOp.next .undef st ver (.field a x o n)).1 (AOp.next .undef st ver (.field a x o n)).2 outs K) := awpR_op rfl
@[simp] theorem awpRg_field {d : Option Nat} {t : Nat} {w : Bool} (a : Nat) (x : Opd) (o : Nat) (n : Option Nat) : awpR P (⟨some (t, w), d, (.field a x o n)⟩ :: gs) none st0 st ver outs K = ∃ b, gtest (st.e t) w = some b ∧ (b = true → AOp.ok P .undef st ver (.field a x o n)) ∧ awpR P gs (some ⟨t, w, b, GOp.skip ⟨none, d, (.field a x o n)⟩ st, ver⟩) st0 (AOp.next .undef st ver (.field a x o n)).1 (AOp.next .undef st ver (.field a x o n)).2 outs K := awpR_g rfl
@[simp] theorem awpRgg_field {d : Option Nat} {t t' : Nat} {w w' b : Bool} {sF : St} {vF : Nat → Nat} (a : Nat) (x : Opd) (o : Nat) (n : Option Nat) : awpR P (⟨some (t', w'), d, (.field a x o n)⟩ :: gs) (some ⟨t, w, b, sF, vF⟩) st0 st ver outs K = if t = t' ∧ w = w' then ((gtest (st.e t') w' = some b ∧ gtest (sF.e t') w' = some b) ∧ (b = true → AOp.ok P .undef st ver (.field a x o n)) ∧ awpR P gs (some ⟨t', w', b, GOp.skip ⟨none, d, (.field a x o n)⟩ sF, vF⟩) st0 (AOp.next .undef st ver (.field a x o n)).1 (AOp.next .undef st ver (.field a x o n)).2 outs K) else awpR P (⟨some (t', w'), d, (.field a x o n)⟩ :: gs) none st0 (if b = true then st else sF) (if b = true then ver else vF) outs K := awpR_gg rfl
@[simp] theorem awpR_aidx {d : Option Nat} (a : Nat) (x i : Opd) (l z : Nat) (n : Option Nat) : awpR P (⟨none, d, (.aidx a x i l z n)⟩ :: gs) none st0 st ver outs K = (AOp.ok P .undef st ver (.aidx a x i l z n) ∧ awpR P gs none st0 (AOp.next .undef st ver (.aidx a x i l z n)).1 (AOp.next .undef st ver (.aidx a x i l z n)).2 outs K) := awpR_op rfl
@[simp] theorem awpRg_aidx {d : Option Nat} {t : Nat} {w : Bool} (a : Nat) (x i : Opd) (l z : Nat) (n : Option Nat) : awpR P (⟨some (t, w), d, (.aidx a x i l z n)⟩ :: gs) none st0 st ver outs K = ∃ b, gtest (st.e t) w = some b ∧ (b = true → AOp.ok P .undef st ver (.aidx a x i l z n)) ∧ awpR P gs (some ⟨t, w, b, GOp.skip ⟨none, d, (.aidx a x i l z n)⟩ st, ver⟩) st0 (AOp.next .undef st ver (.aidx a x i l z n)).1 (AOp.next .undef st ver (.aidx a x i l z n)).2 outs K := awpR_g rfl
@[simp] theorem awpRgg_aidx {d : Option Nat} {t t' : Nat} {w w' b : Bool} {sF : St} {vF : Nat → Nat} (a : Nat) (x i : Opd) (l z : Nat) (n : Option Nat) : awpR P (⟨some (t', w'), d, (.aidx a x i l z n)⟩ :: gs) (some ⟨t, w, b, sF, vF⟩) st0 st ver outs K = if t = t' ∧ w = w' then ((gtest (st.e t') w' = some b ∧ gtest (sF.e t') w' = some b) ∧ (b = true → AOp.ok P .undef st ver (.aidx a x i l z n)) ∧ awpR P gs (some ⟨t', w', b, GOp.skip ⟨none, d, (.aidx a x i l z n)⟩ sF, vF⟩) st0 (AOp.next .undef st ver (.aidx a x i l z n)).1 (AOp.next .undef st ver (.aidx a x i l z n)).2 outs K) else awpR P (⟨some (t', w'), d, (.aidx a x i l z n)⟩ :: gs) none st0 (if b = true then st else sF) (if b = true then ver else vF) outs K := awpR_gg rfl
@[simp] theorem awpR_sidx {d : Option Nat} (a : Nat) (x i : Opd) : awpR P (⟨none, d, (.sidx a x i)⟩ :: gs) none st0 st ver outs K = (AOp.ok P .undef st ver (.sidx a x i) ∧ awpR P gs none st0 (AOp.next .undef st ver (.sidx a x i)).1 (AOp.next .undef st ver (.sidx a x i)).2 outs K) := awpR_op rfl
@[simp] theorem awpRg_sidx {d : Option Nat} {t : Nat} {w : Bool} (a : Nat) (x i : Opd) : awpR P (⟨some (t, w), d, (.sidx a x i)⟩ :: gs) none st0 st ver outs K = ∃ b, gtest (st.e t) w = some b ∧ (b = true → AOp.ok P .undef st ver (.sidx a x i)) ∧ awpR P gs (some ⟨t, w, b, GOp.skip ⟨none, d, (.sidx a x i)⟩ st, ver⟩) st0 (AOp.next .undef st ver (.sidx a x i)).1 (AOp.next .undef st ver (.sidx a x i)).2 outs K := awpR_g rfl
@[simp] theorem awpRgg_sidx {d : Option Nat} {t t' : Nat} {w w' b : Bool} {sF : St} {vF : Nat → Nat} (a : Nat) (x i : Opd) : awpR P (⟨some (t', w'), d, (.sidx a x i)⟩ :: gs) (some ⟨t, w, b, sF, vF⟩) st0 st ver outs K = if t = t' ∧ w = w' then ((gtest (st.e t') w' = some b ∧ gtest (sF.e t') w' = some b) ∧ (b = true → AOp.ok P .undef st ver (.sidx a x i)) ∧ awpR P gs (some ⟨t', w', b, GOp.skip ⟨none, d, (.sidx a x i)⟩ sF, vF⟩) st0 (AOp.next .undef st ver (.sidx a x i)).1 (AOp.next .undef st ver (.sidx a x i)).2 outs K) else awpR P (⟨some (t', w'), d, (.sidx a x i)⟩ :: gs) none st0 (if b = true then st else sF) (if b = true then ver else vF) outs K := awpR_gg rfl
@[simp] theorem awpR_bin {d : Option Nat} (a : Nat) (op : BinOp) (bl : Bool) (x y : Opd) : awpR P (⟨none, d, (.bin a op bl x y)⟩ :: gs) none st0 st ver outs K = (AOp.ok P .undef st ver (.bin a op bl x y) ∧ awpR P gs none st0 (AOp.next .undef st ver (.bin a op bl x y)).1 (AOp.next .undef st ver (.bin a op bl x y)).2 outs K) := awpR_op rfl
@[simp] theorem awpRg_bin {d : Option Nat} {t : Nat} {w : Bool} (a : Nat) (op : BinOp) (bl : Bool) (x y : Opd) : awpR P (⟨some (t, w), d, (.bin a op bl x y)⟩ :: gs) none st0 st ver outs K = ∃ b, gtest (st.e t) w = some b ∧ (b = true → AOp.ok P .undef st ver (.bin a op bl x y)) ∧ awpR P gs (some ⟨t, w, b, GOp.skip ⟨none, d, (.bin a op bl x y)⟩ st, ver⟩) st0 (AOp.next .undef st ver (.bin a op bl x y)).1 (AOp.next .undef st ver (.bin a op bl x y)).2 outs K := awpR_g rfl
@[simp] theorem awpRgg_bin {d : Option Nat} {t t' : Nat} {w w' b : Bool} {sF : St} {vF : Nat → Nat} (a : Nat) (op : BinOp) (bl : Bool) (x y : Opd) : awpR P (⟨some (t', w'), d, (.bin a op bl x y)⟩ :: gs) (some ⟨t, w, b, sF, vF⟩) st0 st ver outs K = if t = t' ∧ w = w' then ((gtest (st.e t') w' = some b ∧ gtest (sF.e t') w' = some b) ∧ (b = true → AOp.ok P .undef st ver (.bin a op bl x y)) ∧ awpR P gs (some ⟨t', w', b, GOp.skip ⟨none, d, (.bin a op bl x y)⟩ sF, vF⟩) st0 (AOp.next .undef st ver (.bin a op bl x y)).1 (AOp.next .undef st ver (.bin a op bl x y)).2 outs K) else awpR P (⟨some (t', w'), d, (.bin a op bl x y)⟩ :: gs) none st0 (if b = true then st else sF) (if b = true then ver else vF) outs K := awpR_gg rfl
@[simp] theorem awpR_un {d : Option Nat} (a : Nat) (op : UnOp) (x : Opd) : awpR P (⟨none, d, (.un a op x)⟩ :: gs) none st0 st ver outs K = (AOp.ok P .undef st ver (.un a op x) ∧ awpR P gs none st0 (AOp.next .undef st ver (.un a op x)).1 (AOp.next .undef st ver (.un a op x)).2 outs K) := awpR_op rfl
@[simp] theorem awpRg_un {d : Option Nat} {t : Nat} {w : Bool} (a : Nat) (op : UnOp) (x : Opd) : awpR P (⟨some (t, w), d, (.un a op x)⟩ :: gs) none st0 st ver outs K = ∃ b, gtest (st.e t) w = some b ∧ (b = true → AOp.ok P .undef st ver (.un a op x)) ∧ awpR P gs (some ⟨t, w, b, GOp.skip ⟨none, d, (.un a op x)⟩ st, ver⟩) st0 (AOp.next .undef st ver (.un a op x)).1 (AOp.next .undef st ver (.un a op x)).2 outs K := awpR_g rfl
@[simp] theorem awpRgg_un {d : Option Nat} {t t' : Nat} {w w' b : Bool} {sF : St} {vF : Nat → Nat} (a : Nat) (op : UnOp) (x : Opd) : awpR P (⟨some (t', w'), d, (.un a op x)⟩ :: gs) (some ⟨t, w, b, sF, vF⟩) st0 st ver outs K = if t = t' ∧ w = w' then ((gtest (st.e t') w' = some b ∧ gtest (sF.e t') w' = some b) ∧ (b = true → AOp.ok P .undef st ver (.un a op x)) ∧ awpR P gs (some ⟨t', w', b, GOp.skip ⟨none, d, (.un a op x)⟩ sF, vF⟩) st0 (AOp.next .undef st ver (.un a op x)).1 (AOp.next .undef st ver (.un a op x)).2 outs K) else awpR P (⟨some (t', w'), d, (.un a op x)⟩ :: gs) none st0 (if b = true then st else sF) (if b = true then ver else vF) outs K := awpR_gg rfl
@[simp] theorem awpR_conv {d : Option Nat} (a : Nat) (c : Cv) (x : Opd) : awpR P (⟨none, d, (.conv a c x)⟩ :: gs) none st0 st ver outs K = (AOp.ok P .undef st ver (.conv a c x) ∧ awpR P gs none st0 (AOp.next .undef st ver (.conv a c x)).1 (AOp.next .undef st ver (.conv a c x)).2 outs K) := awpR_op rfl
@[simp] theorem awpRg_conv {d : Option Nat} {t : Nat} {w : Bool} (a : Nat) (c : Cv) (x : Opd) : awpR P (⟨some (t, w), d, (.conv a c x)⟩ :: gs) none st0 st ver outs K = ∃ b, gtest (st.e t) w = some b ∧ (b = true → AOp.ok P .undef st ver (.conv a c x)) ∧ awpR P gs (some ⟨t, w, b, GOp.skip ⟨none, d, (.conv a c x)⟩ st, ver⟩) st0 (AOp.next .undef st ver (.conv a c x)).1 (AOp.next .undef st ver (.conv a c x)).2 outs K := awpR_g rfl
@[simp] theorem awpRgg_conv {d : Option Nat} {t t' : Nat} {w w' b : Bool} {sF : St} {vF : Nat → Nat} (a : Nat) (c : Cv) (x : Opd) : awpR P (⟨some (t', w'), d, (.conv a c x)⟩ :: gs) (some ⟨t, w, b, sF, vF⟩) st0 st ver outs K = if t = t' ∧ w = w' then ((gtest (st.e t') w' = some b ∧ gtest (sF.e t') w' = some b) ∧ (b = true → AOp.ok P .undef st ver (.conv a c x)) ∧ awpR P gs (some ⟨t', w', b, GOp.skip ⟨none, d, (.conv a c x)⟩ sF, vF⟩) st0 (AOp.next .undef st ver (.conv a c x)).1 (AOp.next .undef st ver (.conv a c x)).2 outs K) else awpR P (⟨some (t', w'), d, (.conv a c x)⟩ :: gs) none st0 (if b = true then st else sF) (if b = true then ver else vF) outs K := awpR_gg rfl
@[simp] theorem awpR_sslice {d : Option Nat} (a : Nat) (x : Opd) (l h : Option Opd) : awpR P (⟨none, d, (.sslice a x l h)⟩ :: gs) none st0 st ver outs K = (AOp.ok P .undef st ver (.sslice a x l h) ∧ awpR P gs none st0 (AOp.next .undef st ver (.sslice a x l h)).1 (AOp.next .undef st ver (.sslice a x l h)).2 outs K) := awpR_op rfl
@[simp] theorem awpRg_sslice {d : Option Nat} {t : Nat} {w : Bool} (a : Nat) (x : Opd) (l h : Option Opd) : awpR P (⟨some (t, w), d, (.sslice a x l h)⟩ :: gs) none st0 st ver outs K = ∃ b, gtest (st.e t) w = some b ∧ (b = true → AOp.ok P .undef st ver (.sslice a x l h)) ∧ awpR P gs (some ⟨t, w, b, GOp.skip ⟨none, d, (.sslice a x l h)⟩ st, ver⟩) st0 (AOp.next .undef st ver (.sslice a x l h)).1 (AOp.next .undef st ver (.sslice a x l h)).2 outs K := awpR_g rfl
@[simp] theorem awpRgg_sslice {d : Option Nat} {t t' : Nat} {w w' b : Bool} {sF : St} {vF : Nat → Nat} (a : Nat) (x : Opd) (l h : Option Opd) : awpR P (⟨some (t', w'), d, (.sslice a x l h)⟩ :: gs) (some ⟨t, w, b, sF, vF⟩) st0 st ver outs K = if t = t' ∧ w = w' then ((gtest (st.e t') w' = some b ∧ gtest (sF.e t') w' = some b) ∧ (b = true → AOp.ok P .undef st ver (.sslice a x l h)) ∧ awpR P gs (some ⟨t', w', b, GOp.skip ⟨none, d, (.sslice a x l h)⟩ sF, vF⟩) st0 (AOp.next .undef st ver (.sslice a x l h)).1 (AOp.next .undef st ver (.sslice a x l h)).2 outs K) else awpR P (⟨some (t', w'), d, (.sslice a x l h)⟩ :: gs) none st0 (if b = true then st else sF) (if b = true then ver else vF) outs K := awpR_gg rfl
@[simp] theorem awpR_lslice {d : Option Nat} (a : Nat) (x : Opd) (l h : Option Opd) (z : Nat) : awpR P (⟨none, d, (.lslice a x l h z)⟩ :: gs) none st0 st ver outs K = (AOp.ok P .undef st ver (.lslice a x l h z) ∧ awpR P gs none st0 (AOp.next .undef st ver (.lslice a x l h z)).1 (AOp.next .undef st ver (.lslice a x l h z)).2 outs K) := awpR_op rfl
@[simp] theorem awpRg_lslice {d : Option Nat} {t : Nat} {w : Bool} (a : Nat) (x : Opd) (l h : Option Opd) (z : Nat) : awpR P (⟨some (t, w), d, (.lslice a x l h z)⟩ :: gs) none st0 st ver outs K = ∃ b, gtest (st.e t) w = some b ∧ (b = true → AOp.ok P .undef st ver (.lslice a x l h z)) ∧ awpR P gs (some ⟨t, w, b, GOp.skip ⟨none, d, (.lslice a x l h z)⟩ st, ver⟩) st0 (AOp.next .undef st ver (.lslice a x l h z)).1 (AOp.next .undef st ver (.lslice a x l h z)).2 outs K := awpR_g rfl
@[simp] theorem awpRgg_lslice {d : Option Nat} {t t' : Nat} {w w' b : Bool} {sF : St} {vF : Nat → Nat} (a : Nat) (x : Opd) (l h : Option Opd) (z : Nat) : awpR P (⟨some (t', w'), d, (.lslice a x l h z)⟩ :: gs) (some ⟨t, w, b, sF, vF⟩) st0 st ver outs K = if t = t' ∧ w = w' then ((gtest (st.e t') w' = some b ∧ gtest (sF.e t') w' = some b) ∧ (b = true → AOp.ok P .undef st ver (.lslice a x l h z)) ∧ awpR P gs (some ⟨t', w', b, GOp.skip ⟨none, d, (.lslice a x l h z)⟩ sF, vF⟩) st0 (AOp.next .undef st ver (.lslice a x l h z)).1 (AOp.next .undef st ver (.lslice a x l h z)).2 outs K) else awpR P (⟨some (t', w'), d, (.lslice a x l h z)⟩ :: gs) none st0 (if b = true then st else sF) (if b = true then ver else vF) outs K := awpR_gg rfl
@[simp] theorem awpR_build {d : Option Nat} (a : Nat) (z : List AV) (ps : List (Nat × Nat × Opd)) : awpR P (⟨none, d, (.build a z ps)⟩ :: gs) none st0 st ver outs K = (AOp.ok P .undef st ver (.build a z ps) ∧ awpR P gs none st0 (AOp.next .undef st ver (.build a z ps)).1 (AOp.next .undef st ver (.build a z ps)).2 outs K) := awpR_op rfl
@[simp] theorem awpRg_build {d : Option Nat} {t : Nat} {w : Bool} (a : Nat) (z : List AV) (ps : List (Nat × Nat × Opd)) : awpR P (⟨some (t, w), d, (.build a z ps)⟩ :: gs) none st0 st ver outs K = ∃ b, gtest (st.e t) w = some b ∧ (b = true → AOp.ok P .undef st ver (.build a z ps)) ∧ awpR P gs (some ⟨t, w, b, GOp.skip ⟨none, d, (.build a z ps)⟩ st, ver⟩) st0 (AOp.next .undef st ver (.build a z ps)).1 (AOp.next .undef st ver (.build a z ps)).2 outs K := awpR_g rfl
@[simp] theorem awpRgg_build {d : Option Nat} {t t' : Nat} {w w' b : Bool} {sF : St} {vF : Nat → Nat} (a : Nat) (z : List AV) (ps : List (Nat × Nat × Opd)) : awpR P (⟨some (t', w'), d, (.build a z ps)⟩ :: gs) (some ⟨t, w, b, sF, vF⟩) st0 st ver outs K = if t = t' ∧ w = w' then ((gtest (st.e t') w' = some b ∧ gtest (sF.e t') w' = some b) ∧ (b = true → AOp.ok P .undef st ver (.build a z ps)) ∧ awpR P gs (some ⟨t', w', b, GOp.skip ⟨none, d, (.build a z ps)⟩ sF, vF⟩) st0 (AOp.next .undef st ver (.build a z ps)).1 (AOp.next .undef st ver (.build a z ps)).2 outs K) else awpR P (⟨some (t', w'), d, (.build a z ps)⟩ :: gs) none st0 (if b = true then st else sF) (if b = true then ver else vF) outs K := awpR_gg rfl
@[simp] theorem awpR_mkslice {d : Option Nat} (a z : Nat) (xs : List Opd) : awpR P (⟨none, d, (.mkslice a z xs)⟩ :: gs) none st0 st ver outs K = (AOp.ok P .undef st ver (.mkslice a z xs) ∧ awpR P gs none st0 (AOp.next .undef st ver (.mkslice a z xs)).1 (AOp.next .undef st ver (.mkslice a z xs)).2 outs K) := awpR_op rfl
@[simp] theorem awpRg_mkslice {d : Option Nat} {t : Nat} {w : Bool} (a z : Nat) (xs : List Opd) : awpR P (⟨some (t, w), d, (.mkslice a z xs)⟩ :: gs) none st0 st ver outs K = ∃ b, gtest (st.e t) w = some b ∧ (b = true → AOp.ok P .undef st ver (.mkslice a z xs)) ∧ awpR P gs (some ⟨t, w, b, GOp.skip ⟨none, d, (.mkslice a z xs)⟩ st, ver⟩) st0 (AOp.next .undef st ver (.mkslice a z xs)).1 (AOp.next .undef st ver (.mkslice a z xs)).2 outs K := awpR_g rfl
@[simp] theorem awpRgg_mkslice {d : Option Nat} {t t' : Nat} {w w' b : Bool} {sF : St} {vF : Nat → Nat} (a z : Nat) (xs : List Opd) : awpR P (⟨some (t', w'), d, (.mkslice a z xs)⟩ :: gs) (some ⟨t, w, b, sF, vF⟩) st0 st ver outs K = if t = t' ∧ w = w' then ((gtest (st.e t') w' = some b ∧ gtest (sF.e t') w' = some b) ∧ (b = true → AOp.ok P .undef st ver (.mkslice a z xs)) ∧ awpR P gs (some ⟨t', w', b, GOp.skip ⟨none, d, (.mkslice a z xs)⟩ sF, vF⟩) st0 (AOp.next .undef st ver (.mkslice a z xs)).1 (AOp.next .undef st ver (.mkslice a z xs)).2 outs K) else awpR P (⟨some (t', w'), d, (.mkslice a z xs)⟩ :: gs) none st0 (if b = true then st else sF) (if b = true then ver else vF) outs K := awpR_gg rfl
@[simp] theorem awpR_len {d : Option Nat} (a : Nat) (bl : Bool) (x : Opd) : awpR P (⟨none, d, (.len a bl x)⟩ :: gs) none st0 st ver outs K = (AOp.ok P .undef st ver (.len a bl x) ∧ awpR P gs none st0 (AOp.next .undef st ver (.len a bl x)).1 (AOp.next .undef st ver (.len a bl x)).2 outs K) := awpR_op rfl
@[simp] theorem awpRg_len {d : Option Nat} {t : Nat} {w : Bool} (a : Nat) (bl : Bool) (x : Opd) : awpR P (⟨some (t, w), d, (.len a bl x)⟩ :: gs) none st0 st ver outs K = ∃ b, gtest (st.e t) w = some b ∧ (b = true → AOp.ok P .undef st ver (.len a bl x)) ∧ awpR P gs (some ⟨t, w, b, GOp.skip ⟨none, d, (.len a bl x)⟩ st, ver⟩) st0 (AOp.next .undef st ver (.len a bl x)).1 (AOp.next .undef st ver (.len a bl x)).2 outs K := awpR_g rfl
@[simp] theorem awpRgg_len {d : Option Nat} {t t' : Nat} {w w' b : Bool} {sF : St} {vF : Nat → Nat} (a : Nat) (bl : Bool) (x : Opd) : awpR P (⟨some (t', w'), d, (.len a bl x)⟩ :: gs) (some ⟨t, w, b, sF, vF⟩) st0 st ver outs K = if t = t' ∧ w = w' then ((gtest (st.e t') w' = some b ∧ gtest (sF.e t') w' = some b) ∧ (b = true → AOp.ok P .undef st ver (.len a bl x)) ∧ awpR P gs (some ⟨t', w', b, GOp.skip ⟨none, d, (.len a bl x)⟩ sF, vF⟩) st0 (AOp.next .undef st ver (.len a bl x)).1 (AOp.next .undef st ver (.len a bl x)).2 outs K) else awpR P (⟨some (t', w'), d, (.len a bl x)⟩ :: gs) none st0 (if b = true then st else sF) (if b = true then ver else vF) outs K := awpR_gg rfl
@[simp] theorem awpR_append {d : Option Nat} (a : Nat) (x y : Opd) (z bl : Nat) : awpR P (⟨none, d, (.append a x y z bl)⟩ :: gs) none st0 st ver outs K = (AOp.ok P .undef st ver (.append a x y z bl) ∧ awpR P gs none st0 (AOp.next .undef st ver (.append a x y z bl)).1 (AOp.next .undef st ver (.append a x y z bl)).2 outs K) := awpR_op rfl
@[simp] theorem awpRg_append {d : Option Nat} {t : Nat} {w : Bool} (a : Nat) (x y : Opd) (z bl : Nat) : awpR P (⟨some (t, w), d, (.append a x y z bl)⟩ :: gs) none st0 st ver outs K = ∃ b, gtest (st.e t) w = some b ∧ (b = true → AOp.ok P .undef st ver (.append a x y z bl)) ∧ awpR P gs (some ⟨t, w, b, GOp.skip ⟨none, d, (.append a x y z bl)⟩ st, ver⟩) st0 (AOp.next .undef st ver (.append a x y z bl)).1 (AOp.next .undef st ver (.append a x y z bl)).2 outs K := awpR_g rfl
@[simp] theorem awpRgg_append {d : Option Nat} {t t' : Nat} {w w' b : Bool} {sF : St} {vF : Nat → Nat} (a : Nat) (x y : Opd) (z bl : Nat) : awpR P (⟨some (t', w'), d, (.append a x y z bl)⟩ :: gs) (some ⟨t, w, b, sF, vF⟩) st0 st ver outs K = if t = t' ∧ w = w' then ((gtest (st.e t') w' = some b ∧ gtest (sF.e t') w' = some b) ∧ (b = true → AOp.ok P .undef st ver (.append a x y z bl)) ∧ awpR P gs (some ⟨t', w', b, GOp.skip ⟨none, d, (.append a x y z bl)⟩ sF, vF⟩) st0 (AOp.next .undef st ver (.append a x y z bl)).1 (AOp.next .undef st ver (.append a x y z bl)).2 outs K) else awpR P (⟨some (t', w'), d, (.append a x y z bl)⟩ :: gs) none st0 (if b = true then st else sF) (if b = true then ver else vF) outs K := awpR_gg rfl
@[simp] theorem awpR_extract {d : Option Nat} (a : Nat) (x : Opd) (i : Nat) : awpR P (⟨none, d, (.extract a x i)⟩ :: gs) none st0 st ver outs K = (AOp.ok P .undef st ver (.extract a x i) ∧ awpR P gs none st0 (AOp.next .undef st ver (.extract a x i)).1 (AOp.next .undef st ver (.extract a x i)).2 outs K) := awpR_op rfl
@[simp] theorem awpRg_extract {d : Option Nat} {t : Nat} {w : Bool} (a : Nat) (x : Opd) (i : Nat) : awpR P (⟨some (t, w), d, (.extract a x i)⟩ :: gs) none st0 st ver outs K = ∃ b, gtest (st.e t) w = some b ∧ (b = true → AOp.ok P .undef st ver (.extract a x i)) ∧ awpR P gs (some ⟨t, w, b, GOp.skip ⟨none, d, (.extract a x i)⟩ st, ver⟩) st0 (AOp.next .undef st ver (.extract a x i)).1 (AOp.next .undef st ver (.extract a x i)).2 outs K := awpR_g rfl
@[simp] theorem awpRgg_extract {d : Option Nat} {t t' : Nat} {w w' b : Bool} {sF : St} {vF : Nat → Nat} (a : Nat) (x : Opd) (i : Nat) : awpR P (⟨some (t', w'), d, (.extract a x i)⟩ :: gs) (some ⟨t, w, b, sF, vF⟩) st0 st ver outs K = if t = t' ∧ w = w' then ((gtest (st.e t') w' = some b ∧ gtest (sF.e t') w' = some b) ∧ (b = true → AOp.ok P .undef st ver (.extract a x i)) ∧ awpR P gs (some ⟨t', w', b, GOp.skip ⟨none, d, (.extract a x i)⟩ sF, vF⟩) st0 (AOp.next .undef st ver (.extract a x i)).1 (AOp.next .undef st ver (.extract a x i)).2 outs K) else awpR P (⟨some (t', w'), d, (.extract a x i)⟩ :: gs) none st0 (if b = true then st else sF) (if b = true then ver else vF) outs K := awpR_gg rfl
@[simp] theorem awpR_xapp {d : Option Nat} (a : Nat) (x y : Opd) (z q : Nat) : awpR P (⟨none, d, (.xapp a x y z q)⟩ :: gs) none st0 st ver outs K = (AOp.ok P .undef st ver (.xapp a x y z q) ∧ awpR P gs none st0 (AOp.next .undef st ver (.xapp a x y z q)).1 (AOp.next .undef st ver (.xapp a x y z q)).2 outs K) := awpR_op rfl
@[simp] theorem awpRg_xapp {d : Option Nat} {t : Nat} {w : Bool} (a : Nat) (x y : Opd) (z q : Nat) : awpR P (⟨some (t, w), d, (.xapp a x y z q)⟩ :: gs) none st0 st ver outs K = ∃ b, gtest (st.e t) w = some b ∧ (b = true → AOp.ok P .undef st ver (.xapp a x y z q)) ∧ awpR P gs (some ⟨t, w, b, GOp.skip ⟨none, d, (.xapp a x y z q)⟩ st, ver⟩) st0 (AOp.next .undef st ver (.xapp a x y z q)).1 (AOp.next .undef st ver (.xapp a x y z q)).2 outs K := awpR_g rfl
@[simp] theorem awpRgg_xapp {d : Option Nat} {t t' : Nat} {w w' b : Bool} {sF : St} {vF : Nat → Nat} (a : Nat) (x y : Opd) (z q : Nat) : awpR P (⟨some (t', w'), d, (.xapp a x y z q)⟩ :: gs) (some ⟨t, w, b, sF, vF⟩) st0 st ver outs K = if t = t' ∧ w = w' then ((gtest (st.e t') w' = some b ∧ gtest (sF.e t') w' = some b) ∧ (b = true → AOp.ok P .undef st ver (.xapp a x y z q)) ∧ awpR P gs (some ⟨t', w', b, GOp.skip ⟨none, d, (.xapp a x y z q)⟩ sF, vF⟩) st0 (AOp.next .undef st ver (.xapp a x y z q)).1 (AOp.next .undef st ver (.xapp a x y z q)).2 outs K) else awpR P (⟨some (t', w'), d, (.xapp a x y z q)⟩ :: gs) none st0 (if b = true then st else sF) (if b = true then ver else vF) outs K := awpR_gg rfl
@[simp] theorem awpR_xfreeze {d : Option Nat} (a q : Nat) : awpR P (⟨none, d, (.xfreeze a q)⟩ :: gs) none st0 st ver outs K = (AOp.ok P .undef st ver (.xfreeze a q) ∧ awpR P gs none st0 (AOp.next .undef st ver (.xfreeze a q)).1 (AOp.next .undef st ver (.xfreeze a q)).2 outs K) := awpR_op rfl
@[simp] theorem awpRg_xfreeze {d : Option Nat} {t : Nat} {w : Bool} (a q : Nat) : awpR P (⟨some (t, w), d, (.xfreeze a q)⟩ :: gs) none st0 st ver outs K = ∃ b, gtest (st.e t) w = some b ∧ (b = true → AOp.ok P .undef st ver (.xfreeze a q)) ∧ awpR P gs (some ⟨t, w, b, GOp.skip ⟨none, d, (.xfreeze a q)⟩ st, ver⟩) st0 (AOp.next .undef st ver (.xfreeze a q)).1 (AOp.next .undef st ver (.xfreeze a q)).2 outs K := awpR_g rfl
@[simp] theorem awpRgg_xfreeze {d : Option Nat} {t t' : Nat} {w w' b : Bool} {sF : St} {vF : Nat → Nat} (a q : Nat) : awpR P (⟨some (t', w'), d, (.xfreeze a q)⟩ :: gs) (some ⟨t, w, b, sF, vF⟩) st0 st ver outs K = if t = t' ∧ w = w' then ((gtest (st.e t') w' = some b ∧ gtest (sF.e t') w' = some b) ∧ (b = true → AOp.ok P .undef st ver (.xfreeze a q)) ∧ awpR P gs (some ⟨t', w', b, GOp.skip ⟨none, d, (.xfreeze a q)⟩ sF, vF⟩) st0 (AOp.next .undef st ver (.xfreeze a q)).1 (AOp.next .undef st ver (.xfreeze a q)).2 outs K) else awpR P (⟨some (t', w'), d, (.xfreeze a q)⟩ :: gs) none st0 (if b = true then st else sF) (if b = true then ver else vF) outs K := awpR_gg rfl
@[simp] theorem awpR_aeq {d : Option Nat} (a : Nat) (g : Bool) (x y : Opd) (h : List AV) : awpR P (⟨none, d, (.aeq a g x y h)⟩ :: gs) none st0 st ver outs K = (AOp.ok P .undef st ver (.aeq a g x y h) ∧ awpR P gs none st0 (AOp.next .undef st ver (.aeq a g x y h)).1 (AOp.next .undef st ver (.aeq a g x y h)).2 outs K) := awpR_op rfl
@[simp] theorem awpRg_aeq {d : Option Nat} {t : Nat} {w : Bool} (a : Nat) (g : Bool) (x y : Opd) (h : List AV) : awpR P (⟨some (t, w), d, (.aeq a g x y h)⟩ :: gs) none st0 st ver outs K = ∃ b, gtest (st.e t) w = some b ∧ (b = true → AOp.ok P .undef st ver (.aeq a g x y h)) ∧ awpR P gs (some ⟨t, w, b, GOp.skip ⟨none, d, (.aeq a g x y h)⟩ st, ver⟩) st0 (AOp.next .undef st ver (.aeq a g x y h)).1 (AOp.next .undef st ver (.aeq a g x y h)).2 outs K := awpR_g rfl
@[simp] theorem awpRgg_aeq {d : Option Nat} {t t' : Nat} {w w' b : Bool} {sF : St} {vF : Nat → Nat} (a : Nat) (g : Bool) (x y : Opd) (h : List AV) : awpR P (⟨some (t', w'), d, (.aeq a g x y h)⟩ :: gs) (some ⟨t, w, b, sF, vF⟩) st0 st ver outs K = if t = t' ∧ w = w' then ((gtest (st.e t') w' = some b ∧ gtest (sF.e t') w' = some b) ∧ (b = true → AOp.ok P .undef st ver (.aeq a g x y h)) ∧ awpR P gs (some ⟨t', w', b, GOp.skip ⟨none, d, (.aeq a g x y h)⟩ sF, vF⟩) st0 (AOp.next .undef st ver (.aeq a g x y h)).1 (AOp.next .undef st ver (.aeq a g x y h)).2 outs K) else awpR P (⟨some (t', w'), d, (.aeq a g x y h)⟩ :: gs) none st0 (if b = true then st else sF) (if b = true then ver else vF) outs K := awpR_gg rfl
@[simp] theorem awpR_mkmap {d : Option Nat} (a : Nat) : awpR P (⟨none, d, (.mkmap a)⟩ :: gs) none st0 st ver outs K = (AOp.ok P .undef st ver (.mkmap a) ∧ awpR P gs none st0 (AOp.next .undef st ver (.mkmap a)).1 (AOp.next .undef st ver (.mkmap a)).2 outs K) := awpR_op rfl
@[simp] theorem awpRg_mkmap {d : Option Nat} {t : Nat} {w : Bool} (a : Nat) : awpR P (⟨some (t, w), d, (.mkmap a)⟩ :: gs) none st0 st ver outs K = ∃ b, gtest (st.e t) w = some b ∧ (b = true → AOp.ok P .undef st ver (.mkmap a)) ∧ awpR P gs (some ⟨t, w, b, GOp.skip ⟨none, d, (.mkmap a)⟩ st, ver⟩) st0 (AOp.next .undef st ver (.mkmap a)).1 (AOp.next .undef st ver (.mkmap a)).2 outs K := awpR_g rfl
@[simp] theorem awpRgg_mkmap {d : Option Nat} {t t' : Nat} {w w' b : Bool} {sF : St} {vF : Nat → Nat} (a : Nat) : awpR P (⟨some (t', w'), d, (.mkmap a)⟩ :: gs) (some ⟨t, w, b, sF, vF⟩) st0 st ver outs K = if t = t' ∧ w = w' then ((gtest (st.e t') w' = some b ∧ gtest (sF.e t') w' = some b) ∧ (b = true → AOp.ok P .undef st ver (.mkmap a)) ∧ awpR P gs (some ⟨t', w', b, GOp.skip ⟨none, d, (.mkmap a)⟩ sF, vF⟩) st0 (AOp.next .undef st ver (.mkmap a)).1 (AOp.next .undef st ver (.mkmap a)).2 outs K) else awpR P (⟨some (t', w'), d, (.mkmap a)⟩ :: gs) none st0 (if b = true then st else sF) (if b = true then ver else vF) outs K := awpR_gg rfl
@[simp] theorem awpR_mvb {d : Option Nat} (a q : Nat) : awpR P (⟨none, d, (.mvb a q)⟩ :: gs) none st0 st ver outs K = (AOp.ok P .undef st ver (.mvb a q) ∧ awpR P gs none st0 (AOp.next .undef st ver (.mvb a q)).1 (AOp.next .undef st ver (.mvb a q)).2 outs K) := awpR_op rfl
@[simp] theorem awpRg_mvb {d : Option Nat} {t : Nat} {w : Bool} (a q : Nat) : awpR P (⟨some (t, w), d, (.mvb a q)⟩ :: gs) none st0 st ver outs K = ∃ b, gtest (st.e t) w = some b ∧ (b = true → AOp.ok P .undef st ver (.mvb a q)) ∧ awpR P gs (some ⟨t, w, b, GOp.skip ⟨none, d, (.mvb a q)⟩ st, ver⟩) st0 (AOp.next .undef st ver (.mvb a q)).1 (AOp.next .undef st ver (.mvb a q)).2 outs K := awpR_g rfl
@[simp] theorem awpRgg_mvb {d : Option Nat} {t t' : Nat} {w w' b : Bool} {sF : St} {vF : Nat → Nat} (a q : Nat) : awpR P (⟨some (t', w'), d, (.mvb a q)⟩ :: gs) (some ⟨t, w, b, sF, vF⟩) st0 st ver outs K = if t = t' ∧ w = w' then ((gtest (st.e t') w' = some b ∧ gtest (sF.e t') w' = some b) ∧ (b = true → AOp.ok P .undef st ver (.mvb a q)) ∧ awpR P gs (some ⟨t', w', b, GOp.skip ⟨none, d, (.mvb a q)⟩ sF, vF⟩) st0 (AOp.next .undef st ver (.mvb a q)).1 (AOp.next .undef st ver (.mvb a q)).2 outs K) else awpR P (⟨some (t', w'), d, (.mvb a q)⟩ :: gs) none st0 (if b = true then st else sF) (if b = true then ver else vF) outs K := awpR_gg rfl
@[simp] theorem awpR_malias {d : Option Nat} (a q : Nat) : awpR P (⟨none, d, (.malias a q)⟩ :: gs) none st0 st ver outs K = (AOp.ok P .undef st ver (.malias a q) ∧ awpR P gs none st0 (AOp.next .undef st ver (.malias a q)).1 (AOp.next .undef st ver (.malias a q)).2 outs K) := awpR_op rfl
@[simp] theorem awpRg_malias {d : Option Nat} {t : Nat} {w : Bool} (a q : Nat) : awpR P (⟨some (t, w), d, (.malias a q)⟩ :: gs) none st0 st ver outs K = ∃ b, gtest (st.e t) w = some b ∧ (b = true → AOp.ok P .undef st ver (.malias a q)) ∧ awpR P gs (some ⟨t, w, b, GOp.skip ⟨none, d, (.malias a q)⟩ st, ver⟩) st0 (AOp.next .undef st ver (.malias a q)).1 (AOp.next .undef st ver (.malias a q)).2 outs K := awpR_g rfl
@[simp] theorem awpRgg_malias {d : Option Nat} {t t' : Nat} {w w' b : Bool} {sF : St} {vF : Nat → Nat} (a q : Nat) : awpR P (⟨some (t', w'), d, (.malias a q)⟩ :: gs) (some ⟨t, w, b, sF, vF⟩) st0 st ver outs K = if t = t' ∧ w = w' then ((gtest (st.e t') w' = some b ∧ gtest (sF.e t') w' = some b) ∧ (b = true → AOp.ok P .undef st ver (.malias a q)) ∧ awpR P gs (some ⟨t', w', b, GOp.skip ⟨none, d, (.malias a q)⟩ sF, vF⟩) st0 (AOp.next .undef st ver (.malias a q)).1 (AOp.next .undef st ver (.malias a q)).2 outs K) else awpR P (⟨some (t', w'), d, (.malias a q)⟩ :: gs) none st0 (if b = true then st else sF) (if b = true then ver else vF) outs K := awpR_gg rfl
@[simp] theorem awpR_mlook {d : Option Nat} (a q : Nat) (p : Option Nat) (k : Opd) (z : AV) (h : List AV) (g two : Bool) : awpR P (⟨none, d, (.mlook a q p k z h g two)⟩ :: gs) none st0 st ver outs K = (AOp.ok P .undef st ver (.mlook a q p k z h g two) ∧ awpR P gs none st0 (AOp.next .undef st ver (.mlook a q p k z h g two)).1 (AOp.next .undef st ver (.mlook a q p k z h g two)).2 outs K) := awpR_op rfl
@[simp] theorem awpRg_mlook {d : Option Nat} {t : Nat} {w : Bool} (a q : Nat) (p : Option Nat) (k : Opd) (z : AV) (h : List AV) (g two : Bool) : awpR P (⟨some (t, w), d, (.mlook a q p k z h g two)⟩ :: gs) none st0 st ver outs K = ∃ b, gtest (st.e t) w = some b ∧ (b = true → AOp.ok P .undef st ver (.mlook a q p k z h g two)) ∧ awpR P gs (some ⟨t, w, b, GOp.skip ⟨none, d, (.mlook a q p k z h g two)⟩ st, ver⟩) st0 (AOp.next .undef st ver (.mlook a q p k z h g two)).1 (AOp.next .undef st ver (.mlook a q p k z h g two)).2 outs K := awpR_g rfl
@[simp] theorem awpRgg_mlook {d : Option Nat} {t t' : Nat} {w w' b : Bool} {sF : St} {vF : Nat → Nat} (a q : Nat) (p : Option Nat) (k : Opd) (z : AV) (h : List AV) (g two : Bool) : awpR P (⟨some (t', w'), d, (.mlook a q p k z h g two)⟩ :: gs) (some ⟨t, w, b, sF, vF⟩) st0 st ver outs K = if t = t' ∧ w = w' then ((gtest (st.e t') w' = some b ∧ gtest (sF.e t') w' = some b) ∧ (b = true → AOp.ok P .undef st ver (.mlook a q p k z h g two)) ∧ awpR P gs (some ⟨t', w', b, GOp.skip ⟨none, d, (.mlook a q p k z h g two)⟩ sF, vF⟩) st0 (AOp.next .undef st ver (.mlook a q p k z h g two)).1 (AOp.next .undef st ver (.mlook a q p k z h g two)).2 outs K) else awpR P (⟨some (t', w'), d, (.mlook a q p k z h g two)⟩ :: gs) none st0 (if b = true then st else sF) (if b = true then ver else vF) outs K := awpR_gg rfl
@[simp] theorem awpR_mentry {d : Option Nat} (a q : Nat) (p : Option Nat) (k : Opd) (z : AV) (h : List AV) (g : Bool) : awpR P (⟨none, d, (.mentry a q p k z h g)⟩ :: gs) none st0 st ver outs K = (AOp.ok P .undef st ver (.mentry a q p k z h g) ∧ awpR P gs none st0 (AOp.next .undef st ver (.mentry a q p k z h g)).1 (AOp.next .undef st ver (.mentry a q p k z h g)).2 outs K) := awpR_op rfl
@[simp] theorem awpRg_mentry {d : Option Nat} {t : Nat} {w : Bool} (a q : Nat) (p : Option Nat) (k : Opd) (z : AV) (h : List AV) (g : Bool) : awpR P (⟨some (t, w), d, (.mentry a q p k z h g)⟩ :: gs) none st0 st ver outs K = ∃ b, gtest (st.e t) w = some b ∧ (b = true → AOp.ok P .undef st ver (.mentry a q p k z h g)) ∧ awpR P gs (some ⟨t, w, b, GOp.skip ⟨none, d, (.mentry a q p k z h g)⟩ st, ver⟩) st0 (AOp.next .undef st ver (.mentry a q p k z h g)).1 (AOp.next .undef st ver (.mentry a q p k z h g)).2 outs K := awpR_g rfl
@[simp] theorem awpRgg_mentry {d : Option Nat} {t t' : Nat} {w w' b : Bool} {sF : St} {vF : Nat → Nat} (a q : Nat) (p : Option Nat) (k : Opd) (z : AV) (h : List AV) (g : Bool) : awpR P (⟨some (t', w'), d, (.mentry a q p k z h g)⟩ :: gs) (some ⟨t, w, b, sF, vF⟩) st0 st ver outs K = if t = t' ∧ w = w' then ((gtest (st.e t') w' = some b ∧ gtest (sF.e t') w' = some b) ∧ (b = true → AOp.ok P .undef st ver (.mentry a q p k z h g)) ∧ awpR P gs (some ⟨t', w', b, GOp.skip ⟨none, d, (.mentry a q p k z h g)⟩ sF, vF⟩) st0 (AOp.next .undef st ver (.mentry a q p k z h g)).1 (AOp.next .undef st ver (.mentry a q p k z h g)).2 outs K) else awpR P (⟨some (t', w'), d, (.mentry a q p k z h g)⟩ :: gs) none st0 (if b = true then st else sF) (if b = true then ver else vF) outs K := awpR_gg rfl
@[simp] theorem awpR_mestore {d : Option Nat} (q : Nat) (p : Option Nat) (x y : Opd) : awpR P (⟨none, d, (.mestore q p x y)⟩ :: gs) none st0 st ver outs K = (AOp.ok P .undef st ver (.mestore q p x y) ∧ awpR P gs none st0 (AOp.next .undef st ver (.mestore q p x y)).1 (AOp.next .undef st ver (.mestore q p x y)).2 outs K) := awpR_op rfl
@[simp] theorem awpRg_mestore {d : Option Nat} {t : Nat} {w : Bool} (q : Nat) (p : Option Nat) (x y : Opd) : awpR P (⟨some (t, w), d, (.mestore q p x y)⟩ :: gs) none st0 st ver outs K = ∃ b, gtest (st.e t) w = some b ∧ (b = true → AOp.ok P .undef st ver (.mestore q p x y)) ∧ awpR P gs (some ⟨t, w, b, GOp.skip ⟨none, d, (.mestore q p x y)⟩ st, ver⟩) st0 (AOp.next .undef st ver (.mestore q p x y)).1 (AOp.next .undef st ver (.mestore q p x y)).2 outs K := awpR_g rfl
@[simp] theorem awpRgg_mestore {d : Option Nat} {t t' : Nat} {w w' b : Bool} {sF : St} {vF : Nat → Nat} (q : Nat) (p : Option Nat) (x y : Opd) : awpR P (⟨some (t', w'), d, (.mestore q p x y)⟩ :: gs) (some ⟨t, w, b, sF, vF⟩) st0 st ver outs K = if t = t' ∧ w = w' then ((gtest (st.e t') w' = some b ∧ gtest (sF.e t') w' = some b) ∧ (b = true → AOp.ok P .undef st ver (.mestore q p x y)) ∧ awpR P gs (some ⟨t', w', b, GOp.skip ⟨none, d, (.mestore q p x y)⟩ sF, vF⟩) st0 (AOp.next .undef st ver (.mestore q p x y)).1 (AOp.next .undef st ver (.mestore q p x y)).2 outs K) else awpR P (⟨some (t', w'), d, (.mestore q p x y)⟩ :: gs) none st0 (if b = true then st else sF) (if b = true then ver else vF) outs K := awpR_gg rfl
@[simp] theorem awpR_bot {d : Option Nat} (a : Option Nat) : awpR P (⟨none, d, (.bot a)⟩ :: gs) none st0 st ver outs K = (AOp.ok P .undef st ver (.bot a) ∧ awpR P gs none st0 (AOp.next .undef st ver (.bot a)).1 (AOp.next .undef st ver (.bot a)).2 outs K) := awpR_op rfl
@[simp] theorem awpRg_bot {d : Option Nat} {t : Nat} {w : Bool} (a : Option Nat) : awpR P (⟨some (t, w), d, (.bot a)⟩ :: gs) none st0 st ver outs K = ∃ b, gtest (st.e t) w = some b ∧ (b = true → AOp.ok P .undef st ver (.bot a)) ∧ awpR P gs (some ⟨t, w, b, GOp.skip ⟨none, d, (.bot a)⟩ st, ver⟩) st0 (AOp.next .undef st ver (.bot a)).1 (AOp.next .undef st ver (.bot a)).2 outs K := awpR_g rfl
@[simp] theorem awpRgg_bot {d : Option Nat} {t t' : Nat} {w w' b : Bool} {sF : St} {vF : Nat → Nat} (a : Option Nat) : awpR P (⟨some (t', w'), d, (.bot a)⟩ :: gs) (some ⟨t, w, b, sF, vF⟩) st0 st ver outs K = if t = t' ∧ w = w' then ((gtest (st.e t') w' = some b ∧ gtest (sF.e t') w' = some b) ∧ (b = true → AOp.ok P .undef st ver (.bot a)) ∧ awpR P gs (some ⟨t', w', b, GOp.skip ⟨none, d, (.bot a)⟩ sF, vF⟩) st0 (AOp.next .undef st ver (.bot a)).1 (AOp.next .undef st ver (.bot a)).2 outs K) else awpR P (⟨some (t', w'), d, (.bot a)⟩ :: gs) none st0 (if b = true then st else sF) (if b = true then ver else vF) outs K := awpR_gg rfl
@[simp] theorem awpR_btk {d : Option Nat} (a q : Nat) (p : Option Nat) (o : Nat) : awpR P (⟨none, d, (.btk a q p o)⟩ :: gs) none st0 st ver outs K = (AOp.ok P .undef st ver (.btk a q p o) ∧ awpR P gs none st0 (AOp.next .undef st ver (.btk a q p o)).1 (AOp.next .undef st ver (.btk a q p o)).2 outs K) := awpR_op rfl
@[simp] theorem awpRg_btk {d : Option Nat} {t : Nat} {w : Bool} (a q : Nat) (p : Option Nat) (o : Nat) : awpR P (⟨some (t, w), d, (.btk a q p o)⟩ :: gs) none st0 st ver outs K = ∃ b, gtest (st.e t) w = some b ∧ (b = true → AOp.ok P .undef st ver (.btk a q p o)) ∧ awpR P gs (some ⟨t, w, b, GOp.skip ⟨none, d, (.btk a q p o)⟩ st, ver⟩) st0 (AOp.next .undef st ver (.btk a q p o)).1 (AOp.next .undef st ver (.btk a q p o)).2 outs K := awpR_g rfl
@[simp] theorem awpRgg_btk {d : Option Nat} {t t' : Nat} {w w' b : Bool} {sF : St} {vF : Nat → Nat} (a q : Nat) (p : Option Nat) (o : Nat) : awpR P (⟨some (t', w'), d, (.btk a q p o)⟩ :: gs) (some ⟨t, w, b, sF, vF⟩) st0 st ver outs K = if t = t' ∧ w = w' then ((gtest (st.e t') w' = some b ∧ gtest (sF.e t') w' = some b) ∧ (b = true → AOp.ok P .undef st ver (.btk a q p o)) ∧ awpR P gs (some ⟨t', w', b, GOp.skip ⟨none, d, (.btk a q p o)⟩ sF, vF⟩) st0 (AOp.next .undef st ver (.btk a q p o)).1 (AOp.next .undef st ver (.btk a q p o)).2 outs K) else awpR P (⟨some (t', w'), d, (.btk a q p o)⟩ :: gs) none st0 (if b = true then st else sF) (if b = true then ver else vF) outs K := awpR_gg rfl
@[simp] theorem awpR_grow {d : Option Nat} (a f : Nat) (x : Opd) (z : Nat) : awpR P (⟨none, d, (.grow a f x z)⟩ :: gs) none st0 st ver outs K = (AOp.ok P .undef st ver (.grow a f x z) ∧ awpR P gs none st0 (AOp.next .undef st ver (.grow a f x z)).1 (AOp.next .undef st ver (.grow a f x z)).2 outs K) := awpR_op rfl
@[simp] theorem awpRg_grow {d : Option Nat} {t : Nat} {w : Bool} (a f : Nat) (x : Opd) (z : Nat) : awpR P (⟨some (t, w), d, (.grow a f x z)⟩ :: gs) none st0 st ver outs K = ∃ b, gtest (st.e t) w = some b ∧ (b = true → AOp.ok P .undef st ver (.grow a f x z)) ∧ awpR P gs (some ⟨t, w, b, GOp.skip ⟨none, d, (.grow a f x z)⟩ st, ver⟩) st0 (AOp.next .undef st ver (.grow a f x z)).1 (AOp.next .undef st ver (.grow a f x z)).2 outs K := awpR_g rfl
@[simp] theorem awpRgg_grow {d : Option Nat} {t t' : Nat} {w w' b : Bool} {sF : St} {vF : Nat → Nat} (a f : Nat) (x : Opd) (z : Nat) : awpR P (⟨some (t', w'), d, (.grow a f x z)⟩ :: gs) (some ⟨t, w, b, sF, vF⟩) st0 st ver outs K = if t = t' ∧ w = w' then ((gtest (st.e t') w' = some b ∧ gtest (sF.e t') w' = some b) ∧ (b = true → AOp.ok P .undef st ver (.grow a f x z)) ∧ awpR P gs (some ⟨t', w', b, GOp.skip ⟨none, d, (.grow a f x z)⟩ sF, vF⟩) st0 (AOp.next .undef st ver (.grow a f x z)).1 (AOp.next .undef st ver (.grow a f x z)).2 outs K) else awpR P (⟨some (t', w'), d, (.grow a f x z)⟩ :: gs) none st0 (if b = true then st else sF) (if b = true then ver else vF) outs K := awpR_gg rfl

/-- An operation that asks for an answer. -/
theorem awpR_use {d : Option Nat} {op : AOp} (r : AV) (h1 : op.ok P r st ver) (h2 : awpR P gs none st0 (op.next r st ver).1 (op.next r st ver).2 outs K) : awpR P (⟨none, d, op⟩ :: gs) none st0 st ver outs K := ⟨r, h1, h2⟩

/-- A call, by its contract. -/
theorem awpR_call {d : Option Nat} {f : FuncId} {xs : List Opd} {e : Option Nat} (r : AV) (h1 : argsOk st xs) (h2 : Sound P f (xs.map (Opd.val st)) r) (h3 : r.data = true)
    (h : awpR P gs none st0 (match e with | some d => put st d r | none => st) ver outs K) : awpR P (⟨none, d, .call e f xs⟩ :: gs) none st0 st ver outs K :=
  ⟨r, ⟨h1, h2, h3⟩, h⟩
/-- A call that begins a group. -/
theorem awpR_gcall {d : Option Nat} {f : FuncId} {xs : List Opd} {t : Nat} {w : Bool} {e : Option Nat} (r : AV) (b : Bool) (hb : gtest (st.e t) w = some b) (h1 : b = true → argsOk st xs) (h2 : b = true → Sound P f (xs.map (Opd.val st)) r) (h3 : r.data = true)
    (h : awpR P gs (some ⟨t, w, b, GOp.skip ⟨none, d, .call e f xs⟩ st, ver⟩) st0 (match e with | some d => put st d r | none => st) ver outs K) : awpR P (⟨some (t, w), d, .call e f xs⟩ :: gs) none st0 st ver outs K :=
  ⟨b, hb, r, fun hw => ⟨h1 hw, h2 hw, h3⟩, h⟩
/-- A call within a group. -/
theorem awpR_ggcall {d : Option Nat} {f : FuncId} {xs : List Opd} {t : Nat} {w b : Bool} {sF : St} {vF : Nat → Nat} {e : Option Nat} (r : AV) (hb : gtest (st.e t) w = some b ∧ gtest (sF.e t) w = some b) (h1 : b = true → argsOk st xs) (h2 : b = true → Sound P f (xs.map (Opd.val st)) r) (h3 : r.data = true)
    (h : awpR P gs (some ⟨t, w, b, GOp.skip ⟨none, d, .call e f xs⟩ sF, vF⟩) st0 (match e with | some d => put st d r | none => st) ver outs K) : awpR P (⟨some (t, w), d, .call e f xs⟩ :: gs) (some ⟨t, w, b, sF, vF⟩) st0 st ver outs K := by
  simp only [awpR, awpS, and_self, if_true]
  exact ⟨hb, r, fun hw => ⟨h1 hw, h2 hw, h3⟩, h⟩
end

/-! What the simplifier knows of states and values. -/

@[simp] theorem put_e {st : St} {d t : Nat} {v : AV} : (put st d v).e t = if t = d then v else st.e t := rfl
@[simp] theorem ite_e {c : Prop} [Decidable c] {a b : St} {t : Nat} : (if c then a else b).e t = if c then a.e t else b.e t := by split <;> rfl
@[simp] theorem upd_app {α : Type} {f : Nat → α} {i j : Nat} {v : α} : upd f i v j = if j = i then v else f j := rfl
@[simp] theorem ite_ver {c : Prop} [Decidable c] {a b : Nat → Nat} {t : Nat} : (if c then a else b) t = if c then a t else b t := by split <;> rfl
@[simp] theorem un_int (k : IntKind) (n : Int) : AV.un (AV.int k n) = (AV.int k n) := rfl
@[simp] theorem un1_int (k : IntKind) (n : Int) : AV.un1 (AV.int k n) = (AV.int k n) := rfl
@[simp] theorem data_int (k : IntKind) (n : Int) : AV.data (AV.int k n) = true := rfl
@[simp] theorem solid_int (k : IntKind) (n : Int) : AV.solid (AV.int k n) = true := rfl
@[simp] theorem cells_int (k : IntKind) (n : Int) : AV.cells (AV.int k n) = [(AV.int k n)] := rfl
@[simp] theorem noB_int (k : IntKind) (n : Int) : AV.noB (AV.int k n) = (AV.int k n) := rfl
@[simp] theorem ofCells_int (k : IntKind) (n : Int) (xs : List AV) : AV.ofCells (AV.int k n) xs = xs.headD .undef := rfl
@[simp] theorem un_bool (b : Bool) : AV.un (AV.bool b) = (AV.bool b) := rfl
@[simp] theorem un1_bool (b : Bool) : AV.un1 (AV.bool b) = (AV.bool b) := rfl
@[simp] theorem data_bool (b : Bool) : AV.data (AV.bool b) = true := rfl
@[simp] theorem solid_bool (b : Bool) : AV.solid (AV.bool b) = true := rfl
@[simp] theorem cells_bool (b : Bool) : AV.cells (AV.bool b) = [(AV.bool b)] := rfl
@[simp] theorem noB_bool (b : Bool) : AV.noB (AV.bool b) = (AV.bool b) := rfl
@[simp] theorem ofCells_bool (b : Bool) (xs : List AV) : AV.ofCells (AV.bool b) xs = xs.headD .undef := rfl
@[simp] theorem un_str (l : List UInt8) : AV.un (AV.str l) = (AV.str l) := rfl
@[simp] theorem un1_str (l : List UInt8) : AV.un1 (AV.str l) = (AV.str l) := rfl
@[simp] theorem data_str (l : List UInt8) : AV.data (AV.str l) = true := rfl
@[simp] theorem solid_str (l : List UInt8) : AV.solid (AV.str l) = true := rfl
@[simp] theorem cells_str (l : List UInt8) : AV.cells (AV.str l) = [(AV.str l)] := rfl
@[simp] theorem noB_str (l : List UInt8) : AV.noB (AV.str l) = (AV.str l) := rfl
@[simp] theorem ofCells_str (l : List UInt8) (xs : List AV) : AV.ofCells (AV.str l) xs = xs.headD .undef := rfl
@[simp] theorem un_agg (cs : List AV) : AV.un (AV.agg cs) = AV.agg (cs.map AV.un1) := rfl
@[simp] theorem un1_agg (cs : List AV) : AV.un1 (AV.agg cs) = (AV.agg cs) := rfl
@[simp] theorem data_agg (cs : List AV) : AV.data (AV.agg cs) = true := rfl
@[simp] theorem solid_agg (cs : List AV) : AV.solid (AV.agg cs) = true := rfl
@[simp] theorem cells_agg (cs : List AV) : AV.cells (AV.agg cs) = cs := rfl
@[simp] theorem noB_agg (cs : List AV) : AV.noB (AV.agg cs) = (AV.agg cs) := rfl
@[simp] theorem ofCells_agg (cs l : List AV) : AV.ofCells (.agg cs) l = .agg l := rfl
@[simp] theorem un_slice (z : Nat) (es : List AV) : AV.un (AV.slice z es) = (AV.slice z es) := rfl
@[simp] theorem un1_slice (z : Nat) (es : List AV) : AV.un1 (AV.slice z es) = (AV.slice z es) := rfl
@[simp] theorem data_slice (z : Nat) (es : List AV) : AV.data (AV.slice z es) = true := rfl
@[simp] theorem solid_slice (z : Nat) (es : List AV) : AV.solid (AV.slice z es) = true := rfl
@[simp] theorem cells_slice (z : Nat) (es : List AV) : AV.cells (AV.slice z es) = [(AV.slice z es)] := rfl
@[simp] theorem noB_slice (z : Nat) (es : List AV) : AV.noB (AV.slice z es) = (AV.slice z es) := rfl
@[simp] theorem ofCells_slice (z : Nat) (es : List AV) (xs : List AV) : AV.ofCells (AV.slice z es) xs = xs.headD .undef := rfl
@[simp] theorem un_oslice (z : Nat) (es : List AV) : AV.un (AV.oslice z es) = AV.slice z es := rfl
@[simp] theorem un1_oslice (z : Nat) (es : List AV) : AV.un1 (AV.oslice z es) = AV.slice z es := rfl
@[simp] theorem data_oslice (z : Nat) (es : List AV) : AV.data (AV.oslice z es) = true := rfl
@[simp] theorem solid_oslice (z : Nat) (es : List AV) : AV.solid (AV.oslice z es) = true := rfl
@[simp] theorem cells_oslice (z : Nat) (es : List AV) : AV.cells (AV.oslice z es) = [(AV.oslice z es)] := rfl
@[simp] theorem noB_oslice (z : Nat) (es : List AV) : AV.noB (AV.oslice z es) = (AV.oslice z es) := rfl
@[simp] theorem ofCells_oslice (z : Nat) (es : List AV) (xs : List AV) : AV.ofCells (AV.oslice z es) xs = xs.headD .undef := rfl
@[simp] theorem un_vptr (cs : List AV) (o : Nat) : AV.un (AV.vptr cs o) = (AV.vptr cs o) := rfl
@[simp] theorem un1_vptr (cs : List AV) (o : Nat) : AV.un1 (AV.vptr cs o) = (AV.vptr cs o) := rfl
@[simp] theorem data_vptr (cs : List AV) (o : Nat) : AV.data (AV.vptr cs o) = true := rfl
@[simp] theorem solid_vptr (cs : List AV) (o : Nat) : AV.solid (AV.vptr cs o) = true := rfl
@[simp] theorem cells_vptr (cs : List AV) (o : Nat) : AV.cells (AV.vptr cs o) = [(AV.vptr cs o)] := rfl
@[simp] theorem noB_vptr (cs : List AV) (o : Nat) : AV.noB (AV.vptr cs o) = (AV.vptr cs o) := rfl
@[simp] theorem ofCells_vptr (cs : List AV) (o : Nat) (xs : List AV) : AV.ofCells (AV.vptr cs o) xs = xs.headD .undef := rfl
@[simp] theorem un_bptr (t o v : Nat) : AV.un (AV.bptr t o v) = (AV.bptr t o v) := rfl
@[simp] theorem un1_bptr (t o v : Nat) : AV.un1 (AV.bptr t o v) = (AV.bptr t o v) := rfl
@[simp] theorem data_bptr (t o v : Nat) : AV.data (AV.bptr t o v) = false := rfl
@[simp] theorem solid_bptr (t o v : Nat) : AV.solid (AV.bptr t o v) = false := rfl
@[simp] theorem cells_bptr (t o v : Nat) : AV.cells (AV.bptr t o v) = [(AV.bptr t o v)] := rfl
@[simp] theorem noB_bptr (t o v : Nat) : AV.noB (AV.bptr t o v) = AV.undef := rfl
@[simp] theorem ofCells_bptr (t o v : Nat) (xs : List AV) : AV.ofCells (AV.bptr t o v) xs = xs.headD .undef := rfl
@[simp] theorem un_nilptr  : AV.un AV.nilptr = AV.nilptr := rfl
@[simp] theorem un1_nilptr  : AV.un1 AV.nilptr = AV.nilptr := rfl
@[simp] theorem data_nilptr  : AV.data AV.nilptr = true := rfl
@[simp] theorem solid_nilptr  : AV.solid AV.nilptr = true := rfl
@[simp] theorem cells_nilptr  : AV.cells AV.nilptr = [AV.nilptr] := rfl
@[simp] theorem noB_nilptr  : AV.noB AV.nilptr = AV.nilptr := rfl
@[simp] theorem ofCells_nilptr  (xs : List AV) : AV.ofCells AV.nilptr xs = xs.headD .undef := rfl
@[simp] theorem un_nilfn  : AV.un AV.nilfn = AV.nilfn := rfl
@[simp] theorem un1_nilfn  : AV.un1 AV.nilfn = AV.nilfn := rfl
@[simp] theorem data_nilfn  : AV.data AV.nilfn = true := rfl
@[simp] theorem solid_nilfn  : AV.solid AV.nilfn = true := rfl
@[simp] theorem cells_nilfn  : AV.cells AV.nilfn = [AV.nilfn] := rfl
@[simp] theorem noB_nilfn  : AV.noB AV.nilfn = AV.nilfn := rfl
@[simp] theorem ofCells_nilfn  (xs : List AV) : AV.ofCells AV.nilfn xs = xs.headD .undef := rfl
@[simp] theorem un_fn (f : FuncId) (cs : List AV) : AV.un (AV.fn f cs) = (AV.fn f cs) := rfl
@[simp] theorem un1_fn (f : FuncId) (cs : List AV) : AV.un1 (AV.fn f cs) = (AV.fn f cs) := rfl
@[simp] theorem data_fn (f : FuncId) (cs : List AV) : AV.data (AV.fn f cs) = true := rfl
@[simp] theorem solid_fn (f : FuncId) (cs : List AV) : AV.solid (AV.fn f cs) = true := rfl
@[simp] theorem cells_fn (f : FuncId) (cs : List AV) : AV.cells (AV.fn f cs) = [(AV.fn f cs)] := rfl
@[simp] theorem noB_fn (f : FuncId) (cs : List AV) : AV.noB (AV.fn f cs) = (AV.fn f cs) := rfl
@[simp] theorem ofCells_fn (f : FuncId) (cs : List AV) (xs : List AV) : AV.ofCells (AV.fn f cs) xs = xs.headD .undef := rfl
@[simp] theorem un_tup (cs : List AV) : AV.un (AV.tup cs) = (AV.tup cs) := rfl
@[simp] theorem un1_tup (cs : List AV) : AV.un1 (AV.tup cs) = (AV.tup cs) := rfl
@[simp] theorem data_tup (cs : List AV) : AV.data (AV.tup cs) = true := rfl
@[simp] theorem solid_tup (cs : List AV) : AV.solid (AV.tup cs) = false := rfl
@[simp] theorem cells_tup (cs : List AV) : AV.cells (AV.tup cs) = [(AV.tup cs)] := rfl
@[simp] theorem noB_tup (cs : List AV) : AV.noB (AV.tup cs) = (AV.tup cs) := rfl
@[simp] theorem ofCells_tup (cs : List AV) (xs : List AV) : AV.ofCells (AV.tup cs) xs = xs.headD .undef := rfl
@[simp] theorem un_undef  : AV.un AV.undef = AV.undef := rfl
@[simp] theorem un1_undef  : AV.un1 AV.undef = AV.undef := rfl
@[simp] theorem data_undef  : AV.data AV.undef = false := rfl
@[simp] theorem solid_undef  : AV.solid AV.undef = false := rfl
@[simp] theorem cells_undef  : AV.cells AV.undef = [AV.undef] := rfl
@[simp] theorem noB_undef  : AV.noB AV.undef = AV.undef := rfl
@[simp] theorem ofCells_undef  (xs : List AV) : AV.ofCells AV.undef xs = xs.headD .undef := rfl
@[simp] theorem un_omap (a b : List AV) (c : List Nat) (d : Nat) : AV.un (AV.omap a b c d) = AV.omap a b c d := rfl
@[simp] theorem noB_omap (a b : List AV) (c : List Nat) (d : Nat) : AV.noB (AV.omap a b c d) = AV.omap a b c d := rfl
@[simp] theorem cells_omap (a b : List AV) (c : List Nat) (d : Nat) : AV.cells (AV.omap a b c d) = [] := rfl
@[simp] theorem isMap_omap (a b : List AV) (c : List Nat) (d : Nat) : isMap (AV.omap a b c d) = (a.length == b.length) := rfl
@[simp] theorem mapOf_omap (a b : List AV) (c : List Nat) (d : Nat) : mapOf (AV.omap a b c d) = (a, b, c, d) := rfl
@[simp] theorem isAgg_agg (cs : List AV) : isAgg' (AV.agg cs) = true := rfl
@[simp] theorem intOf'_int (k : IntKind) (n : Int) : intOf' (AV.int k n) = n := rfl
@[simp] theorem un_xslice (z : Nat) (a : List AV) : AV.un (AV.xslice z a) = AV.xslice z a := rfl
@[simp] theorem noB_xslice (z : Nat) (a : List AV) : AV.noB (AV.xslice z a) = AV.xslice z a := rfl
@[simp] theorem cells_xslice (z : Nat) (a : List AV) : AV.cells (AV.xslice z a) = [] := rfl
@[simp] theorem special_xslice (z : Nat) (a : List AV) : AV.special (AV.xslice z a) = true := rfl
@[simp] theorem special_omap (a b : List AV) (c : List Nat) (d : Nat) : AV.special (AV.omap a b c d) = true := rfl
@[simp] theorem isXs_xslice (z : Nat) (a : List AV) : isXs (AV.xslice z a) = true := rfl
@[simp] theorem xsOf_xslice (z : Nat) (a : List AV) : xsOf (AV.xslice z a) = (z, a) := rfl
@[simp] theorem isTrue_bool (b : Bool) : AV.isTrue (.bool b) = b := rfl
@[simp] theorem initSt_e (args : List AV) (t : Nat) : (initSt args).e t = args.getD t .undef := rfl
@[simp] theorem val_mv {st : St} {s : Nat} : (Opd.t s true).val st = st.e s := rfl
@[simp] theorem val_cp {st : St} {s : Nat} : (Opd.t s false).val st = (st.e s).un := rfl
@[simp] theorem val_c {st : St} {v : AV} : (Opd.c v).val st = v := rfl
@[simp] theorem done_mv {st : St} {s : Nat} : (Opd.t s true).done st = put st s .undef := rfl
@[simp] theorem done_cp {st : St} {s : Nat} : (Opd.t s false).done st = st := rfl
@[simp] theorem done_c {st : St} {v : AV} : (Opd.c v).done st = st := rfl
@[simp] theorem gtest_bool (b w : Bool) : gtest (.bool b) w = some (b == w) := (rfl)
@[simp] theorem gtest_dead (w : Bool) : gtest .dead w = some false := (rfl)
@[simp] theorem gtest_ite {c : Prop} [Decidable c] {x y : AV} {w : Bool} : gtest (if c then x else y) w = if c then gtest x w else gtest y w := by split <;> rfl
@[simp] theorem some_ite {c : Prop} [Decidable c] {x y : Bool} : (if c then some x else some y) = some (if c then x else y) := by split <;> rfl
@[simp] theorem un_dead : AV.un .dead = .dead := (rfl)
@[simp] theorem un1_dead : AV.un1 .dead = .dead := (rfl)
@[simp] theorem noB_dead : AV.noB .dead = .dead := (rfl)
@[simp] theorem data_dead : AV.data .dead = false := (rfl)
@[simp] theorem natOf_int (k n) : natOf (.int k n) = n.toNat := (rfl)
attribute [simp] St.sets fin subs setRange ptrOff toNatAV optNat binOut binOk intBin strBin unOut unOk lenOut lenOk
  convOk convOut fillParts partsOk elemsOk argsOk AOp.ok AOp.next GOp.skip
@[simp] theorem un_ite {c : Prop} [Decidable c] {a b : AV} : (if c then a else b).un = if c then a.un else b.un := by split <;> rfl
@[simp] theorem data_ite {c : Prop} [Decidable c] {a b : AV} : (if c then a else b).data = if c then a.data else b.data := by split <;> rfl
@[simp] theorem isTrue_ite {c : Prop} [Decidable c] {a b : AV} : (if c then a else b).isTrue = if c then a.isTrue else b.isTrue := by split <;> rfl
@[simp] theorem and_ite {a b : Bool} : (if a = true then AV.bool b else AV.bool false) = AV.bool (a && b) := by cases a <;> rfl
@[simp] theorem or_ite {a b : Bool} : (if a = true then AV.bool true else AV.bool b) = AV.bool (a || b) := by cases a <;> rfl
@[simp] theorem or_ite' {a b : Bool} : (if a = false then AV.bool b else AV.bool true) = AV.bool (a || b) := by cases a <;> rfl

/-- The end of a function: what it answers is r. -/
def Ends (rs : List RVar) (r : AV) : Exit → St → Prop := fun e s => (e = .normal ∨ e = .ret) ∧ resOk s rs ∧ resAll s rs = r
@[simp] theorem Ends_normal {rs : List RVar} {r : AV} {s : St} : Ends rs r .normal s = (resOk s rs ∧ resAll s rs = r) := by simp [Ends]
@[simp] theorem Ends_ret {rs : List RVar} {r : AV} {s : St} : Ends rs r .ret s = (resOk s rs ∧ resAll s rs = r) := by simp [Ends]
attribute [simp] resOk resAll RVar.ok RVar.val

theorem sound_of {P : Program} {f : FuncId} {a : AFn} {args : List AV} {r : AV} {k : Nat} (hI : IsFn P f k a) (hl : args.length = k) (h : awp P a.code (unw P [] (Ends a.res r)) (initSt args)) : Sound P f args r := by
  subst hl
  refine fn_sound hI ?_
  have : unw P [] (Ends a.res r) = Ends a.res r := by funext e s; simp
  rw [this] at h; exact h

@[simp] theorem ite_ite_l {α : Type} {c : Prop} [Decidable c] {x y z : α} : (if c then (if c then x else y) else z) = if c then x else z := by split <;> simp_all
@[simp] theorem ite_ite_r {α : Type} {c : Prop} [Decidable c] {x y z : α} : (if c then x else (if c then y else z)) = if c then x else z := by split <;> simp_all
@[simp] theorem bool_and {c : Prop} [Decidable c] {b : Bool} : (if c then AV.bool b else AV.bool false) = AV.bool (decide c && b) := by split <;> simp_all
@[simp] theorem bool_or {c : Prop} [Decidable c] {b : Bool} : (if c then AV.bool true else AV.bool b) = AV.bool (decide c || b) := by split <;> simp_all
@[simp] theorem bool_imp {c : Prop} [Decidable c] {b : Bool} : (if c then AV.bool b else AV.bool true) = AV.bool (!decide c || b) := by split <;> simp_all
@[simp] theorem bool_nand {c : Prop} [Decidable c] {b : Bool} : (if c then AV.bool false else AV.bool b) = AV.bool (!decide c && b) := by split <;> simp_all
@[simp] theorem noB_ite {c : Prop} [Decidable c] {a b : AV} : (if c then a else b).noB = if c then a.noB else b.noB := by split <;> rfl

theorem wrap_i64 {x : Int} (h1 : -9223372036854775808 ≤ x) (h2 : x ≤ 9223372036854775807) : IntKind.i64.wrap x = x := IntWalk.i64_in x ⟨h1, h2⟩

end Go.Proofs.YtccmaeefedgcnaaGreat

namespace Go.Proofs.YtccmaeefedgcnaaGreat

theorem awpS_det {P : Program} {Q : St → Prop} : ∀ {gs : List GOp} {md : Option Md} {st : St} {ver : Nat → Nat}, awpS P gs md st ver Q → ∃ s', Q s' ∧ awpS P gs md st ver (fun s => s = s')
  | [], md, st, _, h => ⟨_, h, rfl⟩
  | ⟨none, _, _⟩ :: _, _, _, _, ⟨r, ho, h⟩ => by
    obtain ⟨s', hq, h⟩ := awpS_det h
    exact ⟨s', hq, r, ho, h⟩
  | ⟨some (t, w), d, op⟩ :: gs, md, st, ver, h => by
    cases md with
    | none =>
      obtain ⟨b, hb, r, ho, h⟩ := h
      obtain ⟨s', hq, h⟩ := awpS_det h
      exact ⟨s', hq, b, hb, r, ho, h⟩
    | some m =>
      simp only [awpS] at h ⊢
      split at h
      · obtain ⟨hb, r, ho, h⟩ := h
        obtain ⟨s', hq, h⟩ := awpS_det h
        refine ⟨s', hq, ?_⟩
        rw [if_pos ‹_›]; exact ⟨hb, r, ho, h⟩
      · obtain ⟨b, hb, r, ho, h⟩ := h
        obtain ⟨s', hq, h⟩ := awpS_det h
        refine ⟨s', hq, ?_⟩
        rw [if_neg ‹_›]; exact ⟨b, hb, r, ho, h⟩

theorem awp_det {P : Program} : ∀ {c : ACode} {Q : Exit → St → Prop} {st : St}, awp P c Q st → ∃ e s', Q e s' ∧ awp P c (fun e2 s2 => e2 = e ∧ s2 = s') st
  | .skip, _, st, h => ⟨_, st, h, rfl, rfl⟩
  | .reg gs outs, _, st, h => by
    obtain ⟨s', hq, h⟩ := awpS_det h
    exact ⟨_, _, hq, awpS_mono (fun s hs => by subst hs; exact ⟨rfl, rfl⟩) h⟩
  | .seq a b, Q, st, h => by
    obtain ⟨e1, s1, hq, h⟩ := awp_det (c := a) h
    by_cases he : e1 = .normal
    · subst he
      obtain ⟨e2, s2, hq2, h2⟩ := awp_det (c := b) hq
      refine ⟨e2, s2, hq2, awp_mono (c := a) ?_ h⟩
      rintro e s ⟨rfl, rfl⟩; exact h2
    · refine ⟨e1, s1, ?_, awp_mono (c := a) ?_ h⟩
      · cases e1 <;> first | exact absurd rfl he | exact hq
      · rintro e s ⟨rfl, rfl⟩
        cases e <;> first | exact absurd rfl he | exact ⟨rfl, rfl⟩
  | .cond c a b, _, st, ⟨t, h1, h2, h3⟩ => by
    cases t with
    | true =>
      obtain ⟨e, s', hq, h⟩ := awp_det (h2 rfl)
      exact ⟨e, s', hq, true, h1, fun _ => h, fun h => by cases h⟩
    | false =>
      obtain ⟨e, s', hq, h⟩ := awp_det (h3 rfl)
      exact ⟨e, s', hq, false, h1, fun h => (by cases h), fun _ => h⟩
  | .block id a, Q, st, h0 => by
    obtain ⟨e1, s1, hq, h⟩ := awp_det (c := a) h0
    clear h0
    cases e1 with
    | exit i =>
      by_cases hi : i = id
      · subst hi
        simp only [AExit.inBlock, if_true] at hq
        refine ⟨.normal, s1, hq, ?_⟩
        show awp P a (AExit.inBlock i fun e2 s2 => e2 = .normal ∧ s2 = s1) st
        refine awp_mono (c := a) (Q := fun e2 s2 => e2 = .exit i ∧ s2 = s1) ?_ h
        rintro e s ⟨rfl, rfl⟩; simp [AExit.inBlock]
      · simp only [AExit.inBlock, hi, if_false] at hq
        refine ⟨.exit i, s1, hq, ?_⟩
        show awp P a (AExit.inBlock id fun e2 s2 => e2 = .exit i ∧ s2 = s1) st
        refine awp_mono (c := a) (Q := fun e2 s2 => e2 = .exit i ∧ s2 = s1) ?_ h
        rintro e s ⟨rfl, rfl⟩; simp [AExit.inBlock, hi]
    | _ =>
      refine ⟨_, s1, hq, awp_mono (c := a) ?_ h⟩
      rintro e s ⟨rfl, rfl⟩; exact ⟨rfl, rfl⟩
  | .loop a, Q, st, h => by
    refine h (fun s => ∃ e s', Q e s' ∧ awp P (.loop a) (fun e2 s2 => e2 = e ∧ s2 = s') s) ?_
    intro s hs
    obtain ⟨e1, s1, hq, hs⟩ := awp_det (c := a) hs
    by_cases he : e1 = .normal
    · subst he
      obtain ⟨e, s', hq2, h2⟩ := hq
      refine ⟨e, s', hq2, ?_⟩
      intro X hX
      refine hX s (awp_mono (c := a) ?_ hs)
      rintro e s ⟨rfl, rfl⟩
      exact h2 X hX
    · refine ⟨e1, s1, ?_, ?_⟩
      · cases e1 <;> first | exact absurd rfl he | exact hq
      · intro X hX
        refine hX s (awp_mono (c := a) ?_ hs)
        rintro e s ⟨rfl, rfl⟩
        cases e <;> first | exact absurd rfl he | exact ⟨rfl, rfl⟩
  | .exit id, _, st, h => ⟨_, st, h, rfl, rfl⟩
  | .ret, _, st, h => ⟨_, st, h, rfl, rfl⟩

/-- The function ends, and its result is such a one. -/
def Total (P : Program) (f : FuncId) (args : List AV) (Φ : AV → Prop) : Prop := ∃ r, Φ r ∧ r.data = true ∧ Sound P f args r

theorem Total.mono {P : Program} {f : FuncId} {args : List AV} {Φ Ψ : AV → Prop} (h : Total P f args Φ) (hi : ∀ r, Φ r → Ψ r) : Total P f args Ψ := by
  obtain ⟨r, h1, h2⟩ := h; exact ⟨r, hi r h1, h2⟩

def EndsP (rs : List RVar) (Φ : AV → Prop) : Exit → St → Prop := fun e s => (e = .normal ∨ e = .ret) ∧ resOk s rs ∧ (resAll s rs).data = true ∧ Φ (resAll s rs)
@[simp] theorem EndsP_normal {rs : List RVar} {Φ : AV → Prop} {s : St} : EndsP rs Φ .normal s = (resOk s rs ∧ (resAll s rs).data = true ∧ Φ (resAll s rs)) := by simp [EndsP]
@[simp] theorem EndsP_ret {rs : List RVar} {Φ : AV → Prop} {s : St} : EndsP rs Φ .ret s = (resOk s rs ∧ (resAll s rs).data = true ∧ Φ (resAll s rs)) := by simp [EndsP]

theorem total_of {P : Program} {f : FuncId} {a : AFn} {args : List AV} {Φ : AV → Prop} {k : Nat} (hI : IsFn P f k a) (hl : args.length = k) (h : awp P a.code (unw P [] (EndsP a.res Φ)) (initSt args)) : Total P f args Φ := by
  subst hl
  have : unw P [] (EndsP a.res Φ) = EndsP a.res Φ := by funext e s; simp
  rw [this] at h
  obtain ⟨e, s', ⟨h1, h2, h3, h4⟩, h⟩ := awp_det h
  refine ⟨_, h4, h3, fn_sound hI (awp_mono ?_ h)⟩
  rintro e2 s2 ⟨rfl, rfl⟩
  exact ⟨h1, h2, rfl⟩

end Go.Proofs.YtccmaeefedgcnaaGreat

namespace Go.Proofs.YtccmaeefedgcnaaGreat
theorem mix : Tryz.prog.follows .mixedOrders = true := by kernel_rfl
end Go.Proofs.YtccmaeefedgcnaaGreat
