/-
  THE ABSTRACT LAYER, PART LA: == of arrays and structs of integers, strings and bools.
  THE ABSTRACT LAYER, PART LB: == as an operation, maps of one's own, slices.Grow of nothing, what is never reached.
  THE ABSTRACT LAYER, PART LC: what is found in a map of one's own, and what is put there.
  THE ABSTRACT LAYER, PART LD: the operations on a map of one's own.
  THE ABSTRACT LAYER, PART LE: slices whose rows nobody else reads: made by an append, changed in place by a call, handed on.
-/
import Derived.Test.YtccmaeefedgcnaaGreatPart02
import Derived.ChangeKeysEq
import Derived.MapKept
set_option linter.all false

namespace Go.Proofs.YtccmaeefedgcnaaGreat

/-- The shape of a type of integers, strings and bools alone. -/
def shapeFields (f : TypeId → Option (List AV)) (P : Program) : Nat → List Field → Option (List AV)
  | _, [] => some []
  | off, fl :: fs => if (fl.name == "_") = false ∧ fl.offset = off then
      match f fl.type, aggOf P fl.type with
      | some s, some n => if n.getD 1 = s.length then (shapeFields f P (off + s.length) fs).map (s ++ ·) else none
      | _, _ => none
    else none
def eqShape (P : Program) : Nat → TypeId → Option (List AV)
  | 0, _ => none
  | d + 1, t => match P.underlying t with
    | some .bool => some [.bool false]
    | some (.int k) => some [.int k 0]
    | some .string => some [.str []]
    | some (.array n e) => match eqShape P d e, aggOf P e, szOf P e with
      | some s, some m, some z => if m.getD 1 = s.length ∧ z = s.length then some (List.replicate n s).flatten else none
      | _, _, _ => none
    | some (.struct fs) => if P.stoodInHeld t then none else shapeFields (eqShape P d) P 0 fs.toList
    | _ => none

theorem fits_length : ∀ {sh cs : List AV}, fitsSh sh cs = true → cs.length = sh.length
  | [], [], _ => rfl
  | [], _ :: _, h => by simp [fitsSh] at h
  | _ :: _, [], h => by simp [fitsSh] at h
  | s :: sh, c :: cs, h => by
    simp only [fitsSh, Bool.and_eq_true] at h
    simp [fits_length h.2]
theorem fits_append : ∀ {a b cs : List AV}, fitsSh (a ++ b) cs = true → fitsSh a (cs.take a.length) = true ∧ fitsSh b (cs.drop a.length) = true
  | [], b, cs, h => by simpa [fitsSh] using h
  | s :: a, b, [], h => by simp [fitsSh] at h
  | s :: a, b, c :: cs, h => by
    simp only [List.cons_append, fitsSh, Bool.and_eq_true] at h
    obtain ⟨h1, h2⟩ := fits_append h.2
    simp [fitsSh, h.1, h1, h2]
theorem eqCells_append : ∀ {a b c d : List AV}, a.length = c.length → eqCells (a ++ b) (c ++ d) = (eqCells a c && eqCells b d)
  | [], b, [], d, _ => by simp [eqCells]
  | x :: a, b, y :: c, d, h => by
    simp only [List.cons_append, eqCells]
    rw [eqCells_append (by simpa using h), Bool.and_assoc]
  | [], _, _ :: _, _, h => by simp at h
  | _ :: _, _, [], _, h => by simp at h
theorem eqCells_split {xs ys : List AV} (k : Nat) (h : xs.length = ys.length) : eqCells xs ys = (eqCells (xs.take k) (ys.take k) && eqCells (xs.drop k) (ys.drop k)) := by
  have := eqCells_append (a := xs.take k) (b := xs.drop k) (c := ys.take k) (d := ys.drop k) (by simp [h])
  rwa [List.take_append_drop, List.take_append_drop] at this

section
variable {P : Program} (w : World)

def EqShape (P : Program) (D : Nat) (t : TypeId) (sh : List AV) : Prop := ∀ (w : World) (n : Option Nat) (xs ys : List AV), aggOf P t = some n → n.getD 1 = sh.length → fitsSh sh xs = true → fitsSh sh ys = true →
  (Op.equalIn D t (packV n (xs.map toV)) (packV n (ys.map toV))).run P w = .ok (eqCells xs ys) w

theorem run_items {e : TypeId} {s : List AV} {m : Option Nat} {D : Nat} (IH : EqShape P D e s) (hm : aggOf P e = some m) (hl : m.getD 1 = s.length) (hc : P.cellsOf e = s.length) : ∀ (q k : Nat) (xs ys : List AV),
    fitsSh (List.replicate q s).flatten (xs.drop (k * s.length)) = true → fitsSh (List.replicate q s).flatten (ys.drop (k * s.length)) = true → k * s.length ≤ xs.length → k * s.length ≤ ys.length →
    (Op.eqItems D e (P.cellsOf e) (xs.map toV).toArray (ys.map toV).toArray (List.range' k q)).run P w = .ok (eqCells (xs.drop (k * s.length)) (ys.drop (k * s.length))) w
  | 0, k, xs, ys, h1, h2, _, _ => by
    have e1 := fits_length h1
    have e2 := fits_length h2
    simp only [List.replicate_zero, List.flatten_nil, List.length_nil, List.length_eq_zero_iff] at e1 e2
    rw [e1, e2]
    simp [Op.eqItems, eqCells]
  | q + 1, k, xs, ys, h1, h2, g1, g2 => by
    rw [List.replicate_succ, List.flatten_cons] at h1 h2
    have l1 := fits_length h1
    have l2 := fits_length h2
    simp only [List.length_append, List.length_drop] at l1 l2
    obtain ⟨a1, b1⟩ := fits_append h1
    obtain ⟨a2, b2⟩ := fits_append h2
    have ek : (k + 1) * s.length = k * s.length + s.length := Nat.succ_mul _ _
    rw [List.drop_drop, ← ek] at b1 b2
    have p1 := run_part (w := w) (vs := xs.map toV) (off := k * s.length) hm (by rw [hl]; simp; omega)
    have p2 := run_part (w := w) (vs := ys.map toV) (off := k * s.length) hm (by rw [hl]; simp; omega)
    rw [hl, ← List.map_drop, ← List.map_take] at p1 p2
    have p3 := IH w m _ _ hm hl a1 a2
    have ih := run_items IH hm hl hc q (k + 1) xs ys b1 b2 (by omega) (by omega)
    rw [List.range'_succ]
    simp only [Op.eqItems, Sem.run_bind]
    rw [hc] at ih ⊢
    rw [p1]
    simp only [Result.andThen_ok]
    rw [p2]
    simp only [Result.andThen_ok]
    rw [p3]
    simp only [Result.andThen_ok]
    rw [eqCells_split s.length (show (xs.drop (k * s.length)).length = (ys.drop (k * s.length)).length by simp; omega), List.drop_drop, List.drop_drop, ← ek]
    cases eqCells ((xs.drop (k * s.length)).take s.length) ((ys.drop (k * s.length)).take s.length)
    · simp
    · simpa using ih

theorem run_fields {f : TypeId → Option (List AV)} {D : Nat} (IH : ∀ t sh, f t = some sh → EqShape P D t sh) : ∀ (fs : List Field) (off : Nat) (sh xs ys : List AV), shapeFields f P off fs = some sh →
    fitsSh sh (xs.drop off) = true → fitsSh sh (ys.drop off) = true → off ≤ xs.length → off ≤ ys.length →
    (Op.eqFields D (xs.map toV).toArray (ys.map toV).toArray fs).run P w = .ok (eqCells (xs.drop off) (ys.drop off)) w
  | [], off, sh, xs, ys, h, h1, h2, _, _ => by
    simp only [shapeFields, Option.some.injEq] at h
    subst h
    have e1 := fits_length h1
    have e2 := fits_length h2
    simp only [List.length_nil, List.length_eq_zero_iff] at e1 e2
    rw [e1, e2]
    simp [Op.eqFields, eqCells]
  | fl :: fs, off, sh, xs, ys, h, h1, h2, g1, g2 => by
    simp only [shapeFields] at h
    split at h
    rotate_left
    · cases h
    rename_i hc
    obtain ⟨hnm, rfl⟩ := hc
    split at h
    rotate_left
    · cases h
    rename_i s n hs hn
    split at h
    rotate_left
    · cases h
    rename_i hl
    simp only [Option.map_eq_some_iff] at h
    obtain ⟨sh', hsh, rfl⟩ := h
    have l1 := fits_length h1
    have l2 := fits_length h2
    simp only [List.length_append, List.length_drop] at l1 l2
    obtain ⟨a1, b1⟩ := fits_append h1
    obtain ⟨a2, b2⟩ := fits_append h2
    rw [List.drop_drop] at b1 b2
    have p1 := run_part (w := w) (vs := xs.map toV) (off := fl.offset) hn (by rw [hl]; simp; omega)
    have p2 := run_part (w := w) (vs := ys.map toV) (off := fl.offset) hn (by rw [hl]; simp; omega)
    rw [hl, ← List.map_drop, ← List.map_take] at p1 p2
    have p3 := IH _ _ hs w n _ _ hn hl a1 a2
    have ih := run_fields IH fs (fl.offset + s.length) sh' xs ys hsh b1 b2 (by omega) (by omega)
    have hnm' : fl.name ≠ "_" := by simpa using hnm
    simp only [Op.eqFields, ne_eq, hnm', not_false_eq_true, if_true, Sem.run_bind]
    rw [p1]
    simp only [Result.andThen_ok]
    rw [p2]
    simp only [Result.andThen_ok]
    rw [p3]
    simp only [Result.andThen_ok]
    rw [eqCells_split s.length (show (xs.drop fl.offset).length = (ys.drop fl.offset).length by simp; omega), List.drop_drop, List.drop_drop]
    cases eqCells ((xs.drop fl.offset).take s.length) ((ys.drop fl.offset).take s.length)
    · simp
    · simpa using ih

theorem run_shape : ∀ (d D : Nat), d ≤ D → ∀ (t : TypeId) (sh : List AV), eqShape P d t = some sh → EqShape P D t sh
  | 0, _, _, _, _, h => by simp [eqShape] at h
  | d + 1, 0, h, _, _, _ => by omega
  | d + 1, D + 1, hD, t, sh, h => by
    intro w n xs ys hn hl f1 f2
    have IH := run_shape d D (by omega)
    simp only [eqShape] at h
    cases hu : P.underlying t with
    | none => simp [hu] at h
    | some td =>
      rw [hu] at h
      have hone : (match td with | .struct _ => false | .array _ _ => false | _ => true) = true → n = none := fun hc => by
        unfold aggOf at hn
        rw [hu] at hn
        cases td <;> first | (cases hc; done) | (simp at hn; exact hn.symm)
      cases td <;> simp only [] at h <;> first | (cases h; done) | skip
      case bool =>
        cases h
        have := hone rfl
        subst this
        match xs, ys, f1, f2 with
        | [.bool a], [.bool b], _, _ => simp [packV, toV, eqCells, cellEq, run_equalIn_bool' w D t a b hu]
        | [], _, f1, _ => simp [fitsSh] at f1
        | _, [], _, f2 => simp [fitsSh] at f2
        | _ :: _ :: _, _, f1, _ => simp [fitsSh] at f1
        | _, _ :: _ :: _, _, f2 => simp [fitsSh] at f2
        | [x], [y], f1, f2 => cases x <;> simp [fitsSh, sameSh] at f1; cases y <;> simp [fitsSh, sameSh] at f2; simp [packV, toV, eqCells, cellEq, run_equalIn_bool' w D t _ _ hu]
      case int k =>
        cases h
        have := hone rfl
        subst this
        match xs, ys, f1, f2 with
        | [], _, f1, _ => simp [fitsSh] at f1
        | _, [], _, f2 => simp [fitsSh] at f2
        | _ :: _ :: _, _, f1, _ => simp [fitsSh] at f1
        | _, _ :: _ :: _, _, f2 => simp [fitsSh] at f2
        | [x], [y], f1, f2 =>
          cases x <;> simp [fitsSh, sameSh] at f1
          cases y <;> simp [fitsSh, sameSh] at f2
          subst f1; subst f2
          simp [packV, toV, eqCells, cellEq, run_equalIn_int w D t _ _ _ _ hu]
      case string =>
        cases h
        have := hone rfl
        subst this
        match xs, ys, f1, f2 with
        | [], _, f1, _ => simp [fitsSh] at f1
        | _, [], _, f2 => simp [fitsSh] at f2
        | _ :: _ :: _, _, f1, _ => simp [fitsSh] at f1
        | _, _ :: _ :: _, _, f2 => simp [fitsSh] at f2
        | [x], [y], f1, f2 =>
          cases x <;> simp [fitsSh, sameSh] at f1
          cases y <;> simp [fitsSh, sameSh] at f2
          simp [packV, toV, eqCells, cellEq, run_equalIn_string w D t _ _ hu, toList_mk]
      case array m e =>
        split at h
        rotate_left
        · cases h
        rename_i s q z hs hq hz
        split at h
        rotate_left
        · cases h
        rename_i hc
        cases h
        simp only [szOf, Option.map_eq_some_iff] at hz
        obtain ⟨i, hi, rfl⟩ := hz
        have hcell : P.cellsOf e = s.length := by
          have : P.cellsOf e = i.size := by simp [Program.cellsOf, hi]
          rw [this]; exact hc.2
        have hn' : ∃ k, n = some k := by
          unfold aggOf at hn
          rw [hu] at hn
          simp only [Option.map_eq_some_iff] at hn
          obtain ⟨k, _, rfl⟩ := hn
          exact ⟨k, rfl⟩
        obtain ⟨k, rfl⟩ := hn'
        have := run_items w (IH e s hs) hq hc.1 hcell m 0 xs ys (by simpa using f1) (by simpa using f2) (by simp) (by simp)
        simp only [Nat.zero_mul, List.drop_zero] at this
        simp only [packV]
        rw [run_equalIn_array w D _ _ hu hi, List.range_eq_range']
        exact this
      case struct fs =>
        split at h
        · cases h
        rename_i hst
        have hn' : ∃ k, n = some k := by
          unfold aggOf at hn
          rw [hu] at hn
          simp only [Option.map_eq_some_iff] at hn
          obtain ⟨k, _, rfl⟩ := hn
          exact ⟨k, rfl⟩
        obtain ⟨k, rfl⟩ := hn'
        have hfo : P.fieldsOf t = fs := by simp [Program.fieldsOf, hu]
        have := run_fields w IH fs.toList 0 sh xs ys h (by simpa using f1) (by simpa using f2) (by simp) (by simp)
        simp only [List.drop_zero] at this
        simp only [packV]
        rw [run_equalIn_struct w D t _ _ (by rw [hfo]; exact hu) (by simpa using hst), hfo]
        exact this
end

/-- Cells of a shape read as their own values. -/
theorem Rs_fits {M : Mem} : ∀ {sh cs : List AV} {vs : List Value}, fitsSh sh cs = true → Rs M cs vs → vs = cs.map toV
  | [], [], vs, _, h => by simpa [Rs] using h
  | [], _ :: _, _, h, _ => by simp [fitsSh] at h
  | _ :: _, [], _, h, _ => by simp [fitsSh] at h
  | s :: sh, c :: cs, vs, h, hr => by
    simp only [fitsSh, Bool.and_eq_true] at h
    simp only [Rs] at hr
    obtain ⟨u, us, rfl, hu, hs⟩ := hr
    rw [Rs_fits h.2 hs]
    cases c <;> cases s <;> simp [sameSh] at h <;> simp [R] at hu <;> simp [toV, hu]

end Go.Proofs.YtccmaeefedgcnaaGreat

namespace Go.Proofs.YtccmaeefedgcnaaGreat

section
variable {cx : Cx} {E : CE} {st : St} {ver : Nat → Nat} {M : Mem} {own : Nat → Own} {tmps : Array Value} {w : World} {ds : List Deferred}
  {o : Oper} {K : Act → World → Prop} {Q : Exit → Act → World → Prop}

theorem sound_aeq {tx ty : TypeId} {d k : Nat} {neg : Bool} {op : BinOp} {x y : Operand} {x' y' : Opd} {tx' ty' : TypeId} {sh : List AV} (hE : cx.boxed = E.boxed) (hR : Rel cx st ver M own tmps w) (ho : o.op = .binOp op tx x y ty)
    (hdst : o.dst = some d) (hd : d < cx.n) (hb : cx.boxed d = false) (h1 : cOpdC E tx' x = some x') (h2 : cOpdC E ty' y = some y') (hop : op = if neg then .neq else .eql)
    (hs : eqShape cx.P 20 tx = some sh) (hag : aggOf cx.P tx = some (some k)) (hk : k = sh.length) (hgd : cx.P.eqGuardType cx.P.depth tx = false)
    (hok : AOp.ok cx.P .undef st ver (.aeq d neg x' y' sh)) (hK : OpGoal cx (AOp.next .undef st ver (.aeq d neg x' y' sh)).1 ver M ds K) : o.wp cx.P ⟨tmps, ds⟩ w K Q := by
  obtain ⟨f1, f2, ⟨cs, e1⟩, ⟨es, e2⟩⟩ := hok
  have hxR := opdC_R h1 hE hR (ds := ds) (by rw [e1]; rfl)
  have hyR := opdC_R h2 hE hR (ds := ds) (by rw [e2]; rfl)
  rw [e1] at hxR f1; rw [e2] at hyR f2
  obtain ⟨vs, hxv, _, hxs⟩ := R_agg hxR
  obtain ⟨us, hyv, _, hys⟩ := R_agg hyR
  simp only [AV.cells] at f1 f2
  have v1 := Rs_fits f1 hxs
  have v2 := Rs_fits f2 hys
  subst v1; subst v2
  have heq := run_shape 20 10000 (by omega) tx sh hs w _ cs es hag (by simpa using hk) f1 f2
  simp only [packV] at heq
  have hg : ∀ t, t = tx → (eqGuard op t x y (.agg (cs.map toV).toArray) (.agg (es.map toV).toArray)).run cx.P w = .ok () w := by
    rintro t rfl; cases neg <;> subst hop <;> simp [eqGuard, run_program, hgd]
  have hrun : (binOp op tx (.agg (cs.map toV).toArray) (.agg (es.map toV).toArray)).run cx.P w = .ok (.bool (if neg then !eqCells cs es else eqCells cs es)) w := by
    cases neg <;> subst hop <;> simp [binOp, Op.equal, Op.maxDepth, heq]
  simp only [AOp.next, e1, e2, AV.cells] at hK
  exact sound_pure (v := .bool (if neg then !eqCells cs es else eqCells cs es)) hR hdst hd hb (by simp [execOp, ho, hxv, hyv, hg, hrun]) (by simp [R]) hK

theorem sound_grow {f : FuncId} {fn : Func} {n : Operand} {ats : Array TypeId} {n' : Opd} {d z : Nat} {tn : TypeId} (hE : cx.boxed = E.boxed) (hR : Rel cx st ver M own tmps w)
    (ho : o.op = .call { callee := .value (.func f), args := #[.const (.slice none 0 0), n], argTypes := ats }) (hdst : o.dst = some d) (hd : d < cx.n) (hb : cx.boxed d = false)
    (hf : cx.P.funcs[f]? = some fn) (hn : (fn.name == "runtime.NumGoroutine") = false) (hbody : fn.body.isNone = false) (h1 : cOpdC E tn n = some n')
    (hok : AOp.ok cx.P .undef st ver (.grow d f n' z)) (hK : OpGoal cx (AOp.next .undef st ver (.grow d f n' z)).1 ver M ds K) : o.wp cx.P ⟨tmps, ds⟩ w K Q := by
  obtain ⟨k, e1, hg⟩ := hok
  have hnR := opdC_R h1 hE hR (ds := ds) (by rw [e1]; rfl)
  rw [e1] at hnR
  simp only [R] at hnR
  have hrun : (execOp (Act.eval ⟨tmps, ds⟩) o).run cx.P w = .ok (.enter f #[.slice none 0 0, .int .i64 k]) w := by
    have hn' : fn.name ≠ "runtime.NumGoroutine" := by simpa using hn
    have hb' : fn.body ≠ none := by intro h; rw [h] at hbody; cases hbody
    have hev : Act.eval ⟨tmps, ds⟩ (.const (.slice none 0 0)) = .slice none 0 0 := rfl
    have hF : Act.eval ⟨tmps, ds⟩ (.func f) = .func (.func f) #[] #[] := rfl
    simp [execOp, ho, resolve, hF, Deferred.ofValue, invoke, callFunc, hf, hn', hb', hnR, hev]
  simp only [Oper.wp, hrun, Oper.upon]
  refine (hg w).mono ?_
  rintro e w' (⟨rfl, rfl⟩ | ⟨cap, vs, el, dr, rfl, rfl, hcap⟩)
  · simp only [put_some hdst]
    refine hK M own _ w' (Mle.refl M) (hR.put_RV hd hb ?_)
    simp only [RV, RO]
    exact ⟨none, 0, 0, rfl, rfl, Nat.le_refl _, fun _ => rfl, fun h => absurd rfl h⟩
  · simp only [put_some hdst]
    have hp := hR.push (.cells vs el (0, 0)) (.spare d 0) (fun _ => none) dr (by simp)
    refine hK _ _ _ _ (hR.base.pushMle _) (hp.put_RV hd hb ?_)
    simp only [RV, RO]
    refine ⟨_, 0, cap, rfl, rfl, Nat.zero_le _, by simp, fun _ => ⟨w.heap.size, 0, rfl, by simp [Rrow], .inr ⟨by simp [upd], vs, el, pushW_new w _ _, by simpa using hcap, fun o _ => by simp [pushM]⟩⟩⟩

/-- A variable's own slot is given another block; nothing else changes. -/
theorem Rel.putbox (h : Rel cx st ver M own tmps w) {d : Nat} (hd : d < cx.n) (hb : cx.boxed d = true) {av : AV} {pv : Value} (hv : RBoxV own M w d av pv) :
    Rel cx { st with e := upd st.e d av } (upd ver d (ver d + 1)) M own (tmps.setIfInBounds d pv) w := by
  have hd' : d < tmps.size := by rw [h.size]; exact hd
  constructor
  · exact h.base
  · simp [h.size]
  · intro t
    by_cases ht : t = d
    · subst ht
      refine .inr ⟨_, by rw [get_set hd', if_pos rfl], ?_⟩
      rw [if_pos hb]
      simp only [upd_same]
      exact hv
    · simp only [upd_other _ _ ht]
      refine (h.slot t).imp id ?_
      rintro ⟨v, hv, hr⟩
      refine ⟨v, by rw [get_set hd', if_neg (by omega)]; exact hv, ?_⟩
      by_cases hbt : cx.boxed t = true
      · rw [if_pos hbt] at hr ⊢; exact hr
      · rw [if_neg hbt] at hr ⊢
        cases hav : st.e t <;> rw [hav] at hr <;> first | exact hr | skip
        case bptr u off k =>
          by_cases hu : u = d
          · subst hu
            refine ⟨by rw [upd_same]; have := hr.1; omega, fun hk => ?_⟩
            rw [upd_same] at hk
            have := hr.1; omega
          · refine ⟨by rw [upd_other _ _ hu]; exact hr.1, fun hk => ?_⟩
            rw [upd_other _ _ hu] at hk
            obtain ⟨h1, b, h2, h3⟩ := hr.2 hk
            exact ⟨h1, b, by rw [get_set hd', if_neg (by omega)]; exact h2, h3⟩
  · exact h.heap
  · exact h.nx

theorem isMap_eq {av : AV} (h : isMap av = true) : ∃ ks vs bs clk, av = .omap ks vs bs clk := by
  cases av <;> simp [isMap] at h <;> exact ⟨_, _, _, _, rfl⟩

theorem Rel.mbox (hR : Rel cx st ver M own tmps w) {t : Nat} (hb : cx.boxed t = true) (hm : isMap (st.e t) = true) :
    ∃ ks vs bs clk b, ∃ ents : List MapEntry, st.e t = .omap ks vs bs clk ∧ tmps[t]? = some (.map (some b)) ∧ own b = .box t ∧ (∀ o, M b o = none) ∧ w.heap[b]? = some (.map ents.toArray clk) ∧
      Rs M ks (ents.map (·.key)) ∧ Rs M vs (ents.map (·.val)) ∧ bs = ents.map (·.born) := by
  obtain ⟨ks, vs, bs, clk, he⟩ := isMap_eq hm
  rcases hR.slot t with h | ⟨v, hv, h⟩
  · rw [h] at he; cases he
  · rw [if_pos hb, he] at h
    obtain ⟨b, rfl, h1, h2, ents, h3, h4, h5, h6⟩ := h
    exact ⟨ks, vs, bs, clk, b, ents, he, hv, h1, h2, h3, h4, h5, h6⟩

theorem Rel.mptr (hR : Rel cx st ver M own tmps w) {t : Nat} {p : Option Nat} (hb : cx.boxed t = true) (hm : isMap (st.e t) = true) (hp : ∀ q, p = some q → cx.boxed q = false) (h : ptrOff st ver t p = some 0) :
    ∃ ks vs bs clk b, ∃ ents : List MapEntry, st.e t = .omap ks vs bs clk ∧ tmps[t]? = some (.map (some b)) ∧ own b = .box t ∧ (∀ o, M b o = none) ∧ w.heap[b]? = some (.map ents.toArray clk) ∧
      Rs M ks (ents.map (·.key)) ∧ Rs M vs (ents.map (·.val)) ∧ bs = ents.map (·.born) ∧ Act.eval ⟨tmps, ds⟩ (ptrOpd t p) = .map (some b) := by
  obtain ⟨ks, vs, bs, clk, b, ents, he, hv, h1, h2, h3, h4, h5, h6⟩ := hR.mbox hb hm
  refine ⟨ks, vs, bs, clk, b, ents, he, hv, h1, h2, h3, h4, h5, h6, ?_⟩
  cases p with
  | none => simp [ptrOpd, Act.eval, Array.getD_eq_getD_getElem?, hv]
  | some q =>
    simp only [ptrOff] at h
    split at h
    · rename_i t' o k hq
      split at h
      · rename_i hc
        obtain ⟨rfl, rfl⟩ := hc
        obtain ⟨v0, v, g1, g2, hat, _⟩ := hR.bptr (hp q rfl) hq
        rw [hv] at g1; cases g1
        rcases hat with ⟨b', e1, _⟩ | ⟨_, rfl⟩
        · cases e1
        · simp [ptrOpd, Act.eval, Array.getD_eq_getD_getElem?, g2]
      · cases h
    · cases h

theorem sound_mkmap {ty : TypeId} {d : Nat} (hR : Rel cx st ver M own tmps w) (ho : o.op = .makeMap ty none) (hdst : o.dst = some d) (hd : d < cx.n) (hb : cx.boxed d = true)
    (hK : OpGoal cx (AOp.next .undef st ver (.mkmap d)).1 (AOp.next .undef st ver (.mkmap d)).2 M ds K) : o.wp cx.P ⟨tmps, ds⟩ w K Q := by
  have hrun : (execOp (Act.eval ⟨tmps, ds⟩) o).run cx.P w = .ok (.value (.map (some w.heap.size))) (pushW w (.map #[] 0) w.drawn) := by
    simp [execOp, ho, Instr.makeMap, newObj, Sem.run, pushW]
  refine wp_value hrun ?_
  rw [put_some hdst]
  obtain ⟨M', own', hm, hr⟩ := hR.newboxV (av := .omap [] [] [] 0) (o := .map #[] 0) (dr := w.drawn) (pv := .map (some w.heap.size)) hd hb
    ⟨w.heap.size, rfl, by simp [upd], fun o => by simp [pushM], [], pushW_new w _ _, by simp [Rs], by simp [Rs], rfl⟩
  exact hK M' own' _ _ hm hr

def rebox (own : Nat → Own) (s d : Nat) : Nat → Own := fun b => if own b = .box s then .box d else own b
theorem RBoxV_special {own : Nat → Own} {M : Mem} {w : World} {t : Nat} {av : AV} {v : Value} (hs : av.special = true) (h : RBoxV own M w t av v) : ∀ a, v ≠ .pointer a := by
  cases av <;> first | (cases hs; done) | skip
  · obtain ⟨b, rfl, _⟩ := h; intro a e; cases e
  · obtain ⟨a, l, c, rfl, _⟩ := h; intro a e; cases e
theorem RBoxV_rebox {own : Nat → Own} {M : Mem} {w : World} {s d : Nat} {av : AV} {v : Value} (hs : av.special = true) (h : RBoxV own M w s av v) : RBoxV (rebox own s d) M w d av v := by
  cases av <;> first | (cases hs; done) | skip
  · obtain ⟨b, rfl, h1, h2⟩ := h
    exact ⟨b, rfl, by simp [rebox, h1], h2⟩
  · obtain ⟨a, l, c, rfl, h1, h2, h3, h4, h5⟩ := h
    refine ⟨a, l, c, rfl, h1, h2, h3, h4, h5.imp id ?_⟩
    rintro ⟨b, off, e, ho, hr⟩
    exact ⟨b, off, e, by simp [rebox, ho], hr⟩

theorem Rel.sbox (hR : Rel cx st ver M own tmps w) {t : Nat} (hb : cx.boxed t = true) (hm : (st.e t).special = true) : ∃ v, tmps[t]? = some v ∧ RBoxV own M w t (st.e t) v := by
  rcases hR.slot t with h | ⟨v, hv, h⟩
  · rw [h] at hm; cases hm
  · rw [if_pos hb] at h; exact ⟨v, hv, h⟩

theorem sound_mvb {s d : Nat} (hR : Rel cx st ver M own tmps w) (ho : o.op = .move (.tmp s) ∨ o.op = .assign (.tmp s)) (hdst : o.dst = some d) (hd : d < cx.n) (hb : cx.boxed d = true) (hbs : cx.boxed s = true) (hsd : s ≠ d)
    (hok : AOp.ok cx.P .undef st ver (.mvb d s)) (hK : OpGoal cx (AOp.next .undef st ver (.mvb d s)).1 (AOp.next .undef st ver (.mvb d s)).2 M ds K) : o.wp cx.P ⟨tmps, ds⟩ w K Q := by
  refine wp_value (run_move ho) ?_
  rw [put_some hdst]
  obtain ⟨v, hv, hbx⟩ := hR.sbox hbs hok
  have hg : Act.eval ⟨tmps, ds⟩ (.tmp s) = v := by simp [Act.eval, Array.getD_eq_getD_getElem?, hv]
  have hkeep : ∀ b', own b' ≠ .box s → rebox own s d b' = own b' := fun b' h => if_neg h
  have hn : ∀ b', rebox own s d b' = .none ↔ own b' = .none := fun b' => by
    by_cases e : own b' = .box s
    · simp [rebox, e]
    · rw [hkeep b' e]
  have hh : ∀ b', rebox own s d b' = .heap ↔ own b' = .heap := fun b' => by
    by_cases e : own b' = .box s
    · simp [rebox, e]
    · rw [hkeep b' e]
  have hbase : Base cx (rebox own s d) M w := ⟨hR.base.mem, fun b' h => hR.base.own_lt b' (fun e => h ((hn b').2 e)), fun b' h => (hR.base.own_new b' (fun e => h ((hn b').2 e))).imp id (fun x => ⟨(hh b').2 x.1, x.2⟩), hR.base.mnew,
    fun b' h h' => hR.base.frame b' h ((hn b').1 h'), hR.base.grow, hR.base.rest⟩
  have r1 := (hR.forget s).stepX (own' := rebox own s d) (M' := M) (w' := w) s (by simp [upd]) hbase (Mle.refl M) (fun b' _ hx _ => ⟨hkeep b' hx, rfl, fun _ => rfl⟩) (Nat.le_refl _)
  have r2 := r1.putbox hd hb (RBoxV_rebox (d := d) hok hbx)
  rw [hg]
  exact hK M _ _ w (Mle.refl M) r2

theorem sound_malias {t d : Nat} (hR : Rel cx st ver M own tmps w) (ho : o.op = .move (.tmp t) ∨ o.op = .assign (.tmp t)) (hdst : o.dst = some d) (hd : d < cx.n) (hb : cx.boxed d = false) (hbt : cx.boxed t = true)
    (hok : AOp.ok cx.P .undef st ver (.malias d t)) (hK : OpGoal cx (AOp.next .undef st ver (.malias d t)).1 (AOp.next .undef st ver (.malias d t)).2 M ds K) : o.wp cx.P ⟨tmps, ds⟩ w K Q := by
  refine wp_value (run_move ho) ?_
  rw [put_some hdst]
  obtain ⟨v, hv, hbx⟩ := hR.sbox hbt hok
  have hg : Act.eval ⟨tmps, ds⟩ (.tmp t) = v := by simp [Act.eval, Array.getD_eq_getD_getElem?, hv]
  rw [hg]
  have hd' : d < tmps.size := by rw [hR.size]; exact hd
  refine hK M own _ w (Mle.refl M) (hR.put hd hb (.inr ⟨_, by rw [get_set hd', if_pos rfl], ?_⟩))
  rw [if_neg (by simp [hb])]
  refine ⟨Nat.le_refl _, fun _ => ⟨hbt, _, ?_, .inr ⟨RBoxV_special hok hbx, rfl⟩⟩⟩
  rw [get_set hd', if_neg (by rintro rfl; simp [hb] at hbt)]
  exact hv

theorem sound_bot {d : Option Nat} (hok : AOp.ok cx.P .undef st ver (.bot d)) : o.wp cx.P ⟨tmps, ds⟩ w K Q := hok.elim
end

end Go.Proofs.YtccmaeefedgcnaaGreat

namespace Go.Proofs.YtccmaeefedgcnaaGreat

section
variable {P : Program} (w : World)

def KeyPass (P : Program) (em : Bool) (D : Nat) (t : TypeId) (sh : List AV) : Prop := ∀ (w : World) (n : Option Nat) (xs : List AV), aggOf P t = some n → n.getD 1 = sh.length → fitsSh sh xs = true →
  (Instr.checkKey em D t (packV n (xs.map toV))).run P w = .ok () w

theorem check_items {em : Bool} {e : TypeId} {s : List AV} {m : Option Nat} {D z : Nat} (IH : KeyPass P em D e s) (hm : aggOf P e = some m) (hl : m.getD 1 = s.length) (hz : ∀ w, (Go.sizeOf e).run P w = .ok s.length w) : ∀ (q k : Nat) (xs : List AV),
    fitsSh (List.replicate q s).flatten (xs.drop (k * s.length)) = true → k * s.length ≤ xs.length →
    (forIn (List.range' k q) PUnit.unit fun i _ => do
      let a ← Go.sizeOf e
      let b ← part e (xs.map toV).toArray (i * a)
      Instr.checkKey em D e b
      pure (ForInStep.yield PUnit.unit) : Sem PUnit).run P w = .ok PUnit.unit w
  | 0, k, xs, h1, _ => by simp
  | q + 1, k, xs, h1, g1 => by
    rw [List.replicate_succ, List.flatten_cons] at h1
    have l1 := fits_length h1
    simp only [List.length_append, List.length_drop] at l1
    obtain ⟨a1, b1⟩ := fits_append h1
    have ek : (k + 1) * s.length = k * s.length + s.length := Nat.succ_mul _ _
    rw [List.drop_drop, ← ek] at b1
    have p1 := run_part (w := w) (vs := xs.map toV) (off := k * s.length) hm (by rw [hl]; simp; omega)
    rw [hl, ← List.map_drop, ← List.map_take] at p1
    have p3 := IH w m _ hm hl a1
    have ih := check_items (z := z) IH hm hl hz q (k + 1) xs b1 (by omega)
    rw [List.range'_succ]
    simp only [List.forIn_cons, Sem.run_bind, hz, Result.andThen_ok]
    rw [p1]
    simp only [Result.andThen_ok]
    rw [p3]
    simp only [Result.andThen_ok]
    simpa using ih

theorem check_fields {em : Bool} {f : TypeId → Option (List AV)} {D : Nat} (IH : ∀ t sh, f t = some sh → KeyPass P em D t sh) : ∀ (fs : List Field) (off : Nat) (sh xs : List AV), shapeFields f P off fs = some sh →
    fitsSh sh (xs.drop off) = true → off ≤ xs.length →
    (forIn fs PUnit.unit fun f _ =>
      if f.name ≠ "_" then do
        let b ← part f.type (xs.map toV).toArray f.offset
        Instr.checkKey em D f.type b
        pure (ForInStep.yield PUnit.unit)
      else pure (ForInStep.yield PUnit.unit) : Sem PUnit).run P w = .ok PUnit.unit w
  | [], off, sh, xs, h, h1, _ => by simp
  | fl :: fs, off, sh, xs, h, h1, g1 => by
    simp only [shapeFields] at h
    split at h
    rotate_left
    · cases h
    rename_i hc
    obtain ⟨hnm, rfl⟩ := hc
    split at h
    rotate_left
    · cases h
    rename_i s n hs hn
    split at h
    rotate_left
    · cases h
    rename_i hl
    simp only [Option.map_eq_some_iff] at h
    obtain ⟨sh', hsh, rfl⟩ := h
    have l1 := fits_length h1
    simp only [List.length_append, List.length_drop] at l1
    obtain ⟨a1, b1⟩ := fits_append h1
    rw [List.drop_drop] at b1
    have p1 := run_part (w := w) (vs := xs.map toV) (off := fl.offset) hn (by rw [hl]; simp; omega)
    rw [hl, ← List.map_drop, ← List.map_take] at p1
    have p3 := IH _ _ hs w n _ hn hl a1
    have ih := check_fields IH fs (fl.offset + s.length) sh' xs hsh b1 (by omega)
    have hnm' : fl.name ≠ "_" := by simpa using hnm
    simp only [List.forIn_cons, ne_eq, hnm', not_false_eq_true, if_true, Sem.run_bind]
    rw [p1]
    simp only [Result.andThen_ok]
    rw [p3]
    simp only [Result.andThen_ok]
    simpa using ih

theorem run_check (em : Bool) : ∀ (d D : Nat), d ≤ D → ∀ (t : TypeId) (sh : List AV), eqShape P d t = some sh → KeyPass P em D t sh
  | 0, _, _, _, _, h => by simp [eqShape] at h
  | d + 1, 0, h, _, _, _ => by omega
  | d + 1, D + 1, hD, t, sh, h => by
    intro w n xs hn hl f1
    have IH := run_check em d D (by omega)
    simp only [eqShape] at h
    cases hu : P.underlying t with
    | none => simp [hu] at h
    | some td =>
      rw [hu] at h
      cases td <;> simp only [] at h <;> first | (cases h; done) | skip
      case bool => simp [Instr.checkKey, run_underlying hu]
      case int k => simp [Instr.checkKey, run_underlying hu]
      case string => simp [Instr.checkKey, run_underlying hu]
      case array m e =>
        split at h
        rotate_left
        · cases h
        rename_i s q z hs hq hz
        split at h
        rotate_left
        · cases h
        rename_i hc
        cases h
        simp only [szOf, Option.map_eq_some_iff] at hz
        obtain ⟨i, hi, rfl⟩ := hz
        have hsz : ∀ w, (Go.sizeOf e).run P w = .ok s.length w := fun w => by simp [Go.sizeOf, typeInfo, hi, hc.2]
        have hn' : ∃ k, n = some k := by
          unfold aggOf at hn
          rw [hu] at hn
          simp only [Option.map_eq_some_iff] at hn
          obtain ⟨k, _, rfl⟩ := hn
          exact ⟨k, rfl⟩
        obtain ⟨k, rfl⟩ := hn'
        have := check_items (z := 0) w (IH e s hs) hq hc.1 hsz m 0 xs (by simpa using f1) (by simp)
        simp only [packV, Instr.checkKey, Sem.run_bind, run_underlying hu, Result.andThen_ok]
        simp only [Std.Legacy.Range.forIn_eq_forIn_range', Std.Legacy.Range.size, Nat.sub_zero, Nat.add_one_sub_one, Nat.div_one]
        rw [this]; rfl
      case struct fs =>
        split at h
        · cases h
        have hn' : ∃ k, n = some k := by
          unfold aggOf at hn
          rw [hu] at hn
          simp only [Option.map_eq_some_iff] at hn
          obtain ⟨k, _, rfl⟩ := hn
          exact ⟨k, rfl⟩
        obtain ⟨k, rfl⟩ := hn'
        have := check_fields w IH fs.toList 0 sh xs h (by simpa using f1) (by simp)
        simp only [packV, Instr.checkKey, Sem.run_bind, run_underlying hu, Result.andThen_ok]
        rw [← Array.forIn_toList]
        rw [this]; rfl

/-- A key, as a value. -/
def keyV (n : Option Nat) (k : AV) : Value := packV n (k.cells.map toV)

theorem key_R {M : Mem} {sh : List AV} {n : Option Nat} {k : AV} {v : Value} (hf : keyFit sh n.isSome k = true) (hr : R M k v) : v = keyV n k := by
  simp only [keyFit, Bool.and_eq_true, beq_iff_eq] at hf
  obtain ⟨h1, h2⟩ := hf
  cases n with
  | none =>
    have : k.cells = [k] := by cases k <;> first | rfl | (simp [isAgg'] at h2; done) | (simp [R] at hr; done)
    have hs := Rs_fits h1 (M := M) (vs := [v]) (by rw [this]; simp [Rs, hr])
    rw [this] at hs
    simp only [keyV, this, packV, ← hs, List.headD_cons]
  | some m =>
    cases k <;> simp [isAgg'] at h2
    rename_i cs
    obtain ⟨vs, rfl, _, hs⟩ := R_agg hr
    have := Rs_fits h1 hs
    simp only [AV.cells] at this
    simp only [keyV, packV, AV.cells, this]

theorem cells_eq : ∀ {sh a b : List AV}, fitsSh sh a = true → fitsSh sh b = true → eqCells a b = true → a = b
  | [], [], [], _, _, _ => rfl
  | [], _ :: _, _, h, _, _ => by simp [fitsSh] at h
  | [], [], _ :: _, _, h, _ => by simp [fitsSh] at h
  | _ :: _, [], _, h, _, _ => by simp [fitsSh] at h
  | _ :: _, _ :: _, [], _, h, _ => by simp [fitsSh] at h
  | s :: sh, x :: a, y :: b, h1, h2, h3 => by
    simp only [fitsSh, Bool.and_eq_true] at h1 h2
    simp only [eqCells, Bool.and_eq_true] at h3
    rw [cells_eq h1.2 h2.2 h3.2]
    have : x = y := by
      obtain ⟨g1, _⟩ := h1; obtain ⟨g2, _⟩ := h2; obtain ⟨g3, _⟩ := h3
      cases s <;> cases x <;> simp [sameSh] at g1 <;> cases y <;> simp [sameSh] at g2 <;> simp [cellEq] at g3 <;> simp_all
    rw [this]

variable {key : TypeId} {sh : List AV} {n : Option Nat}

def foundAt (k : AV) (ks : List AV) (ents : List MapEntry) (i : Nat) : Option (Nat × Value) := (keyIdx k ks).bind fun j => (ents[j]?).map fun e => (i + j, e.val)

theorem foundAt_cons (k k' : AV) (ks : List AV) (e : MapEntry) (ents : List MapEntry) (i : Nat) : foundAt k (k' :: ks) (e :: ents) i = if eqCells k.cells k'.cells then some (i, e.val) else foundAt k ks ents (i + 1) := by
  simp only [foundAt, keyIdx]
  split
  · simp
  · cases keyIdx k ks with
    | none => rfl
    | some j => simp; congr 1; funext x; congr 1; omega

theorem run_asking {M : Mem} (hs : eqShape P 20 key = some sh) (hn : aggOf P key = some n) (hl : n.getD 1 = sh.length) {k : AV} (hk : keyFit sh n.isSome k = true) : ∀ (ks : List AV) (ents : List MapEntry) (i : Nat), Rs M ks (ents.map (·.key)) → (∀ k' ∈ ks, keyFit sh n.isSome k' = true) →
    (Instr.findAsking key (keyV n k) ents i).run P w = .ok (foundAt k ks ents i) w
  | [], ents, i, hr, _ => by
    simp only [Rs, List.map_eq_nil_iff] at hr
    subst hr
    simp [Instr.findAsking, foundAt, keyIdx]
  | k' :: ks, ents, i, hr, hf => by
    simp only [Rs] at hr
    obtain ⟨u, us, he, hu, hs'⟩ := hr
    cases ents with
    | nil => cases he
    | cons e ents =>
      simp only [List.map_cons, List.cons.injEq] at he
      obtain ⟨rfl, rfl⟩ := he
      have hk' := hf k' (by simp)
      have ev := key_R hk' hu
      have heq := run_shape 20 10000 (by omega) key sh hs w n _ _ hn hl (Bool.and_eq_true_iff.1 hk).1 (Bool.and_eq_true_iff.1 hk').1
      have ih := run_asking hs hn hl hk ks ents (i + 1) hs' (fun x hx => hf x (by simp [hx]))
      rw [foundAt_cons]
      simp only [Instr.findAsking, Sem.run_bind, Op.equal, Op.maxDepth, ev, keyV] at heq ih ⊢
      rw [heq]
      simp only [Result.andThen_ok]
      split
      · simp
      · exact ih

theorem findNow_or {M : Mem} {td : TypeDesc} (hu : P.underlying key = some td) (hs : eqShape P 20 key = some sh) (hn : aggOf P key = some n) {k : AV} (hk : keyFit sh n.isSome k = true) : ∀ (ks : List AV) (ents : List MapEntry) (i : Nat), Rs M ks (ents.map (·.key)) → (∀ k' ∈ ks, keyFit sh n.isSome k' = true) →
    Instr.findNow td (keyV n k) ents i = none ∨ Instr.findNow td (keyV n k) ents i = some (foundAt k ks ents i)
  | [], ents, i, hr, _ => by
    simp only [Rs, List.map_eq_nil_iff] at hr
    subst hr
    right; simp [Instr.findNow, foundAt, keyIdx]
  | k' :: ks, ents, i, hr, hf => by
    simp only [Rs] at hr
    obtain ⟨u, us, he, hu', hs'⟩ := hr
    cases ents with
    | nil => cases he
    | cons e ents =>
      simp only [List.map_cons, List.cons.injEq] at he
      obtain ⟨rfl, rfl⟩ := he
      have hk' := hf k' (by simp)
      have ev := key_R hk' hu'
      have ih := findNow_or hu hs hn hk ks ents (i + 1) hs' (fun x hx => hf x (by simp [hx]))
      have hsn : Instr.sameNow td (keyV n k) e.key = none ∨ Instr.sameNow td (keyV n k) e.key = some (eqCells k.cells k'.cells) := by
        rw [ev]
        simp only [keyFit, Bool.and_eq_true, beq_iff_eq] at hk hk'
        simp only [eqShape, hu] at hs
        cases td <;> simp only [] at hs <;> first | (cases hs; done) | (left; rfl) | skip
        all_goals
          cases hs
          have hnn : n = none := by
            unfold aggOf at hn; rw [hu] at hn; simpa using hn.symm
          subst hnn
          obtain ⟨x, hx⟩ : ∃ x, k.cells = [x] := by have := fits_length hk.1; simpa [List.length_eq_one_iff] using this
          obtain ⟨y, hy⟩ : ∃ y, k'.cells = [y] := by have := fits_length hk'.1; simpa [List.length_eq_one_iff] using this
          rw [hx] at hk; rw [hy] at hk'
          simp only [keyV, hx, hy, packV, List.map_cons, List.map_nil, List.headD_cons]
          cases x <;> simp [fitsSh, sameSh] at hk <;> cases y <;> simp [fitsSh, sameSh] at hk'
          simp_all [Instr.sameNow, toV, eqCells, cellEq, beq_toListBytes, toList_mk]
      rw [foundAt_cons]
      rcases hsn with h | h
      · left; simp [Instr.findNow, h]
      · cases hc : eqCells k.cells k'.cells
        · rw [hc] at h
          simpa [Instr.findNow, h] using ih
        · rw [hc] at h
          right; simp [Instr.findNow, h]

theorem run_find {M : Mem} (hs : eqShape P 20 key = some sh) (hn : aggOf P key = some n) (hl : n.getD 1 = sh.length) {k : AV} (hk : keyFit sh n.isSome k = true) {ks : List AV} {ents : List MapEntry} (hr : Rs M ks (ents.map (·.key))) (hf : ∀ k' ∈ ks, keyFit sh n.isSome k' = true) :
    (Instr.findKey key (keyV n k) ents).run P w = .ok (foundAt k ks ents 0) w := by
  have hu : ∃ td, P.underlying key = some td := by
    cases h : P.underlying key with
    | none => simp [eqShape, h] at hs
    | some td => exact ⟨td, rfl⟩
  obtain ⟨td, hu⟩ := hu
  have h1 := run_asking w hs hn hl hk ks ents 0 hr hf
  simp only [Instr.findKey, Sem.run_bind, run_underlying hu, Result.andThen_ok]
  rcases findNow_or (i := 0) hu hs hn hk ks ents hr hf with h | h
  · rw [h]; exact h1
  · rw [h]; simp
end

/-- What a type's zero value reads as, where it is copied. -/
def isAggV : Value → Bool
  | .agg _ => true
  | _ => false
def zeroR (P : Program) (t : TypeId) : Option AV := match zeroAV P t, (P.info? t).bind (·.zero) with
  | some z, some v => if isAggV v = isAgg' z then some z.un else none
  | _, _ => none
theorem zeroR_spec {P : Program} {t : TypeId} {z : AV} (h : zeroR P t = some z) : ∃ i v, P.info? t = some i ∧ i.zero = some v ∧ ∀ M, R M z v := by
  unfold zeroR at h
  split at h
  rotate_left
  · cases h
  rename_i z0 v hz hv
  split at h
  rotate_left
  · cases h
  rename_i hc
  cases h
  obtain ⟨i, v', h1, h2, h3⟩ := zeroAV_spec hz
  rw [h1] at hv
  simp only [Option.bind_some] at hv
  rw [h2] at hv; cases hv
  refine ⟨i, v, h1, h2, fun M => ?_⟩
  have hro := chkCs_ROs h3 (fun _ => .none) M ⟨#[], fun _ _ => 0, 0, default, default⟩ 0 0
  obtain ⟨g1, g2⟩ := Rs_un_of_ROs hro
  cases z0
  case agg cs =>
    cases v <;> simp [isAggV, isAgg'] at hc
    rename_i arr
    simp only [AV.un, R]
    exact ⟨arr.toList, by simp, g1, by simpa [Value.cells, AV.cells] using g2⟩
  all_goals
    have hvc : v.cells = #[v] := by cases v <;> first | rfl | (simp [isAggV, isAgg'] at hc)
    rw [hvc] at g2
    first
      | (simp only [AV.cells, List.map_cons, List.map_nil, Rs] at g2
         obtain ⟨u, us, he, hu, _⟩ := g2
         simp only [List.cons.injEq] at he
         rw [← he.1] at hu
         exact hu)
      | (simp [AV.cells, Rs] at g2)

end Go.Proofs.YtccmaeefedgcnaaGreat

namespace Go.Proofs.YtccmaeefedgcnaaGreat

def setObjW (w : World) (b : Nat) (o : Obj) : World := { w with heap := w.heap.setIfInBounds b o }
theorem setObjW_same {w : World} {b : Nat} {o o' : Obj} (h : w.heap[b]? = some o') : (setObjW w b o).heap[b]? = some o := by
  have hlt : b < w.heap.size := (Array.getElem?_eq_some_iff.1 h).1
  simp [setObjW, hlt]
theorem setObjW_other {w : World} {b b' : Nat} {o : Obj} (h : b' ≠ b) : (setObjW w b o).heap[b']? = w.heap[b']? := by
  simp only [setObjW, Array.getElem?_setIfInBounds]
  rw [if_neg (fun e => h e.symm)]
theorem setObjW_size {w : World} {b : Nat} {o : Obj} : (setObjW w b o).heap.size = w.heap.size := by simp [setObjW]

section
variable {cx : Cx} {E : CE} {st : St} {ver : Nat → Nat} {M : Mem} {own : Nat → Own} {tmps : Array Value} {w : World} {ds : List Deferred}
  {o : Oper} {K : Act → World → Prop} {Q : Exit → Act → World → Prop}

theorem Rel.setmap (hR : Rel cx st ver M own tmps w) {t b : Nat} {ob ob' : Obj} {av : AV} {pv : Value} (hb : cx.boxed t = true) (ho : own b = .box t) (hM : ∀ o, M b o = none) (hh : w.heap[b]? = some ob)
    (ht : tmps[t]? = some pv) (hv : RBoxV own M (setObjW w b ob') t av pv) : Rel cx { st with e := upd st.e t av } ver M own tmps (setObjW w b ob') := by
  have hbase : Base cx own M (setObjW w b ob') := ⟨fun b' o u hm => by
      have : b' ≠ b := by rintro rfl; rw [hM] at hm; cases hm
      rw [cell?_of_heap (setObjW_other this)]; exact hR.base.mem b' o u hm,
    fun b' hb' => by rw [setObjW_size]; exact hR.base.own_lt b' hb', hR.base.own_new, hR.base.mnew,
    fun b' hb' ho' => by
      have : b' ≠ b := by rintro rfl; rw [ho] at ho'; cases ho'
      rw [setObjW_other this]; exact hR.base.frame b' hb' ho', by rw [setObjW_size]; exact hR.base.grow, hR.base.rest⟩
  have h3 := (hR.forget t).stepX (own' := own) (M' := M) (w' := setObjW w b ob') t (by simp [upd]) hbase (Mle.refl M)
    (fun b' _ hbx _ => ⟨rfl, setObjW_other (by rintro rfl; exact hbx ho), fun _ => rfl⟩) (by rw [setObjW_size]; exact Nat.le_refl _)
  have h4 := h3.setSlot (t := t) (av := av) (.inr ⟨pv, ht, by rw [if_pos hb]; exact hv⟩)
  have e : (⟨upd (upd st.e t .undef) t av, st.h, st.nx⟩ : St) = ⟨upd st.e t av, st.h, st.nx⟩ := by
    congr 1; funext j; simp only [upd]; split <;> rfl
  rw [← e]; exact h4

theorem keyOk_spec {sh : List AV} {ag : Bool} {k : AV} {ks vs : List AV} {bs : List Nat} {clk : Nat} (h : keyOk sh ag k (.omap ks vs bs clk) = true) : keyFit sh ag k = true ∧ ∀ k' ∈ ks, keyFit sh ag k' = true := by
  simp only [keyOk, mapOf, Bool.and_eq_true, List.all_eq_true] at h
  exact h

theorem keyIdx_lt {k : AV} : ∀ {ks : List AV} {i : Nat}, keyIdx k ks = some i → ∃ h : i < ks.length, eqCells k.cells (ks[i]).cells = true
  | [], i, h => by simp [keyIdx] at h
  | k' :: ks, i, h => by
    simp only [keyIdx] at h
    split at h
    · cases h; exact ⟨by simp, ‹_›⟩
    · simp only [Option.map_eq_some_iff] at h
      obtain ⟨j, hj, rfl⟩ := h
      obtain ⟨h1, h2⟩ := keyIdx_lt hj
      exact ⟨by simpa using h1, by simpa using h2⟩

theorem Rs_at {M : Mem} {cs : List AV} {vs : List Value} (h : Rs M cs vs) {i : Nat} (hi : i < cs.length) : ∃ hv : i < vs.length, R M cs[i] vs[i] := by
  have hl := Rs_length h
  exact ⟨by omega, (Rs_iff.1 h).2 i _ _ (List.getElem?_eq_getElem hi) (List.getElem?_eq_getElem (by omega))⟩

theorem keyFit_data {sh : List AV} {n : Option Nat} {k : AV} (h : keyFit sh n.isSome k = true) (hl : n.getD 1 = sh.length) : k.data = true := by
  simp only [keyFit, Bool.and_eq_true, beq_iff_eq] at h
  obtain ⟨h1, h2⟩ := h
  have one : ∀ x : AV, (∀ s, sameSh s x = false) → fitsSh sh [x] = true → False := fun x hx hf => by
    cases sh with
    | nil => simp [fitsSh] at hf
    | cons s sh => simp [fitsSh, hx s] at hf
  cases k <;> first | rfl | skip
  · exact (one _ (fun s => by cases s <;> rfl) h1).elim
  · exact (one _ (fun s => by cases s <;> rfl) h1).elim
  · exact (one _ (fun s => by cases s <;> rfl) h1).elim
  all_goals
    have hn : n = none := by simpa [isAgg'] using h2.symm
    subst hn
    have := fits_length h1
    simp [AV.cells] at this hl
    omega

variable {mt key el : TypeId} {sh : List AV} {n : Option Nat} {t : Nat} {p : Option Nat}

theorem sound_mlook {d : Nat} {k : Operand} {k' : Opd} {tk : TypeId} {z : AV} {two : Bool} (hE : cx.boxed = E.boxed) (hR : Rel cx st ver M own tmps w) (ho : o.op = .lookup mt (ptrOpd t p) k two) (hdst : o.dst = some d) (hd : d < cx.n) (hb : cx.boxed d = false)
    (hbt : cx.boxed t = true) (hbp : ∀ q, p = some q → cx.boxed q = false) (hmt : cx.P.underlying mt = some (.map key el)) (hs : eqShape cx.P 20 key = some sh) (hn : aggOf cx.P key = some n) (hl : n.getD 1 = sh.length) (hz : zeroR cx.P el = some z)
    (h1 : cOpdC E tk k = some k') (hok : AOp.ok cx.P .undef st ver (.mlook d t p k' z sh n.isSome two)) (hK : OpGoal cx (AOp.next .undef st ver (.mlook d t p k' z sh n.isSome two)).1 ver M ds K) : o.wp cx.P ⟨tmps, ds⟩ w K Q := by
  obtain ⟨hm, hp, hko⟩ := hok
  obtain ⟨ks, vs, bs, clk, b, ents, he, hv, g1, g2, g3, g4, g5, g6, g7⟩ := hR.mptr (ds := ds) hbt hm hbp hp
  rw [he] at hko
  obtain ⟨f1, f2⟩ := keyOk_spec hko
  have hkd := keyFit_data f1 hl
  have hkR := opdC_R h1 hE hR (ds := ds) hkd
  have hkv := key_R f1 hkR
  obtain ⟨i, zv, e1, e2, e3⟩ := zeroR_spec hz
  have hchk := run_check (P := cx.P) ents.toArray.isEmpty 20 10000 (by omega) key sh hs w n _ hn hl (Bool.and_eq_true_iff.1 f1).1
  have hfind := run_find (P := cx.P) w hs hn hl f1 g4 f2
  have hget := MapKept.run_getObj_map (P := cx.P) g3
  simp only [AOp.next, mapLook, he, mapOf] at hK
  cases hi : keyIdx (k'.val st) ks with
  | none =>
    rw [hi] at hK
    have hf : foundAt (k'.val st) ks ents 0 = none := by simp [foundAt, hi]
    rw [hf] at hfind
    refine sound_pure (av := if two then .tup [z, .bool false] else z) (v := if two then .tuple #[zv, .bool false] else zv) hR hdst hd hb ?_ ?_ (by cases two <;> simpa using hK)
    · simp only [execOp, ho, Instr.lookup, g7, hkv]
      cases two <;> simp [run_underlying hmt, hget, hchk, hfind, keyV, zeroValue, typeInfo, e1, e2] <;> simp_all [keyV]
    · cases two
      · exact e3 M
      · simp only [if_true, R]; exact ⟨[zv, .bool false], rfl, zv, _, rfl, e3 M, _, _, rfl, by simp [R], by simp [Rs]⟩
  | some i =>
    rw [hi] at hK
    obtain ⟨hlt, _⟩ := keyIdx_lt hi
    have hll := Rs_length g4
    have hlv := Rs_length g5
    simp only [List.length_map] at hll hlv
    obtain ⟨hlt2, hRv⟩ := Rs_at g5 (i := i) (by omega)
    simp only [List.getElem_map] at hRv
    have hie : i < ents.length := by simpa using hlt2
    have hf : foundAt (k'.val st) ks ents 0 = some (i, (ents[i]).val) := by simp [foundAt, hi, List.getElem?_eq_getElem hie]
    rw [hf] at hfind
    have hgd : vs.getD i .undef = vs[i]'(by omega) := by simp [List.getD, List.getElem?_eq_getElem (show i < vs.length by omega)]
    simp only [hgd] at hK
    refine sound_pure (av := if two then .tup [vs[i]'(by omega), .bool true] else vs[i]'(by omega)) (v := if two then .tuple #[(ents[i]).val, .bool true] else (ents[i]).val) hR hdst hd hb ?_ ?_ (by cases two <;> simpa using hK)
    · simp only [execOp, ho, Instr.lookup, g7, hkv]
      cases two <;> simp [run_underlying hmt, hget, hchk, hfind, keyV] <;> simp_all [keyV]
    · cases two
      · exact hRv
      · simp only [if_true, R]; exact ⟨[_, .bool true], rfl, _, _, rfl, hRv, _, _, rfl, by simp [R], by simp [Rs]⟩
theorem sameBits_cell {s x : AV} (h : sameSh s x = true) (d : Nat) : Instr.sameBits d (toV x) (toV x) = true := by
  cases s <;> cases x <;> simp [sameSh] at h <;> cases d <;> simp [toV, Instr.sameBits, beq_toListBytes]
theorem sameBits_zip : ∀ {sh cs : List AV} (d : Nat), fitsSh sh cs = true → (((cs.map toV).zip (cs.map toV)).all fun (x, y) => Instr.sameBits d x y) = true
  | [], [], _, _ => rfl
  | [], _ :: _, _, h => by simp [fitsSh] at h
  | _ :: _, [], _, h => by simp [fitsSh] at h
  | s :: sh, c :: cs, d, h => by
    simp only [fitsSh, Bool.and_eq_true] at h
    have := sameBits_zip d h.2
    simp only [List.map_cons, List.zip_cons_cons, List.all_cons, Bool.and_eq_true]
    exact ⟨sameBits_cell h.1 d, this⟩
theorem sameBits_key {sh : List AV} {n : Option Nat} {k : AV} (h : keyFit sh n.isSome k = true) (hl : n.getD 1 = sh.length) (d : Nat) : Instr.sameBits (d + 1) (keyV n k) (keyV n k) = true := by
  simp only [keyFit, Bool.and_eq_true] at h
  have h1 := h.1
  cases n with
  | none =>
    have hlen := fits_length h1
    simp only [Option.getD_none] at hl
    cases hs : sh with
    | nil => rw [hs] at hl; simp at hl
    | cons s sh' =>
      rw [hs] at h1 hl
      cases hc : k.cells with
      | nil => rw [hc] at h1; simp [fitsSh] at h1
      | cons x xs =>
        rw [hc] at h1
        simp only [fitsSh, Bool.and_eq_true] at h1
        simp only [keyV, packV, hc, List.map_cons, List.headD_cons]
        exact sameBits_cell h1.1 _
  | some m =>
    simp only [keyV, packV, Instr.sameBits]
    have := sameBits_zip d h1
    simpa using this

theorem Rs_snoc {M : Mem} {c : AV} {v : Value} (hv : R M c v) : ∀ {cs : List AV} {vs : List Value}, Rs M cs vs → Rs M (cs ++ [c]) (vs ++ [v])
  | [], vs, h => by simp only [Rs] at h; subst h; simp [Rs, hv]
  | x :: cs, vs, h => by
    simp only [Rs] at h
    obtain ⟨u, us, rfl, hu, hs⟩ := h
    simp only [List.cons_append, Rs]
    exact ⟨u, us ++ [v], rfl, hu, Rs_snoc hv hs⟩
theorem Rs_set {M : Mem} {c : AV} {v : Value} (hv : R M c v) : ∀ {cs : List AV} {vs : List Value} (i : Nat), Rs M cs vs → Rs M (cs.set i c) (vs.set i v)
  | [], vs, i, h => by simp only [Rs] at h; subst h; simp [Rs]
  | x :: cs, vs, i, h => by
    simp only [Rs] at h
    obtain ⟨u, us, rfl, hu, hs⟩ := h
    cases i with
    | zero => simp only [List.set_cons_zero, Rs]; exact ⟨v, us, rfl, hv, hs⟩
    | succ i => simp only [List.set_cons_succ, Rs]; exact ⟨u, us.set i v, rfl, hu, Rs_set hv i hs⟩

theorem sound_mentry {d : Nat} {k : Operand} {k' : Opd} {tk : TypeId} {z : AV} (hE : cx.boxed = E.boxed) (hR : Rel cx st ver M own tmps w) (ho : o.op = .mapEntry mt (ptrOpd t p) k) (hdst : o.dst = some d) (hd : d < cx.n) (hb : cx.boxed d = false)
    (hbt : cx.boxed t = true) (hbp : ∀ q, p = some q → cx.boxed q = false) (hmt : cx.P.underlying mt = some (.map key el)) (hs : eqShape cx.P 20 key = some sh) (hn : aggOf cx.P key = some n) (hl : n.getD 1 = sh.length) (hz : zeroR cx.P el = some z)
    (h1 : cOpdC E tk k = some k') (hok : AOp.ok cx.P .undef st ver (.mentry d t p k' z sh n.isSome)) (hK : OpGoal cx (AOp.next .undef st ver (.mentry d t p k' z sh n.isSome)).1 ver M ds K) : o.wp cx.P ⟨tmps, ds⟩ w K Q := by
  obtain ⟨hm, hp, hko⟩ := hok
  obtain ⟨ks, vs, bs, clk, b, ents, he, hv, g1, g2, g3, g4, g5, g6, g7⟩ := hR.mptr (ds := ds) hbt hm hbp hp
  rw [he] at hko
  obtain ⟨f1, f2⟩ := keyOk_spec hko
  have hkR := opdC_R h1 hE hR (ds := ds) (keyFit_data f1 hl)
  have hkv := key_R f1 hkR
  obtain ⟨i, zv, e1, e2, e3⟩ := zeroR_spec hz
  have hchk := run_check (P := cx.P) false 20 10000 (by omega) key sh hs w n _ hn hl (Bool.and_eq_true_iff.1 f1).1
  have hfind := run_find (P := cx.P) w hs hn hl f1 g4 f2
  have hget := MapKept.run_getObj_map (P := cx.P) g3
  simp only [AOp.next, mapEnter, he, mapOf] at hK
  have hset := fun o' => MapKept.run_setObj_map (P := cx.P) o' g3
  cases hi : keyIdx (k'.val st) ks with
  | none =>
    rw [hi] at hK
    have hf : foundAt (k'.val st) ks ents 0 = none := by simp [foundAt, hi]
    rw [hf] at hfind
    have hrun : (execOp (Act.eval ⟨tmps, ds⟩) o).run cx.P w = .ok (.value (.tuple #[zv, .int .i64 (clk : Nat)])) (setObjW w b (.map (ents ++ [(⟨keyV n (k'.val st), zv, clk⟩ : MapEntry)]).toArray (clk + 1))) := by
      simp only [execOp, ho, Instr.mapEntry, g7, hkv]
      simp only [keyV] at hfind hchk ⊢
      simp [run_underlying hmt, hget, hchk, hfind, zeroValue, typeInfo, e1, e2, hset, setObjW, goInt]
    refine wp_value hrun ?_
    rw [put_some hdst]
    have r1 := hR.setmap (ob' := .map (ents ++ [(⟨keyV n (k'.val st), zv, clk⟩ : MapEntry)]).toArray (clk + 1)) (av := .omap (ks ++ [k'.val st]) (vs ++ [z]) (bs ++ [clk]) (clk + 1)) hbt g1 g2 g3 hv
      ⟨b, rfl, g1, g2, _, setObjW_same g3, by simpa using Rs_snoc (hkv ▸ hkR) g4, by simpa using Rs_snoc (e3 M) g5, by simp [g6]⟩
    exact hK M own _ _ (Mle.refl M) (r1.put_RV hd hb (v := .tuple #[zv, .int .i64 (clk : Nat)]) (RV_of_R (by simp only [R]; exact ⟨[zv, _], rfl, _, _, rfl, e3 M, _, _, rfl, by simp [R], by simp [Rs]⟩)))
  | some i =>
    rw [hi] at hK
    obtain ⟨hlt, heq⟩ := keyIdx_lt hi
    have hll := Rs_length g4
    have hlv := Rs_length g5
    simp only [List.length_map] at hll hlv
    obtain ⟨hlt2, hRv⟩ := Rs_at g5 (i := i) (by omega)
    obtain ⟨_, hRk⟩ := Rs_at g4 (i := i) hlt
    simp only [List.getElem_map] at hRv hRk
    have hie : i < ents.length := by simpa using hlt2
    have hf : foundAt (k'.val st) ks ents 0 = some (i, (ents[i]).val) := by simp [foundAt, hi, List.getElem?_eq_getElem hie]
    rw [hf] at hfind
    have hgd : vs.getD i .undef = vs[i]'(by omega) := by simp [List.getD, List.getElem?_eq_getElem (show i < vs.length by omega)]
    have hbd : bs.getD i 0 = (ents[i]).born := by rw [g6]; simp [List.getD, List.getElem?_eq_getElem hie]
    simp only [hgd, hbd] at hK
    have hfi := f2 _ (List.getElem_mem hlt)
    have hcells : (k'.val st).cells = (ks[i]).cells := cells_eq (Bool.and_eq_true_iff.1 f1).1 (Bool.and_eq_true_iff.1 hfi).1 heq
    have hold : (ents[i]).key = keyV n (k'.val st) := by rw [key_R hfi hRk]; simp only [keyV, hcells]
    have hsb := sameBits_key f1 hl 9999
    have hmod : (ents.modify i fun e => { e with key := keyV n (k'.val st) }) = ents := by
      apply List.ext_getElem?
      intro j
      simp only [List.getElem?_modify]
      by_cases e : i = j
      · subst e
        have hx : (⟨keyV n (k'.val st), (ents[i]).val, (ents[i]).born⟩ : MapEntry) = ents[i] := by rw [← hold]
        rw [List.getElem?_eq_getElem hie]
        simpa using hx
      · simp [e]
    have hrun : (execOp (Act.eval ⟨tmps, ds⟩) o).run cx.P w = .ok (.value (.tuple #[(ents[i]).val, .int .i64 ((ents[i]).born : Nat)])) (setObjW w b (.map ents.toArray clk)) := by
      simp only [execOp, ho, Instr.mapEntry, g7, hkv]
      have hsb' : Instr.sameBits 10000 (keyV n (k'.val st)) (keyV n (k'.val st)) = true := hsb
      simp only [keyV] at hfind hchk hsb' hold hmod ⊢
      simp [run_underlying hmt, hget, hchk, hfind, List.getElem?_eq_getElem hie, Instr.keyThatStays, hold, hsb', hmod, hset, setObjW, goInt]
    refine wp_value hrun ?_
    rw [put_some hdst]
    have r1 := hR.setmap (ob' := .map ents.toArray clk) (av := .omap ks vs bs clk) hbt g1 g2 g3 hv ⟨b, rfl, g1, g2, _, setObjW_same g3, g4, g5, g6⟩
    have hK' := hK M own _ _ (Mle.refl M) (r1.put_RV hd hb (v := .tuple #[(ents[i]).val, .int .i64 ((ents[i]).born : Nat)]) (RV_of_R (by simp only [R]; exact ⟨[_, _], rfl, _, _, rfl, hRv, _, _, rfl, by simp [R], by simp [Rs]⟩)))
    exact hK'

theorem sound_mestore {s x : Operand} {s' x' : Opd} {ts tx : TypeId} (hE : cx.boxed = E.boxed) (hR : Rel cx st ver M own tmps w) (ho : o.op = .entryStore mt (ptrOpd t p) s x) (hdst : o.dst = none)
    (hbt : cx.boxed t = true) (hbp : ∀ q, p = some q → cx.boxed q = false) (h1 : cOpdC E ts s = some s') (h2 : cOpdC E tx x = some x')
    (hok : AOp.ok cx.P .undef st ver (.mestore t p s' x')) (hK : OpGoal cx (AOp.next .undef st ver (.mestore t p s' x')).1 ver M ds K) : o.wp cx.P ⟨tmps, ds⟩ w K Q := by
  obtain ⟨hm, hp, hsol, kk, nn, es, hst⟩ := hok
  obtain ⟨ks, vs, bs, clk, b, ents, he, hv, g1, g2, g3, g4, g5, g6, g7⟩ := hR.mptr (ds := ds) hbt hm hbp hp
  have hsR := opdC_R h1 hE hR (ds := ds) (by rw [es]; rfl)
  have hxR := opdC_R h2 hE hR (ds := ds) (solid_data hsol)
  rw [es] at hsR
  simp only [R] at hsR
  rw [he] at hst
  simp only [AOp.next, mapPut, he, es, intOf'] at hK
  have hget := MapKept.run_getObj_map (P := cx.P) g3
  have hset := fun o' => MapKept.run_setObj_map (P := cx.P) o' g3
  have hfb : bs.findIdx? (fun b : Nat => (b : Int) == nn) = ents.findIdx? (fun e => (e.born : Int) == nn) := by rw [g6, List.findIdx?_map]; rfl
  cases hi : ents.findIdx? (fun e => (e.born : Int) == nn) with
  | none =>
    exfalso
    simp only [stampIn, mapOf, List.any_eq_true] at hst
    obtain ⟨q, hq, hqe⟩ := hst
    rw [g6, List.mem_map] at hq
    obtain ⟨e, hem, rfl⟩ := hq
    rw [List.findIdx?_eq_none_iff] at hi
    have := hi e hem
    rw [hqe] at this; cases this
  | some i =>
    rw [hfb, hi] at hK
    have hmk : (ents.modify i fun e => { e with val := Act.eval ⟨tmps, ds⟩ x }).map (·.key) = ents.map (·.key) := by
      apply List.ext_getElem? ; intro j; simp [List.getElem?_modify]; cases ents[j]? <;> simp; split <;> rfl
    have hmb : (ents.modify i fun e => { e with val := Act.eval ⟨tmps, ds⟩ x }).map (·.born) = ents.map (·.born) := by
      apply List.ext_getElem? ; intro j; simp [List.getElem?_modify]; cases ents[j]? <;> simp; split <;> rfl
    have hmv : (ents.modify i fun e => { e with val := Act.eval ⟨tmps, ds⟩ x }).map (·.val) = (ents.map (·.val)).set i (Act.eval ⟨tmps, ds⟩ x) := by
      apply List.ext_getElem? ; intro j
      simp only [List.getElem?_map, List.getElem?_modify, List.getElem?_set]
      by_cases e : i = j
      · subst e
        cases hj : ents[i]? with
        | none => simp [List.getElem?_eq_none_iff] at hj; simp; omega
        | some x => have := (List.getElem?_eq_some_iff.1 hj).1; simp [this]
      · simp [e]
    have hrun : (execOp (Act.eval ⟨tmps, ds⟩) o).run cx.P w = .ok .skip (setObjW w b (.map (ents.modify i fun e => { e with val := Act.eval ⟨tmps, ds⟩ x }).toArray clk)) := by
      simp only [execOp, ho, Instr.entryStore, g7, hsR]
      simp [hget, asInt, asIntOf, hi, hset, setObjW]
    refine wp_skip' hrun ?_
    rw [hdst]
    have r1 := hR.setmap (ob' := .map (ents.modify i fun e => { e with val := Act.eval ⟨tmps, ds⟩ x }).toArray clk) (av := .omap ks (vs.set i (x'.val st)) bs clk) hbt g1 g2 g3 hv
      ⟨b, rfl, g1, g2, _, setObjW_same g3, by rw [hmk]; exact g4, by rw [hmv]; exact Rs_set hxR i g5, by rw [hmb]; exact g6⟩
    exact hK M own _ _ (Mle.refl M) r1
end

end Go.Proofs.YtccmaeefedgcnaaGreat

namespace Go.Proofs.YtccmaeefedgcnaaGreat

section
variable {cx : Cx} {E : CE} {st : St} {ver : Nat → Nat} {M : Mem} {own : Nat → Own} {tmps : Array Value} {w : World} {ds : List Deferred}
  {o : Oper} {K : Act → World → Prop} {Q : Exit → Act → World → Prop}

theorem zero_size {zv : Value} {zc : List AV} {n : Nat} (h : chkCs zc zv.cells.toList = true) (hl : zc.length = n) : zv.cells.size = n := by
  have : ∀ (cs : List AV) (vs : List Value), chkCs cs vs = true → vs.length = cs.length := by
    intro cs
    induction cs with
    | nil => intro vs h; cases vs with | nil => rfl | cons _ _ => simp [chkCs] at h
    | cons c cs ih => intro vs h; cases vs with
      | nil => simp [chkCs] at h
      | cons v vs => simp only [chkCs, Bool.and_eq_true] at h; simp [ih vs h.2]
  have := this _ _ h
  simpa [hl] using this

theorem sound_xapp {t el tx ty : TypeId} {d z : Nat} {s x : Operand} {s' x' : Opd} {inf : TypeInfo} {zc : List AV} (hE : cx.boxed = E.boxed) (hR : Rel cx st ver M own tmps w)
    (ho : o.op = .call { callee := .builtin .append, args := #[s, x], argTypes := #[t, t] }) (hdst : o.dst = some d) (hd : d < cx.n) (hb : cx.boxed d = true)
    (hu : cx.P.underlying t = some (.slice el)) (hz : zeroOf cx.P el = some zc) (hinf : cx.P.info? el = some inf) (hsz : inf.size = z) (hzl : zc.length = z) (hby : 1 ≤ inf.bytes)
    (h1 : cOpd E tx s = some s') (h2 : cOpdC E ty x = some x')
    (hok : AOp.ok cx.P .undef st ver (.xapp d s' x' z inf.bytes)) (hK : OpGoal cx (AOp.next .undef st ver (.xapp d s' x' z inf.bytes)).1 (AOp.next .undef st ver (.xapp d s' x' z inf.bytes)).2 M ds K) : o.wp cx.P ⟨tmps, ds⟩ w K Q := by
  cases hs : s'.val st <;> simp only [AOp.ok, hs] at hok
  rename_i z1 es
  cases es with
  | cons _ _ => simp only at hok
  | nil =>
  cases hx : x'.val st <;> simp only [hx] at hok
  rename_i z2 fs
  obtain ⟨rfl, rfl, hbytes⟩ := hok
  simp only [AOp.next, hx] at hK
  subst hsz
  obtain ⟨inf', zv, g1, g2, g3⟩ := zeroOf_spec hz
  rw [hinf] at g1; cases g1
  have hxR := opdC_R h2 hE hR (ds := ds) (by rw [hx]; rfl)
  rw [hx] at hxR; simp only [R] at hxR
  obtain ⟨ax, lenx, capx, hxv, hlx, hcx, hnx, hrx⟩ := hxR
  obtain ⟨own1, hR1, hv⟩ := opdM_RV h1 hE hR (ds := ds) (by rw [hs]; rfl) d 0
  rw [hs] at hv
  simp only [RV, RO] at hv
  obtain ⟨as, lens, caps, hsv, hls, hcs, hns, hrs⟩ := hv
  simp only [List.length_nil] at hls
  subst hls
  have hrunE : ∀ v w', (Builtin.append_ #[t, t] o.type #[.slice as 0 caps, .slice ax lenx capx]).run cx.P w = .ok v w' → (execOp (Act.eval ⟨tmps, ds⟩) o).run cx.P w = .ok (.value v) w' := by
    intro v w' h
    simp [execOp, ho, resolve, invoke, builtin, hsv, hxv, h]
  have hzsz := zero_size g3 hzl
  by_cases hf0 : fs = []
  · subst hf0
    have hl0 : lenx = 0 := by simpa using hlx
    subst hl0
    have hrun := hrunE _ _ (run_append_idle (P := cx.P) (w := w) hu hinf as 0 caps ax capx hcs)
    refine wp_value hrun ?_
    rw [put_some hdst]
    refine hK M own1 _ w (Mle.refl M) (hR1.putbox hd hb ⟨as, 0, caps, rfl, rfl, hcs, hns, fun h => ?_, .inl rfl⟩)
    obtain ⟨b, off, e, _⟩ := hrs h
    exact ⟨b, off, e⟩
  · have hax : capx ≠ 0 := by
      intro h; rw [h] at hcx; have : lenx = 0 := by omega
      rw [hlx] at this; exact hf0 (List.eq_nil_of_length_eq_zero this)
    obtain ⟨bx, ox, rfl, hrowx⟩ := hrx hax
    obtain ⟨news, hnl, hnm⟩ := Rrow_list hrowx
    have hnlen := RowL_length hnl
    have hflat := RowL_flat hnl
    have hnc : ∀ j u, news[j]? = some u → w.cell? ((⟨bx, ox, none⟩ : Addr).add j) = some u := fun j u hj => by
      rw [Addr.add_lit]; exact hR.base.mem _ _ _ (hnm j u hj)
    have hlpos : 0 < fs.length := by cases fs with | nil => exact absurd rfl hf0 | cons _ _ => simp
    have grown : ∀ (nc : Nat), fs.length ≤ nc →
        (execOp (Act.eval ⟨tmps, ds⟩) o).run cx.P w = .ok (.value (.slice (some ⟨w.heap.size, 0, none⟩) fs.length nc)) (pushW w (.cells (news ++ (Builtin.zeroCells zv.cells (nc - fs.length)).toList).toArray el (0, 0)) (w.drawn + 1)) →
        o.wp cx.P ⟨tmps, ds⟩ w K Q := by
      intro nc hnc2 hrun
      refine wp_value hrun ?_
      rw [put_some hdst]
      have q1 : 0 + nc * inf.size ≤ (news ++ (Builtin.zeroCells zv.cells (nc - fs.length)).toList).toArray.size := by
        have e : fs.length + (nc - fs.length) = nc := by omega
        simp only [List.size_toArray, List.length_append, hnlen, Array.length_toList, size_zeroCells, hzsz, ← Nat.add_mul, Nat.zero_add, e, Nat.le_refl]
      have q2 : ∀ (i : Nat) u, news[i]? = some u → (news ++ (Builtin.zeroCells zv.cells (nc - fs.length)).toList).toArray[0 + i]? = some u := by
        intro i u hu
        have hi := (List.getElem?_eq_some_iff.1 hu).1
        simp only [List.getElem?_toArray, Nat.zero_add]
        rw [List.getElem?_append_left hi]; exact hu
      obtain ⟨M', own', hm, hr⟩ := hR1.newboxV (av := .xslice inf.size fs) (o := .cells (news ++ (Builtin.zeroCells zv.cells (nc - fs.length)).toList).toArray el (0, 0)) (dr := w.drawn + 1) (pv := .slice (some ⟨w.heap.size, 0, none⟩) fs.length nc) hd hb
        ⟨_, _, nc, rfl, rfl, hnc2, by simp, fun _ => ⟨_, _, rfl⟩, .inr ⟨w.heap.size, 0, rfl, by simp [upd], fun o _ => by simp [pushM], _, el, news, pushW_new w _ _, q1, RowL_mono (hR1.base.pushMle _) hnl, q2⟩⟩
      exact hK M' own' _ _ hm hr
    have hsmall : fs.length ≤ 140737488355328 := Nat.le_trans (Nat.le_mul_of_pos_right _ hby) hbytes
    by_cases has : as = none
    · subst has
      have hc0 := hns rfl
      subst hc0; subst hlx
      have hr := run_append_nil (P := cx.P) w t o.type el inf zv hu hinf g2 ⟨bx, ox, none⟩ fs.length capx news hnlen hnc hlpos (by omega) (by omega)
      refine grown (grownCap w fs.length 0 el) (grownCap_ge w _ _ _) ?_
      refine (hrunE _ _ hr).trans ?_
      congr 1
      show World.mk _ _ _ _ _ = World.mk _ _ _ _ _
      congr 1
      simp only [World.drew]
      congr 1
      congr 1
      apply Array.ext'
      simp
    · obtain ⟨bs, off, rfl, hrow, hsp⟩ := hrs has
      subst hlx
      by_cases hroom : fs.length ≤ caps
      · have hlt : 0 ≠ caps := by omega
        obtain ⟨ho1, vs, el', hh, hsz, hno⟩ := hsp.resolve_left (by simpa using hlt)
        simp only [Nat.zero_mul, Nat.add_zero] at hno
        have hfit : off + 0 * inf.size + news.length ≤ vs.size := by
          rw [hnlen]; simp only [Nat.zero_mul, Nat.add_zero]
          exact Nat.le_trans (Nat.add_le_add_left (Nat.mul_le_mul_right _ hroom) _) hsz
        have hr := run_append_inplace (P := cx.P) (w := w) (ty := o.type) hu hinf bs off 0 caps vs hh ⟨bx, ox, none⟩ fs.length capx news hnlen hnc hflat (by omega) hfit
        simp only [Nat.zero_mul, Nat.add_zero, Nat.zero_add] at hr hfit
        refine wp_value (hrunE _ _ hr) ?_
        rw [put_some hdst]
        -- the block changes hands, then its cells change
        let own2 : Nat → Own := upd own1 bs (.box d)
        have hk2 : ∀ b', b' ≠ bs → own2 b' = own1 b' := fun b' h => upd_other _ _ h
        have hn2 : ∀ b', own2 b' = .none ↔ own1 b' = .none := fun b' => by
          by_cases e : b' = bs
          · subst e; simp [own2, upd, ho1]
          · rw [hk2 b' e]
        have hh2 : ∀ b', own2 b' = .heap ↔ own1 b' = .heap := fun b' => by
          by_cases e : b' = bs
          · subst e; simp [own2, upd, ho1]
          · rw [hk2 b' e]
        let cur := (vs.toList.take off ++ news ++ vs.toList.drop (off + news.length)).toArray
        have hcl : cur.size = vs.size := by simp [cur]; omega
        have hcur : ∀ o', o' < off → cur[o']? = vs[o']? := fun o' h => by
          simp only [cur, List.getElem?_toArray]
          rw [List.append_assoc, List.getElem?_append_left (by simp; omega), List.getElem?_take, if_pos h]; simp
        have hbase : Base cx own2 M (w.setRow bs cur) := by
          refine ⟨fun b' o' u hu => ?_, fun b' h => by rw [size_setRow]; exact hR1.base.own_lt b' (fun e => h ((hn2 b').2 e)), fun b' h => (hR1.base.own_new b' (fun e => h ((hn2 b').2 e))).imp id (fun x => ⟨(hh2 b').2 x.1, x.2⟩), hR1.base.mnew, fun b' h h' => ?_, by rw [size_setRow]; exact hR1.base.grow, hR1.base.rest⟩
          · by_cases hb' : b' = bs
            · subst hb'
              have hlo : o' < off := by
                rcases Nat.lt_or_ge o' off with h | h
                · exact h
                · rw [hno o' h] at hu; cases hu
              rw [cell?_cells (setRow_heap w b' vs _ el' (0, 0) hh), hcur o' hlo]
              have := hR1.base.mem b' o' u hu
              rwa [cell?_cells hh] at this
            · rw [cell?_of_heap (setRow_other w bs b' _ hb')]
              exact hR1.base.mem b' o' u hu
          · have h'' := (hn2 b').1 h'
            rw [setRow_other w bs b' _ (by rintro rfl; rw [ho1] at h''; cases h'')]
            exact hR1.base.frame b' h h''
        have h3 := (hR1.forget d).stepX (own' := own2) (M' := M) (w' := w.setRow bs cur) d (by simp [upd]) hbase (Mle.refl M)
          (fun b' _ _ h => by
            have hne : b' ≠ bs := by rintro rfl; exact h 0 ho1
            exact ⟨hk2 b' hne, setRow_other w bs b' _ hne, fun _ => rfl⟩) (by rw [size_setRow]; exact Nat.le_refl _)
        have h4 := h3.putbox hd hb (av := .xslice inf.size fs) (pv := .slice (some ⟨bs, off, none⟩) fs.length caps)
          ⟨_, _, caps, rfl, rfl, hroom, by simp, fun _ => ⟨_, _, rfl⟩, .inr ⟨bs, off, rfl, by simp [own2, upd], hno, cur, el', news, setRow_heap w bs vs _ el' (0, 0) hh, by rw [hcl]; exact hsz, hnl, fun i u hu => by
            have hi := (List.getElem?_eq_some_iff.1 hu).1
            simp only [cur, List.getElem?_toArray]
            have e1 : (vs.toList.take off).length = off := by simp; omega
            rw [List.append_assoc, List.getElem?_append_right (by omega), e1, Nat.add_sub_cancel_left, List.getElem?_append_left hi]; exact hu⟩⟩
        refine hK M own2 _ _ (Mle.refl M) ?_
        have e : put (s'.done st) d (.xslice inf.size fs) = ⟨upd (upd (s'.done st).e d .undef) d (.xslice inf.size fs), (s'.done st).h, (s'.done st).nx⟩ := by
          simp only [put]; congr 1; funext j; simp only [upd]; split <;> rfl
        rw [e]; exact h4
      · have hr := run_append_grow (P := cx.P) w t o.type el inf zv hu hinf g2 ⟨bs, off, none⟩ 0 caps [] (by simp) (by simp) ⟨bx, ox, none⟩ fs.length capx news hnlen hnc (by omega) (by omega) (growslice_fits (by omega) (by simpa using hbytes))
        simp only [Nat.zero_add] at hr
        refine grown (grownCap w fs.length caps el) (grownCap_ge w _ _ _) ?_
        refine (hrunE _ _ hr).trans ?_
        congr 1
        show World.mk _ _ _ _ _ = World.mk _ _ _ _ _
        congr 1
        simp only [World.drew]
        congr 1
        congr 1
        apply Array.ext'
        simp
/-- The value of a variable that is a row of one's own, through itself or through a copy of it. -/
theorem Rel.xptr (hR : Rel cx st ver M own tmps w) {t z : Nat} {es : List AV} {p : Option Nat} (hb : cx.boxed t = true) (hm : st.e t = .xslice z es) (hp : ∀ q, p = some q → cx.boxed q = false) (h : ptrOff st ver t p = some 0) :
    ∃ v, tmps[t]? = some v ∧ RBoxV own M w t (.xslice z es) v ∧ Act.eval ⟨tmps, ds⟩ (ptrOpd t p) = v := by
  obtain ⟨v, hv, hbx⟩ := hR.sbox hb (by rw [hm]; rfl)
  rw [hm] at hbx
  refine ⟨v, hv, hbx, ?_⟩
  cases p with
  | none => simp [ptrOpd, Act.eval, Array.getD_eq_getD_getElem?, hv]
  | some q =>
    simp only [ptrOff] at h
    split at h
    · rename_i t' o k hq
      split at h
      · rename_i hc
        obtain ⟨rfl, rfl⟩ := hc
        obtain ⟨v0, v', g1, g2, hat, _⟩ := hR.bptr (hp q rfl) hq
        rw [hv] at g1; cases g1
        rcases hat with ⟨b', e1, _⟩ | ⟨_, rfl⟩
        · exact absurd e1 (RBoxV_special (av := .xslice z es) rfl hbx _)
        · simp [ptrOpd, Act.eval, Array.getD_eq_getD_getElem?, g2]
      · cases h
    · cases h

theorem st_ext' {a b : St} (he : a.e = b.e) (hh : a.h = b.h) (hn : a.nx = b.nx) : a = b := by
  cases a; cases b; simp_all

/-- A world in which one block of one's own has changed. -/
theorem Rel.inplace (hR : Rel cx st ver M own tmps w) {t b off : Nat} {vs vs' : Array Value} {el : TypeId} {w' : World} (ho : own b = .box t) (hno : ∀ o, off ≤ o → M b o = none)
    (hh : w.heap[b]? = some (.cells vs el (0, 0))) (hh' : w'.heap[b]? = some (.cells vs' el (0, 0))) (hpre : ∀ o, o < off → vs'[o]? = vs[o]?)
    (hold : ∀ b', b' < w.heap.size → b' ≠ b → w'.heap[b']? = w.heap[b']?) (hsz : w.heap.size ≤ w'.heap.size) (hos : w'.os = w.os ∧ w'.output = w.output ∧ w'.tape = w.tape) :
    Rel cx { st with e := upd st.e t .undef } ver M own tmps w' := by
  have hbase : Base cx own M w' := by
    refine ⟨fun b' o' u hu => ?_, fun b' h => Nat.lt_of_lt_of_le (hR.base.own_lt b' h) hsz, hR.base.own_new, hR.base.mnew, fun b' h h' => ?_, Nat.le_trans hR.base.grow hsz, ?_⟩
    · by_cases hb' : b' = b
      · subst hb'
        have hlo : o' < off := by
          rcases Nat.lt_or_ge o' off with h | h
          · exact h
          · rw [hno o' h] at hu; cases hu
        rw [cell?_cells hh', hpre o' hlo]
        have := hR.base.mem b' o' u hu
        rwa [cell?_cells hh] at this
      · rw [cell?_of_heap (hold b' (hR.base.lt hu) hb')]
        exact hR.base.mem b' o' u hu
    · have hne : b' ≠ b := by rintro rfl; rw [ho] at h'; cases h'
      have := hR.base.grow
      rw [hold b' (by omega) hne]
      exact hR.base.frame b' h h'
    · obtain ⟨r1, r2, r3⟩ := hos
      obtain ⟨s1, s2, s3⟩ := hR.base.rest
      exact ⟨r1.trans s1, r2.trans s2, r3.trans s3⟩
  exact (hR.forget t).stepX (own' := own) (M' := M) (w' := w') t (by simp [upd]) hbase (Mle.refl M)
    (fun b' hn hx _ => ⟨rfl, hold b' (hR.base.own_lt b' hn) (by rintro rfl; exact hx ho), fun _ => rfl⟩) hsz

theorem upd_undef {st : St} {t : Nat} {v : AV} : (⟨upd (upd st.e t .undef) t v, st.h, st.nx⟩ : St) = ⟨upd st.e t v, st.h, st.nx⟩ := by
  congr 1; funext j; simp only [upd]; split <;> rfl

theorem sound_xcall {f : FuncId} {fn : Func} {t : Nat} {p : Option Nat} {ats : Array TypeId} {r : AV} (hE : cx.boxed = E.boxed) (hR : Rel cx st ver M own tmps w)
    (ho : o.op = .call { callee := .value (.func f), args := #[ptrOpd t p], argTypes := ats }) (hdst : ∀ d, o.dst = some d → d < cx.n ∧ cx.boxed d = false) (hbt : cx.boxed t = true) (hbp : ∀ q, p = some q → cx.boxed q = false)
    (hf : cx.P.funcs[f]? = some fn) (hn : (fn.name == "runtime.NumGoroutine") = false) (hbody : fn.body.isNone = false)
    (hok : AOp.ok cx.P r st ver (.xcall o.dst f t p)) (hK : OpGoal cx (AOp.next r st ver (.xcall o.dst f t p)).1 ver M ds K) : o.wp cx.P ⟨tmps, ds⟩ w K Q := by
  obtain ⟨z, es, es', he, hp, rfl, hlen, hin⟩ := hok
  obtain ⟨v, hv, hbx, hev⟩ := hR.xptr (ds := ds) hbt he hbp hp
  obtain ⟨a, len, cap, rfl, rfl, hc, hn0, hs0, hrow⟩ := hbx
  have hrun : (execOp (Act.eval ⟨tmps, ds⟩) o).run cx.P w = .ok (.enter f #[.slice a es.length cap]) w := by
    have hn' : fn.name ≠ "runtime.NumGoroutine" := by simpa using hn
    have hb' : fn.body ≠ none := by intro h; rw [h] at hbody; cases hbody
    have hF : Act.eval ⟨tmps, ds⟩ (.func f) = .func (.func f) #[] #[] := rfl
    simp [execOp, ho, resolve, hF, Deferred.ofValue, invoke, callFunc, hf, hn', hb', hev]
  simp only [Oper.wp, hrun, Oper.upon]
  obtain ⟨c1, c2⟩ := hin M w a cap hR.base.mem
  -- what lies behind the call
  have fin : ∀ w', Rel cx ⟨upd st.e t (.xslice z es'), st.h, st.nx⟩ ver M own tmps w' → K (Act.put ⟨tmps, ds⟩ o.dst (.tuple #[])) w' := by
    intro w' hr
    cases hd : o.dst with
    | none => rw [hd] at hK; exact hK M own tmps w' (Mle.refl M) hr
    | some d =>
      rw [hd] at hK
      obtain ⟨g1, g2⟩ := hdst d hd
      exact hK M own _ w' (Mle.refl M) (hr.put_RV g1 g2 (v := .tuple #[]) (RV_of_R (by simp only [R]; exact ⟨[], rfl, by simp [Rs]⟩)))
  by_cases h0 : es = []
  · subst h0
    have h0' : es' = [] := List.eq_nil_of_length_eq_zero (by simpa using hlen)
    subst h0'
    refine (c1 rfl).mono ?_
    rintro e w' ⟨rfl, rfl⟩
    refine fin w' ?_
    have e : (⟨upd st.e t (.xslice z []), st.h, st.nx⟩ : St) = st := by
      refine st_ext' ?_ rfl rfl
      funext j; simp only [upd]; split
      · rename_i h; rw [h]; exact he.symm
      · rfl
    rw [e]; exact hR
  · obtain ⟨b, off, rfl, ho1, hno, vs, el, us, hh, hfit, hrl, hus⟩ := hrow.resolve_left h0
    refine (c2 b off vs el us h0 rfl hh hc hfit hrl hus).mono ?_
    rintro e w' ⟨rfl, vs', us', hh', hsz', hpre, hrl', hus', hold, hgrow, hos⟩
    refine fin w' ?_
    have r1 := hR.inplace ho1 hno hh hh' hpre hold hgrow hos
    have r2 := r1.setSlot (t := t) (av := .xslice z es') (.inr ⟨_, hv, by rw [if_pos hbt]; exact ⟨_, _, cap, rfl, hlen.symm, by rw [← hlen] at hc ⊢; exact hc, by simp, fun _ => ⟨b, off, rfl⟩, .inr ⟨b, off, rfl, ho1, hno, vs', el, us', hh', by rw [hsz']; exact hfit, hrl', hus'⟩⟩⟩)
    rw [← upd_undef]; exact r2
/-- A row of one's own is written no more: whoever has it may read it. -/
theorem Rel.freezeRow (hR : Rel cx st ver M own tmps w) {t z b off cap : Nat} {es : List AV} {vs : Array Value} {el : TypeId} {us : List Value} (hu : st.e t = .undef) (ho : own b = .box t) (hno : ∀ o, off ≤ o → M b o = none)
    (hh : w.heap[b]? = some (.cells vs el (0, 0))) (hrl : RowL M z es us) (hus : ∀ (i : Nat) u, us[i]? = some u → vs[off + i]? = some u) (hc : es.length ≤ cap) :
    ∃ M' own', Mle M M' ∧ Rel cx st ver M' own' tmps w ∧ R M' (.slice z es) (.slice (some ⟨b, off, none⟩) es.length cap) := by
  let M' : Mem := fun b' o' => if b' = b ∧ off ≤ o' ∧ o' < off + us.length then us[o' - off]? else M b' o'
  have hM'o : ∀ b' o', ¬ (b' = b ∧ off ≤ o' ∧ o' < off + us.length) → M' b' o' = M b' o' := fun b' o' h => if_neg h
  have hm : Mle M M' := by
    intro b' o' u hu
    rw [hM'o]; · exact hu
    rintro ⟨rfl, h1, _⟩
    rw [hno o' h1] at hu; cases hu
  let own' : Nat → Own := upd own b .none
  have hk : ∀ b', b' ≠ b → own' b' = own b' := fun b' h => upd_other _ _ h
  have hnew : cx.w0.heap.size ≤ b := by
    rcases hR.base.own_new b (by rw [ho]; simp) with h | h
    · exact h
    · rw [ho] at h; cases h.1
  have hbase : Base cx own' M' w := by
    refine ⟨fun b' o' u hu => ?_, fun b' h => ?_, fun b' h => ?_, fun b' o' u hu => ?_, fun b' h h' => ?_, hR.base.grow, hR.base.rest⟩
    · by_cases hin : b' = b ∧ off ≤ o' ∧ o' < off + us.length
      · have e2 : M' b' o' = us[o' - off]? := if_pos hin
        rw [e2] at hu
        obtain ⟨rfl, h1, h2⟩ := hin
        rw [cell?_cells hh]
        have := hus _ _ hu
        rwa [Nat.add_sub_cancel' h1] at this
      · rw [hM'o b' o' hin] at hu; exact hR.base.mem b' o' u hu
    · have hne : b' ≠ b := by rintro rfl; exact h (by simp [own', upd])
      rw [hk b' hne] at h; exact hR.base.own_lt b' h
    · have hne : b' ≠ b := by rintro rfl; exact h (by simp [own', upd])
      rw [hk b' hne] at h ⊢; exact hR.base.own_new b' h
    · by_cases hin : b' = b ∧ off ≤ o' ∧ o' < off + us.length
      · right; rw [hin.1]; exact hnew
      · rw [hM'o b' o' hin] at hu; exact hR.base.mnew b' o' u hu
    · have hne : b' ≠ b := by omega
      rw [hk b' hne] at h'; exact hR.base.frame b' h h'
  refine ⟨M', own', hm, ?_, ?_⟩
  · exact hR.stepX t hu hbase hm (fun b' _ hx _ => by
      have hne : b' ≠ b := by rintro rfl; exact hx ho
      exact ⟨hk b' hne, rfl, fun o' => hM'o b' o' (fun h => hne h.1)⟩) (Nat.le_refl _)
  · simp only [R]
    refine ⟨_, _, cap, rfl, rfl, hc, by simp, fun _ => ⟨b, off, rfl, Rrow_of_list hm hrl (fun i u hu => ?_)⟩⟩
    have hi := (List.getElem?_eq_some_iff.1 hu).1
    show M' b (off + i) = some u
    have e2 : M' b (off + i) = us[off + i - off]? := if_pos ⟨rfl, by omega, by omega⟩
    rw [e2, Nat.add_sub_cancel_left]; exact hu

theorem sound_xcut {f : FuncId} {fn : Func} {t d : Nat} {p : Option Nat} {ats : Array TypeId} {r : AV} (hE : cx.boxed = E.boxed) (hR : Rel cx st ver M own tmps w)
    (ho : o.op = .call { callee := .value (.func f), args := #[ptrOpd t p], argTypes := ats }) (hdst : o.dst = some d) (hd : d < cx.n) (hb : cx.boxed d = false) (hbt : cx.boxed t = true) (hbp : ∀ q, p = some q → cx.boxed q = false)
    (hf : cx.P.funcs[f]? = some fn) (hn : (fn.name == "runtime.NumGoroutine") = false) (hbody : fn.body.isNone = false)
    (hok : AOp.ok cx.P r st ver (.xcut d f t p)) (hK : OpGoal cx (AOp.next r st ver (.xcut d f t p)).1 ver M ds K) : o.wp cx.P ⟨tmps, ds⟩ w K Q := by
  obtain ⟨z, es, es', he, hp, rfl, hlen, hin⟩ := hok
  obtain ⟨v, hv, hbx, hev⟩ := hR.xptr (ds := ds) hbt he hbp hp
  obtain ⟨a, len, cap, rfl, rfl, hc, hn0, hs0, hrow⟩ := hbx
  have hrun : (execOp (Act.eval ⟨tmps, ds⟩) o).run cx.P w = .ok (.enter f #[.slice a es.length cap]) w := by
    have hn' : fn.name ≠ "runtime.NumGoroutine" := by simpa using hn
    have hb' : fn.body ≠ none := by intro h; rw [h] at hbody; cases hbody
    have hF : Act.eval ⟨tmps, ds⟩ (.func f) = .func (.func f) #[] #[] := rfl
    simp [execOp, ho, resolve, hF, Deferred.ofValue, invoke, callFunc, hf, hn', hb', hev]
  simp only [Oper.wp, hrun, Oper.upon]
  obtain ⟨c1, c2⟩ := hin M w a cap hR.base.mem
  by_cases h0 : es = []
  · subst h0
    have h0' : es' = [] := List.eq_nil_of_length_eq_zero (by simpa using hlen)
    subst h0'
    refine (c1 rfl).mono ?_
    rintro e w' ⟨rfl, rfl⟩
    simp only [put_some hdst]
    refine hK M own _ w' (Mle.refl M) ((hR.forget t).put_RV hd hb (RV_of_R ?_))
    simp only [R]
    refine ⟨a, 0, cap, rfl, rfl, Nat.zero_le _, hn0, fun h => ?_⟩
    obtain ⟨b, off, rfl⟩ := hs0 (fun e => h (hn0 e))
    exact ⟨b, off, rfl, by simp [Rrow]⟩
  · obtain ⟨b, off, rfl, ho1, hno, vs, el, us, hh, hfit, hrl, hus⟩ := hrow.resolve_left h0
    refine (c2 b off vs el us h0 rfl hh hc hfit hrl hus).mono ?_
    rintro e w' ⟨rfl, vs', us', hh', hsz', hpre, hrl', hus', hold, hgrow, hos⟩
    simp only [put_some hdst]
    have r1 := hR.inplace ho1 hno hh hh' hpre hold hgrow hos
    obtain ⟨M', own', hm, r2, hr⟩ := r1.freezeRow (by simp [upd]) ho1 hno hh' hrl' hus' (cap := cap) (by omega)
    exact hK M' own' _ w' hm (r2.put_RV hd hb (RV_of_R hr))

theorem sound_xfreeze {t d : Nat} (hR : Rel cx st ver M own tmps w) (ho : o.op = .move (.tmp t) ∨ o.op = .assign (.tmp t)) (hdst : o.dst = some d) (hd : d < cx.n) (hb : cx.boxed d = false) (hbt : cx.boxed t = true)
    (hok : AOp.ok cx.P .undef st ver (.xfreeze d t)) (hK : OpGoal cx (AOp.next .undef st ver (.xfreeze d t)).1 ver M ds K) : o.wp cx.P ⟨tmps, ds⟩ w K Q := by
  refine wp_value (run_move ho) ?_
  rw [put_some hdst]
  have he : ∃ z es, st.e t = .xslice z es := by
    simp only [AOp.ok] at hok
    cases h : st.e t <;> rw [h] at hok <;> simp [isXs] at hok
    exact ⟨_, _, rfl⟩
  obtain ⟨z, es, he⟩ := he
  obtain ⟨v, hv, hbx⟩ := hR.sbox hbt (by rw [he]; rfl)
  have hg : Act.eval ⟨tmps, ds⟩ (.tmp t) = v := by simp [Act.eval, Array.getD_eq_getD_getElem?, hv]
  rw [he] at hbx
  rw [hg]
  simp only [AOp.next, he, xsOf] at hK
  obtain ⟨a, len, cap, rfl, rfl, hc, hn0, hs0, hrow⟩ := hbx
  by_cases h0 : es = []
  · subst h0
    refine hK M own _ w (Mle.refl M) ((hR.forget t).put_RV hd hb (RV_of_R ?_))
    simp only [R]
    refine ⟨a, 0, cap, rfl, rfl, Nat.zero_le _, hn0, fun h => ?_⟩
    obtain ⟨b, off, rfl⟩ := hs0 (fun e => h (hn0 e))
    exact ⟨b, off, rfl, by simp [Rrow]⟩
  · obtain ⟨b, off, rfl, ho1, hno, vs, el, us, hh, hfit, hrl, hus⟩ := hrow.resolve_left h0
    obtain ⟨M', own', hm, r2, hr⟩ := (hR.forget t).freezeRow (by simp [upd]) ho1 hno hh hrl hus hc
    exact hK M' own' _ w hm (r2.put_RV hd hb (RV_of_R hr))
end

end Go.Proofs.YtccmaeefedgcnaaGreat
