/-
  THE ABSTRACT LAYER, PART O: a region, in the order of its text or in any order that its edges allow.
  THE ABSTRACT LAYER, PART P: a region that draws its order: whatever order is drawn, it brings about what the order of the text does.
  THE ABSTRACT LAYER, PART Q: code, and whole functions.
  THE ABSTRACT LAYER, PART R: a function's contract out of its code.
-/
import Derived.Test.YtccmaeefedgcnaaGreatPart04
set_option linter.all false

namespace Go.Proofs.YtccmaeefedgcnaaGreat

def disj (a b : List Nat) : Bool := a.all fun x => !b.contains x
theorem disj_spec {a b : List Nat} (h : disj a b = true) {t : Nat} (ht : t ∈ a) : t ∉ b := by
  simp only [disj, List.all_eq_true] at h
  have := h t ht
  simpa using this

def indep0 (x y : GOp) : Bool := disj x.writes y.reads && disj x.writes y.writes && disj y.writes x.reads

theorem commute0 {P : Program} {x y : GOp} {r q : AV} {st : St} {ver : Nat → Nat} (hi : indep0 x y = true) (hx : x.ok P r st ver) (hy : y.ok P q (x.next r st ver).1 (x.next r st ver).2) :
    y.ok P q st ver ∧ x.ok P r (y.next q st ver).1 (y.next q st ver).2 ∧
      y.next q (x.next r st ver).1 (x.next r st ver).2 = x.next r (y.next q st ver).1 (y.next q st ver).2 := by
  simp only [indep0, Bool.and_eq_true] at hi
  obtain ⟨⟨h1, h2⟩, h3⟩ := hi
  have bumpy : ∀ t, t ∉ y.op.writes → y.op.bump t = 0 := fun t ht => by
    cases hop : y.op <;> rw [hop] at ht <;> simp only [AOp.bump, AOp.writes, List.mem_cons, List.not_mem_nil, not_or, or_false] at ht ⊢
    · rw [if_neg ht]
    · rw [if_neg ht.1]
    · rw [if_neg ht]
    · rw [if_neg ht.1]
    · rw [if_neg ht.1]
  have bumpx : ∀ t, t ∉ x.op.writes → x.op.bump t = 0 := fun t ht => by
    cases hop : x.op <;> rw [hop] at ht <;> simp only [AOp.bump, AOp.writes, List.mem_cons, List.not_mem_nil, not_or, or_false] at ht ⊢
    · rw [if_neg ht]
    · rw [if_neg ht.1]
    · rw [if_neg ht]
    · rw [if_neg ht.1]
    · rw [if_neg ht.1]
  have memw : ∀ (g : GOp) t, t ∈ g.op.writes → t ∈ g.writes := fun g t ht => List.mem_append.2 (.inr ht)
  have ay : Agree y.reads (x.next r st ver).1 st (x.next r st ver).2 ver := fun t ht => by
    have hn : t ∉ x.writes := fun hm => disj_spec h1 hm ht
    refine ⟨GOp.next_other hn, ?_⟩
    rw [GOp.next_ver, bumpx t (fun hm => hn (memw x t hm))]; simp
  have ax : Agree x.reads st (y.next q st ver).1 ver (y.next q st ver).2 := fun t ht => by
    have hn : t ∉ y.writes := fun hm => disj_spec h3 hm ht
    refine ⟨(GOp.next_other hn).symm, ?_⟩
    rw [GOp.next_ver, bumpy t (fun hm => hn (memw y t hm))]; simp
  have oy := GOp.ok_agree ay hy
  refine ⟨oy, GOp.ok_agree ax hx, ?_⟩
  have hte : (y.next q (x.next r st ver).1 (x.next r st ver).2).1.e = (x.next r (y.next q st ver).1 (y.next q st ver).2).1.e := by
    funext t
    by_cases hxw : t ∈ x.writes
    · have hyw : t ∉ y.writes := fun hm => disj_spec h2 hxw hm
      rw [GOp.next_other hyw]
      exact GOp.next_agree ax (fun s hs => .inl (GOp.next_other (fun hm => disj_spec h2 hs hm)).symm) hxw
    · rw [GOp.next_other (g := x) hxw]
      by_cases hyw : t ∈ y.writes
      · exact GOp.next_agree ay (fun s hs => .inl (GOp.next_other (fun hm => disj_spec h2 hm hs))) hyw
      · rw [GOp.next_other hyw, GOp.next_other hyw, GOp.next_other hxw]
  have htv : (y.next q (x.next r st ver).1 (x.next r st ver).2).2 = (x.next r (y.next q st ver).1 (y.next q st ver).2).2 := by
    funext t
    simp only [GOp.next_ver, (GOp.test_agree ay).1, ← (GOp.test_agree ax).1]
    omega
  have hh : (y.next q (x.next r st ver).1 (x.next r st ver).2).1 = (x.next r (y.next q st ver).1 (y.next q st ver).2).1 := by
    have e1 := GOp.next_h (g := y) (r := q) (st := (x.next r st ver).1) (ver := (x.next r st ver).2)
    have e2 := GOp.next_h (g := x) (r := r) (st := st) (ver := ver)
    have e3 := GOp.next_h (g := x) (r := r) (st := (y.next q st ver).1) (ver := (y.next q st ver).2)
    have e4 := GOp.next_h (g := y) (r := q) (st := st) (ver := ver)
    generalize (y.next q (x.next r st ver).1 (x.next r st ver).2).1 = A at *
    generalize (x.next r (y.next q st ver).1 (y.next q st ver).2).1 = B at *
    obtain ⟨ae, ah, an⟩ := A
    obtain ⟨be, bh, bn⟩ := B
    simp only [St.mk.injEq] at *
    exact ⟨hte, by rw [e1.1, e2.1, e3.1, e4.1], by rw [e1.2, e2.2, e3.2, e4.2]⟩
  exact Prod.ext hh htv

/-! Two cells of one variable are taken, in either order. -/

def specOp : AOp → AOp → Bool
  | .btk d t (some p) o, .btk d' t' (some p') o' => decide (t = t' ∧ o ≠ o' ∧ d ≠ d' ∧ d ≠ t ∧ d' ≠ t ∧ p ≠ d ∧ p ≠ d' ∧ p' ≠ d ∧ p' ≠ d' ∧ p ≠ t ∧ p' ≠ t)
  | .baddr d t _, .btk d' t' (some p') _ => decide (t = t' ∧ d ≠ d' ∧ d ≠ t ∧ d' ≠ t ∧ p' ≠ d ∧ p' ≠ d' ∧ p' ≠ t)
  | .btk d' t' (some p') _, .baddr d t _ => decide (t = t' ∧ d ≠ d' ∧ d ≠ t ∧ d' ≠ t ∧ p' ≠ d ∧ p' ≠ d' ∧ p' ≠ t)
  | .mlook d t (some p) (.t s false) (.int k n) _ _ false, .mentry d' t' (some p') (.t s' false) (.int k' n') _ _ =>
    decide (t = t' ∧ s = s' ∧ k = k' ∧ n = n' ∧ d ≠ d' ∧ d ≠ t ∧ d' ≠ t ∧ p ≠ d ∧ p ≠ d' ∧ p ≠ t ∧ p' ≠ d ∧ p' ≠ d' ∧ p' ≠ t ∧ s ≠ d ∧ s ≠ d' ∧ s ≠ t)
  | _, _ => false
def spec (x y : GOp) : Bool := match x.guard, y.guard with
  | none, none => specOp x.op y.op
  | _, _ => false

theorem isAgg_eq {v : AV} (h : isAgg' v = true) : ∃ cs, v = .agg cs := by
  cases v <;> simp [isAgg'] at h
  exact ⟨_, rfl⟩

theorem st_ext {a b : St} (he : a.e = b.e) (hh : a.h = b.h) (hn : a.nx = b.nx) : a = b := by
  cases a; cases b; simp_all

theorem ptr_same {st st' : St} {ver : Nat → Nat} {t p : Nat} (h : st'.e p = st.e p) : ptrOff st' ver t (some p) = ptrOff st ver t (some p) := by simp only [ptrOff]; rw [h]

theorem eqCells_refl : ∀ {sh a : List AV}, fitsSh sh a = true → eqCells a a = true
  | [], [], _ => rfl
  | [], _ :: _, h => by simp [fitsSh] at h
  | _ :: _, [], h => by simp [fitsSh] at h
  | s :: sh, x :: a, h => by
    simp only [fitsSh, Bool.and_eq_true] at h
    simp only [eqCells, eqCells_refl h.2, Bool.and_true]
    have h1 := h.1
    cases s <;> cases x <;> simp [sameSh] at h1 <;> simp [cellEq]
theorem keyIdx_snoc {k : AV} (hk : eqCells k.cells k.cells = true) : ∀ {ks : List AV}, keyIdx k ks = none → keyIdx k (ks ++ [k]) = some ks.length
  | [], _ => by simp [keyIdx, hk]
  | k' :: ks, h => by
    simp only [keyIdx] at h
    split at h
    · cases h
    · rename_i hc
      simp only [Option.map_eq_none_iff] at h
      simp only [List.cons_append, keyIdx]
      rw [if_neg hc, keyIdx_snoc hk h]; simp
theorem enter_map {m k z : AV} (hm : isMap m = true) : isMap (mapEnter m k z).2 = true := by
  unfold mapEnter; split
  · exact hm
  · cases m <;> simp [isMap] at hm
    simp [isMap, mapOf, hm]
theorem enter_keyOk {sh : List AV} {ag : Bool} {m k z : AV} (h : keyOk sh ag k m = true) : keyOk sh ag k (mapEnter m k z).2 = true := by
  unfold mapEnter; split
  · exact h
  · simp only [keyOk, mapOf, Bool.and_eq_true, List.all_append, List.all_cons, List.all_nil] at h ⊢
    exact ⟨h.1, h.2, h.1, trivial⟩
theorem enter_look {sh : List AV} {ag : Bool} {m k z : AV} (h : keyOk sh ag k m = true) (hv : (mapOf m).1.length = (mapOf m).2.1.length) : (mapLook (mapEnter m k z).2 k z).1 = (mapLook m k z).1 := by
  simp only [keyOk, keyFit, Bool.and_eq_true] at h
  have hr := eqCells_refl h.1.1
  clear h
  unfold mapEnter
  cases hi : keyIdx k (mapOf m).1 with
  | some i => rfl
  | none =>
    have e : mapOf (AV.omap ((mapOf m).1 ++ [k]) ((mapOf m).2.1 ++ [z]) ((mapOf m).2.2.1 ++ [(mapOf m).2.2.2]) ((mapOf m).2.2.2 + 1)) = ((mapOf m).1 ++ [k], (mapOf m).2.1 ++ [z], (mapOf m).2.2.1 ++ [(mapOf m).2.2.2], (mapOf m).2.2.2 + 1) := rfl
    show (mapLook (AV.omap ((mapOf m).1 ++ [k]) ((mapOf m).2.1 ++ [z]) ((mapOf m).2.2.1 ++ [(mapOf m).2.2.2]) ((mapOf m).2.2.2 + 1)) k z).1 = _
    unfold mapLook
    rw [e, hi]
    generalize mapOf m = q at *
    obtain ⟨ks, vs, bs, clk⟩ := q
    simp only at hi hv ⊢
    rw [keyIdx_snoc hr hi, hv]
    simp [List.getD]

theorem commute_op {P : Program} {a b : AOp} {r q : AV} {st : St} {ver : Nat → Nat} (hi : specOp a b = true) (hx : a.ok P r st ver) (hy : b.ok P q (a.next r st ver).1 (a.next r st ver).2) :
    b.ok P q st ver ∧ a.ok P r (b.next q st ver).1 (b.next q st ver).2 ∧ b.next q (a.next r st ver).1 (a.next r st ver).2 = a.next r (b.next q st ver).1 (b.next q st ver).2 := by
  unfold specOp at hi
  split at hi
  · rename_i d t p o d' t' p' o'
    simp only [decide_eq_true_eq] at hi
    obtain ⟨rfl, ho, h1, h2, h3, h4, h5, h6, h7, h8, h9⟩ := hi
    obtain ⟨x1, x2, x3⟩ := hx
    obtain ⟨cs, hcs⟩ := isAgg_eq x1
    obtain ⟨y1, y2, y3⟩ := hy
    simp only [AOp.next] at y1 y2 y3 ⊢
    rw [ptr_same (st := st) (by simp [put, upd, h6, h9])] at y2
    have e1 : ∀ (u v : AV), (put (put st t u) d v).e t = u := fun u v => by simp [put, upd, Ne.symm h2]
    have e2 : ∀ (u v : AV), (put (put st t u) d' v).e t = u := fun u v => by simp [put, upd, Ne.symm h3]
    rw [e1] at y3
    rw [hcs] at x3 y3 ⊢
    simp only [AV.ofCells, AV.cells, List.length_set] at x3 y3 ⊢
    refine ⟨⟨by rw [hcs]; rfl, y2, by rw [hcs]; exact y3⟩, ⟨by rw [e2]; rfl, by rw [ptr_same (st := st) (by simp [put, upd, h5, h8])]; exact x2, by rw [e2]; simpa [AV.cells] using x3⟩, ?_⟩
    rw [e1, e2]
    simp only [AV.cells]
    have g1 : (cs.set o (cs.getD o .undef).un1).getD o' .undef = cs.getD o' .undef := by simp [List.getD, List.getElem?_set, ho]
    have g2 : (cs.set o' (cs.getD o' .undef).un1).getD o .undef = cs.getD o .undef := by simp [List.getD, List.getElem?_set, Ne.symm ho]
    rw [g1, g2, List.set_comm _ _ ho]
    refine Prod.ext (st_ext ?_ rfl rfl) rfl
    funext j
    simp only [put, upd]
    repeat' split
    all_goals first | rfl | (exfalso; simp_all)
  · rename_i d t off d' t' p' o'
    simp only [decide_eq_true_eq] at hi
    obtain ⟨rfl, h1, h2, h3, h4, h5, h6⟩ := hi
    obtain ⟨y1, y2, y3⟩ := hy
    simp only [AOp.next] at y1 y2 y3 ⊢
    have e0 : ∀ v : AV, (put st d v).e t = st.e t := fun v => by simp [put, upd, Ne.symm h2]
    rw [ptr_same (st := st) (by simp [put, upd, h4])] at y2
    rw [e0] at y1 y3
    obtain ⟨cs, hcs⟩ := isAgg_eq y1
    have e2 : ∀ (u v : AV), (put (put st t u) d' v).e t = u := fun u v => by simp [put, upd, Ne.symm h3]
    refine ⟨⟨y1, y2, y3⟩, ?_, ?_⟩
    · simp only [AOp.ok]
      rw [e2, hcs]
      rw [hcs] at y3
      simp only [AV.ofCells, AV.cells, List.length_set] at y3 ⊢
      exact ⟨(by intro e; cases e), by omega⟩
    · rw [e0]
      refine Prod.ext (st_ext ?_ rfl rfl) rfl
      funext j
      simp only [put, upd]
      repeat' split
      all_goals first | rfl | (exfalso; simp_all)
  · rename_i d' t' p' o' d t off
    simp only [decide_eq_true_eq] at hi
    obtain ⟨rfl, h1, h2, h3, h4, h5, h6⟩ := hi
    obtain ⟨x1, x2, x3⟩ := hx
    obtain ⟨cs, hcs⟩ := isAgg_eq x1
    have e0 : ∀ v : AV, (put st d v).e t = st.e t := fun v => by simp [put, upd, Ne.symm h2]
    refine ⟨?_, ⟨?_, ?_, ?_⟩, ?_⟩
    · simp only [AOp.ok]; rw [hcs] at x3 ⊢; simp only [AV.cells] at x3 ⊢; exact ⟨(by intro e; cases e), by omega⟩
    · simp only [AOp.next]; rw [e0]; exact x1
    · simp only [AOp.next]; rw [ptr_same (st := st) (by simp [put, upd, h4])]; exact x2
    · simp only [AOp.next]; rw [e0]; exact x3
    · simp only [AOp.next]
      rw [e0]
      refine Prod.ext (st_ext ?_ rfl rfl) rfl
      funext j
      simp only [put, upd]
      repeat' split
      all_goals first | rfl | (exfalso; simp_all)
  · rename_i d t p s k n sh ag d' t' p' s' k' n' sh' ag'
    simp only [decide_eq_true_eq] at hi
    obtain ⟨rfl, rfl, rfl, rfl, h1, h2, h3, h4, h5, h6, h7, h8, h9, h10, h11, h12⟩ := hi
    obtain ⟨x1, x2, x3⟩ := hx
    obtain ⟨y1, y2, y3⟩ := hy
    simp only [AOp.next, Opd.val] at y1 y2 y3 x3 ⊢
    have et : ∀ v : AV, (put st d v).e t = st.e t := fun v => by simp [put, upd, Ne.symm h2]
    have es : ∀ v : AV, (put st d v).e s = st.e s := fun v => by simp [put, upd, h10]
    have e2 : ∀ (u v : AV), (put (put st t u) d' v).e t = u := fun u v => by simp [put, upd, Ne.symm h3]
    have e3 : ∀ (u v : AV), (put (put st t u) d' v).e s = st.e s := fun u v => by simp [put, upd, h11, h12]
    rw [et] at y1 y3
    rw [es] at y3
    rw [ptr_same (st := st) (by simp [put, upd, h7])] at y2
    refine ⟨⟨y1, y2, y3⟩, ⟨?_, ?_, ?_⟩, ?_⟩
    · rw [e2]; exact enter_map x1
    · rw [ptr_same (st := st) (by simp [put, upd, h5, h6])]; exact x2
    · simp only [Opd.val]; rw [e2, e3]; exact enter_keyOk x3
    · rw [et, es, e2, e3]
      simp only [Bool.false_eq_true, if_false]
      rw [enter_look x3 (by cases hm : st.e t <;> rw [hm] at x1 <;> simp [isMap] at x1; simpa [mapOf] using x1)]
      refine Prod.ext (st_ext ?_ rfl rfl) rfl
      funext j
      simp only [put, upd]
      repeat' split
      all_goals first | rfl | (exfalso; simp_all)
  · cases hi

def indep (x y : GOp) : Bool := indep0 x y || spec x y

theorem commute {P : Program} {x y : GOp} {r q : AV} {st : St} {ver : Nat → Nat} (hi : indep x y = true) (hx : x.ok P r st ver) (hy : y.ok P q (x.next r st ver).1 (x.next r st ver).2) :
    y.ok P q st ver ∧ x.ok P r (y.next q st ver).1 (y.next q st ver).2 ∧
      y.next q (x.next r st ver).1 (x.next r st ver).2 = x.next r (y.next q st ver).1 (y.next q st ver).2 := by
  simp only [indep, Bool.or_eq_true] at hi
  rcases hi with hi | hi
  · exact commute0 hi hx hy
  · obtain ⟨gx, dx, ox⟩ := x
    obtain ⟨gy, dy, oy⟩ := y
    cases gx <;> cases gy <;> simp only [spec] at hi <;> try (cases hi; done)
    simp only [GOp.ok, GOp.bool, GOp.test, GOp.next, true_and, if_true] at hx hy ⊢
    have := commute_op hi (hx trivial) (hy trivial)
    exact ⟨fun _ => this.1, fun _ => this.2.1, this.2.2⟩

/-- What a row of operations brings about. -/
def awpOps (P : Program) : List GOp → St → (Nat → Nat) → (St → Prop) → Prop
  | [], st, _, Q => Q st
  | g :: gs, st, ver, Q => ∃ r, g.ok P r st ver ∧ awpOps P gs (g.next r st ver).1 (g.next r st ver).2 Q

theorem awpOps_swap {P : Program} {x y : GOp} {gs : List GOp} {st : St} {ver : Nat → Nat} {Q : St → Prop} (hi : indep x y = true) (h : awpOps P (x :: y :: gs) st ver Q) : awpOps P (y :: x :: gs) st ver Q := by
  obtain ⟨r, hx, q, hy, hr⟩ := h
  obtain ⟨h1, h2, h3⟩ := commute hi hx hy
  refine ⟨q, h1, r, h2, ?_⟩
  rw [← h3]; exact hr

theorem awpOps_front {P : Program} {y : GOp} {gs : List GOp} {Q : St → Prop} : ∀ {xs : List GOp} {st : St} {ver : Nat → Nat}, (∀ x ∈ xs, indep x y = true) →
    awpOps P (xs ++ y :: gs) st ver Q → awpOps P (y :: (xs ++ gs)) st ver Q
  | [], _, _, _, h => h
  | x :: xs, st, ver, hi, h => by
    obtain ⟨r, hx, hr⟩ := h
    have := awpOps_front (xs := xs) (fun z hz => hi z (by simp [hz])) hr
    exact awpOps_swap (hi x (by simp)) ⟨r, hx, this⟩

theorem awpOps_mono {P : Program} {Q Q' : St → Prop} (hq : ∀ st, Q st → Q' st) : ∀ {gs : List GOp} {st : St} {ver : Nat → Nat}, awpOps P gs st ver Q → awpOps P gs st ver Q'
  | [], _, _, h => hq _ h
  | _ :: _, _, _, ⟨r, ho, h⟩ => ⟨r, ho, awpOps_mono hq h⟩

/-- One operation of a region, compiled. -/
structure GC (E : CE) (ops : Array Oper) (o : Oper) (g : GOp) : Prop where
  op : cOp E o = some g.op
  dst : g.dst = o.dst
  guard : match o.guard with
    | none => g.guard = none
    | some (j, want) => ∃ t, g.guard = some (t, want) ∧ ((ops[j]?).bind (·.dst)) = some t ∧ E.boxed t = false ∧ (o.dst = none ∨ ∃ d, pd E o.dst = some d)

theorem GC.sound {cx : Cx} {E : CE} {st : St} {ver : Nat → Nat} {M : Mem} {own : Nat → Own} {tmps : Array Value} {w : World} {ds : List Deferred} {ops : Array Oper}
    {o : Oper} {g : GOp} {K : Act → World → Prop} {Q : Exit → Act → World → Prop} {r : AV} (hx : CxE cx E) (hg : GC E ops o g) (hR : Rel cx st ver M own tmps w) (hok : g.ok cx.P r st ver)
    (hK : OpGoal cx (g.next r st ver).1 (g.next r st ver).2 M ds K) :
    (if Region.wanted o (yielded ops tmps) then o.wp cx.P ⟨tmps, ds⟩ w K Q ∨ (o.asks cx.P ⟨tmps, ds⟩ w ∧ LetsOut Q) else K (Act.put ⟨tmps, ds⟩ o.dst undef) w) := by
  obtain ⟨h1, h2, h3⟩ := hg
  cases hgd : o.guard with
  | none =>
    rw [hgd] at h3
    simp only at h3
    have ht : g.test st = true := by simp [GOp.test, h3]
    rw [if_pos (by simp [Region.wanted, hgd])]
    refine .inl (cOp_sound hx h1 hR (hok.2 ht) ?_)
    have : g.next r st ver = g.op.next r st ver := by simp [GOp.next, ht]
    rw [this] at hK; exact hK
  | some jw =>
    obtain ⟨j, want⟩ := jw
    rw [hgd] at h3
    simp only at h3
    obtain ⟨t, h4, h5, h6, h7⟩ := h3
    have hb := hok.1
    simp only [GOp.bool, h4] at hb
    have key : ∃ a, gtest (st.e t) want = some a ∧ (yielded ops tmps j == some want) = a := by
      rcases he : st.e t with _ | _ | b | _ | _ | _ | _ | _ | _ | _ | _ | _ | _ | _ | _ <;> rw [he] at hb <;> (try (simp [gtest] at hb; done))
      · have hr := hR.read (s := t) (by rw [hx.boxed]; exact h6) (by rw [he]; rfl)
        rw [he] at hr
        simp only [AV.un, AV.un1, R] at hr
        have htm : tmps[t]? = some (.bool b) := by
          cases hv : tmps[t]? with
          | none => simp [Array.getD_eq_getD_getElem?, hv, undef] at hr
          | some v => simp [Array.getD_eq_getD_getElem?, hv] at hr; rw [hr]
        refine ⟨_, rfl, ?_⟩
        simp [yielded, h5, htm]
      · refine ⟨false, rfl, ?_⟩
        rcases hR.slot t with h0 | ⟨v, hv, hr⟩
        · rw [he] at h0; cases h0
        · rw [if_neg (by rw [hx.boxed, h6]; simp), he] at hr
          simp only [RV, RO, R] at hr
          subst hr
          simp [yielded, h5, hv, undef]
    obtain ⟨b, hgt, hy⟩ := key
    have hw : Region.wanted o (yielded ops tmps) = b := by simp only [Region.wanted, hgd]; exact hy
    have ht : g.test st = b := by simp [GOp.test, h4, hgt]
    rw [hw]
    cases hbw : b with
    | true =>
      rw [hbw] at ht
      simp only [if_true]
      refine .inl (cOp_sound hx h1 hR (hok.2 ht) ?_)
      have : g.next r st ver = g.op.next r st ver := by simp [GOp.next, ht]
      rw [this] at hK; exact hK
    | false =>
      rw [hbw] at ht
      simp only [Bool.false_eq_true, if_false]
      have : g.next r st ver = (g.skip st, ver) := by simp [GOp.next, ht]
      rw [this] at hK
      simp only at hK
      rcases h7 with h7 | ⟨d, h7⟩
      · have : g.skip st = st := by simp [GOp.skip, h2, h7]
        rw [this] at hK
        rw [h7]
        exact hK M own tmps w (Mle.refl M) hR
      · obtain ⟨e1, e2, e3⟩ := pd_spec h7
        have : g.skip st = put st d .dead := by simp [GOp.skip, h2, e1]
        rw [this] at hK
        rw [e1]
        exact hK M own _ w (Mle.refl M) (hR.put_RV (by rw [hx.n]; exact e2) (by rw [hx.boxed]; exact e3) (by simp [RV, RO, R]))

/-- All operations of a region, compiled. -/
def RC (E : CE) (ops : Array Oper) (gs : List GOp) : Prop := ops.size = gs.length ∧ ∀ (i : Nat) o g, ops[i]? = some o → gs[i]? = some g → GC E ops o g

section
variable {cx : Cx} {E : CE} {ops : Array Oper} {gs : List GOp} {ds : List Deferred} {Q : Exit → Act → World → Prop} {QS : St → Prop}

/-- The operations of a region that are numbered by l, one after the other. -/
theorem wpOps_list (hx : CxE cx E) (hr : RC E ops gs) : ∀ (l : List Nat) {st : St} {ver : Nat → Nat} {M : Mem} {own : Nat → Own} {tmps : Array Value} {w : World}, (∀ i ∈ l, i < gs.length) →
    Rel cx st ver M own tmps w → awpOps cx.P (l.filterMap (gs[·]?)) st ver QS →
    (∀ st ver M' own tmps w, Mle M M' → Rel cx st ver M' own tmps w → QS st → Q .normal ⟨tmps, ds⟩ w) → wpOps cx.P ops Q l ⟨tmps, ds⟩ w
  | [], st, ver, M, own, tmps, w, _, hR, h, hQ => hQ _ _ _ _ _ _ (Mle.refl M) hR h
  | i :: l, st, ver, M, own, tmps, w, hl, hR, h, hQ => by
    have hi : i < gs.length := hl i (by simp)
    have hg : gs[i]? = some gs[i] := List.getElem?_eq_getElem hi
    have ho : ops[i]? = some (ops[i]'(by rw [hr.1]; exact hi)) := Array.getElem?_eq_getElem _
    rw [List.filterMap_cons_some hg] at h
    obtain ⟨r, hok, h⟩ := h
    simp only [wpOps, ho]
    refine GC.sound hx (hr.2 i _ _ ho hg) hR hok ?_
    intro M' own' tmps' w' hm hR'
    exact wpOps_list hx hr l (fun j hj => hl j (by simp [hj])) hR' h (fun st ver M'' own tmps w hm' => hQ st ver M'' own tmps w (hm.trans hm'))

end

end Go.Proofs.YtccmaeefedgcnaaGreat

namespace Go.Proofs.YtccmaeefedgcnaaGreat

def reachB (ops : Array Oper) : Nat → Nat → Nat → Bool
  | 0, _, _ => false
  | f + 1, i, j => match ops[j]? with
    | some o => o.after.toList.any fun e => Region.binds .any e && (e.on == i || reachB ops f i e.on)
    | none => false

/-- Two operations that no chain of edges orders do not touch each other; edges lead back. -/
def chkOrder (ops : Array Oper) (gs : List GOp) : Bool :=
  (List.range gs.length).all fun j =>
    (match ops[j]? with
      | some o => o.after.toList.all fun e => !Region.binds .any e || decide (e.on < j)
      | none => false) &&
    (List.range j).all fun i => reachB ops gs.length i j || match gs[i]?, gs[j]? with
      | some x, some y => indep x y
      | _, _ => false

section
variable {ops : Array Oper} {gs : List GOp}

def Listed (listed : Array Bool) (i : Nat) : Prop := listed.getD i false = true
def Closed (ops : Array Oper) (listed : Array Bool) : Prop := ∀ (k : Nat) o, ops[k]? = some o → Listed listed k → ∀ e ∈ o.after.toList, Region.binds .any e = true → Listed listed e.on

theorem reach_listed {listed : Array Bool} (hc : Closed ops listed) : ∀ (f i j : Nat) o, ops[j]? = some o → (∀ e ∈ o.after.toList, Region.binds .any e = true → Listed listed e.on) → reachB ops f i j = true → Listed listed i
  | 0, _, _, _, _, _, h => by simp [reachB] at h
  | f + 1, i, j, o, ho, hl, h => by
    simp only [reachB, ho, List.any_eq_true, Bool.and_eq_true, Bool.or_eq_true, beq_iff_eq] at h
    obtain ⟨e, he, hb, h | h⟩ := h
    · rw [← h]; exact hl e he hb
    · cases ho' : ops[e.on]? with
      | none => cases f with
        | zero => simp [reachB] at h
        | succ f => simp [reachB, ho'] at h
      | some o' => exact reach_listed hc f i e.on o' ho' (hc e.on o' ho' (hl e he hb)) h

theorem chkOrder_edges (h : chkOrder ops gs = true) {j : Nat} {o : Oper} (hj : j < gs.length) (ho : ops[j]? = some o) : ∀ e ∈ o.after.toList, Region.binds .any e = true → e.on < j := by
  simp only [chkOrder, List.all_eq_true, List.mem_range, Bool.and_eq_true] at h
  have := (h j hj).1
  rw [ho] at this
  simp only [List.all_eq_true, Bool.or_eq_true, Bool.not_eq_true', decide_eq_true_eq] at this
  exact fun e he hb => (this e he).resolve_left (by rw [hb]; simp)

theorem chkOrder_pair (h : chkOrder ops gs = true) {i j : Nat} {x y : GOp} (hij : i < j) (hx : gs[i]? = some x) (hy : gs[j]? = some y) : reachB ops gs.length i j = true ∨ indep x y = true := by
  simp only [chkOrder, List.all_eq_true, List.mem_range, Bool.and_eq_true] at h
  have hj : j < gs.length := (List.getElem?_eq_some_iff.1 hy).1
  have := (h j hj).2 i hij
  rw [hx, hy] at this
  simpa using this

def remOf (n : Nat) (listed : Array Bool) : List Nat := (List.range n).filter fun i => !listed.getD i true

theorem go_spec {P : Program} {QS : St → Prop} (hch : chkOrder ops gs = true) (hsz : ops.size = gs.length) : ∀ (fuel t : Nat) (listed : Array Bool) (acc : List Nat), listed.size = gs.length → Closed ops listed → (remOf gs.length listed).length ≤ fuel →
    ∃ l : List Nat, Region.linearise.go .any ops fuel t listed acc = acc.reverse ++ l ∧ (∀ i ∈ l, i < gs.length) ∧
      ∀ st ver, awpOps P ((remOf gs.length listed).filterMap (gs[·]?)) st ver QS → awpOps P (l.filterMap (gs[·]?)) st ver QS := by
  intro fuel
  induction fuel with
  | zero =>
    intro t listed acc _ _ hf
    have : remOf gs.length listed = [] := List.eq_nil_of_length_eq_zero (by omega)
    exact ⟨[], by simp [Region.linearise.go], by simp, fun st ver h => by rw [this] at h; exact h⟩
  | succ fuel ih =>
    intro t listed acc hls hcl hf
    unfold Region.linearise.go
    rw [hsz]
    generalize hrs : ((List.range gs.length).filter fun i => !listed.getD i true && ((ops[i]?).map (·.after.all fun e => !Region.binds .any e || listed.getD e.on false)).getD false) = rs
    have hmem : ∀ i, i ∈ rs ↔ i < gs.length ∧ listed.getD i true = false ∧ ∃ o, ops[i]? = some o ∧ ∀ e ∈ o.after.toList, Region.binds .any e = true → Listed listed e.on := by
      intro i
      rw [← hrs]
      simp only [List.mem_filter, List.mem_range, Bool.and_eq_true, Bool.not_eq_true']
      constructor
      · rintro ⟨h1, h2, h3⟩
        refine ⟨h1, h2, ?_⟩
        cases ho : ops[i]? with
        | none => simp [ho] at h3
        | some o =>
          refine ⟨o, rfl, fun e he hb => ?_⟩
          simp only [ho, Option.map_some, Option.getD_some, Array.all_eq_true'] at h3
          have := h3 e (by simpa using he)
          simpa [hb, Listed] using this
      · rintro ⟨h1, h2, o, ho, h3⟩
        refine ⟨h1, h2, ?_⟩
        simp only [ho, Option.map_some, Option.getD_some, Array.all_eq_true']
        intro e he
        by_cases hb : Region.binds .any e = true
        · have := h3 e (by simpa using he) hb
          simp only [Listed] at this
          simp [this]
        · simp [hb]
    dsimp only
    cases hi : rs[t % rs.length]? with
    | none =>
      have hrs0 : rs = [] := by
        cases rs with
        | nil => rfl
        | cons a as => have := Nat.mod_lt t (show 0 < (a :: as).length by simp); rw [List.getElem?_eq_none_iff] at hi; omega
      have hrem : remOf gs.length listed = [] := by
        cases hr : remOf gs.length listed with
        | nil => rfl
        | cons j js =>
          exfalso
          have hjm : j ∈ remOf gs.length listed := by rw [hr]; simp
          simp only [remOf, List.mem_filter, List.mem_range, Bool.not_eq_true'] at hjm
          have hfirst : ∀ k, k < j → Listed listed k := by
            intro k hk
            by_cases hkl : listed.getD k true = false
            · have hkm : k ∈ remOf gs.length listed := by
                simp only [remOf, List.mem_filter, List.mem_range, Bool.not_eq_true']; exact ⟨by omega, hkl⟩
              have hp : (remOf gs.length listed).Pairwise (· < ·) := List.Pairwise.filter _ List.pairwise_lt_range
              rw [hr] at hp hkm
              rcases List.mem_cons.1 hkm with h | h
              · omega
              · have := (List.pairwise_cons.1 hp).1 k h; omega
            · have hlt : k < listed.size := by omega
              simp only [Listed, Array.getD_eq_getD_getElem?, Array.getElem?_eq_getElem hlt, Option.getD_some] at hkl ⊢
              simpa using hkl
          have hjo : ops[j]? = some (ops[j]'(by omega)) := Array.getElem?_eq_getElem _
          have : j ∈ rs := (hmem j).2 ⟨hjm.1, hjm.2, _, hjo, fun e he hb => hfirst e.on (chkOrder_edges hch hjm.1 hjo e he hb)⟩
          rw [hrs0] at this; cases this
      exact ⟨[], by simp, by simp, fun st ver h => by rw [hrem] at h; exact h⟩
    | some i =>
      have him : i ∈ rs := List.mem_of_getElem? hi
      obtain ⟨h1, h2, o, ho, h3⟩ := (hmem i).1 him
      have hils : i < listed.size := by omega
      have hcl' : Closed ops (listed.setIfInBounds i true) := by
        intro k o' ho' hk e he hb
        have hmono : ∀ m, Listed listed m → Listed (listed.setIfInBounds i true) m := by
          intro m hm
          simp only [Listed, Array.getD_eq_getD_getElem?, Array.getElem?_setIfInBounds] at hm ⊢
          split
          · simp
          · exact hm
        by_cases hki : k = i
        · subst hki; rw [ho] at ho'; cases ho'; exact hmono _ (h3 e he hb)
        · refine hmono _ (hcl k o' ho' ?_ e he hb)
          simp only [Listed, Array.getD_eq_getD_getElem?, Array.getElem?_setIfInBounds] at hk ⊢
          rwa [if_neg (fun e => hki e.symm)] at hk
      have hirem : i ∈ remOf gs.length listed := by simp only [remOf, List.mem_filter, List.mem_range, Bool.not_eq_true']; exact ⟨h1, h2⟩
      obtain ⟨T1, T2, hT⟩ := List.append_of_mem hirem
      have hp : (remOf gs.length listed).Pairwise (· < ·) := List.Pairwise.filter _ List.pairwise_lt_range
      rw [hT] at hp
      have hp1 : ∀ j ∈ T1, j < i := fun j hj => (List.pairwise_append.1 hp).2.2 j hj i (by simp)
      have hp2 : ∀ j ∈ T2, i < j := fun j hj => (List.pairwise_cons.1 (List.pairwise_append.1 hp).2.1).1 j hj
      have hrem' : remOf gs.length (listed.setIfInBounds i true) = T1 ++ T2 := by
        have e1 : remOf gs.length (listed.setIfInBounds i true) = (remOf gs.length listed).filter (fun k => k != i) := by
          simp only [remOf, List.filter_filter]
          apply List.filter_congr
          intro k hk
          simp only [Array.getD_eq_getD_getElem?, Array.getElem?_setIfInBounds]
          by_cases hki : i = k
          · subst hki; simp [hils]
          · have : (k != i) = true := by simp; omega
            simp [hki, this]
        rw [e1, hT, List.filter_append, List.filter_cons]
        have f1 : T1.filter (fun k => k != i) = T1 := List.filter_eq_self.2 (fun k hk => by have := hp1 k hk; simp; omega)
        have f2 : T2.filter (fun k => k != i) = T2 := List.filter_eq_self.2 (fun k hk => by have := hp2 k hk; simp; omega)
        simp [f1, f2]
      have hlen : (remOf gs.length (listed.setIfInBounds i true)).length ≤ fuel := by
        rw [hrem']; rw [hT] at hf; simp at hf ⊢; omega
      obtain ⟨l, e1, e2, e3⟩ := ih (t / rs.length) (listed.setIfInBounds i true) (i :: acc) (by simpa using hls) hcl' hlen
      refine ⟨i :: l, ?_, ?_, ?_⟩
      · simp only [e1, List.reverse_cons, List.append_assoc, List.singleton_append]
      · intro k hk; rcases List.mem_cons.1 hk with h | h
        · omega
        · exact e2 k h
      · intro st ver h
        rw [hT, List.filterMap_append] at h
        have hgi : gs[i]? = some gs[i] := List.getElem?_eq_getElem h1
        rw [List.filterMap_cons_some hgi] at h
        have hind : ∀ x ∈ T1.filterMap (gs[·]?), indep x gs[i] = true := by
          intro x hx
          obtain ⟨j, hj, hxj⟩ := List.mem_filterMap.1 hx
          have hji := hp1 j hj
          rcases chkOrder_pair hch hji hxj hgi with hr | hr
          · exfalso
            have hl := reach_listed hcl _ j i o ho h3 hr
            have hjr : j ∈ remOf gs.length listed := by rw [hT]; simp [hj]
            simp only [remOf, List.mem_filter, List.mem_range, Bool.not_eq_true'] at hjr
            have hjs : j < listed.size := by omega
            simp only [Listed, Array.getD_eq_getD_getElem?, Array.getElem?_eq_getElem hjs, Option.getD_some] at hl hjr
            rw [hl] at hjr; cases hjr.2
          · exact hr
        have hfr := awpOps_front hind h
        rw [List.filterMap_cons_some hgi]
        obtain ⟨r, hok, hrest⟩ := hfr
        refine ⟨r, hok, e3 _ _ ?_⟩
        rw [hrem', List.filterMap_append]; exact hrest
end

/-- A region, compiled: its operations, and, where it draws, that the order is free. -/
def RegC (E : CE) (ops : Array Oper) (draw : Bool) (gs : List GOp) : Prop := RC E ops gs ∧ (draw = true → chkOrder ops gs = true)

theorem filterMap_range : ∀ gs : List GOp, (List.range gs.length).filterMap (gs[·]?) = gs
  | [] => rfl
  | g :: gs => by
    rw [List.length_cons, List.range_succ_eq_map, List.filterMap_cons_some (by simp : (g :: gs)[0]? = some g), List.filterMap_map]
    congr 1
    have := filterMap_range gs
    show (List.range gs.length).filterMap (fun i => (g :: gs)[i + 1]?) = gs
    simpa using this

theorem remOf_start (n : Nat) : remOf n (Array.replicate n false) = List.range n := by
  unfold remOf
  refine List.filter_eq_self.2 (fun i hi => ?_)
  simp only [List.mem_range] at hi
  simp [Array.getD_eq_getD_getElem?, hi]

theorem closed_start (ops : Array Oper) (n : Nat) : Closed ops (Array.replicate n false) := by
  intro k o _ hk
  exfalso
  simp only [Listed, Array.getD_eq_getD_getElem?, Array.getElem?_replicate] at hk
  split at hk <;> simp at hk

theorem region_sound {cx : Cx} {E : CE} {ops : Array Oper} {gs : List GOp} {ds : List Deferred} {Q : Exit → Act → World → Prop} {QS : St → Prop} {draw : Bool} {id : Nat} (hx : CxE cx E) (hmix : cx.P.follows .mixedOrders = true) (hr : RegC E ops draw gs)
    {st : St} {ver : Nat → Nat} {M : Mem} {own : Nat → Own} {tmps : Array Value} {w : World} (hR : Rel cx st ver M own tmps w) (h : awpOps cx.P gs st ver QS)
    (hQ : ∀ st ver M' own tmps w, Mle M M' → Rel cx st ver M' own tmps w → QS st → Q .normal ⟨tmps, ds⟩ w) : (Code.region id ops draw).wp cx.P Q ⟨tmps, ds⟩ w := by
  obtain ⟨hrc, hch⟩ := hr
  cases draw with
  | false =>
    refine wp_region ?_
    refine wpOps_list hx hrc _ (fun i hi => by rw [← hrc.1]; simpa using hi) hR ?_ hQ
    rw [hrc.1, filterMap_range]; exact h
  | true =>
    have hch := hch rfl
    refine wp_region_draw (fun t => ?_)
    have hsched : Region.schedule (cx.P.follows .mixedOrders) ops t = Region.linearise .any ops t := by
      simp [Region.schedule, hmix]
    rw [hsched]
    obtain ⟨l, e1, e2, e3⟩ := go_spec (P := cx.P) (QS := QS) hch hrc.1 ops.size t (Array.replicate ops.size false) [] (by simp [hrc.1]) (closed_start ops _) (by rw [hrc.1, remOf_start]; simp)
    unfold Region.linearise
    rw [e1]
    refine wpOps_list hx hrc _ (by simpa using e2) (hR.drawn _) ?_ hQ
    simp only [List.reverse_nil, List.nil_append]
    refine e3 st ver ?_
    rw [hrc.1, remOf_start, filterMap_range]; exact h

end Go.Proofs.YtccmaeefedgcnaaGreat

namespace Go.Proofs.YtccmaeefedgcnaaGreat

inductive ACode where
  | skip
  | reg (gs : List GOp) (outs : List Nat)
  | seq (a b : ACode)
  | cond (c : Opd) (a b : ACode)
  | block (id : Nat) (a : ACode)
  | loop (a : ACode)
  | exit (id : Nat)
  | ret

def AV.noB : AV → AV
  | .bptr .. => .undef
  | v => v

def St.sets (st : St) : List (Nat × AV) → St
  | [] => st
  | (t, v) :: l => put (st.sets l) t v

def fin (st st' : St) (outs : List Nat) : St := st.sets (outs.map fun t => (t, (st'.e t).noB))

def AExit.then (next : St → Prop) (Q : Exit → St → Prop) : Exit → St → Prop
  | .normal, s => next s
  | e, s => Q e s
def AExit.inBlock (id : Nat) (Q : Exit → St → Prop) : Exit → St → Prop
  | .exit i, s => if i = id then Q .normal s else Q (.exit i) s
  | e, s => Q e s

/-- A group of operations under one guard: the guard's slot, the answer that is wanted, the answer, and the state where the group is passed by. -/
structure Md where
  t : Nat
  w : Bool
  a : Bool
  sF : St
  vF : Nat → Nat

def joinS : Option Md → St → St
  | none, st => st
  | some m, st => if m.a = true then st else m.sF
def joinV : Option Md → (Nat → Nat) → (Nat → Nat)
  | none, ver => ver
  | some m, ver => if m.a = true then ver else m.vF

/-- What a row of operations brings about, group by group. -/
def awpS (P : Program) : List GOp → Option Md → St → (Nat → Nat) → (St → Prop) → Prop
  | [], md, st, _, Q => Q (joinS md st)
  | ⟨none, _, op⟩ :: gs, md, st, ver, Q => ∃ r, op.ok P r (joinS md st) (joinV md ver) ∧ awpS P gs none (op.next r (joinS md st) (joinV md ver)).1 (op.next r (joinS md st) (joinV md ver)).2 Q
  | ⟨some (t, w), d, op⟩ :: gs, md, st, ver, Q =>
    match md with
    | some m =>
      if m.t = t ∧ m.w = w then
        (gtest (st.e t) w = some m.a ∧ gtest (m.sF.e t) w = some m.a) ∧ ∃ r, (m.a = true → op.ok P r st ver) ∧
          awpS P gs (some ⟨t, w, m.a, GOp.skip ⟨none, d, op⟩ m.sF, m.vF⟩) (op.next r st ver).1 (op.next r st ver).2 Q
      else ∃ b, gtest ((if m.a = true then st else m.sF).e t) w = some b ∧ ∃ r, (b = true → op.ok P r (if m.a = true then st else m.sF) (if m.a = true then ver else m.vF)) ∧
          awpS P gs (some ⟨t, w, b, GOp.skip ⟨none, d, op⟩ (if m.a = true then st else m.sF), if m.a = true then ver else m.vF⟩)
            (op.next r (if m.a = true then st else m.sF) (if m.a = true then ver else m.vF)).1 (op.next r (if m.a = true then st else m.sF) (if m.a = true then ver else m.vF)).2 Q
    | none => ∃ b, gtest (st.e t) w = some b ∧ ∃ r, (b = true → op.ok P r st ver) ∧
          awpS P gs (some ⟨t, w, b, GOp.skip ⟨none, d, op⟩ st, ver⟩) (op.next r st ver).1 (op.next r st ver).2 Q

theorem awpS_mono {P : Program} {Q Q' : St → Prop} (hq : ∀ st, Q st → Q' st) : ∀ {gs : List GOp} {md : Option Md} {st : St} {ver : Nat → Nat}, awpS P gs md st ver Q → awpS P gs md st ver Q'
  | [], _, _, _, h => hq _ h
  | ⟨none, _, _⟩ :: _, _, _, _, ⟨r, ho, h⟩ => ⟨r, ho, awpS_mono hq h⟩
  | ⟨some (t, w), d, op⟩ :: gs, md, st, ver, h => by
    cases md with
    | none => obtain ⟨b, hb, r, ho, h⟩ := h; exact ⟨b, hb, r, ho, awpS_mono hq h⟩
    | some m =>
      simp only [awpS] at h ⊢
      split at h
      · rw [if_pos ‹_›]; obtain ⟨hb, r, ho, h⟩ := h; exact ⟨hb, r, ho, awpS_mono hq h⟩
      · rw [if_neg ‹_›]; obtain ⟨b, hb, r, ho, h⟩ := h; exact ⟨b, hb, r, ho, awpS_mono hq h⟩

theorem guard_step {P : Program} {t : Nat} {w b : Bool} {d : Option Nat} {op : AOp} {gs : List GOp} {st : St} {ver : Nat → Nat} {Q : St → Prop} {r : AV} (hb : gtest (st.e t) w = some b) (ho : b = true → op.ok P r st ver)
    (h : awpOps P gs (joinS (some ⟨t, w, b, GOp.skip ⟨none, d, op⟩ st, ver⟩) (op.next r st ver).1) (joinV (some ⟨t, w, b, GOp.skip ⟨none, d, op⟩ st, ver⟩) (op.next r st ver).2) Q) :
    awpOps P (⟨some (t, w), d, op⟩ :: gs) st ver Q := by
  have htest : GOp.test ⟨some (t, w), d, op⟩ st = b := by simp [GOp.test, hb]
  refine ⟨r, ⟨by simp [GOp.bool, hb], fun ht => ho (by rw [htest] at ht; exact ht)⟩, ?_⟩
  simp only [GOp.next, htest]
  simp only [joinS, joinV] at h
  cases b with
  | true => simp only [if_true] at h ⊢; exact h
  | false => simp only [Bool.false_eq_true, if_false] at h ⊢; exact h

theorem awpS_ops {P : Program} {Q : St → Prop} : ∀ {gs : List GOp} {md : Option Md} {st : St} {ver : Nat → Nat}, awpS P gs md st ver Q → awpOps P gs (joinS md st) (joinV md ver) Q
  | [], _, _, _, h => h
  | ⟨none, d, op⟩ :: gs, md, st, ver, ⟨r, ho, h⟩ => ⟨r, ⟨trivial, fun _ => ho⟩, by
      have := awpS_ops h
      simpa [GOp.next, GOp.test, joinS, joinV] using this⟩
  | ⟨some (t, w), d, op⟩ :: gs, md, st, ver, h => by
    cases md with
    | none =>
      obtain ⟨b, hb, r, ho, h⟩ := h
      exact guard_step hb ho (awpS_ops h)
    | some m =>
      simp only [awpS] at h
      split at h
      · rename_i hc
        obtain ⟨⟨hb1, hb2⟩, r, ho, h⟩ := h
        have h' := awpS_ops h
        by_cases hw : m.a = true
        · have e1 : joinS (some m) st = st := by simp only [joinS]; rw [if_pos hw]
          have e2 : joinV (some m) ver = ver := by simp only [joinV]; rw [if_pos hw]
          rw [e1, e2]
          refine guard_step (r := r) (b := m.a) hb1 (fun _ => ho hw) ?_
          simp only [joinS, joinV, hw, if_true] at h' ⊢; exact h'
        · have e1 : joinS (some m) st = m.sF := by simp only [joinS]; rw [if_neg hw]
          have e2 : joinV (some m) ver = m.vF := by simp only [joinV]; rw [if_neg hw]
          rw [e1, e2]
          refine guard_step (r := r) (b := m.a) hb2 (fun hh => absurd hh hw) ?_
          simp only [joinS, joinV, hw, if_false] at h' ⊢; exact h'
      · obtain ⟨b, hb, r, ho, h⟩ := h
        exact guard_step (b := b) hb ho (awpS_ops h)

def awp (P : Program) : ACode → (Exit → St → Prop) → St → Prop
  | .skip, Q, st => Q .normal st
  | .reg gs outs, Q, st => awpS P gs none st (fun _ => 0) fun st' => Q .normal (fin st st' outs)
  | .seq a b, Q, st => awp P a (AExit.then (awp P b Q) Q) st
  | .cond c a b, Q, st => ∃ t, c.val st = .bool t ∧ (t = true → awp P a Q st) ∧ (t = false → awp P b Q st)
  | .block id a, Q, st => awp P a (AExit.inBlock id Q) st
  | .loop a, Q, st => ∀ X : St → Prop, (∀ s, awp P a (AExit.then X Q) s → X s) → X st
  | .exit id, Q, st => Q (.exit id) st
  | .ret, Q, st => Q .ret st

theorem awp_mono {P : Program} : ∀ {c : ACode} {Q Q' : Exit → St → Prop} {st : St}, (∀ e s, Q e s → Q' e s) → awp P c Q st → awp P c Q' st
  | .skip, _, _, _, hq, h => hq _ _ h
  | .reg gs outs, _, _, _, hq, h => awpS_mono (fun s hs => hq _ _ hs) h
  | .seq a b, Q, Q', st, hq, h => awp_mono (c := a) (fun e s hs => by
      cases e <;> simp only [AExit.then] at hs ⊢ <;> first | exact awp_mono hq hs | exact hq _ _ hs) h
  | .cond c a b, _, _, _, hq, ⟨t, h1, h2, h3⟩ => ⟨t, h1, fun ht => awp_mono hq (h2 ht), fun ht => awp_mono hq (h3 ht)⟩
  | .block id a, Q, Q', st, hq, h => awp_mono (c := a) (fun e s hs => by
      cases e <;> simp only [AExit.inBlock] at hs ⊢ <;> first | exact hq _ _ hs | skip
      split at hs
      · rw [if_pos ‹_›]; exact hq _ _ hs
      · rw [if_neg ‹_›]; exact hq _ _ hs) h
  | .loop a, Q, Q', st, hq, h => fun X hX => h X (fun s hs => hX s (awp_mono (c := a) (fun e s' hs' => by
      cases e <;> simp only [AExit.then] at hs' ⊢ <;> first | exact hs' | exact hq _ _ hs') hs))
  | .exit id, _, _, _, hq, h => hq _ _ h
  | .ret, _, _, _, hq, h => hq _ _ h

/-- One round more. -/
theorem awp_loop_unroll {P : Program} {a : ACode} {Q : Exit → St → Prop} {st : St} (h : awp P a (AExit.then (awp P (.loop a) Q) Q) st) : awp P (.loop a) Q st := by
  intro X hX
  refine hX st (awp_mono (fun e s hs => ?_) h)
  cases e <;> simp only [AExit.then] at hs ⊢ <;> first | exact hs X hX | exact hs

/-- A loop by a relation and a measure. -/
theorem awp_loop {P : Program} {a : ACode} {Q : Exit → St → Prop} {st : St} (I : St → Prop) (μ : St → Nat) (h0 : I st)
    (round : ∀ s, I s → awp P a (AExit.then (fun s' => I s' ∧ μ s' < μ s) Q) s) : awp P (.loop a) Q st := by
  intro X hX
  have key : ∀ n s, μ s = n → I s → X s := by
    intro n
    induction n using Nat.strongRecOn with
    | _ n ih =>
      intro s hn hI
      refine hX s (awp_mono (fun e s' hs => ?_) (round s hI))
      cases e <;> simp only [AExit.then] at hs ⊢ <;> first | exact ih _ (hn ▸ hs.2) s' rfl hs.1 | exact hs
  exact key _ st rfl h0

def cGuard (E : CE) (ops : Array Oper) (o : Oper) : Option (Option (Nat × Bool)) := match o.guard with
  | none => some none
  | some (j, want) => match (ops[j]?).bind (·.dst) with
    | some t => if E.boxed t = false ∧ (o.dst = none ∨ (pd E o.dst).isSome = true) then some (some (t, want)) else none
    | none => none

def cGOp (E : CE) (ops : Array Oper) (o : Oper) : Option GOp := do
  let g ← cGuard E ops o
  let op ← cOp E o
  some ⟨g, o.dst, op⟩

theorem cGOp_spec {E : CE} {ops : Array Oper} {o : Oper} {g : GOp} (h : cGOp E ops o = some g) : GC E ops o g := by
  simp only [cGOp, Option.bind_eq_bind, Option.bind_eq_some_iff, Option.some.injEq] at h
  obtain ⟨gd, h1, op, h2, rfl⟩ := h
  refine ⟨h2, rfl, ?_⟩
  unfold cGuard at h1
  cases hg : o.guard with
  | none => rw [hg] at h1; simp only [Option.some.injEq] at h1; exact h1.symm
  | some jw =>
    obtain ⟨j, want⟩ := jw
    rw [hg] at h1
    simp only at h1 ⊢
    split at h1
    · rename_i t ht
      split at h1
      · rename_i hc; cases h1
        refine ⟨t, rfl, ht, hc.1, hc.2.imp id ?_⟩
        intro hs; exact Option.isSome_iff_exists.1 hs
      · cases h1
    · cases h1

structure FE extends CE where
  keep : Nat → Bool

def outsOf (keep : Nat → Bool) (gs : List GOp) : List Nat := ((gs.flatMap GOp.writes).filter keep).eraseDups

def cCode (E : FE) : Code → Option ACode
  | .skip => some .skip
  | .region _ ops draw => do
    let gs ← ops.toList.mapM (cGOp E.toCE ops)
    if draw = false ∨ chkOrder ops gs = true then some (.reg gs (outsOf E.keep gs)) else none
  | .seq a b => do
    let a' ← cCode E a
    let b' ← cCode E b
    some (.seq a' b')
  | .cond c a b => do
    let c' ← cOpdC E.toCE 0 c
    let a' ← cCode E a
    let b' ← cCode E b
    some (.cond c' a' b')
  | .block id a => (cCode E a).map (.block id)
  | .loop a => (cCode E a).map .loop
  | .exit id => some (.exit id)
  | .ret => some .ret
  | _ => none

/-- Between two regions: no pointer to a variable stands in a slot, and the scratch slots are empty. -/
structure RelC (cx : Cx) (keep : Nat → Bool) (st : St) (M : Mem) (own : Nat → Own) (tmps : Array Value) (w : World) : Prop where
  rel : Rel cx st (fun _ => 0) M own tmps w
  scr : ∀ t, keep t = false → st.e t = .undef
  nob : ∀ t u off k, st.e t ≠ .bptr u off k

theorem sets_e {st : St} : ∀ {l : List Nat} {f : Nat → AV} {t : Nat}, (st.sets (l.map fun t => (t, f t))).e t = if t ∈ l then f t else st.e t
  | [], f, t => by simp [St.sets]
  | a :: l, f, t => by
    simp only [List.map_cons, St.sets, put, upd]
    by_cases h : t = a
    · subst h; simp
    · rw [if_neg h, sets_e]; simp [h]
theorem sets_h {st : St} : ∀ {l : List (Nat × AV)}, (st.sets l).h = st.h ∧ (st.sets l).nx = st.nx
  | [] => ⟨rfl, rfl⟩
  | _ :: l => sets_h (l := l)

theorem mapM_get {α β : Type} {f : α → Option β} : ∀ {l : List α} {r : List β}, l.mapM f = some r → l.length = r.length ∧ ∀ (i : Nat) a b, l[i]? = some a → r[i]? = some b → f a = some b
  | [], r, h => by simp at h; subst h; simp
  | a :: l, r, h => by
    simp only [List.mapM_cons, Option.bind_eq_bind, Option.bind_eq_some_iff, Option.pure_def, Option.some.injEq] at h
    obtain ⟨b, hb, r', hr, rfl⟩ := h
    obtain ⟨h1, h2⟩ := mapM_get hr
    refine ⟨by simp [h1], fun i x y hx hy => ?_⟩
    cases i with
    | zero => simp at hx hy; subst hx; subst hy; exact hb
    | succ i => simp at hx hy; exact h2 i x y hx hy

theorem awpOps_other {P : Program} {QS : St → Prop} : ∀ {gs : List GOp} {st : St} {ver : Nat → Nat}, awpOps P gs st ver QS →
    awpOps P gs st ver fun s => QS s ∧ (∀ t, (∀ g ∈ gs, t ∉ g.writes) → s.e t = st.e t) ∧ s.h = st.h ∧ s.nx = st.nx
  | [], st, ver, h => ⟨h, fun _ _ => rfl, rfl, rfl⟩
  | g :: gs, st, ver, ⟨r, ho, h⟩ => by
    refine ⟨r, ho, awpOps_mono (fun s hs => ?_) (awpOps_other h)⟩
    obtain ⟨h1, h2, h3, h4⟩ := hs
    obtain ⟨g1, g2⟩ := GOp.next_h (g := g) (r := r) (st := st) (ver := ver)
    refine ⟨h1, fun t ht => ?_, h3.trans g1, h4.trans g2⟩
    rw [h2 t (fun g' hg' => ht g' (by simp [hg'])), GOp.next_other (ht g (by simp))]

theorem wp_loop_lfp {P : Program} {c : Code} {Q : Exit → Act → World → Prop} (X : Act → World → Prop)
    (hX : ∀ a w, X a w → ∀ b k cs, ∃ e a' w', Q e a' w' ∧ Arrives P (lone (b.at a (.code c :: .inLoop c :: k)) cs w) b k cs e a' w') {a : Act} {w : World} (h : X a w) : (Code.loop c).wp P Q a w := by
  intro b k cs
  obtain ⟨e, a', w', hq, harr⟩ := hX a w h b k cs
  exact ⟨e, a', w', hq, .of_steps (.one step_loop) harr⟩

theorem round_arrives {P : Program} {c : Code} {Q : Exit → Act → World → Prop} {a : Act} {w : World}
    (h : c.wp P (Exit.then (fun a w => ∀ b k cs, ∃ e a' w', Q e a' w' ∧ Arrives P (lone (b.at a (.code c :: .inLoop c :: k)) cs w) b k cs e a' w') Q) a w) :
    ∀ b k cs, ∃ e a' w', Q e a' w' ∧ Arrives P (lone (b.at a (.code c :: .inLoop c :: k)) cs w) b k cs e a' w' := by
  intro b k cs
  obtain ⟨e, a₁, w₁, hq, harr⟩ := h b (.inLoop c :: k) cs
  cases e with
  | normal =>
    obtain ⟨e₂, a₂, w₂, hq₂, harr₂⟩ := hq b k cs
    exact ⟨e₂, a₂, w₂, hq₂, .of_steps (Steps.trans harr (.one step_inLoop)) harr₂⟩
  | exit id => exact ⟨_, a₁, w₁, hq, .pass (x := .inLoop c) rfl (fun _ _ => .inl (by simp)) harr⟩
  | goto l => exact ⟨_, a₁, w₁, hq, .pass (x := .inLoop c) rfl (fun _ _ => .inl (by simp)) harr⟩
  | ret => exact ⟨_, a₁, w₁, hq, .pass (x := .inLoop c) rfl (fun _ _ => .inl (by simp)) harr⟩
  | panic ch => exact ⟨_, a₁, w₁, hq, .pass (x := .inLoop c) rfl (fun _ _ => .inl (by simp)) harr⟩
  | outgrown => exact ⟨_, a₁, w₁, hq, .pass (x := .inLoop c) rfl (fun _ _ => .inl (by simp)) harr⟩

/-- The post of code over frames and worlds that a post over states stands for. -/
def Post (cx : Cx) (keep : Nat → Bool) (M : Mem) (ds : List Deferred) (Q : Exit → St → Prop) : Exit → Act → World → Prop :=
  fun e a w => a.defers = ds ∧ ∃ st M' own, Mle M M' ∧ RelC cx keep st M' own a.tmps w ∧ Q e st

theorem Post.mono {cx : Cx} {keep : Nat → Bool} {M M1 : Mem} {ds : List Deferred} {Q : Exit → St → Prop} (hm : Mle M M1) {e : Exit} {a : Act} {w : World} (h : Post cx keep M1 ds Q e a w) : Post cx keep M ds Q e a w := by
  obtain ⟨h1, st, M', own, h2, h3, h4⟩ := h
  exact ⟨h1, st, M', own, hm.trans h2, h3, h4⟩

theorem awp_sound {cx : Cx} {E : FE} (hx : CxE cx E.toCE) (hmix : cx.P.follows .mixedOrders = true) (ds : List Deferred) : ∀ {c : Code} {ac : ACode}, cCode E c = some ac → ∀ {Q : Exit → St → Prop} {st : St} {M : Mem} {own : Nat → Own} {tmps : Array Value} {w : World},
    RelC cx E.keep st M own tmps w → awp cx.P ac Q st → c.wp cx.P (Post cx E.keep M ds Q) ⟨tmps, ds⟩ w := by
  intro c
  induction c with
  | skip => intro ac hc Q st M own tmps w hR h; simp only [cCode, Option.some.injEq] at hc; subst hc; exact wp_skip ⟨rfl, st, M, own, Mle.refl M, hR, h⟩
  | region id ops draw =>
    intro ac hc Q st M own tmps w hR h
    simp only [cCode, Option.bind_eq_bind, Option.bind_eq_some_iff] at hc
    obtain ⟨gs, hgs, hc⟩ := hc
    split at hc
    · rename_i hcond; cases hc
      simp only [awp] at h
      replace h := awpS_ops h
      simp only [joinS, joinV] at h
      obtain ⟨hl, hget⟩ := mapM_get hgs
      have hrc : RegC E.toCE ops draw gs := ⟨⟨by simpa using hl, fun i o g ho hg => cGOp_spec (hget i o g (by simpa using ho) hg)⟩, fun hd => hcond.resolve_left (by rw [hd]; simp)⟩
      refine region_sound hx hmix hrc hR.rel (awpOps_other h) ?_
      rintro s ver M' own' tmps' w' hm hR' ⟨hq, ho, hh, hn⟩
      refine ⟨rfl, _, M', own', hm, ?_, hq⟩
      have hfe : ∀ t, (fin st s (outsOf E.keep gs)).e t = if t ∈ outsOf E.keep gs then (s.e t).noB else st.e t := fun t => sets_e
      have hout : ∀ t, t ∈ outsOf E.keep gs ↔ (∃ g ∈ gs, t ∈ g.writes) ∧ E.keep t = true := fun t => by
        simp [outsOf, List.mem_flatMap]
      have hcase : ∀ t, (fin st s (outsOf E.keep gs)).e t = .undef ∨ ((fin st s (outsOf E.keep gs)).e t = s.e t ∧ ∀ u off k, s.e t ≠ .bptr u off k) := by
        intro t
        rw [hfe]
        by_cases hm : t ∈ outsOf E.keep gs
        · rw [if_pos hm]
          cases hs : s.e t <;> simp [AV.noB]
        · rw [if_neg hm]
          by_cases hk : E.keep t = true
          · have : ∀ g ∈ gs, t ∉ g.writes := fun g hg hw => hm ((hout t).2 ⟨⟨g, hg, hw⟩, hk⟩)
            have he := ho t this
            right
            exact ⟨he.symm, fun u off k e => hR.nob t u off k (by rw [← he]; exact e)⟩
          · left; exact hR.scr t (by simpa using hk)
      refine ⟨⟨hR'.base, hR'.size, fun t => ?_, ?_, ?_⟩, fun t hk => ?_, fun t u off k e => ?_⟩
      · rcases hcase t with h0 | ⟨h1, h2⟩
        · rw [h0]; exact .inl rfl
        · rw [h1]
          refine (hR'.slot t).imp (fun h => h) ?_
          rintro ⟨v, hv, hr⟩
          refine ⟨v, hv, ?_⟩
          by_cases hb : cx.boxed t = true
          · rw [if_pos hb] at hr ⊢; exact hr
          · rw [if_neg hb] at hr ⊢
            cases hav : s.e t <;> rw [hav] at hr <;> first | exact hr | exact absurd hav (h2 _ _ _)
      · intro b cs hb
        have e1 : (fin st s (outsOf E.keep gs)).h = st.h := (sets_h (st := st)).1
        have e2 : (fin st s (outsOf E.keep gs)).nx = st.nx := (sets_h (st := st)).2
        rw [e1, ← hh] at hb
        rw [e2, ← hn]
        exact hR'.heap b cs hb
      · have e2 : (fin st s (outsOf E.keep gs)).nx = st.nx := (sets_h (st := st)).2
        rw [e2, ← hn]; exact hR'.nx
      · rw [hfe, if_neg (fun hm => by rw [((hout t).1 hm).2] at hk; cases hk)]
        exact hR.scr t hk
      · rcases hcase t with h0 | ⟨h1, h2⟩
        · rw [h0] at e; cases e
        · rw [h1] at e; exact h2 u off k e
    · cases hc
  | seq a b iha ihb =>
    intro ac hc Q st M own tmps w hR h
    simp only [cCode, Option.bind_eq_bind, Option.bind_eq_some_iff, Option.some.injEq] at hc
    obtain ⟨a', ha, b', hb, rfl⟩ := hc
    refine wp_seq (wp_mono (iha ha hR h) ?_)
    rintro e act w' ⟨hds, st', M', own', hm, hR', hq⟩
    obtain ⟨tmps', ds'⟩ := act
    simp only at hds; subst hds
    cases e <;> simp only [AExit.then, Exit.then] at hq ⊢ <;> first
      | exact wp_mono (ihb hb hR' hq) (fun e a w h => h.mono hm)
      | exact ⟨rfl, st', M', own', hm, hR', hq⟩
  | cond c a b iha ihb =>
    intro ac hc Q st M own tmps w hR h
    simp only [cCode, Option.bind_eq_bind, Option.bind_eq_some_iff, Option.some.injEq] at hc
    obtain ⟨c', hc', a', ha, b', hb, rfl⟩ := hc
    obtain ⟨t, h1, h2, h3⟩ := h
    have hcR := opdC_R hc' hx.boxed hR.rel (ds := ds) (by rw [h1]; rfl)
    rw [h1] at hcR
    simp only [R] at hcR
    cases t with
    | true => exact wp_cond_true hcR (iha ha hR (h2 rfl))
    | false => exact wp_cond_false hcR (ihb hb hR (h3 rfl))
  | block id a iha =>
    intro ac hc Q st M own tmps w hR h
    simp only [cCode, Option.map_eq_some_iff] at hc
    obtain ⟨a', ha, rfl⟩ := hc
    refine wp_block (wp_mono (iha ha hR h) ?_)
    rintro e act w' ⟨hds, st', M', own', hm, hR', hq⟩
    cases e <;> simp only [AExit.inBlock, Exit.inBlock] at hq ⊢ <;> first
      | exact ⟨hds, st', M', own', hm, hR', hq⟩
      | skip
    split at hq
    · rw [if_pos ‹_›]; exact ⟨hds, st', M', own', hm, hR', hq⟩
    · rw [if_neg ‹_›]; exact ⟨hds, st', M', own', hm, hR', hq⟩
  | loop a iha =>
    intro ac hc Q st M own tmps w hR h
    simp only [cCode, Option.map_eq_some_iff] at hc
    obtain ⟨a', ha, rfl⟩ := hc
    have key := h (fun s => ∀ M1 own1 tmps1 w1, Mle M M1 → RelC cx E.keep s M1 own1 tmps1 w1 →
      ∀ b k cs, ∃ e a' w', Post cx E.keep M ds Q e a' w' ∧ Arrives cx.P (lone (b.at ⟨tmps1, ds⟩ (.code a :: .inLoop a :: k)) cs w1) b k cs e a' w') (by
        intro s hs M1 own1 tmps1 w1 hm1 hR1
        refine round_arrives (wp_mono (iha ha hR1 hs) ?_)
        rintro e act w' ⟨hds, st', M', own', hm, hR', hq⟩
        obtain ⟨tmps', ds'⟩ := act
        simp only at hds; subst hds
        cases e <;> simp only [AExit.then, Exit.then] at hq ⊢ <;> first
          | exact hq M' own' tmps' w' (hm1.trans hm) hR'
          | exact ⟨rfl, st', M', own', hm1.trans hm, hR', hq⟩)
    exact wp_loop_lfp (fun act w => act = ⟨tmps, ds⟩ ∧ RelC cx E.keep st M own tmps w) (by rintro a w ⟨rfl, hR⟩; exact key M own tmps w (Mle.refl M) hR) ⟨rfl, hR⟩
  | exit id => intro ac hc Q st M own tmps w hR h; simp only [cCode, Option.some.injEq] at hc; subst hc; exact wp_exit ⟨rfl, st, M, own, Mle.refl M, hR, h⟩
  | ret => intro ac hc Q st M own tmps w hR h; simp only [cCode, Option.some.injEq] at hc; subst hc; exact wp_ret ⟨rfl, st, M, own, Mle.refl M, hR, h⟩
  | rangeFunc => intro ac hc; cases hc
  | scope => intro ac hc; cases hc
  | label => intro ac hc; cases hc
  | goto => intro ac hc; cases hc
  | refuse => intro ac hc; cases hc

end Go.Proofs.YtccmaeefedgcnaaGreat

namespace Go.Proofs.YtccmaeefedgcnaaGreat

inductive RVar where
  | tmp (t : Nat)
  | cell (t : Nat) (n : Option Nat)

def cRes (E : CE) : ResultVar → Option RVar
  | .tmp t => if E.boxed t then none else some (.tmp t)
  | .cell a ty => if E.boxed a then (aggOf E.P ty).map (.cell a) else none

def RVar.val (s : St) : RVar → AV
  | .tmp t => (s.e t).un
  | .cell t n => subs ((s.e t).cells.map AV.un1) 0 n
def RVar.ok (s : St) : RVar → Prop
  | .tmp t => (s.e t).data = true
  | .cell t n => (s.e t ≠ .undef ∧ 0 < (s.e t).cells.length) ∧ (s.e t).cells.length = n.getD 1

def resAll (s : St) : List RVar → AV
  | [x] => x.val s
  | xs => .tup (xs.map (RVar.val s))
def resOk (s : St) : List RVar → Prop
  | [] => True
  | x :: xs => x.ok s ∧ resOk s xs

/-- A function, compiled: which slots are variables in memory, which are kept between regions, what moves, what is taken, which pointers reach what; its code; its results. -/
structure AFn where
  boxed : List Nat
  keep : List Nat
  mvs : List Nat
  takes : List Nat
  roots : List (Nat × Nat)
  offs : List (Nat × Nat)
  grows : List (Nat × Nat)
  inpls : List (Nat × Bool)
  code : ACode
  res : List RVar

def AFn.fe (P : Program) (n : Nat) (a : AFn) : FE where
  P := P
  boxed t := a.boxed.contains t
  n := n
  mvs t := a.mvs.contains t
  takes t := a.takes.contains t
  root t := (a.roots.find? (·.1 == t)).map (·.2)
  off t := (a.offs.find? (·.1 == t)).map (·.2)
  grow t := (a.grows.find? (·.1 == t)).map (·.2)
  inpl t := (a.inpls.find? (·.1 == t)).map (·.2)
  keep t := a.keep.contains t

/-- That the compiled form is the function's own. -/
structure IsFn (P : Program) (f : FuncId) (k : Nat) (a : AFn) : Prop where
  fn : ∃ fn c, P.funcs[f]? = some fn ∧ fn.body = some c ∧ cCode (a.fe P fn.ntmps) c = some a.code ∧ fn.results.toList.mapM (cRes (a.fe P fn.ntmps).toCE) = some a.res ∧ k ≤ fn.ntmps
  mix : P.follows .mixedOrders = true
  par : ∀ t, t < k → a.boxed.contains t = false ∧ a.keep.contains t = true

def initSt (args : List AV) : St := ⟨fun t => args.getD t .undef, fun _ => none, 0⟩

def resOne (tmps : Array Value) : ResultVar → Sem Value
  | .tmp t => pure (tmps.getD t undef)
  | .cell a t => do loadVar t (← asAddr (tmps.getD a undef))

theorem results_one (fn : Func) (tmps : Array Value) : results fn tmps = (do
    let vs ← fn.results.mapM (resOne tmps)
    pure (if h : vs.size = 1 then vs[0] else .tuple vs)) := by
  unfold results
  congr 1

theorem run_res {cx : Cx} {E : CE} (hx : CxE cx E) {s : St} {M : Mem} {own : Nat → Own} {tmps : Array Value} {w : World} (hR : Rel cx s (fun _ => 0) M own tmps w) {x : RVar} {y : ResultVar} (hc : cRes E y = some x) (hok : x.ok s) :
    ∃ v, (resOne tmps y).run cx.P w = .ok v w ∧ R M (x.val s) v := by
  cases y with
  | tmp t =>
    simp only [cRes] at hc
    split at hc
    · cases hc
    · rename_i hb; cases hc
      exact ⟨_, rfl, hR.read (by rw [hx.boxed]; exact Bool.eq_false_iff.2 hb) hok⟩
  | cell a ty =>
    simp only [cRes] at hc
    split at hc
    · rename_i hb
      simp only [Option.map_eq_some_iff] at hc
      obtain ⟨n, hn, rfl⟩ := hc
      obtain ⟨h1, h2⟩ := hok
      obtain ⟨b, hb1, _, _, vs, el, hh, hro⟩ := hR.box (t := a) (by rw [hx.boxed]; exact hb) h1
      obtain ⟨hf, hs⟩ := Rs_un_of_ROs hro
      have hlen := ROs_length hro
      have hev : tmps.getD a undef = .pointer (some ⟨b, 0, none⟩) := by simp [Array.getD_eq_getD_getElem?, hb1]
      refine ⟨packV n ((vs.drop 0).take (n.getD 1)), ?_, R_subs (off := 0) hs hf (by simp; omega)⟩
      have := run_loadVar_pack (P := cx.P) (w := w) (b := b) (off := 0) (us := (vs.drop 0).take (n.getD 1)) (by rw [hx.P]; exact hn) (by simp; omega)
        (fun i u hu => by rw [cell?_cells hh]; simpa using sub_cells hu)
      simp only [resOne, hev, asAddr]
      simpa using this
    · cases hc

theorem run_results {cx : Cx} {E : CE} (hx : CxE cx E) {s : St} {M : Mem} {own : Nat → Own} {tmps : Array Value} {w : World} (hR : Rel cx s (fun _ => 0) M own tmps w) : ∀ {ys : List ResultVar} {xs : List RVar}, ys.mapM (cRes E) = some xs → resOk s xs →
    ∃ vs : List Value, (ys.mapM (resOne tmps)).run cx.P w = .ok vs w ∧ Rs M (xs.map (RVar.val s)) vs
  | [], xs, h, _ => by simp at h; subst h; exact ⟨[], by simp, by simp [Rs]⟩
  | y :: ys, xs, h, hok => by
    simp only [List.mapM_cons, Option.bind_eq_bind, Option.bind_eq_some_iff, Option.pure_def, Option.some.injEq] at h
    obtain ⟨x, hx1, xs', hxs, rfl⟩ := h
    obtain ⟨v, h1, h2⟩ := run_res hx hR hx1 hok.1
    obtain ⟨vs, h3, h4⟩ := run_results hx hR hxs hok.2
    refine ⟨v :: vs, ?_, ⟨v, vs, rfl, h2, h4⟩⟩
    simp only [List.mapM_cons, Sem.run_bind]
    rw [h1]
    simp only [Result.andThen_ok]
    rw [h3]
    rfl

theorem fn_sound {P : Program} {f : FuncId} {a : AFn} {args : List AV} {r : AV} (hI : IsFn P f args.length a)
    (h : awp P a.code (fun e s => (e = .normal ∨ e = .ret) ∧ resOk s a.res ∧ resAll s a.res = r) (initSt args)) : Sound P f args r := by
  obtain ⟨⟨fn, c, hf, hb, hc, hr, hk⟩, hmix, hpar⟩ := hI
  intro M w vals hM hvals
  have hlv := Rs_length hvals
  let cx : Cx := ⟨P, (a.fe P fn.ntmps).boxed, fn.ntmps, w, M, fun _ => False⟩
  have hx : CxE cx (a.fe P fn.ntmps).toCE := ⟨rfl, rfl, rfl⟩
  refine calls_of_wp hf hb ?_
  have hslot : ∀ t, RSlot cx (fun _ => 0) (fun _ => .none) M w (vals.toArray ++ Array.replicate (fn.ntmps - vals.toArray.size) undef) t ((initSt args).e t) := by
    intro t
    simp only [initSt]
    by_cases ht : t < args.length
    · have hv : vals[t]? = some (vals[t]'(by omega)) := List.getElem?_eq_getElem (by omega)
      have ha : args[t]? = some args[t] := List.getElem?_eq_getElem ht
      have hR := (Rs_iff.1 hvals).2 t _ _ ha hv
      refine .inr ⟨vals[t]'(by omega), ?_, ?_⟩
      · rw [Array.getElem?_append_left (by simp; omega)]; simp
      · rw [if_neg (by show ¬ (a.boxed.contains t = true); rw [(hpar t ht).1]; simp)]
        have e : args.getD t .undef = args[t] := by simp [List.getD, ha]
        rw [e]
        have hrv := RV_of_R (own := fun _ => .none) (w := w) (t := t) (j := 0) hR
        cases hav : args[t] <;> rw [hav] at hrv hR <;> first | exact hrv | (simp [R] at hR)
    · left; simp [List.getD, List.getElem?_eq_none (by omega : args.length ≤ t)]
  have hR0 : RelC cx (a.fe P fn.ntmps).keep (initSt args) M (fun _ => .none) (vals.toArray ++ Array.replicate (fn.ntmps - vals.toArray.size) undef) w := by
    refine ⟨⟨⟨hM, by simp, by simp, fun b o u hm => .inl hm, fun _ _ _ => rfl, Nat.le_refl _, rfl, rfl, rfl⟩, ?_, hslot, by simp [initSt], by simp [initSt]⟩, ?_, ?_⟩
    · show (vals.toArray ++ Array.replicate (fn.ntmps - vals.toArray.size) undef).size = fn.ntmps
      simp; omega
    · intro t hkt
      simp only [initSt]
      have : ¬ t < args.length := fun ht => by
        have := (hpar t ht).2
        have h2 : (a.fe P fn.ntmps).keep t = a.keep.contains t := rfl
        rw [h2, this] at hkt; cases hkt
      simp [List.getD, List.getElem?_eq_none (by omega : args.length ≤ t)]
    · intro t u off k e
      have hs := hslot t
      rw [e] at hs
      rcases hs with h | ⟨v, hv, h⟩
      · cases h
      · by_cases ht : t < args.length
        · have ha : args[t]? = some args[t] := List.getElem?_eq_getElem ht
          have hv2 : vals[t]? = some (vals[t]'(by omega)) := List.getElem?_eq_getElem (by omega)
          have hR := (Rs_iff.1 hvals).2 t _ _ ha hv2
          simp only [initSt, List.getD, ha, Option.getD_some] at e
          rw [e] at hR; simp [R] at hR
        · simp only [initSt, List.getD, List.getElem?_eq_none (by omega : args.length ≤ t)] at e; cases e
  have hsz : vals.toArray.size = vals.length := by simp
  refine wp_mono (awp_sound hx hmix [] hc hR0 h) ?_
  rintro e act w' ⟨hds, st', M', own', hm, hR', he, hok, hres⟩
  obtain ⟨vs, hrun, hRs⟩ := run_results hx hR'.rel hr hok
  have hrun' : ∃ v, (results fn act.tmps).run P w' = .ok v w' ∧ R M' r v := by
    have hrun2 : (fn.results.mapM (resOne act.tmps)).run P w' = .ok vs.toArray w' := by
      rw [Array.mapM_eq_mapM_toList, Sem.run_map]
      have : cx.P = P := rfl
      rw [this] at hrun
      rw [hrun]; rfl
    rw [results_one, Sem.run_bind, hrun2]
    simp only [Result.andThen_ok, Sem.run_pure]
    have hl := Rs_length hRs
    rw [List.length_map] at hl
    match hxs : a.res, vs, hl with
    | [x], [v], _ =>
      rw [hxs] at hRs hres
      simp only [List.map_cons, List.map_nil, Rs] at hRs
      obtain ⟨u, us, hu, hr1, _⟩ := hRs
      cases hu
      exact ⟨v, by simp, by rw [← hres]; exact hr1⟩
    | [], [], _ =>
      rw [hxs] at hRs hres
      refine ⟨.tuple #[], by simp, ?_⟩
      rw [← hres]; simp only [resAll, R]; exact ⟨[], rfl, hRs⟩
    | x :: y :: xs, v :: u :: vs, _ =>
      rw [hxs] at hRs hres
      refine ⟨.tuple (v :: u :: vs).toArray, by simp, ?_⟩
      rw [← hres]; simp only [resAll, R]; exact ⟨_, rfl, hRs⟩
  obtain ⟨v, hv1, hv2⟩ := hrun'
  have hfin : ∃ v' M'', Ending.returned v = .returned v' ∧ Mle M M'' ∧ (∀ b o u, M'' b o = some u → w'.cell? ⟨b, o, none⟩ = some u) ∧ (∀ b o u, M'' b o = some u → M b o = some u ∨ w.heap.size ≤ b) ∧ R M'' r v' ∧ Ext w w' := by
    refine ⟨v, M', rfl, hm, hR'.rel.base.mem, hR'.rel.base.mnew, hv2, hR'.rel.base.grow, fun b hb => ?_, hR'.rel.base.rest⟩
    refine hR'.rel.base.frame b hb ?_
    by_cases ho : own' b = .none
    · exact ho
    · rcases hR'.rel.base.own_new b ho with h | h
      · have : cx.w0.heap.size = w.heap.size := rfl
        omega
      · exact h.2.elim
  rcases he with rfl | rfl
  · exact ⟨hds, v, hv1, hfin⟩
  · exact ⟨hds, v, hv1, hfin⟩

/-! That a compiled form is the function's own, by the kernel. -/

theorem isFn_of {P : Program} {f : FuncId} {fn : Func} {k : Nat} {a : AFn} (hm : P.follows .mixedOrders = true) (hf : P.funcs[f]? = some fn) (hb : fn.body.isSome = true)
    (hc : cCode (a.fe P fn.ntmps) (fn.body.getD .skip) = some a.code)
    (hr : fn.results.toList.mapM (cRes (a.fe P fn.ntmps).toCE) = some a.res) (hk : decide (k ≤ fn.ntmps) = true)
    (hp : (List.range k).all (fun t => !a.boxed.contains t && a.keep.contains t) = true) : IsFn P f k a := by
  obtain ⟨c, hc'⟩ := Option.isSome_iff_exists.1 hb
  rw [hc'] at hc
  refine ⟨⟨fn, c, hf, hc', hc, hr, by simpa using hk⟩, hm, fun t ht => ?_⟩
  simp only [List.all_eq_true, List.mem_range, Bool.and_eq_true, Bool.not_eq_true'] at hp
  exact hp t ht

end Go.Proofs.YtccmaeefedgcnaaGreat
