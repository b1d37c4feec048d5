/-
  THE ABSTRACT LAYER, PART G: loads, stores and indexes.
  THE ABSTRACT LAYER, PART H: a store into a variable; a slice taken out of a variable.
  THE ABSTRACT LAYER, PART I: values: fields, indexes, arithmetic, strings, slices, aggregates, calls.
  THE ABSTRACT LAYER, PART J: conversions, cuts of strings and slices, aggregates.
  THE ABSTRACT LAYER, PART K: aggregates, slices by their elements, append, calls.
  THE ABSTRACT LAYER, PART L: append and calls.
-/
import Derived.Test.YtccmaeefedgcnaaGreatPart01
import Derived.Laws.BytesString
import Derived.Lib.Strings
set_option linter.all false

namespace Go.Proofs.YtccmaeefedgcnaaGreat

def packV (n : Option Nat) (us : List Value) : Value := match n with
  | none => us.headD undef
  | some _ => .agg us.toArray

theorem run_loadVar_pack {P : Program} {w : World} {ty : TypeId} {n : Option Nat} {us : List Value} {b off : Nat} (h : aggOf P ty = some n) (hl : us.length = n.getD 1)
    (hc : ∀ (i : Nat) u, us[i]? = some u → w.cell? ⟨b, off + i, none⟩ = some u) : (loadVar ty ⟨b, off, none⟩).run P w = .ok (packV n us) w := by
  have hcells : (loadCells ⟨b, off, none⟩ us.length).run P w = .ok us.toArray w :=
    run_loadCells_list w ⟨b, off, none⟩ us (fun j v hj => by rw [Addr.add_lit]; exact hc j v hj)
  have hag : ∀ d, P.underlying ty = some d → (szOf P ty).map some = some n → (isAgg ty).run P w = .ok true w → (loadVar ty ⟨b, off, none⟩).run P w = .ok (packV n us) w := by
    intro d hd hs ha
    simp only [szOf, Option.map_eq_some_iff] at hs
    obtain ⟨k, ⟨i, hi, rfl⟩, rfl⟩ := hs
    simp only [Option.getD_some] at hl
    rw [hl] at hcells
    simp [loadVar, ha, sizeOf, typeInfo, hi, hcells, packV]
  unfold aggOf at h
  split at h
  · cases h
  · rename_i fs hu; exact hag _ hu h (by simp [isAgg, run_underlying hu])
  · rename_i m e hu; exact hag _ hu h (by simp [isAgg, run_underlying hu])
  · rename_i d hn1 hn2 hu
    cases h
    simp only [Option.getD_none] at hl
    match us, hl with
    | [u], _ =>
      have h0 := hc 0 u rfl
      simp only [Nat.add_zero] at h0
      have ha : (isAgg ty).run P w = .ok false w := by
        simp only [isAgg, Sem.run_bind, run_underlying hu, Result.andThen_ok]
        cases d <;> first | rfl | exact (hn1 _ rfl).elim | exact (hn2 _ _ rfl).elim
      simp [loadVar, ha, h0, packV]

theorem R_subs {M : Mem} {cs : List AV} {vs : List Value} {off : Nat} {n : Option Nat} (hs : Rs M cs vs) (hf : ∀ u ∈ vs, flat u = true) (hle : off + n.getD 1 ≤ cs.length) :
    R M (subs cs off n) (packV n ((vs.drop off).take (n.getD 1))) := by
  obtain ⟨h1, h2⟩ := Rs_iff.1 hs
  cases n with
  | none =>
    simp only [Option.getD_none] at hle ⊢
    have hc : cs[off]? = some (cs.getD off .undef) := by simp [List.getD, List.getElem?_eq_getElem (show off < cs.length by omega)]
    have hv : vs[off]? = some (vs[off]'(by omega)) := List.getElem?_eq_getElem (by omega)
    have := h2 off _ _ hc hv
    simp only [subs, packV]
    have e : (vs.drop off).take 1 = [vs[off]'(by omega)] := by
      rw [List.drop_eq_getElem_cons (by omega)]; rfl
    rw [e]; exact this
  | some k =>
    simp only [Option.getD_some] at hle ⊢
    simp only [subs, packV, R]
    refine ⟨_, rfl, fun u hu => hf u (List.mem_of_mem_drop (List.mem_of_mem_take hu)), Rs_iff.2 ⟨by simp; omega, fun i c u hc hu => ?_⟩⟩
    rw [List.getElem?_take] at hc hu
    split at hc
    · rw [if_pos ‹_›] at hu
      rw [List.getElem?_drop] at hc hu
      exact h2 _ c u hc hu
    · cases hc

theorem sub_cells {vs : List Value} {off k : Nat} {i : Nat} {u : Value} (h : ((vs.drop off).take k)[i]? = some u) : vs[off + i]? = some u := by
  rw [List.getElem?_take] at h
  split at h
  · rwa [List.getElem?_drop] at h
  · cases h

theorem Rmem_list {M : Mem} : ∀ {cs : List AV} {b o : Nat}, Rmem M cs b o → ∃ us : List Value, us.length = cs.length ∧ Rs M cs us ∧ (∀ u ∈ us, flat u = true) ∧ ∀ (i : Nat) u, us[i]? = some u → M b (o + i) = some u
  | [], b, o, _ => ⟨[], rfl, by simp [Rs], by simp, by simp⟩
  | c :: cs, b, o, h => by
    simp only [Rmem] at h
    obtain ⟨⟨u, hu, hf, hr⟩, hs⟩ := h
    obtain ⟨us, h1, h2, h3, h4⟩ := Rmem_list hs
    refine ⟨u :: us, by simp [h1], ⟨u, us, rfl, hr, h2⟩, by simpa [hf] using h3, fun i x hx => ?_⟩
    cases i with
    | zero => simp at hx; subst hx; simpa using hu
    | succ i => simp at hx; have := h4 i x hx; rwa [show o + 1 + i = o + (i + 1) from by omega] at this

section
variable {cx : Cx} {E : CE} {st : St} {ver : Nat → Nat} {M : Mem} {own : Nat → Own} {tmps : Array Value} {w : World} {ds : List Deferred}
  {o : Oper} {K : Act → World → Prop} {Q : Exit → Act → World → Prop}

theorem sound_bload {ty : TypeId} {d t : Nat} {p n : Option Nat} (hR : Rel cx st ver M own tmps w) (ho : o.op = .load ty (ptrOpd t p)) (hdst : o.dst = some d) (hd : d < cx.n)
    (hb : cx.boxed d = false) (hbt : cx.boxed t = true) (hbp : ∀ q, p = some q → cx.boxed q = false) (hn : aggOf cx.P ty = some n)
    (hok : AOp.ok cx.P .undef st ver (.bload d t p n false)) (hK : OpGoal cx (AOp.next .undef st ver (.bload d t p n false)).1 ver M ds K) : o.wp cx.P ⟨tmps, ds⟩ w K Q := by
  obtain ⟨hu, _, off, hoff, hle⟩ := hok
  obtain ⟨b, hb1, hb2, hb3⟩ := hR.ptr (ds := ds) hbt hu hbp hoff
  obtain ⟨_, _, vs, el, hh, hro⟩ := hb3
  obtain ⟨hf, hs⟩ := Rs_un_of_ROs hro
  have hlen : vs.length = (st.e t).cells.length := (ROs_iff.1 hro).1
  have hrun : (execOp (Act.eval ⟨tmps, ds⟩) o).run cx.P w = .ok (.value (packV n ((vs.drop off).take (n.getD 1)))) w := by
    simp only [execOp, ho, Instr.loadAt, hb2, Instr.sureAddr]
    have := run_loadVar_pack (P := cx.P) (w := w) (b := b) (off := off) (us := (vs.drop off).take (n.getD 1)) hn (by simp; omega)
      (fun i u hu => by rw [cell?_cells hh]; simpa using sub_cells hu)
    simp [this]
  refine sound_pure hR hdst hd hb hrun (R_subs hs hf (by simpa using hle)) ?_
  simpa [AOp.next, hoff] using hK

theorem sound_vload {ty : TypeId} {d p : Nat} {n : Option Nat} (hR : Rel cx st ver M own tmps w) (ho : o.op = .load ty (.tmp p)) (hdst : o.dst = some d) (hd : d < cx.n)
    (hb : cx.boxed d = false) (hbp : cx.boxed p = false) (hn : aggOf cx.P ty = some n)
    (hok : AOp.ok cx.P .undef st ver (.vload d p n)) (hK : OpGoal cx (AOp.next .undef st ver (.vload d p n)).1 ver M ds K) : o.wp cx.P ⟨tmps, ds⟩ w K Q := by
  cases hp : st.e p <;> simp only [AOp.ok, hp] at hok
  rename_i cs off
  have hr := hR.read hbp (by rw [hp]; rfl)
  rw [hp] at hr
  simp only [AV.un, AV.un1, R] at hr
  obtain ⟨b, o', he, hm⟩ := hr
  obtain ⟨us, h1, h2, h3, h4⟩ := Rmem_list hm
  simp only [AOp.next, hp] at hK
  refine sound_pure (v := packV n ((us.drop off).take (n.getD 1))) hR hdst hd hb ?_ (R_subs h2 h3 hok) hK
  have := run_loadVar_pack (P := cx.P) (w := w) (b := b) (off := o' + off) (us := (us.drop off).take (n.getD 1)) hn (by simp; omega)
      (fun i u hu => by
        refine hR.base.mem _ _ _ ?_
        rw [Nat.add_assoc]
        exact h4 _ _ (sub_cells hu))
  simp only [execOp, ho, Instr.loadAt, Act.eval, he, Instr.sureAddr]
  simp [this]

theorem toNatAV_int {k : IntKind} {n : Int} (h : 0 ≤ n) : toNatAV (.int k n) = some n.toNat := by simp [toNatAV, h]

theorem Relem_vptr {M : Mem} {z : Nat} {e : AV} {b o : Nat} (h : Relem M z e b o) : R M (.vptr e.cells 0) (.pointer (some ⟨b, o, none⟩)) := by
  simp only [R]; exact ⟨b, o, rfl, h.2⟩

theorem sound_idx {ty el : TypeId} {d z : Nat} {x i : Operand} {tx ti : TypeId} {x' i' : Opd} (hE : cx.boxed = E.boxed) (hR : Rel cx st ver M own tmps w) (ho : o.op = .indexAddr ty x i) (hdst : o.dst = some d) (hd : d < cx.n)
    (hb : cx.boxed d = false) (hu : cx.P.underlying ty = some (.slice el)) (hz : szOf cx.P el = some z) (h1 : cOpdC E tx x = some x') (h2 : cOpdC E ti i = some i')
    (hok : AOp.ok cx.P .undef st ver (.idx d x' i' z)) (hK : OpGoal cx (AOp.next .undef st ver (.idx d x' i' z)).1 ver M ds K) : o.wp cx.P ⟨tmps, ds⟩ w K Q := by
  cases hx : x'.val st <;> simp only [AOp.ok, hx] at hok
  rename_i z' es
  cases hi : i'.val st <;> simp only [hi] at hok
  rename_i k n
  obtain ⟨rfl, h0, hlt⟩ := hok
  have hxR := opdC_R h1 hE hR (ds := ds) (by rw [hx]; rfl)
  have hiR := opdC_R h2 hE hR (ds := ds) (by rw [hi]; rfl)
  rw [hx] at hxR; rw [hi] at hiR
  simp only [R] at hxR hiR
  obtain ⟨a, len, cap, he, hl, hc, hn, hr⟩ := hxR
  have hne : cap ≠ 0 := by omega
  obtain ⟨b, off, rfl, hrow⟩ := hr hne
  have hget : es[n.toNat]? = some (es.getD n.toNat .undef) := by simp [List.getD, List.getElem?_eq_getElem (show n.toNat < es.length by omega)]
  have hel := Rrow_get hrow hget
  simp only [AOp.next, hx, hi, natOf] at hK
  simp only [szOf, Option.map_eq_some_iff] at hz
  obtain ⟨inf, hinf, rfl⟩ := hz
  refine sound_pure (v := .pointer (some ⟨b, off + n.toNat * inf.size, none⟩)) hR hdst hd hb ?_ (Relem_vptr hel) hK
  have hlt' : n < (len : Int) := by omega
  simp [execOp, ho, Instr.indexAt, hiR, asIntOf, run_underlying hu, he, h0, hlt', sizeOf, typeInfo, hinf, Addr.add_lit]

theorem sound_bidx {ty el : TypeId} {d t len z : Nat} {p : Option Nat} {i : Operand} {ti : TypeId} {i' : Opd} (hE : cx.boxed = E.boxed) (hR : Rel cx st ver M own tmps w) (ho : o.op = .indexAddr ty (ptrOpd t p) i) (hdst : o.dst = some d) (hd : d < cx.n)
    (hb : cx.boxed d = false) (hbt : cx.boxed t = true) (hbp : ∀ q, p = some q → cx.boxed q = false) (hu : cx.P.underlying ty = some (.array len el)) (hz : szOf cx.P el = some z) (h2 : cOpdC E ti i = some i')
    (hok : AOp.ok cx.P .undef st ver (.bidx d t p i' len z)) (hK : OpGoal cx (AOp.next .undef st ver (.bidx d t p i' len z)).1 ver M ds K) : o.wp cx.P ⟨tmps, ds⟩ w K Q := by
  obtain ⟨hue, hsome, hin⟩ := hok
  obtain ⟨off, hoff⟩ := Option.isSome_iff_exists.1 hsome
  obtain ⟨b, hb1, hb2, _⟩ := hR.ptr (ds := ds) hbt hue hbp hoff
  cases hi : i'.val st <;> simp only [hi] at hin
  rename_i k n
  have hiR := opdC_R h2 hE hR (ds := ds) (by rw [hi]; rfl)
  rw [hi] at hiR
  simp only [R] at hiR
  simp only [AOp.next, hi, natOf, hoff, Option.getD_some] at hK
  simp only [szOf, Option.map_eq_some_iff] at hz
  obtain ⟨inf, hinf, rfl⟩ := hz
  have hrun : (execOp (Act.eval ⟨tmps, ds⟩) o).run cx.P w = .ok (.value (.pointer (some ⟨b, off + n.toNat * inf.size, none⟩))) w := by
    simp [execOp, ho, Instr.indexAt, hiR, asIntOf, run_underlying hu, hb2, Instr.sureAddr, hin.1, hin.2, sizeOf, typeInfo, hinf, Addr.add_lit]
  refine wp_value hrun ?_
  rw [put_some hdst]
  have hd' : d < tmps.size := by rw [hR.size]; exact hd
  refine hK _ _ _ _ (Mle.refl M) (hR.put hd hb (.inr ⟨_, by rw [get_set hd', if_pos rfl], ?_⟩))
  rw [if_neg (by simp [hb])]
  refine ⟨Nat.le_refl _, fun _ => ⟨hbt, _, ?_, .inl ⟨b, rfl, rfl⟩⟩⟩
  rw [get_set hd', if_neg (by rintro rfl; simp [hb] at hbt)]
  exact hb1
end

end Go.Proofs.YtccmaeefedgcnaaGreat

namespace Go.Proofs.YtccmaeefedgcnaaGreat

theorem ROs_append {own M w t} : ∀ {cs ds : List AV} {j : Nat} {vs us : List Value}, ROs own M w t j cs vs → ROs own M w t (j + cs.length) ds us → ROs own M w t j (cs ++ ds) (vs ++ us)
  | [], ds, j, vs, us, h, h' => by simp only [ROs] at h; subst h; simpa using h'
  | c :: cs, ds, j, vs, us, h, h' => by
    simp only [ROs] at h
    obtain ⟨u, us', rfl, hf, hu, hs⟩ := h
    refine ⟨u, us' ++ us, rfl, hf, hu, ROs_append hs ?_⟩
    rwa [show j + 1 + cs.length = j + (c :: cs).length from by simp; omega]

theorem ROs_take {own M w t} : ∀ (k : Nat) {cs : List AV} {j : Nat} {vs : List Value}, ROs own M w t j cs vs → ROs own M w t j (cs.take k) (vs.take k)
  | 0, cs, j, vs, h => by simp [ROs]
  | k + 1, [], j, vs, h => by simp only [ROs] at h; subst h; simp [ROs]
  | k + 1, c :: cs, j, vs, h => by
    simp only [ROs] at h
    obtain ⟨u, us, rfl, hf, hu, hs⟩ := h
    exact ⟨u, us.take k, rfl, hf, hu, ROs_take k hs⟩

theorem ROs_drop {own M w t} : ∀ (k : Nat) {cs : List AV} {j : Nat} {vs : List Value}, ROs own M w t j cs vs → ROs own M w t (j + k) (cs.drop k) (vs.drop k)
  | 0, cs, j, vs, h => by simpa using h
  | k + 1, [], j, vs, h => by simp only [ROs] at h; subst h; simp [ROs]
  | k + 1, c :: cs, j, vs, h => by
    simp only [ROs] at h
    obtain ⟨u, us, rfl, hf, hu, hs⟩ := h
    have := ROs_drop k hs
    rw [show j + 1 + k = j + (k + 1) from by omega] at this
    simpa using this

theorem ROs_length {own M w t j cs vs} (h : ROs own M w t j cs vs) : vs.length = cs.length := (ROs_iff.1 h).1

theorem ROs_setRange {own M w t} {cs xs : List AV} {vs us : List Value} {off : Nat} (h : ROs own M w t 0 cs vs) (h' : ROs own M w t off xs us) (hle : off + xs.length ≤ cs.length) :
    ROs own M w t 0 (setRange cs off xs) (vs.take off ++ us ++ vs.drop (off + us.length)) := by
  have hl := ROs_length h
  have hl' := ROs_length h'
  unfold setRange
  have e1 : (cs.take off).length = off := by simp; omega
  refine ROs_append (ROs_append (ROs_take off h) (by rw [e1]; simpa using h')) ?_
  have := ROs_drop (off + us.length) h
  rw [show 0 + (cs.take off ++ xs).length = 0 + (off + us.length) from by simp [e1, hl'], hl'] at *
  exact this

theorem ofCells_map {own M w t j} {old : AV} {cs : List AV} {vs : List Value} (h : ROs own M w t j cs vs) : (AV.ofCells old cs).special = false := by
  have hd : ∀ old : AV, AV.ofCells old cs = cs.headD .undef ∨ AV.ofCells old cs = .agg cs := fun old => by cases old <;> first | exact .inl rfl | exact .inr rfl
  rcases hd old with h1 | h1 <;> rw [h1]
  · cases cs with
    | nil => rfl
    | cons c cs =>
      simp only [List.headD_cons]
      simp only [ROs] at h
      obtain ⟨u, _, _, _, hu, _⟩ := h
      cases c <;> first | rfl | (simp [RO, R] at hu)
  · rfl

theorem ofCells_cells {own M w t j} {old : AV} {cs : List AV} {vs : List Value} (h : ROs own M w t j cs vs) (hl : cs.length = old.cells.length) (h0 : 0 < old.cells.length) : (AV.ofCells old cs).cells = cs := by
  by_cases ha : ∃ x, old = .agg x
  · obtain ⟨x, rfl⟩ := ha; rfl
  · have hc : old.cells = [old] := by cases old <;> first | rfl | (cases h0; done) | exact absurd ⟨_, rfl⟩ ha
    rw [hc] at hl
    match cs, hl with
    | [c], _ =>
      have e : AV.ofCells old [c] = c := by cases old <;> first | rfl | exact absurd ⟨_, rfl⟩ ha
      rw [e]
      simp only [ROs] at h
      obtain ⟨u, us, rfl, hf, hu, _⟩ := h
      cases c <;> first | rfl | skip
      · simp only [RO, R] at hu
        obtain ⟨vs, rfl, _⟩ := hu
        cases hf
      · simp [RO, R] at hu
      · simp [RO, R] at hu

section
variable {cx : Cx} {E : CE} {st : St} {ver : Nat → Nat} {M : Mem} {own : Nat → Own} {tmps : Array Value} {w : World} {ds : List Deferred}
  {o : Oper} {K : Act → World → Prop} {Q : Exit → Act → World → Prop}

theorem done_e {x : Opd} {t : Nat} (h : ∀ s, x = .t s true → s ≠ t) : (x.done st).e t = st.e t := by
  unfold Opd.done
  split
  · rename_i s; exact upd_other _ _ (fun e => h s rfl e.symm)
  · rfl

theorem cOpd_plain {E : CE} {ty : TypeId} {o : Operand} {s : Nat} {m : Bool} (h : cOpd E ty o = some (.t s m)) : E.boxed s = false := by
  cases o with
  | tmp t => simp only [cOpd] at h; split at h; · cases h
             · rename_i hb; cases h; exact Bool.eq_false_iff.2 hb
  | const v => simp only [cOpd, Option.map_eq_some_iff] at h; obtain ⟨_, _, h⟩ := h; cases h
  | func f => cases h
  | global g => cases h

theorem setRow_base {own1 : Nat → Own} {b t : Nat} {cs : Array Value} (h : Base cx own1 M w) (ho : own1 b = .box t) (hM : ∀ o, M b o = none) : Base cx own1 M (w.setRow b cs) where
  mem b' o u hm := by
    have : b' ≠ b := by rintro rfl; rw [hM] at hm; cases hm
    rw [cell?_of_heap (setRow_other w b b' cs this)]; exact h.mem b' o u hm
  own_lt b' hb' := by rw [size_setRow]; exact h.own_lt b' hb'
  own_new := h.own_new
  mnew := h.mnew
  frame b' hb' ho' := by
    have : b' ≠ b := by rintro rfl; rw [ho] at ho'; cases ho'
    rw [setRow_other w b b' cs this]; exact h.frame b' hb' ho'
  grow := by rw [size_setRow]; exact h.grow
  rest := h.rest

theorem sound_bstore {ty tx : TypeId} {t n : Nat} {p : Option Nat} {x : Operand} {y : Opd} (hE : cx.boxed = E.boxed) (hR : Rel cx st ver M own tmps w) (ho : o.op = .store ty (ptrOpd t p) x) (hdst : o.dst = none)
    (hbt : cx.boxed t = true) (hbp : ∀ q, p = some q → cx.boxed q = false) (hn : szOf cx.P ty = some n) (hc : cOpd E tx x = some y)
    (hok : AOp.ok cx.P .undef st ver (.bstore t p y n)) (hK : OpGoal cx (AOp.next .undef st ver (.bstore t p y n)).1 ver M ds K) : o.wp cx.P ⟨tmps, ds⟩ w K Q := by
  obtain ⟨hu, hsol, hlen, off, hoff, hle⟩ := hok
  obtain ⟨b, hb1, hb2, _⟩ := hR.ptr (ds := ds) hbt hu hbp hoff
  obtain ⟨own1, h1, h2⟩ := opdM_RV hc hE hR (solid_data hsol) (ds := ds) t off
  have hte : (y.done st).e t = st.e t := done_e (fun s hs e => by subst hs; subst e; have := cOpd_plain hc; rw [← hE, hbt] at this; cases this)
  obtain ⟨b', hb', ho1, hM, vs, el, hh, hro⟩ := h1.box hbt (by rw [hte]; exact hu)
  rw [hb1] at hb'; cases hb'
  rw [hte] at hro
  obtain ⟨us, hus, hru⟩ := RV_ROs h2 hsol
  have hvl := ROs_length hro
  have hul := ROs_length hru
  simp only [szOf, Option.map_eq_some_iff] at hn
  obtain ⟨inf, hinf, rfl⟩ := hn
  have hflat : ∀ u ∈ us, flat u = true := fun u hu => by
    obtain ⟨i, hi, rfl⟩ := List.mem_iff_getElem.1 hu
    exact ((ROs_iff.1 hru).2 i _ _ (List.getElem?_eq_getElem (by omega)) (List.getElem?_eq_getElem hi)).1
  have hst := run_storeCells_at cx.P b off el us 0 vs.toArray w hh (by simp; omega) hflat
  simp only [Nat.add_zero] at hst
  have hrun : (execOp (Act.eval ⟨tmps, ds⟩) o).run cx.P w = .ok .skip (w.setRow b (vs.take off ++ us ++ vs.drop (off + us.length)).toArray) := by
    simp only [execOp, ho, Instr.storeAt, hb2, Instr.sureAddr]
    simp [storeVar, sizeOf, typeInfo, hinf, hus, hul, hlen, hst]
  refine wp_skip' hrun ?_
  rw [hdst]
  have hbase := setRow_base (cs := (vs.take off ++ us ++ vs.drop (off + us.length)).toArray) h1.base ho1 hM
  have h3 := (h1.forget t).stepX (own' := own1) (M' := M) (w' := w.setRow b (vs.take off ++ us ++ vs.drop (off + us.length)).toArray) t (by simp [upd]) hbase (Mle.refl M)
    (fun b' _ hbx _ => ⟨rfl, setRow_other w b b' _ (by rintro rfl; exact hbx ho1), fun _ => rfl⟩) (by rw [size_setRow]; exact Nat.le_refl _)
  have keep : ∀ b' i, own1 b' = .spare t i → own1 b' = .spare t (i + 0) ∧ (w.setRow b (vs.take off ++ us ++ vs.drop (off + us.length)).toArray).heap[b']? = w.heap[b']? ∧ ∀ o, M b' o = M b' o :=
    fun b' i hi => ⟨hi, setRow_other w b b' _ (by rintro rfl; rw [ho1] at hi; cases hi), fun _ => rfl⟩
  have m1 := ROs_mono (own' := own1) (M' := M) (w' := w.setRow b (vs.take off ++ us ++ vs.drop (off + us.length)).toArray) (t' := t) (k := 0) (Mle.refl M) (fun b' i _ _ hi => keep b' i hi) hro
  have m2 := ROs_mono (own' := own1) (M' := M) (w' := w.setRow b (vs.take off ++ us ++ vs.drop (off + us.length)).toArray) (t' := t) (k := 0) (Mle.refl M) (fun b' i _ _ hi => keep b' i hi) hru
  simp only [Nat.add_zero] at m2
  have hnew := ROs_setRange m1 m2 (by rw [hlen]; exact hle)
  have hcl : (setRange (st.e t).cells off (y.val st).cells).length = (st.e t).cells.length := by
    have := ROs_length hnew
    simp [setRange]; omega
  have h4 := h3.setSlot (t := t) (av := AV.ofCells (st.e t) (setRange (st.e t).cells off (y.val st).cells))
    (.inr ⟨_, hb1, by rw [if_pos hbt]; exact RBoxV_mk (ofCells_map hnew) ⟨ho1, hM, _, el, setRow_heap w b _ _ el _ hh, by rw [ofCells_cells hnew hcl hu.2]; exact hnew⟩⟩)
  refine hK M own1 tmps _ (Mle.refl M) ?_
  have e : (AOp.next .undef st ver (.bstore t p y inf.size)).1 = ⟨upd (upd (y.done st).e t .undef) t (AV.ofCells (st.e t) (setRange (st.e t).cells off (y.val st).cells)), (y.done st).h, (y.done st).nx⟩ := by
    simp only [AOp.next, hoff, Option.getD_some, put]
    congr 1
    funext j; simp only [upd]; split <;> simp_all
  rw [e]; exact h4

theorem sound_btake {ty : TypeId} {d t : Nat} {p : Option Nat} (hR : Rel cx st ver M own tmps w) (ho : o.op = .load ty (ptrOpd t p)) (hdst : o.dst = some d) (hd : d < cx.n)
    (hb : cx.boxed d = false) (hbt : cx.boxed t = true) (hbp : ∀ q, p = some q → cx.boxed q = false) (hn : aggOf cx.P ty = some none)
    (hok : AOp.ok cx.P .undef st ver (.bload d t p none true)) (hK : OpGoal cx (AOp.next .undef st ver (.bload d t p none true)).1 ver M ds K) : o.wp cx.P ⟨tmps, ds⟩ w K Q := by
  obtain ⟨hu, _, off, hoff, hle⟩ := hok
  simp only [Option.getD_none] at hle
  obtain ⟨b, hb1, hb2, ho1, hM, vs, el, hh, hro⟩ := hR.ptr (ds := ds) hbt hu hbp hoff
  have hvl := ROs_length hro
  have hc : (st.e t).cells[off]? = some ((st.e t).cells.getD off .undef) := by simp [List.getD, List.getElem?_eq_getElem (show off < (st.e t).cells.length by omega)]
  have hv : vs[off]? = some (vs.getD off undef) := by simp [List.getD, List.getElem?_eq_getElem (show off < vs.length by omega)]
  obtain ⟨hfl, hcell⟩ := (ROs_iff.1 hro).2 off _ _ hc hv
  have hrun : (execOp (Act.eval ⟨tmps, ds⟩) o).run cx.P w = .ok (.value (vs.getD off undef)) w := by
    simp only [execOp, ho, Instr.loadAt, hb2, Instr.sureAddr]
    have := run_loadVar_pack (P := cx.P) (w := w) (b := b) (off := off) (us := [vs.getD off undef]) hn rfl
      (fun i u hu => by
        cases i with
        | zero => simp at hu; subst hu; rw [cell?_cells hh]; simpa using hv
        | succ i => simp at hu)
    simp [this, packV]
  refine wp_value hrun ?_
  rw [put_some hdst]
  let own' : Nat → Own := fun b => if own b = .spare t off then .spare d 0 else own b
  have hown : ∀ b', own' b' = .none ↔ own b' = .none := fun b' => by
    show (if own b' = .spare t off then Own.spare d 0 else own b') = .none ↔ _
    by_cases e : own b' = .spare t off
    · rw [if_pos e, e]; simp
    · rw [if_neg e]
  have hownh : ∀ b', own' b' = .heap ↔ own b' = .heap := fun b' => by
    show (if own b' = .spare t off then Own.spare d 0 else own b') = .heap ↔ _
    by_cases e : own b' = .spare t off
    · rw [if_pos e, e]; simp
    · rw [if_neg e]
  have hkeep : ∀ b', own b' ≠ .spare t off → own' b' = own b' := fun b' h => if_neg h
  have hbase : Base cx own' M w := ⟨hR.base.mem, fun b' h => hR.base.own_lt b' (fun e => h ((hown b').2 e)), fun b' h => (hR.base.own_new b' (fun e => h ((hown b').2 e))).imp id (fun x => ⟨(hownh b').2 x.1, x.2⟩), hR.base.mnew,
    fun b' h h' => hR.base.frame b' h ((hown b').1 h'), hR.base.grow, hR.base.rest⟩
  have h3 := (hR.forget t).stepX (own' := own') (M' := M) (w' := w) t (by simp [upd]) hbase (Mle.refl M) (fun b' _ _ h => ⟨hkeep b' (h off), rfl, fun _ => rfl⟩) (Nat.le_refl _)
  have hnew : ROs own' M w t 0 ((st.e t).cells.set off ((st.e t).cells.getD off .undef).un1) vs := by
    refine ROs_iff.2 ⟨by simp [hvl], fun i c u hci hui => ?_⟩
    rw [List.getElem?_set] at hci
    split at hci
    · rename_i he; subst he
      split at hci
      · cases hci
        rw [hv] at hui; cases hui
        exact ⟨hfl, RO_of_R (R_un1_of_RO hcell)⟩
      · cases hci
    · rename_i hne
      obtain ⟨g1, g2⟩ := (ROs_iff.1 hro).2 i c u hci hui
      exact ⟨g1, RO_mono (Mle.refl M) (fun b' hb' => ⟨by rw [hkeep b' (by rw [hb']; intro e; cases e; omega)]; exact hb', rfl, fun _ => rfl⟩) g2⟩
  have hcl : ((st.e t).cells.set off ((st.e t).cells.getD off .undef).un1).length = (st.e t).cells.length := by simp
  have h4 := h3.setSlot (t := t) (av := AV.ofCells (st.e t) ((st.e t).cells.set off ((st.e t).cells.getD off .undef).un1))
    (.inr ⟨_, hb1, by rw [if_pos hbt]; exact RBoxV_mk (ofCells_map hnew) ⟨by rw [hkeep b (by rw [ho1]; simp)]; exact ho1, hM, vs, el, hh, by rw [ofCells_cells hnew hcl hu.2]; exact hnew⟩⟩)
  have hcd : RV own' M w d 0 ((st.e t).cells.getD off .undef) (vs.getD off undef) := by
    have := RO_mono (own' := own') (M' := M) (w' := w) (t' := d) (j' := 0) (Mle.refl M) (fun b' hb' => ⟨by show (if own b' = .spare t off then Own.spare d 0 else own b') = _; rw [if_pos (by simpa using hb')], rfl, fun _ => rfl⟩) hcell
    generalize (st.e t).cells.getD off .undef = c at *
    cases c <;> first | exact this | skip
    simp only [RO, R] at this
    obtain ⟨vs', e, _⟩ := this
    rw [e] at hfl; cases hfl
  have h5 := h4.put_RV hd hb hcd
  refine hK M own' _ _ (Mle.refl M) ?_
  have e : (AOp.next .undef st ver (.bload d t p none true)).1 = ⟨upd (upd (upd st.e t .undef) t (AV.ofCells (st.e t) ((st.e t).cells.set off ((st.e t).cells.getD off .undef).un1))) d ((st.e t).cells.getD off .undef), st.h, st.nx⟩ := by
    simp only [AOp.next, hoff, Option.getD_some, put, if_true, subs]
    congr 1
    funext j; simp only [upd]
    by_cases h1 : j = d
    · simp [h1]
    · by_cases h2 : j = t
      · simp [h2]
      · simp [h1, h2]
  rw [e]; exact h5
end

end Go.Proofs.YtccmaeefedgcnaaGreat

namespace Go.Proofs.YtccmaeefedgcnaaGreat

theorem run_part {P : Program} {w : World} {ty : TypeId} {n : Option Nat} {vs : List Value} {off : Nat} (h : aggOf P ty = some n) (hl : off + n.getD 1 ≤ vs.length) :
    (part ty vs.toArray off).run P w = .ok (packV n ((vs.drop off).take (n.getD 1))) w := by
  have hag : ∀ d, P.underlying ty = some d → (szOf P ty).map some = some n → (isAgg ty).run P w = .ok true w → (part ty vs.toArray off).run P w = .ok (packV n ((vs.drop off).take (n.getD 1))) w := by
    intro d hd hs ha
    simp only [szOf, Option.map_eq_some_iff] at hs
    obtain ⟨k, ⟨i, hi, rfl⟩, rfl⟩ := hs
    simp only [Option.getD_some] at hl ⊢
    simp [part, ha, sizeOf, typeInfo, hi, packV, Nat.add_sub_cancel_left]
  unfold aggOf at h
  split at h
  · cases h
  · rename_i fs hu; exact hag _ hu h (by simp [isAgg, run_underlying hu])
  · rename_i m e hu; exact hag _ hu h (by simp [isAgg, run_underlying hu])
  · rename_i d hn1 hn2 hu
    cases h
    simp only [Option.getD_none] at hl ⊢
    have ha : (isAgg ty).run P w = .ok false w := by
      simp only [isAgg, Sem.run_bind, run_underlying hu, Result.andThen_ok]
      cases d <;> first | rfl | exact (hn1 _ rfl).elim | exact (hn2 _ _ rfl).elim
    have e : (vs.drop off).take 1 = [vs[off]'(by omega)] := by rw [List.drop_eq_getElem_cons (by omega)]; rfl
    have hg : vs[off]? = some (vs[off]'(by omega)) := List.getElem?_eq_getElem (by omega)
    simp [part, ha, hg, e, packV]

theorem R_agg {M : Mem} {cs : List AV} {v : Value} (h : R M (.agg cs) v) : ∃ vs : List Value, v = .agg vs.toArray ∧ (∀ u ∈ vs, flat u = true) ∧ Rs M cs vs := by
  simpa only [R] using h

section
variable {cx : Cx} {E : CE} {st : St} {ver : Nat → Nat} {M : Mem} {own : Nat → Own} {tmps : Array Value} {w : World} {ds : List Deferred}
  {o : Oper} {K : Act → World → Prop} {Q : Exit → Act → World → Prop}

theorem sound_field {s : TypeId} {d f : Nat} {x : Operand} {x' : Opd} {fs : Array Field} {fl : Field} {n : Option Nat} (hE : cx.boxed = E.boxed) (hR : Rel cx st ver M own tmps w) (ho : o.op = .field s x f) (hdst : o.dst = some d) (hd : d < cx.n)
    (hb : cx.boxed d = false) (h1 : cx.P.underlying s = some (.struct fs)) (h2 : fs[f]? = some fl) (hn : aggOf cx.P fl.type = some n) (hc : cOpdC E s x = some x')
    (hok : AOp.ok cx.P .undef st ver (.field d x' fl.offset n)) (hK : OpGoal cx (AOp.next .undef st ver (.field d x' fl.offset n)).1 ver M ds K) : o.wp cx.P ⟨tmps, ds⟩ w K Q := by
  cases hx : x'.val st <;> simp only [AOp.ok, hx] at hok
  rename_i cs
  have hxR := opdC_R hc hE hR (ds := ds) (by rw [hx]; rfl)
  rw [hx] at hxR
  obtain ⟨vs, he, hf, hs⟩ := R_agg hxR
  have hl := Rs_length hs
  simp only [AOp.next, hx] at hK
  refine sound_pure (v := packV n ((vs.drop fl.offset).take (n.getD 1))) hR hdst hd hb ?_ (R_subs hs hf hok) hK
  have := run_part (P := cx.P) (w := w) (vs := vs) (off := fl.offset) hn (by omega)
  simp [execOp, ho, Instr.field, run_underlying h1, h2, he, asAgg, this]

theorem sound_aidx {ty el : TypeId} {d len z : Nat} {x i : Operand} {x' i' : Opd} {ti : TypeId} {n : Option Nat} (hE : cx.boxed = E.boxed) (hR : Rel cx st ver M own tmps w) (ho : o.op = .index ty x i) (hdst : o.dst = some d) (hd : d < cx.n)
    (hb : cx.boxed d = false) (hu : cx.P.underlying ty = some (.array len el)) (hz : szOf cx.P el = some z) (hn : aggOf cx.P el = some n) (h1 : cOpdC E ty x = some x') (h2 : cOpdC E ti i = some i')
    (hok : AOp.ok cx.P .undef st ver (.aidx d x' i' len z n)) (hK : OpGoal cx (AOp.next .undef st ver (.aidx d x' i' len z n)).1 ver M ds K) : o.wp cx.P ⟨tmps, ds⟩ w K Q := by
  cases hx : x'.val st <;> simp only [AOp.ok, hx] at hok
  rename_i cs
  cases hi : i'.val st <;> simp only [hi] at hok
  rename_i kk k
  obtain ⟨h0, hlt, hle⟩ := hok
  have hxR := opdC_R h1 hE hR (ds := ds) (by rw [hx]; rfl)
  have hiR := opdC_R h2 hE hR (ds := ds) (by rw [hi]; rfl)
  rw [hx] at hxR; rw [hi] at hiR
  obtain ⟨vs, he, hf, hs⟩ := R_agg hxR
  simp only [R] at hiR
  have hl := Rs_length hs
  simp only [AOp.next, hx, hi, natOf] at hK
  simp only [szOf, Option.map_eq_some_iff] at hz
  obtain ⟨inf, hinf, rfl⟩ := hz
  refine sound_pure (v := packV n ((vs.drop (k.toNat * inf.size)).take (n.getD 1))) hR hdst hd hb ?_ (R_subs hs hf hle) hK
  have := run_part (P := cx.P) (w := w) (vs := vs) (off := k.toNat * inf.size) hn (by omega)
  simp [execOp, ho, Instr.index, hiR, asIntOf, run_underlying hu, he, h0, hlt, sizeOf, typeInfo, hinf, this]

theorem sound_sidx {ty : TypeId} {d : Nat} {x i : Operand} {x' i' : Opd} {ti : TypeId} (hE : cx.boxed = E.boxed) (hR : Rel cx st ver M own tmps w) (ho : o.op = .index ty x i) (hdst : o.dst = some d) (hd : d < cx.n)
    (hb : cx.boxed d = false) (hu : cx.P.underlying ty = some .string) (h1 : cOpdC E ty x = some x') (h2 : cOpdC E ti i = some i')
    (hok : AOp.ok cx.P .undef st ver (.sidx d x' i')) (hK : OpGoal cx (AOp.next .undef st ver (.sidx d x' i')).1 ver M ds K) : o.wp cx.P ⟨tmps, ds⟩ w K Q := by
  cases hx : x'.val st <;> simp only [AOp.ok, hx] at hok
  rename_i l
  cases hi : i'.val st <;> simp only [hi] at hok
  rename_i kk k
  obtain ⟨h0, hlt⟩ := hok
  have hxR := opdC_R h1 hE hR (ds := ds) (by rw [hx]; rfl)
  have hiR := opdC_R h2 hE hR (ds := ds) (by rw [hi]; rfl)
  rw [hx] at hxR; rw [hi] at hiR
  simp only [R] at hiR hxR
  simp only [AOp.next, hx, hi, natOf] at hK
  refine sound_pure (v := .int .u8 (l.getD k.toNat 0).toNat) hR hdst hd hb ?_ (by simp [R]) hK
  have hk : k.toNat < l.length := by omega
  have hg : (ByteArray.mk l.toArray)[k.toNat]? = some (l.getD k.toNat 0) := by
    show (if h : k.toNat < l.toArray.size then some (l.toArray[k.toNat]) else none) = _
    simp [hk, List.getD]
  simp [execOp, ho, Instr.index, hiR, asIntOf, run_underlying hu, hxR, h0]
  rw [hg]; simp

def toV : AV → Value
  | .int k n => .int k n
  | .bool b => .bool b
  | .str s => .string ⟨s.toArray⟩
  | _ => undef

theorem toList_mk (l : List UInt8) : (ByteArray.mk l.toArray).toList = l := by rw [ByteArray.toList_eq]
theorem mk_append (a b : List UInt8) : ByteArray.mk a.toArray ++ ByteArray.mk b.toArray = ByteArray.mk (a ++ b).toArray := by
  apply ByteArray.ext; simp
theorem size_mk (a : List UInt8) : (ByteArray.mk a.toArray).size = a.length := by
  show a.toArray.size = _; simp

theorem sound_bin {tx ty : TypeId} {d : Nat} {op : BinOp} {x y : Operand} {x' y' : Opd} {tx' ty' : TypeId} (hE : cx.boxed = E.boxed) (hR : Rel cx st ver M own tmps w) (ho : o.op = .binOp op tx x y ty) (hdst : o.dst = some d) (hd : d < cx.n)
    {bl : Bool} (hb : cx.boxed d = false) (h1 : cOpdC E tx' x = some x') (h2 : cOpdC E ty' y = some y')
    (hok : AOp.ok cx.P .undef st ver (.bin d op bl x' y')) (hbl : bl = true → cx.P.underlying tx = some .bool)
    (hK : OpGoal cx (AOp.next .undef st ver (.bin d op bl x' y')).1 ver M ds K) : o.wp cx.P ⟨tmps, ds⟩ w K Q := by
  simp only [AOp.ok] at hok
  simp only [AOp.next] at hK
  cases hx : x'.val st <;> rw [hx] at hok hK <;> cases hy : y'.val st <;> rw [hy] at hok hK <;> simp only [binOk] at hok
  case int.int k a k' b =>
    have hxR := opdC_R h1 hE hR (ds := ds) (by rw [hx]; rfl)
    have hyR := opdC_R h2 hE hR (ds := ds) (by rw [hy]; rfl)
    rw [hx] at hxR; rw [hy] at hyR
    simp only [R] at hxR hyR
    simp only [binOut] at hK
    have hg : ∀ t, (eqGuard op t x y (Value.int k a) (Value.int k' b)).run cx.P w = .ok () w := by intro t; cases op <;> simp [eqGuard]
    have key : (binOp op tx (.int k a) (.int k' b)).run cx.P w = .ok (toV (intBin op k a b)) w → o.wp cx.P ⟨tmps, ds⟩ w K Q := fun hv =>
      sound_pure (v := toV (intBin op k a b)) hR hdst hd hb (by simp [execOp, ho, hxR, hyR, hg, hv]) (by cases op <;> simp [intBin, toV, R]) hK
    cases op <;> simp only [] at hok
    case shl => exact key (by simp [binOp, Op.shift, Int.not_lt.2 hok, intBin, toV])
    case shr => exact key (by simp [binOp, Op.shift, Int.not_lt.2 hok, intBin, toV])
    case quo => obtain ⟨rfl, hne⟩ := hok; exact key (by simp [binOp, Op.intDiv, hne, intBin, toV])
    case rem => obtain ⟨rfl, hne⟩ := hok; exact key (by simp [binOp, Op.intDiv, hne, intBin, toV])
    all_goals (subst hok; exact key (by simp [binOp, Op.intArith, Op.intCmp, Op.intBits, intBin, toV]))
  case str.str a b =>
    have hxR := opdC_R h1 hE hR (ds := ds) (by rw [hx]; rfl)
    have hyR := opdC_R h2 hE hR (ds := ds) (by rw [hy]; rfl)
    rw [hx] at hxR; rw [hy] at hyR
    simp only [R] at hxR hyR
    simp only [binOut] at hK
    have hg : ∀ t, (eqGuard op t x y (Value.string ⟨a.toArray⟩) (Value.string ⟨b.toArray⟩)).run cx.P w = .ok () w := by intro t; cases op <;> simp [eqGuard]
    have key : (binOp op tx (.string ⟨a.toArray⟩) (.string ⟨b.toArray⟩)).run cx.P w = .ok (toV (strBin op a b)) w → R M (strBin op a b) (toV (strBin op a b)) → o.wp cx.P ⟨tmps, ds⟩ w K Q := fun hv hr =>
      sound_pure (v := toV (strBin op a b)) hR hdst hd hb (by simp [execOp, ho, hxR, hyR, hg, hv]) hr hK
    cases op <;> simp only [] at hok
    case add =>
      refine key ?_ (by simp [strBin, R, toV])
      have hmax : IntKind.i64.max = 9223372036854775807 := by decide
      have hno : ¬ ((((ByteArray.mk a.toArray).size + (ByteArray.mk b.toArray).size : Nat) : Int) > IntKind.i64.max) := by rw [size_mk, size_mk, hmax]; omega
      simp only [binOp, Op.stringOp]
      rw [if_neg hno, mk_append]; simp [strBin, toV]
    all_goals first
      | exact hok.elim
      | exact key (by simp [binOp, Op.stringOp, strBin, toV]) (by simp [strBin, R, toV])
  case bool.bool a b =>
    have hxR := opdC_R h1 hE hR (ds := ds) (by rw [hx]; rfl)
    have hyR := opdC_R h2 hE hR (ds := ds) (by rw [hy]; rfl)
    rw [hx] at hxR; rw [hy] at hyR
    simp only [R] at hxR hyR
    cases op <;> simp only [] at hok <;> (try exact hok.elim) <;> have hbl' := hbl hok
    case eql =>
      refine sound_pure (av := .bool (a == b)) (v := .bool (a == b)) hR hdst hd hb ?_ (by simp [R]) (by simpa [binOut] using hK)
      simp [execOp, ho, hxR, hyR, eqGuard, binOp, Op.equal, run_equalIn_bool' w _ tx a b hbl', Op.maxDepth]
    case neq =>
      refine sound_pure (av := .bool (!(a == b))) (v := .bool (!(a == b))) hR hdst hd hb ?_ (by simp [R]) (by simpa [binOut] using hK)
      simp [execOp, ho, hxR, hyR, eqGuard, binOp, Op.equal, run_equalIn_bool' w _ tx a b hbl', Op.maxDepth]

theorem sound_un {tx : TypeId} {d : Nat} {op : UnOp} {x : Operand} {x' : Opd} {tx' : TypeId} (hE : cx.boxed = E.boxed) (hR : Rel cx st ver M own tmps w) (ho : o.op = .unOp op tx x) (hdst : o.dst = some d) (hd : d < cx.n)
    (hb : cx.boxed d = false) (h1 : cOpdC E tx' x = some x')
    (hok : AOp.ok cx.P .undef st ver (.un d op x')) (hK : OpGoal cx (AOp.next .undef st ver (.un d op x')).1 ver M ds K) : o.wp cx.P ⟨tmps, ds⟩ w K Q := by
  simp only [AOp.ok] at hok
  simp only [AOp.next] at hK
  cases hx : x'.val st <;> rw [hx] at hok hK <;> simp only [unOk] at hok
  case int k n =>
    have hxR := opdC_R h1 hE hR (ds := ds) (by rw [hx]; rfl)
    rw [hx] at hxR; simp only [R] at hxR
    subst hok
    exact sound_pure (av := .int k (k.wrap (0 - n))) (v := .int k (k.wrap (0 - n))) hR hdst hd hb (by simp [execOp, ho, hxR, Op.unary, Op.intArith]) (by simp [R]) (by simpa [unOut] using hK)
  case bool b =>
    have hxR := opdC_R h1 hE hR (ds := ds) (by rw [hx]; rfl)
    rw [hx] at hxR; simp only [R] at hxR
    subst hok
    exact sound_pure (av := .bool (!b)) (v := .bool (!b)) hR hdst hd hb (by simp [execOp, ho, hxR, Op.unary]) (by simp [R]) (by simpa [unOut] using hK)

theorem sound_len {ty tx : TypeId} {d : Nat} {x : Operand} {x' : Opd} {td : TypeDesc} (hE : cx.boxed = E.boxed) (hR : Rel cx st ver M own tmps w) (ho : o.op = .call { callee := .builtin .len, args := #[x], argTypes := #[ty] }) (hdst : o.dst = some d) (hd : d < cx.n)
    (hb : cx.boxed d = false) (h1 : cOpdC E tx x = some x') (hu : cx.P.underlying ty = some td) {is : Bool} (htd : (is = true ∧ td = .string) ∨ (is = false ∧ ∃ e, td = .slice e))
    (hok : AOp.ok cx.P .undef st ver (.len d is x')) (hK : OpGoal cx (AOp.next .undef st ver (.len d is x')).1 ver M ds K) : o.wp cx.P ⟨tmps, ds⟩ w K Q := by
  simp only [AOp.ok] at hok
  simp only [AOp.next] at hK
  cases hx : x'.val st <;> rw [hx] at hok hK <;> simp only [lenOk] at hok
  case str l =>
    have hxR := opdC_R h1 hE hR (ds := ds) (by rw [hx]; rfl)
    rw [hx] at hxR; simp only [R] at hxR
    obtain rfl : td = .string := by rcases htd with ⟨_, h⟩ | ⟨h, _⟩; · exact h
                                    · rw [h] at hok; cases hok
    refine sound_pure (av := .int .i64 l.length) (v := .int .i64 l.length) hR hdst hd hb ?_ (by simp [R]) (by simpa [lenOut] using hK)
    simp [execOp, ho, resolve, invoke, builtin, Builtin.len_, run_underlying hu, hxR, goInt, size_mk]
  case slice z es =>
    have hxR := opdC_R h1 hE hR (ds := ds) (by rw [hx]; rfl)
    rw [hx] at hxR; simp only [R] at hxR
    obtain ⟨a, len, cap, he, hl, _⟩ := hxR
    obtain ⟨e, rfl⟩ : ∃ e, td = .slice e := by rcases htd with ⟨h, _⟩ | ⟨_, h⟩; · rw [h] at hok; cases hok
                                               · exact h
    refine sound_pure (av := .int .i64 es.length) (v := .int .i64 es.length) hR hdst hd hb ?_ (by simp [R]) (by simpa [lenOut] using hK)
    simp [execOp, ho, resolve, invoke, builtin, Builtin.len_, run_underlying hu, he, goInt, hl]

theorem sound_extract {d i : Nat} {x : Operand} {x' : Opd} {tx : TypeId} (hE : cx.boxed = E.boxed) (hR : Rel cx st ver M own tmps w) (ho : o.op = .extract x i) (hdst : o.dst = some d) (hd : d < cx.n)
    (hb : cx.boxed d = false) (h1 : cOpdC E tx x = some x')
    (hok : AOp.ok cx.P .undef st ver (.extract d x' i)) (hK : OpGoal cx (AOp.next .undef st ver (.extract d x' i)).1 ver M ds K) : o.wp cx.P ⟨tmps, ds⟩ w K Q := by
  cases hx : x'.val st <;> simp only [AOp.ok, hx] at hok
  rename_i vs
  have hxR := opdC_R h1 hE hR (ds := ds) (by rw [hx]; rfl)
  rw [hx] at hxR; simp only [R] at hxR
  obtain ⟨us, he, hs⟩ := hxR
  obtain ⟨h2, h3⟩ := Rs_iff.1 hs
  simp only [AOp.next, hx] at hK
  have hg : us[i]? = some (us[i]'(by omega)) := List.getElem?_eq_getElem (by omega)
  refine sound_pure (v := us[i]'(by omega)) hR hdst hd hb ?_ (h3 i _ _ (by simp [List.getD, List.getElem?_eq_getElem hok.1]) hg) hK
  simp [execOp, ho, Instr.extract, he, hg]
end

end Go.Proofs.YtccmaeefedgcnaaGreat

namespace Go.Proofs.YtccmaeefedgcnaaGreat

def cOpt (E : CE) : Option Operand → Option (Option Opd)
  | none => some none
  | some o => (cOpdC E 0 o).map some

theorem extract_mk (l : List UInt8) (a b : Nat) : (ByteArray.mk l.toArray).extract a b = ByteArray.mk ((l.take b).drop a).toArray := by
  have h := Lib.extract_data (ByteArray.mk l.toArray) a b
  rw [List.drop_take]
  generalize (ByteArray.mk l.toArray).extract a b = s at *
  rcases s with ⟨⟨x⟩⟩
  simp at h ⊢
  exact h

/-- A row of bytes reads as numbers. -/
theorem Rrow_bytes {M : Mem} : ∀ {es : List AV} {l : List UInt8} {b o : Nat}, es.mapM byteOf = some l → Rrow M 1 es b o →
    ∃ ns : List Int, ns.length = es.length ∧ ns.map (fun n => UInt8.ofNat n.toNat) = l ∧ ∀ (i : Nat) n, ns[i]? = some n → M b (o + i) = some (.int .u8 n)
  | [], l, b, o, h, _ => by simp at h; subst h; exact ⟨[], rfl, rfl, by simp⟩
  | e :: es, l, b, o, h, hr => by
    rw [Rrow_cons] at hr
    simp only [List.mapM_cons, Option.bind_eq_bind, Option.bind_eq_some_iff, Option.pure_def, Option.some.injEq] at h
    obtain ⟨x, hx, xs, hxs, rfl⟩ := h
    obtain ⟨ns, h1, h2, h3⟩ := Rrow_bytes hxs hr.2
    unfold byteOf at hx
    split at hx
    · rename_i n
      split at hx
      · cases hx
        obtain ⟨_, hm⟩ := hr.1
        simp only [AV.cells, Rmem_one] at hm
        obtain ⟨u, hu, _, hru⟩ := hm
        simp only [R] at hru; subst hru
        refine ⟨n :: ns, by simp [h1], by simp [h2], fun i m hi => ?_⟩
        cases i with
        | zero => simp at hi; subst hi; simpa using hu
        | succ i => simp at hi; have := h3 i m hi; rwa [show o + 1 + i = o + (i + 1) from by omega] at this
      · cases hx
    · cases hx

theorem foldl_push : ∀ (ns : List Int) (s : List UInt8), ns.foldl (fun r n => r.push (UInt8.ofNat n.toNat)) (ByteArray.mk s.toArray) = ByteArray.mk (s ++ ns.map fun n => UInt8.ofNat n.toNat).toArray
  | [], s => by simp
  | n :: ns, s => by
    have e : (ByteArray.mk s.toArray).push (UInt8.ofNat n.toNat) = ByteArray.mk (s ++ [UInt8.ofNat n.toNat]).toArray := by
      show ByteArray.mk (s.toArray.push _) = _; simp
    rw [List.foldl_cons, e, foldl_push ns]
    simp

section
variable {cx : Cx} {E : CE} {st : St} {ver : Nat → Nat} {M : Mem} {own : Nat → Own} {tmps : Array Value} {w : World} {ds : List Deferred}
  {o : Oper} {K : Act → World → Prop} {Q : Exit → Act → World → Prop}

theorem sound_conv_int {src dst : TypeId} {d : Nat} {k : IntKind} {x : Operand} {x' : Opd} {sd : TypeDesc} {tx : TypeId} (hE : cx.boxed = E.boxed) (hR : Rel cx st ver M own tmps w) (ho : o.op = .convert src dst x) (hdst : o.dst = some d) (hd : d < cx.n)
    (hb : cx.boxed d = false) (h1 : cOpdC E tx x = some x') (hs : cx.P.underlying src = some sd) (hdt : cx.P.underlying dst = some (.int k))
    (hok : AOp.ok cx.P .undef st ver (.conv d (.int k) x')) (hK : OpGoal cx (AOp.next .undef st ver (.conv d (.int k) x')).1 ver M ds K) : o.wp cx.P ⟨tmps, ds⟩ w K Q := by
  simp only [AOp.ok] at hok
  simp only [AOp.next] at hK
  cases hx : x'.val st <;> rw [hx] at hok hK <;> simp only [convOk, reduceCtorEq, false_and] at hok
  rename_i k' n
  have hxR := opdC_R h1 hE hR (ds := ds) (by rw [hx]; rfl)
  rw [hx] at hxR; simp only [R] at hxR
  refine sound_pure (av := .int k (k.wrap n)) (v := .int k (k.wrap n)) hR hdst hd hb ?_ (by simp [R]) (by simpa [convOut] using hK)
  simp [execOp, ho, convert, run_underlying hs, run_underlying hdt, hxR, Conv.intToInt]

theorem sound_conv_same {src dst : TypeId} {d : Nat} {x : Operand} {x' : Opd} {tx : TypeId} (hE : cx.boxed = E.boxed) (hR : Rel cx st ver M own tmps w) (ho : o.op = .convert src dst x) (hdst : o.dst = some d) (hd : d < cx.n)
    (hb : cx.boxed d = false) (h1 : cOpdC E tx x = some x') (hs : cx.P.underlying src = some .string) (hdt : cx.P.underlying dst = some .string)
    (hok : AOp.ok cx.P .undef st ver (.conv d .same x')) (hK : OpGoal cx (AOp.next .undef st ver (.conv d .same x')).1 ver M ds K) : o.wp cx.P ⟨tmps, ds⟩ w K Q := by
  simp only [AOp.ok] at hok
  simp only [AOp.next] at hK
  cases hx : x'.val st <;> rw [hx] at hok hK <;> simp only [convOk, reduceCtorEq, false_and] at hok
  rename_i l
  have hxR := opdC_R h1 hE hR (ds := ds) (by rw [hx]; rfl)
  rw [hx] at hxR; simp only [R] at hxR
  refine sound_pure (av := .str l) (v := .string ⟨l.toArray⟩) hR hdst hd hb ?_ (by simp [R]) (by simpa [convOut] using hK)
  simp [execOp, ho, convert, run_underlying hs, run_underlying hdt, hxR]

theorem sound_conv_b2s {src dst e : TypeId} {d : Nat} {x : Operand} {x' : Opd} {tx : TypeId} (hE : cx.boxed = E.boxed) (hR : Rel cx st ver M own tmps w) (ho : o.op = .convert src dst x) (hdst : o.dst = some d) (hd : d < cx.n)
    (hb : cx.boxed d = false) (h1 : cOpdC E tx x = some x') (hs : cx.P.underlying src = some (.slice e)) (he : cx.P.underlying e = some (.int .u8)) (hdt : cx.P.underlying dst = some .string)
    (hok : AOp.ok cx.P .undef st ver (.conv d .b2s x')) (hK : OpGoal cx (AOp.next .undef st ver (.conv d .b2s x')).1 ver M ds K) : o.wp cx.P ⟨tmps, ds⟩ w K Q := by
  simp only [AOp.ok] at hok
  simp only [AOp.next] at hK
  cases hx : x'.val st <;> rw [hx] at hok hK <;> simp only [convOk, reduceCtorEq] at hok
  rename_i z es
  obtain ⟨_, rfl, hsome⟩ := hok
  obtain ⟨l, hl⟩ := Option.isSome_iff_exists.1 hsome
  have hxR := opdC_R h1 hE hR (ds := ds) (by rw [hx]; rfl)
  rw [hx] at hxR; simp only [R] at hxR
  obtain ⟨a, len, cap, hv, hlen, hc, hn, hr⟩ := hxR
  refine sound_pure (av := .str l) (v := .string ⟨l.toArray⟩) hR hdst hd hb ?_ (by simp [R]) (by simpa [convOut, hl] using hK)
  have hconv := run_convert_bytes_string w src dst e a len cap hs he hdt
  simp only [execOp, ho, hv]
  rw [show (do let x ← convert src dst (Value.slice a len cap); pure (Next.value x) : Sem Next) = (convert src dst (Value.slice a len cap) >>= fun x => pure (Next.value x)) from rfl]
  rw [Sem.run_bind, hconv]
  by_cases ha : a = none
  · subst ha
    have h0 := hn rfl
    have : es = [] := by have : len = 0 := by omega
                         rw [hlen] at this; exact List.eq_nil_of_length_eq_zero this
    subst this
    simp at hl; subst hl
    simp [Conv.bytesToString]
    rfl
  by_cases hc0 : cap = 0
  · obtain ⟨ad, rfl⟩ := Option.ne_none_iff_exists'.1 ha
    have hl0 : len = 0 := by omega
    have : es = [] := by rw [hlen] at hl0; exact List.eq_nil_of_length_eq_zero hl0
    subst this
    subst hl0
    simp at hl; subst hl
    rw [run_bytesToString w ad 0 cap [] rfl]
    simp only [Result.andThen_ok, Sem.run_pure]
    rfl
  · obtain ⟨b, off, rfl, hrow⟩ := hr hc0
    obtain ⟨ns, g1, g2, g3⟩ := Rrow_bytes hl hrow
    have hcells : (loadCells ⟨b, off, none⟩ len).run cx.P w = .ok (ns.map (Value.int .u8)).toArray w := by
      have := run_loadCells_list (P := cx.P) w ⟨b, off, none⟩ (ns.map (Value.int .u8)) (fun j v hj => by
        rw [Addr.add_lit]
        simp only [List.getElem?_map, Option.map_eq_some_iff] at hj
        obtain ⟨n, hj, rfl⟩ := hj
        exact hR.base.mem _ _ _ (g3 j n hj))
      rwa [List.length_map, g1, ← hlen] at this
    rw [run_bytesToString w ⟨b, off, none⟩ len cap ns hcells]
    simp only [Result.andThen_ok, Sem.run_pure]
    have := foldl_push ns []
    simp only [List.nil_append, g2] at this
    rw [← this]; rfl

theorem optNat_spec {lo : Option Operand} {lo' : Option Opd} {dflt a : Nat} (hE : cx.boxed = E.boxed) (hR : Rel cx st ver M own tmps w) (hc : cOpt E lo = some lo') (h : optNat st dflt lo' = some a) :
    (lo = none ∧ a = dflt) ∨ ∃ x k n, lo = some x ∧ Act.eval ⟨tmps, ds⟩ x = .int k n ∧ 0 ≤ n ∧ n = (a : Int) := by
  cases lo with
  | none => simp only [cOpt, Option.some.injEq] at hc; subst hc; simp only [optNat, Option.some.injEq] at h; exact .inl ⟨rfl, h.symm⟩
  | some x =>
    simp only [cOpt, Option.map_eq_some_iff] at hc
    obtain ⟨x', hc, rfl⟩ := hc
    simp only [optNat] at h
    cases hx : x'.val st <;> rw [hx] at h <;> simp only [toNatAV, reduceCtorEq] at h
    rename_i k n
    split at h
    · cases h
      have hxR := opdC_R hc hE hR (ds := ds) (by rw [hx]; rfl)
      rw [hx] at hxR; simp only [R] at hxR
      exact .inr ⟨x, k, n, rfl, hxR, ‹_›, by omega⟩
    · cases h

theorem run_sliceBound {P : Program} {k : IntKind} {a y : Nat} {c : BoundsCode} (h : a ≤ y) : (Instr.sliceBound (.int k (a : Int)) y c).run P w = .ok a w := by
  have h' : (0 : Int) ≤ (a : Int) ∧ (a : Int) ≤ (y : Int) := ⟨by omega, by omega⟩
  simp [Instr.sliceBound, asIntOf, h]

theorem run_sliceBounds {P : Program} {s : Bool} {ln cap a b : Nat} {lo hi : Option Operand} (h1 : (lo = none ∧ a = 0) ∨ ∃ x k n, lo = some x ∧ Act.eval ⟨tmps, ds⟩ x = .int k n ∧ 0 ≤ n ∧ n = (a : Int))
    (h2 : (hi = none ∧ b = ln) ∨ ∃ x k n, hi = some x ∧ Act.eval ⟨tmps, ds⟩ x = .int k n ∧ 0 ≤ n ∧ n = (b : Int)) (hab : a ≤ b) (hbl : b ≤ ln) (hlc : ln ≤ cap) :
    (Instr.sliceBounds s ln cap (lo.map (Act.eval ⟨tmps, ds⟩)) (hi.map (Act.eval ⟨tmps, ds⟩)) none).run P w = .ok (a, b, cap) w := by
  have hbc : b ≤ cap := by omega
  rcases h1 with ⟨rfl, rfl⟩ | ⟨x, k, n, rfl, hx, _, rfl⟩ <;> rcases h2 with ⟨rfl, rfl⟩ | ⟨y, k', n', rfl, hy, _, rfl⟩
  · simp [Instr.sliceBounds]
  · simp [Instr.sliceBounds, hy, run_sliceBound hbc]
  · simp [Instr.sliceBounds, hx, run_sliceBound hab]
  · simp [Instr.sliceBounds, hx, hy, run_sliceBound hbc, run_sliceBound hab]

theorem sound_sslice {ty : TypeId} {d : Nat} {x : Operand} {lo hi : Option Operand} {x' : Opd} {lo' hi' : Option Opd} (hE : cx.boxed = E.boxed) (hR : Rel cx st ver M own tmps w) (ho : o.op = .slice ty x lo hi none) (hdst : o.dst = some d) (hd : d < cx.n)
    (hb : cx.boxed d = false) (hu : cx.P.underlying ty = some .string) (h1 : cOpdC E ty x = some x') (h2 : cOpt E lo = some lo') (h3 : cOpt E hi = some hi')
    (hok : AOp.ok cx.P .undef st ver (.sslice d x' lo' hi')) (hK : OpGoal cx (AOp.next .undef st ver (.sslice d x' lo' hi')).1 ver M ds K) : o.wp cx.P ⟨tmps, ds⟩ w K Q := by
  cases hx : x'.val st <;> simp only [AOp.ok, hx] at hok
  rename_i l
  obtain ⟨a, b, ha, hbb, hab, hbl⟩ := hok
  have hxR := opdC_R h1 hE hR (ds := ds) (by rw [hx]; rfl)
  rw [hx] at hxR; simp only [R] at hxR
  simp only [AOp.next, hx, ha, hbb, Option.getD_some] at hK
  refine sound_pure (av := .str ((l.take b).drop a)) (v := .string ⟨((l.take b).drop a).toArray⟩) hR hdst hd hb ?_ (by simp [R]) hK
  have hbd := run_sliceBounds (P := cx.P) (s := false) (cap := l.length) (w := w) (optNat_spec (ds := ds) hE hR h2 ha) (optNat_spec (ds := ds) hE hR h3 hbb) hab hbl (Nat.le_refl _)
  simp [execOp, ho, Instr.sliceAt, run_underlying hu, Instr.slice, hxR, size_mk, hbd, extract_mk]

theorem sound_lslice {ty el : TypeId} {d z : Nat} {x : Operand} {lo hi : Option Operand} {x' : Opd} {lo' hi' : Option Opd} (hE : cx.boxed = E.boxed) (hR : Rel cx st ver M own tmps w) (ho : o.op = .slice ty x lo hi none) (hdst : o.dst = some d) (hd : d < cx.n)
    (hb : cx.boxed d = false) (hu : cx.P.underlying ty = some (.slice el)) (hz : szOf cx.P el = some z) (h1 : cOpdC E ty x = some x') (h2 : cOpt E lo = some lo') (h3 : cOpt E hi = some hi')
    (hok : AOp.ok cx.P .undef st ver (.lslice d x' lo' hi' z)) (hK : OpGoal cx (AOp.next .undef st ver (.lslice d x' lo' hi' z)).1 ver M ds K) : o.wp cx.P ⟨tmps, ds⟩ w K Q := by
  cases hx : x'.val st <;> simp only [AOp.ok, hx] at hok
  rename_i z' es
  obtain ⟨rfl, a, b, ha, hbb, hab, hbl⟩ := hok
  have hxR := opdC_R h1 hE hR (ds := ds) (by rw [hx]; rfl)
  rw [hx] at hxR; simp only [R] at hxR
  obtain ⟨ad, len, cap, hv, hlen, hc, hn, hr⟩ := hxR
  simp only [AOp.next, hx, ha, hbb, Option.getD_some] at hK
  simp only [szOf, Option.map_eq_some_iff] at hz
  obtain ⟨inf, hinf, rfl⟩ := hz
  subst hlen
  have hbd := run_sliceBounds (P := cx.P) (s := true) (cap := cap) (w := w) (optNat_spec (ds := ds) hE hR h2 ha) (optNat_spec (ds := ds) hE hR h3 hbb) hab hbl hc
  refine sound_pure (av := .slice inf.size ((es.take b).drop a)) (v := .slice (if cap = a then ad else ad.map (·.add (a * inf.size))) (b - a) (cap - a)) hR hdst hd hb ?_ ?_ hK
  · simp [execOp, ho, Instr.sliceAt, run_underlying hu, Instr.slice, hv, hbd, sizeOf, typeInfo, hinf]
  · simp only [R]
    refine ⟨_, _, _, rfl, by simp; omega, by omega, ?_, ?_⟩
    · intro he
      split at he
      · omega
      · simp only [Option.map_eq_none_iff] at he; have := hn he; omega
    · intro hne
      obtain ⟨bk, off, rfl, hrow⟩ := hr (by omega)
      have hca : ¬ cap = a := by omega
      · rw [if_neg hca]
        exact ⟨bk, off + a * inf.size, by simp [Addr.add_lit], Rrow_drop a (Rrow_take b hrow)⟩
end

end Go.Proofs.YtccmaeefedgcnaaGreat

namespace Go.Proofs.YtccmaeefedgcnaaGreat

theorem foldl_set : ∀ (us : List Value) (k off : Nat) (cells : Array Value), off + k + us.length ≤ cells.size →
    ((us.zipIdx k).foldl (fun cs x => cs.setIfInBounds (off + x.2) x.1) cells).toList = cells.toList.take (off + k) ++ us ++ cells.toList.drop (off + k + us.length)
  | [], k, off, cells, _ => by simp
  | u :: us, k, off, cells, h => by
    simp only [List.length_cons] at h
    simp only [List.zipIdx_cons, List.foldl_cons]
    have ih := foldl_set us (k + 1) off (cells.setIfInBounds (off + k) u) (by simp; omega)
    rw [ih]
    have := list_seg_step cells.toList (off + k) u us (by simp; omega)
    simp only [Array.toList_setIfInBounds, List.length_cons]
    rw [← this]
    simp [Nat.add_assoc]

theorem fill_step {place : Nat → Option (Nat × Nat)} {cells : Array Value} {i off size : Nat} {v : Value} {us : List Value} {rest : List (Nat × Value)}
    (hp : place i = some (off, size)) (hv : v.cells = us.toArray) (hs : us.length = size) (hle : off + size ≤ cells.size) :
    Instr.fill place cells ((i, v) :: rest) = Instr.fill place (cells.toList.take off ++ us ++ cells.toList.drop (off + us.length)).toArray rest := by
  have hcond : (v.cells.size ≠ size || off + v.cells.size > cells.size) = false := by simp [hv, hs]; omega
  simp only [Instr.fill, hp, hcond, Bool.false_eq_true, if_false]
  congr 1
  apply Array.ext'
  rw [hv]
  have := foldl_set us 0 off cells (by omega)
  simp only [Nat.add_zero] at this
  simpa using this

section
variable {cx : Cx} {E : CE} {st : St} {ver : Nat → Nat} {M : Mem} {own : Nat → Own} {tmps : Array Value} {w : World} {ds : List Deferred}
  {o : Oper} {K : Act → World → Prop} {Q : Exit → Act → World → Prop}

/-- The parts of a literal, compiled: the field's number, the operand; where it lies, its size, the operand. -/
def PartsC (E : CE) (place : Nat → Option (Nat × Nat)) : List (Nat × Operand) → List (Nat × Nat × Opd) → Prop
  | [], [] => True
  | (i, x) :: ps, (off, sz, x') :: qs => place i = some (off, sz) ∧ (∃ ty, cOpdC E ty x = some x') ∧ PartsC E place ps qs
  | _, _ => False

theorem R_solid_cells {av : AV} {v : Value} (h : R M av v) (hs : av.solid = true) (t k : Nat) : ∃ us : List Value, v.cells = us.toArray ∧ us.length = av.cells.length ∧ ROs own M w t k av.cells us := by
  obtain ⟨us, h1, h2⟩ := RV_ROs (RV_of_R (own := own) (w := w) (t := t) (j := k) h) hs
  exact ⟨us, h1, ROs_length h2, h2⟩

theorem fill_parts {place : Nat → Option (Nat × Nat)} (hE : cx.boxed = E.boxed) (hR : Rel cx st ver M own tmps w) (d : Nat) : ∀ {ps : List (Nat × Operand)} {qs : List (Nat × Nat × Opd)} {cs : List AV} {vs : List Value},
    PartsC E place ps qs → partsOk st cs.length qs → ROs own M w d 0 cs vs →
    ∃ us : List Value, Instr.fill place vs.toArray (ps.map fun (i, x) => (i, Act.eval ⟨tmps, ds⟩ x)) = some us.toArray ∧ ROs own M w d 0 (fillParts st cs qs) us
  | [], [], cs, vs, _, _, h => ⟨vs, rfl, h⟩
  | (i, x) :: ps, (off, sz, x') :: qs, cs, vs, hp, hok, h => by
    obtain ⟨h1, ⟨ty, h2⟩, h3⟩ := hp
    obtain ⟨⟨g1, g2, g3⟩, g4⟩ := hok
    have hx := opdC_R h2 hE hR (ds := ds) (solid_data g1)
    obtain ⟨us, e1, e2, e3⟩ := R_solid_cells (own := own) (w := w) hx g1 d off
    have hl := ROs_length h
    have hnew := ROs_setRange h e3 (by omega)
    have hlen : (setRange cs off (x'.val st).cells).length = cs.length := by simp [setRange]; omega
    obtain ⟨us', f1, f2⟩ := fill_parts hE hR d h3 (by rw [hlen]; exact g4) hnew
    refine ⟨us', ?_, f2⟩
    simp only [List.map_cons]
    rw [fill_step h1 e1 (by omega) (by simp; omega)]
    simpa using f1
  | [], _ :: _, _, _, hp, _, _ => hp.elim
  | _ :: _, [], _, _, hp, _, _ => hp.elim

theorem sound_build_struct {ty : TypeId} {d : Nat} {parts : Array (Nat × Operand)} {qs : List (Nat × Nat × Opd)} {z : List AV} {fs : Array Field} {places : List (Nat × Nat)} (hE : cx.boxed = E.boxed) (hR : Rel cx st ver M own tmps w)
    (ho : o.op = .build ty parts) (hdst : o.dst = some d) (hd : d < cx.n) (hb : cx.boxed d = false) (hu : cx.P.underlying ty = some (.struct fs)) (hz : zeroOf cx.P ty = some z)
    (hpl : fs.toList.mapM (fun f => (szOf cx.P f.type).map fun s => (f.offset, s)) = some places) (hp : PartsC E (places.toArray[·]?) parts.toList qs)
    (hok : AOp.ok cx.P .undef st ver (.build d z qs)) (hK : OpGoal cx (AOp.next .undef st ver (.build d z qs)).1 ver M ds K) : o.wp cx.P ⟨tmps, ds⟩ w K Q := by
  obtain ⟨inf, zv, h1, h2, h3⟩ := zeroOf_spec hz
  obtain ⟨us, g1, g2⟩ := fill_parts (ds := ds) hE hR d hp hok (chkCs_ROs h3 own M w d 0)
  have hplaces : (fs.mapM fun f => (do pure (f.offset, ← sizeOf f.type) : Sem (Nat × Nat))).run cx.P w = .ok places.toArray w := by
    have key : ∀ (l : List Field) (ps : List (Nat × Nat)), l.mapM (fun f => (szOf cx.P f.type).map fun s => (f.offset, s)) = some ps →
        (l.mapM fun f => (do pure (f.offset, ← sizeOf f.type) : Sem (Nat × Nat))).run cx.P w = .ok ps w := by
      intro l
      induction l with
      | nil => intro ps h; simp at h; subst h; simp
      | cons f l ih =>
        intro ps h
        simp only [List.mapM_cons, Option.bind_eq_bind, Option.bind_eq_some_iff, Option.pure_def, Option.some.injEq, Option.map_eq_some_iff, szOf] at h
        obtain ⟨p, ⟨s, ⟨i, hi, rfl⟩, rfl⟩, ps', hps, rfl⟩ := h
        have := ih ps' (by simpa [szOf] using hps)
        have hsz : (sizeOf f.type).run cx.P w = .ok i.size w := by simp [sizeOf, typeInfo, hi]
        simp only [List.mapM_cons, Sem.run_bind, hsz, Result.andThen_ok, Sem.run_pure, this]
    have hk := key fs.toList places hpl
    rw [Array.mapM_eq_mapM_toList, Sem.run_map, hk]
    rfl
  have hrun : (execOp (Act.eval ⟨tmps, ds⟩) o).run cx.P w = .ok (.value (.agg us.toArray)) w := by
    have e : ((parts.map fun (i, x) => (i, Act.eval ⟨tmps, ds⟩ x)).toList) = parts.toList.map fun (i, x) => (i, Act.eval ⟨tmps, ds⟩ x) := by simp
    simp only [execOp, ho, Instr.build]
    simp only [Sem.run_bind, zeroValue, typeInfo, run_program, Result.andThen_ok, h1, h2, Sem.run_pure, run_underlying hu, hplaces, e]
    simp only [Array.toArray_toList] at g1
    rw [g1]
    rfl
  refine wp_value hrun ?_
  rw [put_some hdst]
  refine hK M own _ w (Mle.refl M) ?_
  simp only [AOp.next]
  exact hR.put_RV hd hb (by simp only [RV]; exact ⟨us, rfl, g2⟩)

theorem sound_build_array {ty el : TypeId} {d ln sz : Nat} {parts : Array (Nat × Operand)} {qs : List (Nat × Nat × Opd)} {z : List AV} (hE : cx.boxed = E.boxed) (hR : Rel cx st ver M own tmps w)
    (ho : o.op = .build ty parts) (hdst : o.dst = some d) (hd : d < cx.n) (hb : cx.boxed d = false) (hu : cx.P.underlying ty = some (.array ln el)) (hz : zeroOf cx.P ty = some z)
    (hsz : szOf cx.P el = some sz) (hp : PartsC E (fun i => some (i * sz, sz)) parts.toList qs)
    (hok : AOp.ok cx.P .undef st ver (.build d z qs)) (hK : OpGoal cx (AOp.next .undef st ver (.build d z qs)).1 ver M ds K) : o.wp cx.P ⟨tmps, ds⟩ w K Q := by
  obtain ⟨inf, zv, h1, h2, h3⟩ := zeroOf_spec hz
  obtain ⟨us, g1, g2⟩ := fill_parts (ds := ds) hE hR d hp hok (chkCs_ROs h3 own M w d 0)
  simp only [szOf, Option.map_eq_some_iff] at hsz
  obtain ⟨i2, hi2, rfl⟩ := hsz
  have hrun : (execOp (Act.eval ⟨tmps, ds⟩) o).run cx.P w = .ok (.value (.agg us.toArray)) w := by
    have e : ((parts.map fun (i, x) => (i, Act.eval ⟨tmps, ds⟩ x)).toList) = parts.toList.map fun (i, x) => (i, Act.eval ⟨tmps, ds⟩ x) := by simp
    have hs2 : (sizeOf el).run cx.P w = .ok i2.size w := by simp [sizeOf, typeInfo, hi2]
    simp only [execOp, ho, Instr.build]
    simp only [Sem.run_bind, zeroValue, typeInfo, run_program, Result.andThen_ok, h1, h2, Sem.run_pure, run_underlying hu, hs2, e]
    simp only [Array.toArray_toList] at g1
    rw [g1]
    rfl
  refine wp_value hrun ?_
  rw [put_some hdst]
  refine hK M own _ w (Mle.refl M) ?_
  simp only [AOp.next]
  exact hR.put_RV hd hb (by simp only [RV]; exact ⟨us, rfl, g2⟩)

theorem RowL_length {M : Mem} {z : Nat} : ∀ {es : List AV} {us : List Value}, RowL M z es us → us.length = es.length * z
  | [], us, h => by simp only [RowL] at h; subst h; simp
  | e :: es, us, h => by
    obtain ⟨u1, u2, rfl, h1, _, h3, h4⟩ := h
    have := RowL_length h4
    have := Rs_length h3
    simp [Nat.add_mul]; omega

theorem RowL_flat {M : Mem} {z : Nat} : ∀ {es : List AV} {us : List Value}, RowL M z es us → ∀ u ∈ us, flat u = true
  | [], us, h => by simp only [RowL] at h; subst h; simp
  | e :: es, us, h => by
    obtain ⟨u1, u2, rfl, _, h2, _, h4⟩ := h
    intro u hu
    rcases List.mem_append.1 hu with h | h
    · exact h2 u h
    · exact RowL_flat h4 u h

theorem RowL_append {M : Mem} {z : Nat} : ∀ {es fs : List AV} {us vs : List Value}, RowL M z es us → RowL M z fs vs → RowL M z (es ++ fs) (us ++ vs)
  | [], fs, us, vs, h, h' => by simp only [RowL] at h; subst h; simpa using h'
  | e :: es, fs, us, vs, h, h' => by
    obtain ⟨u1, u2, rfl, h1, h2, h3, h4⟩ := h
    exact ⟨u1, u2 ++ vs, by simp, h1, h2, h3, RowL_append h4 h'⟩

theorem Rrow_list {M : Mem} {z : Nat} : ∀ {es : List AV} {b o : Nat}, Rrow M z es b o → ∃ us, RowL M z es us ∧ ∀ (i : Nat) u, us[i]? = some u → M b (o + i) = some u
  | [], b, o, _ => ⟨[], rfl, by simp⟩
  | e :: es, b, o, h => by
    rw [Rrow_cons] at h
    obtain ⟨u1, h1, h2, h3, h4⟩ := Rmem_list h.1.2
    obtain ⟨u2, g1, g2⟩ := Rrow_list h.2
    refine ⟨u1 ++ u2, ⟨u1, u2, rfl, h.1.1, h3, h2, g1⟩, fun i u hu => ?_⟩
    have hl : u1.length = z := by rw [h1, h.1.1]
    rw [List.getElem?_append] at hu
    split at hu
    · exact h4 i u hu
    · have := g2 _ u hu
      rwa [show o + z + (i - u1.length) = o + i from by omega] at this

theorem Rmem_of_list {M M' : Mem} (hm : Mle M M') : ∀ {cs : List AV} {us : List Value} {b o : Nat}, Rs M cs us → (∀ u ∈ us, flat u = true) → (∀ (i : Nat) u, us[i]? = some u → M' b (o + i) = some u) → Rmem M' cs b o
  | [], us, b, o, _, _, _ => by simp [Rmem]
  | c :: cs, us, b, o, h, hf, hM => by
    simp only [Rs] at h
    obtain ⟨u, us', rfl, hu, hs⟩ := h
    simp only [Rmem]
    refine ⟨⟨u, hM 0 u rfl, hf u (by simp), R_mono hm _ _ hu⟩, Rmem_of_list hm hs (fun x hx => hf x (by simp [hx])) (fun i x hx => ?_)⟩
    have := hM (i + 1) x (by simpa using hx)
    rwa [show o + (i + 1) = o + 1 + i from by omega] at this

theorem Rrow_of_list {M M' : Mem} (hm : Mle M M') {z : Nat} : ∀ {es : List AV} {us : List Value} {b o : Nat}, RowL M z es us → (∀ (i : Nat) u, us[i]? = some u → M' b (o + i) = some u) → Rrow M' z es b o
  | [], us, b, o, _, _ => by simp [Rrow]
  | e :: es, us, b, o, h, hM => by
    obtain ⟨u1, u2, rfl, h1, h2, h3, h4⟩ := h
    have hl := Rs_length h3
    rw [Rrow_cons]
    refine ⟨⟨h1, Rmem_of_list hm h3 h2 (fun i u hu => hM i u (by rw [List.getElem?_append_left (List.getElem?_eq_some_iff.1 hu).1]; exact hu))⟩, Rrow_of_list hm h4 (fun i u hu => ?_)⟩
    have := hM (u1.length + i) u (by rw [List.getElem?_append_right (by omega)]; simpa using hu)
    rwa [show o + (u1.length + i) = o + z + i from by omega] at this

/-- The elements of a slice's literal, compiled. -/
def ElemsC (E : CE) : Nat → List (Nat × Operand) → List Opd → Prop
  | _, [], [] => True
  | k, (i, x) :: ps, x' :: qs => i = k ∧ (∃ ty, cOpdC E ty x = some x') ∧ ElemsC E (k + 1) ps qs
  | _, _, _ => False

theorem fill_elems {z : Nat} (hE : cx.boxed = E.boxed) (hR : Rel cx st ver M own tmps w) : ∀ {ps : List (Nat × Operand)} {qs : List Opd} {k : Nat} {dn rest : List Value},
    ElemsC E k ps qs → elemsOk st z qs → dn.length = k * z → rest.length = ps.length * z →
    ∃ us : List Value, Instr.fill (fun i => some (i * z, z)) (dn ++ rest).toArray (ps.map fun (i, x) => (i, Act.eval ⟨tmps, ds⟩ x)) = some (dn ++ us).toArray ∧ RowL M z (qs.map (Opd.val st)) us
  | [], [], k, dn, rest, _, _, _, hr => by
    have : rest = [] := List.eq_nil_of_length_eq_zero (by simpa using hr)
    subst this
    exact ⟨[], rfl, rfl⟩
  | (i, x) :: ps, x' :: qs, k, dn, rest, hp, hok, hd, hr => by
    obtain ⟨rfl, ⟨ty, h2⟩, h3⟩ := hp
    obtain ⟨⟨g1, g2⟩, g4⟩ := hok
    have hx := opdC_R h2 hE hR (ds := ds) (solid_data g1)
    obtain ⟨us, e1, e2, e3⟩ := R_solid_cells (own := own) (w := w) hx g1 0 0
    have hfl : (∀ u ∈ us, flat u = true) ∧ Rs M (x'.val st).cells us := by
      by_cases ha : ∃ cs, x'.val st = .agg cs
      · obtain ⟨cs, ha⟩ := ha
        rw [ha] at hx ⊢
        obtain ⟨vs, hv, f1, f2⟩ := R_agg hx
        rw [hv] at e1
        have : vs = us := by simpa [Value.cells] using e1
        subst this
        exact ⟨f1, f2⟩
      · have ha' : ∀ cs, x'.val st ≠ .agg cs := fun cs e => ha ⟨cs, e⟩
        have hc : (x'.val st).cells = [x'.val st] := by
          have g1' := g1
          generalize x'.val st = av at ha' g1'
          cases av <;> first | rfl | (cases g1'; done) | exact absurd rfl (ha' _)
        have hf := R_flat hx g1 ha'
        have hvc : (Act.eval ⟨tmps, ds⟩ x).cells = #[Act.eval ⟨tmps, ds⟩ x] := by
          generalize Act.eval ⟨tmps, ds⟩ x = v at hf
          cases v <;> first | rfl | cases hf
        rw [hvc] at e1
        have : us = [Act.eval ⟨tmps, ds⟩ x] := by
          have := congrArg Array.toList e1
          simpa using this.symm
        subst this
        rw [hc]
        exact ⟨by simpa using hf, _, _, rfl, hx, rfl⟩
    have hl2 : us.length = z := by omega
    simp only [List.length_cons, Nat.add_mul, Nat.one_mul] at hr
    have hz2 : z ≤ rest.length := by omega
    have e4 : (dn ++ rest).take (i * z) ++ us ++ (dn ++ rest).drop (i * z + us.length) = (dn ++ us) ++ rest.drop z := by
      rw [← hd, hl2, List.take_left, ← List.drop_drop, List.drop_left]
    obtain ⟨us', f1, f2⟩ := fill_elems hE hR (dn := dn ++ us) (rest := rest.drop z) h3 g4 (by simp [Nat.add_mul]; omega) (by simp; omega)
    refine ⟨us ++ us', ?_, ⟨us, us', rfl, g2, hfl.1, hfl.2, f2⟩⟩
    simp only [List.map_cons]
    rw [fill_step (us := us) (off := i * z) (size := z) rfl e1 hl2 (by simp; omega)]
    simp only []
    rw [e4, f1]
    simp
  | [], _ :: _, _, _, _, hp, _, _, _ => hp.elim
  | _ :: _, [], _, _, _, hp, _, _, _ => hp.elim

theorem sound_mkslice {ty el : TypeId} {d ln z : Nat} {parts : Array (Nat × Operand)} {qs : List Opd} {zc : List AV} (hE : cx.boxed = E.boxed) (hR : Rel cx st ver M own tmps w)
    (ho : o.op = .buildSlice ty ln parts) (hdst : o.dst = some d) (hd : d < cx.n) (hb : cx.boxed d = false) (hu : cx.P.underlying ty = some (.slice el)) (hz : zeroOf cx.P el = some zc)
    (hsz : szOf cx.P el = some z) (hln : parts.toList.length = ln) (hbig : ln * z ≤ 16777216) (hp : ElemsC E 0 parts.toList qs)
    (hok : AOp.ok cx.P .undef st ver (.mkslice d z qs)) (hK : OpGoal cx (AOp.next .undef st ver (.mkslice d z qs)).1 ver M ds K) : o.wp cx.P ⟨tmps, ds⟩ w K Q := by
  obtain ⟨inf, zv, h1, h2, h3⟩ := zeroOf_spec hz
  simp only [szOf, Option.map_eq_some_iff] at hsz
  obtain ⟨i2, hi2, rfl⟩ := hsz
  rw [h1] at hi2; cases hi2
  have hqs : qs.length = ln := by
    rw [← hln]
    have : ∀ (k : Nat) (ps : List (Nat × Operand)) (qs : List Opd), ElemsC E k ps qs → qs.length = ps.length := by
      intro k ps
      induction ps generalizing k with
      | nil => intro qs h; cases qs with | nil => rfl | cons _ _ => exact h.elim
      | cons p ps ih => intro qs h; cases qs with | nil => exact h.elim | cons q qs => simp [ih (k + 1) qs h.2.2]
    exact this 0 _ _ hp
  have key : ∀ cells : Array Value, cells.size = ln * inf.size → ∃ us : List Value, Instr.fill (fun i => some (i * inf.size, inf.size)) cells (parts.toList.map fun (i, x) => (i, Act.eval ⟨tmps, ds⟩ x)) = some us.toArray ∧ RowL M inf.size (qs.map (Opd.val st)) us := by
    intro cells hcs
    obtain ⟨us, f1, f2⟩ := fill_elems (ds := ds) hE hR (dn := []) (rest := cells.toList) hp hok (by simp) (by simp [hcs, hln])
    exact ⟨us, by simpa using f1, f2⟩
  have hbig' : ¬ (16777216 < ln * inf.size) := by omega
  have e : ((parts.map fun (i, x) => (i, Act.eval ⟨tmps, ds⟩ x)).toList) = parts.toList.map fun (i, x) => (i, Act.eval ⟨tmps, ds⟩ x) := by simp
  obtain ⟨us, hrun, hrow⟩ : ∃ us : List Value, (execOp (Act.eval ⟨tmps, ds⟩) o).run cx.P w = .ok (.value (.slice (some ⟨w.heap.size, 0, none⟩) ln ln)) (pushW w (.cells us.toArray el (0, 0)) w.drawn) ∧ RowL M inf.size (qs.map (Opd.val st)) us := by
    have hs2 : (sizeOf el).run cx.P w = .ok inf.size w := by simp [sizeOf, typeInfo, h1]
    by_cases h0 : ln * inf.size = 0
    · obtain ⟨us, f1, f2⟩ := key ((Array.range (ln * inf.size)).map fun k => ((#[] : Array Value)[k % (#[] : Array Value).size]!)) (by simp)
      refine ⟨us, ?_, f2⟩
      simp only [execOp, ho, Instr.buildSlice]
      simp only [Sem.run_bind, run_underlying hu, Result.andThen_ok, hs2, Sem.run_ite, Sem.run_pure, h0, if_true, e]
      simp only [h0] at f1
      rw [f1]
      simp [newRow, pushW]
    · obtain ⟨us, f1, f2⟩ := key ((Array.range (ln * inf.size)).map fun k => (zv.cells[k % zv.cells.size]!)) (by simp)
      refine ⟨us, ?_, f2⟩
      have hz0 : (zeroValue el).run cx.P w = .ok zv w := by simp [zeroValue, typeInfo, h1, h2]
      simp only [execOp, ho, Instr.buildSlice]
      simp only [Sem.run_bind, run_underlying hu, Result.andThen_ok, hs2, Sem.run_ite, show ¬ (ln * inf.size > 2 ^ 24) from by omega, if_false, Sem.run_pure, h0, hz0, e]
      rw [f1]
      simp [newRow, pushW]
  refine wp_value hrun ?_
  rw [put_some hdst]
  have hl := RowL_length hrow
  simp only [List.length_map, hqs] at hl
  have hp2 := hR.push (.cells us.toArray el (0, 0)) .none (fun k => us[k]?) w.drawn (fun k u hk => ⟨us.toArray, el, (0, 0), rfl, by simpa using hk⟩)
  refine hK (pushM M w.heap.size fun k => us[k]?) (upd own w.heap.size .none) _ _ (hR.base.pushMle _) ?_
  simp only [AOp.next]
  refine hp2.put_RV hd hb ?_
  simp only [RV, RO]
  refine ⟨_, ln, ln, rfl, by simp [hqs], Nat.le_refl _, (by simp), fun _ => ⟨w.heap.size, 0, rfl, Rrow_of_list (hR.base.pushMle _) hrow (fun i u hu => by simp [pushM, hu]), .inl rfl⟩⟩
end

end Go.Proofs.YtccmaeefedgcnaaGreat

namespace Go.Proofs.YtccmaeefedgcnaaGreat

theorem run_append_idle {P : Program} {w : World} {t ty e : TypeId} {i : TypeInfo} (ht : P.underlying t = some (.slice e)) (hi : P.info? e = some i) (a : Option Addr) (sLen sCap : Nat) (x : Option Addr) (c : Nat) (h : sLen ≤ sCap) :
    (Builtin.append_ #[t, t] ty #[.slice a sLen sCap, .slice x 0 c]).run P w = .ok (.slice a sLen sCap) w := by
  have hf : (Builtin.firstCells i.size 0 (.slice x 0 c)).run P w = .ok #[] w := by
    cases x <;> simp [Builtin.firstCells, loadCells, loadCellsFrom]
  cases a <;> simp [Builtin.append_, run_underlying ht, sizeOf, typeInfo, hi, Builtin.lenOf, h, hf, storeCells]

theorem run_append_inplace {P : Program} {w : World} {t ty e el : TypeId} {i : TypeInfo} (ht : P.underlying t = some (.slice e)) (hi : P.info? e = some i)
    (g off sLen sCap : Nat) (cur : Array Value) (hg : w.heap[g]? = some (.cells cur el (0, 0)))
    (a : Addr) (m c : Nat) (news : List Value) (hl : news.length = m * i.size) (hnews : ∀ j u, news[j]? = some u → w.cell? (a.add j) = some u) (h1 : ∀ u ∈ news, u.oneCell' = true)
    (hroom : sLen + m ≤ sCap) (hfit : off + sLen * i.size + news.length ≤ cur.size) :
    (Builtin.append_ #[t, t] ty #[.slice (some ⟨g, off, none⟩) sLen sCap, .slice (some a) m c]).run P w =
      .ok (.slice (some ⟨g, off, none⟩) (sLen + m) sCap) (w.setRow g (cur.toList.take (off + sLen * i.size) ++ news ++ cur.toList.drop (off + sLen * i.size + news.length)).toArray) := by
  have hf := run_firstCells_some (P := P) w i.size m a m c news hl hnews
  have hst := run_storeCells_at P g (off + sLen * i.size) el news 0 cur w hg (by simpa using hfit) h1
  simp only [Nat.add_zero] at hst
  simp [Builtin.append_, run_underlying ht, sizeOf, typeInfo, hi, Builtin.lenOf, hroom, hf, Addr.add_lit, hst]

section
variable {cx : Cx} {E : CE} {st : St} {ver : Nat → Nat} {M : Mem} {own : Nat → Own} {tmps : Array Value} {w : World} {ds : List Deferred}
  {o : Oper} {K : Act → World → Prop} {Q : Exit → Act → World → Prop}

theorem sound_append {t el tx ty : TypeId} {d z : Nat} {s x : Operand} {s' x' : Opd} {inf : TypeInfo} {zc : List AV} (hE : cx.boxed = E.boxed) (hR : Rel cx st ver M own tmps w)
    (ho : o.op = .call { callee := .builtin .append, args := #[s, x], argTypes := #[t, t] }) (hdst : o.dst = some d) (hd : d < cx.n) (hb : cx.boxed d = false)
    (hu : cx.P.underlying t = some (.slice el)) (hz : zeroOf cx.P el = some zc) (hinf : cx.P.info? el = some inf) (hsz : inf.size = z) (hzl : zc.length = z) (hby : 1 ≤ inf.bytes)
    (h1 : cOpd E tx s = some s') (h2 : cOpdC E ty x = some x')
    (hok : AOp.ok cx.P .undef st ver (.append d s' x' z inf.bytes)) (hK : OpGoal cx (AOp.next .undef st ver (.append d s' x' z inf.bytes)).1 ver M ds K) : o.wp cx.P ⟨tmps, ds⟩ w K Q := by
  cases hs : s'.val st <;> simp only [AOp.ok, hs] at hok
  rename_i z1 es
  cases hx : x'.val st <;> simp only [hx] at hok
  rename_i z2 fs
  obtain ⟨rfl, rfl, hbytes⟩ := hok
  simp only [AOp.next, hs, hx] at hK
  subst hsz
  obtain ⟨inf', zv, g1, g2, g3⟩ := zeroOf_spec hz
  rw [hinf] at g1; cases g1
  have hxR := opdC_R h2 hE hR (ds := ds) (by rw [hx]; rfl)
  rw [hx] at hxR; simp only [R] at hxR
  obtain ⟨ax, lenx, capx, hxv, hlx, hcx, hnx, hrx⟩ := hxR
  obtain ⟨own1, hR1, hv⟩ := opdM_RV h1 hE hR (ds := ds) (by rw [hs]; rfl) d 0
  rw [hs] at hv
  simp only [RV, RO] at hv
  obtain ⟨as, lens, caps, hsv, hls, hcs, hns, hrs⟩ := hv
  have hrunE : ∀ v w', (Builtin.append_ #[t, t] o.type #[.slice as lens caps, .slice ax lenx capx]).run cx.P w = .ok v w' → (execOp (Act.eval ⟨tmps, ds⟩) o).run cx.P w = .ok (.value v) w' := by
    intro v w' h
    simp [execOp, ho, resolve, invoke, builtin, hsv, hxv, h]
  have hzsz : zv.cells.size = inf.size := by
    have : ∀ (cs : List AV) (vs : List Value), chkCs cs vs = true → vs.length = cs.length := by
      intro cs
      induction cs with
      | nil => intro vs h; cases vs with | nil => rfl | cons _ _ => simp [chkCs] at h
      | cons c cs ih => intro vs h; cases vs with
        | nil => simp [chkCs] at h
        | cons v vs => simp only [chkCs, Bool.and_eq_true] at h; simp [ih vs h.2]
    have := this _ _ g3
    simpa [hzl] using this
  by_cases hf0 : fs = []
  · subst hf0
    have hl0 : lenx = 0 := by simpa using hlx
    subst hl0
    have hrun := hrunE _ _ (run_append_idle (P := cx.P) (w := w) hu hinf as lens caps ax capx hcs)
    refine wp_value hrun ?_
    rw [put_some hdst]
    refine hK M own1 _ w (Mle.refl M) (hR1.put_RV hd hb ?_)
    simp only [RV, RO, List.append_nil]
    exact ⟨as, lens, caps, rfl, hls, hcs, hns, hrs⟩
  · have hax : capx ≠ 0 := by
      intro h; rw [h] at hcx; have : lenx = 0 := by omega
      rw [hlx] at this; exact hf0 (List.eq_nil_of_length_eq_zero this)
    obtain ⟨bx, ox, rfl, hrowx⟩ := hrx hax
    obtain ⟨news, hnl, hnm⟩ := Rrow_list hrowx
    have hnlen := RowL_length hnl
    have hflat := RowL_flat hnl
    have hnc : ∀ j u, news[j]? = some u → w.cell? ((⟨bx, ox, none⟩ : Addr).add j) = some u := fun j u hj => by
      rw [Addr.add_lit]; exact hR.base.mem _ _ _ (hnm j u hj)
    have hlpos : 0 < fs.length := by cases fs with | nil => exact absurd rfl hf0 | cons _ _ => simp
    -- the grown row
    have grown : ∀ (olds : List Value) (nc : Nat), RowL M inf.size es olds → (es.length + fs.length ≤ nc) →
        (execOp (Act.eval ⟨tmps, ds⟩) o).run cx.P w = .ok (.value (.slice (some ⟨w.heap.size, 0, none⟩) (es.length + fs.length) nc)) (pushW w (.cells (olds ++ news ++ (Builtin.zeroCells zv.cells (nc - (es.length + fs.length))).toList).toArray el (0, 0)) (w.drawn + 1)) →
        o.wp cx.P ⟨tmps, ds⟩ w K Q := by
      intro olds nc hold hnc2 hrun
      refine wp_value hrun ?_
      rw [put_some hdst]
      have holen := RowL_length hold
      have hp := hR1.push (.cells (olds ++ news ++ (Builtin.zeroCells zv.cells (nc - (es.length + fs.length))).toList).toArray el (0, 0)) (.spare d 0) (fun k => (olds ++ news)[k]?) (w.drawn + 1)
        (fun k u hk => ⟨_, el, (0, 0), rfl, by
          have hlt := (List.getElem?_eq_some_iff.1 hk).1
          simp only [List.getElem?_toArray]
          rw [List.getElem?_append_left hlt]; exact hk⟩)
      refine hK (pushM M w.heap.size fun k => (olds ++ news)[k]?) (upd own1 w.heap.size (.spare d 0)) _ _ (hR.base.pushMle _) (hp.put_RV hd hb ?_)
      simp only [RV, RO]
      refine ⟨_, _, nc, rfl, by simp, hnc2, by simp, fun _ => ⟨w.heap.size, 0, rfl, ?_, .inr ⟨by simp [upd], _, el, pushW_new w _ _, ?_, ?_⟩⟩⟩
      · exact Rrow_of_list (hR.base.pushMle _) (RowL_append hold hnl) (fun i u hu => by simp only [pushM, if_true, Nat.zero_add]; exact hu)
      · simp only [List.size_toArray, List.length_append, holen, hnlen, Array.length_toList, size_zeroCells, hzsz, ← Nat.add_mul, Nat.zero_add]
        refine Nat.mul_le_mul_right _ ?_
        omega
      · intro k hk
        simp only [pushM, if_true]
        apply List.getElem?_eq_none
        simp only [List.length_append, holen, hnlen, ← Nat.add_mul]
        omega
    have h48 : (es.length + fs.length) * inf.bytes ≤ 140737488355328 := hbytes
    have hsmall : es.length + fs.length ≤ 140737488355328 := Nat.le_trans (Nat.le_mul_of_pos_right _ hby) h48
    by_cases has : as = none
    · subst has
      have hc0 := hns rfl
      have hle0 : lens = 0 := by omega
      have hes : es = [] := List.eq_nil_of_length_eq_zero (by omega)
      subst hes; subst hc0; subst hle0; subst hlx
      have h63 : (fs.length : Int) ≤ 9223372036854775807 := by
        simp only [List.length_nil, Nat.zero_add] at hsmall; omega
      have hr := run_append_nil (P := cx.P) w t o.type el inf zv hu hinf g2 ⟨bx, ox, none⟩ fs.length capx news hnlen hnc hlpos h63 (by simp only [List.length_nil, Nat.zero_add] at h48; omega)
      refine grown [] (grownCap w fs.length 0 el) rfl (by simp only [List.length_nil, Nat.zero_add]; exact grownCap_ge w _ _ _) ?_
      refine (hrunE _ _ hr).trans ?_
      simp only [List.length_nil, Nat.zero_add, List.nil_append]
      congr 1
      show World.mk _ _ _ _ _ = World.mk _ _ _ _ _
      congr 1
      simp only [World.drew]
      congr 1
      congr 1
      apply Array.ext'
      simp
    · obtain ⟨bs, off, rfl, hrow, hsp⟩ := hrs has
      subst hls; subst hlx
      obtain ⟨olds, hol, hom⟩ := Rrow_list hrow
      have holen := RowL_length hol
      have hoc : ∀ j u, olds[j]? = some u → w.cell? ((⟨bs, off, none⟩ : Addr).add j) = some u := fun j u hj => by
        rw [Addr.add_lit]; exact hR.base.mem _ _ _ (hom j u hj)
      by_cases hroom : es.length + fs.length ≤ caps
      · -- in place
        have hlt : es.length ≠ caps := by omega
        obtain ⟨ho1, vs, el', hh, hsz, hno⟩ := hsp.resolve_left hlt
        have hr := run_append_inplace (P := cx.P) (w := w) (ty := o.type) hu hinf bs off es.length caps vs hh ⟨bx, ox, none⟩ fs.length capx news hnlen hnc hflat hroom (by
          rw [hnlen, Nat.add_assoc, ← Nat.add_mul]
          exact Nat.le_trans (Nat.add_le_add_left (Nat.mul_le_mul_right _ hroom) _) hsz)
        refine wp_value (hrunE _ _ hr) ?_
        rw [put_some hdst]
        have hbne : ∀ b', own1 b' ≠ .spare d 0 → b' ≠ bs := fun b' h => by rintro rfl; exact h ho1
        let L := off + es.length * inf.size
        let M' : Mem := fun b' o' => if b' = bs ∧ L ≤ o' ∧ o' < L + news.length then news[o' - L]? else M b' o'
        have hM'o : ∀ b' o', ¬ (b' = bs ∧ L ≤ o' ∧ o' < L + news.length) → M' b' o' = M b' o' := fun b' o' h => if_neg h
        have hm : Mle M M' := by
          intro b' o' u hu
          rw [hM'o]; · exact hu
          rintro ⟨rfl, h1, _⟩
          rw [hno o' h1] at hu; cases hu
        have hLs : L + news.length ≤ vs.size := by
          show off + es.length * inf.size + news.length ≤ _
          rw [hnlen, Nat.add_assoc, ← Nat.add_mul]
          exact Nat.le_trans (Nat.add_le_add_left (Nat.mul_le_mul_right _ hroom) _) hsz
        have hbase : Base cx own1 M' (w.setRow bs (vs.toList.take L ++ news ++ vs.toList.drop (L + news.length)).toArray) := by
          refine ⟨fun b' o' u hu => ?_, fun b' h => by rw [size_setRow]; exact hR1.base.own_lt b' h, hR1.base.own_new, fun b' o' u hu => ?_, fun b' h h' => ?_, by rw [size_setRow]; exact hR1.base.grow, hR1.base.rest⟩
          · by_cases hb' : b' = bs
            · subst hb'
              rw [cell?_cells (setRow_heap w b' vs _ el' (0, 0) hh)]
              simp only [List.getElem?_toArray]
              have e1 : (vs.toList.take L).length = L := by simp; omega
              by_cases hin : L ≤ o' ∧ o' < L + news.length
              · have e2 : M' b' o' = news[o' - L]? := if_pos ⟨rfl, hin⟩
                rw [e2] at hu
                rw [List.append_assoc, List.getElem?_append_right (by omega), e1, List.getElem?_append_left (by omega)]
                exact hu
              · rw [hM'o b' o' (fun h => hin h.2)] at hu
                have hlo : o' < L := by
                  rcases Nat.lt_or_ge o' L with h | h
                  · exact h
                  · rw [hno o' h] at hu; cases hu
                rw [List.append_assoc, List.getElem?_append_left (by omega), List.getElem?_take, if_pos hlo]
                have := hR1.base.mem b' o' u hu
                rw [cell?_cells hh] at this
                simpa using this
            · rw [hM'o b' o' (fun h => hb' h.1)] at hu
              rw [cell?_of_heap (setRow_other w bs b' _ hb')]
              exact hR1.base.mem b' o' u hu
          · by_cases hin : b' = bs ∧ L ≤ o' ∧ o' < L + news.length
            · right; rw [hin.1]
              rcases hR1.base.own_new bs (by rw [ho1]; simp) with h | h
              · exact h
              · rw [ho1] at h; cases h.1
            · rw [hM'o b' o' hin] at hu; exact hR1.base.mnew b' o' u hu
          · rw [setRow_other w bs b' _ (by rintro rfl; rw [ho1] at h'; cases h')]
            exact hR1.base.frame b' h h'
        have h3 := (hR1.forget d).stepX (own' := own1) (M' := M') (w' := w.setRow bs (vs.toList.take L ++ news ++ vs.toList.drop (L + news.length)).toArray) d (by simp [upd]) hbase hm
          (fun b' _ _ h => ⟨rfl, setRow_other w bs b' _ (hbne b' (h 0)), fun o' => hM'o b' o' (fun h' => hbne b' (h 0) h'.1)⟩) (by rw [size_setRow]; exact Nat.le_refl _)
        have h4 := h3.put_RV hd hb (av := .oslice inf.size (es ++ fs)) (v := .slice (some ⟨bs, off, none⟩) (es.length + fs.length) caps) (by
          simp only [RV, RO]
          refine ⟨_, _, caps, rfl, by simp, hroom, by simp, fun _ => ⟨bs, off, rfl, ?_, .inr ⟨ho1, _, el', setRow_heap w bs vs _ el' (0, 0) hh, ?_, ?_⟩⟩⟩
          · refine Rrow_append (Rrow_mono hm _ es bs off hrow) (Rrow_of_list hm hnl (fun i u hu => ?_))
            have hi := (List.getElem?_eq_some_iff.1 hu).1
            show M' bs (L + i) = some u
            have e2 : M' bs (L + i) = news[L + i - L]? := if_pos ⟨rfl, by omega, by omega⟩
            rw [e2, Nat.add_sub_cancel_left]; exact hu
          · have e1 : (vs.toList.take L).length = L := by simp; omega
            simp only [List.size_toArray, List.length_append, List.length_drop, e1, Array.length_toList]
            omega
          · intro o' ho'
            have e3 : (es.length + fs.length) * inf.size = es.length * inf.size + news.length := by rw [hnlen, Nat.add_mul]
            have hge : L + news.length ≤ o' := by show off + es.length * inf.size + news.length ≤ o'; omega
            rw [hM'o bs o' (fun h => by omega)]
            exact hno o' (by show L ≤ o'; omega))
        refine hK M' own1 _ _ hm ?_
        have e : put (s'.done st) d (.oslice inf.size (es ++ fs)) = ⟨upd (upd (s'.done st).e d .undef) d (.oslice inf.size (es ++ fs)), (s'.done st).h, (s'.done st).nx⟩ := by
          simp only [put]; congr 1; funext j; simp only [upd]; split <;> rfl
        rw [e]; exact h4
      · have hr := run_append_grow (P := cx.P) w t o.type el inf zv hu hinf g2 ⟨bs, off, none⟩ es.length caps olds holen hoc ⟨bx, ox, none⟩ fs.length capx news hnlen hnc (by omega) (by omega) (growslice_fits (by omega) h48)
        refine grown olds (grownCap w (es.length + fs.length) caps el) hol (grownCap_ge w _ _ _) ?_
        refine (hrunE _ _ hr).trans ?_
        congr 1
        show World.mk _ _ _ _ _ = World.mk _ _ _ _ _
        congr 1
        simp only [World.drew]
        congr 1
        congr 1
        apply Array.ext'
        simp

/-- The arguments of a call, compiled. -/
def ArgsC (E : CE) : List Operand → List Opd → Prop
  | [], [] => True
  | x :: xs, x' :: qs => (∃ ty, cOpdC E ty x = some x') ∧ ArgsC E xs qs
  | _, _ => False

theorem args_R (hE : cx.boxed = E.boxed) (hR : Rel cx st ver M own tmps w) : ∀ {xs : List Operand} {qs : List Opd}, ArgsC E xs qs → argsOk st qs → Rs M (qs.map (Opd.val st)) (xs.map (Act.eval ⟨tmps, ds⟩))
  | [], [], _, _ => by simp [Rs]
  | x :: xs, x' :: qs, h, hok => by
    obtain ⟨⟨ty, h1⟩, h2⟩ := h
    simp only [List.map_cons, Rs]
    exact ⟨_, _, rfl, opdC_R h1 hE hR hok.1, args_R hE hR h2 hok.2⟩
  | [], _ :: _, h, _ => h.elim
  | _ :: _, [], h, _ => h.elim

theorem Rel.ext {M' : Mem} {w' : World} (hR : Rel cx st ver M own tmps w) (hm : Mle M M') (hmem : ∀ b o u, M' b o = some u → w'.cell? ⟨b, o, none⟩ = some u)
    (hnew : ∀ b o u, M' b o = some u → M b o = some u ∨ w.heap.size ≤ b) (he : Ext w w') : Rel cx st ver M' own tmps w' := by
  have hg := hR.base.grow
  refine hR.step ⟨hmem, fun b h => Nat.lt_of_lt_of_le (hR.base.own_lt b h) he.size, hR.base.own_new, fun b o u hu => (hnew b o u hu).elim (fun h => hR.base.mnew b o u h) (fun h => .inr (by omega)), fun b h h' => (he.old b (by omega)).trans (hR.base.frame b h h'), Nat.le_trans hg he.size, ?_⟩ hm (fun b hb => ?_) he.size
  · obtain ⟨r1, r2, r3⟩ := he.rest
    obtain ⟨s1, s2, s3⟩ := hR.base.rest
    exact ⟨r1.trans s1, r2.trans s2, r3.trans s3⟩
  · have hlt := hR.base.own_lt b hb
    refine ⟨rfl, he.old b hlt, fun o => ?_⟩
    cases h1 : M' b o with
    | some u =>
      rcases hnew b o u h1 with h2 | h2
      · exact h2.symm
      · omega
    | none =>
      cases h2 : M b o with
      | none => rfl
      | some u => rw [hm b o u h2] at h1; cases h1

theorem sound_call {f : FuncId} {fn : Func} {xs : Array Operand} {ats : Array TypeId} {qs : List Opd} {r : AV} (hE : cx.boxed = E.boxed) (hR : Rel cx st ver M own tmps w)
    (ho : o.op = .call { callee := .value (.func f), args := xs, argTypes := ats }) (hdst : ∀ d, o.dst = some d → d < cx.n ∧ cx.boxed d = false)
    (hf : cx.P.funcs[f]? = some fn) (hn : (fn.name == "runtime.NumGoroutine") = false) (hbody : fn.body.isNone = false) (hp : ArgsC E xs.toList qs)
    (hok : AOp.ok cx.P r st ver (.call o.dst f qs)) (hK : OpGoal cx (AOp.next r st ver (.call o.dst f qs)).1 ver M ds K) : o.wp cx.P ⟨tmps, ds⟩ w K Q := by
  obtain ⟨h1, h2, h3⟩ := hok
  have hargs := args_R (ds := ds) hE hR hp h1
  have hrun : (execOp (Act.eval ⟨tmps, ds⟩) o).run cx.P w = .ok (.enter f (xs.toList.map (Act.eval ⟨tmps, ds⟩)).toArray) w := by
    have e : (xs.map (Act.eval ⟨tmps, ds⟩)) = (xs.toList.map (Act.eval ⟨tmps, ds⟩)).toArray := by apply Array.ext'; simp
    have hn' : fn.name ≠ "runtime.NumGoroutine" := by simpa using hn
    have hb' : fn.body ≠ none := by intro h; rw [h] at hbody; cases hbody
    simp [execOp, ho, resolve, Act.eval, Deferred.ofValue, invoke, callFunc, hf, hn', hb', e]
  simp only [Oper.wp, hrun, Oper.upon]
  refine (h2 M w _ hR.base.mem hargs).mono ?_
  rintro e w' ⟨v, M', rfl, hm, hmem, hnew, hr, he⟩
  simp only []
  have hR' := hR.ext hm hmem hnew he
  cases hd : o.dst with
  | none =>
    rw [hd] at hK
    exact hK M' own tmps w' hm hR'
  | some d =>
    rw [hd] at hK
    obtain ⟨g1, g2⟩ := hdst d hd
    exact hK M' own _ w' hm (hR'.put_RV g1 g2 (RV_of_R hr))
end

end Go.Proofs.YtccmaeefedgcnaaGreat
