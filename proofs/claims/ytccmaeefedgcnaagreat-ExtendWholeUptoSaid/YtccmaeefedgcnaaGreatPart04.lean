/-
  THE ABSTRACT LAYER, PART M: the compile step of one operation, whole.
  THE ABSTRACT LAYER, PART N: what an operation reads and writes; operations that do not touch each other may change places.
-/
import Derived.Test.YtccmaeefedgcnaaGreatPart03
set_option linter.all false

namespace Go.Proofs.YtccmaeefedgcnaaGreat

def pd (E : CE) : Option Nat → Option Nat
  | some d => if d < E.n ∧ E.boxed d = false then some d else none
  | none => none
def bd (E : CE) : Option Nat → Option Nat
  | some d => if d < E.n ∧ E.boxed d = true then some d else none
  | none => none

theorem pd_spec {E : CE} {x : Option Nat} {d : Nat} (h : pd E x = some d) : x = some d ∧ d < E.n ∧ E.boxed d = false := by
  unfold pd at h; split at h
  · split at h
    · cases h; exact ⟨rfl, ‹_›⟩
    · cases h
  · cases h
theorem bd_spec {E : CE} {x : Option Nat} {d : Nat} (h : bd E x = some d) : x = some d ∧ d < E.n ∧ E.boxed d = true := by
  unfold bd at h; split at h
  · split at h
    · cases h; exact ⟨rfl, ‹_›⟩
    · cases h
  · cases h

/-- The variable that an address reaches: itself, or through a pointer made in this region. -/
def cAddr (E : CE) : Operand → Option (Nat × Option Nat)
  | .tmp t => if E.boxed t then some (t, none) else match E.root t with
    | some r => if E.boxed r then some (r, some t) else none
    | none => none
  | _ => none

theorem cAddr_spec {E : CE} {x : Operand} {t : Nat} {p : Option Nat} (h : cAddr E x = some (t, p)) : x = ptrOpd t p ∧ E.boxed t = true ∧ ∀ q, p = some q → E.boxed q = false := by
  unfold cAddr at h; split at h
  · rename_i t'
    split at h
    · cases h; exact ⟨rfl, ‹_›, by simp⟩
    · rename_i hb
      split at h
      · split at h
        · cases h; exact ⟨rfl, ‹_›, fun q hq => by cases hq; exact Bool.eq_false_iff.2 hb⟩
        · cases h
      · cases h
  · cases h

def structOf (P : Program) (s : TypeId) (f : Nat) : Option Field := match P.underlying s with
  | some (.struct fs) => fs[f]?
  | _ => none

def cParts (E : CE) (place : Nat → Option (Nat × Nat)) (ty : Nat → TypeId) : List (Nat × Operand) → Option (List (Nat × Nat × Opd))
  | [] => some []
  | (i, x) :: ps => do
    let (off, sz) ← place i
    let x' ← cOpdC E (ty i) x
    let qs ← cParts E place ty ps
    some ((off, sz, x') :: qs)

theorem cParts_spec {E : CE} {place : Nat → Option (Nat × Nat)} {ty : Nat → TypeId} : ∀ {ps : List (Nat × Operand)} {qs : List (Nat × Nat × Opd)}, cParts E place ty ps = some qs → PartsC E place ps qs
  | [], qs, h => by simp [cParts] at h; subst h; trivial
  | (i, x) :: ps, qs, h => by
    simp only [cParts, Option.bind_eq_bind, Option.bind_eq_some_iff, Option.some.injEq] at h
    obtain ⟨⟨off, sz⟩, h1, x', h2, qs', h3, rfl⟩ := h
    exact ⟨h1, ⟨_, h2⟩, cParts_spec h3⟩

def cElems (E : CE) (ty : TypeId) : Nat → List (Nat × Operand) → Option (List Opd)
  | _, [] => some []
  | k, (i, x) :: ps => if i = k then do
      let x' ← cOpdC E ty x
      let qs ← cElems E ty (k + 1) ps
      some (x' :: qs)
    else none

theorem cElems_spec {E : CE} {ty : TypeId} : ∀ {k : Nat} {ps : List (Nat × Operand)} {qs : List Opd}, cElems E ty k ps = some qs → ElemsC E k ps qs
  | k, [], qs, h => by simp [cElems] at h; subst h; trivial
  | k, (i, x) :: ps, qs, h => by
    simp only [cElems] at h
    split at h
    · simp only [Option.bind_eq_bind, Option.bind_eq_some_iff, Option.some.injEq] at h
      obtain ⟨x', h2, qs', h3, rfl⟩ := h
      exact ⟨‹_›, ⟨_, h2⟩, cElems_spec h3⟩
    · cases h

def cArgs (E : CE) : List Operand → List TypeId → Option (List Opd)
  | [], _ => some []
  | x :: xs, ts => do
    let x' ← cOpdC E (ts.headD 0) x
    let qs ← cArgs E xs ts.tail
    some (x' :: qs)

theorem cArgs_spec {E : CE} : ∀ {xs : List Operand} {ts : List TypeId} {qs : List Opd}, cArgs E xs ts = some qs → ArgsC E xs qs
  | [], ts, qs, h => by simp [cArgs] at h; subst h; trivial
  | x :: xs, ts, qs, h => by
    simp only [cArgs, Option.bind_eq_bind, Option.bind_eq_some_iff, Option.some.injEq] at h
    obtain ⟨x', h2, qs', h3, rfl⟩ := h
    exact ⟨⟨_, h2⟩, cArgs_spec h3⟩

/-- An append that makes a row of one's own. -/
def cXapp (E : CE) (o : Oper) : List Operand → List TypeId → Option AOp
  | [s, x], [t, u] => do
    let d ← bd E o.dst
    if t = u then
      match E.P.underlying t with
      | some (.slice el) => do
        let z ← szOf E.P el
        let zc ← zeroOf E.P el
        let inf ← E.P.info? el
        let s' ← cOpd E t s
        let x' ← cOpdC E t x
        if zc.length = z ∧ 1 ≤ inf.bytes then some (.xapp d s' x' z inf.bytes) else none
      | _ => none
    else none
  | _, _ => none

/-- A call that changes a row of one's own in place. -/
def cIn (E : CE) (o : Oper) (f : FuncId) (args : List Operand) : Option AOp := match args, E.inpl f with
  | [x], some cut => do
    let (t, p) ← cAddr E x
    let fn ← E.P.funcs[f]?
    if (fn.name == "runtime.NumGoroutine") = false ∧ fn.body.isNone = false then
      (if cut then (pd E o.dst).map fun d => .xcut d f t p else if o.dst = none ∨ (pd E o.dst).isSome = true then some (.xcall o.dst f t p) else none)
    else none
  | _, _ => none

def cBuiltin (E : CE) (o : Oper) (b : Builtin) (args : List Operand) (ats : List TypeId) : Option AOp := do
  let d ← pd E o.dst
  match b, args, ats with
  | .len, [x], [t] =>
    let x' ← cOpdC E t x
    match E.P.underlying t with
    | some .string => some (.len d true x')
    | some (.slice _) => some (.len d false x')
    | _ => none
  | .append, [s, x], [t, u] =>
    if t = u then
      match E.P.underlying t with
      | some (.slice el) => do
        let z ← szOf E.P el
        let zc ← zeroOf E.P el
        let inf ← E.P.info? el
        let s' ← cOpd E t s
        let x' ← cOpdC E t x
        if zc.length = z ∧ 1 ≤ inf.bytes then some (.append d s' x' z inf.bytes) else none
      | _ => none
    else none
  | _, _, _ => none

def cCallee (E : CE) (o : Oper) (f : FuncId) (args : List Operand) (ats : List TypeId) : Option AOp := do
  let fn ← E.P.funcs[f]?
  let qs ← cArgs E args ats
  if (fn.name == "runtime.NumGoroutine") = false ∧ fn.body.isNone = false ∧ (o.dst = none ∨ (pd E o.dst).isSome = true) then some (.call o.dst f qs) else none

/-- A variable's own pointer, or map, that is moved or lent. -/
def cBoxMove (E : CE) (o : Oper) : Operand → Option AOp
  | .tmp s => if E.boxed s then
      match o.dst with
      | some d => if d < E.n then (if E.boxed d then (if s = d then none else some (.mvb d s)) else if E.takes d then some (.xfreeze d s) else some (.malias d s)) else none
      | none => none
    else none
  | _ => none

def cMapOp (E : CE) (mt : TypeId) (f : AV → List AV → Bool → AOp) : Option AOp := match E.P.underlying mt with
  | some (.map key el) => do
    let sh ← eqShape E.P 20 key
    let n ← aggOf E.P key
    let z ← zeroR E.P el
    if n.getD 1 = sh.length then some (f z sh n.isSome) else none
  | _ => none

def cEqOp (E : CE) (d : Nat) (op : BinOp) (tx : TypeId) (k : Nat) (x y : Opd) : Option AOp := do
  let sh ← eqShape E.P 20 tx
  if k = sh.length ∧ E.P.eqGuardType E.P.depth tx = false then
    match op with
    | .eql => some (.aeq d false x y sh)
    | .neq => some (.aeq d true x y sh)
    | _ => none
  else none

def cGrow (E : CE) (o : Oper) (f : FuncId) (args : List Operand) : Option AOp := match args, E.grow f with
  | [.const (.slice none 0 0), n], some z => do
    let fn ← E.P.funcs[f]?
    let d ← pd E o.dst
    let n' ← cOpdC E 0 n
    if (fn.name == "runtime.NumGoroutine") = false ∧ fn.body.isNone = false then some (.grow d f n' z) else none
  | _, _ => none

def cOp (E : CE) (o : Oper) : Option AOp :=
  match o.op with
  | .makeMap ty none => (bd E o.dst).map .mkmap
  | .lookup mt x k two => do
    let d ← pd E o.dst
    let (t, p) ← cAddr E x
    let k' ← cOpdC E 0 k
    cMapOp E mt fun z sh ag => .mlook d t p k' z sh ag two
  | .mapEntry mt x k => do
    let d ← pd E o.dst
    let (t, p) ← cAddr E x
    let k' ← cOpdC E 0 k
    cMapOp E mt fun z sh ag => .mentry d t p k' z sh ag
  | .entryStore _ x s v => do
    let (t, p) ← cAddr E x
    let s' ← cOpdC E 0 s
    let v' ← cOpdC E 0 v
    if o.dst = none then some (.mestore t p s' v') else none
  | .panic _ => some (.bot o.dst)
  | .makeInterface .. => some (.bot o.dst)
  | .move x => match cBoxMove E o x with
    | some g => some g
    | none => do
      let d ← pd E o.dst
      match E.takes d, x with
      | true, .tmp s => if E.boxed s then none else some (.take d s)
      | _, x => (cOpd E o.type x).map (.mv d)
  | .assign x => match cBoxMove E o x with
    | some g => some g
    | none => do
      let d ← pd E o.dst
      (cOpd E o.type x).map (.mv d)
  | .pick c a b => do
    let d ← pd E o.dst
    let c' ← cOpdC E o.type c
    let a' ← cOpdC E o.type a
    let b' ← cOpdC E o.type b
    some (.pick d c' a' b')
  | .alloc el => do
    let d ← bd E o.dst
    (zeroAV E.P el).map (.balloc d)
  | .box el x => do
    let d ← bd E o.dst
    (cOpd E el x).map (.bbox d)
  | .fieldAddr s x f => do
    let d ← pd E o.dst
    let fl ← structOf E.P s f
    let z ← szOf E.P fl.type
    if z = 0 then none else
    match x with
    | .tmp t => if E.boxed t then some (.baddr d t fl.offset) else some (.paddr d t (E.root t) fl.offset)
    | _ => none
  | .load ty x => do
    let d ← pd E o.dst
    let n ← aggOf E.P ty
    match cAddr E x with
    | some (t, p) => if E.takes d ∧ n = none then (match p.bind E.off with | some off => some (.btk d t p off) | none => some (.bload d t p none true)) else some (.bload d t p n false)
    | none => match x with
      | .tmp t => if E.boxed t then none else some (.vload d t n)
      | _ => none
  | .store ty x v => do
    let n ← szOf E.P ty
    let (t, p) ← cAddr E x
    let y ← cOpd E ty v
    if o.dst = none then some (.bstore t p y n) else none
  | .indexAddr ty x i => do
    let d ← pd E o.dst
    let i' ← cOpdC E 0 i
    match E.P.underlying ty with
    | some (.slice el) => do
      let z ← szOf E.P el
      let x' ← cOpdC E ty x
      some (.idx d x' i' z)
    | some (.array ln el) => do
      let z ← szOf E.P el
      let (t, p) ← cAddr E x
      some (.bidx d t p i' ln z)
    | _ => none
  | .field s x f => do
    let d ← pd E o.dst
    let fl ← structOf E.P s f
    let n ← aggOf E.P fl.type
    let x' ← cOpdC E s x
    some (.field d x' fl.offset n)
  | .index ty x i => do
    let d ← pd E o.dst
    let x' ← cOpdC E ty x
    let i' ← cOpdC E 0 i
    match E.P.underlying ty with
    | some .string => some (.sidx d x' i')
    | some (.array ln el) => do
      let z ← szOf E.P el
      let n ← aggOf E.P el
      some (.aidx d x' i' ln z n)
    | _ => none
  | .binOp op tx x y ty => do
    let d ← pd E o.dst
    let x' ← cOpdC E tx x
    let y' ← cOpdC E ty y
    match aggOf E.P tx with
    | some (some k) => cEqOp E d op tx k x' y'
    | _ => match E.P.underlying tx with
      | some .bool => some (.bin d op true x' y')
      | some _ => some (.bin d op false x' y')
      | none => none
  | .unOp op tx x => do
    let d ← pd E o.dst
    let x' ← cOpdC E tx x
    some (.un d op x')
  | .convert src dst x => do
    let d ← pd E o.dst
    let x' ← cOpdC E src x
    match E.P.underlying src, E.P.underlying dst with
    | some _, some (.int k) => some (.conv d (.int k) x')
    | some .string, some .string => some (.conv d .same x')
    | some (.slice e), some .string => match E.P.underlying e with
      | some (.int .u8) => some (.conv d .b2s x')
      | _ => none
    | _, _ => none
  | .slice ty x lo hi none => do
    let d ← pd E o.dst
    let x' ← cOpdC E ty x
    let lo' ← cOpt E lo
    let hi' ← cOpt E hi
    match E.P.underlying ty with
    | some .string => some (.sslice d x' lo' hi')
    | some (.slice el) => do
      let z ← szOf E.P el
      some (.lslice d x' lo' hi' z)
    | _ => none
  | .build ty parts => do
    let d ← pd E o.dst
    let z ← zeroOf E.P ty
    match E.P.underlying ty with
    | some (.struct fs) => do
      let places ← fs.toList.mapM (fun f => (szOf E.P f.type).map fun s => (f.offset, s))
      let qs ← cParts E (places.toArray[·]?) (fun i => ((fs[i]?).map (·.type)).getD 0) parts.toList
      some (.build d z qs)
    | some (.array _ el) => do
      let sz ← szOf E.P el
      let qs ← cParts E (fun i => some (i * sz, sz)) (fun _ => el) parts.toList
      some (.build d z qs)
    | _ => none
  | .buildSlice ty ln parts => do
    let d ← pd E o.dst
    match E.P.underlying ty with
    | some (.slice el) => do
      let z ← szOf E.P el
      let zc ← zeroOf E.P el
      let qs ← cElems E el 0 parts.toList
      if parts.toList.length = ln ∧ ln * z ≤ 16777216 ∧ zc.length = z then some (.mkslice d z qs) else none
    | _ => none
  | .call { callee := .builtin b, args := args, argTypes := ats } => match (if b = .append then cXapp E o args.toList ats.toList else none) with
    | some g => some g
    | none => cBuiltin E o b args.toList ats.toList
  | .call { callee := .value (.func f), args := args, argTypes := ats } => match cGrow E o f args.toList with
    | some g => some g
    | none => match cIn E o f args.toList with
      | some g => some g
      | none => cCallee E o f args.toList ats.toList
  | .extract x i => do
    let d ← pd E o.dst
    let x' ← cOpdC E o.type x
    some (.extract d x' i)
  | _ => none

structure CxE (cx : Cx) (E : CE) : Prop where
  boxed : cx.boxed = E.boxed
  n : cx.n = E.n
  P : cx.P = E.P

theorem structOf_spec {P : Program} {s : TypeId} {f : Nat} {fl : Field} (h : structOf P s f = some fl) : ∃ fs, P.underlying s = some (.struct fs) ∧ fs[f]? = some fl := by
  unfold structOf at h; split at h
  · exact ⟨_, ‹_›, h⟩
  · cases h

theorem cMapOp_spec {E : CE} {mt : TypeId} {f : AV → List AV → Bool → AOp} {g : AOp} (h : cMapOp E mt f = some g) : ∃ key el sh n z, E.P.underlying mt = some (.map key el) ∧ eqShape E.P 20 key = some sh ∧ aggOf E.P key = some n ∧ zeroR E.P el = some z ∧ n.getD 1 = sh.length ∧ g = f z sh n.isSome := by
  unfold cMapOp at h
  split at h
  · rename_i key el hu
    simp only [Option.bind_eq_bind, Option.bind_eq_some_iff] at h
    obtain ⟨sh, h1, n, h2, z, h3, h⟩ := h
    split at h
    · cases h; exact ⟨key, el, sh, n, z, hu, h1, h2, h3, ‹_›, rfl⟩
    · cases h
  · cases h
theorem cEqOp_spec {E : CE} {d k : Nat} {op : BinOp} {tx : TypeId} {x y : Opd} {g : AOp} (h : cEqOp E d op tx k x y = some g) : ∃ sh neg, eqShape E.P 20 tx = some sh ∧ k = sh.length ∧ E.P.eqGuardType E.P.depth tx = false ∧ (op = if neg then .neq else .eql) ∧ g = .aeq d neg x y sh := by
  unfold cEqOp at h
  simp only [Option.bind_eq_bind, Option.bind_eq_some_iff] at h
  obtain ⟨sh, h1, h⟩ := h
  split at h
  · rename_i hc
    split at h
    · cases h; exact ⟨sh, false, h1, hc.1, hc.2, rfl, rfl⟩
    · cases h; exact ⟨sh, true, h1, hc.1, hc.2, rfl, rfl⟩
    · cases h
  · cases h
theorem cGrow_spec {E : CE} {o : Oper} {f : FuncId} {args : List Operand} {g : AOp} (h : cGrow E o f args = some g) : ∃ n z fn d n', args = [.const (.slice none 0 0), n] ∧ E.P.funcs[f]? = some fn ∧ pd E o.dst = some d ∧ cOpdC E 0 n = some n' ∧
    (fn.name == "runtime.NumGoroutine") = false ∧ fn.body.isNone = false ∧ g = .grow d f n' z := by
  unfold cGrow at h
  split at h
  · rename_i n z hz
    simp only [Option.bind_eq_bind, Option.bind_eq_some_iff] at h
    obtain ⟨fn, h1, d, h2, n', h3, h⟩ := h
    split at h
    · cases h; exact ⟨n, z, fn, d, n', rfl, h1, h2, h3, ‹_ ∧ _›.1, ‹_ ∧ _›.2, rfl⟩
    · cases h
  · cases h

theorem cXapp_spec {E : CE} {o : Oper} {args : List Operand} {ats : List TypeId} {g : AOp} (h : cXapp E o args ats = some g) : ∃ s x t d el z zc inf s' x', args = [s, x] ∧ ats = [t, t] ∧ bd E o.dst = some d ∧ E.P.underlying t = some (.slice el) ∧ szOf E.P el = some z ∧ zeroOf E.P el = some zc ∧ E.P.info? el = some inf ∧
    cOpd E t s = some s' ∧ cOpdC E t x = some x' ∧ zc.length = z ∧ 1 ≤ inf.bytes ∧ g = .xapp d s' x' z inf.bytes := by
  unfold cXapp at h
  split at h
  · rename_i s x t u
    simp only [Option.bind_eq_bind, Option.bind_eq_some_iff] at h
    obtain ⟨d, hd, h⟩ := h
    split at h
    · rename_i htu; subst htu
      split at h
      · rename_i el hu
        simp only [Option.bind_eq_some_iff] at h
        obtain ⟨z, hz, zc, hzc, inf, hinf, s', hs', x', hx', h⟩ := h
        split at h
        · rename_i hc; cases h
          exact ⟨s, x, t, d, el, z, zc, inf, s', x', rfl, rfl, hd, hu, hz, hzc, hinf, hs', hx', hc.1, hc.2, rfl⟩
        · cases h
      · cases h
    · cases h
  · cases h
theorem cIn_spec {E : CE} {o : Oper} {f : FuncId} {args : List Operand} {g : AOp} (h : cIn E o f args = some g) : ∃ x t p fn, args = [x] ∧ cAddr E x = some (t, p) ∧ E.P.funcs[f]? = some fn ∧ (fn.name == "runtime.NumGoroutine") = false ∧ fn.body.isNone = false ∧
    ((∃ d, pd E o.dst = some d ∧ g = .xcut d f t p) ∨ ((o.dst = none ∨ (pd E o.dst).isSome = true) ∧ g = .xcall o.dst f t p)) := by
  unfold cIn at h
  split at h
  · rename_i x cut hc
    simp only [Option.bind_eq_bind, Option.bind_eq_some_iff] at h
    obtain ⟨⟨t, p⟩, ha, fn, hf, h⟩ := h
    split at h
    · rename_i hcond
      refine ⟨x, t, p, fn, rfl, ha, hf, hcond.1, hcond.2, ?_⟩
      split at h
      · simp only [Option.map_eq_some_iff] at h
        obtain ⟨d, hd, rfl⟩ := h
        exact .inl ⟨d, hd, rfl⟩
      · split at h
        · cases h; exact .inr ⟨‹_›, rfl⟩
        · cases h
    · cases h
  · cases h

theorem cBoxMove_sound {cx : Cx} {E : CE} {st : St} {ver : Nat → Nat} {M : Mem} {own : Nat → Own} {tmps : Array Value} {w : World} {ds : List Deferred}
    {o : Oper} {K : Act → World → Prop} {Q : Exit → Act → World → Prop} {g : AOp} {r : AV} {x : Operand} (hE : cx.boxed = E.boxed) (hn : cx.n = E.n) (hR : Rel cx st ver M own tmps w) (ho : o.op = .move x ∨ o.op = .assign x) (hc : cBoxMove E o x = some g)
    (hok : g.ok cx.P r st ver) (hK : OpGoal cx (g.next r st ver).1 (g.next r st ver).2 M ds K) : o.wp cx.P ⟨tmps, ds⟩ w K Q := by
  unfold cBoxMove at hc
  split at hc
  · rename_i s
    split at hc
    · rename_i hs
      split at hc
      · rename_i d hd
        split at hc
        · rename_i hlt
          split at hc
          · rename_i hb
            split at hc
            · cases hc
            · rename_i hsd; cases hc
              exact sound_mvb hR ho hd (by rw [hn]; exact hlt) (by rw [hE]; exact hb) (by rw [hE]; exact hs) hsd hok hK
          · rename_i hb
            split at hc
            · cases hc
              exact sound_xfreeze hR ho hd (by rw [hn]; exact hlt) (by rw [hE]; exact Bool.eq_false_iff.2 hb) (by rw [hE]; exact hs) hok hK
            · cases hc
              exact sound_malias hR ho hd (by rw [hn]; exact hlt) (by rw [hE]; exact Bool.eq_false_iff.2 hb) (by rw [hE]; exact hs) hok hK
        · cases hc
      · cases hc
    · cases hc
  · cases hc

theorem sound_btk {cx : Cx} {st : St} {ver : Nat → Nat} {M : Mem} {own : Nat → Own} {tmps : Array Value} {w : World} {ds : List Deferred}
    {o : Oper} {K : Act → World → Prop} {Q : Exit → Act → World → Prop} {ty : TypeId} {d t off : Nat} {p : Option Nat} {r : AV} (hR : Rel cx st ver M own tmps w) (ho : o.op = .load ty (ptrOpd t p)) (hdst : o.dst = some d) (hd : d < cx.n)
    (hb : cx.boxed d = false) (hbt : cx.boxed t = true) (hbp : ∀ q, p = some q → cx.boxed q = false) (hn : aggOf cx.P ty = some none)
    (hok : AOp.ok cx.P r st ver (.btk d t p off)) (hK : OpGoal cx (AOp.next r st ver (.btk d t p off)).1 ver M ds K) : o.wp cx.P ⟨tmps, ds⟩ w K Q := by
  obtain ⟨h1, h2, h3⟩ := hok
  refine sound_btake hR ho hdst hd hb hbt hbp hn ⟨⟨(by intro e; rw [e] at h1; cases h1), by omega⟩, fun _ => rfl, off, h2, by simpa using h3⟩ ?_
  simpa [AOp.next, h2, subs] using hK

theorem cOp_sound {cx : Cx} {E : CE} {st : St} {ver : Nat → Nat} {M : Mem} {own : Nat → Own} {tmps : Array Value} {w : World} {ds : List Deferred}
    {o : Oper} {K : Act → World → Prop} {Q : Exit → Act → World → Prop} {g : AOp} {r : AV} (hx : CxE cx E) (hc : cOp E o = some g) (hR : Rel cx st ver M own tmps w)
    (hok : g.ok cx.P r st ver) (hK : OpGoal cx (g.next r st ver).1 (g.next r st ver).2 M ds K) : o.wp cx.P ⟨tmps, ds⟩ w K Q := by
  obtain ⟨hE, hn, hP⟩ := hx
  have P1 : ∀ {x : Option Nat} {d : Nat}, pd E x = some d → x = some d ∧ d < cx.n ∧ cx.boxed d = false := fun h => by rw [hn, hE]; exact pd_spec h
  have P2 : ∀ {x : Option Nat} {d : Nat}, bd E x = some d → x = some d ∧ d < cx.n ∧ cx.boxed d = true := fun h => by rw [hn, hE]; exact bd_spec h
  have P3 : ∀ {x : Operand} {t : Nat} {p : Option Nat}, cAddr E x = some (t, p) → x = ptrOpd t p ∧ cx.boxed t = true ∧ ∀ q, p = some q → cx.boxed q = false := fun h => by rw [hE]; exact cAddr_spec h
  unfold cOp at hc
  split at hc <;> (try (simp only [Option.bind_eq_bind, Option.bind_eq_some_iff, Option.map_eq_some_iff] at hc))
  case h_1 ty ho =>
    obtain ⟨d, hd, rfl⟩ := hc
    obtain ⟨d1, d2, d3⟩ := P2 hd
    exact sound_mkmap hR ho d1 d2 d3 hK
  case h_2 mt x k two ho =>
    obtain ⟨d, hd, ⟨t, p⟩, ha, k', hk, hc⟩ := hc
    obtain ⟨d1, d2, d3⟩ := P1 hd
    obtain ⟨rfl, a2, a3⟩ := P3 ha
    obtain ⟨key, el, sh, n, z, m1, m2, m3, m4, m5, rfl⟩ := cMapOp_spec hc
    rw [← hP] at m1 m2 m3 m4
    exact sound_mlook hE hR ho d1 d2 d3 a2 a3 m1 m2 m3 m5 m4 hk hok hK
  case h_3 mt x k ho =>
    obtain ⟨d, hd, ⟨t, p⟩, ha, k', hk, hc⟩ := hc
    obtain ⟨d1, d2, d3⟩ := P1 hd
    obtain ⟨rfl, a2, a3⟩ := P3 ha
    obtain ⟨key, el, sh, n, z, m1, m2, m3, m4, m5, rfl⟩ := cMapOp_spec hc
    rw [← hP] at m1 m2 m3 m4
    exact sound_mentry hE hR ho d1 d2 d3 a2 a3 m1 m2 m3 m5 m4 hk hok hK
  case h_4 mt x s v ho =>
    obtain ⟨⟨t, p⟩, ha, s', hs', v', hv', hc⟩ := hc
    obtain ⟨rfl, a2, a3⟩ := P3 ha
    split at hc
    · rename_i hdst; cases hc
      exact sound_mestore hE hR ho hdst a2 a3 hs' hv' hok hK
    · cases hc
  case h_5 ho => cases hc; exact hok.elim
  case h_6 ho => cases hc; exact hok.elim
  case h_7 x ho =>
    split at hc
    · rename_i g hg; cases hc
      exact cBoxMove_sound hE hn hR (.inl ho) hg hok hK
    simp only [Option.bind_eq_bind, Option.bind_eq_some_iff, Option.map_eq_some_iff] at hc
    obtain ⟨d, hd, hc⟩ := hc
    obtain ⟨d1, d2, d3⟩ := P1 hd
    split at hc
    · split at hc
      · cases hc
      · rename_i hb; cases hc
        exact sound_take hR (.inl ho) d1 d2 d3 (by rw [hE]; exact Bool.eq_false_iff.2 hb) hok hK
    · obtain ⟨y, hy, rfl⟩ := Option.map_eq_some_iff.1 hc
      exact sound_mv hE hR (.inl ho) d1 d2 d3 hy hok hK
  case h_8 x ho =>
    split at hc
    · rename_i g hg; cases hc
      exact cBoxMove_sound hE hn hR (.inr ho) hg hok hK
    simp only [Option.bind_eq_bind, Option.bind_eq_some_iff, Option.map_eq_some_iff] at hc
    obtain ⟨d, hd, y, hy, rfl⟩ := hc
    obtain ⟨d1, d2, d3⟩ := P1 hd
    exact sound_mv hE hR (.inr ho) d1 d2 d3 hy hok hK
  case h_9 c a b ho =>
    obtain ⟨d, hd, c', hc', a', ha, b', hb, hg⟩ := hc
    cases hg
    obtain ⟨d1, d2, d3⟩ := P1 hd
    exact sound_pick hE hR ho d1 d2 d3 hc' ha hb hok hK
  case h_10 el ho =>
    obtain ⟨d, hd, z, hz, rfl⟩ := hc
    obtain ⟨d1, d2, d3⟩ := P2 hd
    exact sound_balloc hR ho d1 d2 d3 (by rw [hP]; exact hz) hK
  case h_11 el x ho =>
    obtain ⟨d, hd, y, hy, rfl⟩ := hc
    obtain ⟨d1, d2, d3⟩ := P2 hd
    exact sound_bbox hE hR ho d1 d2 d3 hy hok hK
  case h_12 s x f ho =>
    obtain ⟨d, hd, fl, hfl, z, hz, hc⟩ := hc
    obtain ⟨d1, d2, d3⟩ := P1 hd
    obtain ⟨fs, hu, hf⟩ := structOf_spec hfl
    split at hc
    · cases hc
    · rename_i hz0
      split at hc
      · rename_i t
        split at hc
        · rename_i hb; cases hc
          exact sound_baddr hR ho d1 d2 d3 (by rw [hE]; exact hb) (by rw [hP]; exact hu) hf (by rw [hP]; exact hz) hz0 hok hK
        · rename_i hb; cases hc
          exact sound_paddr hR ho d1 d2 d3 (by rw [hE]; exact Bool.eq_false_iff.2 hb) (by rw [hP]; exact hu) hf (by rw [hP]; exact hz) hz0 hok hK
      · cases hc
  case h_13 ty x ho =>
    obtain ⟨d, hd, n, hag, hc⟩ := hc
    obtain ⟨d1, d2, d3⟩ := P1 hd
    rw [← hP] at hag
    split at hc
    · rename_i t p ha
      obtain ⟨rfl, a2, a3⟩ := P3 ha
      split at hc
      · rename_i htk
        obtain ⟨_, rfl⟩ := htk
        split at hc
        · cases hc
          exact sound_btk hR ho d1 d2 d3 a2 a3 hag hok hK
        · cases hc
          exact sound_btake hR ho d1 d2 d3 a2 a3 hag hok hK
      · cases hc
        exact sound_bload hR ho d1 d2 d3 a2 a3 hag hok hK
    · split at hc
      · split at hc
        · cases hc
        · rename_i hb; cases hc
          exact sound_vload hR ho d1 d2 d3 (by rw [hE]; exact Bool.eq_false_iff.2 hb) hag hok hK
      · cases hc
  case h_14 ty x v ho =>
    obtain ⟨n, hsz, ⟨t, p⟩, ha, y, hy, hc⟩ := hc
    obtain ⟨rfl, a2, a3⟩ := P3 ha
    split at hc
    · rename_i hdst; cases hc
      exact sound_bstore hE hR ho hdst a2 a3 (by rw [hP]; exact hsz) hy hok hK
    · cases hc
  case h_15 ty x i ho =>
    obtain ⟨d, hd, i', hi, hc⟩ := hc
    obtain ⟨d1, d2, d3⟩ := P1 hd
    split at hc
    · rename_i el hu
      simp only [Option.bind_eq_some_iff] at hc
      obtain ⟨z, hz, x', hx', hc⟩ := hc
      cases hc
      exact sound_idx hE hR ho d1 d2 d3 (by rw [hP]; exact hu) (by rw [hP]; exact hz) hx' hi hok hK
    · rename_i ln el hu
      simp only [Option.bind_eq_some_iff] at hc
      obtain ⟨z, hz, ⟨t, p⟩, ha, hc⟩ := hc
      cases hc
      obtain ⟨rfl, a2, a3⟩ := P3 ha
      exact sound_bidx hE hR ho d1 d2 d3 a2 a3 (by rw [hP]; exact hu) (by rw [hP]; exact hz) hi hok hK
    · cases hc
  case h_16 s x f ho =>
    obtain ⟨d, hd, fl, hfl, n, hag, x', hx', hc⟩ := hc
    cases hc
    obtain ⟨d1, d2, d3⟩ := P1 hd
    obtain ⟨fs, hu, hf⟩ := structOf_spec hfl
    exact sound_field hE hR ho d1 d2 d3 (by rw [hP]; exact hu) hf (by rw [hP]; exact hag) hx' hok hK
  case h_17 ty x i ho =>
    obtain ⟨d, hd, x', hx', i', hi, hc⟩ := hc
    obtain ⟨d1, d2, d3⟩ := P1 hd
    split at hc
    · rename_i hu; cases hc
      exact sound_sidx hE hR ho d1 d2 d3 (by rw [hP]; exact hu) hx' hi hok hK
    · rename_i ln el hu
      simp only [Option.bind_eq_some_iff] at hc
      obtain ⟨z, hz, n, hag, hc⟩ := hc
      cases hc
      exact sound_aidx hE hR ho d1 d2 d3 (by rw [hP]; exact hu) (by rw [hP]; exact hz) (by rw [hP]; exact hag) hx' hi hok hK
    · cases hc
  case h_18 op tx x y ty ho =>
    obtain ⟨d, hd, x', hx', y', hy', hc⟩ := hc
    obtain ⟨d1, d2, d3⟩ := P1 hd
    split at hc
    · rename_i k hag
      obtain ⟨sh, neg, e1, e2, e3, e4, rfl⟩ := cEqOp_spec hc
      rw [← hP] at hag e1 e3
      exact sound_aeq hE hR ho d1 d2 d3 hx' hy' e4 e1 hag e2 e3 hok hK
    split at hc
    · rename_i hu; cases hc
      exact sound_bin hE hR ho d1 d2 d3 hx' hy' hok (fun _ => by rw [hP]; exact hu) hK
    · cases hc
      exact sound_bin hE hR ho d1 d2 d3 hx' hy' hok (fun h => by cases h) hK
    · cases hc
  case h_19 op tx x ho =>
    obtain ⟨d, hd, x', hx', hc⟩ := hc
    cases hc
    obtain ⟨d1, d2, d3⟩ := P1 hd
    exact sound_un hE hR ho d1 d2 d3 hx' hok hK
  case h_20 src dst x ho =>
    obtain ⟨d, hd, x', hx', hc⟩ := hc
    obtain ⟨d1, d2, d3⟩ := P1 hd
    split at hc
    · rename_i hu1 hu2; cases hc
      exact sound_conv_int hE hR ho d1 d2 d3 hx' (by rw [hP]; exact hu1) (by rw [hP]; exact hu2) hok hK
    · rename_i hu1 hu2; cases hc
      exact sound_conv_same hE hR ho d1 d2 d3 hx' (by rw [hP]; exact hu1) (by rw [hP]; exact hu2) hok hK
    · rename_i hu1 hu2
      split at hc
      · rename_i hu3; cases hc
        exact sound_conv_b2s hE hR ho d1 d2 d3 hx' (by rw [hP]; exact hu1) (by rw [hP]; exact hu3) (by rw [hP]; exact hu2) hok hK
      · cases hc
    · cases hc
  case h_21 ty x lo hi ho =>
    obtain ⟨d, hd, x', hx', lo', hlo, hi', hhi, hc⟩ := hc
    obtain ⟨d1, d2, d3⟩ := P1 hd
    split at hc
    · rename_i hu; cases hc
      exact sound_sslice hE hR ho d1 d2 d3 (by rw [hP]; exact hu) hx' hlo hhi hok hK
    · rename_i el hu
      simp only [Option.bind_eq_some_iff] at hc
      obtain ⟨z, hz, hc⟩ := hc
      cases hc
      exact sound_lslice hE hR ho d1 d2 d3 (by rw [hP]; exact hu) (by rw [hP]; exact hz) hx' hlo hhi hok hK
    · cases hc
  case h_22 ty parts ho =>
    obtain ⟨d, hd, z, hz, hc⟩ := hc
    obtain ⟨d1, d2, d3⟩ := P1 hd
    split at hc
    · rename_i fs hu
      simp only [Option.bind_eq_some_iff] at hc
      obtain ⟨places, hpl, qs, hq, hc⟩ := hc
      cases hc
      exact sound_build_struct hE hR ho d1 d2 d3 (by rw [hP]; exact hu) (by rw [hP]; exact hz) (by rw [hP]; exact hpl) (cParts_spec hq) hok hK
    · rename_i ln el hu
      simp only [Option.bind_eq_some_iff] at hc
      obtain ⟨sz, hsz, qs, hq, hc⟩ := hc
      cases hc
      exact sound_build_array hE hR ho d1 d2 d3 (by rw [hP]; exact hu) (by rw [hP]; exact hz) (by rw [hP]; exact hsz) (cParts_spec hq) hok hK
    · cases hc
  case h_23 ty ln parts ho =>
    obtain ⟨d, hd, hc⟩ := hc
    obtain ⟨d1, d2, d3⟩ := P1 hd
    split at hc
    · rename_i el hu
      simp only [Option.bind_eq_some_iff] at hc
      obtain ⟨z, hsz, zc, hz, qs, hq, hc⟩ := hc
      split at hc
      · rename_i hcond; cases hc
        exact sound_mkslice hE hR ho d1 d2 d3 (by rw [hP]; exact hu) (by rw [hP]; exact hz) (by rw [hP]; exact hsz) hcond.1 hcond.2.1 (cElems_spec hq) hok hK
      · cases hc
    · cases hc
  case h_24 b args ats ho =>
    split at hc
    · rename_i g hg; cases hc
      split at hg
      · rename_i hb; subst hb
        obtain ⟨s, x, t, d, el, z, zc, inf, s', x', q1, q2, q3, q4, q5, q6, q7, q8, q9, q10, q11, rfl⟩ := cXapp_spec hg
        obtain rfl : args = #[s, x] := by apply Array.ext'; simpa using q1
        obtain rfl : ats = #[t, t] := by apply Array.ext'; simpa using q2
        obtain ⟨d1, d2, d3⟩ := P2 q3
        have hz2 : inf.size = z := by simp only [szOf, q7, Option.map_some, Option.some.injEq] at q5; exact q5
        exact sound_xapp hE hR ho d1 d2 d3 (by rw [hP]; exact q4) (by rw [hP]; exact q6) (by rw [hP]; exact q7) hz2 q10 q11 q8 q9 hok hK
      · cases hg
    rename_i hnone
    clear hnone
    unfold cBuiltin at hc
    simp only [Option.bind_eq_bind, Option.bind_eq_some_iff] at hc
    obtain ⟨d, hd, hc⟩ := hc
    obtain ⟨d1, d2, d3⟩ := P1 hd
    split at hc
    · rename_i x t h1 h2
      obtain rfl : args = #[x] := by apply Array.ext'; simpa using h1
      obtain rfl : ats = #[t] := by apply Array.ext'; simpa using h2
      simp only [Option.bind_eq_some_iff] at hc
      obtain ⟨x', hx', hc⟩ := hc
      split at hc
      · rename_i hu; cases hc
        exact sound_len hE hR ho d1 d2 d3 hx' (by rw [hP]; exact hu) (.inl ⟨rfl, rfl⟩) hok hK
      · rename_i el hu; cases hc
        exact sound_len hE hR ho d1 d2 d3 hx' (by rw [hP]; exact hu) (.inr ⟨rfl, _, rfl⟩) hok hK
      · cases hc
    · rename_i s x t u h1 h2
      obtain rfl : args = #[s, x] := by apply Array.ext'; simpa using h1
      obtain rfl : ats = #[t, u] := by apply Array.ext'; simpa using h2
      split at hc
      · rename_i htu; subst htu
        split at hc
        · rename_i el hu
          simp only [Option.bind_eq_some_iff] at hc
          obtain ⟨z, hz, zc, hzc, inf, hinf, s', hs', x', hx', hc⟩ := hc
          split at hc
          · rename_i hcond; cases hc
            have hz2 : inf.size = z := by simp only [szOf, hinf, Option.map_some, Option.some.injEq] at hz; exact hz
            exact sound_append hE hR ho d1 d2 d3 (by rw [hP]; exact hu) (by rw [hP]; exact hzc) (by rw [hP]; exact hinf) hz2 hcond.1 hcond.2 hs' hx' hok hK
          · cases hc
        · cases hc
      · cases hc
    · cases hc
  case h_25 f args ats ho =>
    split at hc
    · rename_i g hg; cases hc
      obtain ⟨n, z, fn, d, n', q1, q2, q3, q4, q5, q6, rfl⟩ := cGrow_spec hg
      obtain rfl : args = #[.const (.slice none 0 0), n] := by apply Array.ext'; simpa using q1
      obtain ⟨d1, d2, d3⟩ := P1 q3
      exact sound_grow hE hR ho d1 d2 d3 (by rw [hP]; exact q2) q5 q6 q4 hok hK
    split at hc
    · rename_i g hg; cases hc
      obtain ⟨x, t, p, fn, q1, q2, q3, q4, q5, q6⟩ := cIn_spec hg
      obtain ⟨rfl, a2, a3⟩ := P3 q2
      obtain rfl : args = #[ptrOpd t p] := by apply Array.ext'; simpa using q1
      rcases q6 with ⟨d, hd, rfl⟩ | ⟨hd, rfl⟩
      · obtain ⟨d1, d2, d3⟩ := P1 hd
        exact sound_xcut hE hR ho d1 d2 d3 a2 a3 (by rw [hP]; exact q3) q4 q5 hok hK
      · refine sound_xcall hE hR ho (fun d hd' => ?_) a2 a3 (by rw [hP]; exact q3) q4 q5 hok hK
        rcases hd with h | h
        · rw [hd'] at h; cases h
        · obtain ⟨d', h'⟩ := Option.isSome_iff_exists.1 h
          obtain ⟨e1, e2, e3⟩ := P1 h'
          rw [hd'] at e1; cases e1
          exact ⟨e2, e3⟩
    unfold cCallee at hc
    simp only [Option.bind_eq_bind, Option.bind_eq_some_iff] at hc
    obtain ⟨fn, hfn, qs, hq, hc⟩ := hc
    split at hc
    · rename_i hcond; cases hc
      refine sound_call hE hR ho (fun d hd => ?_) (by rw [hP]; exact hfn) hcond.1 hcond.2.1 (cArgs_spec hq) hok hK
      rcases hcond.2.2 with h | h
      · rw [hd] at h; cases h
      · obtain ⟨d', hd'⟩ := Option.isSome_iff_exists.1 h
        obtain ⟨e1, e2, e3⟩ := P1 hd'
        rw [hd] at e1; cases e1
        exact ⟨e2, e3⟩
    · cases hc
  case h_26 x i ho =>
    obtain ⟨d, hd, x', hx', hc⟩ := hc
    cases hc
    obtain ⟨d1, d2, d3⟩ := P1 hd
    exact sound_extract hE hR ho d1 d2 d3 hx' hok hK
  case h_27 => cases hc

end Go.Proofs.YtccmaeefedgcnaaGreat

namespace Go.Proofs.YtccmaeefedgcnaaGreat

/-- An operation under its guard: the slot of the guard, and the answer that is wanted; where the operation writes. -/
structure GOp where
  guard : Option (Nat × Bool)
  dst : Option Nat
  op : AOp

def optReads : Option Opd → List Nat
  | none => []
  | some x => x.reads
def optSlot : Option Nat → List Nat
  | none => []
  | some p => [p]
def partReads : List (Nat × Nat × Opd) → List Nat
  | [] => []
  | (_, _, x) :: ps => x.reads ++ partReads ps
def opdReads : List Opd → List Nat
  | [] => []
  | x :: xs => x.reads ++ opdReads xs

def AOp.reads : AOp → List Nat
  | .mv _ x => x.reads
  | .take _ s => [s]
  | .pick _ c a b => c.reads ++ a.reads ++ b.reads
  | .balloc d _ => [d]
  | .bbox d x => d :: x.reads
  | .baddr _ t _ => [t]
  | .paddr _ p rt _ => p :: optSlot rt
  | .bload _ t p _ _ => t :: optSlot p
  | .vload _ p _ => [p]
  | .bstore t p x _ => t :: optSlot p ++ x.reads
  | .idx _ s i _ => s.reads ++ i.reads
  | .bidx _ t p i _ _ => t :: optSlot p ++ i.reads
  | .field _ x _ _ => x.reads
  | .aidx _ x i _ _ _ => x.reads ++ i.reads
  | .sidx _ s i => s.reads ++ i.reads
  | .bin _ _ _ x y => x.reads ++ y.reads
  | .un _ _ x => x.reads
  | .conv _ _ x => x.reads
  | .sslice _ x lo hi => x.reads ++ optReads lo ++ optReads hi
  | .lslice _ x lo hi _ => x.reads ++ optReads lo ++ optReads hi
  | .build _ _ ps => partReads ps
  | .mkslice _ _ xs => opdReads xs
  | .len _ _ x => x.reads
  | .append _ s x _ _ => s.reads ++ x.reads
  | .call _ _ xs => opdReads xs
  | .extract _ x _ => x.reads
  | .aeq _ _ x y _ => x.reads ++ y.reads
  | .grow _ _ n _ => n.reads
  | .mkmap d => [d]
  | .mvb d s => [d, s]
  | .malias _ t => [t]
  | .mlook _ t p k _ _ _ _ => t :: optSlot p ++ k.reads
  | .mentry _ t p k _ _ _ => t :: optSlot p ++ k.reads
  | .mestore t p s x => t :: optSlot p ++ (s.reads ++ x.reads)
  | .bot _ => []
  | .btk _ t p _ => t :: optSlot p
  | .xapp d s x _ _ => d :: (s.reads ++ x.reads)
  | .xcall _ _ t p => t :: optSlot p
  | .xcut _ _ t p => t :: optSlot p
  | .xfreeze _ t => [t]

def AOp.writes : AOp → List Nat
  | .mv d x => d :: x.writes
  | .take d s => [d, s]
  | .bbox d x => d :: x.writes
  | .bload d t _ _ tk => if tk then [d, t] else [d]
  | .bstore t _ x _ => t :: x.writes
  | .append d s _ _ _ => d :: s.writes
  | .call d _ _ => optSlot d
  | .bot d => optSlot d
  | .mvb d s => [d, s]
  | .mentry d t _ _ _ _ _ => [d, t]
  | .mestore t _ _ _ => [t]
  | .btk d t _ _ => [d, t]
  | .xapp d s _ _ _ => d :: s.writes
  | .xcall d _ t _ => t :: optSlot d
  | .xcut d _ t _ => [d, t]
  | .xfreeze d t => [d, t]
  | .pick d .. | .balloc d .. | .baddr d .. | .paddr d .. | .vload d .. | .idx d .. | .bidx d .. | .field d .. | .aidx d .. | .sidx d .. | .bin d .. | .un d .. | .conv d .. | .sslice d .. | .lslice d .. | .build d .. | .mkslice d .. | .len d .. | .extract d .. | .aeq d .. | .grow d .. | .mkmap d | .malias d .. | .mlook d .. => [d]

def Agree (S : List Nat) (st st' : St) (ver ver' : Nat → Nat) : Prop := ∀ t ∈ S, st.e t = st'.e t ∧ ver t = ver' t

section
variable {st st' : St} {ver ver' : Nat → Nat}

theorem Agree.left {A B : List Nat} (h : Agree (A ++ B) st st' ver ver') : Agree A st st' ver ver' := fun t ht => h t (List.mem_append.2 (.inl ht))
theorem Agree.right {A B : List Nat} (h : Agree (A ++ B) st st' ver ver') : Agree B st st' ver ver' := fun t ht => h t (List.mem_append.2 (.inr ht))
theorem Agree.tail {a : Nat} {B : List Nat} (h : Agree (a :: B) st st' ver ver') : Agree B st st' ver ver' := fun t ht => h t (List.mem_cons_of_mem _ ht)
theorem Agree.e {a : Nat} {B : List Nat} (h : Agree (a :: B) st st' ver ver') : st.e a = st'.e a := (h a (by simp)).1
theorem Agree.v {a : Nat} {B : List Nat} (h : Agree (a :: B) st st' ver ver') : ver a = ver' a := (h a (by simp)).2

theorem val_agree {x : Opd} (h : Agree x.reads st st' ver ver') : x.val st = x.val st' := by
  cases x with
  | t s m => have := h.e; cases m <;> simp [Opd.val, this]
  | c v => rfl
theorem opt_agree {x : Option Opd} {d : Nat} (h : Agree (optReads x) st st' ver ver') : optNat st d x = optNat st' d x := by
  cases x with
  | none => rfl
  | some x => simp only [optNat]; rw [val_agree h]
theorem ptr_agree {t : Nat} {p : Option Nat} (ht : ver t = ver' t) (h : Agree (optSlot p) st st' ver ver') : ptrOff st ver t p = ptrOff st' ver' t p := by
  cases p with
  | none => rfl
  | some p => simp only [ptrOff]; rw [h.e, ht]
theorem parts_agree : ∀ {ps : List (Nat × Nat × Opd)} {n : Nat}, Agree (partReads ps) st st' ver ver' → (partsOk st n ps ↔ partsOk st' n ps) ∧ ∀ cs, fillParts st cs ps = fillParts st' cs ps
  | [], n, _ => ⟨Iff.rfl, fun _ => rfl⟩
  | (off, sz, x) :: ps, n, h => by
    obtain ⟨h1, h2⟩ := parts_agree (ps := ps) (n := n) h.right
    have hx := val_agree (x := x) h.left
    refine ⟨?_, fun cs => ?_⟩
    · simp only [partsOk]; rw [hx, h1]
    · simp only [fillParts]; rw [hx, h2]
theorem elems_agree : ∀ {xs : List Opd} {z : Nat}, Agree (opdReads xs) st st' ver ver' → (elemsOk st z xs ↔ elemsOk st' z xs) ∧ (argsOk st xs ↔ argsOk st' xs) ∧ xs.map (Opd.val st) = xs.map (Opd.val st')
  | [], z, _ => ⟨Iff.rfl, Iff.rfl, rfl⟩
  | x :: xs, z, h => by
    obtain ⟨h1, h2, h3⟩ := elems_agree (xs := xs) (z := z) h.right
    have hx := val_agree (x := x) h.left
    refine ⟨?_, ?_, ?_⟩
    · simp only [elemsOk]; rw [hx, h1]
    · simp only [argsOk]; rw [hx, h2]
    · simp only [List.map_cons]; rw [hx, h3]

theorem ok_agree {P : Program} {r : AV} (op : AOp) (h : Agree op.reads st st' ver ver') (hok : op.ok P r st ver) : op.ok P r st' ver' := by
  cases op with
  | mv d x => simp only [AOp.ok] at hok ⊢; rw [← val_agree h]; exact hok
  | take d s => simp only [AOp.ok] at hok ⊢; rw [← h.e]; exact hok
  | pick d c a b => simp only [AOp.ok] at hok ⊢; rw [← val_agree h.left.left, ← val_agree h.left.right, ← val_agree h.right]; exact hok
  | balloc d z => trivial
  | bbox d x => simp only [AOp.ok] at hok ⊢; rw [← val_agree h.tail]; exact hok
  | baddr d t off => simp only [AOp.ok] at hok ⊢; rw [← h.e]; exact hok
  | paddr d p rt off =>
    simp only [AOp.ok] at hok ⊢; rw [← h.e]
    cases hp : st.e p <;> rw [hp] at hok <;> first | exact hok | skip
    obtain ⟨⟨rfl, hk⟩, hu⟩ := hok
    exact ⟨⟨rfl, hk.trans (Agree.v h.tail)⟩, by rw [← Agree.e h.tail]; exact hu⟩
  | bload d t p n tk => simp only [AOp.ok] at hok ⊢; rw [← h.e, ← ptr_agree h.v h.tail]; exact hok
  | vload d p n => simp only [AOp.ok] at hok ⊢; rw [← h.e]; exact hok
  | bstore t p x n => simp only [AOp.ok] at hok ⊢; rw [← h.e, ← ptr_agree h.v (Agree.left h.tail), ← val_agree (Agree.right h.tail)]; exact hok
  | idx d s i z => simp only [AOp.ok] at hok ⊢; rw [← val_agree h.left, ← val_agree h.right]; exact hok
  | bidx d t p i ln z => simp only [AOp.ok] at hok ⊢; rw [← h.e, ← ptr_agree h.v (Agree.left h.tail), ← val_agree (Agree.right h.tail)]; exact hok
  | field d x off n => simp only [AOp.ok] at hok ⊢; rw [← val_agree h]; exact hok
  | aidx d x i ln z n => simp only [AOp.ok] at hok ⊢; rw [← val_agree h.left, ← val_agree h.right]; exact hok
  | sidx d s i => simp only [AOp.ok] at hok ⊢; rw [← val_agree h.left, ← val_agree h.right]; exact hok
  | bin d op bl x y => simp only [AOp.ok] at hok ⊢; rw [← val_agree h.left, ← val_agree h.right]; exact hok
  | un d op x => simp only [AOp.ok] at hok ⊢; rw [← val_agree h]; exact hok
  | conv d c x => simp only [AOp.ok] at hok ⊢; rw [← val_agree h]; exact hok
  | sslice d x lo hi =>
    simp only [AOp.ok] at hok ⊢; rw [← val_agree h.left.left]
    cases hx : x.val st <;> rw [hx] at hok <;> first | exact hok | (simp only [] at hok ⊢; rw [← opt_agree h.left.right, ← opt_agree h.right]; exact hok)
  | lslice d x lo hi z =>
    simp only [AOp.ok] at hok ⊢; rw [← val_agree h.left.left]
    cases hx : x.val st <;> rw [hx] at hok <;> first | exact hok | (simp only [] at hok ⊢; rw [← opt_agree h.left.right, ← opt_agree h.right]; exact hok)
  | build d z ps => exact (parts_agree h).1.1 hok
  | mkslice d z xs => exact (elems_agree h).1.1 hok
  | len d is x => simp only [AOp.ok] at hok ⊢; rw [← val_agree h]; exact hok
  | append d s x z b => simp only [AOp.ok] at hok ⊢; rw [← val_agree h.left, ← val_agree h.right]; exact hok
  | call d f xs =>
    simp only [AOp.ok] at hok ⊢
    obtain ⟨h1, h2, h3⟩ := elems_agree (z := 0) h
    rw [← h2, ← h3]; exact hok
  | extract d x i => simp only [AOp.ok] at hok ⊢; rw [← val_agree h]; exact hok
  | aeq d neg x y sh => simp only [AOp.ok] at hok ⊢; rw [← val_agree h.left, ← val_agree h.right]; exact hok
  | grow d f n z => simp only [AOp.ok] at hok ⊢; rw [← val_agree h]; exact hok
  | mkmap d => trivial
  | mvb d s => simp only [AOp.ok] at hok ⊢; rw [← Agree.e h.tail]; exact hok
  | malias d t => simp only [AOp.ok] at hok ⊢; rw [← h.e]; exact hok
  | mlook d t p k z sh ag two => simp only [AOp.ok] at hok ⊢; rw [← h.e, ← ptr_agree h.v (Agree.left h.tail), ← val_agree (Agree.right h.tail)]; exact hok
  | mentry d t p k z sh ag => simp only [AOp.ok] at hok ⊢; rw [← h.e, ← ptr_agree h.v (Agree.left h.tail), ← val_agree (Agree.right h.tail)]; exact hok
  | mestore t p s x => simp only [AOp.ok] at hok ⊢; rw [← h.e, ← ptr_agree h.v (Agree.left h.tail), ← val_agree (Agree.left (Agree.right h.tail)), ← val_agree (Agree.right (Agree.right h.tail))]; exact hok
  | bot d => exact hok
  | btk d t p off => simp only [AOp.ok] at hok ⊢; rw [← h.e, ← ptr_agree h.v h.tail]; exact hok
  | xapp d s x z b => simp only [AOp.ok] at hok ⊢; rw [← val_agree (Agree.left h.tail), ← val_agree (Agree.right h.tail)]; exact hok
  | xcall d f t p => simp only [AOp.ok] at hok ⊢; rw [← h.e, ← ptr_agree h.v h.tail]; exact hok
  | xcut d f t p => simp only [AOp.ok] at hok ⊢; rw [← h.e, ← ptr_agree h.v h.tail]; exact hok
  | xfreeze d t => simp only [AOp.ok] at hok ⊢; rw [← h.e]; exact hok

theorem next_h (r : AV) (op : AOp) : (op.next r st ver).1.h = st.h ∧ (op.next r st ver).1.nx = st.nx := by
  have hd : ∀ x : Opd, (x.done st).h = st.h ∧ (x.done st).nx = st.nx := fun x => by cases x with
    | t s m => cases m <;> exact ⟨rfl, rfl⟩
    | c v => exact ⟨rfl, rfl⟩
  cases op <;> (try exact ⟨rfl, rfl⟩)
  case mv d x => exact hd x
  case bbox d x => exact hd x
  case bload d t p n tk => cases tk <;> exact ⟨rfl, rfl⟩
  case bstore t p x n => exact hd x
  case append d s x z b => exact hd s
  case call d f xs => cases d <;> exact ⟨rfl, rfl⟩
  case bot d => cases d <;> exact ⟨rfl, rfl⟩
  case xapp d s x z b => exact hd s
  case xcall d f t p => cases d <;> exact ⟨rfl, rfl⟩

theorem done_other {x : Opd} {t : Nat} (h : t ∉ x.writes) : (x.done st).e t = st.e t := by
  cases x with
  | t s m => cases m with
    | true => simp only [Opd.writes, List.mem_singleton] at h; exact upd_other _ _ h
    | false => rfl
  | c v => rfl

theorem next_other (r : AV) (op : AOp) {t : Nat} (h : t ∉ op.writes) : (op.next r st ver).1.e t = st.e t ∧ (op.next r st ver).2 t = ver t := by
  cases op <;> simp only [AOp.writes, List.mem_cons, List.not_mem_nil, not_or, or_false] at h <;> simp only [AOp.next, put]
  case mv d x => exact ⟨(upd_other _ _ h.1).trans (done_other h.2), trivial⟩
  case take d s => exact ⟨(upd_other _ _ h.1).trans (upd_other _ _ h.2), trivial⟩
  case balloc d z => exact ⟨upd_other _ _ h, upd_other _ _ h⟩
  case bbox d x => exact ⟨(upd_other _ _ h.1).trans (done_other h.2), upd_other _ _ h.1⟩
  case bload d t' p n tk =>
    cases tk with
    | true =>
      simp only [if_true, List.mem_cons, List.not_mem_nil, not_or, or_false] at h ⊢
      exact ⟨(upd_other _ _ h.1).trans (upd_other _ _ h.2), trivial⟩
    | false =>
      simp only [Bool.false_eq_true, if_false, List.mem_cons, List.not_mem_nil, or_false] at h ⊢
      exact ⟨upd_other _ _ h, trivial⟩
  case bstore t' p x n => exact ⟨(upd_other _ _ h.1).trans (done_other h.2), trivial⟩
  case append d s x z b => exact ⟨(upd_other _ _ h.1).trans (done_other h.2), trivial⟩
  case call d f xs =>
    cases d with
    | none => exact ⟨rfl, trivial⟩
    | some d => simp only [optSlot, List.mem_singleton] at h; exact ⟨upd_other _ _ h, trivial⟩
  case mkmap d => exact ⟨upd_other _ _ h, upd_other _ _ h⟩
  case mvb d s => exact ⟨(upd_other _ _ h.1).trans (upd_other _ _ h.2), upd_other _ _ h.1⟩
  case mentry d t' p k z sh ag => exact ⟨(upd_other _ _ h.1).trans (upd_other _ _ h.2), trivial⟩
  case btk d t' p off => exact ⟨(upd_other _ _ h.1).trans (upd_other _ _ h.2), trivial⟩
  case xapp d s x z b => exact ⟨(upd_other _ _ h.1).trans (done_other h.2), upd_other _ _ h.1⟩
  case xcall d f t' p =>
    cases d with
    | none => exact ⟨upd_other _ _ h.1, trivial⟩
    | some d => simp only [optSlot, List.mem_singleton] at h; exact ⟨(upd_other _ _ h.2).trans (upd_other _ _ h.1), trivial⟩
  case xcut d f t' p => exact ⟨(upd_other _ _ h.1).trans (upd_other _ _ h.2), trivial⟩
  case xfreeze d t' => exact ⟨(upd_other _ _ h.1).trans (upd_other _ _ h.2), trivial⟩
  case bot d =>
    cases d with
    | none => exact ⟨rfl, trivial⟩
    | some d => simp only [optSlot, List.mem_singleton] at h; exact ⟨upd_other _ _ h, trivial⟩
  all_goals exact ⟨upd_other _ _ h, trivial⟩

theorem done_agree {x : Opd} {t : Nat} (ht : t ∈ x.writes) : (x.done st).e t = (x.done st').e t := by
  cases x with
  | t s m => cases m with
    | true => simp only [Opd.writes, List.mem_singleton] at ht; subst ht; simp [Opd.done, upd]
    | false => cases ht
  | c v => cases ht

def AOp.bump : AOp → Nat → Nat
  | .balloc d _, t | .bbox d _, t | .mkmap d, t | .mvb d _, t | .xapp d _ _ _ _, t => if t = d then 1 else 0
  | _, _ => 0

theorem next_ver (r : AV) (op : AOp) (t : Nat) : (op.next r st ver).2 t = ver t + op.bump t := by
  cases op <;> simp only [AOp.next, AOp.bump, Nat.add_zero]
  case balloc d z => simp only [upd]; split <;> simp_all
  case bbox d x => simp only [upd]; split <;> simp_all
  case mkmap d => simp only [upd]; split <;> simp_all
  case mvb d s => simp only [upd]; split <;> simp_all
  case xapp d s x z b => simp only [upd]; split <;> simp_all

theorem put_agree {d t : Nat} {v v' : AV} (hv : v = v') (h : t ≠ d → st.e t = st'.e t) : (put st d v).e t = (put st' d v').e t := by
  subst hv
  simp only [put, upd]
  split
  · rfl
  · exact h ‹_›

theorem next_agree {r : AV} (op : AOp) (h : Agree op.reads st st' ver ver') {t : Nat} (ht : t ∈ op.writes) : (op.next r st ver).1.e t = (op.next r st' ver').1.e t := by
  have one : ∀ {d : Nat} {s s' : St} {v v' : AV}, t ∈ [d] → v = v' → (put s d v).e t = (put s' d v').e t := fun hm hv => put_agree hv (fun hne => absurd (List.mem_singleton.1 hm) hne)
  cases op <;> simp only [AOp.writes] at ht <;> simp only [AOp.next]
  case mv d x => exact put_agree (val_agree h) (fun hne => done_agree ((List.mem_cons.1 ht).resolve_left hne))
  case take d s =>
    refine put_agree h.e (fun hne => put_agree (by rw [h.e]) (fun hne2 => ?_))
    simp only [List.mem_cons, List.not_mem_nil, or_false] at ht
    exact absurd (ht.resolve_left hne) hne2
  case pick d c a b => exact one ht (by rw [val_agree h.left.left, val_agree h.left.right, val_agree h.right])
  case balloc d z => exact one ht rfl
  case bbox d x => exact put_agree (val_agree h.tail) (fun hne => done_agree ((List.mem_cons.1 ht).resolve_left hne))
  case baddr d t' off => exact one ht (by rw [h.v])
  case paddr d p rt off => exact one ht (by rw [h.e])
  case bload d t' p n tk =>
    have e1 := h.e
    have e2 := ptr_agree h.v h.tail
    cases tk with
    | true =>
      simp only [if_true] at ht ⊢
      refine put_agree (by rw [e1, e2]) (fun hne => put_agree (by rw [e1, e2]) (fun hne2 => ?_))
      simp only [List.mem_cons, List.not_mem_nil, or_false] at ht
      exact absurd (ht.resolve_left hne) hne2
    | false =>
      simp only [Bool.false_eq_true, if_false] at ht ⊢
      exact one ht (by rw [e1, e2])
  case vload d p n => exact one ht (by rw [h.e])
  case bstore t' p x n => exact put_agree (by rw [h.e, ptr_agree h.v (Agree.left h.tail), val_agree (Agree.right h.tail)]) (fun hne => done_agree ((List.mem_cons.1 ht).resolve_left hne))
  case idx d s i z => exact one ht (by rw [val_agree h.left, val_agree h.right])
  case bidx d t' p i ln z => exact one ht (by rw [h.v, ptr_agree h.v (Agree.left h.tail), val_agree (Agree.right h.tail)])
  case field d x off n => exact one ht (by rw [val_agree h])
  case aidx d x i ln z n => exact one ht (by rw [val_agree h.left, val_agree h.right])
  case sidx d s i => exact one ht (by rw [val_agree h.left, val_agree h.right])
  case bin d op bl x y => exact one ht (by rw [val_agree h.left, val_agree h.right])
  case un d op x => exact one ht (by rw [val_agree h])
  case conv d c x => exact one ht (by rw [val_agree h])
  case sslice d x lo hi =>
    refine one ht ?_
    rw [← val_agree h.left.left]
    cases x.val st <;> first | rfl | (simp only []; rw [opt_agree h.left.right, opt_agree h.right])
  case lslice d x lo hi z =>
    refine one ht ?_
    rw [← val_agree h.left.left]
    cases x.val st <;> first | rfl | (simp only []; rw [opt_agree h.left.right, opt_agree h.right])
  case build d z ps => exact one ht (by rw [(parts_agree (n := 0) h).2])
  case mkslice d z xs => exact one ht (by rw [(elems_agree (z := 0) h).2.2])
  case len d is x => exact one ht (by rw [val_agree h])
  case append d s x z b => exact put_agree (by rw [val_agree h.left, val_agree h.right]) (fun hne => done_agree ((List.mem_cons.1 ht).resolve_left hne))
  case call d f xs =>
    cases d with
    | none => cases ht
    | some d => exact one ht rfl
  case extract d x i => exact one ht (by rw [val_agree h])
  case aeq d neg x y sh => exact one ht (by rw [val_agree h.left, val_agree h.right])
  case grow d f n z => exact one ht rfl
  case mkmap d => exact one ht rfl
  case mvb d s =>
    refine put_agree (Agree.e h.tail) (fun hne => put_agree rfl (fun hne2 => ?_))
    simp only [List.mem_cons, List.not_mem_nil, or_false] at ht
    exact absurd (ht.resolve_left hne) hne2
  case malias d t' => exact one ht (by rw [h.v])
  case mlook d t' p k z sh ag two => exact one ht (by rw [h.e, val_agree (Agree.right h.tail)])
  case mentry d t' p k z sh ag =>
    have e1 := h.e
    have e2 := val_agree (Agree.right h.tail)
    refine put_agree (by rw [e1, e2]) (fun hne => put_agree (by rw [e1, e2]) (fun hne2 => ?_))
    simp only [List.mem_cons, List.not_mem_nil, or_false] at ht
    exact absurd (ht.resolve_left hne) hne2
  case mestore t' p s x => exact one ht (by rw [h.e, val_agree (Agree.left (Agree.right h.tail)), val_agree (Agree.right (Agree.right h.tail))])
  case bot d => cases d with
    | none => cases ht
    | some d => exact one ht rfl
  case btk d t' p off =>
    have e1 := h.e
    refine put_agree (by rw [e1]) (fun hne => put_agree (by rw [e1]) (fun hne2 => ?_))
    simp only [List.mem_cons, List.not_mem_nil, or_false] at ht
    exact absurd (ht.resolve_left hne) hne2
  case xapp d s x z b => exact put_agree (by rw [val_agree (Agree.right h.tail)]) (fun hne => done_agree ((List.mem_cons.1 ht).resolve_left hne))
  case xcall d f t' p =>
    cases d with
    | none => exact put_agree rfl (fun hne => absurd (by simpa [optSlot] using ht) hne)
    | some d =>
      refine put_agree rfl (fun hne => put_agree rfl (fun hne2 => ?_))
      simp only [optSlot, List.mem_cons, List.not_mem_nil, or_false] at ht
      exact absurd (ht.resolve_left hne2) hne
  case xcut d f t' p =>
    refine put_agree rfl (fun hne => put_agree rfl (fun hne2 => ?_))
    simp only [List.mem_cons, List.not_mem_nil, or_false] at ht
    exact absurd (ht.resolve_left hne) hne2
  case xfreeze d t' =>
    refine put_agree (by rw [h.e]) (fun hne => put_agree rfl (fun hne2 => ?_))
    simp only [List.mem_cons, List.not_mem_nil, or_false] at ht
    exact absurd (ht.resolve_left hne) hne2
end

/-! Guards. -/

/-- What a guard says: whether the operation runs. -/
def gtest (v : AV) (w : Bool) : Option Bool := match v with
  | .bool b => some (b == w)
  | .dead => some false
  | _ => none
def GOp.test (g : GOp) (st : St) : Bool := match g.guard with
  | none => true
  | some (t, want) => (gtest (st.e t) want).getD false
def GOp.bool (g : GOp) (st : St) : Prop := match g.guard with
  | none => True
  | some (t, want) => (gtest (st.e t) want).isSome = true
def GOp.skip (g : GOp) (st : St) : St := match g.dst with
  | some d => put st d .dead
  | none => st
def GOp.ok (P : Program) (g : GOp) (r : AV) (st : St) (ver : Nat → Nat) : Prop := g.bool st ∧ (g.test st = true → g.op.ok P r st ver)
def GOp.next (g : GOp) (r : AV) (st : St) (ver : Nat → Nat) : St × (Nat → Nat) := if g.test st then g.op.next r st ver else (g.skip st, ver)

def GOp.reads (g : GOp) : List Nat := (match g.guard with | some (t, _) => [t] | none => []) ++ g.op.reads
def GOp.writes (g : GOp) : List Nat := (match g.guard with | some _ => optSlot g.dst | none => []) ++ g.op.writes

section
variable {st st' : St} {ver ver' : Nat → Nat} {g : GOp} {P : Program} {r : AV}

theorem GOp.test_agree (h : Agree g.reads st st' ver ver') : g.test st = g.test st' ∧ (g.bool st ↔ g.bool st') := by
  obtain ⟨gd, d, op⟩ := g
  cases gd with
  | none => exact ⟨rfl, Iff.rfl⟩
  | some x => obtain ⟨t, want⟩ := x; have := h.left.e; simp only [GOp.test, GOp.bool, this, and_self]

theorem GOp.ok_agree (h : Agree g.reads st st' ver ver') (hok : g.ok P r st ver) : g.ok P r st' ver' := by
  obtain ⟨h1, h2⟩ := GOp.test_agree h
  exact ⟨h2.1 hok.1, fun ht => Go.Proofs.YtccmaeefedgcnaaGreat.ok_agree g.op h.right (hok.2 (by rw [h1]; exact ht))⟩

theorem GOp.next_h : (g.next r st ver).1.h = st.h ∧ (g.next r st ver).1.nx = st.nx := by
  unfold GOp.next; split
  · exact Go.Proofs.YtccmaeefedgcnaaGreat.next_h r g.op
  · unfold GOp.skip; split <;> exact ⟨rfl, rfl⟩

theorem GOp.next_other {t : Nat} (h : t ∉ g.writes) : (g.next r st ver).1.e t = st.e t := by
  simp only [GOp.writes, List.mem_append, not_or] at h
  unfold GOp.next; split
  · exact (Go.Proofs.YtccmaeefedgcnaaGreat.next_other r g.op h.2).1
  · rename_i ht
    unfold GOp.skip; split
    · rename_i d hd
      refine upd_other _ _ (fun e => ?_)
      subst e
      cases hg : g.guard with
      | none => simp [GOp.test, hg] at ht
      | some x => rw [hg, hd] at h; simp [optSlot] at h
    · rfl

theorem GOp.next_ver (t : Nat) : (g.next r st ver).2 t = ver t + (if g.test st then g.op.bump t else 0) := by
  unfold GOp.next; split
  · exact Go.Proofs.YtccmaeefedgcnaaGreat.next_ver r g.op t
  · rfl

theorem GOp.next_agree (h : Agree g.reads st st' ver ver') (hw : ∀ t ∈ g.writes, st.e t = st'.e t ∨ t ∈ g.op.writes ∧ g.guard = none) {t : Nat} (ht : t ∈ g.writes) : (g.next r st ver).1.e t = (g.next r st' ver').1.e t := by
  obtain ⟨h1, _⟩ := GOp.test_agree h
  unfold GOp.next; rw [← h1]; split
  · by_cases hm : t ∈ g.op.writes
    · exact Go.Proofs.YtccmaeefedgcnaaGreat.next_agree g.op h.right hm
    · rw [(Go.Proofs.YtccmaeefedgcnaaGreat.next_other r g.op hm).1, (Go.Proofs.YtccmaeefedgcnaaGreat.next_other r g.op hm).1]
      exact (hw t ht).resolve_right (fun x => hm x.1)
  · rename_i htest
    unfold GOp.skip
    split
    · refine put_agree rfl (fun _ => (hw t ht).resolve_right (fun x => ?_))
      simp [GOp.test, x.2] at htest
    · refine (hw t ht).resolve_right (fun x => ?_)
      simp [GOp.test, x.2] at htest
end

end Go.Proofs.YtccmaeefedgcnaaGreat
