/- One operation in the abstract evaluator. -/
import Derived.Test.YtgikapdeekepiaaGreatDoorEvH
set_option linter.unusedSimpArgs false
namespace Go.Proofs.YtgikapdeekepiaaGreatDoor
open Go

/-- A deferred call. -/
structure ADef where
  f : FuncId
  args : List AV
  cap : List AV

inductive OO where
  | ok (x : AV) (h : AH)
  | defer (d : ADef)
  | enter (f : FuncId) (args : List AV)
  | pan (v : AV)
  | recover
  | bad

def OO.of (h : AH) : Option AV → OO
  | some x => .ok x h
  | none => .bad

def OO.ofH : Option (AV × AH) → OO
  | some (x, h) => .ok x h
  | none => .bad

def OO.ofS : Option AH → OO
  | some h => .ok (.tuple []) h
  | none => .bad

def hasBody (P : Program) (f : FuncId) : Bool :=
  match P.funcs[f]? with
  | some fn => fn.body.isSome
  | none => false

/-- Functions without a body. -/
def aext : Ext → List AV → Option AV
  | .cmpstr, [.str a, .str b] => some (.int .i64 (Extern.BytealgCompare.cmp a b))
  | .f64bits, [.float .f64 b] => some (.int .u64 b)
  | .f64from, [.int .u64 n] => some (.float .f64 n.toNat)
  | .same, [x] => some x
  | _, _ => none

theorem arr1 {Γ : Ctx} {w : World} {x : AV} {vs : Array Value} (h : RelL Γ w [x] vs) : ∃ v, vs = #[v] ∧ VR Γ w x v := by
  have hsz : vs.size = 1 := h.1
  refine ⟨vs[0], ?_, h.2 0 x _ (by simp) (by simp [hsz])⟩
  apply Array.ext_getElem?
  intro i
  match i with
  | 0 => simp [hsz]
  | i + 1 => simp [hsz]

theorem arr2 {Γ : Ctx} {w : World} {x y : AV} {vs : Array Value} (h : RelL Γ w [x, y] vs) : ∃ u v, vs = #[u, v] ∧ VR Γ w x u ∧ VR Γ w y v := by
  have hsz : vs.size = 2 := h.1
  refine ⟨vs[0], vs[1], ?_, h.2 0 x _ (by simp) (by simp [hsz]), h.2 1 y _ (by simp) (by simp [hsz])⟩
  apply Array.ext_getElem?
  intro i
  match i with
  | 0 => simp [hsz]
  | 1 => simp [hsz]
  | i + 2 => simp [hsz]

theorem aext_ok {P : Program} {Γ : Ctx} {w : World} {e : Ext} {xs : List AV} {vs : Array Value} (h : RelL Γ w xs vs) {y : AV} (ha : aext e xs = some y) :
    ∃ v, (e.row vs).run P w = .ok v w ∧ VR Γ w y v := by
  unfold aext at ha
  split at ha
  · obtain ⟨u, v, rfl, hu, hv⟩ := arr2 h
    cases hu; cases hv; cases ha
    rename_i a b
    refine ⟨.int .i64 (Extern.BytealgCompare.cmp a b), ?_, .int _ _⟩
    change Sem.run P (do pure (goInt (Extern.BytealgCompare.cmp (← Extern.Bytes.bytesOf (.string a)) (← Extern.Bytes.bytesOf (.string b))))) w = _
    simp [Extern.Bytes.bytesOf, goInt]
  · obtain ⟨u, rfl, hu⟩ := arr1 h
    cases hu; cases ha
    exact ⟨_, rfl, .int _ _⟩
  · obtain ⟨u, rfl, hu⟩ := arr1 h
    cases hu; cases ha
    exact ⟨_, rfl, .float _ _⟩
  · obtain ⟨u, rfl, hu⟩ := arr1 h
    cases ha
    exact ⟨_, rfl, hu⟩
  · cases ha

def aop (P : Program) (V : Env) (fr : FT) (h : AH) (o : Oper) : OO :=
  match o.op with
  | .move x | .assign x => .of h (aeval fr x)
  | .pick c a b => match aeval fr c with
    | some (.bool t) => .of h (aeval fr (if t then a else b))
    | _ => .bad
  | .alloc t => .ofH (aalloc P h t)
  | .box _ x => match aeval fr x with
    | some y => .ok (.ptr h.objs.length 0) (h.push (.cells y.acells))
    | none => .bad
  | .build t ps => .of h (abuild P fr t ps)
  | .buildSlice t n ps => .of h (abuildSlice P fr t n ps)
  | .load t a => match aeval fr a with
    | some y => .of h (aload P h t y)
    | none => .bad
  | .store t a x => match aeval fr a, aeval fr x with
    | some y, some z => .ofS (astore P h t y z)
    | _, _ => .bad
  | .nilCheck x => match aeval fr x with
    | some y => if anilCheck y then .ok y h else .bad
    | none => .bad
  | .binOp op t x y _ => match aeval fr x, aeval fr y with
    | some a, some b => .of h (abin P V op t x y a b)
    | _, _ => .bad
  | .unOp op _ x => match aeval fr x with
    | some a => .of h (aun op a)
    | none => .bad
  | .convert s d x => match aeval fr x with
    | some a => .of h (aconv P s d a)
    | none => .bad
  | .makeInterface t x => match aeval fr x with
    | some a => if concreteT P t then .ok (.iface t a) h else .bad
    | none => .bad
  | .makeFunc fn fi ca => match aevals fr fi, aevals fr ca with
    | some xs, some ys => .ok (.func fn xs ys) h
    | _, _ => .bad
  | .makeMap _ none => .ok (.map h.objs.length) (h.push (.map []))
  | .slice t x lo hi mx => match aeval fr x with
    | some a => .of h (aslice P fr t a lo hi mx)
    | none => .bad
  | .fieldAddr t x f => match aeval fr x with
    | some a => .of h (afieldAddr P t a f)
    | none => .bad
  | .field t x f => match aeval fr x with
    | some a => .of h (afield P t a f)
    | none => .bad
  | .indexAddr t x i => match aeval fr x, aeval fr i with
    | some a, some b => .of h (aindexAddr P t a b)
    | _, _ => .bad
  | .index t x i => match aeval fr x, aeval fr i with
    | some a, some b => .of h (aindex P t a b)
    | _, _ => .bad
  | .lookup t x k ok => match aeval fr x, aeval fr k with
    | some a, some b => .of h (alookup P h t a b ok)
    | _, _ => .bad
  | .mapUpdate t m k x => match aeval fr m, aeval fr k, aeval fr x with
    | some a, some b, some c => .ofS (amapSet P h t a b c)
    | _, _, _ => .bad
  | .typeAssert x _ t ok => match aeval fr x with
    | some a => .of h (aassert P a t ok)
    | none => .bad
  | .extract x i => match aeval fr x with
    | some (.tuple xs) => .of h xs[i]?
    | _ => .bad
  | .panic x => match aeval fr x with
    | some (.iface t v) => .pan (.iface t v)
    | _ => .bad
  | .call c => match c.callee with
    | .builtin .len => match aevals fr c.args, c.argTypes.size == 1, c.argTypes[0]? with
      | some [x], true, some t => .of h (alen P h t x)
      | _, _, _ => .bad
    | .builtin .append => match aevals fr c.args with
      | some [x, y] => .ofH (aappend P h c.argTypes x y)
      | _ => .bad
    | .builtin .max => match aevals fr c.args with
      | some xs => .of h (amax true xs)
      | none => .bad
    | .builtin .min => match aevals fr c.args with
      | some xs => .of h (amax false xs)
      | none => .bad
    | .builtin .recover => .recover
    | .value f => match aeval fr f, aevals fr c.args with
      | some (.func (.func g) fi ca), some xs => if hasBody P g then .enter g (fi ++ xs ++ ca) else match V.exts.find? (fun p => p.1 == g) with
        | some p => .of h (aext p.2 (fi ++ xs ++ ca))
        | none => .bad
      | _, _ => .bad
    | _ => .bad
  | .defer c => match c.callee with
    | .value f => match aeval fr f, aevals fr c.args with
      | some (.func (.func g) fi ca), some xs => if hasBody P g then .defer ⟨g, fi ++ xs, ca⟩ else .bad
      | _, _ => .bad
    | _ => .bad
  | _ => .bad

def DR (Γ : Ctx) (w : World) (d : ADef) (dd : Deferred) : Prop :=
  ∃ va vc, dd = { target := .fn (.func d.f) vc, args := va } ∧ RelL Γ w d.args va ∧ RelL Γ w d.cap vc

def OOok (P : Program) (Γ : Ctx) (w : World) (r : Result Next) : OO → Prop
  | .ok x h' => ∃ Γ' w' nx v, r = .ok nx w' ∧ (nx = .value v ∨ (nx = .skip ∧ v = undef)) ∧ VR Γ' w' x v ∧ St Γ' h' w' ∧ Evo Γ w Γ' w'
  | .defer d => (∃ dd, r = .ok (.defer dd) w ∧ DR Γ w d dd) ∧ hasBody P d.f = true
  | .enter f args => ∃ vs, r = .ok (.enter f vs) w ∧ RelL Γ w args vs
  | .pan x => ∃ v, r = .halt (.panic v) w ∧ VR Γ w x v
  | .recover => r = .ok .recover w
  | .bad => True

theorem RelL.append {Γ : Ctx} {w : World} {xs ys : List AV} {us vs : Array Value} (h : RelL Γ w xs us) (h' : RelL Γ w ys vs) : RelL Γ w (xs ++ ys) (us ++ vs) := by
  refine ⟨by simp [h.1, h'.1], fun i x v hx hv => ?_⟩
  rcases Nat.lt_or_ge i xs.length with hlt | hge
  · rw [List.getElem?_append_left hlt] at hx
    rw [Array.getElem?_append_left (by rw [h.1]; exact hlt)] at hv
    exact h.2 i x v hx hv
  · rw [List.getElem?_append_right hge] at hx
    rw [Array.getElem?_append_right (by rw [h.1]; exact hge), h.1] at hv
    exact h'.2 _ x v hx hv

theorem VR.func_inv {Γ : Ctx} {w : World} {fn : Fn} {fi ca : List AV} {v : Value} (h : VR Γ w (.func fn fi ca) v) : ∃ fa va, v = .func fn fa va ∧ RelL Γ w fi fa ∧ RelL Γ w ca va := by
  cases h with
  | func h1 h2 hf hv => exact ⟨_, _, rfl, ⟨h1, hf⟩, ⟨h2, hv⟩⟩

theorem vget {xs : List AV} {vs : Array Value} {Γ : Ctx} {w : World} (h : RelL Γ w xs vs) : vs.toList.length = xs.length ∧ ∀ (i : Nat) x v, xs[i]? = some x → vs.toList[i]? = some v → VR Γ w x v :=
  ⟨by simpa using h.1, fun i x v hx hv => h.2 i x v hx (by simpa using hv)⟩

theorem callFunc_ok {P : Program} {V : Env} (hV : V.ok P) {w : World} {g : FuncId} (hb : hasBody P g = true) (vs : Array Value) : (callFunc g vs).run P w = .ok (.enter g vs) w := by
  unfold hasBody at hb
  split at hb
  · rename_i fn hfn
    obtain ⟨c, hc⟩ := Option.isSome_iff_exists.1 hb
    have := hV.noNG g fn hfn
    simp only [callFunc, Sem.run_bind, run_program, Result.andThen_ok, hfn, this, hc, Option.isNone_some, Bool.false_eq_true, if_false, Sem.run_pure]
  · cases hb

section
variable {P : Program} {V : Env} {Γ : Ctx} {h : AH} {w : World} {fr : FT} {a : Act} {o : Oper}

theorem of_pure (hs : St Γ h w) {r : Result Next} {x : Option AV} (hx : ∀ y, x = some y → ∃ v, r = .ok (.value v) w ∧ VR Γ w y v) : OOok P Γ w r (.of h x) := by
  cases x with
  | none => trivial
  | some y =>
    obtain ⟨v, h1, h2⟩ := hx y rfl
    exact ⟨Γ, w, _, v, h1, .inl rfl, h2, hs, Evo.refl _ _⟩

theorem aop_ok (hV : V.ok P) (hs : St Γ h w) (hf : FR Γ w fr a.tmps) : OOok P Γ w ((execOp a.eval o).run P w) (aop P V fr h o) := by
  unfold aop
  cases ho : o.op with
  | move x => exact of_pure hs fun y hy => ⟨_, by simp [execOp, ho], aeval_ok hf hy⟩
  | assign x => exact of_pure hs fun y hy => ⟨_, by simp [execOp, ho], aeval_ok hf hy⟩
  | pick c x y =>
    simp only
    split
    · rename_i t ht
      have hc := aeval_ok hf ht
      refine of_pure hs fun z hz => ⟨a.eval (if t then x else y), ?_, aeval_ok hf hz⟩
      generalize hcv : a.eval c = cv at hc
      cases hc
      cases t <;> simp [execOp, ho, hcv, asBool]
    · trivial
  | alloc t =>
    simp only
    cases hl : aalloc P h t with
    | none => trivial
    | some r =>
      obtain ⟨x, h'⟩ := r
      obtain ⟨Γ', w', v, h1, h2, h3, h4⟩ := aalloc_ok hs hl
      exact ⟨Γ', w', _, v, by simp [execOp, ho, h1], .inl rfl, h2, h3, h4⟩
  | box t x =>
    simp only
    split
    · rename_i y hy
      obtain ⟨Γ', w', v, h1, h2, h3, h4⟩ := abox_ok (P := P) (t := t) hs (aeval_ok hf hy)
      exact ⟨Γ', w', _, v, by simp [execOp, ho, h1], .inl rfl, h2, h3, h4⟩
    · trivial
  | build t ps =>
    refine of_pure hs fun y hy => ?_
    obtain ⟨v, h1, h2⟩ := abuild_ok hf hy
    exact ⟨v, by simp only [execOp, ho, Sem.run_bind, h1, Result.andThen_ok, Sem.run_pure], h2⟩
  | buildSlice t n ps =>
    simp only
    cases hl : abuildSlice P fr t n ps with
    | none => trivial
    | some x =>
      obtain ⟨w', v, h1, h2, h3, h4⟩ := abuildSlice_ok hs hf hl
      exact ⟨Γ, w', _, v, by simp only [execOp, ho, Sem.run_bind, h1, Result.andThen_ok, Sem.run_pure], .inl rfl, h2, h3, h4⟩
  | load t x =>
    simp only
    split
    · rename_i y hy
      refine of_pure hs fun z hz => ?_
      obtain ⟨v, h1, h2⟩ := aload_ok hs (aeval_ok hf hy) hz
      exact ⟨v, by simp [execOp, ho, h1], h2⟩
    · trivial
  | store t x y =>
    simp only
    split
    · rename_i z u hz hu
      cases hl : astore P h t z u with
      | none => trivial
      | some h' =>
        obtain ⟨w', h1, h2, h3⟩ := astore_ok hs (aeval_ok hf hz) (aeval_ok hf hu) hl
        exact ⟨Γ, w', _, undef, by simp [execOp, ho, h1], .inr ⟨rfl, rfl⟩, .tuple rfl (by simp), h2, h3⟩
    · trivial
  | nilCheck x =>
    simp only
    split
    · rename_i y hy
      split
      · rename_i hn
        have hc := aeval_ok hf hy
        refine ⟨Γ, w, _, a.eval x, ?_, .inl rfl, hc, hs, Evo.refl _ _⟩
        generalize hcv : a.eval x = cv at hc
        cases hc <;> simp [anilCheck] at hn
        case ptr => simp [execOp, ho, hcv]
        case rptr => simp [execOp, ho, hcv]
        case func fn fi ca fa va h1 h2 h3 h4 =>
          cases fn <;> simp [anilCheck] at hn
          simp [execOp, ho, hcv]
      · trivial
    · trivial
  | binOp op t x y t2 =>
    simp only
    split
    · rename_i u v hu hv
      refine of_pure hs fun z hz => ?_
      obtain ⟨v, h1, h2⟩ := abin_ok (w := w) hV (aeval_ok hf hu) (aeval_ok hf hv) hz
      simp only [Sem.run_bind] at h1
      exact ⟨v, by simp only [execOp, ho, Sem.run_bind, h1, Result.andThen_ok, Sem.run_pure], h2⟩
    · trivial
  | unOp op t x =>
    simp only
    split
    · rename_i y hy
      refine of_pure hs fun z hz => ?_
      obtain ⟨v, h1, h2⟩ := aun_ok (P := P) (aeval_ok hf hy) hz
      exact ⟨v, by simp [execOp, ho, h1], h2⟩
    · trivial
  | convert s d x =>
    simp only
    split
    · rename_i y hy
      cases hl : aconv P s d y with
      | none => trivial
      | some z =>
        obtain ⟨w', v, h1, h2, h3, h4⟩ := aconv_ok hs (aeval_ok hf hy) hl
        exact ⟨Γ, w', _, v, by simp [execOp, ho, h1], .inl rfl, h2, h3, h4⟩
    · trivial
  | makeInterface t x =>
    simp only
    split
    · rename_i y hy
      split
      · rename_i hc
        obtain ⟨h1, h2⟩ := amakeIface_ok (aeval_ok hf hy) hc
        exact ⟨Γ, w, _, _, by simp [execOp, ho, h1], .inl rfl, h2, hs, Evo.refl _ _⟩
      · trivial
    · trivial
  | makeFunc fn fi ca =>
    simp only
    split
    · rename_i xs ys hx hy
      obtain ⟨h1, h2⟩ := aevals_ok hf hx
      obtain ⟨h3, h4⟩ := aevals_ok hf hy
      exact ⟨Γ, w, _, _, by simp [execOp, ho, Instr.makeFunc], .inl rfl, .func h1 h3 h2 h4, hs, Evo.refl _ _⟩
    · trivial
  | makeMap t r =>
    cases r with
    | none =>
      obtain ⟨Γ', w', v, h1, h2, h3, h4⟩ := amakeMap_ok (P := P) hs t
      exact ⟨Γ', w', _, v, by simp [execOp, ho, h1], .inl rfl, h2, h3, h4⟩
    | some r => trivial
  | slice t x lo hi mx =>
    simp only
    split
    · rename_i y hy
      refine of_pure hs fun z hz => ?_
      obtain ⟨v, h1, h2⟩ := aslice_ok hf (aeval_ok hf hy) hz
      exact ⟨v, by simp [execOp, ho, h1], h2⟩
    · trivial
  | fieldAddr t x f =>
    simp only
    split
    · rename_i y hy
      refine of_pure hs fun z hz => ?_
      obtain ⟨v, h1, h2⟩ := afieldAddr_ok (P := P) (aeval_ok hf hy) hz
      exact ⟨v, by simp [execOp, ho, h1], h2⟩
    · trivial
  | field t x f =>
    simp only
    split
    · rename_i y hy
      refine of_pure hs fun z hz => ?_
      obtain ⟨v, h1, h2⟩ := afield_ok (P := P) (aeval_ok hf hy) hz
      exact ⟨v, by simp [execOp, ho, h1], h2⟩
    · trivial
  | indexAddr t x i =>
    simp only
    split
    · rename_i u v hu hv
      refine of_pure hs fun z hz => ?_
      obtain ⟨v, h1, h2⟩ := aindexAddr_ok (P := P) (aeval_ok hf hu) (aeval_ok hf hv) hz
      exact ⟨v, by simp [execOp, ho, h1], h2⟩
    · trivial
  | index t x i =>
    simp only
    split
    · rename_i u v hu hv
      refine of_pure hs fun z hz => ?_
      obtain ⟨v, h1, h2⟩ := aindex_ok (P := P) (aeval_ok hf hu) (aeval_ok hf hv) hz
      exact ⟨v, by simp [execOp, ho, h1], h2⟩
    · trivial
  | lookup t x k ok =>
    simp only
    split
    · rename_i u v hu hv
      refine of_pure hs fun z hz => ?_
      obtain ⟨v, h1, h2⟩ := alookup_ok hs (aeval_ok hf hu) (aeval_ok hf hv) hz
      exact ⟨v, by simp [execOp, ho, h1], h2⟩
    · trivial
  | mapUpdate t m k x =>
    simp only
    split
    · rename_i u v z hu hv hz
      cases hl : amapSet P h t u v z with
      | none => trivial
      | some h' =>
        obtain ⟨w', h1, h2, h3⟩ := amapSet_ok hs (aeval_ok hf hu) (aeval_ok hf hv) (aeval_ok hf hz) hl
        exact ⟨Γ, w', _, undef, by simp [execOp, ho, h1], .inr ⟨rfl, rfl⟩, .tuple rfl (by simp), h2, h3⟩
    · trivial
  | typeAssert x xt t ok =>
    simp only
    split
    · rename_i y hy
      refine of_pure hs fun z hz => ?_
      obtain ⟨v, h1, h2⟩ := aassert_ok (P := P) (xt := xt) (aeval_ok hf hy) hz
      exact ⟨v, by simp [execOp, ho, h1], h2⟩
    · trivial
  | extract x i =>
    simp only
    split
    · rename_i xs hx
      have hc := aeval_ok hf hx
      refine of_pure hs fun z hz => ?_
      generalize hcv : a.eval x = cv at hc
      cases hc with
      | tuple h1 hv =>
        rename_i va
        have hlt : i < va.size := by rw [h1]; exact (List.getElem?_eq_some_iff.1 hz).1
        exact ⟨va[i], by simp [execOp, ho, hcv, Instr.extract, hlt], hv i z _ hz (by simp [hlt])⟩
    · trivial
  | panic x =>
    simp only
    split
    · rename_i t y hy
      have hc := aeval_ok hf hy
      generalize hcv : a.eval x = cv at hc
      cases hc with
      | iface hx => exact ⟨_, by simp [execOp, ho, hcv, Instr.panic], .iface hx⟩
    · trivial
  | call c =>
    obtain ⟨cl, cargs, cts⟩ := c
    cases cl with
    | builtin b =>
      cases b <;> simp only <;> (try trivial)
      case len =>
        split
        · rename_i xs ys zs x t he h1 h2
          have hr := aevals_ok hf he
          have hts : cts = #[t] := by
            simp at h1
            apply Array.ext_getElem?
            intro i
            match i with
            | 0 => simpa using h2
            | i + 1 => simp [h1]
          have hvs : ∃ v, cargs.map a.eval = #[v] ∧ VR Γ w x v := by
            have hsz : (cargs.map a.eval).size = 1 := hr.1
            refine ⟨(cargs.map a.eval)[0], ?_, hr.2 0 x _ (by simp) (by simp [hsz])⟩
            apply Array.ext_getElem?
            intro i
            match i with
            | 0 => simp [hsz]
            | i + 1 =>
              have : cargs.size = 1 := by simpa using hsz
              simp [this]
          obtain ⟨v, hv1, hv2⟩ := hvs
          refine of_pure hs fun z hz => ?_
          obtain ⟨u, q1, q2⟩ := alen_ok (ty := o.type) hs hv2 hz
          exact ⟨u, by simp only [execOp, ho, resolve, Sem.run_bind, Sem.run_pure, Result.andThen_ok, invoke, builtin, hv1, hts, q1], q2⟩
        · trivial
      case append =>
        split
        · rename_i xs x y he
          have hr := aevals_ok hf he
          have hvs : ∃ u v, cargs.map a.eval = #[u, v] ∧ VR Γ w x u ∧ VR Γ w y v := by
            have hsz : (cargs.map a.eval).size = 2 := hr.1
            refine ⟨(cargs.map a.eval)[0], (cargs.map a.eval)[1], ?_, hr.2 0 x _ (by simp) (by simp [hsz]), hr.2 1 y _ (by simp) (by simp [hsz])⟩
            apply Array.ext_getElem?
            intro i
            match i with
            | 0 => simp [hsz]
            | 1 => simp [hsz]
            | i + 2 =>
              have : cargs.size = 2 := by simpa using hsz
              simp [this]
          obtain ⟨u, v, hv1, hu, hv⟩ := hvs
          cases hl : aappend P h cts x y with
          | none => trivial
          | some r =>
            obtain ⟨z, h'⟩ := r
            obtain ⟨Γ', w', z', q1, q2, q3, q4⟩ := aappend_ok (ty := o.type) hs hu hv hl
            exact ⟨Γ', w', _, z', by simp only [execOp, ho, resolve, Sem.run_bind, Sem.run_pure, Result.andThen_ok, invoke, builtin, hv1, q1], .inl rfl, q2, q3, q4⟩
        · trivial
      case max =>
        split
        · rename_i xs he
          obtain ⟨g1, g2⟩ := vget (aevals_ok hf he)
          refine of_pure hs fun z hz => ?_
          obtain ⟨u, q1, q2⟩ := amax_ok (P := P) (mx := true) g1 g2 hz cts o.type
          simp only [if_true] at q1
          exact ⟨u, by simp only [execOp, ho, resolve, Sem.run_bind, Sem.run_pure, Result.andThen_ok, invoke, builtin]; rw [show (cargs.map a.eval) = (cargs.map a.eval).toList.toArray from Array.toArray_toList.symm, q1]; rfl, q2⟩
        · trivial
      case min =>
        split
        · rename_i xs he
          obtain ⟨g1, g2⟩ := vget (aevals_ok hf he)
          refine of_pure hs fun z hz => ?_
          obtain ⟨u, q1, q2⟩ := amax_ok (P := P) (mx := false) g1 g2 hz cts o.type
          simp only [Bool.false_eq_true, if_false] at q1
          exact ⟨u, by simp only [execOp, ho, resolve, Sem.run_bind, Sem.run_pure, Result.andThen_ok, invoke, builtin]; rw [show (cargs.map a.eval) = (cargs.map a.eval).toList.toArray from Array.toArray_toList.symm, q1]; rfl, q2⟩
        · trivial
      case recover =>
        show _ = _
        simp only [execOp, ho, resolve, Sem.run_bind, Sem.run_pure, Result.andThen_ok, invoke, builtin]
    | value f =>
      simp only
      split
      · rename_i g fi ca xs hfv hxs
        split
        · rename_i hb
          obtain ⟨fa, va, e1, r1, r2⟩ := (aeval_ok hf hfv).func_inv
          refine ⟨_, ?_, (r1.append (aevals_ok hf hxs)).append r2⟩
          simp only [execOp, ho, resolve, Sem.run_bind, Sem.run_pure, Result.andThen_ok, e1, Deferred.ofValue, invoke, callFunc_ok hV hb]
        · split
          · rename_i p hp
            have hmem := List.mem_of_find?_eq_some hp
            have hpt : p.1 = g := by have := List.find?_some hp; simpa using this
            obtain ⟨fn, x1, x2, x3, x4⟩ := hV.exts p.1 p.2 hmem
            rw [hpt] at x1
            obtain ⟨fa, va, e1, r1, r2⟩ := (aeval_ok hf hfv).func_inv
            refine of_pure hs fun z hz => ?_
            obtain ⟨v, q1, q2⟩ := aext_ok (P := P) ((r1.append (aevals_ok hf hxs)).append r2) hz
            refine ⟨v, ?_, q2⟩
            simp only [execOp, ho, resolve, Sem.run_bind, Sem.run_pure, Result.andThen_ok, e1, Deferred.ofValue, invoke, run_callFunc_extern x1 (hV.noNG g fn x1) x2 x3 x4, q1]
          · trivial
      · trivial
    | invoke r m => trivial
  | defer c =>
    obtain ⟨cl, cargs, cts⟩ := c
    cases cl with
    | builtin b => trivial
    | value f =>
      simp only
      split
      · rename_i g fi ca xs hfv hxs
        split
        · rename_i hb
          obtain ⟨fa, va, e1, r1, r2⟩ := (aeval_ok hf hfv).func_inv
          refine ⟨⟨_, ?_, _, _, rfl, r1.append (aevals_ok hf hxs), r2⟩, hb⟩
          simp only [execOp, ho, resolve, Sem.run_bind, Sem.run_pure, Result.andThen_ok, e1, Deferred.ofValue]
        · trivial
      · trivial
    | invoke r m => trivial
  | _ => trivial

end
end Go.Proofs.YtgikapdeekepiaaGreatDoor
