/- Open proofs, second part: contracts of functions, what is handed back made read-only, loops by a measure, cuts, appends to one's own slices. -/
import Derived.Test.YtgikapdeekepiaaGreatDoorEvR
import Derived.IntWalk
set_option linter.unusedSimpArgs false
set_option linter.unusedVariables false
namespace Go.Proofs.YtgikapdeekepiaaGreatDoor
open Go

/-! What is one's own, handed back as something that is only read. -/

inductive Fz (objs : List AObj) : AV → AV → Prop
  | pure {x : AV} (h : Pure x) : Fz objs x x
  | nils {E : Nat} : Fz objs .nils (.slc .r E [])
  | slc {sk : SK} {E : Nat} {es es' : List (List AV)} (hl : es.length = es'.length)
      (hE : ∀ (i : Nat) e e', es[i]? = some e → es'[i]? = some e' → e.length = e'.length)
      (h : ∀ (i j : Nat) e e' c c', es[i]? = some e → es'[i]? = some e' → e[j]? = some c → e'[j]? = some c' → Fz objs c c') : Fz objs (.slc sk E es) (.slc .r E es')
  | agg {cs cs' : List AV} (hl : cs.length = cs'.length) (h : ∀ (i : Nat) c c', cs[i]? = some c → cs'[i]? = some c' → Fz objs c c') : Fz objs (.agg cs) (.agg cs')
  | tuple {cs cs' : List AV} (hl : cs.length = cs'.length) (h : ∀ (i : Nat) c c', cs[i]? = some c → cs'[i]? = some c' → Fz objs c c') : Fz objs (.tuple cs) (.tuple cs')
  | ptr {k off : Nat} {cs cs' : List AV} (ho : objs[k]? = some (.cells cs)) (hl : (cs.drop off).length = cs'.length)
      (h : ∀ (i : Nat) c c', (cs.drop off)[i]? = some c → cs'[i]? = some c' → Fz objs c c') : Fz objs (.ptr k off) (.rptr cs')

def Ctx.base (Γ : Ctx) : Ctx := ⟨Γ.O0, [], []⟩

theorem Ctx.base_eq (Γ : Ctx) : Γ.base = (Γ.trunc 0).cutG 0 := by simp [Ctx.base, Ctx.trunc, Ctx.cutG]

theorem get_other {α β : Type} {xs : List α} {ys : List β} (hl : xs.length = ys.length) {i : Nat} {y : β} (h : ys[i]? = some y) : ∃ x, xs[i]? = some x :=
  ⟨_, List.getElem?_eq_getElem (by rw [hl]; exact (List.getElem?_eq_some_iff.1 h).1)⟩

theorem unst_base {Γ : Ctx} {b i : Nat} (h : Γ.base.unst b i) : Γ.O0 b i := by
  rcases h with h | h | ⟨g, gi, hg, _⟩
  · exact h
  · simp [Ctx.base] at h
  · simp [Ctx.base] at hg

theorem VR.fz {Γ : Ctx} {h : AH} {w : World} (hs : St Γ h w) {x y : AV} {v : Value} (hf : Fz h.objs x y) (hx : VR Γ w x v) : VR Γ.base w y v := by
  induction hf generalizing v with
  | pure hp =>
    rw [Ctx.base_eq]
    exact (hx.trunc hp.1).cutG hp.2
  | nils => cases hx; exact .slcR fun _ => rfl
  | slc hl hE hh ih =>
    cases hx with
    | slcR h0 =>
      obtain rfl := List.eq_nil_of_length_eq_zero hl.symm
      exact .slcR h0
    | slcX =>
      obtain rfl := List.eq_nil_of_length_eq_zero hl.symm
      exact .slcR fun _ => rfl
    | slc val hsk hcap hEe hc hu hv =>
      rw [hl]
      refine .slc val trivial (by rw [← hl]; exact hcap) (fun i e' he' => ?_) (fun i j e' c' he' hc' => ?_) (fun i j e' c' he' hc' hU => ?_) (fun i j e' c' he' hc' => ?_)
      · obtain ⟨e, he⟩ := get_other hl he'
        rw [← hE i e e' he he']; exact hEe i e he
      all_goals
        obtain ⟨e, he⟩ := get_other hl he'
        obtain ⟨c, hcc⟩ := get_other (hE i e e' he he') hc'
      · exact hc i j e c he hcc
      · exact hu i j e c he hcc (.inl (unst_base hU))
      · exact ih i j e e' c c' he he' hcc hc' (hv i j e c he hcc)
  | agg hl hh ih =>
    cases hx with
    | agg h1 hv =>
      refine .agg (by rw [h1, hl]) fun i c' v hc' hv' => ?_
      obtain ⟨c, hc⟩ := get_other hl hc'
      exact ih i c c' hc hc' (hv i c v hc hv')
  | tuple hl hh ih =>
    cases hx with
    | tuple h1 hv =>
      refine .tuple (by rw [h1, hl]) fun i c' v hc' hv' => ?_
      obtain ⟨c, hc⟩ := get_other hl hc'
      exact ih i c c' hc hc' (hv i c v hc hv')
  | ptr ho hl hh ih =>
    rename_i k off cs cs'
    cases hx with
    | ptr hk =>
      rename_i b
      have rd : ∀ (j : Nat) c', cs'[j]? = some c' → ∃ c u, (cs.drop off)[j]? = some c ∧ w.cell? ⟨b, off + j, none⟩ = some u ∧ VR Γ w c u := by
        intro j c' hc'
        obtain ⟨c, hc⟩ := get_other hl hc'
        obtain ⟨u, h1, h2, _⟩ := own_read hs hk ho (by rw [List.getElem?_drop] at hc; exact hc)
        exact ⟨c, u, hc, h1, h2⟩
      refine .rptr (fun j => (w.cell? ⟨b, off + j, none⟩).getD undef) (fun j c' hc' => ?_) (fun j c' hc' hU => ?_) (fun j c' hc' => ?_)
      · obtain ⟨c, u, _, h1, _⟩ := rd j c' hc'
        rw [h1]; rfl
      · exact hs.o0r _ _ (unst_base hU) (List.mem_iff_getElem?.2 ⟨k, hk⟩)
      · obtain ⟨c, u, hc, h1, h2⟩ := rd j c' hc'
        rw [h1]
        exact ih j c c' hc hc' h2

/-! Contracts. -/

/-- What a function hands back, at arguments that lead to nothing of the caller's own; nothing that was there changes. -/
structure Fn (P : Program) (f : FuncId) (args : List AV) (R : AV → Prop) : Prop where
  call : CallP P f args AH.empty fun r _ => R r
  pa : ∀ x ∈ args, Pure x
  pr : ∀ r, R r → Pure r

/-- What a body must leave for that. -/
def EndF (P : Program) (fn : Func) (R : AV → Prop) (x : AX) (s : AS) : Prop :=
  (x = .normal ∨ x = .ret) ∧ s.df = [] ∧ ∃ r0 r, aresults P fn s.fr s.h = some r0 ∧ Fz s.h.objs r0 r ∧ R r

theorem EndF.self {P : Program} {fn : Func} {R : AV → Prop} {x : AX} {s : AS} (h : EndF P fn R x s) : EndF P fn R x s := h

theorem EndF.mk {P : Program} {fn : Func} {R : AV → Prop} {x : AX} {s : AS} {r0 r1 r : AV} (hx : x = .normal ∨ x = .ret) (hd : s.df = []) (hr : aresults P fn s.fr s.h = some r0) (h1 : r0 = r1) (hf : Fz s.h.objs r1 r) (hR : R r) : EndF P fn R x s :=
  ⟨hx, hd, r0, r, hr, by rw [h1]; exact hf, hR⟩

theorem Fn.of_run {P : Program} {f : FuncId} {fn : Func} {c : Code} {args : List AV} {R : AV → Prop} (hf : P.funcs[f]? = some fn) (hb : fn.body = some c)
    (ha : ∀ x ∈ args, Pure x) (hp : ∀ r, R r → Pure r) (hr : Run P 0 c ⟨enterFr fn args, [], AH.empty⟩ (EndF P fn R)) : Fn P f args R := by
  refine ⟨?_, ha, hp⟩
  intro Γ w vs hs hargs
  refine calls_of_wp_defers hf hb ?_
  have hr0 : Γ.ρ.length = 0 := by rw [← hs.len]; rfl
  have hg0 : Γ.G.length = 0 := by have := hs.gl; rw [← List.length_map (·.len), ← this]; rfl
  refine Code.wp_mono (fun e a' w' hq => ?_) (hr Γ w Γ { tmps := vs ++ Array.replicate (fn.ntmps - vs.size) undef, defers := [] } w ⟨by omega, by omega⟩ ⟨hs, enter_FR hargs fn, trivial⟩ (Evo.refl _ _))
  obtain ⟨x, s, ⟨hx, hdf, r0, r, hres, hle, hR⟩, Γ', h1, h2, h3⟩ := hq
  have hd : a'.defers = [] := by
    have := h2.df
    rw [hdf] at this
    cases hde : a'.defers with
    | nil => rfl
    | cons d ds => rw [hde] at this; exact this.elim
  obtain ⟨v, hv1, hv2⟩ := aresults_ok h2.st h2.fr hres
  have hv3 := hv2.fz h2.st hle
  have st1 := (h2.st.trunc (n := 0) (Nat.zero_le _))
  have st2 := st1.cutG (n := 0) (fun k o ho => by simp [AH.trunc] at ho)
  have st3 := st2.lower (e := 0) (Nat.zero_le _)
  have hh : ({ (s.h.trunc 0).cutG 0 with esc := 0 } : AH) = AH.nil := by simp [AH.trunc, AH.cutG, AH.nil]
  rw [hh] at st3
  have he : Evo Γ w ((Γ'.trunc 0).cutG 0) w' := (h3.trunc (by omega)).cutG (by omega)
  have fin : Leaves P fn a'.tmps (fun e w' => ∃ Γ' v r h', R r ∧ e = .returned v ∧ VR Γ' w' r v ∧ St Γ' h' w' ∧ Evo Γ w Γ' w') a'.defers .returning w' := by
    rw [hd]
    exact ⟨v, hv1, (Γ'.trunc 0).cutG 0, v, r, AH.nil, hR, rfl, by rw [← Ctx.base_eq]; exact hv3, st3, he⟩
  rcases hx with rfl | rfl
  · rw [show e = .normal from h1]; exact fin
  · rw [show e = .ret from h1]; exact fin

def PureL : List AV → Prop
  | [] => True
  | x :: l => Pure x ∧ PureL l

theorem PureL.all : ∀ {l : List AV}, PureL l → ∀ x ∈ l, Pure x
  | [], _, _, hp => by cases hp
  | y :: l, h, x, hp => by
    rcases List.mem_cons.1 hp with rfl | hp
    · exact h.1
    · exact PureL.all h.2 x hp

theorem PureL.nil : PureL [] := trivial
theorem PureL.cons {x : AV} {l : List AV} (h : Pure x) (h' : PureL l) : PureL (x :: l) := ⟨h, h'⟩
theorem Pure.agg' {cs : List AV} (h : PureL cs) : Pure (.agg cs) := .agg h.all
theorem Pure.tuple' {cs : List AV} (h : PureL cs) : Pure (.tuple cs) := .tuple h.all
theorem Pure.rptr' {cs : List AV} (h : PureL cs) : Pure (.rptr cs) := .rptr h.all
theorem pure_int (k : IntKind) (n : Int) : Pure (.int k n) := .flat rfl
theorem pure_bool (b : Bool) : Pure (.bool b) := .flat rfl

theorem Pure.iface {t : TypeId} {x : AV} (h : Pure x) : Pure (.iface t x) := ⟨.iface h.1, .iface h.2⟩

theorem Fn.mk1 {P : Program} {f : FuncId} {fn : Func} {c : Code} {args : List AV} {r : AV} (hf : P.funcs[f]? = some fn) (hb : fn.body = some c)
    (ha : PureL args) (hp : Pure r) (hr : Run P 0 c ⟨enterFr fn args, [], ⟨[], [], 1000000⟩⟩ (EndF P fn fun x => x = r)) : Fn P f args fun x => x = r :=
  .of_run hf hb ha.all (fun x h => by rw [h]; exact hp) hr

theorem Fn.mkR {P : Program} {f : FuncId} {fn : Func} {c : Code} {args : List AV} {R : AV → Prop} (hf : P.funcs[f]? = some fn) (hb : fn.body = some c)
    (ha : PureL args) (hp : ∀ r, R r → Pure r) (hr : Run P 0 c ⟨enterFr fn args, [], ⟨[], [], 1000000⟩⟩ (EndF P fn R)) : Fn P f args R :=
  .of_run hf hb ha.all hp hr

theorem Fn.mono {P : Program} {f : FuncId} {args : List AV} {R R' : AV → Prop} (hc : Fn P f args R) (hR : ∀ r, R r → R' r) (hp : ∀ r, R' r → Pure r) : Fn P f args R' :=
  ⟨hc.call.mono fun r _ h => hR r h, hc.pa, hp⟩

theorem Fn.at {P : Program} {f : FuncId} {args : List AV} {R : AV → Prop} (hc : Fn P f args R) (h : AH) : CallP P f args h (fun r h' => h' = h ∧ R r) :=
  (hc.call.frame hc.pa (fun r _ hR => hc.pr r hR) h).mono fun r h' ⟨h1, _, h2⟩ => ⟨h1, h2⟩

/-- Of a function that hands back one value alone. -/
theorem Fn.ok {P : Program} {f : FuncId} {args : List AV} {r : AV} (hc : Fn P f args fun x => x = r) (h : AH) : CallOK P f args h (.ret r h) := by
  intro Γ w vs hs hargs
  refine (hc.at h Γ w vs hs hargs).mono fun e w' hq => ?_
  obtain ⟨Γ', v, r', h', ⟨rfl, rfl⟩, rfl, h1, h2, h3⟩ := hq
  exact ⟨Γ', v, rfl, h1, h2, h3⟩

section
variable {P : Program} {n0 : Nat} {ops : Array Oper} {s : AS} {Q : AX → AS → Prop} {V : Env}

theorem RunL.fn (hV : V.ok P) {o : Oper} {rest : List Oper} {f : FuncId} {args : List AV} {R : AV → Prop} (hc : Fn P f args R) (hw : awanted o ops s.fr = some true) (ha : aop P V s.fr s.h o = .enter f args)
    (hq : ∀ r, R r → RunL P n0 ops rest { s with fr := fput s.fr o.dst r } Q) : RunL P n0 ops (o :: rest) s Q :=
  .callP hV hw ha (hc.at s.h) fun r h' ⟨h1, h2⟩ => by subst h1; exact hq r h2

theorem RunL.fn1 (hV : V.ok P) {o : Oper} {rest : List Oper} {f : FuncId} {args : List AV} {r : AV} (hc : Fn P f args fun x => x = r) (hw : awanted o ops s.fr = some true) (ha : aop P V s.fr s.h o = .enter f args)
    (hq : RunL P n0 ops rest { s with fr := fput s.fr o.dst r } Q) : RunL P n0 ops (o :: rest) s Q :=
  .fn hV hc hw ha fun r h => by subst h; exact hq

theorem andThen_normal {K : AS → Prop} (h : K s) : andThen K Q .normal s := h
theorem andThen_ret {K : AS → Prop} (h : Q .ret s) : andThen K Q .ret s := h
theorem andThen_exit {K : AS → Prop} {id : Nat} (h : Q (.exit id) s) : andThen K Q (.exit id) s := h
theorem inBlk_normal {id : Nat} (h : Q .normal s) : inBlk id Q .normal s := h
theorem inBlk_ret {id : Nat} (h : Q .ret s) : inBlk id Q .ret s := h
theorem inBlk_hit {id : Nat} (h : Q .normal s) : inBlk id Q (.exit id) s := by simpa [inBlk] using h
theorem inBlk_miss {id id' : Nat} (hn : (id' == id) = false) (h : Q (.exit id') s) : inBlk id Q (.exit id') s := by
  have : ¬ id' = id := by simpa using hn
  simpa [inBlk, this] using h

theorem RunL.self {l : List Oper} (h : RunL P n0 ops l s Q) : RunL P n0 ops l s Q := h
theorem Run.regionSelf {id : Nat} (h : Run P n0 (.region id ops false) s Q) : Run P n0 (.region id ops false) s Q := h
theorem Run.condSelf {o : Operand} {p q : Code} (h : Run P n0 (.cond o p q) s Q) : Run P n0 (.cond o p q) s Q := h

theorem Run.lst {id : Nat} {l : List Oper} (hl : ops.toList = l) (h : RunL P n0 ops l s Q) : Run P n0 (.region id ops false) s Q := Run.list (by rw [hl]; exact h)

/-! One operation at a time, the state written out. -/

section
variable {sz : Nat} {t : FTree} {df : List ADef} {h : AH}

theorem RunL.o (hV : V.ok P) {o : Oper} {rest : List Oper} {d : Nat} {x y : AV} {h' : AH} {w : Option Bool} {oo : OO} (hd : o.dst = some d) (hw : awanted o ops ⟨sz, t⟩ = w) (hw' : w = some true) (ha : aop P V ⟨sz, t⟩ h o = oo) (ha' : oo = .ok x h') (he : x = y)
    (hq : RunL P n0 ops rest ⟨⟨sz, .upd t d y⟩, df, h'⟩ Q) : RunL P n0 ops (o :: rest) ⟨⟨sz, t⟩, df, h⟩ Q :=
  .ok hV (hw.trans hw') (ha.trans ha') (by rw [hd, he]; exact hq)

theorem RunL.oN (hV : V.ok P) {o : Oper} {rest : List Oper} {x : AV} {h' : AH} (hd : o.dst = none) (hw : awanted o ops ⟨sz, t⟩ = some true) (ha : aop P V ⟨sz, t⟩ h o = .ok x h')
    (hq : RunL P n0 ops rest ⟨⟨sz, t⟩, df, h'⟩ Q) : RunL P n0 ops (o :: rest) ⟨⟨sz, t⟩, df, h⟩ Q :=
  .ok hV hw ha (by rw [hd]; exact hq)

theorem RunL.oS {o : Oper} {rest : List Oper} {d : Nat} {w : Option Bool} (hd : o.dst = some d) (hw : awanted o ops ⟨sz, t⟩ = w) (hw' : w = some false) (hq : RunL P n0 ops rest ⟨⟨sz, .upd t d (.tuple [])⟩, df, h⟩ Q) :
    RunL P n0 ops (o :: rest) ⟨⟨sz, t⟩, df, h⟩ Q :=
  .skip (hw.trans hw') (by rw [hd]; exact hq)

theorem RunL.oSN {o : Oper} {rest : List Oper} (hd : o.dst = none) (hw : awanted o ops ⟨sz, t⟩ = some false) (hq : RunL P n0 ops rest ⟨⟨sz, t⟩, df, h⟩ Q) :
    RunL P n0 ops (o :: rest) ⟨⟨sz, t⟩, df, h⟩ Q :=
  .skip hw (by rw [hd]; exact hq)

/-- A truth value: two ways. -/
theorem RunL.spl {l : List Oper} {d : Nat} {b : Bool} (ht : b = true → RunL P n0 ops l ⟨⟨sz, .upd t d (.bool true)⟩, df, h⟩ Q) (hf : b = false → RunL P n0 ops l ⟨⟨sz, .upd t d (.bool false)⟩, df, h⟩ Q) :
    RunL P n0 ops l ⟨⟨sz, .upd t d (.bool b)⟩, df, h⟩ Q := by
  cases b with
  | true => exact ht rfl
  | false => exact hf rfl

/-- The value that was written last, by another name. -/
theorem RunL.as {l : List Oper} {d : Nat} {x y : AV} (he : x = y) (hq : RunL P n0 ops l ⟨⟨sz, .upd t d y⟩, df, h⟩ Q) : RunL P n0 ops l ⟨⟨sz, .upd t d x⟩, df, h⟩ Q := by
  rw [he]; exact hq

theorem RunL.oF (hV : V.ok P) {o : Oper} {rest : List Oper} {d : Nat} {f : FuncId} {args : List AV} {R : AV → Prop} (hc : Fn P f args R) (hd : o.dst = some d) (hw : awanted o ops ⟨sz, t⟩ = some true) (ha : aop P V ⟨sz, t⟩ h o = .enter f args)
    (hq : ∀ r, R r → RunL P n0 ops rest ⟨⟨sz, .upd t d r⟩, df, h⟩ Q) : RunL P n0 ops (o :: rest) ⟨⟨sz, t⟩, df, h⟩ Q :=
  .callP hV hw ha (hc.at h) fun r h' ⟨h1, h2⟩ => by subst h1; rw [hd]; exact hq r h2

theorem RunL.oF1 (hV : V.ok P) {o : Oper} {rest : List Oper} {d : Nat} {f : FuncId} {args : List AV} {r : AV} (hc : Fn P f args fun x => x = r) (hd : o.dst = some d) (hw : awanted o ops ⟨sz, t⟩ = some true) (ha : aop P V ⟨sz, t⟩ h o = .enter f args)
    (hq : RunL P n0 ops rest ⟨⟨sz, .upd t d r⟩, df, h⟩ Q) : RunL P n0 ops (o :: rest) ⟨⟨sz, t⟩, df, h⟩ Q :=
  .oF hV hc hd hw ha fun r' h => by subst h; exact hq

/-- A call that may change own objects. -/
theorem RunL.oM (hV : V.ok P) {o : Oper} {rest : List Oper} {d : Nat} {f : FuncId} {args : List AV} {R : AV → AH → Prop} (hc : CallP P f args h R) (hd : o.dst = some d) (hw : awanted o ops ⟨sz, t⟩ = some true) (ha : aop P V ⟨sz, t⟩ h o = .enter f args)
    (hq : ∀ r h', R r h' → RunL P n0 ops rest ⟨⟨sz, .upd t d r⟩, df, h'⟩ Q) : RunL P n0 ops (o :: rest) ⟨⟨sz, t⟩, df, h⟩ Q :=
  .callP hV hw ha hc fun r h' h1 => by rw [hd]; exact hq r h' h1

/-- indexAddr, where the index is not written out. -/
theorem RunL.oI (hV : V.ok P) {o : Oper} {rest : List Oper} {d : Nat} {ty : TypeId} {X I : Operand} {x i y : AV} (ho : o.op = .indexAddr ty X I) (hd : o.dst = some d) (hw : awanted o ops ⟨sz, t⟩ = some true)
    (hx : aeval ⟨sz, t⟩ X = some x) (hi : aeval ⟨sz, t⟩ I = some i) (hy : aindexAddr P ty x i = some y) (hq : RunL P n0 ops rest ⟨⟨sz, .upd t d y⟩, df, h⟩ Q) : RunL P n0 ops (o :: rest) ⟨⟨sz, t⟩, df, h⟩ Q := by
  refine .indexAddr hV ho hw hx hi hy ?_
  rw [hd]; exact hq

theorem RunL.oLd (hV : V.ok P) {o : Oper} {rest : List Oper} {d : Nat} {ty : TypeId} {X : Operand} {x y : AV} (ho : o.op = .load ty X) (hd : o.dst = some d) (hw : awanted o ops ⟨sz, t⟩ = some true)
    (hx : aeval ⟨sz, t⟩ X = some x) (hy : aload P h ty x = some y) (hq : RunL P n0 ops rest ⟨⟨sz, .upd t d y⟩, df, h⟩ Q) : RunL P n0 ops (o :: rest) ⟨⟨sz, t⟩, df, h⟩ Q := by
  refine .load hV ho hw hx hy ?_
  rw [hd]; exact hq

end

/-! What is known at a place. -/

def KnL (fr : FT) : List (Nat × AV) → Prop
  | [] => True
  | (i, x) :: l => fr.get i = some x ∧ KnL fr l

theorem KnL.all {fr : FT} : ∀ {l : List (Nat × AV)}, KnL fr l → ∀ p ∈ l, fr.get p.1 = some p.2
  | [], _, _, hp => by cases hp
  | (i, x) :: l, h, p, hp => by
    rcases List.mem_cons.1 hp with rfl | hp
    · exact h.1
    · exact KnL.all h.2 p hp

/-- A slot by a number of another look. -/
theorem get_int {fr : FT} {t : Nat} {k : IntKind} {a b : Int} (h : fr.get t = some (.int k a)) (e : a = b) : fr.get t = some (.int k b) := by rw [← e]; exact h

theorem get_eq' {fr : FT} {t : Nat} {x y : AV} (h : fr.get t = some x) (e : x = y) : fr.get t = some y := by rw [← e]; exact h

/-- All slots that are named lead to the first k objects and bear the first m identities. -/
def Within (k m : Nat) : List (Nat × AV) → Prop
  | [] => True
  | (_, x) :: l => (Sc k x ∧ SG m x) ∧ Within k m l

theorem Within.all {k m : Nat} : ∀ {l : List (Nat × AV)}, Within k m l → ∀ p ∈ l, Sc k p.2 ∧ SG m p.2
  | [], _, _, hp => by cases hp
  | (_, x) :: l, h, p, hp => by
    rcases List.mem_cons.1 hp with rfl | hp
    · exact h.1
    · exact Within.all h.2 p hp

def ScL (k : Nat) : List (Nat × AV) → Prop
  | [] => True
  | (_, x) :: l => Sc k x ∧ ScL k l

theorem ScL.all {k : Nat} : ∀ {l : List (Nat × AV)}, ScL k l → ∀ p ∈ l, Sc k p.2
  | [], _, _, hp => by cases hp
  | (_, x) :: l, h, p, hp => by
    rcases List.mem_cons.1 hp with rfl | hp
    · exact h.1
    · exact ScL.all h.2 p hp

theorem Pure.sc {k : Nat} {x : AV} (h : Pure x) : Sc k x := h.1.mono (Nat.zero_le _)

theorem Pure.within {k m : Nat} {x : AV} (h : Pure x) : Sc k x ∧ SG m x := by
  refine ⟨h.1.mono (Nat.zero_le _), ?_⟩
  have := h.2
  clear h
  induction this with
  | flat h => exact .flat h
  | ptr => exact .ptr
  | sl => exact .sl
  | map => exact .map
  | rptr h ih => exact .rptr ih
  | slc hk h ih =>
    refine .slc ?_ ih
    rename_i sk _ _
    cases sk with
    | g i => exact absurd hk (Nat.not_lt_zero _)
    | _ => trivial
  | func h1 h2 ih1 ih2 => exact .func ih1 ih2
  | iface h ih => exact .iface ih
  | agg h ih => exact .agg ih
  | tuple h ih => exact .tuple ih

/-- The state has so many slots, these of them are known, and its memory is h, if need be with what came behind the first k objects and m identities forgotten. -/
inductive At (n0 n : Nat) (l : List (Nat × AV)) (h : AH) (s : AS) : Prop
  | same (sz : s.fr.sz = n) (sl : KnL s.fr l) (df : s.df = []) (eq : s.h = h)
  | cut (k m : Nat) (sz : s.fr.sz = n) (sl : KnL s.fr l) (df : s.df = []) (hk : n0 ≤ k) (hm : n0 ≤ m) (esc : k ≤ s.h.esc) (ho : s.h.objs.take k = h.objs) (hg : s.h.gl.take m = h.gl) (he : h.esc ≤ s.h.esc)
      (wi : Within k m l) (os : ∀ o ∈ h.objs, SGO m o)
  | cutO (k : Nat) (sz : s.fr.sz = n) (sl : KnL s.fr l) (df : s.df = []) (hk : n0 ≤ k) (esc : k ≤ s.h.esc) (ho : s.h.objs.take k = h.objs) (hg : s.h.gl = h.gl) (he : h.esc ≤ s.h.esc)
      (wi : ScL k l)

/-- The mark stays above the first k objects, if it was, when something is written to a later one. -/
theorem esc_mark {h : AH} {k k' : Nat} {xs : List AV} (h1 : k ≤ h.esc) (h2 : k ≤ k') : k ≤ (h.mark k' xs).esc := by
  unfold AH.mark
  split
  · exact h1
  · simp only; omega

theorem Run.at {c : Code} {n : Nat} {l : List (Nat × AV)} {h : AH} (hk : At n0 n l h s) (hr : Run P n0 c ⟨⟨n, FTree.lit l⟩, [], h⟩ Q) : Run P n0 c s Q := by
  cases hk with
  | same sz sl df eq => exact Run.known ⟨sz, sl.all, df, eq⟩ hr
  | cutO k sz sl df hk esc ho hg he wi =>
    refine Run.known (h := s.h) ⟨sz, sl.all, df, rfl⟩ ?_
    intro Γ0 w0 Γ a w hn hrel hev
    have st2 := (hrel.st.trunc (n := k) esc).lower (e := h.esc) he
    have hh : ({ s.h.trunc k with esc := h.esc } : AH) = h := by
      obtain ⟨o, g, e⟩ := h
      simp only [AH.trunc, AH.mk.injEq, and_true]
      exact ⟨ho, hg⟩
    have st3 : St (Γ.trunc k) h w := by rw [← hh]; exact st2
    refine hr Γ0 w0 (Γ.trunc k) a w hn ⟨st3, ⟨hrel.fr.1, fun i x v hx hv => ?_⟩, ?_⟩ (hev.trunc (by omega))
    · rcases hrel.fr.2 i x v hx hv with h1 | h1
      · exact .inl h1
      · right
        have hw : Sc k x := by
          rw [FT.get_eq] at hx
          split at hx
          · simp only [Option.some.injEq] at hx
            rcases FTree.val_lit l i with h2 | ⟨p, h2, _, h3⟩
            · rw [← hx, h2]; exact .flat rfl
            · rw [← hx, h3]; exact wi.all p h2
          · cases hx
        exact h1.trunc hw
    · have := hrel.df
      cases hd : a.defers with
      | nil => trivial
      | cons e es => rw [hd] at this; exact this.elim
  | cut k m sz sl df hk hm esc ho hg he wi os =>
    refine Run.known (h := s.h) ⟨sz, sl.all, df, rfl⟩ ?_
    intro Γ0 w0 Γ a w hn hrel hev
    have st1 := (hrel.st.trunc (n := k) esc).cutG (n := m) (fun j o hj => os o (by rw [← ho]; exact List.mem_iff_getElem?.2 ⟨j, hj⟩))
    have st2 := st1.lower (e := h.esc) he
    have hh : ({ (s.h.trunc k).cutG m with esc := h.esc } : AH) = h := by
      obtain ⟨o, g, e⟩ := h
      simp only [AH.trunc, AH.cutG, AH.mk.injEq, and_true]
      exact ⟨ho, hg⟩
    have st3 : St ((Γ.trunc k).cutG m) h w := by rw [← hh]; exact st2
    refine hr Γ0 w0 ((Γ.trunc k).cutG m) a w hn ⟨st3, ⟨hrel.fr.1, fun i x v hx hv => ?_⟩, ?_⟩ ((hev.trunc (by omega)).cutG (by omega))
    · rcases hrel.fr.2 i x v hx hv with h1 | h1
      · exact .inl h1
      · right
        have hw : Sc k x ∧ SG m x := by
          rw [FT.get_eq] at hx
          split at hx
          · simp only [Option.some.injEq] at hx
            rcases FTree.val_lit l i with h2 | ⟨p, h2, _, h3⟩
            · rw [← hx, h2]; exact ⟨.flat rfl, .flat rfl⟩
            · rw [← hx, h3]; exact wi.all p h2
          · cases hx
        exact (h1.trunc hw.1).cutG hw.2
    · have := hrel.df
      cases hd : a.defers with
      | nil => trivial
      | cons e es => rw [hd] at this; exact this.elim

/-- A loop: what is known at its head, by a datum of any kind; a measure that falls. -/
theorem Run.loopK {α : Type} {body : Code} (n : Nat) (μ : α → Nat) (I : α → Prop) (L : α → List (Nat × AV)) (H : α → AH) (x0 : α) (h0 : I x0) (k0 : At n0 n (L x0) (H x0) s)
    (round : ∀ x, I x → Run P n0 body ⟨⟨n, FTree.lit (L x)⟩, [], H x⟩ (andThen (fun s1 => ∃ y, μ y < μ x ∧ I y ∧ At n0 n (L y) (H y) s1) Q)) : Run P n0 (.loop body) s Q := by
  refine Run.loop (fun m s1 => ∃ x, I x ∧ μ x = m ∧ At n0 n (L x) (H x) s1) (fun m s1 h1 => ?_) (μ x0) ⟨x0, h0, rfl, k0⟩
  obtain ⟨x, hx, rfl, hat⟩ := h1
  refine Run.at hat ((round x hx).mono fun y s' hy => ?_)
  cases y with
  | normal =>
    obtain ⟨z, h2, h3, h4⟩ := hy
    exact ⟨_, h2, z, h3, rfl, h4⟩
  | _ => exact hy

/-- Ways that meet again. -/
theorem Run.seqJ {n : Nat} (l : List (Nat × AV)) (h : AH) {p q : Code} (hA : Run P n0 p s (andThen (fun s1 => At n0 n l h s1) Q)) (hB : Run P n0 q ⟨⟨n, FTree.lit l⟩, [], h⟩ Q) : Run P n0 (.seq p q) s Q := by
  refine Run.seq (hA.mono fun x s' hx => ?_)
  cases x with
  | normal => exact Run.at hx hB
  | _ => exact hx

theorem Run.seqK {α : Type} {n : Nat} (I : α → Prop) (L : α → List (Nat × AV)) (H : α → AH) {p q : Code} (hA : Run P n0 p s (andThen (fun s1 => ∃ y, I y ∧ At n0 n (L y) (H y) s1) Q)) (hB : ∀ y, I y → Run P n0 q ⟨⟨n, FTree.lit (L y)⟩, [], H y⟩ Q) : Run P n0 (.seq p q) s Q := by
  refine Run.seq (hA.mono fun x s' hx => ?_)
  cases x with
  | normal => obtain ⟨y, h1, h2⟩ := hx; exact Run.at h2 (hB y h1)
  | _ => exact hx

theorem Run.condK {o : Operand} {p q : Code} {b : Bool} (ho : aeval s.fr o = some (.bool b)) (ht : b = true → Run P n0 p s Q) (hf : b = false → Run P n0 q s Q) : Run P n0 (.cond o p q) s Q :=
  Run.cond b ho ht hf

theorem Run.condT {o : Operand} {p q : Code} (ho : aeval s.fr o = some (.bool true)) (ht : Run P n0 p s Q) : Run P n0 (.cond o p q) s Q :=
  Run.cond true ho (fun _ => ht) (fun h => by cases h)

theorem Run.condF {o : Operand} {p q : Code} (ho : aeval s.fr o = some (.bool false)) (hf : Run P n0 q s Q) : Run P n0 (.cond o p q) s Q :=
  Run.cond false ho (fun h => by cases h) (fun _ => hf)

/-! Regions that draw. -/

section
variable {call : CallF} {sz : Nat} {t : FTree} {h : AH}

theorem lex_o {o : Oper} {rest : List Oper} {d : Nat} {x y : AV} {h' : AH} {xs : List (Bool × AV)} {st : List (FT × AH)} (hd : o.dst = some d) (hw : awanted o ops ⟨sz, t⟩ = some true) (hs : stepD P V call ⟨sz, t⟩ h o = some (x, h')) (he : x = y)
    (hr : lexRun P V call ops rest ⟨sz, .upd t d y⟩ h' = some (xs, st)) : lexRun P V call ops (o :: rest) ⟨sz, t⟩ h = some ((true, y) :: xs, (⟨sz, t⟩, h) :: st) := by
  subst he
  refine lex_cons hw hs ?_
  rw [hd]; exact hr

theorem lex_oN {o : Oper} {rest : List Oper} {x y : AV} {h' : AH} {xs : List (Bool × AV)} {st : List (FT × AH)} (hd : o.dst = none) (hw : awanted o ops ⟨sz, t⟩ = some true) (hs : stepD P V call ⟨sz, t⟩ h o = some (x, h')) (he : x = y)
    (hr : lexRun P V call ops rest ⟨sz, t⟩ h' = some (xs, st)) : lexRun P V call ops (o :: rest) ⟨sz, t⟩ h = some ((true, y) :: xs, (⟨sz, t⟩, h) :: st) := by
  subst he
  refine lex_cons hw hs ?_
  rw [hd]; exact hr

theorem lex_oS {o : Oper} {rest : List Oper} {d : Nat} {xs : List (Bool × AV)} {st : List (FT × AH)} (hd : o.dst = some d) (hw : awanted o ops ⟨sz, t⟩ = some false)
    (hr : lexRun P V call ops rest ⟨sz, .upd t d (.tuple [])⟩ h = some (xs, st)) : lexRun P V call ops (o :: rest) ⟨sz, t⟩ h = some ((false, .tuple []) :: xs, (⟨sz, t⟩, h) :: st) := by
  refine lex_skip hw ?_
  rw [hd]; exact hr

end

/-! What the evaluator cannot tell. -/

theorem RunL.run1 {o : Oper} {rest : List Oper} (hw : awanted o ops s.fr = some true)
    (hop : ∀ Γ w (a : Act), St Γ s.h w → FR Γ w s.fr a.tmps → ∃ x h', OOok P Γ w ((execOp a.eval o).run P w) (.ok x h') ∧ RunL P n0 ops rest { s with fr := fput s.fr o.dst x, h := h' } Q) : RunL P n0 ops (o :: rest) s Q := by
  intro Γ0 w0 Γ a w hn0 hr he
  unfold wpList
  rw [awanted_ok hr.fr hw]
  simp only [if_true]
  left
  unfold Oper.wp
  obtain ⟨x, h', ⟨Γ', w', nx, v, h1, h2, h3, h4, h5⟩, hq⟩ := hop Γ w a hr.st hr.fr
  rw [h1]
  rcases h2 with rfl | ⟨rfl, rfl⟩
  · exact hq Γ0 w0 Γ' _ w' hn0 (hr.put h5 h4 h3 o.dst) (he.trans h5)
  · exact hq Γ0 w0 Γ' _ w' hn0 (hr.put h5 h4 h3 o.dst) (he.trans h5)

/-- Is a slice nil? One that has elements is not. -/
theorem RunL.isNil {sz : Nat} {t : FTree} {df : List ADef} {h : AH} {o : Oper} {rest : List Oper} {d : Nat} {ty e t2 : TypeId} {op : BinOp} {X Y : Operand} {sk : SK} {E : Nat} {es : List (List AV)} (ho : o.op = .binOp op ty X Y t2) (hop : op = .eql ∨ op = .neq)
    (hu : P.underlying ty = some (.slice e)) (hd : o.dst = some d) (hw : awanted o ops ⟨sz, t⟩ = some true) (hx : aeval ⟨sz, t⟩ X = some (.slc sk E es)) (hy : aeval ⟨sz, t⟩ Y = some .nils)
    (h1 : es = [] → RunL P n0 ops rest ⟨⟨sz, .upd t d (.bool (op == .eql))⟩, df, h⟩ Q) (h2 : RunL P n0 ops rest ⟨⟨sz, .upd t d (.bool (op == .neq))⟩, df, h⟩ Q) :
    RunL P n0 ops (o :: rest) ⟨⟨sz, t⟩, df, h⟩ Q := by
  refine .run1 hw fun Γ w a hs hf => ?_
  have v1 := aeval_ok hf hx
  have v2 := aeval_ok hf hy
  generalize hva : a.eval X = va at v1
  generalize hvb : a.eval Y = vb at v2
  cases v2
  obtain ⟨p, cap, rfl, _, _, hc, _⟩ := slc_inv v1
  have hg : eqGuard op ty X Y (.slice p es.length cap) (.slice none 0 0) = pure () := by rcases hop with rfl | rfl <;> rfl
  have hrun : (execOp a.eval o).run P w = .ok (.value (.bool (if op = .eql then p.isNone else !p.isNone))) w := by
    have hb := run_slice_nil (w := w) hu p es.length cap
    simp only [execOp, ho, hva, hvb, hg, Sem.run_bind, pure_bind]
    rcases hop with rfl | rfl
    · rw [hb.1]; rfl
    · rw [hb.2]; rfl
  cases p with
  | none =>
    have hes : es = [] := by
      rcases hc with ⟨h, _⟩ | ⟨b, off, h, _⟩
      · exact h
      · cases h
    refine ⟨.bool (op == .eql), h, ⟨Γ, w, _, _, hrun, .inl rfl, ?_, hs, Evo.refl _ _⟩, by rw [hd]; exact h1 hes⟩
    rcases hop with rfl | rfl <;> exact .bool _
  | some q =>
    refine ⟨.bool (op == .neq), h, ⟨Γ, w, _, _, hrun, .inl rfl, ?_, hs, Evo.refl _ _⟩, by rw [hd]; exact h2⟩
    rcases hop with rfl | rfl <;> exact .bool _

/-! A slice of one's own that grows from nil. -/

/-- Identity g is made at the first append. -/
def accS (g E : Nat) (es : List (List AV)) : AV := .slc (match es with | [] => .x | _ :: _ => .g g) E es

def accG (gl : List Nat) : List (List AV) → List Nat
  | [] => gl
  | e :: es => gl ++ [(e :: es).length]

theorem accS_nil (g E : Nat) : accS g E [] = .slc .x E [] := rfl

theorem aelems_slc {h : AH} {n : Nat} {tx e : TypeId} {sk : SK} {E : Nat} {es : List (List AV)} (hu : P.underlying tx = some (.slice e)) (hE : E = n) : aelems P h n tx (.slc sk E es) = some es := by
  unfold aelems
  rw [hu]
  cases es with
  | nil => rfl
  | cons a l => simp only [hE, if_true]

theorem aappend_acc {h : AH} {ts : Array TypeId} {t tx e : TypeId} {i : TypeInfo} {z : Value} {E g : Nat} {gl0 : List Nat} {es news : List (List AV)} {y : AV} (hts : ts = #[t, tx]) (hu : P.underlying t = some (.slice e)) (hi : P.info? e = some i) (hz : i.zero = some z)
    (hzs : z.cells.size = i.size) (hE : i.size = E) (hel : aelems P h i.size tx y = some news) (hc : news.all (fun e => e.all AV.cellable) = true) (hgl : h.gl = accG gl0 es) (hg : gl0.length = g)
    (hlen : (es.length + news.length) * i.bytes ≤ 140737488355328) (hb : 0 < i.bytes) :
    aappend P h ts (accS g E es) y = some (accS g E (es ++ news), { h with gl := accG gl0 (es ++ news) }) := by
  subst hts; subst hg; subst hE
  have h0 : (#[t, tx] : Array TypeId)[0]? = some t := rfl
  have h1 : (#[t, tx] : Array TypeId)[1]? = some tx := rfl
  have h2 : ((#[t, tx] : Array TypeId).size == 2) = true := rfl
  unfold aappend
  cases es with
  | nil =>
    have hgl' : h.gl = gl0 := hgl
    cases news with
    | nil =>
      simp only [h0, h1, h2, hu, hi, hz, hel, hc, hzs, sview, accS, beq_self_eq_true, Bool.and_self, if_true, List.length_nil, List.append_nil, accG, ← hgl']
    | cons a l =>
      have hn : ¬ (a :: l).length = 0 := by simp
      simp only [h0, h1, h2, hu, hi, hz, hel, hc, hzs, sview, accS, beq_self_eq_true, Bool.and_self, if_true, hn, if_false, hlen, hb, and_self, List.length_nil, true_or, List.nil_append, accG, hgl', Nat.zero_add, show (a :: l).length * i.bytes ≤ 140737488355328 by simpa using hlen]
  | cons b m =>
    have hgl' : h.gl = gl0 ++ [(b :: m).length] := hgl
    cases news with
    | nil =>
      simp only [h0, h1, h2, hu, hi, hz, hel, hc, hzs, sview, accS, beq_self_eq_true, Bool.and_self, if_true, List.length_nil, List.append_nil, accG, ← hgl']
    | cons a l =>
      have hn : ¬ (a :: l).length = 0 := by simp
      have hk : h.gl[gl0.length]? = some (b :: m).length := by rw [hgl']; simp
      have hset : h.gl.set gl0.length ((b :: m).length + (a :: l).length) = gl0 ++ [(b :: m ++ a :: l).length] := by
        rw [hgl', List.set_append_right _ _ (Nat.le_refl _)]; simp; omega
      simp only [h0, h1, h2, hu, hi, hz, hel, hc, hzs, sview, accS, beq_self_eq_true, Bool.and_self, if_true, hn, if_false, hlen, hb, and_self, hk, hset]
      rfl

/-- An append to a slice of one's own that grows from nil. -/
theorem RunL.oA (hV : V.ok P) {sz : Nat} {t : FTree} {df : List ADef} {h : AH} {o : Oper} {rest : List Oper} {d : Nat} {c : Go.Call} {ty tx e : TypeId} {i : TypeInfo} {z : Value} {g E : Nat} {gl0 : List Nat} {es news : List (List AV)} {y : AV}
    (ho : o.op = .call c) (hcb : c.callee = .builtin .append) (hd : o.dst = some d) (hw : awanted o ops ⟨sz, t⟩ = some true) (hx : aevals ⟨sz, t⟩ c.args = some [accS g E es, y]) (hts : c.argTypes = #[ty, tx]) (hu : P.underlying ty = some (.slice e))
    (hi : P.info? e = some i) (hz : i.zero = some z) (hzs : z.cells.size = i.size) (hE : i.size = E) (hel : aelems P h i.size tx y = some news) {nb : Nat} (hnb : i.bytes = nb) (hb : Nat.blt 0 nb = true) (hg : gl0.length = g)
    (hc : news.all (fun e => e.all AV.cellable) = true) (hgl : h.gl = accG gl0 es) (hlen : (es.length + news.length) * nb ≤ 140737488355328)
    (hq : RunL P n0 ops rest ⟨⟨sz, .upd t d (accS g E (es ++ news))⟩, df, { h with gl := accG gl0 (es ++ news) }⟩ Q) : RunL P n0 ops (o :: rest) ⟨⟨sz, t⟩, df, h⟩ Q := by
  subst hnb
  have hb' : 0 < i.bytes := Nat.le_of_ble_eq_true hb
  refine .o hV hd hw rfl (x := accS g E (es ++ news)) (h' := { h with gl := accG gl0 (es ++ news) }) rfl ?_ rfl hq
  unfold aop
  rw [ho]
  simp only [hcb, hx, aappend_acc hts hu hi hz hzs hE hel hc hgl hg hlen hb', OO.ofH]

theorem accS_within {g E k m : Nat} {es : List (List AV)} (hs : ∀ e ∈ es, ∀ c ∈ e, Pure c) (hm : es ≠ [] → g < m) : Sc k (accS g E es) ∧ SG m (accS g E es) := by
  refine ⟨.slc fun e he c hc => ((hs e he c hc).within (m := 0)).1, .slc ?_ fun e he c hc => ((hs e he c hc).within (k := 0)).2⟩
  cases es with
  | nil => trivial
  | cons a l => exact hm (by simp)

def FzL (objs : List AObj) : List AV → List AV → Prop
  | [], [] => True
  | x :: l, y :: m => Fz objs x y ∧ FzL objs l m
  | _, _ => False

theorem FzL.get {objs : List AObj} : ∀ {l m : List AV}, FzL objs l m → l.length = m.length ∧ ∀ (i : Nat) c c', l[i]? = some c → m[i]? = some c' → Fz objs c c'
  | [], [], _ => ⟨rfl, fun i c c' h => by simp at h⟩
  | x :: l, y :: m, h => by
    obtain ⟨h1, h2⟩ := FzL.get h.2
    refine ⟨by simp [h1], fun i c c' hc hc' => ?_⟩
    cases i with
    | zero => simp at hc hc'; subst hc; subst hc'; exact h.1
    | succ i => exact h2 i c c' (by simpa using hc) (by simpa using hc')
  | [], _ :: _, h => h.elim
  | _ :: _, [], h => h.elim

theorem Fz.agg' {objs : List AObj} {l m : List AV} (h : FzL objs l m) : Fz objs (.agg l) (.agg m) := .agg h.get.1 h.get.2
theorem Fz.tuple' {objs : List AObj} {l m : List AV} (h : FzL objs l m) : Fz objs (.tuple l) (.tuple m) := .tuple h.get.1 h.get.2
theorem Fz.flat {objs : List AObj} {x : AV} (h : x.flat = true) : Fz objs x x := .pure (.flat h)

theorem Fz.slcP {objs : List AObj} {sk : SK} {E : Nat} {es : List (List AV)} (hs : ∀ e ∈ es, ∀ c ∈ e, Pure c) : Fz objs (.slc sk E es) (.slc .r E es) := by
  refine .slc rfl (fun i e e' h1 h2 => ?_) (fun i j e e' c c' h1 h2 h3 h4 => ?_)
  · rw [h1] at h2; cases h2; rfl
  · rw [h1] at h2; cases h2
    rw [h3] at h4; cases h4
    exact .pure (hs e (List.mem_iff_getElem?.2 ⟨i, h1⟩) c (List.mem_iff_getElem?.2 ⟨j, h3⟩))

theorem Fz.acc {objs : List AObj} {g E : Nat} {es : List (List AV)} (hs : ∀ e ∈ es, ∀ c ∈ e, Pure c) : Fz objs (accS g E es) (.slc .r E es) := by
  refine .slc rfl (fun i e e' h1 h2 => ?_) (fun i j e e' c c' h1 h2 h3 h4 => ?_)
  · rw [h1] at h2; cases h2; rfl
  · rw [h1] at h2; cases h2
    rw [h3] at h4; cases h4
    exact .pure (hs e (List.mem_iff_getElem?.2 ⟨i, h1⟩) c (List.mem_iff_getElem?.2 ⟨j, h3⟩))

end

end Go.Proofs.YtgikapdeekepiaaGreatDoor
