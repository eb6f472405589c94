/- Lists of operations in the abstract evaluator. -/
import Derived.Test.YtgikapdeekepiaaGreatDoorEvI
import Derived.Scope
set_option linter.unusedSimpArgs false
namespace Go.Proofs.YtgikapdeekepiaaGreatDoor
open Go

structure AS where
  fr : FT
  df : List ADef
  h : AH

inductive AX where
  | normal
  | exit (id : Nat)
  | ret
  | panic (v : AV)

inductive Out where
  | ret (r : AV) (h : AH)
  | pan (v : AV) (h : AH)
  | bad

/-- Does it come up? none: that is not known. -/
def awanted (o : Oper) (ops : Array Oper) (fr : FT) : Option Bool :=
  match o.guard with
  | none => some true
  | some (j, want) => match ops[j]? with
    | some g => match g.dst with
      | some d => match fr.get d with
        | some (.bool b) => some (b == want)
        | some .any => none
        | _ => some false
      | none => some false
    | none => some false

theorem bool_iff {Γ : Ctx} {w : World} {x : AV} {v : Value} (h : VR Γ w x v) : (∀ b, x = .bool b → v = .bool b) ∧ (∀ b, v = .bool b → x = .bool b) := by
  cases h <;> simp

theorem awanted_ok {Γ : Ctx} {w : World} {fr : FT} {tmps : Array Value} (hf : FR Γ w fr tmps) {o : Oper} {ops : Array Oper} {b : Bool} (hw : awanted o ops fr = some b) : Region.wanted o (yielded ops tmps) = b := by
  unfold Region.wanted
  unfold awanted at hw
  cases hg : o.guard with
  | none => rw [hg] at hw; simpa using hw
  | some p =>
    obtain ⟨j, want⟩ := p
    simp only [hg] at hw ⊢
    unfold yielded
    cases h1 : ops[j]? with
    | none => rw [h1] at hw; simpa using hw
    | some g =>
      simp only [h1] at hw
      simp only [Option.bind_some]
      cases h2 : g.dst with
      | none => rw [h2] at hw; simpa using hw
      | some d =>
        simp only [h2] at hw
        simp only [Option.bind_some]
        cases h3 : fr.get d with
        | none =>
          rw [h3] at hw
          rw [hf.none h3]
          simpa using hw
        | some x =>
          have hlt : d < tmps.size := hf.lt h3
          have hv := hf.2 d x tmps[d] h3 (by simp [hlt])
          rw [Array.getElem?_eq_getElem hlt]
          rw [h3] at hw
          rcases hv with rfl | hv
          · cases hw
          · obtain ⟨q1, q2⟩ := bool_iff hv
            generalize tmps[d] = v at *
            cases x <;> cases v <;> simp_all

def DRs (Γ : Ctx) (w : World) : List ADef → List Deferred → Prop
  | [], [] => True
  | d :: ds, e :: es => DR Γ w d e ∧ DRs Γ w ds es
  | _, _ => False

theorem RelL.evo {Γ Γ' : Ctx} {w w' : World} (h : Evo Γ w Γ' w') {xs : List AV} {vs : Array Value} (hr : RelL Γ w xs vs) : RelL Γ' w' xs vs :=
  ⟨hr.1, fun i x v a b => (hr.2 i x v a b).evo h⟩

theorem DRs.evo {Γ Γ' : Ctx} {w w' : World} (h : Evo Γ w Γ' w') : ∀ {ds : List ADef} {es : List Deferred}, DRs Γ w ds es → DRs Γ' w' ds es
  | [], [], _ => trivial
  | d :: ds, e :: es, hr => by
    obtain ⟨⟨va, vc, h1, h2, h3⟩, h4⟩ := hr
    exact ⟨⟨va, vc, h1, h2.evo h, h3.evo h⟩, DRs.evo h h4⟩
  | [], _ :: _, hr => hr.elim
  | _ :: _, [], hr => hr.elim

structure Rel (Γ : Ctx) (s : AS) (a : Act) (w : World) : Prop where
  st : St Γ s.h w
  fr : FR Γ w s.fr a.tmps
  df : DRs Γ w s.df a.defers

def XR (Γ : Ctx) (w : World) : AX → Exit → Prop
  | .normal, e => e = .normal
  | .exit id, e => e = .exit id
  | .ret, e => e = .ret
  | .panic x, e => ∃ v, e = .panic [{ v, recovered := false }] ∧ VR Γ w x v

def PostQ (Γ : Ctx) (w : World) (x : AX) (s : AS) : Exit → Act → World → Prop :=
  fun e a' w' => ∃ Γ', XR Γ' w' x e ∧ Rel Γ' s a' w' ∧ Evo Γ w Γ' w'

def CallOK (P : Program) (f : FuncId) (args : List AV) (h : AH) : Out → Prop
  | .ret r h' => ∀ Γ w vs, St Γ h w → RelL Γ w args vs → Calls P f vs w fun e w' => ∃ Γ' v, e = .returned v ∧ VR Γ' w' r v ∧ St Γ' h' w' ∧ Evo Γ w Γ' w'
  | .pan x h' => ∀ Γ w vs, St Γ h w → RelL Γ w args vs → Calls P f vs w fun e w' => ∃ Γ' v, e = .panicked [{ v, recovered := false }] ∧ VR Γ' w' x v ∧ St Γ' h' w' ∧ Evo Γ w Γ' w'
  | .bad => True

abbrev CallF := FuncId → List AV → AH → Out

/-- One operation that is wanted: what it leaves. -/
def evOp (P : Program) (V : Env) (call : CallF) (o : Oper) (s : AS) : Option (AX × AS) :=
  match aop P V s.fr s.h o with
  | .ok x h => some (.normal, { s with fr := fput s.fr o.dst x, h := h })
  | .defer d => some (.normal, { s with fr := fput s.fr o.dst (.tuple []), df := d :: s.df })
  | .enter f args => match call f args s.h with
    | .ret r h => some (.normal, { s with fr := fput s.fr o.dst r, h := h })
    | .pan v h => some (.panic v, { s with h := h })
    | .bad => none
  | .pan v => some (.panic v, s)
  | .recover => none
  | .bad => none

def evOps (P : Program) (V : Env) (call : CallF) (ops : Array Oper) : List Oper → AS → Option (AX × AS)
  | [], s => some (.normal, s)
  | o :: rest, s =>
    match awanted o ops s.fr with
    | some true =>
      match evOp P V call o s with
      | some (.normal, s') => evOps P V call ops rest s'
      | r => r
    | some false => evOps P V call ops rest { s with fr := fput s.fr o.dst (.tuple []) }
    | none => none

theorem undef_VR (Γ : Ctx) (w : World) : VR Γ w (.tuple []) undef := .tuple rfl (by simp)

theorem put_defers (a : Act) (d : Option Tmp) (v : Value) : (a.put d v).defers = a.defers := by cases d <;> rfl

theorem Rel.put {Γ Γ' : Ctx} {s : AS} {a : Act} {w w' : World} (hr : Rel Γ s a w) (he : Evo Γ w Γ' w') {h' : AH} (hs : St Γ' h' w') {x : AV} {v : Value} (hx : VR Γ' w' x v) (d : Option Tmp) :
    Rel Γ' { s with fr := fput s.fr d x, h := h' } (a.put d v) w' :=
  ⟨hs, fput_ok (hr.fr.evo he) d hx, by rw [put_defers]; exact hr.df.evo he⟩

/-- One operation, by what its run is. -/
theorem evOp_ok {P : Program} {V : Env} {call : CallF} (hV : V.ok P) (hcall : ∀ f args h, CallOK P f args h (call f args h)) {o : Oper} {s s' : AS} {x : AX} (he : evOp P V call o s = some (x, s'))
    {Γ : Ctx} {a : Act} {w : World} (hr : Rel Γ s a w) {K : Act → World → Prop} {Q : Exit → Act → World → Prop}
    (hK : x = .normal → ∀ Γ' a' w', Rel Γ' s' a' w' → Evo Γ w Γ' w' → K a' w')
    (hQ : ∀ y, x = .panic y → ∀ Γ' a' w' v, Rel Γ' s' a' w' → Evo Γ w Γ' w' → VR Γ' w' y v → Q (.panic [{ v, recovered := false }]) a' w') :
    o.wp P a w K Q := by
  have hop := aop_ok (P := P) (o := o) hV hr.st hr.fr
  unfold evOp at he
  unfold Oper.wp
  cases hao : aop P V s.fr s.h o with
  | ok y h =>
    simp only [hao, Option.some.injEq, Prod.mk.injEq] at he hop
    obtain ⟨rfl, rfl⟩ := he
    obtain ⟨Γ', w', nx, v, h1, h2, h3, h4, h5⟩ := hop
    rw [h1]
    rcases h2 with rfl | ⟨rfl, rfl⟩
    · exact hK rfl Γ' _ w' (hr.put h5 h4 h3 o.dst) h5
    · exact hK rfl Γ' _ w' (hr.put h5 h4 h3 o.dst) h5
  | defer d =>
    simp only [hao, Option.some.injEq, Prod.mk.injEq] at he hop
    obtain ⟨rfl, rfl⟩ := he
    obtain ⟨⟨dd, h1, h2⟩, _⟩ := hop
    rw [h1]
    refine hK rfl Γ _ w ⟨hr.st, ?_, ?_⟩ (Evo.refl _ _)
    · have := fput_ok (a := { a with defers := dd :: a.defers }) hr.fr o.dst (undef_VR Γ w)
      exact this
    · rw [put_defers]; exact ⟨h2, hr.df⟩
  | enter f args =>
    simp only [hao] at he hop
    obtain ⟨vs, h1, h2⟩ := hop
    rw [h1]
    have hc := hcall f args s.h
    cases hco : call f args s.h with
    | ret r h =>
      simp only [hco, Option.some.injEq, Prod.mk.injEq] at he hc
      obtain ⟨rfl, rfl⟩ := he
      refine (hc Γ w vs hr.st h2).mono fun e w' hq => ?_
      obtain ⟨Γ', v, rfl, h3, h4, h5⟩ := hq
      exact hK rfl Γ' _ w' (hr.put h5 h4 h3 o.dst) h5
    | pan y h =>
      simp only [hco, Option.some.injEq, Prod.mk.injEq] at he hc
      obtain ⟨rfl, rfl⟩ := he
      refine (hc Γ w vs hr.st h2).mono fun e w' hq => ?_
      obtain ⟨Γ', v, rfl, h3, h4, h5⟩ := hq
      exact hQ y rfl Γ' a w' v ⟨h4, hr.fr.evo h5, hr.df.evo h5⟩ h5 h3
    | bad => simp only [hco] at he; cases he
  | pan y =>
    simp only [hao, Option.some.injEq, Prod.mk.injEq] at he hop
    obtain ⟨rfl, rfl⟩ := he
    obtain ⟨v, h1, h2⟩ := hop
    rw [h1]
    exact hQ y rfl Γ a w v hr (Evo.refl _ _) h2
  | recover => simp only [hao] at he; cases he
  | bad => simp only [hao] at he; cases he

theorem evOp_exit {P : Program} {V : Env} {call : CallF} {o : Oper} {s s' : AS} {x : AX} (he : evOp P V call o s = some (x, s')) : x = .normal ∨ ∃ y, x = .panic y := by
  unfold evOp at he
  repeat' split at he
  all_goals first
    | (simp only [Option.some.injEq, Prod.mk.injEq] at he; obtain ⟨rfl, _⟩ := he; first | exact .inl rfl | exact .inr ⟨_, rfl⟩)
    | cases he

theorem evOps_ok {P : Program} {V : Env} {call : CallF} (hV : V.ok P) (hcall : ∀ f args h, CallOK P f args h (call f args h)) {ops : Array Oper} : ∀ (l : List Oper) (s s' : AS) (x : AX),
    evOps P V call ops l s = some (x, s') → ∀ (Γ0 : Ctx) (w0 : World) (Γ : Ctx) (a : Act) (w : World), Rel Γ s a w → Evo Γ0 w0 Γ w → wpList P ops (PostQ Γ0 w0 x s') l a w
  | [], s, s', x, h, Γ0, w0, Γ, a, w, hr, he => by
    simp only [evOps, Option.some.injEq, Prod.mk.injEq] at h
    obtain ⟨rfl, rfl⟩ := h
    exact ⟨Γ, rfl, hr, he⟩
  | o :: rest, s, s', x, h, Γ0, w0, Γ, a, w, hr, he => by
    unfold wpList
    simp only [evOps] at h
    cases hw : awanted o ops s.fr with
    | none => simp only [hw] at h; cases h
    | some b =>
    rw [awanted_ok hr.fr hw]
    cases b with
    | false =>
      simp only [hw, Bool.false_eq_true, if_false] at h ⊢
      refine evOps_ok hV hcall rest _ s' x h Γ0 w0 Γ _ w ⟨hr.st, fput_ok hr.fr o.dst (undef_VR Γ w), by rw [put_defers]; exact hr.df⟩ he
    | true =>
      simp only [hw, if_true] at h ⊢
      left
      cases ho : evOp P V call o s with
      | none => simp only [ho] at h; cases h
      | some r =>
        obtain ⟨y, s1⟩ := r
        refine evOp_ok hV hcall ho hr (fun hy Γ' a' w' hr' he' => ?_) (fun z hy Γ' a' w' v hr' he' hv => ?_)
        · subst hy
          simp only [ho] at h
          exact evOps_ok hV hcall rest s1 s' x h Γ0 w0 Γ' a' w' hr' (he.trans he')
        · subst hy
          simp only [ho, Option.some.injEq, Prod.mk.injEq] at h
          obtain ⟨rfl, rfl⟩ := h
          exact ⟨Γ', ⟨v, rfl, hv⟩, hr', he.trans he'⟩

end Go.Proofs.YtgikapdeekepiaaGreatDoor
