/- The abstract evaluator of bodies and calls, deferred calls and recover among them, and that it is sound. -/
import Derived.Test.YtgikapdeekepiaaGreatDoorEvM
set_option linter.unusedSimpArgs false
namespace Go.Proofs.YtgikapdeekepiaaGreatDoor
open Go

/-- The mode of a frame whose deferred calls are made: it returns; it panics; its panic has been recovered. -/
inductive DM where
  | ret
  | pan (v : AV)
  | recd (v : AV)

def DM.settle : DM → DM
  | .recd _ => .ret
  | m => m

def MR (Γ : Ctx) (w : World) : DM → FrameMode → Prop
  | .ret, u => u = .returning
  | .pan x, u => ∃ v, u = .panicking [{ v, recovered := false }] ∧ VR Γ w x v
  | .recd x, u => ∃ v, u = .panicking [{ v, recovered := true }] ∧ VR Γ w x v

theorem MR.evo {Γ Γ' : Ctx} {w w' : World} (h : Evo Γ w Γ' w') {m : DM} {u : FrameMode} (hm : MR Γ w m u) : MR Γ' w' m u := by
  cases m with
  | ret => exact hm
  | pan x => obtain ⟨v, h1, h2⟩ := hm; exact ⟨v, h1, h2.evo h⟩
  | recd x => obtain ⟨v, h1, h2⟩ := hm; exact ⟨v, h1, h2.evo h⟩

theorem MR.settle {Γ : Ctx} {w : World} {m : DM} {u : FrameMode} (hm : MR Γ w m u) : MR Γ w m.settle (Go.settle u) := by
  cases m with
  | ret => rw [show u = .returning from hm]; rfl
  | pan x => obtain ⟨v, rfl, h2⟩ := hm; exact ⟨v, rfl, h2⟩
  | recd x => obtain ⟨v, rfl, h2⟩ := hm; rfl

theorem MR.notRun {Γ : Ctx} {w : World} {m : DM} {u : FrameMode} (hm : MR Γ w m u) : u ≠ .run := by
  cases m with
  | ret => rw [show u = .returning from hm]; simp
  | pan x => obtain ⟨v, rfl, h2⟩ := hm; simp
  | recd x => obtain ⟨v, rfl, h2⟩ := hm; simp

abbrev EvC := Code → AS → Option (AX × AS)
abbrev EvD := Code → AS → DM → Option (AX × AS × DM)
abbrev RunD := ADef → DM → AH → Option (DM × AH)

def aresult (P : Program) (fr : FT) (h : AH) : ResultVar → Option AV
  | .tmp t => fr.rd t
  | .cell a t => match fr.rd a with
    | some x => aload P h t x
    | none => none

def aresults (P : Program) (fn : Func) (fr : FT) (h : AH) : Option AV :=
  match mapO (aresult P fr h) fn.results.toList with
  | some [x] => some x
  | some xs => some (.tuple xs)
  | none => none

def finish (P : Program) (runD : RunD) (fn : Func) (fr : FT) : List ADef → DM → AH → Out
  | [], .ret, h => match aresults P fn fr h with
    | some r => .ret r h
    | none => .bad
  | [], .pan v, h => .pan v h
  | [], .recd _, _ => .bad
  | d :: ds, m, h => match runD d m h with
    | some (m', h') => finish P runD fn fr ds m'.settle h'
    | none => .bad

def enterFr (fn : Func) (args : List AV) : FT := ⟨args.length + (fn.ntmps - args.length), FT.args .emp 0 args⟩

def outOf (P : Program) (runD : RunD) (fn : Func) : Option (AX × AS) → Out
  | some (.normal, s) => finish P runD fn s.fr s.df .ret s.h
  | some (.ret, s) => finish P runD fn s.fr s.df .ret s.h
  | some (.panic v, s) => finish P runD fn s.fr s.df (.pan v) s.h
  | _ => .bad

def Out.trunc (n : Nat) : Out → Out
  | .ret r h => if decide (n ≤ h.esc) && AV.lowB 20 n r then .ret r (h.trunc n) else .ret r h
  | .pan r h => if decide (n ≤ h.esc) && AV.lowB 20 n r then .pan r (h.trunc n) else .pan r h
  | .bad => .bad

def callRaw (P : Program) (evc : EvC) (runD : RunD) (f : FuncId) (args : List AV) (h : AH) : Out :=
  match P.funcs[f]? with
  | some fn => match fn.body with
    | some c => outOf P runD fn (evc c ⟨enterFr fn args, [], h⟩)
    | none => .bad
  | none => .bad

def callWith (P : Program) (evc : EvC) (runD : RunD) (f : FuncId) (args : List AV) (h : AH) : Out := (callRaw P evc runD f args h).trunc h.objs.length

def runWith (P : Program) (evd : EvD) (d : ADef) (m : DM) (h : AH) : Option (DM × AH) :=
  match P.funcs[d.f]? with
  | some fn => match fn.body with
    | some c => match evd c ⟨enterFr fn (d.args ++ d.cap), [], h⟩ m with
      | some (.normal, s, m') => if s.df.isEmpty && fn.results.size == 0 then some (m', s.h) else none
      | some (.ret, s, m') => if s.df.isEmpty && fn.results.size == 0 then some (m', s.h) else none
      | _ => none
    | none => none
  | none => none

def flushed : Option (AX × AS) → Option (AX × AS)
  | some (x, s) => some (x, { s with fr := s.fr.flush })
  | none => none

def stepC (P : Program) (V : Env) (evc : EvC) (call : CallF) (c : Code) (s : AS) : Option (AX × AS) :=
  match c with
  | .skip => some (.normal, s)
  | .label _ => some (.normal, s)
  | .ret => some (.ret, s)
  | .exit id => some (.exit id, s)
  | .seq a b => match evc a s with
    | some (.normal, s') => evc b s'
    | r => r
  | .cond c a b => match aeval s.fr c with
    | some (.bool true) => evc a s
    | some (.bool false) => evc b s
    | _ => none
  | .block id body => match evc body s with
    | some (.exit id', s') => some (if id' = id then .normal else .exit id', s')
    | r => r
  | .loop body => match evc body s with
    | some (.normal, s') => evc (.loop body) s'
    | r => r
  | .scope body => evc body s
  | .region _ ops false => flushed (evOps P V call ops ops.toList s)
  | .region _ ops true => flushed (evDraw P V call ops s)
  | _ => none

def evOpsD (P : Program) (V : Env) (call : CallF) (ops : Array Oper) : List Oper → AS → DM → Option (AX × AS × DM)
  | [], s, m => some (.normal, s, m)
  | o :: rest, s, m =>
    match awanted o ops s.fr with
    | some true =>
      match aop P V s.fr s.h o with
      | .recover => match m with
        | .pan v => evOpsD P V call ops rest { s with fr := fput s.fr o.dst v } (.recd v)
        | m => evOpsD P V call ops rest { s with fr := fput s.fr o.dst .nili } m
      | _ => match evOp P V call o s with
        | some (.normal, s') => evOpsD P V call ops rest s' m
        | some (x, s') => some (x, s', m)
        | none => none
    | some false => evOpsD P V call ops rest { s with fr := fput s.fr o.dst (.tuple []) } m
    | none => none

def stepM (P : Program) (V : Env) (evc : EvC) (evd : EvD) (call : CallF) (c : Code) (s : AS) (m : DM) : Option (AX × AS × DM) :=
  match c with
  | .seq a b => match evd a s m with
    | some (.normal, s', m') => evd b s' m'
    | r => r
  | .cond c a b => match aeval s.fr c with
    | some (.bool true) => evd a s m
    | some (.bool false) => evd b s m
    | _ => none
  | .region _ ops false => evOpsD P V call ops ops.toList s m
  | c => match evc c s with
    | some (x, s') => some (x, s', m)
    | none => none

def ev (P : Program) (V : Env) : Nat → EvC × EvD
  | 0 => (fun _ _ => none, fun _ _ _ => none)
  | n + 1 =>
    (fun c s => stepC P V (ev P V n).1 (callWith P (ev P V n).1 (runWith P (ev P V n).2)) c s,
     fun c s m => stepM P V (ev P V n).1 (ev P V n).2 (callWith P (ev P V n).1 (runWith P (ev P V n).2)) c s m)

def evCall (P : Program) (V : Env) (n : Nat) : CallF := callWith P (ev P V n).1 (runWith P (ev P V n).2)

/-! Soundness. -/

def CodeOK (P : Program) (evc : EvC) : Prop :=
  ∀ c s x s', evc c s = some (x, s') → ∀ Γ0 w0 Γ a w, Rel Γ s a w → Evo Γ0 w0 Γ w → c.wp P (PostQ Γ0 w0 x s') a w

def PostS (Γ0 : Ctx) (w0 : World) (x : AX) (s : AS) (m : DM) (c₀ : Frame) (cs : List Frame) : Exit → Act → List Frame → World → Prop :=
  fun e a' cs' w' => ∃ Γ' u', cs' = { c₀ with mode := u' } :: cs ∧ XR Γ' w' x e ∧ Rel Γ' s a' w' ∧ MR Γ' w' m u' ∧ Evo Γ0 w0 Γ' w'

def DOK (P : Program) (evd : EvD) : Prop :=
  ∀ c s m x s' m', evd c s m = some (x, s', m') → ∀ Γ0 w0 Γ a w c₀ cs u, Rel Γ s a w → MR Γ w m u → Evo Γ0 w0 Γ w → c.wpS P (PostS Γ0 w0 x s' m' c₀ cs) a ({ c₀ with mode := u } :: cs) w

def RunOK (P : Program) (runD : RunD) : Prop :=
  ∀ d m h m' h', runD d m h = some (m', h') → hasBody P d.f = true ∧ ∀ Γ w u va vc, St Γ h w → RelL Γ w d.args va → RelL Γ w d.cap vc → MR Γ w m u →
    CallsD P d.f (va ++ vc) u w fun e u' w' => (∃ v, e = .returned v) ∧ ∃ Γ', MR Γ' w' m' u' ∧ St Γ' h' w' ∧ Evo Γ w Γ' w'

theorem aresults_ok {P : Program} {Γ : Ctx} {h : AH} {w : World} {fn : Func} {fr : FT} {tmps : Array Value} (hs : St Γ h w) (hf : FR Γ w fr tmps) {r : AV} (ha : aresults P fn fr h = some r) :
    ∃ v, (results fn tmps).run P w = .ok v w ∧ VR Γ w r v := by
  unfold aresults at ha
  have one : ∀ rv x, aresult P fr h rv = some x → ∃ v, ((match rv with
      | .tmp t => pure (tmps.getD t undef)
      | .cell a t => do loadVar t (← asAddr (tmps.getD a undef))) : Sem Value).run P w = .ok v w ∧ VR Γ w x v := by
    intro rv x hx
    have get : ∀ (t : Nat) (y : AV), fr.rd t = some y → VR Γ w y (tmps.getD t undef) := fun t y hy => hf.val hy
    cases rv with
    | tmp t => exact ⟨_, rfl, get t x hx⟩
    | cell a t =>
      simp only [aresult] at hx
      split at hx
      · rename_i y hy
        have hv := get a y hy
        unfold aload at hx
        split at hx
        · rename_i cs hcs
          obtain ⟨b, off, e, hc⟩ := cellsAt_ok hs hv hcs
          obtain ⟨u, h1, h2⟩ := loadVar_ok (P := P) hc hx
          refine ⟨u, ?_, h2⟩
          simp only [e, asAddr, Sem.run_bind, Sem.run_pure, Result.andThen_ok]
          exact h1
        · cases hx
      · cases hx
  cases hm : mapO (aresult P fr h) fn.results.toList with
  | none => rw [hm] at ha; cases ha
  | some xs =>
    obtain ⟨hl, hg⟩ := mapO_get hm
    have hvs : ∃ vs : List Value, vs.length = xs.length ∧ (∀ (i : Nat) rv v, fn.results.toList[i]? = some rv → vs[i]? = some v → ((match rv with
        | .tmp t => pure (tmps.getD t undef)
        | .cell a t => do loadVar t (← asAddr (tmps.getD a undef))) : Sem Value).run P w = .ok v w) ∧ (∀ (i : Nat) x v, xs[i]? = some x → vs[i]? = some v → VR Γ w x v) := by
      have hch : ∀ i : Fin xs.length, ∃ v, (∀ rv, fn.results.toList[i.1]? = some rv → ((match rv with
          | .tmp t => pure (tmps.getD t undef)
          | .cell a t => do loadVar t (← asAddr (tmps.getD a undef))) : Sem Value).run P w = .ok v w) ∧ VR Γ w xs[i.1] v := by
        intro i
        have hi : i.1 < fn.results.toList.length := by rw [hl]; exact i.2
        obtain ⟨v, h1, h2⟩ := one _ _ (hg i.1 _ _ (List.getElem?_eq_getElem hi) (List.getElem?_eq_getElem i.2))
        refine ⟨v, fun rv hrv => ?_, h2⟩
        rw [List.getElem?_eq_getElem hi] at hrv
        cases hrv; exact h1
      let g : Fin xs.length → Value := fun i => Classical.choose (hch i)
      have hgs : ∀ i, _ := fun i => Classical.choose_spec (hch i)
      refine ⟨List.ofFn g, by simp, fun i rv v hrv hv => ?_, fun i x v hx hv => ?_⟩
      · have hi : i < xs.length := by have := (List.getElem?_eq_some_iff.1 hv).1; simpa using this
        have : v = g ⟨i, hi⟩ := by
          rw [List.getElem?_eq_getElem (by simpa using hi)] at hv
          simpa using hv.symm
        rw [this]
        exact (hgs ⟨i, hi⟩).1 rv hrv
      · have hi : i < xs.length := (List.getElem?_eq_some_iff.1 hx).1
        have : v = g ⟨i, hi⟩ := by
          rw [List.getElem?_eq_getElem (by simpa using hi)] at hv
          simpa using hv.symm
        rw [this]
        rw [List.getElem?_eq_getElem hi] at hx
        cases hx
        exact (hgs ⟨i, hi⟩).2
    obtain ⟨vs, hvl, hv1, hv2⟩ := hvs
    have hrun : (results fn tmps).run P w = .ok (if h : vs.toArray.size = 1 then vs.toArray[0] else .tuple vs.toArray) w := by
      have hmap : (fn.results.mapM (fun rv => ((match rv with
          | .tmp t => pure (tmps.getD t undef)
          | .cell a t => do loadVar t (← asAddr (tmps.getD a undef))) : Sem Value))).run P w = .ok vs.toArray w := by
        rw [Array.mapM_eq_mapM_toList, Sem.run_map, run_mapM (ys := vs) (by rw [hvl, hl]) (fun i x y hx hy => hv1 i x y hx hy)]
        rfl
      have hres : results fn tmps = (fn.results.mapM (fun rv => ((match rv with
          | .tmp t => pure (tmps.getD t undef)
          | .cell a t => do loadVar t (← asAddr (tmps.getD a undef))) : Sem Value))) >>= fun vs => pure (if h : vs.size = 1 then vs[0] else .tuple vs) := rfl
      rw [hres, Sem.run_bind, hmap]
      rfl
    rw [hm] at ha
    rw [hrun]
    split at ha
    · rename_i x heq
      cases ha
      simp only [Option.some.injEq] at heq
      subst heq
      match vs, hvl with
      | [v], _ => exact ⟨v, by simp, hv2 0 _ v (by simp) (by simp)⟩
    · rename_i xs' hne heq
      cases ha
      simp only [Option.some.injEq] at heq
      subst heq
      refine ⟨.tuple vs.toArray, ?_, .tuple (by simpa using hvl) (fun i c v hc hv => hv2 i c v hc (by simpa using hv))⟩
      rw [dif_neg]
      intro h1
      simp at h1
      match xs, hvl, hne with
      | [], hvl, _ => rw [h1] at hvl; simp at hvl
      | [x], _, hne => exact hne x rfl
      | x :: y :: r, hvl, _ => rw [h1] at hvl; simp at hvl
    · rename_i heq; cases heq

theorem finish_ok {P : Program} {V : Env} (hV : V.ok P) {runD : RunD} (hrun : RunOK P runD) {fn : Func} {fr : FT} {tmps : Array Value} : ∀ (ds : List ADef) (es : List Deferred) (m : DM) (u : FrameMode) (h : AH) (Γ0 Γ : Ctx) (w0 w : World),
    St Γ h w → FR Γ w fr tmps → DRs Γ w ds es → MR Γ w m u → Evo Γ0 w0 Γ w →
    match finish P runD fn fr ds m h with
    | .ret r h' => Leaves P fn tmps (fun e w' => ∃ Γ' v, e = .returned v ∧ VR Γ' w' r v ∧ St Γ' h' w' ∧ Evo Γ0 w0 Γ' w') es u w
    | .pan x h' => Leaves P fn tmps (fun e w' => ∃ Γ' v, e = .panicked [{ v, recovered := false }] ∧ VR Γ' w' x v ∧ St Γ' h' w' ∧ Evo Γ0 w0 Γ' w') es u w
    | .bad => True
  | [], [], m, u, h, Γ0, Γ, w0, w, hs, hf, _, hm, he => by
    cases m with
    | ret =>
      rw [show u = .returning from hm]
      simp only [finish]
      cases hr : aresults P fn fr h with
      | none => trivial
      | some r =>
        obtain ⟨v, h1, h2⟩ := aresults_ok hs hf hr
        exact ⟨v, h1, Γ, v, rfl, h2, hs, he⟩
    | pan x =>
      obtain ⟨v, rfl, hv⟩ := hm
      exact ⟨Γ, v, rfl, hv, hs, he⟩
    | recd x => trivial
  | [], _ :: _, _, _, _, _, _, _, _, _, _, hd, _, _ => hd.elim
  | _ :: _, [], _, _, _, _, _, _, _, _, _, hd, _, _ => hd.elim
  | d :: ds, e :: es, m, u, h, Γ0, Γ, w0, w, hs, hf, hd, hm, he => by
    obtain ⟨⟨va, vc, rfl, hva, hvc⟩, hds⟩ := hd
    simp only [finish]
    cases hr : runD d m h with
    | none => trivial
    | some q =>
      obtain ⟨m', h'⟩ := q
      obtain ⟨hb, hc⟩ := hrun d m h m' h' hr
      have hcall := hc Γ w u va vc hs hva hvc hm
      simp only
      have next : ∀ Γ' w' u', MR Γ' w' m' u' → St Γ' h' w' → Evo Γ w Γ' w' → _ := fun Γ' w' u' q1 q2 q3 =>
        finish_ok hV hrun (fn := fn) (fr := fr) (tmps := tmps) ds es m'.settle (Go.settle u') h' Γ0 Γ' w0 w' q2 (hf.evo q3) (hds.evo q3) q1.settle (he.trans q3)
      have hinv : (invoke (.fn (.func d.f) vc) va).run P w = .ok (.enter d.f (va ++ vc)) w := by
        simp only [invoke]; exact callFunc_ok hV hb _
      cases hfin : finish P runD fn fr ds m'.settle h' with
      | ret r h2 =>
        refine ⟨hm.notRun, _, _, _, _, rfl, hinv, hcall.mono fun e u' w' hq => ?_⟩
        obtain ⟨⟨v, rfl⟩, Γ', q1, q2, q3⟩ := hq
        have := next Γ' w' u' q1 q2 q3
        rw [hfin] at this
        exact this
      | pan r h2 =>
        refine ⟨hm.notRun, _, _, _, _, rfl, hinv, hcall.mono fun e u' w' hq => ?_⟩
        obtain ⟨⟨v, rfl⟩, Γ', q1, q2, q3⟩ := hq
        have := next Γ' w' u' q1 q2 q3
        rw [hfin] at this
        exact this
      | bad => trivial

theorem enter_FR {Γ : Ctx} {w : World} {args : List AV} {vs : Array Value} (h : RelL Γ w args vs) (fn : Func) : FR Γ w (enterFr fn args) (vs ++ Array.replicate (fn.ntmps - vs.size) undef) := by
  have hget : ∀ i, (enterFr fn args).get i = if i < args.length + (fn.ntmps - args.length) then some (if i < args.length then (args[i]?).getD .any else .any) else none := by
    intro i
    rw [FT.get_eq]
    show (if i < args.length + (fn.ntmps - args.length) then some ((FT.args .emp 0 args).val i) else none) = _
    rw [FT.val_args]
    simp only [Nat.zero_le, true_and, Nat.zero_add, Nat.sub_zero]
    rfl
  refine ⟨fun i => by rw [FT.isSome_get]; show decide (i < args.length + (fn.ntmps - args.length)) = _; simp [h.1], fun i x v hx hv => ?_⟩
  rw [hget] at hx
  by_cases hi : i < args.length + (fn.ntmps - args.length)
  · rw [if_pos hi] at hx
    by_cases hlt : i < args.length
    · rw [if_pos hlt, List.getElem?_eq_getElem hlt] at hx
      rw [Array.getElem?_append_left (by rw [h.1]; exact hlt)] at hv
      exact .inr (h.2 i x v (by rw [List.getElem?_eq_getElem hlt]; exact hx) hv)
    · rw [if_neg hlt] at hx
      exact .inl (Option.some.inj hx).symm
  · rw [if_neg hi] at hx; cases hx

theorem callRaw_ok {P : Program} {V : Env} (hV : V.ok P) {evc : EvC} {runD : RunD} (hc : CodeOK P evc) (hrun : RunOK P runD) (f : FuncId) (args : List AV) (h : AH) : CallOK P f args h (callRaw P evc runD f args h) := by
  unfold callRaw
  cases hf : P.funcs[f]? with
  | none => trivial
  | some fn =>
    simp only
    cases hb : fn.body with
    | none => trivial
    | some c =>
      simp only
      cases he : evc c ⟨enterFr fn args, [], h⟩ with
      | none => trivial
      | some q =>
        obtain ⟨x, s⟩ := q
        have key : ∀ (m : DM), (∀ e Γ' w', XR Γ' w' x e → (e = .normal ∨ e = .ret) ∧ m = .ret ∨ ∃ y v, e = .panic [{ v, recovered := false }] ∧ m = .pan y ∧ VR Γ' w' y v) →
            CallOK P f args h (finish P runD fn s.fr s.df m s.h) := by
          intro m hx
          have body : ∀ Γ w vs, St Γ h w → RelL Γ w args vs → ∀ R, (∀ Γ' a' w' u, Rel Γ' s a' w' → MR Γ' w' m u → Evo Γ w Γ' w' → Leaves P fn a'.tmps R a'.defers u w') → Calls P f vs w R := by
            intro Γ w vs hs hr R hR
            refine calls_of_wp_defers hf hb ?_
            have hw := hc c ⟨enterFr fn args, [], h⟩ x s he Γ w Γ { tmps := vs ++ Array.replicate (fn.ntmps - vs.size) undef, defers := [] } w ⟨hs, enter_FR hr fn, trivial⟩ (Evo.refl _ _)
            refine Code.wp_mono (fun e a' w' hq => ?_) hw
            obtain ⟨Γ', h1, h2, h3⟩ := hq
            rcases hx e Γ' w' h1 with ⟨h4 | h4, rfl⟩ | ⟨y, v, rfl, rfl, hv⟩
            · subst h4; exact hR Γ' a' w' .returning h2 rfl h3
            · subst h4; exact hR Γ' a' w' .returning h2 rfl h3
            · exact hR Γ' a' w' _ h2 ⟨v, rfl, hv⟩ h3
          cases hfin : finish P runD fn s.fr s.df m s.h with
          | ret r h' =>
            intro Γ w vs hs hr
            refine body Γ w vs hs hr _ fun Γ' a' w' u h1 h2 h3 => ?_
            have := finish_ok hV hrun (fn := fn) s.df a'.defers m u s.h Γ Γ' w w' h1.st h1.fr h1.df h2 h3
            rw [hfin] at this
            exact this
          | pan r h' =>
            intro Γ w vs hs hr
            refine body Γ w vs hs hr _ fun Γ' a' w' u h1 h2 h3 => ?_
            have := finish_ok hV hrun (fn := fn) s.df a'.defers m u s.h Γ Γ' w w' h1.st h1.fr h1.df h2 h3
            rw [hfin] at this
            exact this
          | bad => trivial
        cases x with
        | normal => exact key .ret fun e Γ' w' h => .inl ⟨.inl h, rfl⟩
        | ret => exact key .ret fun e Γ' w' h => .inl ⟨.inr h, rfl⟩
        | panic v => exact key (.pan v) fun e Γ' w' h => by obtain ⟨u, h1, h2⟩ := h; exact .inr ⟨v, u, h1, rfl, h2⟩
        | exit id => trivial

theorem trunc_ok {P : Program} {f : FuncId} {args : List AV} {h : AH} {o : Out} (ho : CallOK P f args h o) : CallOK P f args h (o.trunc h.objs.length) := by
  cases o with
  | ret r h' =>
    simp only [Out.trunc]
    split
    · rename_i hc
      simp only [Bool.and_eq_true, decide_eq_true_eq] at hc
      intro Γ w vs hs hr
      refine (ho Γ w vs hs hr).mono fun e w' hq => ?_
      obtain ⟨Γ', v, rfl, hv, hs', he⟩ := hq
      exact ⟨Γ'.trunc h.objs.length, v, rfl, hv.trunc (AV.lowB_ok _ _ _ hc.2), hs'.trunc hc.1, he.trunc (by rw [hs.len]; exact Nat.le_refl _)⟩
    · exact ho
  | pan r h' =>
    simp only [Out.trunc]
    split
    · rename_i hc
      simp only [Bool.and_eq_true, decide_eq_true_eq] at hc
      intro Γ w vs hs hr
      refine (ho Γ w vs hs hr).mono fun e w' hq => ?_
      obtain ⟨Γ', v, rfl, hv, hs', he⟩ := hq
      exact ⟨Γ'.trunc h.objs.length, v, rfl, hv.trunc (AV.lowB_ok _ _ _ hc.2), hs'.trunc hc.1, he.trunc (by rw [hs.len]; exact Nat.le_refl _)⟩
    · exact ho
  | bad => trivial

theorem callWith_ok {P : Program} {V : Env} (hV : V.ok P) {evc : EvC} {runD : RunD} (hc : CodeOK P evc) (hrun : RunOK P runD) (f : FuncId) (args : List AV) (h : AH) : CallOK P f args h (callWith P evc runD f args h) :=
  trunc_ok (callRaw_ok hV hc hrun f args h)

theorem runWith_ok {P : Program} {evd : EvD} (hd : DOK P evd) : RunOK P (runWith P evd) := by
  intro d m h m' h' hr
  unfold runWith at hr
  cases hf : P.funcs[d.f]? with
  | none => rw [hf] at hr; cases hr
  | some fn =>
    rw [hf] at hr
    simp only at hr
    cases hb : fn.body with
    | none => rw [hb] at hr; cases hr
    | some c =>
      rw [hb] at hr
      simp only at hr
      refine ⟨by unfold hasBody; rw [hf]; simp [hb], fun Γ w u va vc hs hva hvc hm => ?_⟩
      have key : ∀ x s m1, evd c ⟨enterFr fn (d.args ++ d.cap), [], h⟩ m = some (x, s, m1) → (x = .normal ∨ x = .ret) → s.df.isEmpty = true → fn.results.size = 0 → m1 = m' → s.h = h' →
          CallsD P d.f (va ++ vc) u w fun e u' w' => (∃ v, e = .returned v) ∧ ∃ Γ', MR Γ' w' m' u' ∧ St Γ' h' w' ∧ Evo Γ w Γ' w' := by
        intro x s m1 he hx hdf hres e1 e2
        subst e1; subst e2
        refine callsD_of_wpS hf hb fun c₀ cs hu => ?_
        have hw := hd c _ m x s m1 he Γ w Γ { tmps := va ++ vc ++ Array.replicate (fn.ntmps - (va ++ vc).size) undef, defers := [] } w c₀ cs u ⟨hs, enter_FR (hva.append hvc) fn, trivial⟩ hm (Evo.refl _ _)
        have hc0 : ({ c₀ with mode := u } : Frame) = c₀ := by subst hu; rfl
        rw [hc0] at hw
        intro b k hbk hbr
        obtain ⟨e, a', cs', w', ⟨Γ', u', h1, h2, h3, h4, h5⟩, harr⟩ := hw b k hbk hbr
        refine ⟨e, a', cs', w', ?_, harr⟩
        have hdn : a'.defers = [] := by
          have := h3.df
          have hs0 : s.df = [] := List.isEmpty_iff.1 hdf
          rw [hs0] at this
          cases hda : a'.defers with
          | nil => rfl
          | cons q r => rw [hda] at this; exact this.elim
        have hresr : (results fn a'.tmps).run P w' = .ok (.tuple #[]) w' := by
          have : fn.results = #[] := Array.eq_empty_of_size_eq_zero hres
          exact results_none this _ _ _
        rcases hx with rfl | rfl
        · rw [show e = .normal from h2]
          exact ⟨hdn, u', h1, _, hresr, ⟨_, rfl⟩, Γ', h4, h3.st, h5⟩
        · rw [show e = .ret from h2]
          exact ⟨hdn, u', h1, _, hresr, ⟨_, rfl⟩, Γ', h4, h3.st, h5⟩
      split at hr
      · rename_i s m1 he
        split at hr
        · rename_i hc
          simp only [Bool.and_eq_true, beq_iff_eq] at hc
          simp only [Option.some.injEq, Prod.mk.injEq] at hr
          exact key _ _ _ he (.inl rfl) hc.1 hc.2 hr.1 hr.2
        · cases hr
      · rename_i s m1 he
        split at hr
        · rename_i hc
          simp only [Bool.and_eq_true, beq_iff_eq] at hc
          simp only [Option.some.injEq, Prod.mk.injEq] at hr
          exact key _ _ _ he (.inr rfl) hc.1 hc.2 hr.1 hr.2
        · cases hr
      · cases hr

end Go.Proofs.YtgikapdeekepiaaGreatDoor
