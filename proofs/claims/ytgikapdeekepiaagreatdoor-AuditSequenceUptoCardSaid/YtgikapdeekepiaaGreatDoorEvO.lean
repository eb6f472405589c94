/- The abstract evaluator is sound. -/
import Derived.Test.YtgikapdeekepiaaGreatDoorEvN
import Derived.LoopN
set_option linter.unusedSimpArgs false
namespace Go.Proofs.YtgikapdeekepiaaGreatDoor
open Go

def LoopOK (P : Program) (evc : EvC) : Prop :=
  ∀ body s x s', evc (.loop body) s = some (x, s') → ∃ k, ∀ Γ0 w0 Γ a w, Rel Γ s a w → Evo Γ0 w0 Γ w → Code.rounds P body (PostQ Γ0 w0 x s') k a w

theorem XR.normal_iff {Γ : Ctx} {w : World} {x : AX} {e : Exit} (h : XR Γ w x e) : x = .normal ↔ e = .normal := by
  cases x with
  | normal => rw [show e = .normal from h]; simp
  | exit id => rw [show e = .exit id from h]; simp
  | ret => rw [show e = .ret from h]; simp
  | panic v => obtain ⟨u, rfl, _⟩ := h; simp

theorem then_of {Γ0 : Ctx} {w0 : World} {x : AX} {s : AS} {K : Act → World → Prop} {Q : Exit → Act → World → Prop} {e : Exit} {a : Act} {w : World} (h : PostQ Γ0 w0 x s e a w)
    (hn : x = .normal → ∀ Γ', Rel Γ' s a w → Evo Γ0 w0 Γ' w → K a w) (hq : x ≠ .normal → Q e a w) : Exit.then K Q e a w := by
  obtain ⟨Γ', h1, h2, h3⟩ := h
  by_cases hx : x = .normal
  · have he := h1.normal_iff.1 hx
    subst he
    exact hn hx Γ' h2 h3
  · have he : e ≠ .normal := fun e' => hx (h1.normal_iff.2 e')
    cases e with
    | normal => exact absurd rfl he
    | _ => exact hq hx

theorem flushed_some {r : Option (AX × AS)} {x : AX} {s' : AS} (h : flushed r = some (x, s')) : ∃ s1, r = some (x, s1) ∧ s' = { s1 with fr := s1.fr.flush } := by
  cases r with
  | none => cases h
  | some q =>
    obtain ⟨y, s1⟩ := q
    simp only [flushed, Option.some.injEq, Prod.mk.injEq] at h
    obtain ⟨rfl, rfl⟩ := h
    exact ⟨s1, rfl, rfl⟩

theorem PostQ.flush {Γ : Ctx} {w : World} {x : AX} {s : AS} {e : Exit} {a : Act} {w' : World} (h : PostQ Γ w x s e a w') : PostQ Γ w x { s with fr := s.fr.flush } e a w' := by
  obtain ⟨Γ', h1, h2, h3⟩ := h
  exact ⟨Γ', h1, ⟨h2.st, h2.fr.flush, h2.df⟩, h3⟩

theorem stepC_loop {P : Program} {V : Env} {evc : EvC} {call : CallF} (hc : CodeOK P evc) (hl : LoopOK P evc) : ∀ body s x s', stepC P V evc call (.loop body) s = some (x, s') →
    ∃ k, ∀ Γ0 w0 Γ a w, Rel Γ s a w → Evo Γ0 w0 Γ w → Code.rounds P body (PostQ Γ0 w0 x s') k a w := by
  intro body s x s' h
  simp only [stepC] at h
  cases hb : evc body s with
  | none => rw [hb] at h; cases h
  | some q =>
    obtain ⟨y, s1⟩ := q
    rw [hb] at h
    by_cases hy : y = .normal
    · subst hy
      simp only at h
      obtain ⟨k, hk⟩ := hl body s1 x s' h
      refine ⟨k + 1, fun Γ0 w0 Γ a w hr he => ?_⟩
      rw [rounds_succ]
      exact Code.wp_mono (fun e a' w' hq => then_of hq (fun _ Γ' h1 h2 => hk Γ0 w0 Γ' a' w' h1 h2) (fun hne => absurd rfl hne)) (hc body s .normal s1 hb Γ0 w0 Γ a w hr he)
    · have h' : some (y, s1) = some (x, s') := by
        cases y with
        | normal => exact absurd rfl hy
        | _ => exact h
      cases h'
      refine ⟨1, fun Γ0 w0 Γ a w hr he => ?_⟩
      rw [rounds_succ]
      exact Code.wp_mono (fun e a' w' hq => then_of hq (fun hn => absurd hn hy) (fun _ => hq)) (hc body s _ _ hb Γ0 w0 Γ a w hr he)

theorem stepC_ok {P : Program} {V : Env} (hV : V.ok P) {evc : EvC} {call : CallF} (hcall : ∀ f args h, CallOK P f args h (call f args h)) (hc : CodeOK P evc) (hl : LoopOK P evc) : CodeOK P (stepC P V evc call) := by
  intro c s x s' h Γ0 w0 Γ a w hr he
  cases c with
  | skip => simp only [stepC, Option.some.injEq, Prod.mk.injEq] at h; obtain ⟨rfl, rfl⟩ := h; exact wp_skip ⟨Γ, rfl, hr, he⟩
  | label l => simp only [stepC, Option.some.injEq, Prod.mk.injEq] at h; obtain ⟨rfl, rfl⟩ := h; exact wp_label ⟨Γ, rfl, hr, he⟩
  | ret => simp only [stepC, Option.some.injEq, Prod.mk.injEq] at h; obtain ⟨rfl, rfl⟩ := h; exact wp_ret ⟨Γ, rfl, hr, he⟩
  | exit id => simp only [stepC, Option.some.injEq, Prod.mk.injEq] at h; obtain ⟨rfl, rfl⟩ := h; exact wp_exit ⟨Γ, rfl, hr, he⟩
  | seq p q =>
    simp only [stepC] at h
    cases hb : evc p s with
    | none => rw [hb] at h; cases h
    | some r =>
      obtain ⟨y, s1⟩ := r
      rw [hb] at h
      refine wp_seq ?_
      by_cases hy : y = .normal
      · subst hy
        simp only at h
        exact Code.wp_mono (fun e a' w' hq => then_of hq (fun _ Γ' h1 h2 => hc q s1 x s' h Γ0 w0 Γ' a' w' h1 h2) (fun hne => absurd rfl hne)) (hc p s .normal s1 hb Γ0 w0 Γ a w hr he)
      · have h' : some (y, s1) = some (x, s') := by
          cases y with
          | normal => exact absurd rfl hy
          | _ => exact h
        cases h'
        exact Code.wp_mono (fun e a' w' hq => then_of hq (fun hn => absurd hn hy) (fun _ => hq)) (hc p s _ _ hb Γ0 w0 Γ a w hr he)
  | cond o p q =>
    simp only [stepC] at h
    split at h
    · rename_i ho
      have hv := aeval_ok hr.fr ho
      generalize hov : a.eval o = v at hv
      cases hv
      exact wp_cond_true hov (hc p s x s' h Γ0 w0 Γ a w hr he)
    · rename_i ho
      have hv := aeval_ok hr.fr ho
      generalize hov : a.eval o = v at hv
      cases hv
      exact wp_cond_false hov (hc q s x s' h Γ0 w0 Γ a w hr he)
    · cases h
  | block id body =>
    simp only [stepC] at h
    cases hb : evc body s with
    | none => rw [hb] at h; cases h
    | some r =>
      obtain ⟨y, s1⟩ := r
      rw [hb] at h
      refine wp_block (Code.wp_mono (fun e a' w' hq => ?_) (hc body s y s1 hb Γ0 w0 Γ a w hr he))
      obtain ⟨Γ', h1, h2, h3⟩ := hq
      cases y with
      | exit id' =>
        simp only [Option.some.injEq, Prod.mk.injEq] at h
        obtain ⟨rfl, rfl⟩ := h
        rw [show e = .exit id' from h1]
        simp only [Exit.inBlock]
        by_cases hid : id' = id
        · rw [if_pos hid, if_pos hid]; exact ⟨Γ', rfl, h2, h3⟩
        · rw [if_neg hid, if_neg hid]; exact ⟨Γ', rfl, h2, h3⟩
      | normal =>
        cases h
        rw [show e = .normal from h1]; exact ⟨Γ', rfl, h2, h3⟩
      | ret =>
        cases h
        rw [show e = .ret from h1]; exact ⟨Γ', rfl, h2, h3⟩
      | panic v =>
        cases h
        obtain ⟨u, rfl, hv⟩ := h1
        exact ⟨Γ', ⟨u, rfl, hv⟩, h2, h3⟩
  | loop body =>
    obtain ⟨k, hk⟩ := stepC_loop hc hl body s x s' h
    exact wp_loop_rounds k (hk Γ0 w0 Γ a w hr he)
  | scope body =>
    simp only [stepC] at h
    refine wp_scope_straight (Code.wp_mono (fun e a' w' hq => ?_) (hc body s x s' h Γ0 w0 Γ a w hr he))
    obtain ⟨Γ', h1, h2, h3⟩ := hq
    have hq : PostQ Γ0 w0 x s' e a' w' := ⟨Γ', h1, h2, h3⟩
    cases e with
    | goto l =>
      cases x with
      | normal => cases h1
      | exit id => cases h1
      | ret => cases h1
      | panic v => obtain ⟨u, h4, _⟩ := h1; cases h4
    | _ => exact hq
  | region id ops draw =>
    cases draw with
    | false =>
      simp only [stepC] at h
      obtain ⟨s1, h1, rfl⟩ := flushed_some h
      exact Code.wp_mono (fun e a' w' hq => hq.flush) (wp_region_list (evOps_ok hV hcall ops.toList s s1 x h1 Γ0 w0 Γ a w hr he))
    | true =>
      simp only [stepC] at h
      obtain ⟨s1, h1, rfl⟩ := flushed_some h
      exact Code.wp_mono (fun e a' w' hq => hq.flush) (evDraw_ok hV hcall h1 hr he)
  | rangeFunc f ps as b => simp only [stepC] at h; cases h
  | goto l => simp only [stepC] at h; cases h
  | refuse why => simp only [stepC] at h; cases h

/-! Bodies of deferred functions. -/

theorem evOpsD_ok {P : Program} {V : Env} {call : CallF} (hV : V.ok P) (hcall : ∀ f args h, CallOK P f args h (call f args h)) {ops : Array Oper} : ∀ (l : List Oper) (k : Nat), (∀ j, l[j]? = ops[k + j]?) → ∀ (s s' : AS) (m m' : DM) (x : AX),
    evOpsD P V call ops l s m = some (x, s', m') → ∀ (Γ0 : Ctx) (w0 : World) (Γ : Ctx) (a : Act) (w : World) (c₀ : Frame) (cs : List Frame) (u : FrameMode), Rel Γ s a w → MR Γ w m u → Evo Γ0 w0 Γ w →
    wpOpsS P ops (PostS Γ0 w0 x s' m' c₀ cs) (List.range' k l.length) a ({ c₀ with mode := u } :: cs) w
  | [], k, _, s, s', m, m', x, h, Γ0, w0, Γ, a, w, c₀, cs, u, hr, hm, he => by
    simp only [evOpsD, Option.some.injEq, Prod.mk.injEq] at h
    obtain ⟨rfl, rfl, rfl⟩ := h
    exact ⟨Γ, u, rfl, rfl, hr, hm, he⟩
  | o :: rest, k, hl, s, s', m, m', x, h, Γ0, w0, Γ, a, w, c₀, cs, u, hr, hm, he => by
    have h0 : ops[k]? = some o := by simpa using (hl 0).symm
    have hl' : ∀ j, rest[j]? = ops[k + 1 + j]? := fun j => by
      have := hl (j + 1)
      simpa [Nat.add_assoc, Nat.add_comm 1 j] using this
    simp only [List.length_cons, List.range'_succ, wpOpsS, h0]
    simp only [evOpsD] at h
    cases hw : awanted o ops s.fr with
    | none => simp only [hw] at h; cases h
    | some b =>
    rw [awanted_ok hr.fr hw]
    cases b with
    | false =>
      simp only [hw, Bool.false_eq_true, if_false] at h ⊢
      exact evOpsD_ok hV hcall rest (k + 1) hl' _ s' m m' x h Γ0 w0 Γ _ w c₀ cs u ⟨hr.st, fput_ok hr.fr o.dst (undef_VR Γ w), by rw [put_defers]; exact hr.df⟩ hm he
    | true =>
      simp only [hw, if_true] at h ⊢
      have hop := aop_ok (P := P) (o := o) hV hr.st hr.fr
      by_cases hrec : aop P V s.fr s.h o = .recover
      · rw [hrec] at h hop
        simp only at h
        have hop' : (execOp a.eval o).run P w = .ok .recover w := hop
        rw [hop']
        simp only
        cases m with
        | pan v =>
          obtain ⟨uv, rfl, hv⟩ := hm
          simp only [recoverD]
          refine evOpsD_ok hV hcall rest (k + 1) hl' _ s' _ m' x h Γ0 w0 Γ (a.put o.dst uv) w c₀ cs (.panicking [{ v := uv, recovered := true }]) ⟨hr.st, fput_ok hr.fr o.dst hv, by rw [put_defers]; exact hr.df⟩ ⟨uv, rfl, hv⟩ he
        | ret =>
          have hu : u = .returning := hm
          subst hu
          simp only [recoverD]
          exact evOpsD_ok hV hcall rest (k + 1) hl' _ s' _ m' x h Γ0 w0 Γ (a.put o.dst .nilIface) w c₀ cs .returning ⟨hr.st, fput_ok hr.fr o.dst .nili, by rw [put_defers]; exact hr.df⟩ rfl he
        | recd v =>
          obtain ⟨uv, rfl, hv⟩ := hm
          simp only [recoverD]
          exact evOpsD_ok hV hcall rest (k + 1) hl' _ s' _ m' x h Γ0 w0 Γ (a.put o.dst .nilIface) w c₀ cs _ ⟨hr.st, fput_ok hr.fr o.dst .nili, by rw [put_defers]; exact hr.df⟩ ⟨uv, rfl, hv⟩ he
      · have h' : (match evOp P V call o s with
            | some (.normal, s') => evOpsD P V call ops rest s' m
            | some (x, s') => some (x, s', m)
            | none => none) = some (x, s', m') := by
          cases hao : aop P V s.fr s.h o <;> simp only [hao] at h <;> first | exact h | (exact absurd hao hrec)
        cases ho : evOp P V call o s with
        | none => rw [ho] at h'; cases h'
        | some q =>
          obtain ⟨y, s1⟩ := q
          rw [ho] at h'
          have hwp : o.wp P a w (fun a' w' => wpOpsS P ops (PostS Γ0 w0 x s' m' c₀ cs) (List.range' (k + 1) rest.length) a' ({ c₀ with mode := u } :: cs) w')
              (fun e a' w' => PostS Γ0 w0 x s' m' c₀ cs e a' ({ c₀ with mode := u } :: cs) w') := by
            refine evOp_ok hV hcall ho hr (fun hy Γ' a' w' hr' he' => ?_) (fun z hy Γ' a' w' v hr' he' hv => ?_)
            · subst hy
              exact evOpsD_ok hV hcall rest (k + 1) hl' s1 s' m m' x h' Γ0 w0 Γ' a' w' c₀ cs u hr' (hm.evo he') (he.trans he')
            · subst hy
              simp only [Option.some.injEq, Prod.mk.injEq] at h'
              obtain ⟨rfl, rfl, rfl⟩ := h'
              exact ⟨Γ', u, rfl, ⟨v, rfl, hv⟩, hr', hm.evo he', he.trans he'⟩
          unfold Oper.wp at hwp
          split
          · rename_i w' heq
            rw [heq] at hwp
            exact hwp.elim
          · exact hwp

theorem stepM_ok {P : Program} {V : Env} (hV : V.ok P) {evc : EvC} {evd : EvD} {call : CallF} (hcall : ∀ f args h, CallOK P f args h (call f args h)) (hc : CodeOK P evc) (hd : DOK P evd) : DOK P (stepM P V evc evd call) := by
  intro c s m x s' m' h Γ0 w0 Γ a w c₀ cs u hr hm he
  have plain : ∀ c, (match evc c s with
      | some (x, s') => some (x, s', m)
      | none => none) = some (x, s', m') → c.wpS P (PostS Γ0 w0 x s' m' c₀ cs) a ({ c₀ with mode := u } :: cs) w := by
    intro c h
    cases hb : evc c s with
    | none => rw [hb] at h; cases h
    | some q =>
      obtain ⟨y, s1⟩ := q
      rw [hb] at h
      simp only [Option.some.injEq, Prod.mk.injEq] at h
      obtain ⟨rfl, rfl, rfl⟩ := h
      refine wpS_of_wp (Code.wp_mono (fun e a' w' hq => ?_) (hc c s y s1 hb Γ w Γ a w hr (Evo.refl _ _)))
      obtain ⟨Γ', h1, h2, h3⟩ := hq
      exact ⟨Γ', u, rfl, h1, h2, hm.evo h3, he.trans h3⟩
  cases c with
  | seq p q =>
    simp only [stepM] at h
    cases hb : evd p s m with
    | none => rw [hb] at h; cases h
    | some r =>
      obtain ⟨y, s1, m1⟩ := r
      rw [hb] at h
      refine wpS_seq ?_
      intro b k hbk hbr
      obtain ⟨e, a', cs', w', ⟨Γ', u', h1, h2, h3, h4, h5⟩, harr⟩ := hd p s m y s1 m1 hb Γ0 w0 Γ a w c₀ cs u hr hm he b k hbk hbr
      refine ⟨e, a', cs', w', ?_, harr⟩
      by_cases hy : y = .normal
      · subst hy
        rw [show e = .normal from h2]
        simp only at h
        rw [h1]
        exact hd q s1 m1 x s' m' h Γ0 w0 Γ' a' w' c₀ cs u' h3 h4 h5
      · have h' : some (y, s1, m1) = some (x, s', m') := by
          cases y with
          | normal => exact absurd rfl hy
          | _ => exact h
        cases h'
        have hne : e ≠ .normal := fun e' => hy (h2.normal_iff.2 e')
        have hp : PostS Γ0 w0 x s' m' c₀ cs e a' cs' w' := ⟨Γ', u', h1, h2, h3, h4, h5⟩
        cases e with
        | normal => exact absurd rfl hne
        | _ => exact hp
  | cond o p q =>
    simp only [stepM] at h
    split at h
    · rename_i ho
      have hv := aeval_ok hr.fr ho
      generalize hov : a.eval o = v at hv
      cases hv
      exact wpS_cond hov (hd p s m x s' m' h Γ0 w0 Γ a w c₀ cs u hr hm he)
    · rename_i ho
      have hv := aeval_ok hr.fr ho
      generalize hov : a.eval o = v at hv
      cases hv
      exact wpS_cond hov (hd q s m x s' m' h Γ0 w0 Γ a w c₀ cs u hr hm he)
    · cases h
  | region id ops draw =>
    cases draw with
    | false =>
      simp only [stepM] at h
      refine wpS_region ?_
      have := evOpsD_ok hV hcall ops.toList 0 (by simp) s s' m m' x h Γ0 w0 Γ a w c₀ cs u hr hm he
      rw [List.range_eq_range', ← Array.length_toList]
      exact this
    | true => exact plain _ h
  | skip => exact plain _ h
  | label l => exact plain _ h
  | ret => exact plain _ h
  | exit id => exact plain _ h
  | block id body => exact plain _ h
  | loop body => exact plain _ h
  | scope body => exact plain _ h
  | rangeFunc f ps as b => exact plain _ h
  | goto l => exact plain _ h
  | refuse why => exact plain _ h

theorem ev_ok {P : Program} {V : Env} (hV : V.ok P) : ∀ n, CodeOK P (ev P V n).1 ∧ LoopOK P (ev P V n).1 ∧ DOK P (ev P V n).2
  | 0 => ⟨(fun c s x s' h => by cases h), (fun b s x s' h => by cases h), fun c s m x s' m' h => by cases h⟩
  | n + 1 => by
    obtain ⟨h1, h2, h3⟩ := ev_ok hV n
    have hcall := callWith_ok hV h1 (runWith_ok h3)
    exact ⟨stepC_ok hV hcall h1 h2, stepC_loop (V := V) (call := callWith P (ev P V n).1 (runWith P (ev P V n).2)) h1 h2, stepM_ok hV hcall h1 h3⟩

theorem evCall_ok {P : Program} {V : Env} (hV : V.ok P) (n : Nat) (f : FuncId) (args : List AV) (h : AH) : CallOK P f args h (evCall P V n f args h) :=
  callWith_ok hV (ev_ok hV n).1 (runWith_ok (ev_ok hV n).2.2) f args h

def AH.empty : AH := ⟨[], [], 1000000⟩

/-- The start: nothing of one's own. -/
def Ctx.start (O0 : Nat → Nat → Prop) : Ctx := ⟨O0, [], []⟩

theorem St.start {O0 : Nat → Nat → Prop} {w : World} (h : ∀ b i, O0 b i → b < w.heap.size) : St (Ctx.start O0) AH.empty w where
  len := rfl
  nodup := List.nodup_nil
  objs := fun k o b ho => by simp [AH.empty] at ho
  gl := rfl
  gblk := fun g gi hg => by simp [Ctx.start] at hg
  gdis := fun g g' gi gi' hg => by simp [Ctx.start] at hg
  gcell := fun g gi hg => by simp [Ctx.start] at hg
  o0r := fun b i _ hm => by simp [Ctx.start] at hm
  o0g := fun b i g gi _ hg => by simp [Ctx.start] at hg
  o0lt := h
  scope := fun k o ho => by simp [AH.empty] at ho

/-- A CLOSED CALL: a function without parameters whose abstract run returns a bool. -/
theorem closed_bool {P : Program} {V : Env} (hV : V.ok P) {n : Nat} {f : FuncId} {r : Bool} {h' : AH} (h : evCall P V n f [] AH.empty = .ret (.bool r) h') (w : World) :
    Calls P f #[] w fun e w' => e = .returned (.bool r) ∧ w.heap.size ≤ w'.heap.size ∧ ∀ b, b < w.heap.size → w'.heap[b]? = w.heap[b]? := by
  have := evCall_ok hV n f [] AH.empty
  rw [h] at this
  refine (this (Ctx.start fun _ _ => False) w #[] (St.start fun _ _ h => h.elim) ⟨rfl, by simp⟩).mono fun e w' hq => ?_
  obtain ⟨Γ', v, rfl, hv, _, he⟩ := hq
  cases hv
  exact ⟨rfl, he.size, fun b hb => he.obj b hb (by simp [Ctx.start]) (fun g gi hg => by simp [Ctx.start] at hg)⟩

end Go.Proofs.YtgikapdeekepiaaGreatDoor
