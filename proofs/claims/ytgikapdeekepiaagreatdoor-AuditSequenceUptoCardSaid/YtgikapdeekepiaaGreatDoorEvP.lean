/- Judgements without fuel, for open proofs: what a piece of code leaves, from an abstract state. -/
import Derived.Test.YtgikapdeekepiaaGreatDoorEvO
set_option linter.unusedSimpArgs false
namespace Go.Proofs.YtgikapdeekepiaaGreatDoor
open Go

theorem wp_loop_ind {P : Program} {Q : Exit → Act → World → Prop} {c : Code} {I : Nat → Act → World → Prop}
    (round : ∀ n a w, I n a w → c.wp P (Exit.then (fun a' w' => ∃ m, m < n ∧ I m a' w') Q) a w) (n : Nat) (a : Act) (w : World) (h : I n a w) : (Code.loop c).wp P Q a w := by
  intro b k cs
  have key : ∀ n a w, I n a w →
      ∃ e a' w', Q e a' w' ∧ Arrives P (lone (b.at a (.code c :: .inLoop c :: k)) cs w) b k cs e a' w' := by
    intro n
    induction n using Nat.strongRecOn with
    | _ n ih =>
      intro a w h
      obtain ⟨e, a₁, w₁, hq, harr⟩ := round n a w h b (.inLoop c :: k) cs
      cases e with
      | normal =>
        obtain ⟨m, hm, hi⟩ := hq
        obtain ⟨e₂, a₂, w₂, hq₂, harr₂⟩ := ih m hm a₁ w₁ hi
        exact ⟨e₂, a₂, w₂, hq₂, .of_steps (Steps.trans harr (.one step_inLoop)) harr₂⟩
      | exit id => exact ⟨_, a₁, w₁, hq, .pass (x := .inLoop c) rfl (fun _ _ => .inl (by simp)) harr⟩
      | goto l => exact ⟨_, a₁, w₁, hq, .pass (x := .inLoop c) rfl (fun _ _ => .inl (by simp)) harr⟩
      | ret => exact ⟨_, a₁, w₁, hq, .pass (x := .inLoop c) rfl (fun _ _ => .inl (by simp)) harr⟩
      | panic ch => exact ⟨_, a₁, w₁, hq, .pass (x := .inLoop c) rfl (fun _ _ => .inl (by simp)) harr⟩
      | outgrown => exact ⟨_, a₁, w₁, hq, .pass (x := .inLoop c) rfl (fun _ _ => .inl (by simp)) harr⟩
  obtain ⟨e, a', w', hq, harr⟩ := key n a w h
  exact ⟨e, a', w', hq, .of_steps (.one step_loop) harr⟩

/-- What a piece of code leaves; n0: how many own objects there were when the function began. -/
def Run (P : Program) (n0 : Nat) (c : Code) (s : AS) (Q : AX → AS → Prop) : Prop :=
  ∀ Γ0 w0 Γ a w, (Γ0.ρ.length ≤ n0 ∧ Γ0.G.length ≤ n0) → Rel Γ s a w → Evo Γ0 w0 Γ w → c.wp P (fun e a' w' => ∃ x s', Q x s' ∧ PostQ Γ0 w0 x s' e a' w') a w

section
variable {P : Program} {n0 : Nat} {s : AS} {Q : AX → AS → Prop}

theorem Run.mono {c : Code} {R : AX → AS → Prop} (h : Run P n0 c s R) (hq : ∀ x s', R x s' → Q x s') : Run P n0 c s Q := by
  intro Γ0 w0 Γ a w hn hr he
  refine Code.wp_mono (fun e a' w' h' => ?_) (h Γ0 w0 Γ a w hn hr he)
  obtain ⟨x, s', h1, h2⟩ := h'
  exact ⟨x, s', hq x s' h1, h2⟩

theorem Run.of_ev {evc : EvC} (hc : CodeOK P evc) {c : Code} {x : AX} {s' : AS} (h : evc c s = some (x, s')) (hq : Q x s') : Run P n0 c s Q := by
  intro Γ0 w0 Γ a w hn hr he
  exact Code.wp_mono (fun e a' w' h' => ⟨x, s', hq, h'⟩) (hc c s x s' h Γ0 w0 Γ a w hr he)

theorem Run.skip (hq : Q .normal s) : Run P n0 .skip s Q := fun Γ0 w0 Γ a w _ hr he => wp_skip ⟨_, _, hq, Γ, rfl, hr, he⟩

theorem Run.label {l : Nat} (hq : Q .normal s) : Run P n0 (.label l) s Q := fun Γ0 w0 Γ a w _ hr he => wp_label ⟨_, _, hq, Γ, rfl, hr, he⟩

theorem Run.ret (hq : Q .ret s) : Run P n0 .ret s Q := fun Γ0 w0 Γ a w _ hr he => wp_ret ⟨_, _, hq, Γ, rfl, hr, he⟩

theorem Run.exit {id : Nat} (hq : Q (.exit id) s) : Run P n0 (.exit id) s Q := fun Γ0 w0 Γ a w _ hr he => wp_exit ⟨_, _, hq, Γ, rfl, hr, he⟩

/-- From one piece to the next one. -/
def andThen (K : AS → Prop) (Q : AX → AS → Prop) : AX → AS → Prop
  | .normal, s => K s
  | x, s => Q x s

theorem then_run {Γ0 : Ctx} {w0 : World} {K : Act → World → Prop} {KS : AS → Prop} {Q' : Exit → Act → World → Prop} {e : Exit} {a : Act} {w : World}
    (h : ∃ x s', andThen KS Q x s' ∧ PostQ Γ0 w0 x s' e a w) (hn : ∀ s' Γ', KS s' → Rel Γ' s' a w → Evo Γ0 w0 Γ' w → K a w)
    (hq : ∀ x s', Q x s' → PostQ Γ0 w0 x s' e a w → Q' e a w) : Exit.then K Q' e a w := by
  obtain ⟨x, s', h1, h2⟩ := h
  refine then_of h2 (fun hx Γ' h3 h4 => ?_) (fun hx => ?_)
  · subst hx; exact hn s' Γ' h1 h3 h4
  · refine hq x s' ?_ h2
    cases x with
    | normal => exact absurd rfl hx
    | _ => exact h1

theorem Run.seq {p q : Code} (h : Run P n0 p s (andThen (fun s1 => Run P n0 q s1 Q) Q)) : Run P n0 (.seq p q) s Q := by
  intro Γ0 w0 Γ a w hn hr he
  refine wp_seq (Code.wp_mono (fun e a' w' h' => ?_) (h Γ0 w0 Γ a w hn hr he))
  exact then_run h' (fun s' Γ' h1 h2 h3 => h1 Γ0 w0 Γ' a' w' hn h2 h3) (fun x s' h1 h2 => ⟨x, s', h1, h2⟩)

theorem Run.cond {o : Operand} {p q : Code} (b : Bool) (ho : aeval s.fr o = some (.bool b)) (ht : b = true → Run P n0 p s Q) (hf : b = false → Run P n0 q s Q) : Run P n0 (.cond o p q) s Q := by
  intro Γ0 w0 Γ a w hn hr he
  have hv := aeval_ok hr.fr ho
  generalize hov : a.eval o = v at hv
  cases hv
  cases b with
  | true => exact wp_cond_true hov (ht rfl Γ0 w0 Γ a w hn hr he)
  | false => exact wp_cond_false hov (hf rfl Γ0 w0 Γ a w hn hr he)

def inBlk (id : Nat) (Q : AX → AS → Prop) : AX → AS → Prop
  | .exit id', s => Q (if id' = id then .normal else .exit id') s
  | x, s => Q x s

theorem Run.block {id : Nat} {body : Code} (h : Run P n0 body s (inBlk id Q)) : Run P n0 (.block id body) s Q := by
  intro Γ0 w0 Γ a w hn hr he
  refine wp_block (Code.wp_mono (fun e a' w' hq => ?_) (h Γ0 w0 Γ a w hn hr he))
  obtain ⟨y, s1, hQ, Γ', h1, h2, h3⟩ := hq
  cases y with
  | exit id' =>
    rw [show e = .exit id' from h1]
    simp only [Exit.inBlock]
    by_cases hid : id' = id
    · rw [if_pos hid]; exact ⟨.normal, s1, by simpa [inBlk, hid] using hQ, Γ', rfl, h2, h3⟩
    · rw [if_neg hid]; exact ⟨.exit id', s1, by simpa [inBlk, hid] using hQ, Γ', rfl, h2, h3⟩
  | normal => rw [show e = .normal from h1]; exact ⟨_, s1, hQ, Γ', rfl, h2, h3⟩
  | ret => rw [show e = .ret from h1]; exact ⟨_, s1, hQ, Γ', rfl, h2, h3⟩
  | panic v =>
    obtain ⟨u, rfl, hv⟩ := h1
    exact ⟨_, s1, hQ, Γ', ⟨u, rfl, hv⟩, h2, h3⟩

theorem Run.loop {body : Code} (Inv : Nat → AS → Prop) (round : ∀ n s, Inv n s → Run P n0 body s (andThen (fun s1 => ∃ m, m < n ∧ Inv m s1) Q)) (n : Nat) (h : Inv n s) : Run P n0 (.loop body) s Q := by
  intro Γ0 w0 Γ a w hn hr he
  refine wp_loop_ind (I := fun n a w => ∃ s Γ, Inv n s ∧ Rel Γ s a w ∧ Evo Γ0 w0 Γ w) (fun n a w hI => ?_) n a w ⟨s, Γ, h, hr, he⟩
  obtain ⟨s1, Γ1, h1, h2, h3⟩ := hI
  refine Code.wp_mono (fun e a' w' h' => ?_) (round n s1 h1 Γ0 w0 Γ1 a w hn h2 h3)
  exact then_run h' (fun s' Γ' ⟨m, g1, g2⟩ g3 g4 => ⟨m, g1, s', Γ', g2, g3, g4⟩) (fun x s' h1 h2 => ⟨x, s', h1, h2⟩)

theorem Run.scope {body : Code} (h : Run P n0 body s Q) : Run P n0 (.scope body) s Q := by
  intro Γ0 w0 Γ a w hn hr he
  refine wp_scope_straight (Code.wp_mono (fun e a' w' hq => ?_) (h Γ0 w0 Γ a w hn hr he))
  have hq0 := hq
  obtain ⟨x, s', hQ, Γ', h1, h2, h3⟩ := hq
  cases e with
  | goto l =>
    cases x with
    | normal => cases h1
    | exit id => cases h1
    | ret => cases h1
    | panic v => obtain ⟨u, h4, _⟩ := h1; cases h4
  | _ => exact hq0

/-- A piece without loops: the evaluator's own answer. -/
theorem Run.step {V : Env} (hV : V.ok P) {call : CallF} (hcall : ∀ f args h, CallOK P f args h (call f args h)) {id : Nat} {ops : Array Oper} {d : Bool} {x : AX} {s' : AS}
    (h : stepC P V (fun _ _ => none) call (.region id ops d) s = some (x, s')) (hq : Q x s') : Run P n0 (.region id ops d) s Q :=
  Run.of_ev (stepC_ok hV hcall (fun c s x s' h => by cases h) (fun b s x s' h => by cases h)) h hq

end

/-- Of one fact an oracle. -/
noncomputable def orc (f : FuncId) (args : List AV) (h : AH) (o : Out) (rest : CallF) : CallF := fun f' args' h' =>
  open Classical in if f' = f ∧ args' = args ∧ h' = h then o else rest f' args' h'

theorem orc_ok {P : Program} {f : FuncId} {args : List AV} {h : AH} {o : Out} {rest : CallF} (ho : CallOK P f args h o) (hr : ∀ f args h, CallOK P f args h (rest f args h)) :
    ∀ f' args' h', CallOK P f' args' h' (orc f args h o rest f' args' h') := by
  intro f' args' h'
  unfold orc
  split
  · rename_i hc
    obtain ⟨rfl, rfl, rfl⟩ := hc
    exact ho
  · exact hr f' args' h'

theorem orc_self (f : FuncId) (args : List AV) (h : AH) (o : Out) (rest : CallF) : orc f args h o rest f args h = o := by
  unfold orc
  rw [if_pos ⟨rfl, rfl, rfl⟩]

def noCalls : CallF := fun _ _ _ => .bad

theorem noCalls_ok {P : Program} : ∀ f args h, CallOK P f args h (noCalls f args h) := fun _ _ _ => trivial

/-! Growing identities are forgotten too. -/

/-- The same value, said with less. -/
inductive LeAV : AV → AV → Prop
  | refl (x : AV) : LeAV x x
  | slc (sk : SK) (E : Nat) (es : List (List AV)) : LeAV (.slc sk E es) (.slc .r E es)
  | agg {cs cs' : List AV} (hl : cs.length = cs'.length) (h : ∀ (i : Nat) c c', cs[i]? = some c → cs'[i]? = some c' → LeAV c c') : LeAV (.agg cs) (.agg cs')
  | tuple {cs cs' : List AV} (hl : cs.length = cs'.length) (h : ∀ (i : Nat) c c', cs[i]? = some c → cs'[i]? = some c' → LeAV c c') : LeAV (.tuple cs) (.tuple cs')

theorem VR.le {Γ : Ctx} {w : World} {x y : AV} {v : Value} (hl : LeAV x y) (hx : VR Γ w x v) : VR Γ w y v := by
  induction hl generalizing v with
  | refl x => exact hx
  | slc sk E es =>
    cases hx with
    | slcR h0 => exact .slcR h0
    | slcX => exact .slcR (fun _ => rfl)
    | slc val hsk hcap hE hc hu hv => exact .slc val trivial hcap hE hc hu hv
  | agg hl h ih =>
    cases hx with
    | agg h1 hv =>
      refine .agg (by omega) fun i c' v hc' hv' => ?_
      obtain ⟨c, hc⟩ := List.getElem?_eq_some_iff.1 hc' |>.1 |> fun hlt => (⟨_, List.getElem?_eq_getElem (by rw [hl]; exact hlt)⟩ : ∃ c, _ = some c)
      exact ih i c c' hc hc' (hv i c v hc hv')
  | tuple hl h ih =>
    cases hx with
    | tuple h1 hv =>
      refine .tuple (by omega) fun i c' v hc' hv' => ?_
      obtain ⟨c, hc⟩ := List.getElem?_eq_some_iff.1 hc' |>.1 |> fun hlt => (⟨_, List.getElem?_eq_getElem (by rw [hl]; exact hlt)⟩ : ∃ c, _ = some c)
      exact ih i c c' hc hc' (hv i c v hc hv')

def SK.below (m : Nat) : SK → Prop
  | .g i => i < m
  | _ => True

/-- It bears the first m identities alone. -/
inductive SG (m : Nat) : AV → Prop
  | flat {x : AV} (h : x.flat = true) : SG m x
  | ptr {k off : Nat} : SG m (.ptr k off)
  | sl {k off n : Nat} : SG m (.sl k off n)
  | map {k : Nat} : SG m (.map k)
  | rptr {cs : List AV} (h : ∀ c ∈ cs, SG m c) : SG m (.rptr cs)
  | slc {sk : SK} {E : Nat} {es : List (List AV)} (hk : sk.below m) (h : ∀ e ∈ es, ∀ c ∈ e, SG m c) : SG m (.slc sk E es)
  | func {fn : Fn} {fi ca : List AV} (h1 : ∀ c ∈ fi, SG m c) (h2 : ∀ c ∈ ca, SG m c) : SG m (.func fn fi ca)
  | iface {t : TypeId} {x : AV} (h : SG m x) : SG m (.iface t x)
  | agg {cs : List AV} (h : ∀ c ∈ cs, SG m c) : SG m (.agg cs)
  | tuple {cs : List AV} (h : ∀ c ∈ cs, SG m c) : SG m (.tuple cs)

inductive SGO (m : Nat) : AObj → Prop
  | cells {cs : List AV} (h : ∀ c ∈ cs, SG m c) : SGO m (.cells cs)
  | map {es : List (AV × AV)} (h : ∀ p ∈ es, SG m p.1 ∧ SG m p.2) : SGO m (.map es)

theorem VR.sg {Γ : Ctx} {w : World} {x : AV} {v : Value} (h : VR Γ w x v) : SG Γ.G.length x := by
  have arr : ∀ {cs : List AV} {a : Array Value}, a.size = cs.length → (∀ (i : Nat) c v, cs[i]? = some c → a[i]? = some v → SG Γ.G.length c) → ∀ c ∈ cs, SG Γ.G.length c := by
    intro cs a hs hv c hc
    obtain ⟨i, hi⟩ := mem_get hc
    have hlt : i < a.size := by rw [hs]; exact (List.getElem?_eq_some_iff.1 hi).1
    exact hv i c a[i] hi (by simp [hlt])
  induction h with
  | ptr hk => exact .ptr
  | sl hk hc => exact .sl
  | map hk => exact .map
  | rptr val hc hu hv ih => exact .rptr fun c hcc => by obtain ⟨i, hi⟩ := mem_get hcc; exact ih i c hi
  | slcR _ => exact .slc trivial fun e he => by simp at he
  | slcX => exact .slc trivial fun e he => by simp at he
  | slc val hsk hcap hE hc hu hv ih =>
    refine .slc ?_ ?_
    · rename_i sk _ _ _ _ _
      cases sk with
      | g i => obtain ⟨gi, hg, _⟩ := hsk; exact (List.getElem?_eq_some_iff.1 hg).1
      | _ => trivial
    · intro e he c hcc
      obtain ⟨i, hi⟩ := mem_get he
      obtain ⟨j, hj⟩ := mem_get hcc
      exact ih i j e c hi hj
  | func h1 h2 hf hv ihf ihv => exact .func (arr h1 ihf) (arr h2 ihv)
  | iface hx ih => exact .iface ih
  | agg h1 hv ih => exact .agg (arr h1 ih)
  | tuple h1 hv ih => exact .tuple (arr h1 ih)
  | _ => exact .flat rfl

theorem ObjR.sg {Γ : Ctx} {w : World} {o : AObj} {b : Nat} (h : ObjR Γ w o b) : SGO Γ.G.length o := by
  cases h with
  | cells hb hs hv =>
    refine .cells fun c hc => ?_
    obtain ⟨i, hi⟩ := mem_get hc
    have hlt : i < Array.size ‹Array Value› := by rw [hs]; exact (List.getElem?_eq_some_iff.1 hi).1
    exact (hv i c _ hi (by simp [hlt]; rfl)).sg
  | map hb hs hv =>
    refine .map fun p hp => ?_
    obtain ⟨i, hi⟩ := mem_get hp
    have hlt : i < Array.size ‹Array MapEntry› := by rw [hs]; exact (List.getElem?_eq_some_iff.1 hi).1
    have := hv i p _ hi (by simp [hlt]; rfl)
    exact ⟨this.1.sg, this.2.sg⟩

def Ctx.cutG (Γ : Ctx) (m : Nat) : Ctx := { Γ with G := Γ.G.take m }

def AH.cutG (h : AH) (m : Nat) : AH := { h with gl := h.gl.take m }

theorem unst_cutG {Γ : Ctx} {m b i : Nat} (h : (Γ.cutG m).unst b i) : Γ.unst b i := by
  rcases h with h | h | ⟨g, gi, hg, h⟩
  · exact .inl h
  · exact .inr (.inl h)
  · exact .inr (.inr ⟨g, gi, (take_get hg).1, h⟩)

theorem SKok.cutG {Γ : Ctx} {m n b off cap E : Nat} {sk : SK} (h : SKok Γ n b off cap E sk) (hk : sk.below m) : SKok (Γ.cutG m) n b off cap E sk := by
  cases sk with
  | g i =>
    obtain ⟨gi, hg, h1⟩ := h
    have hk' : i < m := hk
    exact ⟨gi, by simp only [Ctx.cutG, List.getElem?_take]; rw [if_pos hk']; exact hg, h1⟩
  | r => exact h
  | x => exact h

theorem VR.cutG {Γ : Ctx} {w : World} {n : Nat} {x : AV} {v : Value} (hx : VR Γ w x v) (hn : SG n x) : VR (Γ.cutG n) w x v := by
  induction hx with
  | bool b => exact .bool b
  | int k n => exact .int k n
  | float k n => exact .float k n
  | str s => exact .str s
  | nilp => exact .nilp
  | nilm => exact .nilm
  | nilf => exact .nilf
  | nili => exact .nili
  | nils => exact .nils
  | ptr hk => exact .ptr hk
  | sl hk hc => exact .sl hk hc
  | map hk => exact .map hk
  | rptr val hc hu hv ih =>
    cases hn with
    | rptr h => exact .rptr val hc (fun j c hj hU => hu j c hj (unst_cutG hU)) (fun j c hj => ih j c hj (h c (List.mem_iff_getElem?.2 ⟨j, hj⟩)))
    | flat h => cases h
  | slcR h0 => exact .slcR h0
  | slcX => exact .slcX
  | slc val hsk hcap hE hc hu hv ih =>
    cases hn with
    | slc hk h =>
      exact .slc val (hsk.cutG hk) hcap hE hc (fun i j e c hi hj hU => hu i j e c hi hj (unst_cutG hU))
        (fun i j e c hi hj => ih i j e c hi hj (h e (List.mem_iff_getElem?.2 ⟨i, hi⟩) c (List.mem_iff_getElem?.2 ⟨j, hj⟩)))
    | flat h => cases h
  | func h1 h2 hf hv ihf ihv =>
    cases hn with
    | func a b => exact .func h1 h2 (fun i c v hc hv => ihf i c v hc hv (a c (List.mem_iff_getElem?.2 ⟨i, hc⟩))) (fun i c v hc hv => ihv i c v hc hv (b c (List.mem_iff_getElem?.2 ⟨i, hc⟩)))
    | flat h => cases h
  | iface hx ih => cases hn with | iface h => exact .iface (ih h) | flat h => cases h
  | agg h1 hv ih =>
    cases hn with
    | agg a => exact .agg h1 (fun i c v hc hv => ih i c v hc hv (a c (List.mem_iff_getElem?.2 ⟨i, hc⟩)))
    | flat h => cases h
  | tuple h1 hv ih =>
    cases hn with
    | tuple a => exact .tuple h1 (fun i c v hc hv => ih i c v hc hv (a c (List.mem_iff_getElem?.2 ⟨i, hc⟩)))
    | flat h => cases h

theorem ObjR.cutG {Γ : Ctx} {w : World} {n : Nat} {o : AObj} {b : Nat} (ho : ObjR Γ w o b) (hn : SGO n o) : ObjR (Γ.cutG n) w o b := by
  cases ho with
  | cells h1 h2 h3 => cases hn with | cells h => exact .cells h1 h2 (fun i x v a c => (h3 i x v a c).cutG (h x (List.mem_iff_getElem?.2 ⟨i, a⟩)))
  | map h1 h2 h3 =>
    cases hn with
    | map h => exact .map h1 h2 (fun i p e a c => ⟨(h3 i p e a c).1.cutG (h p (List.mem_iff_getElem?.2 ⟨i, a⟩)).1, (h3 i p e a c).2.cutG (h p (List.mem_iff_getElem?.2 ⟨i, a⟩)).2⟩)

theorem St.cutG {Γ : Ctx} {h : AH} {w : World} (hs : St Γ h w) {n : Nat} (hn : ∀ (k : Nat) o, h.objs[k]? = some o → SGO n o) : St (Γ.cutG n) (h.cutG n) w where
  len := hs.len
  nodup := hs.nodup
  objs := fun k o b ho hk => (hs.objs k o b ho hk).cutG (hn k o ho)
  gl := by simp only [AH.cutG, Ctx.cutG, List.map_take, hs.gl]
  gblk := fun g gi hg hm => hs.gblk g gi (take_get hg).1 hm
  gdis := fun g g' gi gi' hg hg' => hs.gdis g g' gi gi' (take_get hg).1 (take_get hg').1
  gcell := fun g gi hg => hs.gcell g gi (take_get hg).1
  o0r := hs.o0r
  o0g := fun b i g gi hb hg => hs.o0g b i g gi hb (take_get hg).1
  o0lt := hs.o0lt
  scope := hs.scope

theorem Evo.cutG {Γ Γ' : Ctx} {w w' : World} (h : Evo Γ w Γ' w') {n : Nat} (hn : Γ.G.length ≤ n) : Evo Γ w (Γ'.cutG n) w' where
  size := h.size
  o0 := h.o0
  rho := h.rho
  gs := fun g gi hg => by
    obtain ⟨gi', h1, h2⟩ := h.gs g gi hg
    have hlt := (List.getElem?_eq_some_iff.1 hg).1
    exact ⟨gi', by simp only [Ctx.cutG, List.getElem?_take]; rw [if_pos (by omega)]; exact h1, h2⟩
  obj := h.obj
  cell := h.cell
  newU := fun b i hb hu => h.newU b i hb (unst_cutG hu)
  newR := h.newR
  newG := fun g gi hg hb => h.newG g gi (take_get hg).1 hb
  io := h.io

/-- What a function without defers must leave. -/
structure Ends (P : Program) (fn : Func) (h : AH) (r : AV) (h' : AH) (x : AX) (s : AS) : Prop where
  x : x = .normal ∨ x = .ret
  df : s.df = []
  res : ∃ r0, aresults P fn s.fr s.h = some r0 ∧ LeAV r0 r
  h' : h'.objs = s.h.objs.take h.objs.length ∧ h'.gl = s.h.gl.take h.gl.length ∧ h'.esc ≤ s.h.esc
  esc : h.objs.length ≤ s.h.esc
  sc : Sc h.objs.length r
  sg : SG h.gl.length r
  os : ∀ (k : Nat) o, k < h.objs.length → s.h.objs[k]? = some o → h.objs[k]? = some o ∨ SGO h.gl.length o

/-- A function without defers: from its body's judgement to its contract. -/
theorem CallOK.of_run {P : Program} {f : FuncId} {fn : Func} {c : Code} {args : List AV} {h : AH} {r : AV} {h' : AH} (hf : P.funcs[f]? = some fn) (hb : fn.body = some c)
    (hr : Run P (max h.objs.length h.gl.length) c ⟨enterFr fn args, [], h⟩ (Ends P fn h r h')) : CallOK P f args h (.ret r h') := by
  intro Γ w vs hs hargs
  refine calls_of_wp_defers hf hb ?_
  refine Code.wp_mono (fun e a' w' hq => ?_) (hr Γ w Γ { tmps := vs ++ Array.replicate (fn.ntmps - vs.size) undef, defers := [] } w ⟨by rw [hs.len]; exact Nat.le_max_left _ _, by rw [show h.gl.length = Γ.G.length from by rw [hs.gl]; simp]; exact Nat.le_max_right _ _⟩ ⟨hs, enter_FR hargs fn, trivial⟩ (Evo.refl _ _))
  obtain ⟨x, s, ⟨hx, hdf, ⟨r0, hres, hle⟩, hht, hesc, hsc, hsg, hos⟩, Γ', h1, h2, h3⟩ := hq
  have hd : a'.defers = [] := by
    have := h2.df
    rw [hdf] at this
    cases hde : a'.defers with
    | nil => rfl
    | cons d ds => rw [hde] at this; exact this.elim
  obtain ⟨v, hv1, hv2⟩ := aresults_ok h2.st h2.fr hres
  have hgl : h.gl.length = Γ.G.length := by rw [hs.gl]; simp
  have st1 := h2.st.trunc hesc
  have st' := st1.cutG (n := h.gl.length) (fun k o ho => by
    obtain ⟨h4, h5⟩ := take_get ho
    rcases hos k o h5 h4 with h6 | h6
    · have hlt : k < Γ.ρ.length := by rw [← hs.len]; exact h5
      rw [hgl]
      exact (hs.objs k o _ h6 (List.getElem?_eq_getElem hlt)).sg
    · exact h6)
  have st' := st'.lower (e := h'.esc) hht.2.2
  have hh : ({ (s.h.trunc h.objs.length).cutG h.gl.length with esc := h'.esc } : AH) = h' := by
    obtain ⟨o, g, e⟩ := h'
    simp only [AH.trunc, AH.cutG, AH.mk.injEq, and_true]
    exact ⟨hht.1.symm, hht.2.1.symm⟩
  rw [hh] at st'
  have fin : Leaves P fn a'.tmps (fun e w' => ∃ Γ' v, e = .returned v ∧ VR Γ' w' r v ∧ St Γ' h' w' ∧ Evo Γ w Γ' w') a'.defers .returning w' := by
    rw [hd]
    exact ⟨v, hv1, (Γ'.trunc h.objs.length).cutG h.gl.length, v, rfl, ((hv2.le hle).trunc hsc).cutG hsg, st', (h3.trunc (by rw [hs.len]; exact Nat.le_refl _)).cutG (by rw [hgl]; exact Nat.le_refl _)⟩
  rcases hx with rfl | rfl
  · rw [show e = .normal from h1]; exact fin
  · rw [show e = .ret from h1]; exact fin

end Go.Proofs.YtgikapdeekepiaaGreatDoor
