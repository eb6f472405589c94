/- The frame: a contract that is proved from an empty abstract memory serves at any. -/
import Derived.Test.YtgikapdeekepiaaGreatDoorEvP
set_option linter.unusedSimpArgs false
namespace Go.Proofs.YtgikapdeekepiaaGreatDoor
open Go

/-- All that is unstable is somebody else's. -/
def Ctx.shut (Γ : Ctx) : Ctx := ⟨Γ.unst, [], []⟩

theorem unst_shut {Γ : Ctx} {b i : Nat} : (Γ.shut).unst b i ↔ Γ.unst b i := by
  constructor
  · rintro (h | h | ⟨g, gi, hg, _⟩)
    · exact h
    · simp [Ctx.shut] at h
    · simp [Ctx.shut] at hg
  · exact .inl

/-- A value that leads to no object of one's own and bears no identity: what is unstable decides alone. -/
theorem VR.same_unst {Γ Γ' : Ctx} {w : World} {x : AV} {v : Value} (hu : ∀ b i, Γ'.unst b i → Γ.unst b i) (hx : VR Γ w x v) (hn : Sc 0 x) (hg : SG 0 x) : VR Γ' w x v := by
  induction hx with
  | bool b => exact .bool b
  | int k n => exact .int k n
  | float k n => exact .float k n
  | str s => exact .str s
  | nilp => exact .nilp
  | nilm => exact .nilm
  | nilf => exact .nilf
  | nili => exact .nili
  | nils => exact .nils
  | ptr hk => cases hn with | ptr h => exact absurd h (Nat.not_lt_zero _) | flat h => cases h
  | sl hk hc => cases hn with | sl h => exact absurd h (Nat.not_lt_zero _) | flat h => cases h
  | map hk => cases hn with | map h => exact absurd h (Nat.not_lt_zero _) | flat h => cases h
  | rptr val hc hu' hv ih =>
    cases hn with
    | rptr h =>
      cases hg with
      | rptr g =>
        exact .rptr val hc (fun j c hj hU => hu' j c hj (hu _ _ hU)) (fun j c hj => ih j c hj (h c (List.mem_iff_getElem?.2 ⟨j, hj⟩)) (g c (List.mem_iff_getElem?.2 ⟨j, hj⟩)))
      | flat h => cases h
    | flat h => cases h
  | slcR h0 => exact .slcR h0
  | slcX => exact .slcX
  | slc val hsk hcap hE hc hu' hv ih =>
    cases hn with
    | slc h =>
      cases hg with
      | slc hk g =>
        refine .slc val ?_ hcap hE hc (fun i j e c hi hj hU => hu' i j e c hi hj (hu _ _ hU))
          (fun i j e c hi hj => ih i j e c hi hj (h e (List.mem_iff_getElem?.2 ⟨i, hi⟩) c (List.mem_iff_getElem?.2 ⟨j, hj⟩)) (g e (List.mem_iff_getElem?.2 ⟨i, hi⟩) c (List.mem_iff_getElem?.2 ⟨j, hj⟩)))
        rename_i sk _ _ _ _ _
        cases sk with
        | g i => exact absurd hk (Nat.not_lt_zero _)
        | r => exact hsk
        | x => exact hsk
      | flat h => cases h
    | flat h => cases h
  | func h1 h2 hf hv ihf ihv =>
    cases hn with
    | func a b =>
      cases hg with
      | func a' b' => exact .func h1 h2 (fun i c v hc hv => ihf i c v hc hv (a c (List.mem_iff_getElem?.2 ⟨i, hc⟩)) (a' c (List.mem_iff_getElem?.2 ⟨i, hc⟩))) (fun i c v hc hv => ihv i c v hc hv (b c (List.mem_iff_getElem?.2 ⟨i, hc⟩)) (b' c (List.mem_iff_getElem?.2 ⟨i, hc⟩)))
      | flat h => cases h
    | flat h => cases h
  | iface hx ih =>
    cases hn with
    | iface h => cases hg with | iface g => exact .iface (ih h g) | flat h => cases h
    | flat h => cases h
  | agg h1 hv ih =>
    cases hn with
    | agg a =>
      cases hg with
      | agg a' => exact .agg h1 (fun i c v hc hv => ih i c v hc hv (a c (List.mem_iff_getElem?.2 ⟨i, hc⟩)) (a' c (List.mem_iff_getElem?.2 ⟨i, hc⟩)))
      | flat h => cases h
    | flat h => cases h
  | tuple h1 hv ih =>
    cases hn with
    | tuple a =>
      cases hg with
      | tuple a' => exact .tuple h1 (fun i c v hc hv => ih i c v hc hv (a c (List.mem_iff_getElem?.2 ⟨i, hc⟩)) (a' c (List.mem_iff_getElem?.2 ⟨i, hc⟩)))
      | flat h => cases h
    | flat h => cases h

theorem unst_lt {Γ : Ctx} {h : AH} {w : World} (hs : St Γ h w) {b i : Nat} (hu : Γ.unst b i) : b < w.heap.size := by
  rcases hu with hu | hu | ⟨g, gi, hg, rfl, _⟩
  · exact hs.o0lt b i hu
  · obtain ⟨k, hk⟩ := List.mem_iff_getElem?.1 hu
    exact rho_lt hs hk
  · exact glk_lt hs hg

/-- Only new blocks came. -/
theorem evo_new {Γ : Ctx} {w w' : World} (hsz : w.heap.size ≤ w'.heap.size) (hold : ∀ b, b < w.heap.size → w'.heap[b]? = w.heap[b]?) (hio : w'.os = w.os ∧ w'.output = w.output) : Evo Γ w Γ w' where
  io := hio
  size := hsz
  o0 := rfl
  rho := fun _ _ h => h
  gs := fun _ gi h => ⟨gi, h, Nat.le_refl _, fun _ => rfl⟩
  obj := fun b hb _ _ => hold b hb
  cell := fun b i v hc _ => by
    have := hold b (cell_lt hc)
    unfold World.cell? at *
    simp only at *
    rw [this]; exact hc
  newU := fun _ _ _ h => h
  newR := fun _ _ h => h
  newG := fun g gi h _ => ⟨g, gi, h, rfl⟩

theorem St.new {Γ : Ctx} {h : AH} {w w' : World} (hs : St Γ h w) (hsz : w.heap.size ≤ w'.heap.size) (hold : ∀ b, b < w.heap.size → w'.heap[b]? = w.heap[b]?) (hio : w'.os = w.os ∧ w'.output = w.output) : St Γ h w' where
  len := hs.len
  nodup := hs.nodup
  objs := fun k ob b ho hk => (hs.objs k ob b ho hk).evo (evo_new hsz hold hio) (hold b (rho_lt hs hk))
  gl := hs.gl
  gblk := hs.gblk
  gdis := hs.gdis
  gcell := fun g gi hg => by rw [hold _ (glk_lt hs hg)]; exact hs.gcell g gi hg
  o0r := hs.o0r
  o0g := hs.o0g
  o0lt := fun b i h => Nat.lt_of_lt_of_le (hs.o0lt b i h) hsz
  scope := hs.scope

theorem CallOK.frame {P : Program} {f : FuncId} {args : List AV} {r : AV} {h0 : AH} (hc : CallOK P f args AH.empty (.ret r h0)) (ha : ∀ x ∈ args, Sc 0 x ∧ SG 0 x) (hr : Sc 0 r ∧ SG 0 r) (h : AH) :
    CallOK P f args h (.ret r h) := by
  intro Γ w vs hs hargs
  have hst : St Γ.shut AH.empty w := St.start (O0 := Γ.unst) fun b i hu => unst_lt hs hu
  refine (hc Γ.shut w vs hst ⟨hargs.1, fun i x v hx hv => ?_⟩).mono fun e w' hq => ?_
  · have hm := ha x (List.mem_iff_getElem?.2 ⟨i, hx⟩)
    exact (hargs.2 i x v hx hv).same_unst (fun b i hu => unst_shut.1 hu) hm.1 hm.2
  · obtain ⟨Γ', v, rfl, hv, hs', he⟩ := hq
    have hold : ∀ b, b < w.heap.size → w'.heap[b]? = w.heap[b]? := fun b hb => he.obj b hb (by simp [Ctx.shut]) (fun g gi hg => by simp [Ctx.shut] at hg)
    refine ⟨Γ, v, rfl, hv.same_unst (fun b i hu => ?_) hr.1 hr.2, hs.new he.size hold he.io, evo_new he.size hold he.io⟩
    exact .inl (by rw [he.o0]; exact hu)

/-- It leads to no object of one's own and bears no identity. -/
def Pure (x : AV) : Prop := Sc 0 x ∧ SG 0 x

theorem Pure.flat {x : AV} (h : x.flat = true) : Pure x := ⟨.flat h, .flat h⟩

theorem Pure.agg {cs : List AV} (h : ∀ c ∈ cs, Pure c) : Pure (.agg cs) := ⟨.agg fun c hc => (h c hc).1, .agg fun c hc => (h c hc).2⟩

theorem Pure.tuple {cs : List AV} (h : ∀ c ∈ cs, Pure c) : Pure (.tuple cs) := ⟨.tuple fun c hc => (h c hc).1, .tuple fun c hc => (h c hc).2⟩

theorem Pure.rptr {cs : List AV} (h : ∀ c ∈ cs, Pure c) : Pure (.rptr cs) := ⟨.rptr fun c hc => (h c hc).1, .rptr fun c hc => (h c hc).2⟩

theorem Pure.slc {E : Nat} {es : List (List AV)} (h : ∀ e ∈ es, ∀ c ∈ e, Pure c) : Pure (.slc .r E es) := ⟨.slc fun e he c hc => (h e he c hc).1, .slc trivial fun e he c hc => (h e he c hc).2⟩

theorem CallOK.frame' {P : Program} {f : FuncId} {args : List AV} {r : AV} {h0 : AH} (hc : CallOK P f args AH.empty (.ret r h0)) (ha : ∀ x ∈ args, Pure x) (hr : Pure r) (h : AH) : CallOK P f args h (.ret r h) :=
  hc.frame ha hr h

/-- The memory behind a call from an empty one. -/
def AH.nil : AH := ⟨[], [], 0⟩

/-- A function that hands back a plain value. -/
theorem Ends.flat {P : Program} {fn : Func} {r : AV} {x : AX} {s : AS} (hx : x = .normal ∨ x = .ret) (hdf : s.df = []) (hres : aresults P fn s.fr s.h = some r) (hr : r.flat = true) : Ends P fn AH.empty r AH.nil x s where
  x := hx
  df := hdf
  res := ⟨r, hres, .refl r⟩
  h' := ⟨by simp [AH.nil, AH.empty], by simp [AH.nil, AH.empty], Nat.zero_le _⟩
  esc := Nat.zero_le _
  sc := .flat hr
  sg := .flat hr
  os := fun k o hk => absurd hk (Nat.not_lt_zero _)

/-! Regions, some operations at a time. -/

/-- What a list of operations leaves. -/
def RunL (P : Program) (n0 : Nat) (ops : Array Oper) (l : List Oper) (s : AS) (Q : AX → AS → Prop) : Prop :=
  ∀ Γ0 w0 Γ a w, (Γ0.ρ.length ≤ n0 ∧ Γ0.G.length ≤ n0) → Rel Γ s a w → Evo Γ0 w0 Γ w → wpList P ops (fun e a' w' => ∃ x s', Q x s' ∧ PostQ Γ0 w0 x s' e a' w') l a w

section
variable {P : Program} {n0 : Nat} {ops : Array Oper} {s : AS} {Q : AX → AS → Prop} {V : Env}

theorem RunL.nil (hq : Q .normal s) : RunL P n0 ops [] s Q := fun _ _ Γ _ _ _ hr he => ⟨_, _, hq, Γ, rfl, hr, he⟩

theorem RunL.skip {o : Oper} {rest : List Oper} (hw : awanted o ops s.fr = some false) (hq : RunL P n0 ops rest { s with fr := fput s.fr o.dst (.tuple []) } Q) : RunL P n0 ops (o :: rest) s Q := by
  intro Γ0 w0 Γ a w hn hr he
  unfold wpList
  rw [awanted_ok hr.fr hw]
  exact hq Γ0 w0 Γ _ w hn ⟨hr.st, fput_ok hr.fr o.dst (undef_VR Γ w), by rw [put_defers]; exact hr.df⟩ he

theorem RunL.op (hV : V.ok P) {call : CallF} (hcall : ∀ f args h, CallOK P f args h (call f args h)) {o : Oper} {rest : List Oper} {x : AX} {s1 : AS} (hw : awanted o ops s.fr = some true)
    (ho : evOp P V call o s = some (x, s1)) (hn : x = .normal → RunL P n0 ops rest s1 Q) (hx : ∀ v, x = .panic v → Q x s1) : RunL P n0 ops (o :: rest) s Q := by
  intro Γ0 w0 Γ a w hn0 hr he
  unfold wpList
  rw [awanted_ok hr.fr hw]
  simp only [if_true]
  left
  refine evOp_ok hV hcall ho hr (fun hy Γ' a' w' hr' he' => ?_) (fun z hy Γ' a' w' v hr' he' hv => ?_)
  · exact hn hy Γ0 w0 Γ' a' w' hn0 hr' (he.trans he')
  · exact ⟨x, s1, hx z hy, Γ', by rw [hy]; exact ⟨v, rfl, hv⟩, hr', he.trans he'⟩

theorem RunL.run (hV : V.ok P) {call : CallF} (hcall : ∀ f args h, CallOK P f args h (call f args h)) {x : AX} : ∀ {l : List Oper} {rest : List Oper} {s s1 : AS},
    evOps P V call ops l s = some (x, s1) → (x = .normal → RunL P n0 ops rest s1 Q) → (x ≠ .normal → Q x s1) → RunL P n0 ops (l ++ rest) s Q
  | [], rest, s, s1, h, hn, hx => by
    simp only [evOps, Option.some.injEq, Prod.mk.injEq] at h
    obtain ⟨rfl, rfl⟩ := h
    exact hn rfl
  | o :: l, rest, s, s1, h, hn, hx => by
    simp only [evOps] at h
    cases hw : awanted o ops s.fr with
    | none => rw [hw] at h; cases h
    | some b =>
      rw [hw] at h
      cases b with
      | false => exact .skip hw (RunL.run hV hcall h hn hx)
      | true =>
        simp only at h
        cases ho : evOp P V call o s with
        | none => rw [ho] at h; cases h
        | some q =>
          obtain ⟨y, s2⟩ := q
          rw [ho] at h
          cases y with
          | normal => exact .op hV hcall hw ho (fun _ => RunL.run hV hcall h hn hx) (fun v hv => by cases hv)
          | panic v =>
            simp only [Option.some.injEq, Prod.mk.injEq] at h
            obtain ⟨rfl, rfl⟩ := h
            exact .op hV hcall hw ho (fun hv => by cases hv) (fun v hv => hx (fun e => by cases e))
          | exit id =>
            exfalso
            unfold evOp at ho
            repeat' split at ho
            all_goals first | (cases ho; done) | (simp at ho; done)
          | ret =>
            exfalso
            unfold evOp at ho
            repeat' split at ho
            all_goals first | (cases ho; done) | (simp at ho; done)

/-- The first k operations, by the evaluator. -/
theorem RunL.take (hV : V.ok P) (k : Nat) {l : List Oper} {s1 : AS} (h : evOps P V noCalls ops (l.take k) s = some (.normal, s1)) (hq : RunL P n0 ops (l.drop k) s1 Q) : RunL P n0 ops l s Q := by
  have := RunL.run (rest := l.drop k) (n0 := n0) (Q := Q) hV noCalls_ok h (fun _ => hq) (fun hne => absurd rfl hne)
  rwa [List.take_append_drop] at this

/-- All that are left, by the evaluator. -/
theorem RunL.all (hV : V.ok P) {l : List Oper} {x : AX} {s1 : AS} (h : evOps P V noCalls ops l s = some (x, s1)) (hq : Q x s1) : RunL P n0 ops l s Q := by
  have := RunL.run (rest := []) (n0 := n0) (Q := Q) hV noCalls_ok h (fun hx => .nil (hx ▸ hq)) (fun _ => hq)
  rwa [List.append_nil] at this

/-- A call, by its contract. -/
theorem RunL.call (hV : V.ok P) {o : Oper} {rest : List Oper} {f : FuncId} {args : List AV} {r : AV} {h' : AH} (hw : awanted o ops s.fr = some true) (ha : aop P V s.fr s.h o = .enter f args)
    (hc : CallOK P f args s.h (.ret r h')) (hq : RunL P n0 ops rest { s with fr := fput s.fr o.dst r, h := h' } Q) : RunL P n0 ops (o :: rest) s Q := by
  refine .op hV (call := orc f args s.h (.ret r h') noCalls) (orc_ok hc noCalls_ok) (x := .normal) (s1 := { s with fr := fput s.fr o.dst r, h := h' }) hw ?_ (fun _ => hq) (fun v hv => by cases hv)
  unfold evOp
  rw [ha]
  simp only [orc_self]

/-- One operation, by its own answer. -/
theorem RunL.ok (hV : V.ok P) {o : Oper} {rest : List Oper} {x : AV} {h' : AH} (hw : awanted o ops s.fr = some true) (ha : aop P V s.fr s.h o = .ok x h')
    (hq : RunL P n0 ops rest { s with fr := fput s.fr o.dst x, h := h' } Q) : RunL P n0 ops (o :: rest) s Q := by
  refine .op hV noCalls_ok (x := .normal) (s1 := { s with fr := fput s.fr o.dst x, h := h' }) hw ?_ (fun _ => hq) (fun v hv => by cases hv)
  unfold evOp
  rw [ha]

/-- One operation that leaves the memory alone, by what it reckons. -/
theorem RunL.of (hV : V.ok P) {o : Oper} {rest : List Oper} {x : AV} {h' : AH} {y : Option AV} (hw : awanted o ops s.fr = some true) (ha : aop P V s.fr s.h o = OO.of h' y) (hy : y = some x)
    (hq : RunL P n0 ops rest { s with fr := fput s.fr o.dst x, h := h' } Q) : RunL P n0 ops (o :: rest) s Q :=
  .ok hV hw (by rw [ha, hy]; rfl) hq

/-- indexAddr, where the index is not written out. -/
theorem RunL.indexAddr (hV : V.ok P) {o : Oper} {rest : List Oper} {t : TypeId} {X I : Operand} {x i y : AV} (ho : o.op = .indexAddr t X I) (hw : awanted o ops s.fr = some true)
    (hx : aeval s.fr X = some x) (hi : aeval s.fr I = some i) (hy : aindexAddr P t x i = some y) (hq : RunL P n0 ops rest { s with fr := fput s.fr o.dst y } Q) : RunL P n0 ops (o :: rest) s Q := by
  refine .ok hV (x := y) (h' := s.h) hw ?_ hq
  unfold aop
  rw [ho]
  simp only [hx, hi, hy, OO.of]

/-- load, where the place is not written out. -/
theorem RunL.load (hV : V.ok P) {o : Oper} {rest : List Oper} {t : TypeId} {X : Operand} {x y : AV} (ho : o.op = .load t X) (hw : awanted o ops s.fr = some true)
    (hx : aeval s.fr X = some x) (hy : aload P s.h t x = some y) (hq : RunL P n0 ops rest { s with fr := fput s.fr o.dst y } Q) : RunL P n0 ops (o :: rest) s Q := by
  refine .ok hV (x := y) (h' := s.h) hw ?_ hq
  unfold aop
  rw [ho]
  simp only [hx, hy, OO.of]

/-- store, where the value is not written out. -/
theorem RunL.store (hV : V.ok P) {o : Oper} {rest : List Oper} {t : TypeId} {X Y : Operand} {x y : AV} {k off : Nat} {cs ys : List AV} (ho : o.op = .store t X Y) (hw : awanted o ops s.fr = some true)
    (hx : aeval s.fr X = some x) (hy : aeval s.fr Y = some y) (hxk : x = .ptr k off) (hob : s.h.objs[k]? = some (.cells cs)) (hys : y.acells = ys) (hsz : szT P t = some ys.length) (hle : off + ys.length ≤ cs.length)
    (hcl : ys.all AV.cellable = true)
    (hq : RunL P n0 ops rest { s with fr := fput s.fr o.dst (.tuple []), h := { s.h.mark k ys with objs := s.h.objs.set k (.cells (setAll cs off ys)) } } Q) : RunL P n0 ops (o :: rest) s Q := by
  refine .ok hV (x := .tuple []) hw ?_ hq
  unfold aop
  rw [ho]
  simp only [hx, hy]
  rw [hxk]
  simp only [astore, hob, hys, hsz, hle, hcl, if_true, OO.ofS]

theorem AH.mark_gl (h : AH) (k : Nat) (xs : List AV) : (h.mark k xs).gl = h.gl := by
  unfold AH.mark; split <;> rfl

/-- One cell of an own object. -/
theorem aload_own {h : AH} {t : TypeId} {k off : Nat} {cs : List AV} {y : AV} (ht : isAggT P t = some false) (ho : h.objs[k]? = some (.cells cs)) (hc : cs[off]? = some y) : aload P h t (.ptr k off) = some y := by
  simp only [aload, cellsAt, ho, apart', ht, List.getElem?_drop, Nat.add_zero, hc]

theorem aindexAddr_arr {t e : TypeId} {len sz k off : Nat} {kk : IntKind} {n : Int} (hu : P.underlying t = some (.array len e)) (hs : szT P e = some sz) (h0 : 0 ≤ n) (h1 : n < len) :
    aindexAddr P t (.ptr k off) (.int kk n) = some (.ptr k (off + n.toNat * sz)) := by
  simp only [aindexAddr, h0, h1, hu, hs, if_true, AV.on]

theorem aindexAddr_slc {t e : TypeId} {E : Nat} {sk : SK} {es : List (List AV)} {c : List AV} {kk : IntKind} {i : Nat} (hu : P.underlying t = some (.slice e)) (hs : szT P e = some E) (hc : es[i]? = some c) :
    aindexAddr P t (.slc sk E es) (.int kk i) = some (.rptr c) := by
  simp only [aindexAddr, hu, hs, Int.natCast_nonneg, if_true, Int.toNat_natCast, hc, Option.map_some]

/-- A call that hands back one of some values. -/
def CallP (P : Program) (f : FuncId) (args : List AV) (h : AH) (R : AV → AH → Prop) : Prop :=
  ∀ Γ w vs, St Γ h w → RelL Γ w args vs → Calls P f vs w fun e w' => ∃ Γ' v r h', R r h' ∧ e = .returned v ∧ VR Γ' w' r v ∧ St Γ' h' w' ∧ Evo Γ w Γ' w'

theorem CallOK.toP {f : FuncId} {args : List AV} {h h' : AH} {r : AV} {R : AV → AH → Prop} (hc : CallOK P f args h (.ret r h')) (hR : R r h') : CallP P f args h R := by
  intro Γ w vs hs hargs
  refine (hc Γ w vs hs hargs).mono fun e w' hq => ?_
  obtain ⟨Γ', v, h1, h2, h3, h4⟩ := hq
  exact ⟨Γ', v, r, h', hR, h1, h2, h3, h4⟩

theorem CallP.mono {f : FuncId} {args : List AV} {h : AH} {R R' : AV → AH → Prop} (hc : CallP P f args h R) (hR : ∀ r h', R r h' → R' r h') : CallP P f args h R' := by
  intro Γ w vs hs hargs
  refine (hc Γ w vs hs hargs).mono fun e w' hq => ?_
  obtain ⟨Γ', v, r, h', h0, h1⟩ := hq
  exact ⟨Γ', v, r, h', hR r h' h0, h1⟩

theorem RunL.callP (hV : V.ok P) {o : Oper} {rest : List Oper} {f : FuncId} {args : List AV} {R : AV → AH → Prop} (hw : awanted o ops s.fr = some true) (ha : aop P V s.fr s.h o = .enter f args)
    (hc : CallP P f args s.h R) (hq : ∀ r h', R r h' → RunL P n0 ops rest { s with fr := fput s.fr o.dst r, h := h' } Q) : RunL P n0 ops (o :: rest) s Q := by
  intro Γ0 w0 Γ a w hn0 hr he
  unfold wpList
  rw [awanted_ok hr.fr hw]
  simp only [if_true]
  left
  have hop := aop_ok (P := P) (o := o) hV hr.st hr.fr
  unfold Oper.wp
  rw [ha] at hop
  obtain ⟨vs, h1, h2⟩ := hop
  rw [h1]
  refine (hc Γ w vs hr.st h2).mono fun e w' hq' => ?_
  obtain ⟨Γ', v, r, h', h0, rfl, h3, h4, h5⟩ := hq'
  exact hq r h' h0 Γ0 w0 Γ' _ w' hn0 (hr.put h5 h4 h3 o.dst) (he.trans h5)

theorem CallP.of_run {f : FuncId} {fn : Func} {c : Code} {args : List AV} {h : AH} {R : AV → AH → Prop} (hf : P.funcs[f]? = some fn) (hb : fn.body = some c)
    (hr : Run P (max h.objs.length h.gl.length) c ⟨enterFr fn args, [], h⟩ (fun x s => ∃ r h', R r h' ∧ Ends P fn h r h' x s)) : CallP P f args h R := by
  intro Γ w vs hs hargs
  refine calls_of_wp_defers hf hb ?_
  refine Code.wp_mono (fun e a' w' hq => ?_) (hr Γ w Γ { tmps := vs ++ Array.replicate (fn.ntmps - vs.size) undef, defers := [] } w ⟨by rw [hs.len]; exact Nat.le_max_left _ _, by rw [show h.gl.length = Γ.G.length from by rw [hs.gl]; simp]; exact Nat.le_max_right _ _⟩ ⟨hs, enter_FR hargs fn, trivial⟩ (Evo.refl _ _))
  obtain ⟨x, s, ⟨r, h', hR, hx, hdf, ⟨r0, hres, hle⟩, hht, hesc, hsc, hsg, hos⟩, Γ', h1, h2, h3⟩ := hq
  have hd : a'.defers = [] := by
    have := h2.df
    rw [hdf] at this
    cases hde : a'.defers with
    | nil => rfl
    | cons d ds => rw [hde] at this; exact this.elim
  obtain ⟨v, hv1, hv2⟩ := aresults_ok h2.st h2.fr hres
  have hgl : h.gl.length = Γ.G.length := by rw [hs.gl]; simp
  have st1 := h2.st.trunc hesc
  have st' := st1.cutG (n := h.gl.length) (fun k o ho => by
    obtain ⟨h4, h5⟩ := take_get ho
    rcases hos k o h5 h4 with h6 | h6
    · have hlt : k < Γ.ρ.length := by rw [← hs.len]; exact h5
      rw [hgl]
      exact (hs.objs k o _ h6 (List.getElem?_eq_getElem hlt)).sg
    · exact h6)
  have st' := st'.lower (e := h'.esc) hht.2.2
  have hh : ({ (s.h.trunc h.objs.length).cutG h.gl.length with esc := h'.esc } : AH) = h' := by
    obtain ⟨o, g, e⟩ := h'
    simp only [AH.trunc, AH.cutG, AH.mk.injEq, and_true]
    exact ⟨hht.1.symm, hht.2.1.symm⟩
  rw [hh] at st'
  have fin : Leaves P fn a'.tmps (fun e w' => ∃ Γ' v r h', R r h' ∧ e = .returned v ∧ VR Γ' w' r v ∧ St Γ' h' w' ∧ Evo Γ w Γ' w') a'.defers .returning w' := by
    rw [hd]
    exact ⟨v, hv1, (Γ'.trunc h.objs.length).cutG h.gl.length, v, r, h', hR, rfl, ((hv2.le hle).trunc hsc).cutG hsg, st', (h3.trunc (by rw [hs.len]; exact Nat.le_refl _)).cutG (by rw [hgl]; exact Nat.le_refl _)⟩
  rcases hx with rfl | rfl
  · rw [show e = .normal from h1]; exact fin
  · rw [show e = .ret from h1]; exact fin

theorem CallP.frame {f : FuncId} {args : List AV} {R : AV → AH → Prop} (hc : CallP P f args AH.empty R) (ha : ∀ x ∈ args, Pure x) (hp : ∀ r h', R r h' → Pure r) (h : AH) :
    CallP P f args h (fun r h' => h' = h ∧ ∃ h0, R r h0) := by
  intro Γ w vs hs hargs
  have hst : St Γ.shut AH.empty w := St.start (O0 := Γ.unst) fun b i hu => unst_lt hs hu
  refine (hc Γ.shut w vs hst ⟨hargs.1, fun i x v hx hv => ?_⟩).mono fun e w' hq => ?_
  · have hm := ha x (List.mem_iff_getElem?.2 ⟨i, hx⟩)
    exact (hargs.2 i x v hx hv).same_unst (fun b i hu => unst_shut.1 hu) hm.1 hm.2
  · obtain ⟨Γ', v, r, h', hR, rfl, hv, hs', he⟩ := hq
    have hold : ∀ b, b < w.heap.size → w'.heap[b]? = w.heap[b]? := fun b hb => he.obj b hb (by simp [Ctx.shut]) (fun g gi hg => by simp [Ctx.shut] at hg)
    refine ⟨Γ, v, r, h, ⟨rfl, h', hR⟩, rfl, hv.same_unst (fun b i hu => ?_) (hp r h' hR).1 (hp r h' hR).2, hs.new he.size hold he.io, evo_new he.size hold he.io⟩
    exact .inl (by rw [he.o0]; exact hu)

/-- What is known of a frame may be less. -/
theorem Run.forget {c : Code} {fr : FT} (h : ∀ t, fr.get t = s.fr.get t ∨ (fr.get t = some .any ∧ (s.fr.get t).isSome = true)) (hr : Run P n0 c { s with fr := fr } Q) : Run P n0 c s Q := by
  intro Γ0 w0 Γ a w hn hrel he
  exact hr Γ0 w0 Γ a w hn ⟨hrel.st, hrel.fr.forget h, hrel.df⟩ he

/-- A frame of which these slots are known. -/
def FTree.lit : List (Nat × AV) → FTree
  | [] => .emp
  | (i, x) :: l => .upd (FTree.lit l) i x

theorem FTree.val_lit : ∀ (l : List (Nat × AV)) (t : Nat), (FTree.lit l).val t = .any ∨ ∃ p ∈ l, p.1 = t ∧ (FTree.lit l).val t = p.2
  | [], t => .inl rfl
  | (i, x) :: l, t => by
    rw [show FTree.lit ((i, x) :: l) = .upd (FTree.lit l) i x from rfl, FTree.val_upd]
    by_cases h : i = t
    · rw [if_pos h]; exact .inr ⟨(i, x), by simp, h, rfl⟩
    · rw [if_neg h]
      rcases FTree.val_lit l t with h1 | ⟨p, h1, h2, h3⟩
      · exact .inl h1
      · exact .inr ⟨p, by simp [h1], h2, h3⟩

/-- What is known of a state: so many slots, these of them with what stands there, no defers, the memory. -/
structure Kn (n : Nat) (l : List (Nat × AV)) (h : AH) (s : AS) : Prop where
  sz : s.fr.sz = n
  sl : ∀ p ∈ l, s.fr.get p.1 = some p.2
  df : s.df = []
  h : s.h = h

theorem Run.known {c : Code} {n : Nat} {l : List (Nat × AV)} {h : AH} (hk : Kn n l h s) (hr : Run P n0 c ⟨⟨n, FTree.lit l⟩, [], h⟩ Q) : Run P n0 c s Q := by
  obtain ⟨fr, df, hh⟩ := s
  obtain ⟨h1, h2, h3, h4⟩ := hk
  simp only at h1 h2 h3 h4
  subst h3; subst h4
  refine Run.forget (fr := ⟨n, FTree.lit l⟩) (fun t => ?_) hr
  simp only
  rw [FT.get_eq, FT.isSome_get, h1]
  by_cases ht : t < n
  · rw [if_pos ht]
    rcases FTree.val_lit l t with h5 | ⟨p, h5, h6, h7⟩
    · exact .inr ⟨by rw [h5], by simp [ht]⟩
    · left
      rw [h7, ← h6, h2 p h5]
  · rw [if_neg ht]
    left
    rw [FT.get_eq, h1, if_neg ht]

/-- All own objects are forgotten: what is known leads to none. -/
theorem Run.cut0 {c : Code} {n : Nat} {l : List (Nat × AV)} {h : AH} (hk : Kn n l h s) (h0 : n0 = 0) (hg : h.gl = []) (hl : ∀ p ∈ l, Sc 0 p.2) (hr : Run P n0 c ⟨⟨n, FTree.lit l⟩, [], AH.nil⟩ Q) : Run P n0 c s Q := by
  refine Run.known hk ?_
  intro Γ0 w0 Γ a w hn hrel he
  have hst : St (Γ.trunc 0) AH.nil w := by
    have h1 := (hrel.st.trunc (n := 0) (Nat.zero_le _)).lower (e := 0) (Nat.zero_le _)
    have h2 : ({ h.trunc 0 with esc := 0 } : AH) = AH.nil := by
      simp [AH.trunc, AH.nil, hg]
    rw [h2] at h1
    exact h1
  refine hr Γ0 w0 (Γ.trunc 0) a w hn ⟨hst, ⟨hrel.fr.1, fun i x v hx hv => ?_⟩, ?_⟩ (he.trunc (by omega))
  · rcases hrel.fr.2 i x v hx hv with h1 | h1
    · exact .inl h1
    · right
      refine h1.trunc ?_
      rw [FT.get_eq] at hx
      split at hx
      · simp only [Option.some.injEq] at hx
        rcases FTree.val_lit l i with h2 | ⟨p, h2, _, h3⟩
        · rw [← hx, h2]; exact .flat rfl
        · rw [← hx, h3]; exact hl p h2
      · cases hx
  · have := hrel.df
    cases hd : a.defers with
    | nil => trivial
    | cons e es => rw [hd] at this; exact this.elim

/-- A region in its order. -/
theorem Run.list {id : Nat} (h : RunL P n0 ops ops.toList s Q) : Run P n0 (.region id ops false) s Q := by
  intro Γ0 w0 Γ a w hn hr he
  exact wp_region_list (h Γ0 w0 Γ a w hn hr he)

end

end Go.Proofs.YtgikapdeekepiaaGreatDoor
