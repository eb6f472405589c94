/- Open proofs, fourth part: places that are reckoned. -/
import Derived.Test.YtgikapdeekepiaaGreatDoorEvT
set_option linter.unusedSimpArgs false
set_option linter.unusedVariables false
namespace Go.Proofs.YtgikapdeekepiaaGreatDoor
open Go

section
variable {P : Program} {n0 : Nat} {ops : Array Oper} {Q : AX → AS → Prop} {V : Env} {sz : Nat} {t : FTree} {df : List ADef} {objs : List AObj} {gl : List Nat} {esc : Nat} {w : Option Bool} {h : AH} {call : CallF}

theorem aindexAddr_arrN {ty e : TypeId} {len s k off : Nat} {kk : IntKind} {i : Nat} (hu : P.underlying ty = some (.array len e)) (hs : szT P e = some s) (h1 : i < len) :
    aindexAddr P ty (.ptr k off) (.int kk (i : Int)) = some (.ptr k (off + i * s)) :=
  aindexAddr_arr hu hs (by omega) (by omega)

theorem aindexAddr_arrR {ty e : TypeId} {len s : Nat} {cs : List AV} {kk : IntKind} {n : Int} (hu : P.underlying ty = some (.array len e)) (hs : szT P e = some s) (h0 : 0 ≤ n) (h1 : n < len) :
    aindexAddr P ty (.rptr cs) (.int kk n) = some (.rptr (cs.drop (n.toNat * s))) := by
  simp only [aindexAddr, h0, h1, hu, hs, if_true, AV.on]

theorem aload_rptr {ty : TypeId} {cs : List AV} {y : AV} (ht : isAggT P ty = some false) (hc : cs[0]? = some y) : aload P h ty (.rptr cs) = some y := by
  simp only [aload, cellsAt, apart', ht, hc]

/-- What a store of one cell at a place leaves. -/
structure StoreAt (cs : List AV) (off : Nat) (y : AV) (cs' : List AV) : Prop where
  lt : off < cs.length
  eq : cs.set off y = cs'

theorem astore_at {ty : TypeId} {k off : Nat} {y : AV} {cs cs' : List AV} (hob : objs[k]? = some (.cells cs)) (hst : StoreAt cs off y cs') (hy : y.flat = true) (hc : y.cellable = true) (hsz : szT P ty = some 1) :
    astore P ⟨objs, gl, esc⟩ ty (.ptr k off) y = some ⟨objs.set k (.cells cs'), gl, esc⟩ := by
  have ha : y.acells = [y] := by cases y <;> first | rfl | cases hc
  have hl : [y].all (AV.lowB 20 (k + 1)) = true := by cases y <;> first | rfl | cases hy
  have hlt := hst.lt
  simp only [astore, hob, ha, hsz, List.length_singleton, if_true, List.all_cons, List.all_nil, hc, Bool.and_true, show off + 1 ≤ cs.length from hlt, setAll, hst.eq]
  simp only [AH.mark, hl, if_true]

theorem RunL.oStS (hV : V.ok P) {o : Oper} {rest : List Oper} {ty : TypeId} {X Y : Operand} {k off : Nat} {cs cs' : List AV} {objs' : List AObj} {x y0 y : AV} (ho : o.op = .store ty X Y) (hd : o.dst = none) (hw : awanted o ops ⟨sz, t⟩ = w) (hw' : w = some true)
    (hx : aeval ⟨sz, t⟩ X = some x) (hx' : x = .ptr k off) (hob : objs[k]? = some (.cells cs)) (hy : aeval ⟨sz, t⟩ Y = some y0) (hy' : y0 = y) (hfl : y.flat = true) (hcl : y.cellable = true) (hsz : szT P ty = some 1) (hst : StoreAt cs off y cs')
    (hobs : objs.set k (.cells cs') = objs') (hq : RunL P n0 ops rest ⟨⟨sz, t⟩, df, ⟨objs', gl, esc⟩⟩ Q) :
    RunL P n0 ops (o :: rest) ⟨⟨sz, t⟩, df, ⟨objs, gl, esc⟩⟩ Q := by
  subst hx'; subst hy'; subst hobs
  refine .oN hV hd (hw.trans hw') (x := .tuple []) (h' := ⟨objs.set k (.cells cs'), gl, esc⟩) ?_ hq
  unfold aop
  rw [ho]
  simp only [hx, hy, astore_at hob hst hfl hcl hsz, OO.ofS]

theorem lex_oStS {o : Oper} {rest : List Oper} {ty : TypeId} {X Y : Operand} {k off : Nat} {cs cs' : List AV} {objs' : List AObj} {x y0 y : AV} {xs : List (Bool × AV)} {st : List (FT × AH)} (ho : o.op = .store ty X Y) (hd : o.dst = none) (hw : awanted o ops ⟨sz, t⟩ = some true)
    (hx : aeval ⟨sz, t⟩ X = some x) (hx' : x = .ptr k off) (hob : objs[k]? = some (.cells cs)) (hy : aeval ⟨sz, t⟩ Y = some y0) (hy' : y0 = y) (hfl : y.flat = true) (hcl : y.cellable = true) (hsz : szT P ty = some 1) (hst : StoreAt cs off y cs')
    (hobs : objs.set k (.cells cs') = objs') (hr : lexRun P V call ops rest ⟨sz, t⟩ ⟨objs', gl, esc⟩ = some (xs, st)) :
    lexRun P V call ops (o :: rest) ⟨sz, t⟩ ⟨objs, gl, esc⟩ = some ((true, .tuple []) :: xs, (⟨sz, t⟩, ⟨objs, gl, esc⟩) :: st) := by
  subst hx'; subst hy'; subst hobs
  refine lex_oN hd hw (x := .tuple []) (h' := ⟨objs.set k (.cells cs'), gl, esc⟩) (stepD_ok ?_) rfl hr
  unfold aop
  rw [ho]
  simp only [hx, hy, astore_at hob hst hfl hcl hsz, OO.ofS]

theorem lex_oI {o : Oper} {rest : List Oper} {d : Nat} {ty : TypeId} {X I : Operand} {x i y : AV} {xs : List (Bool × AV)} {st : List (FT × AH)} (ho : o.op = .indexAddr ty X I) (hd : o.dst = some d) (hw : awanted o ops ⟨sz, t⟩ = some true) (hx : aeval ⟨sz, t⟩ X = some x) (hi : aeval ⟨sz, t⟩ I = some i) (hy : aindexAddr P ty x i = some y)
    (hr : lexRun P V call ops rest ⟨sz, .upd t d y⟩ h = some (xs, st)) : lexRun P V call ops (o :: rest) ⟨sz, t⟩ h = some ((true, y) :: xs, (⟨sz, t⟩, h) :: st) :=
  lex_o hd hw (stepD_indexAddr ho hx hi hy) rfl hr

theorem lex_oLd {o : Oper} {rest : List Oper} {d : Nat} {ty : TypeId} {X : Operand} {x y : AV} {xs : List (Bool × AV)} {st : List (FT × AH)} (ho : o.op = .load ty X) (hd : o.dst = some d) (hw : awanted o ops ⟨sz, t⟩ = some true) (hx : aeval ⟨sz, t⟩ X = some x) (hy : aload P h ty x = some y)
    (hr : lexRun P V call ops rest ⟨sz, .upd t d y⟩ h = some (xs, st)) : lexRun P V call ops (o :: rest) ⟨sz, t⟩ h = some ((true, y) :: xs, (⟨sz, t⟩, h) :: st) :=
  lex_o hd hw (stepD_load ho hx hy) rfl hr

theorem abin_shr {ty : TypeId} {X Y : Operand} {k k' : IntKind} {a b : Int} (h0 : 0 ≤ b) : abin P V .shr ty X Y (.int k a) (.int k' b) = some (.int k (a.fdiv (2 ^ (min b.toNat k.bits)))) := by
  simp only [abin, abinN, ashift, show ¬ b < 0 by omega, if_false]

theorem abin_shl {ty : TypeId} {X Y : Operand} {k k' : IntKind} {a b : Int} (h0 : 0 ≤ b) : abin P V .shl ty X Y (.int k a) (.int k' b) = some (.int k (k.wrap (a * 2 ^ (min b.toNat k.bits)))) := by
  simp only [abin, abinN, ashift, show ¬ b < 0 by omega, if_false]

/-- An operation of two operands, by what it gives. -/
theorem RunL.oBin (hV : V.ok P) {o : Oper} {rest : List Oper} {d : Nat} {ty t2 : TypeId} {op : BinOp} {X Y : Operand} {x x' y y' r : AV} (ho : o.op = .binOp op ty X Y t2) (hd : o.dst = some d) (hw : awanted o ops ⟨sz, t⟩ = w) (hw' : w = some true)
    (hx : aeval ⟨sz, t⟩ X = some x) (hy : aeval ⟨sz, t⟩ Y = some y) (hx' : x = x') (hy' : y = y') (hr : abin P V op ty X Y x' y' = some r) (hq : RunL P n0 ops rest ⟨⟨sz, .upd t d r⟩, df, h⟩ Q) : RunL P n0 ops (o :: rest) ⟨⟨sz, t⟩, df, h⟩ Q := by
  subst hx'; subst hy'
  refine .o hV hd hw hw' (x := r) (h' := h) rfl ?_ rfl hq
  unfold aop
  rw [ho]
  simp only [hx, hy, hr]
  rfl

theorem RunL.oIx (hV : V.ok P) {o : Oper} {rest : List Oper} {d : Nat} {ty : TypeId} {X I : Operand} {x i r : AV} (ho : o.op = .index ty X I) (hd : o.dst = some d) (hw : awanted o ops ⟨sz, t⟩ = some true)
    (hx : aeval ⟨sz, t⟩ X = some x) (hi : aeval ⟨sz, t⟩ I = some i) (hr : aindex P ty x i = some r) (hq : RunL P n0 ops rest ⟨⟨sz, .upd t d r⟩, df, h⟩ Q) : RunL P n0 ops (o :: rest) ⟨⟨sz, t⟩, df, h⟩ Q := by
  refine .o hV hd hw rfl (x := r) (h' := h) rfl ?_ rfl hq
  unfold aop
  rw [ho]
  simp only [hx, hi, hr]
  rfl

/-- A struct put together, by what it is. -/
theorem RunL.oBu (hV : V.ok P) {o : Oper} {rest : List Oper} {d : Nat} {ty : TypeId} {ps : Array (Nat × Operand)} {r : AV} (ho : o.op = .build ty ps) (hd : o.dst = some d) (hw : awanted o ops ⟨sz, t⟩ = w) (hw' : w = some true)
    (hr : abuild P ⟨sz, t⟩ ty ps = some r) (hq : RunL P n0 ops rest ⟨⟨sz, .upd t d r⟩, df, h⟩ Q) : RunL P n0 ops (o :: rest) ⟨⟨sz, t⟩, df, h⟩ Q := by
  refine .o hV hd hw hw' (x := r) (h' := h) rfl ?_ rfl hq
  unfold aop
  rw [ho]
  simp only [hr]
  rfl

theorem abin_lss_t {ty : TypeId} {X Y : Operand} {k : IntKind} {a b : Int} (h0 : a < b) : abin P V .lss ty X Y (.int k a) (.int k b) = some (.bool true) := by
  simp only [abin, abinN, aint, if_true, h0, decide_true]

theorem abin_lss_f {ty : TypeId} {X Y : Operand} {k : IntKind} {a b : Int} (h0 : ¬ a < b) : abin P V .lss ty X Y (.int k a) (.int k b) = some (.bool false) := by
  simp only [abin, abinN, aint, if_true, h0, decide_false]

/-- The value that was written last, said with less. -/
theorem RunL.wk {l : List Oper} {d : Nat} {x y : AV} (hl : LeAV x y) (hq : RunL P n0 ops l ⟨⟨sz, .upd t d y⟩, df, h⟩ Q) : RunL P n0 ops l ⟨⟨sz, .upd t d x⟩, df, h⟩ Q := by
  intro Γ0 w0 Γ a w hn hrel he
  refine hq Γ0 w0 Γ a w hn ⟨hrel.st, ⟨fun j => ?_, fun j z v hz hv => ?_⟩, hrel.df⟩ he
  · have := hrel.fr.1 j
    rw [FT.isSome_get] at this ⊢
    exact this
  · rw [FT.get_eq] at hz
    split at hz
    · rename_i hlt
      simp only [Option.some.injEq, FTree.val_upd] at hz
      split at hz
      · rename_i hij
        subst hij; subst hz
        have h0 : (⟨sz, .upd t d x⟩ : FT).get d = some x := by rw [FT.get_eq, if_pos hlt, FTree.val_upd, if_pos rfl]
        rcases hrel.fr.2 d x v h0 hv with h1 | h1
        · subst h1
          cases hl
          exact .inl rfl
        · exact .inr (h1.le hl)
      · rename_i hij
        subst hz
        exact hrel.fr.2 j _ v (by rw [FT.get_eq, if_pos hlt, FTree.val_upd, if_neg hij]) hv
    · cases hz

theorem lex_oBin {o : Oper} {rest : List Oper} {d : Nat} {ty t2 : TypeId} {op : BinOp} {X Y : Operand} {x x' y y' r : AV} {xs : List (Bool × AV)} {st : List (FT × AH)} (ho : o.op = .binOp op ty X Y t2) (hd : o.dst = some d) (hw : awanted o ops ⟨sz, t⟩ = some true)
    (hx : aeval ⟨sz, t⟩ X = some x) (hy : aeval ⟨sz, t⟩ Y = some y) (hx' : x = x') (hy' : y = y') (hr : abin P V op ty X Y x' y' = some r)
    (hn : lexRun P V call ops rest ⟨sz, .upd t d r⟩ h = some (xs, st)) : lexRun P V call ops (o :: rest) ⟨sz, t⟩ h = some ((true, r) :: xs, (⟨sz, t⟩, h) :: st) := by
  subst hx'; subst hy'
  refine lex_o hd hw (stepD_ok (x := r) (h' := h) ?_) rfl hn
  unfold aop
  rw [ho]
  simp only [hx, hy, hr]
  rfl

end

/-! Functions that write to the caller's objects. -/

/-- What a body must leave: own objects of the caller as they are then. -/
def EndM (P : Program) (fn : Func) (h : AH) (R : AV → AH → Prop) (x : AX) (s : AS) : Prop :=
  (x = .normal ∨ x = .ret) ∧ s.df = [] ∧ ∃ r, aresults P fn s.fr s.h = some r ∧ Pure r ∧ h.objs.length ≤ s.h.esc ∧ (∀ o ∈ s.h.objs.take h.objs.length, SGO h.gl.length o) ∧
    R r ⟨s.h.objs.take h.objs.length, s.h.gl.take h.gl.length, s.h.esc⟩

theorem CallP.mk {P : Program} {f : FuncId} {fn : Func} {c : Code} {args : List AV} {h : AH} {R : AV → AH → Prop} (hf : P.funcs[f]? = some fn) (hb : fn.body = some c)
    (hr : Run P (max h.objs.length h.gl.length) c ⟨enterFr fn args, [], h⟩ (EndM P fn h R)) : CallP P f args h R := by
  refine CallP.of_run hf hb (hr.mono fun x s hs => ?_)
  obtain ⟨hx, hd, r, h1, h2, h3, h4, h5⟩ := hs
  refine ⟨r, _, h5, ⟨hx, hd, ⟨r, h1, .refl r⟩, ⟨rfl, rfl, Nat.le_refl _⟩, h3, (h2.within (m := 0)).1, (h2.within (k := 0)).2, fun k o hk ho => .inr (h4 o ?_)⟩⟩
  rw [List.mem_iff_getElem?]
  exact ⟨k, by rw [List.getElem?_take_of_lt hk]; exact ho⟩

theorem EndM.mk {P : Program} {fn : Func} {h : AH} {R : AV → AH → Prop} {x : AX} {s : AS} {r r1 : AV} (hx : x = .normal ∨ x = .ret) (hd : s.df = []) (hr : aresults P fn s.fr s.h = some r1) (hr1 : r1 = r) (hfl : Pure r) (he : Nat.ble h.objs.length s.h.esc = true)
    (ho : ∀ o ∈ s.h.objs.take h.objs.length, SGO h.gl.length o) (hR : R r ⟨s.h.objs.take h.objs.length, s.h.gl.take h.gl.length, s.h.esc⟩) : EndM P fn h R x s :=
  ⟨hx, hd, r, by rw [hr, hr1], hfl, Nat.le_of_ble_eq_true he, ho, hR⟩

theorem pure_unit : Pure (.tuple []) := .tuple fun c hc => by cases hc

theorem SGO.flat {m : Nat} {cs : List AV} (h : ∀ c ∈ cs, c.flat = true) : SGO m (.cells cs) := .cells fun c hc => .flat (h c hc)

/-- Own objects lent to a function that only reads. -/
theorem Fn.lent {P : Program} {f : FuncId} {args args' : List AV} {R : AV → Prop} (hc : Fn P f args' R) {h : AH} (hz : FzL h.objs args args') (hr : ∀ r, R r → r.flat = true) : CallP P f args h (fun r h' => h' = h ∧ R r) := by
  intro Γ w vs hs hargs
  have hst : St Γ.base AH.empty w := St.start (O0 := Γ.O0) fun b i hu => hs.o0lt b i hu
  obtain ⟨hl, hg⟩ := hz.get
  refine (hc.call Γ.base w vs hst ⟨by rw [hargs.1, hl], fun i x v hx hv => ?_⟩).mono fun e w' hq => ?_
  · obtain ⟨x0, hx0⟩ := get_other hl hx
    exact (hargs.2 i x0 v hx0 hv).fz hs (hg i x0 x hx0 hx)
  · obtain ⟨Γ', v, r, h', hR, rfl, hv, hs', he⟩ := hq
    have hold : ∀ b, b < w.heap.size → w'.heap[b]? = w.heap[b]? := fun b hb => he.obj b hb (by simp [Ctx.base]) (fun g gi hg => by simp [Ctx.base] at hg)
    have hfl := hr r hR
    refine ⟨Γ, v, r, h, ⟨rfl, hR⟩, rfl, ?_, hs.new he.size hold he.io, evo_new he.size hold he.io⟩
    cases hv <;> first | (cases hfl; done) | constructor

theorem Fn.lentOK {P : Program} {f : FuncId} {args args' : List AV} {r : AV} (hc : Fn P f args' fun x => x = r) {h : AH} (hz : FzL h.objs args args') (hr : r.flat = true) : CallOK P f args h (.ret r h) := by
  intro Γ w vs hs hargs
  refine (hc.lent hz (fun x hx => by rw [hx]; exact hr) Γ w vs hs hargs).mono fun e w' hq => ?_
  obtain ⟨Γ', v, r', h', ⟨rfl, rfl⟩, rfl, h1, h2, h3⟩ := hq
  exact ⟨Γ', v, rfl, h1, h2, h3⟩

/-! Closed calls. -/

def isTrue : Out → Bool
  | .ret (.bool true) _ => true
  | _ => false

theorem fn_of_run {P : Program} {V : Env} {n : Nat} {f : FuncId} {o : Out} (hV : V.ok P) (hr : evCall P V n f [] AH.empty = o) (ho : isTrue o = true) : Fn P f [] fun y => y = .bool true := by
  have hc := evCall_ok hV n f [] AH.empty
  rw [hr] at hc
  clear hr
  refine ⟨?_, (fun x hx => by cases hx), (fun r hr => by rw [hr]; exact .flat rfl)⟩
  cases o with
  | ret r h' =>
    cases r with
    | bool b =>
      cases b with
      | true => exact hc.toP rfl
      | false => cases ho
    | _ => cases ho
  | pan v h' => cases ho
  | bad => cases ho

end Go.Proofs.YtgikapdeekepiaaGreatDoor
