/- Open proofs, third part: operations on own objects, the memory written out. -/
import Derived.Test.YtgikapdeekepiaaGreatDoorEvS
set_option linter.unusedSimpArgs false
set_option linter.unusedVariables false
namespace Go.Proofs.YtgikapdeekepiaaGreatDoor
open Go

theorem astore_pure {P : Program} {Γ : Ctx} {objs : List AObj} {gl : List Nat} {esc : Nat} {w : World} (hs : St Γ ⟨objs, gl, esc⟩ w) {k off : Nat} {x : AV} {v u : Value} (ha : VR Γ w (.ptr k off) v) (hx : VR Γ w x u) {t : TypeId} {cs : List AV}
    (ho : objs[k]? = some (.cells cs)) (hsz : szT P t = some x.acells.length) (hle : off + x.acells.length ≤ cs.length) (hcl : x.acells.all AV.cellable = true) (hsc : ∀ y ∈ x.acells, Sc (k + 1) y) :
    ∃ w', (Instr.storeAt t v u).run P w = .ok () w' ∧ St Γ ⟨objs.set k (.cells (setAll cs off x.acells)), gl, esc⟩ w' ∧ Evo Γ w Γ w' := by
  cases ha with
  | ptr hk =>
    rename_i b
    obtain ⟨hc1, hc2⟩ := hx.cells
    obtain ⟨w', h1, h2, h3⟩ := run_storeCells_own (P := P) (off := off) hk x.acells u.cells.toList 0 ⟨objs, gl, esc⟩ w cs hs ho (by omega) (by simpa using hc1)
      (fun j y z hy hz => hc2 j y z hy (by simpa using hz)) hcl (fun _ => hsc)
    refine ⟨w', ?_, h2, h3⟩
    simp only [Instr.storeAt, Instr.sureAddr, storeVar, Sem.run_bind, Sem.run_pure, Result.andThen_ok, run_sizeOf' hsz]
    simp only [hc1, ne_eq, not_true_eq_false, if_false]
    simpa using h1

theorem PureL.sc {l : List AV} (h : PureL l) (k : Nat) : ∀ y ∈ l, Sc k y := fun y hy => (h.all y hy).1.mono (Nat.zero_le _)

section
variable {P : Program} {n0 : Nat} {ops : Array Oper} {Q : AX → AS → Prop} {V : Env} {sz : Nat} {t : FTree} {df : List ADef} {objs : List AObj} {gl : List Nat} {esc : Nat} {w : Option Bool}

/-- A nil slice, about to grow. -/
theorem Run.nilAt (i E : Nat) {c : Code} {h : AH} (hi : t.val i = .nils) (hr : Run P n0 c ⟨⟨sz, .upd t i (.slc .x E [])⟩, df, h⟩ Q) : Run P n0 c ⟨⟨sz, t⟩, df, h⟩ Q := by
  intro Γ0 w0 Γ a w hn hrel he
  refine hr Γ0 w0 Γ a w hn ⟨hrel.st, ⟨fun j => ?_, fun j x v hx hv => ?_⟩, hrel.df⟩ he
  · have := hrel.fr.1 j
    rw [FT.isSome_get] at this ⊢
    exact this
  · rw [FT.get_eq] at hx
    split at hx
    · rename_i hlt
      simp only [Option.some.injEq, FTree.val_upd] at hx
      split at hx
      · rename_i hij
        subst hij; subst hx
        have h0 : (⟨sz, t⟩ : FT).get i = some .nils := by rw [FT.get_eq, if_pos hlt]; simp only [hi]
        rcases hrel.fr.2 i .nils v h0 hv with h1 | h1
        · cases h1
        · cases h1; exact .inr .slcX
      · subst hx
        exact hrel.fr.2 j _ v (by rw [FT.get_eq, if_pos hlt]) hv
    · cases hx

/-- A store into an own object of what leads nowhere. -/
theorem RunL.oSt {o : Oper} {rest : List Oper} {ty : TypeId} {X Y : Operand} {k off : Nat} {cs ys cs' : List AV} {objs' : List AObj} {x y0 y : AV} (ho : o.op = .store ty X Y) (hd : o.dst = none) (hw : awanted o ops ⟨sz, t⟩ = w) (hw' : w = some true)
    (hx : aeval ⟨sz, t⟩ X = some x) (hx' : x = .ptr k off) (hob : objs[k]? = some (.cells cs)) (hy : aeval ⟨sz, t⟩ Y = some y0) (hy' : y0 = y) (hys : y.acells = ys) (hsz : szT P ty = some ys.length) (hle : Nat.ble (off + ys.length) cs.length = true)
    (hcl : ys.all AV.cellable = true) (hcs : setAll cs off ys = cs') (hobs : objs.set k (.cells cs') = objs') (hp : PureL ys) (hq : RunL P n0 ops rest ⟨⟨sz, t⟩, df, ⟨objs', gl, esc⟩⟩ Q) :
    RunL P n0 ops (o :: rest) ⟨⟨sz, t⟩, df, ⟨objs, gl, esc⟩⟩ Q := by
  subst hx'; subst hy'; subst hys; subst hcs; subst hobs
  refine .run1 (hw.trans hw') fun Γ w a hs hf => ?_
  obtain ⟨w', h1, h2, h3⟩ := astore_pure hs (aeval_ok hf hx) (aeval_ok hf hy) hob hsz (Nat.le_of_ble_eq_true hle) hcl (hp.sc _)
  refine ⟨.tuple [], ⟨_, gl, esc⟩, ⟨Γ, w', _, undef, ?_, .inr ⟨rfl, rfl⟩, .tuple rfl (by simp), h2, h3⟩, by rw [hd]; exact hq⟩
  simp [execOp, ho, h1]

/-- Into a later place: the mark may fall. -/
theorem RunL.oStM {o : Oper} {rest : List Oper} {ty : TypeId} {X Y : Operand} {k off : Nat} {cs ys cs' : List AV} {objs' : List AObj} {x y0 y : AV} (ho : o.op = .store ty X Y) (hd : o.dst = none) (hw : awanted o ops ⟨sz, t⟩ = w) (hw' : w = some true)
    (hx : aeval ⟨sz, t⟩ X = some x) (hx' : x = .ptr k off) (hob : objs[k]? = some (.cells cs)) (hy : aeval ⟨sz, t⟩ Y = some y0) (hy' : y0 = y) (hys : y.acells = ys) (hsz : szT P ty = some ys.length) (hle : Nat.ble (off + ys.length) cs.length = true)
    (hcl : ys.all AV.cellable = true) (hcs : setAll cs off ys = cs') (hobs : objs.set k (.cells cs') = objs') {esc' : Nat} (he : Nat.min esc k = esc') (hq : RunL P n0 ops rest ⟨⟨sz, t⟩, df, ⟨objs', gl, esc'⟩⟩ Q) :
    RunL P n0 ops (o :: rest) ⟨⟨sz, t⟩, df, ⟨objs, gl, esc⟩⟩ Q := by
  subst hx'; subst hy'; subst hys; subst hcs; subst hobs; subst he
  refine .run1 (hw.trans hw') fun Γ w a hs hf => ?_
  have hl : astore P ⟨objs, gl, esc⟩ ty (.ptr k off) y0 = some { (⟨objs, gl, esc⟩ : AH).mark k y0.acells with objs := objs.set k (.cells (setAll cs off y0.acells)) } := by
    simp only [astore, hob, hsz, if_true, Nat.le_of_ble_eq_true hle, hcl]
  obtain ⟨w', h1, h2, h3⟩ := astore_ok hs (aeval_ok hf hx) (aeval_ok hf hy) hl
  have h4 := h2.lower (e := Nat.min esc k) (by
    unfold AH.mark
    split
    · exact Nat.min_le_left _ _
    · exact Nat.le_refl _)
  simp only [AH.mark_gl] at h4
  refine ⟨.tuple [], ⟨_, gl, Nat.min esc k⟩, ⟨Γ, w', _, undef, ?_, .inr ⟨rfl, rfl⟩, .tuple rfl (by simp), h4, h3⟩, by rw [hd]; exact hq⟩
  simp [execOp, ho, h1]

theorem RunL.oBox (hV : V.ok P) {o : Oper} {rest : List Oper} {d : Nat} {ty : TypeId} {X : Operand} {y0 y : AV} {ys : List AV} {objs' : List AObj} {k : Nat} (ho : o.op = .box ty X) (hd : o.dst = some d) (hw : awanted o ops ⟨sz, t⟩ = w) (hw' : w = some true)
    (hy : aeval ⟨sz, t⟩ X = some y0) (hy' : y0 = y) (hys : y.acells = ys) (hk : objs.length = k) (hobs : objs ++ [.cells ys] = objs') (hq : RunL P n0 ops rest ⟨⟨sz, .upd t d (.ptr k 0)⟩, df, ⟨objs', gl, esc⟩⟩ Q) :
    RunL P n0 ops (o :: rest) ⟨⟨sz, t⟩, df, ⟨objs, gl, esc⟩⟩ Q := by
  subst hy'; subst hys; subst hk; subst hobs
  refine .o hV hd hw hw' (x := .ptr objs.length 0) (h' := ⟨objs ++ [.cells y0.acells], gl, esc⟩) rfl ?_ rfl hq
  unfold aop
  rw [ho]
  simp only [hy]
  rfl

/-- What a new variable of a type holds. -/
def zeroC (P : Program) (ty : TypeId) : Option (List AV) := ((P.info? ty).bind (·.zero)).bind fun z => (AV.ofV 3 z).map AV.acells

theorem RunL.oAl (hV : V.ok P) {o : Oper} {rest : List Oper} {d : Nat} {ty : TypeId} {ys : List AV} {objs' : List AObj} {k : Nat} (ho : o.op = .alloc ty) (hz : zeroC P ty = some ys) (hd : o.dst = some d) (hw : awanted o ops ⟨sz, t⟩ = w) (hw' : w = some true)
    (hk : objs.length = k) (hobs : objs ++ [.cells ys] = objs') (hq : RunL P n0 ops rest ⟨⟨sz, .upd t d (.ptr k 0)⟩, df, ⟨objs', gl, esc⟩⟩ Q) :
    RunL P n0 ops (o :: rest) ⟨⟨sz, t⟩, df, ⟨objs, gl, esc⟩⟩ Q := by
  subst hk; subst hobs
  refine .o hV hd hw hw' (x := .ptr objs.length 0) (h' := ⟨objs ++ [.cells ys], gl, esc⟩) rfl ?_ rfl hq
  unfold aop
  rw [ho]
  unfold zeroC at hz
  cases hb : (P.info? ty).bind (·.zero) with
  | none => rw [hb] at hz; cases hz
  | some z =>
    rw [hb] at hz
    simp only [Option.bind_some, Option.map_eq_some_iff] at hz
    obtain ⟨x, h1, rfl⟩ := hz
    simp only [aalloc, hb, h1, OO.ofH]
    rfl

/-- How far into a struct a field lies. -/
def fieldOff (P : Program) (s : TypeId) (f : Nat) : Option Nat :=
  match P.underlying s with
  | some (.struct fs) => match fs[f]? with
    | some fd => match szT P fd.type with
      | some 0 => none
      | some _ => some fd.offset
      | none => none
    | none => none
  | _ => none

theorem afieldAddr_off {s : TypeId} {x : AV} {f fo : Nat} (h : fieldOff P s f = some fo) : afieldAddr P s x f = x.on fo := by
  unfold fieldOff at h
  unfold afieldAddr
  split at h
  · rename_i fs hu
    simp only [hu]
    split at h
    · rename_i fd hfd
      simp only [hfd]
      split at h
      · cases h
      · rename_i n hn hsz
        cases h
        simp only [hsz]
      · cases h
    · cases h
  · cases h

variable {h : AH}

theorem RunL.oFp (hV : V.ok P) {o : Oper} {rest : List Oper} {d : Nat} {ty : TypeId} {X : Operand} {f fo k off off' : Nat} {x : AV} (ho : o.op = .fieldAddr ty X f) (hx : aeval ⟨sz, t⟩ X = some x) (hx' : x = .ptr k off) (hf : fieldOff P ty f = some fo) (hd : o.dst = some d) (hw : awanted o ops ⟨sz, t⟩ = w) (hw' : w = some true)
    (hoff : off + fo = off') (hq : RunL P n0 ops rest ⟨⟨sz, .upd t d (.ptr k off')⟩, df, h⟩ Q) : RunL P n0 ops (o :: rest) ⟨⟨sz, t⟩, df, h⟩ Q := by
  subst hx'; subst hoff
  refine .o hV hd hw hw' (x := .ptr k (off + fo)) (h' := h) rfl ?_ rfl hq
  unfold aop
  rw [ho]
  simp only [hx, afieldAddr_off hf]
  rfl

theorem RunL.oFr (hV : V.ok P) {o : Oper} {rest : List Oper} {d : Nat} {ty : TypeId} {X : Operand} {f fo : Nat} {x : AV} {cs cs' : List AV} (ho : o.op = .fieldAddr ty X f) (hx : aeval ⟨sz, t⟩ X = some x) (hx' : x = .rptr cs) (hf : fieldOff P ty f = some fo) (hd : o.dst = some d) (hw : awanted o ops ⟨sz, t⟩ = w) (hw' : w = some true)
    (hcs : cs.drop fo = cs') (hq : RunL P n0 ops rest ⟨⟨sz, .upd t d (.rptr cs')⟩, df, h⟩ Q) : RunL P n0 ops (o :: rest) ⟨⟨sz, t⟩, df, h⟩ Q := by
  subst hx'; subst hcs
  refine .o hV hd hw hw' (x := .rptr (cs.drop fo)) (h' := h) rfl ?_ rfl hq
  unfold aop
  rw [ho]
  simp only [hx, afieldAddr_off hf]
  rfl

/-- A load of a struct or an array. -/
theorem RunL.oLa (hV : V.ok P) {o : Oper} {rest : List Oper} {d : Nat} {ty : TypeId} {X : Operand} {n n' : Nat} {x : AV} {cs cs' : List AV} (ho : o.op = .load ty X) (hag : isAggT P ty = some true) (hn : szT P ty = some n') (hn' : n' = n) (hx : aeval ⟨sz, t⟩ X = some x) (hc : cellsAt h x = some cs) (hd : o.dst = some d) (hw : awanted o ops ⟨sz, t⟩ = w) (hw' : w = some true)
    (hle : Nat.ble n cs.length = true) (hcs : cs.take n = cs') (hq : RunL P n0 ops rest ⟨⟨sz, .upd t d (.agg cs')⟩, df, h⟩ Q) : RunL P n0 ops (o :: rest) ⟨⟨sz, t⟩, df, h⟩ Q := by
  subst hcs; subst hn'
  refine .o hV hd hw hw' (x := .agg (cs.take n')) (h' := h) rfl ?_ rfl hq
  unfold aop
  rw [ho]
  simp only [hx, aload, hc, apart', hag, hn, Nat.le_of_ble_eq_true hle, if_true, OO.of]

end

end Go.Proofs.YtgikapdeekepiaaGreatDoor
