/- Regions that draw their order, in open proofs: the lexical run step by step, calls by contract. -/
import Derived.Test.YtgikapdeekepiaaGreatDoorEvQ
set_option linter.unusedSimpArgs false
namespace Go.Proofs.YtgikapdeekepiaaGreatDoor
open Go

section
variable {P : Program} {V : Env} {call : CallF} {ops : Array Oper}

theorem Run.draw {n0 : Nat} {s : AS} {Q : AX → AS → Prop} (hV : V.ok P) (hcall : ∀ f args h, CallOK P f args h (call f args h)) {id : Nat} {xs : List (Bool × AV)} {st : List (FT × AH)} {F : FT} {H : AH}
    (hl : lexRun P V call ops ops.toList s.fr s.h = some (xs, st))
    (hc : (chkStatic ops (befL ops.toList []) && drawCheck P V call (drawDC ops (befL ops.toList []) ((List.range ops.size).filter (emod ops.toList xs)) xs st)) = true)
    (hf : st[ops.size]? = some (F, H)) (hq : Q .normal { s with fr := F, h := H }) : Run P n0 (.region id ops true) s Q := by
  intro Γ0 w0 Γ a w hn hr he
  refine Code.wp_mono (fun e a' w' h' => ⟨_, _, hq, h'⟩) (evDraw_ok hV hcall (s := s) (s' := { s with fr := F, h := H }) (x := .normal) ?_ hr he)
  unfold evDraw
  rw [hl]
  simp only [hc, if_true, hf]

theorem lex_nil {fr : FT} {h : AH} : lexRun P V call ops [] fr h = some ([], [(fr, h)]) := rfl

theorem lex_cons {o : Oper} {rest : List Oper} {fr : FT} {h h' : AH} {x : AV} {xs : List (Bool × AV)} {st : List (FT × AH)} (hw : awanted o ops fr = some true) (hs : stepD P V call fr h o = some (x, h'))
    (hr : lexRun P V call ops rest (fput fr o.dst x) h' = some (xs, st)) : lexRun P V call ops (o :: rest) fr h = some ((true, x) :: xs, (fr, h) :: st) := by
  simp only [lexRun, hw, hs, hr]

theorem lex_skip {o : Oper} {rest : List Oper} {fr : FT} {h : AH} {xs : List (Bool × AV)} {st : List (FT × AH)} (hw : awanted o ops fr = some false)
    (hr : lexRun P V call ops rest (fput fr o.dst (.tuple [])) h = some (xs, st)) : lexRun P V call ops (o :: rest) fr h = some ((false, .tuple []) :: xs, (fr, h) :: st) := by
  simp only [lexRun, hw, hr]

theorem stepD_ok {o : Oper} {fr : FT} {h h' : AH} {x : AV} (ha : aop P V fr h o = .ok x h') : stepD P V call fr h o = some (x, h') := by
  unfold stepD; rw [ha]

theorem stepD_call {o : Oper} {fr : FT} {h h' : AH} {f : FuncId} {args : List AV} {r : AV} (ha : aop P V fr h o = .enter f args) (hc : call f args h = .ret r h') : stepD P V call fr h o = some (r, h') := by
  unfold stepD; rw [ha]; simp only [hc]

theorem stepD_indexAddr {o : Oper} {fr : FT} {h : AH} {t : TypeId} {X I : Operand} {x i y : AV} (ho : o.op = .indexAddr t X I) (hx : aeval fr X = some x) (hi : aeval fr I = some i) (hy : aindexAddr P t x i = some y) :
    stepD P V call fr h o = some (y, h) := by
  apply stepD_ok
  unfold aop
  rw [ho]
  simp only [hx, hi, hy, OO.of]

theorem stepD_load {o : Oper} {fr : FT} {h : AH} {t : TypeId} {X : Operand} {x y : AV} (ho : o.op = .load t X) (hx : aeval fr X = some x) (hy : aload P h t x = some y) :
    stepD P V call fr h o = some (y, h) := by
  apply stepD_ok
  unfold aop
  rw [ho]
  simp only [hx, hy, OO.of]

end

end Go.Proofs.YtgikapdeekepiaaGreatDoor
