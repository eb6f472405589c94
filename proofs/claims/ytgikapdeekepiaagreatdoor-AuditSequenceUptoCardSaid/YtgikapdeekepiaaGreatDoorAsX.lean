/- AuditSequence: contracts of NaN, key, Order of floats; Order and Same of values. -/
import Derived.Test.YtgikapdeekepiaaGreatDoorAsW
namespace Go.Proofs.YtgikapdeekepiaaGreatDoor
open Go
set_option maxRecDepth 100000
set_option maxHeartbeats 1000000
set_option linter.unusedVariables false

def nanB (f : Nat) : Bool := decide (IntKind.u64.wrap ((f : Int) * 2 ^ 1) > 18437736874454810624)

theorem nan_ok (f : Nat) : Fn Tryz.prog 67 [.float .f64 f] fun x => x = .bool (nanB f) := by
  show Fn Tryz.prog 67 [.float .f64 f] _
  refine Fn.mk1 Tryz.func67 rfl (by (repeat' (first | exact .flat rfl | exact PureL.nil | assumption | apply PureL.cons | apply Pure.agg' | apply Pure.tuple' | apply Pure.rptr' | exact pure_strs _ | exact pure_items _ | exact pure_val _))) (by (repeat' (first | exact .flat rfl | exact PureL.nil | assumption | apply PureL.cons | apply Pure.agg' | apply Pure.tuple' | apply Pure.rptr' | exact pure_strs _ | exact pure_items _ | exact pure_val _))) ?_
  rw [show enterFr Tryz.f67 [.float .f64 f] = ⟨9, .upd .emp 0 (.float .f64 f)⟩ from rfl]
  repeat' (first
    | (with_reducible refine andThen_normal ?_)
    | (with_reducible refine andThen_ret ?_)
    | (with_reducible refine inBlk_normal ?_)
    | (with_reducible refine inBlk_ret ?_)
    | (with_reducible refine inBlk_hit ?_)
    | (with_reducible refine andThen_exit ?_)
    | ((with_reducible refine inBlk_miss ?_ ?_); (· rfl))
    | (with_reducible refine Run.seq ?_)
    | (with_reducible refine Run.skip ?_)
    | (with_reducible refine Run.ret ?_)
    | (with_reducible refine Run.exit ?_)
    | (with_reducible refine Run.block ?_)
    | (with_reducible refine Run.scope ?_)
    | (with_reducible refine Run.label ?_)
    | ((with_reducible refine Run.regionSelf ?_); ((with_reducible apply Run.lst); (· conv => lhs; whnf)))
    | (with_reducible refine RunL.nil ?_)
    | ((with_reducible refine RunL.self ?_); (first
      | ((with_reducible apply RunL.oFp v0_ok); (· rfl); (· rfl); (· rfl); (· rfl); (· rfl); (· conv => lhs; whnf); (· rfl); (· conv => lhs; whnf))
      | ((with_reducible apply RunL.oFr v0_ok); (· rfl); (· rfl); (· rfl); (· rfl); (· rfl); (· conv => lhs; whnf); (· rfl); (· conv => lhs; whnf))
      | ((with_reducible apply RunL.oBox v0_ok); (· rfl); (· rfl); (· conv => lhs; whnf); (· rfl); (· rfl); (· conv => lhs; whnf); (· conv => lhs; whnf); (· conv => lhs; simp only [List.length_cons, List.length_nil, Nat.zero_add, Nat.reduceAdd]); (· conv => lhs; simp only [List.cons_append, List.nil_append]))
      | ((with_reducible apply RunL.oAl v0_ok); (· rfl); (· fail); (· rfl); (· conv => lhs; whnf); (· rfl); (· conv => lhs; simp only [List.length_cons, List.length_nil, Nat.zero_add, Nat.reduceAdd]); (· conv => lhs; simp only [List.cons_append, List.nil_append]))
      | ((with_reducible apply RunL.oSt); (· rfl); (· rfl); (· conv => lhs; whnf); (· rfl); (· rfl); (· rfl); (· rfl); (· rfl); (· conv => lhs; whnf); (· conv => lhs; whnf); (· rfl); (· rfl); (· rfl); (· conv => lhs; simp only [setAll, List.set_cons_zero, List.set_cons_succ, Nat.reduceAdd, Nat.zero_add]); (· conv => lhs; simp only [List.set_cons_zero, List.set_cons_succ]); (· (repeat' (first | exact .flat rfl | exact PureL.nil | assumption | apply PureL.cons | apply Pure.agg' | apply Pure.tuple' | apply Pure.rptr' | exact pure_strs _ | exact pure_items _ | exact pure_val _)); done))
      | ((with_reducible apply RunL.oStM); (· rfl); (· rfl); (· conv => lhs; whnf); (· rfl); (· rfl); (· rfl); (· rfl); (· rfl); (· conv => lhs; whnf); (· conv => lhs; whnf); (· rfl); (· rfl); (· rfl); (· conv => lhs; simp only [setAll, List.set_cons_zero, List.set_cons_succ, Nat.reduceAdd, Nat.zero_add]); (· conv => lhs; simp only [List.set_cons_zero, List.set_cons_succ]); (· conv => lhs; whnf))
      | ((with_reducible apply RunL.oLa v0_ok); (· rfl); (· rfl); (· rfl); (· conv => lhs; whnf); (· rfl); (· rfl); (· rfl); (· conv => lhs; whnf); (· rfl); (· rfl); (· conv => lhs; simp only [List.drop_zero, List.drop_succ_cons, List.take_succ_cons, List.take_zero]))
      | ((with_reducible apply RunL.oI v0_ok); (· rfl); (· rfl); (· rfl); (· rfl); (· rfl); (· exact aindexAddr_arrN (by rfl) (by rfl) (by omega)))
      | ((with_reducible apply RunL.o v0_ok); (· rfl); (· conv => lhs; whnf); (· rfl); (· conv => lhs; whnf); (· rfl); (· conv => lhs; whnf); try ((with_reducible apply RunL.spl); (all_goals (intro hb <;> (try simp only [List.length_map] at hb) <;> (first | replace hb := bne_iff_ne.1 hb | replace hb := bne_eq_false_iff_eq.1 hb | replace hb := of_decide_eq_true hb | replace hb := of_decide_eq_false hb | replace hb := eq_of_beq hb | replace hb := ne_of_beq_false hb | skip) <;> (first | contradiction | (exfalso; omega) | skip)))))
      | ((with_reducible apply RunL.oS); (· rfl); (· conv => lhs; whnf); (· rfl))
      | ((with_reducible apply RunL.oN v0_ok); (· rfl); (· rfl); (· rfl))
      | ((with_reducible apply RunL.oSN); (· rfl); (· rfl))))
    | ((with_reducible refine Run.condSelf ?_); (first
      | ((with_reducible apply Run.condT); (· rfl))
      | ((with_reducible apply Run.condF); (· rfl))
      | ((with_reducible apply Run.condK); (· rfl); (all_goals (intro hb <;> (try simp only [List.length_map] at hb) <;> (first | replace hb := bne_iff_ne.1 hb | replace hb := bne_eq_false_iff_eq.1 hb | replace hb := of_decide_eq_true hb | replace hb := of_decide_eq_false hb | replace hb := eq_of_beq hb | replace hb := ne_of_beq_false hb | skip) <;> (first | contradiction | (exfalso; omega) | skip)))))))
  all_goals
    change EndF _ _ _ _ _
    refine EndF.mk (.inr rfl) rfl (by rfl) (by conv => lhs; whnf) (.pure (.flat rfl)) ?_
    first | exact congrArg AV.bool (decide_eq_true (by assumption)).symm | exact congrArg AV.bool (decide_eq_false (by assumption)).symm

def keyI (f : Nat) : Int := if nanB f then 9223372036854775807 else if (f : Int) ≥ 9223372036854775808 then IntKind.i64.wrap (-1 - IntKind.i64.wrap (IntKind.u64.wrap ((f : Int) - 9223372036854775808))) else IntKind.i64.wrap (f : Int)

theorem key_ok (f : Nat) : Fn Tryz.prog 56 [.float .f64 f] fun x => x = .int .i64 (keyI f) := by
  show Fn Tryz.prog 56 [.float .f64 f] _
  refine Fn.mk1 Tryz.func56 rfl (by (repeat' (first | exact .flat rfl | exact PureL.nil | assumption | apply PureL.cons | apply Pure.agg' | apply Pure.tuple' | apply Pure.rptr' | exact pure_strs _ | exact pure_items _ | exact pure_val _))) (by (repeat' (first | exact .flat rfl | exact PureL.nil | assumption | apply PureL.cons | apply Pure.agg' | apply Pure.tuple' | apply Pure.rptr' | exact pure_strs _ | exact pure_items _ | exact pure_val _))) ?_
  rw [show enterFr Tryz.f56 [.float .f64 f] = ⟨16, .upd .emp 0 (.float .f64 f)⟩ from rfl]
  repeat' (first
    | (with_reducible refine andThen_normal ?_)
    | (with_reducible refine andThen_ret ?_)
    | (with_reducible refine inBlk_normal ?_)
    | (with_reducible refine inBlk_ret ?_)
    | (with_reducible refine inBlk_hit ?_)
    | (with_reducible refine andThen_exit ?_)
    | ((with_reducible refine inBlk_miss ?_ ?_); (· rfl))
    | (with_reducible refine Run.seq ?_)
    | (with_reducible refine Run.skip ?_)
    | (with_reducible refine Run.ret ?_)
    | (with_reducible refine Run.exit ?_)
    | (with_reducible refine Run.block ?_)
    | (with_reducible refine Run.scope ?_)
    | (with_reducible refine Run.label ?_)
    | ((with_reducible refine Run.regionSelf ?_); ((with_reducible apply Run.lst); (· conv => lhs; whnf)))
    | (with_reducible refine RunL.nil ?_)
    | ((with_reducible refine RunL.self ?_); (first
      | ((with_reducible apply RunL.oFp v0_ok); (· rfl); (· rfl); (· rfl); (· rfl); (· rfl); (· conv => lhs; whnf); (· rfl); (· conv => lhs; whnf))
      | ((with_reducible apply RunL.oFr v0_ok); (· rfl); (· rfl); (· rfl); (· rfl); (· rfl); (· conv => lhs; whnf); (· rfl); (· conv => lhs; whnf))
      | ((with_reducible apply RunL.oBox v0_ok); (· rfl); (· rfl); (· conv => lhs; whnf); (· rfl); (· rfl); (· conv => lhs; whnf); (· conv => lhs; whnf); (· conv => lhs; simp only [List.length_cons, List.length_nil, Nat.zero_add, Nat.reduceAdd]); (· conv => lhs; simp only [List.cons_append, List.nil_append]))
      | ((with_reducible apply RunL.oAl v0_ok); (· rfl); (· fail); (· rfl); (· conv => lhs; whnf); (· rfl); (· conv => lhs; simp only [List.length_cons, List.length_nil, Nat.zero_add, Nat.reduceAdd]); (· conv => lhs; simp only [List.cons_append, List.nil_append]))
      | ((with_reducible apply RunL.oSt); (· rfl); (· rfl); (· conv => lhs; whnf); (· rfl); (· rfl); (· rfl); (· rfl); (· rfl); (· conv => lhs; whnf); (· conv => lhs; whnf); (· rfl); (· rfl); (· rfl); (· conv => lhs; simp only [setAll, List.set_cons_zero, List.set_cons_succ, Nat.reduceAdd, Nat.zero_add]); (· conv => lhs; simp only [List.set_cons_zero, List.set_cons_succ]); (· (repeat' (first | exact .flat rfl | exact PureL.nil | assumption | apply PureL.cons | apply Pure.agg' | apply Pure.tuple' | apply Pure.rptr' | exact pure_strs _ | exact pure_items _ | exact pure_val _)); done))
      | ((with_reducible apply RunL.oStM); (· rfl); (· rfl); (· conv => lhs; whnf); (· rfl); (· rfl); (· rfl); (· rfl); (· rfl); (· conv => lhs; whnf); (· conv => lhs; whnf); (· rfl); (· rfl); (· rfl); (· conv => lhs; simp only [setAll, List.set_cons_zero, List.set_cons_succ, Nat.reduceAdd, Nat.zero_add]); (· conv => lhs; simp only [List.set_cons_zero, List.set_cons_succ]); (· conv => lhs; whnf))
      | ((with_reducible apply RunL.oLa v0_ok); (· rfl); (· rfl); (· rfl); (· conv => lhs; whnf); (· rfl); (· rfl); (· rfl); (· conv => lhs; whnf); (· rfl); (· rfl); (· conv => lhs; simp only [List.drop_zero, List.drop_succ_cons, List.take_succ_cons, List.take_zero]))
      | ((with_reducible apply RunL.oI v0_ok); (· rfl); (· rfl); (· rfl); (· rfl); (· rfl); (· exact aindexAddr_arrN (by rfl) (by rfl) (by omega)))
      | ((with_reducible apply RunL.o v0_ok); (· rfl); (· conv => lhs; whnf); (· rfl); (· conv => lhs; whnf); (· rfl); (· conv => lhs; whnf); try ((with_reducible apply RunL.spl); (all_goals (intro hb <;> (try simp only [List.length_map] at hb) <;> (first | replace hb := bne_iff_ne.1 hb | replace hb := bne_eq_false_iff_eq.1 hb | replace hb := of_decide_eq_true hb | replace hb := of_decide_eq_false hb | replace hb := eq_of_beq hb | replace hb := ne_of_beq_false hb | skip) <;> (first | contradiction | (exfalso; omega) | skip)))))
      | ((with_reducible apply RunL.oS); (· rfl); (· conv => lhs; whnf); (· rfl))
      | ((with_reducible apply RunL.oN v0_ok); (· rfl); (· rfl); (· rfl))
      | ((with_reducible apply RunL.oSN); (· rfl); (· rfl))
      | ((with_reducible apply RunL.oF1 v0_ok (nan_ok _)); (· rfl); (· rfl); (· rfl))))
    | ((with_reducible refine Run.condSelf ?_); (first
      | ((with_reducible apply Run.condT); (· rfl))
      | ((with_reducible apply Run.condF); (· rfl))
      | ((with_reducible apply Run.condK); (· rfl); (all_goals (intro hb <;> (try simp only [List.length_map] at hb) <;> (first | replace hb := bne_iff_ne.1 hb | replace hb := bne_eq_false_iff_eq.1 hb | replace hb := of_decide_eq_true hb | replace hb := of_decide_eq_false hb | replace hb := eq_of_beq hb | replace hb := ne_of_beq_false hb | skip) <;> (first | contradiction | (exfalso; omega) | skip)))))))
  all_goals
    change EndF _ _ _ _ _
    refine EndF.mk (.inr rfl) rfl (by rfl) (by conv => lhs; whnf) (.pure (.flat rfl)) ?_
    show AV.int _ _ = AV.int _ _
    unfold keyI nanB
    simp only [decide_eq_true_eq]
    (repeat' split) <;> first | rfl | contradiction | omega

theorem order3_ok (f g : Nat) : Fn Tryz.prog 41 [.float .f64 f, .float .f64 g] fun x => x = .int .i64 (signI (keyI f) (keyI g)) := by
  show Fn Tryz.prog 41 [.float .f64 f, .float .f64 g] _
  refine Fn.mk1 Tryz.func41 rfl (by (repeat' (first | exact .flat rfl | exact PureL.nil | assumption | apply PureL.cons | apply Pure.agg' | apply Pure.tuple' | apply Pure.rptr' | exact pure_strs _ | exact pure_items _ | exact pure_val _))) (by (repeat' (first | exact .flat rfl | exact PureL.nil | assumption | apply PureL.cons | apply Pure.agg' | apply Pure.tuple' | apply Pure.rptr' | exact pure_strs _ | exact pure_items _ | exact pure_val _))) ?_
  rw [show enterFr Tryz.f41 [.float .f64 f, .float .f64 g] = ⟨17, .upd (.upd .emp 0 (.float .f64 f)) 1 (.float .f64 g)⟩ from rfl]
  repeat' (first
    | (with_reducible refine andThen_normal ?_)
    | (with_reducible refine andThen_ret ?_)
    | (with_reducible refine inBlk_normal ?_)
    | (with_reducible refine inBlk_ret ?_)
    | (with_reducible refine inBlk_hit ?_)
    | (with_reducible refine andThen_exit ?_)
    | ((with_reducible refine inBlk_miss ?_ ?_); (· rfl))
    | (with_reducible refine Run.seq ?_)
    | (with_reducible refine Run.skip ?_)
    | (with_reducible refine Run.ret ?_)
    | (with_reducible refine Run.exit ?_)
    | (with_reducible refine Run.block ?_)
    | (with_reducible refine Run.scope ?_)
    | (with_reducible refine Run.label ?_)
    | ((with_reducible refine Run.regionSelf ?_); ((with_reducible apply Run.lst); (· conv => lhs; whnf)))
    | (with_reducible refine RunL.nil ?_)
    | ((with_reducible refine RunL.self ?_); (first
      | ((with_reducible apply RunL.oFp v0_ok); (· rfl); (· rfl); (· rfl); (· rfl); (· rfl); (· conv => lhs; whnf); (· rfl); (· conv => lhs; whnf))
      | ((with_reducible apply RunL.oFr v0_ok); (· rfl); (· rfl); (· rfl); (· rfl); (· rfl); (· conv => lhs; whnf); (· rfl); (· conv => lhs; whnf))
      | ((with_reducible apply RunL.oBox v0_ok); (· rfl); (· rfl); (· conv => lhs; whnf); (· rfl); (· rfl); (· conv => lhs; whnf); (· conv => lhs; whnf); (· conv => lhs; simp only [List.length_cons, List.length_nil, Nat.zero_add, Nat.reduceAdd]); (· conv => lhs; simp only [List.cons_append, List.nil_append]))
      | ((with_reducible apply RunL.oAl v0_ok); (· rfl); (· fail); (· rfl); (· conv => lhs; whnf); (· rfl); (· conv => lhs; simp only [List.length_cons, List.length_nil, Nat.zero_add, Nat.reduceAdd]); (· conv => lhs; simp only [List.cons_append, List.nil_append]))
      | ((with_reducible apply RunL.oSt); (· rfl); (· rfl); (· conv => lhs; whnf); (· rfl); (· rfl); (· rfl); (· rfl); (· rfl); (· conv => lhs; whnf); (· conv => lhs; whnf); (· rfl); (· rfl); (· rfl); (· conv => lhs; simp only [setAll, List.set_cons_zero, List.set_cons_succ, Nat.reduceAdd, Nat.zero_add]); (· conv => lhs; simp only [List.set_cons_zero, List.set_cons_succ]); (· (repeat' (first | exact .flat rfl | exact PureL.nil | assumption | apply PureL.cons | apply Pure.agg' | apply Pure.tuple' | apply Pure.rptr' | exact pure_strs _ | exact pure_items _ | exact pure_val _)); done))
      | ((with_reducible apply RunL.oStM); (· rfl); (· rfl); (· conv => lhs; whnf); (· rfl); (· rfl); (· rfl); (· rfl); (· rfl); (· conv => lhs; whnf); (· conv => lhs; whnf); (· rfl); (· rfl); (· rfl); (· conv => lhs; simp only [setAll, List.set_cons_zero, List.set_cons_succ, Nat.reduceAdd, Nat.zero_add]); (· conv => lhs; simp only [List.set_cons_zero, List.set_cons_succ]); (· conv => lhs; whnf))
      | ((with_reducible apply RunL.oLa v0_ok); (· rfl); (· rfl); (· rfl); (· conv => lhs; whnf); (· rfl); (· rfl); (· rfl); (· conv => lhs; whnf); (· rfl); (· rfl); (· conv => lhs; simp only [List.drop_zero, List.drop_succ_cons, List.take_succ_cons, List.take_zero]))
      | ((with_reducible apply RunL.oI v0_ok); (· rfl); (· rfl); (· rfl); (· rfl); (· rfl); (· exact aindexAddr_arrN (by rfl) (by rfl) (by omega)))
      | ((with_reducible apply RunL.o v0_ok); (· rfl); (· conv => lhs; whnf); (· rfl); (· conv => lhs; whnf); (· rfl); (· conv => lhs; whnf); try ((with_reducible apply RunL.spl); (all_goals (intro hb <;> (try simp only [List.length_map] at hb) <;> (first | replace hb := bne_iff_ne.1 hb | replace hb := bne_eq_false_iff_eq.1 hb | replace hb := of_decide_eq_true hb | replace hb := of_decide_eq_false hb | replace hb := eq_of_beq hb | replace hb := ne_of_beq_false hb | skip) <;> (first | contradiction | (exfalso; omega) | skip)))))
      | ((with_reducible apply RunL.oS); (· rfl); (· conv => lhs; whnf); (· rfl))
      | ((with_reducible apply RunL.oN v0_ok); (· rfl); (· rfl); (· rfl))
      | ((with_reducible apply RunL.oSN); (· rfl); (· rfl))
      | ((with_reducible apply RunL.oF1 v0_ok (key_ok _)); (· rfl); (· rfl); (· rfl))))
    | ((with_reducible refine Run.condSelf ?_); (first
      | ((with_reducible apply Run.condT); (· rfl))
      | ((with_reducible apply Run.condF); (· rfl))
      | ((with_reducible apply Run.condK); (· rfl); (all_goals (intro hb <;> (try simp only [List.length_map] at hb) <;> (first | replace hb := bne_iff_ne.1 hb | replace hb := bne_eq_false_iff_eq.1 hb | replace hb := of_decide_eq_true hb | replace hb := of_decide_eq_false hb | replace hb := eq_of_beq hb | replace hb := ne_of_beq_false hb | skip) <;> (first | contradiction | (exfalso; omega) | skip)))))))
  all_goals
    change EndF _ _ _ _ _
    refine EndF.mk (.inr rfl) rfl (by rfl) (by conv => lhs; whnf) (.pure (.flat rfl)) ?_
    show AV.int _ _ = AV.int _ _
    unfold signI
    (repeat' split) <;> first | rfl | contradiction | omega

end Go.Proofs.YtgikapdeekepiaaGreatDoor
