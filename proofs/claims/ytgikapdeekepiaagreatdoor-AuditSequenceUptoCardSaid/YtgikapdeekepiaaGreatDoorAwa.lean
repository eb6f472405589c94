/- AuditSequence: the document's lattice: close, Join, Meet. -/
import Derived.Test.YtgikapdeekepiaaGreatDoorAs9
namespace Go.Proofs.YtgikapdeekepiaaGreatDoor
open Go
set_option maxRecDepth 100000
set_option maxHeartbeats 1000000
set_option linter.unusedVariables false

def upd2 (le : Nat → Nat → Bool) (a b : Nat) : Nat → Nat → Bool := fun i j => if i = a ∧ j = b then true else le i j

theorem leCells_set {le : Nat → Nat → Bool} {a b : Nat} (h : a < 8) (h' : b < 8) : (leCells le).set (a * 8 + b) (.bool true) = leCells (upd2 le a b) := by
  apply List.ext_getElem?
  intro i
  by_cases hi : a * 8 + b = i
  · subst hi
    rw [List.getElem?_set_self (by rw [leCells_len]; omega), leCells_get (by omega), upd2, if_pos (by omega)]
  · rw [List.getElem?_set_ne hi]
    by_cases h8 : i < 64
    · rw [leCells_get h8, leCells_get h8, upd2, if_neg (by omega)]
    · rw [List.getElem?_eq_none (by rw [leCells_len]; omega), List.getElem?_eq_none (by rw [leCells_len]; omega)]

theorem set_le {n : Int} {le : Nat → Nat → Bool} {a b : Nat} (h : a < 8) (h' : b < 8) : StoreAt (refL n le) (1 + a * 8 + b * 1) (.bool true) (refL n (upd2 le a b)) := by
  refine ⟨by simp [leCells_len]; omega, ?_⟩
  rw [show 1 + a * 8 + b * 1 = (a * 8 + b) + 1 from by omega, List.set_cons_succ, leCells_set h h']

def stepC' (a b : Nat) (le : Nat → Nat → Bool) (c : Nat) : Nat → Nat → Bool := if le a b = true ∧ le b c = true then upd2 le a c else le
def sweepC (n a : Nat) (le : Nat → Nat → Bool) (b : Nat) : Nat → Nat → Bool := (List.range n).foldl (stepC' a b) le
def sweepB (n : Nat) (le : Nat → Nat → Bool) (a : Nat) : Nat → Nat → Bool := (List.range n).foldl (sweepC n a) le
def sweep (n : Nat) (le : Nat → Nat → Bool) (_ : Nat) : Nat → Nat → Bool := (List.range n).foldl (sweepB n) le
def refClose (n : Nat) (le : Nat → Nat → Bool) : Nat → Nat → Bool := (List.range 8).foldl (sweep n) le

theorem setAll_tail : ∀ (zs ys pre : List AV), ys.length = zs.length → setAll (pre ++ ys) pre.length zs = pre ++ zs
  | [], [], pre, _ => by simp [setAll]
  | z :: zs, y :: ys, pre, h => by
    have ih := setAll_tail zs ys (pre ++ [z]) (by simpa using h)
    simp only [setAll]
    rw [List.set_append_right _ _ (Nat.le_refl _), Nat.sub_self, List.set_cons_zero]
    simpa using ih
  | [], _ :: _, _, h => by simp at h
  | _ :: _, [], _, h => by simp at h

theorem setAll_le (x : AV) (a b : Nat → Nat → Bool) : setAll (x :: leCells a) 1 (leCells b) = x :: leCells b :=
  setAll_tail (leCells b) (leCells a) [x] (by simp [leCells_len])

theorem z33 : zeroC Tryz.prog 33 = some (refL 0 noL) := by rfl

theorem refClose_ok (n : Nat) (hn : n ≤ 8) (le : Nat → Nat → Bool) : Fn Tryz.prog 21 [.agg (refL n le)] fun y => y = .agg (refL n (refClose n le)) := by
  show Fn Tryz.prog 21 [.agg (refL n le)] _
  refine Fn.mk1 Tryz.func21 rfl (by (repeat' (first | exact .flat rfl | exact PureL.nil | assumption | apply PureL.cons | apply Pure.agg' | apply Pure.tuple' | apply Pure.rptr' | exact pure_refL _ _))) (by (repeat' (first | exact .flat rfl | exact PureL.nil | assumption | apply PureL.cons | apply Pure.agg' | apply Pure.tuple' | apply Pure.rptr' | exact pure_refL _ _))) ?_
  rw [show enterFr Tryz.f21 [.agg (refL n le)] = ⟨49, .upd .emp 0 (.agg (refL n le))⟩ from rfl]
  repeat' (first
    | (with_reducible refine andThen_normal ?_)
    | (with_reducible refine andThen_ret ?_)
    | (with_reducible refine inBlk_normal ?_)
    | (with_reducible refine inBlk_ret ?_)
    | (with_reducible refine inBlk_hit ?_)
    | (with_reducible refine andThen_exit ?_)
    | ((with_reducible refine inBlk_miss ?_ ?_); (· rfl))
    | (with_reducible refine Run.seq ?_)
    | (with_reducible refine Run.skip ?_)
    | (with_reducible refine Run.ret ?_)
    | (with_reducible refine Run.exit ?_)
    | (with_reducible refine Run.block ?_)
    | (with_reducible refine Run.scope ?_)
    | (with_reducible refine Run.label ?_)
    | ((with_reducible refine Run.regionSelf ?_); ((with_reducible apply Run.lst); (· conv => lhs; whnf)))
    | (with_reducible refine RunL.nil ?_)
    | ((with_reducible refine RunL.self ?_); (first
      | ((with_reducible apply RunL.oFp v0_ok); (· rfl); (· rfl); (· rfl); (· rfl); (· rfl); (· conv => lhs; whnf); (· rfl); (· conv => lhs; whnf))
      | ((with_reducible apply RunL.oFr v0_ok); (· rfl); (· rfl); (· rfl); (· rfl); (· rfl); (· conv => lhs; whnf); (· rfl); (· conv => lhs; whnf))
      | ((with_reducible apply RunL.oBox v0_ok); (· rfl); (· rfl); (· conv => lhs; whnf); (· rfl); (· rfl); (· conv => lhs; whnf); (· conv => lhs; whnf); (· conv => lhs; simp only [List.length_cons, List.length_nil, Nat.zero_add, Nat.reduceAdd]); (· conv => lhs; simp only [List.cons_append, List.nil_append]))
      | ((with_reducible apply RunL.oAl v0_ok); (· rfl); (· first | exact z33); (· rfl); (· conv => lhs; whnf); (· rfl); (· conv => lhs; simp only [List.length_cons, List.length_nil, Nat.zero_add, Nat.reduceAdd]); (· conv => lhs; simp only [List.cons_append, List.nil_append]))
      | ((with_reducible apply RunL.oSt); (· rfl); (· rfl); (· conv => lhs; whnf); (· rfl); (· rfl); (· rfl); (· rfl); (· rfl); (· conv => lhs; whnf); (· conv => lhs; whnf); (· rfl); (· rfl); (· rfl); (· conv => lhs; simp only [setAll, List.set_cons_zero, List.set_cons_succ, Nat.reduceAdd, Nat.zero_add, setAll_le]); (· conv => lhs; simp only [List.set_cons_zero, List.set_cons_succ]); (· (repeat' (first | exact .flat rfl | exact PureL.nil | assumption | apply PureL.cons | apply Pure.agg' | apply Pure.tuple' | apply Pure.rptr' | exact pure_refL _ _)); done))
      | ((with_reducible apply RunL.oStM); (· rfl); (· rfl); (· conv => lhs; whnf); (· rfl); (· rfl); (· rfl); (· rfl); (· rfl); (· conv => lhs; whnf); (· conv => lhs; whnf); (· rfl); (· rfl); (· rfl); (· conv => lhs; simp only [setAll, List.set_cons_zero, List.set_cons_succ, Nat.reduceAdd, Nat.zero_add, setAll_le]); (· conv => lhs; simp only [List.set_cons_zero, List.set_cons_succ]); (· conv => lhs; whnf))
      | ((with_reducible apply RunL.oLa v0_ok); (· rfl); (· rfl); (· rfl); (· conv => lhs; whnf); (· rfl); (· rfl); (· rfl); (· conv => lhs; whnf); (· rfl); (· rfl); (· conv => lhs; simp only [List.drop_zero, List.drop_succ_cons, List.take_succ_cons, List.take_zero, take_leCells]))
      | ((with_reducible apply RunL.oI v0_ok); (· rfl); (· rfl); (· rfl); (· rfl); (· rfl); (· exact aindexAddr_arrN (by rfl) (by rfl) (by omega)))
      | ((with_reducible apply RunL.o v0_ok); (· rfl); (· conv => lhs; whnf); (· rfl); (· conv => lhs; whnf); (· rfl); (· conv => lhs; whnf); try ((with_reducible apply RunL.spl); (all_goals (intro hb <;> (try simp only [List.length_map] at hb) <;> (first | replace hb := bne_iff_ne.1 hb | replace hb := bne_eq_false_iff_eq.1 hb | replace hb := of_decide_eq_true hb | replace hb := of_decide_eq_false hb | replace hb := eq_of_beq hb | replace hb := ne_of_beq_false hb | skip) <;> (first | contradiction | (exfalso; omega) | skip)))))
      | ((with_reducible apply RunL.oS); (· rfl); (· conv => lhs; whnf); (· rfl))
      | ((with_reducible apply RunL.oN v0_ok); (· rfl); (· rfl); (· rfl))
      | ((with_reducible apply RunL.oSN); (· rfl); (· rfl))))
    | ((with_reducible refine Run.condSelf ?_); (first
      | ((with_reducible apply Run.condT); (· rfl))
      | ((with_reducible apply Run.condF); (· rfl))
      | ((with_reducible apply Run.condK); (· rfl); (all_goals (intro hb <;> (try simp only [List.length_map] at hb) <;> (first | replace hb := bne_iff_ne.1 hb | replace hb := bne_eq_false_iff_eq.1 hb | replace hb := of_decide_eq_true hb | replace hb := of_decide_eq_false hb | replace hb := eq_of_beq hb | replace hb := ne_of_beq_false hb | skip) <;> (first | contradiction | (exfalso; omega) | skip)))))))
  refine Run.loopK 49 (fun p : Nat × (Nat → Nat → Bool) => 8 - p.1) (fun p => p.1 ≤ 8 ∧ refClose n le = ((List.range 8).drop p.1).foldl (sweep n) p.2) (fun p => [(1, .ptr 0 0), (2, .ptr 1 0), (3, .int .i64 (p.1 : Int))])
    (fun p => ⟨[.cells (refL n p.2), .cells (refL 0 noL)], [], 1000000⟩) (0, le) ⟨Nat.zero_le _, rfl⟩ (.same rfl ⟨rfl, rfl, rfl, trivial⟩ rfl rfl) (fun ⟨r, L⟩ ⟨h1, h2⟩ => ?_)
  dsimp only at h1 h2 ⊢
  repeat' (first
    | (with_reducible refine andThen_normal ?_)
    | (with_reducible refine andThen_ret ?_)
    | (with_reducible refine inBlk_normal ?_)
    | (with_reducible refine inBlk_ret ?_)
    | (with_reducible refine inBlk_hit ?_)
    | (with_reducible refine andThen_exit ?_)
    | ((with_reducible refine inBlk_miss ?_ ?_); (· rfl))
    | (with_reducible refine Run.seq ?_)
    | (with_reducible refine Run.skip ?_)
    | (with_reducible refine Run.ret ?_)
    | (with_reducible refine Run.exit ?_)
    | (with_reducible refine Run.block ?_)
    | (with_reducible refine Run.scope ?_)
    | (with_reducible refine Run.label ?_)
    | ((with_reducible refine Run.regionSelf ?_); ((with_reducible apply Run.lst); (· conv => lhs; whnf)))
    | (with_reducible refine RunL.nil ?_)
    | ((with_reducible refine RunL.self ?_); (first
      | ((with_reducible apply RunL.oFp v0_ok); (· rfl); (· rfl); (· rfl); (· rfl); (· rfl); (· conv => lhs; whnf); (· rfl); (· conv => lhs; whnf))
      | ((with_reducible apply RunL.oFr v0_ok); (· rfl); (· rfl); (· rfl); (· rfl); (· rfl); (· conv => lhs; whnf); (· rfl); (· conv => lhs; whnf))
      | ((with_reducible apply RunL.oBox v0_ok); (· rfl); (· rfl); (· conv => lhs; whnf); (· rfl); (· rfl); (· conv => lhs; whnf); (· conv => lhs; whnf); (· conv => lhs; simp only [List.length_cons, List.length_nil, Nat.zero_add, Nat.reduceAdd]); (· conv => lhs; simp only [List.cons_append, List.nil_append]))
      | ((with_reducible apply RunL.oAl v0_ok); (· rfl); (· first | exact z33); (· rfl); (· conv => lhs; whnf); (· rfl); (· conv => lhs; simp only [List.length_cons, List.length_nil, Nat.zero_add, Nat.reduceAdd]); (· conv => lhs; simp only [List.cons_append, List.nil_append]))
      | ((with_reducible apply RunL.oSt); (· rfl); (· rfl); (· conv => lhs; whnf); (· rfl); (· rfl); (· rfl); (· rfl); (· rfl); (· conv => lhs; whnf); (· conv => lhs; whnf); (· rfl); (· rfl); (· rfl); (· conv => lhs; simp only [setAll, List.set_cons_zero, List.set_cons_succ, Nat.reduceAdd, Nat.zero_add, setAll_le]); (· conv => lhs; simp only [List.set_cons_zero, List.set_cons_succ]); (· (repeat' (first | exact .flat rfl | exact PureL.nil | assumption | apply PureL.cons | apply Pure.agg' | apply Pure.tuple' | apply Pure.rptr' | exact pure_refL _ _)); done))
      | ((with_reducible apply RunL.oStM); (· rfl); (· rfl); (· conv => lhs; whnf); (· rfl); (· rfl); (· rfl); (· rfl); (· rfl); (· conv => lhs; whnf); (· conv => lhs; whnf); (· rfl); (· rfl); (· rfl); (· conv => lhs; simp only [setAll, List.set_cons_zero, List.set_cons_succ, Nat.reduceAdd, Nat.zero_add, setAll_le]); (· conv => lhs; simp only [List.set_cons_zero, List.set_cons_succ]); (· conv => lhs; whnf))
      | ((with_reducible apply RunL.oLa v0_ok); (· rfl); (· rfl); (· rfl); (· conv => lhs; whnf); (· rfl); (· rfl); (· rfl); (· conv => lhs; whnf); (· rfl); (· rfl); (· conv => lhs; simp only [List.drop_zero, List.drop_succ_cons, List.take_succ_cons, List.take_zero, take_leCells]))
      | ((with_reducible apply RunL.oI v0_ok); (· rfl); (· rfl); (· rfl); (· rfl); (· rfl); (· exact aindexAddr_arrN (by rfl) (by rfl) (by omega)))
      | ((with_reducible apply RunL.oLd v0_ok); (· rfl); (· rfl); (· rfl); (· rfl); (· exact aload_own (by rfl) (by rfl) (refL_get _ _ (by omega) (by omega))); try ((with_reducible apply RunL.spl); (all_goals (intro hb <;> (try simp only [List.length_map] at hb) <;> (first | replace hb := bne_iff_ne.1 hb | replace hb := bne_eq_false_iff_eq.1 hb | replace hb := of_decide_eq_true hb | replace hb := of_decide_eq_false hb | replace hb := eq_of_beq hb | replace hb := ne_of_beq_false hb | skip) <;> (first | contradiction | (exfalso; omega) | skip)))))
      | ((with_reducible apply RunL.o v0_ok); (· rfl); (· conv => lhs; whnf); (· rfl); (· conv => lhs; whnf); (· rfl); (· conv => lhs; whnf); try ((with_reducible apply RunL.spl); (all_goals (intro hb <;> (try simp only [List.length_map] at hb) <;> (first | replace hb := bne_iff_ne.1 hb | replace hb := bne_eq_false_iff_eq.1 hb | replace hb := of_decide_eq_true hb | replace hb := of_decide_eq_false hb | replace hb := eq_of_beq hb | replace hb := ne_of_beq_false hb | skip) <;> (first | contradiction | (exfalso; omega) | skip)))))
      | ((with_reducible apply RunL.oS); (· rfl); (· conv => lhs; whnf); (· rfl))
      | ((with_reducible apply RunL.oN v0_ok); (· rfl); (· rfl); (· rfl))
      | ((with_reducible apply RunL.oSN); (· rfl); (· rfl))))
    | ((with_reducible refine Run.condSelf ?_); (first
      | ((with_reducible apply Run.condT); (· rfl))
      | ((with_reducible apply Run.condF); (· rfl))
      | ((with_reducible apply Run.condK); (· rfl); (all_goals (intro hb <;> (try simp only [List.length_map] at hb) <;> (first | replace hb := bne_iff_ne.1 hb | replace hb := bne_eq_false_iff_eq.1 hb | replace hb := of_decide_eq_true hb | replace hb := of_decide_eq_false hb | replace hb := eq_of_beq hb | replace hb := ne_of_beq_false hb | skip) <;> (first | contradiction | (exfalso; omega) | skip)))))))
  · rw [fold_drop (by omega)] at h2
    refine Run.loopK 49 (fun p : Nat × (Nat → Nat → Bool) => n - p.1) (fun p => p.1 ≤ n ∧ sweep n L r = ((List.range n).drop p.1).foldl (sweepB n) p.2) (fun p => [(1, .ptr 0 0), (2, .ptr 1 0), (3, .int .i64 r), (4, .int .i64 (p.1 : Int))])
      (fun p => ⟨[.cells (refL n p.2), .cells (refL 0 noL)], [], 1000000⟩) (0, L) ⟨Nat.zero_le _, rfl⟩ (.same rfl ⟨rfl, rfl, rfl, rfl, trivial⟩ rfl rfl) (fun ⟨a, M⟩ ⟨h3, h4⟩ => ?_)
    dsimp only at h3 h4 ⊢
    repeat' (first
      | (with_reducible refine andThen_normal ?_)
      | (with_reducible refine andThen_ret ?_)
      | (with_reducible refine inBlk_normal ?_)
      | (with_reducible refine inBlk_ret ?_)
      | (with_reducible refine inBlk_hit ?_)
      | (with_reducible refine andThen_exit ?_)
      | ((with_reducible refine inBlk_miss ?_ ?_); (· rfl))
      | (with_reducible refine Run.seq ?_)
      | (with_reducible refine Run.skip ?_)
      | (with_reducible refine Run.ret ?_)
      | (with_reducible refine Run.exit ?_)
      | (with_reducible refine Run.block ?_)
      | (with_reducible refine Run.scope ?_)
      | (with_reducible refine Run.label ?_)
      | ((with_reducible refine Run.regionSelf ?_); ((with_reducible apply Run.lst); (· conv => lhs; whnf)))
      | (with_reducible refine RunL.nil ?_)
      | ((with_reducible refine RunL.self ?_); (first
        | ((with_reducible apply RunL.oFp v0_ok); (· rfl); (· rfl); (· rfl); (· rfl); (· rfl); (· conv => lhs; whnf); (· rfl); (· conv => lhs; whnf))
        | ((with_reducible apply RunL.oFr v0_ok); (· rfl); (· rfl); (· rfl); (· rfl); (· rfl); (· conv => lhs; whnf); (· rfl); (· conv => lhs; whnf))
        | ((with_reducible apply RunL.oBox v0_ok); (· rfl); (· rfl); (· conv => lhs; whnf); (· rfl); (· rfl); (· conv => lhs; whnf); (· conv => lhs; whnf); (· conv => lhs; simp only [List.length_cons, List.length_nil, Nat.zero_add, Nat.reduceAdd]); (· conv => lhs; simp only [List.cons_append, List.nil_append]))
        | ((with_reducible apply RunL.oAl v0_ok); (· rfl); (· first | exact z33); (· rfl); (· conv => lhs; whnf); (· rfl); (· conv => lhs; simp only [List.length_cons, List.length_nil, Nat.zero_add, Nat.reduceAdd]); (· conv => lhs; simp only [List.cons_append, List.nil_append]))
        | ((with_reducible apply RunL.oSt); (· rfl); (· rfl); (· conv => lhs; whnf); (· rfl); (· rfl); (· rfl); (· rfl); (· rfl); (· conv => lhs; whnf); (· conv => lhs; whnf); (· rfl); (· rfl); (· rfl); (· conv => lhs; simp only [setAll, List.set_cons_zero, List.set_cons_succ, Nat.reduceAdd, Nat.zero_add, setAll_le]); (· conv => lhs; simp only [List.set_cons_zero, List.set_cons_succ]); (· (repeat' (first | exact .flat rfl | exact PureL.nil | assumption | apply PureL.cons | apply Pure.agg' | apply Pure.tuple' | apply Pure.rptr' | exact pure_refL _ _)); done))
        | ((with_reducible apply RunL.oStM); (· rfl); (· rfl); (· conv => lhs; whnf); (· rfl); (· rfl); (· rfl); (· rfl); (· rfl); (· conv => lhs; whnf); (· conv => lhs; whnf); (· rfl); (· rfl); (· rfl); (· conv => lhs; simp only [setAll, List.set_cons_zero, List.set_cons_succ, Nat.reduceAdd, Nat.zero_add, setAll_le]); (· conv => lhs; simp only [List.set_cons_zero, List.set_cons_succ]); (· conv => lhs; whnf))
        | ((with_reducible apply RunL.oLa v0_ok); (· rfl); (· rfl); (· rfl); (· conv => lhs; whnf); (· rfl); (· rfl); (· rfl); (· conv => lhs; whnf); (· rfl); (· rfl); (· conv => lhs; simp only [List.drop_zero, List.drop_succ_cons, List.take_succ_cons, List.take_zero, take_leCells]))
        | ((with_reducible apply RunL.oI v0_ok); (· rfl); (· rfl); (· rfl); (· rfl); (· rfl); (· exact aindexAddr_arrN (by rfl) (by rfl) (by omega)))
        | ((with_reducible apply RunL.oLd v0_ok); (· rfl); (· rfl); (· rfl); (· rfl); (· exact aload_own (by rfl) (by rfl) (refL_get _ _ (by omega) (by omega))); try ((with_reducible apply RunL.spl); (all_goals (intro hb <;> (try simp only [List.length_map] at hb) <;> (first | replace hb := bne_iff_ne.1 hb | replace hb := bne_eq_false_iff_eq.1 hb | replace hb := of_decide_eq_true hb | replace hb := of_decide_eq_false hb | replace hb := eq_of_beq hb | replace hb := ne_of_beq_false hb | skip) <;> (first | contradiction | (exfalso; omega) | skip)))))
        | ((with_reducible apply RunL.o v0_ok); (· rfl); (· conv => lhs; whnf); (· rfl); (· conv => lhs; whnf); (· rfl); (· conv => lhs; whnf); try ((with_reducible apply RunL.spl); (all_goals (intro hb <;> (try simp only [List.length_map] at hb) <;> (first | replace hb := bne_iff_ne.1 hb | replace hb := bne_eq_false_iff_eq.1 hb | replace hb := of_decide_eq_true hb | replace hb := of_decide_eq_false hb | replace hb := eq_of_beq hb | replace hb := ne_of_beq_false hb | skip) <;> (first | contradiction | (exfalso; omega) | skip)))))
        | ((with_reducible apply RunL.oS); (· rfl); (· conv => lhs; whnf); (· rfl))
        | ((with_reducible apply RunL.oN v0_ok); (· rfl); (· rfl); (· rfl))
        | ((with_reducible apply RunL.oSN); (· rfl); (· rfl))))
      | ((with_reducible refine Run.condSelf ?_); (first
        | ((with_reducible apply Run.condT); (· rfl))
        | ((with_reducible apply Run.condF); (· rfl))
        | ((with_reducible apply Run.condK); (· rfl); (all_goals (intro hb <;> (try simp only [List.length_map] at hb) <;> (first | replace hb := bne_iff_ne.1 hb | replace hb := bne_eq_false_iff_eq.1 hb | replace hb := of_decide_eq_true hb | replace hb := of_decide_eq_false hb | replace hb := eq_of_beq hb | replace hb := ne_of_beq_false hb | skip) <;> (first | contradiction | (exfalso; omega) | skip)))))))
    · rw [fold_drop (by omega)] at h4
      refine Run.loopK 49 (fun p : Nat × (Nat → Nat → Bool) => n - p.1) (fun p => p.1 ≤ n ∧ sweepB n M a = ((List.range n).drop p.1).foldl (sweepC n a) p.2) (fun p => [(1, .ptr 0 0), (2, .ptr 1 0), (3, .int .i64 r), (4, .int .i64 a), (5, .int .i64 (p.1 : Int))])
        (fun p => ⟨[.cells (refL n p.2), .cells (refL 0 noL)], [], 1000000⟩) (0, M) ⟨Nat.zero_le _, rfl⟩ (.same rfl ⟨rfl, rfl, rfl, rfl, rfl, trivial⟩ rfl rfl) (fun ⟨b, N⟩ ⟨h5, h6⟩ => ?_)
      dsimp only at h5 h6 ⊢
      repeat' (first
        | (with_reducible refine andThen_normal ?_)
        | (with_reducible refine andThen_ret ?_)
        | (with_reducible refine inBlk_normal ?_)
        | (with_reducible refine inBlk_ret ?_)
        | (with_reducible refine inBlk_hit ?_)
        | (with_reducible refine andThen_exit ?_)
        | ((with_reducible refine inBlk_miss ?_ ?_); (· rfl))
        | (with_reducible refine Run.seq ?_)
        | (with_reducible refine Run.skip ?_)
        | (with_reducible refine Run.ret ?_)
        | (with_reducible refine Run.exit ?_)
        | (with_reducible refine Run.block ?_)
        | (with_reducible refine Run.scope ?_)
        | (with_reducible refine Run.label ?_)
        | ((with_reducible refine Run.regionSelf ?_); ((with_reducible apply Run.lst); (· conv => lhs; whnf)))
        | (with_reducible refine RunL.nil ?_)
        | ((with_reducible refine RunL.self ?_); (first
          | ((with_reducible apply RunL.oFp v0_ok); (· rfl); (· rfl); (· rfl); (· rfl); (· rfl); (· conv => lhs; whnf); (· rfl); (· conv => lhs; whnf))
          | ((with_reducible apply RunL.oFr v0_ok); (· rfl); (· rfl); (· rfl); (· rfl); (· rfl); (· conv => lhs; whnf); (· rfl); (· conv => lhs; whnf))
          | ((with_reducible apply RunL.oBox v0_ok); (· rfl); (· rfl); (· conv => lhs; whnf); (· rfl); (· rfl); (· conv => lhs; whnf); (· conv => lhs; whnf); (· conv => lhs; simp only [List.length_cons, List.length_nil, Nat.zero_add, Nat.reduceAdd]); (· conv => lhs; simp only [List.cons_append, List.nil_append]))
          | ((with_reducible apply RunL.oAl v0_ok); (· rfl); (· first | exact z33); (· rfl); (· conv => lhs; whnf); (· rfl); (· conv => lhs; simp only [List.length_cons, List.length_nil, Nat.zero_add, Nat.reduceAdd]); (· conv => lhs; simp only [List.cons_append, List.nil_append]))
          | ((with_reducible apply RunL.oSt); (· rfl); (· rfl); (· conv => lhs; whnf); (· rfl); (· rfl); (· rfl); (· rfl); (· rfl); (· conv => lhs; whnf); (· conv => lhs; whnf); (· rfl); (· rfl); (· rfl); (· conv => lhs; simp only [setAll, List.set_cons_zero, List.set_cons_succ, Nat.reduceAdd, Nat.zero_add, setAll_le]); (· conv => lhs; simp only [List.set_cons_zero, List.set_cons_succ]); (· (repeat' (first | exact .flat rfl | exact PureL.nil | assumption | apply PureL.cons | apply Pure.agg' | apply Pure.tuple' | apply Pure.rptr' | exact pure_refL _ _)); done))
          | ((with_reducible apply RunL.oStM); (· rfl); (· rfl); (· conv => lhs; whnf); (· rfl); (· rfl); (· rfl); (· rfl); (· rfl); (· conv => lhs; whnf); (· conv => lhs; whnf); (· rfl); (· rfl); (· rfl); (· conv => lhs; simp only [setAll, List.set_cons_zero, List.set_cons_succ, Nat.reduceAdd, Nat.zero_add, setAll_le]); (· conv => lhs; simp only [List.set_cons_zero, List.set_cons_succ]); (· conv => lhs; whnf))
          | ((with_reducible apply RunL.oLa v0_ok); (· rfl); (· rfl); (· rfl); (· conv => lhs; whnf); (· rfl); (· rfl); (· rfl); (· conv => lhs; whnf); (· rfl); (· rfl); (· conv => lhs; simp only [List.drop_zero, List.drop_succ_cons, List.take_succ_cons, List.take_zero, take_leCells]))
          | ((with_reducible apply RunL.oI v0_ok); (· rfl); (· rfl); (· rfl); (· rfl); (· rfl); (· exact aindexAddr_arrN (by rfl) (by rfl) (by omega)))
          | ((with_reducible apply RunL.oLd v0_ok); (· rfl); (· rfl); (· rfl); (· rfl); (· exact aload_own (by rfl) (by rfl) (refL_get _ _ (by omega) (by omega))); try ((with_reducible apply RunL.spl); (all_goals (intro hb <;> (try simp only [List.length_map] at hb) <;> (first | replace hb := bne_iff_ne.1 hb | replace hb := bne_eq_false_iff_eq.1 hb | replace hb := of_decide_eq_true hb | replace hb := of_decide_eq_false hb | replace hb := eq_of_beq hb | replace hb := ne_of_beq_false hb | skip) <;> (first | contradiction | (exfalso; omega) | skip)))))
          | ((with_reducible apply RunL.o v0_ok); (· rfl); (· conv => lhs; whnf); (· rfl); (· conv => lhs; whnf); (· rfl); (· conv => lhs; whnf); try ((with_reducible apply RunL.spl); (all_goals (intro hb <;> (try simp only [List.length_map] at hb) <;> (first | replace hb := bne_iff_ne.1 hb | replace hb := bne_eq_false_iff_eq.1 hb | replace hb := of_decide_eq_true hb | replace hb := of_decide_eq_false hb | replace hb := eq_of_beq hb | replace hb := ne_of_beq_false hb | skip) <;> (first | contradiction | (exfalso; omega) | skip)))))
          | ((with_reducible apply RunL.oS); (· rfl); (· conv => lhs; whnf); (· rfl))
          | ((with_reducible apply RunL.oN v0_ok); (· rfl); (· rfl); (· rfl))
          | ((with_reducible apply RunL.oSN); (· rfl); (· rfl))))
        | ((with_reducible refine Run.condSelf ?_); (first
          | ((with_reducible apply Run.condT); (· rfl))
          | ((with_reducible apply Run.condF); (· rfl))
          | ((with_reducible apply Run.condK); (· rfl); (all_goals (intro hb <;> (try simp only [List.length_map] at hb) <;> (first | replace hb := bne_iff_ne.1 hb | replace hb := bne_eq_false_iff_eq.1 hb | replace hb := of_decide_eq_true hb | replace hb := of_decide_eq_false hb | replace hb := eq_of_beq hb | replace hb := ne_of_beq_false hb | skip) <;> (first | contradiction | (exfalso; omega) | skip)))))))
      · rw [fold_drop (by omega)] at h6
        refine Run.loopK 49 (fun p : Nat × (Nat → Nat → Bool) => n - p.1) (fun p => p.1 ≤ n ∧ sweepC n a N b = ((List.range n).drop p.1).foldl (stepC' a b) p.2) (fun p => [(1, .ptr 0 0), (2, .ptr 1 0), (3, .int .i64 r), (4, .int .i64 a), (5, .int .i64 b), (6, .int .i64 (p.1 : Int))])
          (fun p => ⟨[.cells (refL n p.2), .cells (refL 0 noL)], [], 1000000⟩) (0, N) ⟨Nat.zero_le _, rfl⟩ (.same rfl ⟨rfl, rfl, rfl, rfl, rfl, rfl, trivial⟩ rfl rfl) (fun ⟨c, K⟩ ⟨h7, h8⟩ => ?_)
        dsimp only at h7 h8 ⊢
        repeat' (first
          | (with_reducible refine andThen_normal ?_)
          | (with_reducible refine andThen_ret ?_)
          | (with_reducible refine inBlk_normal ?_)
          | (with_reducible refine inBlk_ret ?_)
          | (with_reducible refine inBlk_hit ?_)
          | (with_reducible refine andThen_exit ?_)
          | ((with_reducible refine inBlk_miss ?_ ?_); (· rfl))
          | (with_reducible refine Run.seq ?_)
          | (with_reducible refine Run.skip ?_)
          | (with_reducible refine Run.ret ?_)
          | (with_reducible refine Run.exit ?_)
          | (with_reducible refine Run.block ?_)
          | (with_reducible refine Run.scope ?_)
          | (with_reducible refine Run.label ?_)
          | ((with_reducible refine Run.regionSelf ?_); ((with_reducible apply Run.lst); (· conv => lhs; whnf)))
          | (with_reducible refine RunL.nil ?_)
          | ((with_reducible refine RunL.self ?_); (first
            | ((with_reducible apply RunL.oFp v0_ok); (· rfl); (· rfl); (· rfl); (· rfl); (· rfl); (· conv => lhs; whnf); (· rfl); (· conv => lhs; whnf))
            | ((with_reducible apply RunL.oFr v0_ok); (· rfl); (· rfl); (· rfl); (· rfl); (· rfl); (· conv => lhs; whnf); (· rfl); (· conv => lhs; whnf))
            | ((with_reducible apply RunL.oBox v0_ok); (· rfl); (· rfl); (· conv => lhs; whnf); (· rfl); (· rfl); (· conv => lhs; whnf); (· conv => lhs; whnf); (· conv => lhs; simp only [List.length_cons, List.length_nil, Nat.zero_add, Nat.reduceAdd]); (· conv => lhs; simp only [List.cons_append, List.nil_append]))
            | ((with_reducible apply RunL.oAl v0_ok); (· rfl); (· first | exact z33); (· rfl); (· conv => lhs; whnf); (· rfl); (· conv => lhs; simp only [List.length_cons, List.length_nil, Nat.zero_add, Nat.reduceAdd]); (· conv => lhs; simp only [List.cons_append, List.nil_append]))
            | ((with_reducible apply RunL.oSt); (· rfl); (· rfl); (· conv => lhs; whnf); (· rfl); (· rfl); (· rfl); (· rfl); (· rfl); (· conv => lhs; whnf); (· conv => lhs; whnf); (· rfl); (· rfl); (· rfl); (· conv => lhs; simp only [setAll, List.set_cons_zero, List.set_cons_succ, Nat.reduceAdd, Nat.zero_add, setAll_le]); (· conv => lhs; simp only [List.set_cons_zero, List.set_cons_succ]); (· (repeat' (first | exact .flat rfl | exact PureL.nil | assumption | apply PureL.cons | apply Pure.agg' | apply Pure.tuple' | apply Pure.rptr' | exact pure_refL _ _)); done))
            | ((with_reducible apply RunL.oStM); (· rfl); (· rfl); (· conv => lhs; whnf); (· rfl); (· rfl); (· rfl); (· rfl); (· rfl); (· conv => lhs; whnf); (· conv => lhs; whnf); (· rfl); (· rfl); (· rfl); (· conv => lhs; simp only [setAll, List.set_cons_zero, List.set_cons_succ, Nat.reduceAdd, Nat.zero_add, setAll_le]); (· conv => lhs; simp only [List.set_cons_zero, List.set_cons_succ]); (· conv => lhs; whnf))
            | ((with_reducible apply RunL.oLa v0_ok); (· rfl); (· rfl); (· rfl); (· conv => lhs; whnf); (· rfl); (· rfl); (· rfl); (· conv => lhs; whnf); (· rfl); (· rfl); (· conv => lhs; simp only [List.drop_zero, List.drop_succ_cons, List.take_succ_cons, List.take_zero, take_leCells]))
            | ((with_reducible apply RunL.oI v0_ok); (· rfl); (· rfl); (· rfl); (· rfl); (· rfl); (· exact aindexAddr_arrN (by rfl) (by rfl) (by omega)))
            | ((with_reducible apply RunL.oLd v0_ok); (· rfl); (· rfl); (· rfl); (· rfl); (· exact aload_own (by rfl) (by rfl) (refL_get _ _ (by omega) (by omega))); try ((with_reducible apply RunL.spl); (all_goals (intro hb <;> (try simp only [List.length_map] at hb) <;> (first | replace hb := bne_iff_ne.1 hb | replace hb := bne_eq_false_iff_eq.1 hb | replace hb := of_decide_eq_true hb | replace hb := of_decide_eq_false hb | replace hb := eq_of_beq hb | replace hb := ne_of_beq_false hb | skip) <;> (first | contradiction | (exfalso; omega) | skip)))))
            | ((with_reducible apply RunL.oStS v0_ok); (· rfl); (· rfl); (· conv => lhs; whnf); (· rfl); (· rfl); (· rfl); (· rfl); (· rfl); (· conv => lhs; whnf); (· rfl); (· rfl); (· rfl); (· exact set_le (by omega) (by omega)); (· conv => lhs; simp only [List.set_cons_zero, List.set_cons_succ]))
            | ((with_reducible apply RunL.o v0_ok); (· rfl); (· conv => lhs; whnf); (· rfl); (· conv => lhs; whnf); (· rfl); (· conv => lhs; whnf); try ((with_reducible apply RunL.spl); (all_goals (intro hb <;> (try simp only [List.length_map] at hb) <;> (first | replace hb := bne_iff_ne.1 hb | replace hb := bne_eq_false_iff_eq.1 hb | replace hb := of_decide_eq_true hb | replace hb := of_decide_eq_false hb | replace hb := eq_of_beq hb | replace hb := ne_of_beq_false hb | skip) <;> (first | contradiction | (exfalso; omega) | skip)))))
            | ((with_reducible apply RunL.oS); (· rfl); (· conv => lhs; whnf); (· rfl))
            | ((with_reducible apply RunL.oN v0_ok); (· rfl); (· rfl); (· rfl))
            | ((with_reducible apply RunL.oSN); (· rfl); (· rfl))))
          | ((with_reducible refine Run.condSelf ?_); (first
            | ((with_reducible apply Run.condT); (· rfl))
            | ((with_reducible apply Run.condF); (· rfl))
            | ((with_reducible apply Run.condK); (· rfl); (all_goals (intro hb <;> (try simp only [List.length_map] at hb) <;> (first | replace hb := bne_iff_ne.1 hb | replace hb := bne_eq_false_iff_eq.1 hb | replace hb := of_decide_eq_true hb | replace hb := of_decide_eq_false hb | replace hb := eq_of_beq hb | replace hb := ne_of_beq_false hb | skip) <;> (first | contradiction | (exfalso; omega) | skip)))))))
        · have e1 := ‹K a b = true›
          have e2 := ‹K b c = true›
          rw [fold_drop (by omega), stepC', if_pos ⟨e1, e2⟩] at h8
          exact ⟨(c + 1, upd2 K a c), by dsimp only; omega, ⟨by dsimp only; omega, h8⟩, .same rfl ⟨rfl, rfl, rfl, rfl, rfl, get_int rfl (by rw [IntWalk.i64_in _ (by omega)]; omega), trivial⟩ rfl rfl⟩
        · have e2 := ‹K b c = false›
          rw [fold_drop (by omega), stepC', if_neg (by simp [e2])] at h8
          exact ⟨(c + 1, K), by dsimp only; omega, ⟨by dsimp only; omega, h8⟩, .same rfl ⟨rfl, rfl, rfl, rfl, rfl, get_int rfl (by rw [IntWalk.i64_in _ (by omega)]; omega), trivial⟩ rfl rfl⟩
        · have e1 := ‹K a b = false›
          rw [fold_drop (by omega), stepC', if_neg (by simp [e1])] at h8
          exact ⟨(c + 1, K), by dsimp only; omega, ⟨by dsimp only; omega, h8⟩, .same rfl ⟨rfl, rfl, rfl, rfl, rfl, get_int rfl (by rw [IntWalk.i64_in _ (by omega)]; omega), trivial⟩ rfl rfl⟩
        · obtain rfl : c = n := by omega
          rw [fold_end] at h8
          rw [h8] at h6
          exact ⟨(b + 1, K), by dsimp only; omega, ⟨by dsimp only; omega, h6⟩, .same rfl ⟨rfl, rfl, rfl, rfl, get_int rfl (by rw [IntWalk.i64_in _ (by omega)]; omega), trivial⟩ rfl rfl⟩
      · obtain rfl : b = n := by omega
        rw [fold_end] at h6
        rw [h6] at h4
        exact ⟨(a + 1, N), by dsimp only; omega, ⟨by dsimp only; omega, h4⟩, .same rfl ⟨rfl, rfl, rfl, get_int rfl (by rw [IntWalk.i64_in _ (by omega)]; omega), trivial⟩ rfl rfl⟩
    · obtain rfl : a = n := by omega
      rw [fold_end] at h4
      rw [h4] at h2
      exact ⟨(r + 1, M), by dsimp only; omega, ⟨by dsimp only; omega, h2⟩, .same rfl ⟨rfl, rfl, get_int rfl (by rw [IntWalk.i64_in _ (by omega)]; omega), trivial⟩ rfl rfl⟩
  · obtain rfl : r = 8 := by omega
    rw [fold_end] at h2
    change EndF _ _ _ _ _
    refine EndF.mk (r := .agg (refL n L)) (.inr rfl) rfl (by rfl) (by conv => lhs; whnf) (by exact .pure (pure_refL _ _)) ?_
    rw [h2]

/-! Join, Meet: is there one? -/

def isJ (n : Nat) (le : Nat → Nat → Bool) (a b c : Nat) : Bool := le a c && le b c && (List.range n).all fun d => !(le a d && le b d && !le c d)

def joinFrom (n : Nat) (le : Nat → Nat → Bool) (a b i : Nat) : Int :=
  match ((List.range n).drop i).find? (isJ n le a b) with
  | some c => c
  | none => -1

def joinI (n : Nat) (le : Nat → Nat → Bool) (a b : Nat) : Int := joinFrom n le a b 0

theorem joinFrom_step {n : Nat} {le : Nat → Nat → Bool} {a b i : Nat} (h : i < n) : joinFrom n le a b i = if isJ n le a b i = true then (i : Int) else joinFrom n le a b (i + 1) := by
  unfold joinFrom
  have hd : (List.range n).drop i = i :: (List.range n).drop (i + 1) := drop_of_get (by simp [h])
  rw [hd, List.find?_cons]
  cases isJ n le a b i <;> rfl

theorem joinFrom_end {n : Nat} {le : Nat → Nat → Bool} {a b : Nat} : joinFrom n le a b n = -1 := by
  unfold joinFrom
  rw [List.drop_of_length_le (by simp)]; rfl

theorem join_ok (n : Nat) (hn : n ≤ 8) (le : Nat → Nat → Bool) (a b : Nat) (ha : a < 8) (hB : b < 8) : Fn Tryz.prog 22 [.agg (refL n le), .int .i64 a, .int .i64 b] fun y => y = .int .i64 (joinI n le a b) := by
  show Fn Tryz.prog 22 [.agg (refL n le), .int .i64 a, .int .i64 b] _
  refine Fn.mk1 Tryz.func22 rfl (by (repeat' (first | exact .flat rfl | exact PureL.nil | assumption | apply PureL.cons | apply Pure.agg' | apply Pure.tuple' | apply Pure.rptr' | exact pure_refL _ _))) (by (repeat' (first | exact .flat rfl | exact PureL.nil | assumption | apply PureL.cons | apply Pure.agg' | apply Pure.tuple' | apply Pure.rptr' | exact pure_refL _ _))) ?_
  rw [show enterFr Tryz.f22 [.agg (refL n le), .int .i64 a, .int .i64 b] = ⟨63, .upd (.upd (.upd .emp 0 (.agg (refL n le))) 1 (.int .i64 a)) 2 (.int .i64 b)⟩ from rfl]
  repeat' (first
    | (with_reducible refine andThen_normal ?_)
    | (with_reducible refine andThen_ret ?_)
    | (with_reducible refine inBlk_normal ?_)
    | (with_reducible refine inBlk_ret ?_)
    | (with_reducible refine inBlk_hit ?_)
    | (with_reducible refine andThen_exit ?_)
    | ((with_reducible refine inBlk_miss ?_ ?_); (· rfl))
    | (with_reducible refine Run.seq ?_)
    | (with_reducible refine Run.skip ?_)
    | (with_reducible refine Run.ret ?_)
    | (with_reducible refine Run.exit ?_)
    | (with_reducible refine Run.block ?_)
    | (with_reducible refine Run.scope ?_)
    | (with_reducible refine Run.label ?_)
    | ((with_reducible refine Run.regionSelf ?_); ((with_reducible apply Run.lst); (· conv => lhs; whnf)))
    | (with_reducible refine RunL.nil ?_)
    | ((with_reducible refine RunL.self ?_); (first
      | ((with_reducible apply RunL.oFp v0_ok); (· rfl); (· rfl); (· rfl); (· rfl); (· rfl); (· conv => lhs; whnf); (· rfl); (· conv => lhs; whnf))
      | ((with_reducible apply RunL.oFr v0_ok); (· rfl); (· rfl); (· rfl); (· rfl); (· rfl); (· conv => lhs; whnf); (· rfl); (· conv => lhs; whnf))
      | ((with_reducible apply RunL.oBox v0_ok); (· rfl); (· rfl); (· conv => lhs; whnf); (· rfl); (· rfl); (· conv => lhs; whnf); (· conv => lhs; whnf); (· conv => lhs; simp only [List.length_cons, List.length_nil, Nat.zero_add, Nat.reduceAdd]); (· conv => lhs; simp only [List.cons_append, List.nil_append]))
      | ((with_reducible apply RunL.oAl v0_ok); (· rfl); (· first | exact z33); (· rfl); (· conv => lhs; whnf); (· rfl); (· conv => lhs; simp only [List.length_cons, List.length_nil, Nat.zero_add, Nat.reduceAdd]); (· conv => lhs; simp only [List.cons_append, List.nil_append]))
      | ((with_reducible apply RunL.oSt); (· rfl); (· rfl); (· conv => lhs; whnf); (· rfl); (· rfl); (· rfl); (· rfl); (· rfl); (· conv => lhs; whnf); (· conv => lhs; whnf); (· rfl); (· rfl); (· rfl); (· conv => lhs; simp only [setAll, List.set_cons_zero, List.set_cons_succ, Nat.reduceAdd, Nat.zero_add, setAll_le]); (· conv => lhs; simp only [List.set_cons_zero, List.set_cons_succ]); (· (repeat' (first | exact .flat rfl | exact PureL.nil | assumption | apply PureL.cons | apply Pure.agg' | apply Pure.tuple' | apply Pure.rptr' | exact pure_refL _ _)); done))
      | ((with_reducible apply RunL.oStM); (· rfl); (· rfl); (· conv => lhs; whnf); (· rfl); (· rfl); (· rfl); (· rfl); (· rfl); (· conv => lhs; whnf); (· conv => lhs; whnf); (· rfl); (· rfl); (· rfl); (· conv => lhs; simp only [setAll, List.set_cons_zero, List.set_cons_succ, Nat.reduceAdd, Nat.zero_add, setAll_le]); (· conv => lhs; simp only [List.set_cons_zero, List.set_cons_succ]); (· conv => lhs; whnf))
      | ((with_reducible apply RunL.oLa v0_ok); (· rfl); (· rfl); (· rfl); (· conv => lhs; whnf); (· rfl); (· rfl); (· rfl); (· conv => lhs; whnf); (· rfl); (· rfl); (· conv => lhs; simp only [List.drop_zero, List.drop_succ_cons, List.take_succ_cons, List.take_zero, take_leCells]))
      | ((with_reducible apply RunL.oI v0_ok); (· rfl); (· rfl); (· rfl); (· rfl); (· rfl); (· exact aindexAddr_arrN (by rfl) (by rfl) (by omega)))
      | ((with_reducible apply RunL.oLd v0_ok); (· rfl); (· rfl); (· rfl); (· rfl); (· exact aload_own (by rfl) (by rfl) (refL_get _ _ (by omega) (by omega))); try ((with_reducible apply RunL.spl); (all_goals (intro hb <;> (try simp only [List.length_map] at hb) <;> (first | replace hb := not_t hb | replace hb := not_f hb | replace hb := bne_iff_ne.1 hb | replace hb := bne_eq_false_iff_eq.1 hb | replace hb := of_decide_eq_true hb | replace hb := of_decide_eq_false hb | replace hb := eq_of_beq hb | replace hb := ne_of_beq_false hb | skip) <;> (first | contradiction | (exfalso; omega) | skip)))))
      | ((with_reducible apply RunL.oStS v0_ok); (· rfl); (· rfl); (· conv => lhs; whnf); (· rfl); (· rfl); (· rfl); (· rfl); (· rfl); (· conv => lhs; whnf); (· rfl); (· rfl); (· rfl); (· exact set_le (by omega) (by omega)); (· conv => lhs; simp only [List.set_cons_zero, List.set_cons_succ]))
      | ((with_reducible apply RunL.o v0_ok); (· rfl); (· conv => lhs; whnf); (· rfl); (· conv => lhs; whnf); (· rfl); (· conv => lhs; whnf); try ((with_reducible apply RunL.spl); (all_goals (intro hb <;> (try simp only [List.length_map] at hb) <;> (first | replace hb := not_t hb | replace hb := not_f hb | replace hb := bne_iff_ne.1 hb | replace hb := bne_eq_false_iff_eq.1 hb | replace hb := of_decide_eq_true hb | replace hb := of_decide_eq_false hb | replace hb := eq_of_beq hb | replace hb := ne_of_beq_false hb | skip) <;> (first | contradiction | (exfalso; omega) | skip)))))
      | ((with_reducible apply RunL.oS); (· rfl); (· conv => lhs; whnf); (· rfl))
      | ((with_reducible apply RunL.oN v0_ok); (· rfl); (· rfl); (· rfl))
      | ((with_reducible apply RunL.oSN); (· rfl); (· rfl))))
    | ((with_reducible refine Run.condSelf ?_); (first
      | ((with_reducible apply Run.condT); (· rfl))
      | ((with_reducible apply Run.condF); (· rfl))
      | ((with_reducible apply Run.condK); (· rfl); (all_goals (intro hb <;> (try simp only [List.length_map] at hb) <;> (first | replace hb := not_t hb | replace hb := not_f hb | replace hb := bne_iff_ne.1 hb | replace hb := bne_eq_false_iff_eq.1 hb | replace hb := of_decide_eq_true hb | replace hb := of_decide_eq_false hb | replace hb := eq_of_beq hb | replace hb := ne_of_beq_false hb | skip) <;> (first | contradiction | (exfalso; omega) | skip)))))))
  refine Run.loopK 63 (fun i : Nat => n - i) (fun i => i ≤ n ∧ joinI n le a b = joinFrom n le a b i) (fun i => [(1, .int .i64 a), (2, .int .i64 b), (3, .ptr 0 0), (7, .int .i64 (i : Int))])
    (fun _ => ⟨[.cells (refL n le)], [], 1000000⟩) 0 ⟨Nat.zero_le _, rfl⟩ (.same rfl ⟨rfl, rfl, rfl, rfl, trivial⟩ rfl rfl) (fun c ⟨h1, h2⟩ => ?_)
  repeat' (first
    | (with_reducible refine andThen_normal ?_)
    | (with_reducible refine andThen_ret ?_)
    | (with_reducible refine inBlk_normal ?_)
    | (with_reducible refine inBlk_ret ?_)
    | (with_reducible refine inBlk_hit ?_)
    | (with_reducible refine andThen_exit ?_)
    | ((with_reducible refine inBlk_miss ?_ ?_); (· rfl))
    | ((fail_if_success (with_reducible change Run _ _ (.seq (.region 7 _ _) _) _ _)); (fail_if_success (with_reducible change Run _ _ (.seq (.seq (.region 7 _ _) _) _) _ _)); (with_reducible refine Run.seq ?_))
    | (with_reducible refine Run.skip ?_)
    | (with_reducible refine Run.ret ?_)
    | (with_reducible refine Run.exit ?_)
    | (with_reducible refine Run.block ?_)
    | (with_reducible refine Run.scope ?_)
    | (with_reducible refine Run.label ?_)
    | ((with_reducible refine Run.regionSelf ?_); ((with_reducible apply Run.lst); (· conv => lhs; whnf)))
    | (with_reducible refine RunL.nil ?_)
    | ((with_reducible refine RunL.self ?_); (first
      | ((with_reducible apply RunL.oFp v0_ok); (· rfl); (· rfl); (· rfl); (· rfl); (· rfl); (· conv => lhs; whnf); (· rfl); (· conv => lhs; whnf))
      | ((with_reducible apply RunL.oFr v0_ok); (· rfl); (· rfl); (· rfl); (· rfl); (· rfl); (· conv => lhs; whnf); (· rfl); (· conv => lhs; whnf))
      | ((with_reducible apply RunL.oBox v0_ok); (· rfl); (· rfl); (· conv => lhs; whnf); (· rfl); (· rfl); (· conv => lhs; whnf); (· conv => lhs; whnf); (· conv => lhs; simp only [List.length_cons, List.length_nil, Nat.zero_add, Nat.reduceAdd]); (· conv => lhs; simp only [List.cons_append, List.nil_append]))
      | ((with_reducible apply RunL.oAl v0_ok); (· rfl); (· first | exact z33); (· rfl); (· conv => lhs; whnf); (· rfl); (· conv => lhs; simp only [List.length_cons, List.length_nil, Nat.zero_add, Nat.reduceAdd]); (· conv => lhs; simp only [List.cons_append, List.nil_append]))
      | ((with_reducible apply RunL.oSt); (· rfl); (· rfl); (· conv => lhs; whnf); (· rfl); (· rfl); (· rfl); (· rfl); (· rfl); (· conv => lhs; whnf); (· conv => lhs; whnf); (· rfl); (· rfl); (· rfl); (· conv => lhs; simp only [setAll, List.set_cons_zero, List.set_cons_succ, Nat.reduceAdd, Nat.zero_add, setAll_le]); (· conv => lhs; simp only [List.set_cons_zero, List.set_cons_succ]); (· (repeat' (first | exact .flat rfl | exact PureL.nil | assumption | apply PureL.cons | apply Pure.agg' | apply Pure.tuple' | apply Pure.rptr' | exact pure_refL _ _)); done))
      | ((with_reducible apply RunL.oStM); (· rfl); (· rfl); (· conv => lhs; whnf); (· rfl); (· rfl); (· rfl); (· rfl); (· rfl); (· conv => lhs; whnf); (· conv => lhs; whnf); (· rfl); (· rfl); (· rfl); (· conv => lhs; simp only [setAll, List.set_cons_zero, List.set_cons_succ, Nat.reduceAdd, Nat.zero_add, setAll_le]); (· conv => lhs; simp only [List.set_cons_zero, List.set_cons_succ]); (· conv => lhs; whnf))
      | ((with_reducible apply RunL.oLa v0_ok); (· rfl); (· rfl); (· rfl); (· conv => lhs; whnf); (· rfl); (· rfl); (· rfl); (· conv => lhs; whnf); (· rfl); (· rfl); (· conv => lhs; simp only [List.drop_zero, List.drop_succ_cons, List.take_succ_cons, List.take_zero, take_leCells]))
      | ((with_reducible apply RunL.oI v0_ok); (· rfl); (· rfl); (· rfl); (· rfl); (· rfl); (· exact aindexAddr_arrN (by rfl) (by rfl) (by omega)))
      | ((with_reducible apply RunL.oLd v0_ok); (· rfl); (· rfl); (· rfl); (· rfl); (· exact aload_own (by rfl) (by rfl) (refL_get _ _ (by omega) (by omega))); try ((with_reducible apply RunL.spl); (all_goals (intro hb <;> (try simp only [List.length_map] at hb) <;> (first | replace hb := not_t hb | replace hb := not_f hb | replace hb := bne_iff_ne.1 hb | replace hb := bne_eq_false_iff_eq.1 hb | replace hb := of_decide_eq_true hb | replace hb := of_decide_eq_false hb | replace hb := eq_of_beq hb | replace hb := ne_of_beq_false hb | skip) <;> (first | contradiction | (exfalso; omega) | skip)))))
      | ((with_reducible apply RunL.oStS v0_ok); (· rfl); (· rfl); (· conv => lhs; whnf); (· rfl); (· rfl); (· rfl); (· rfl); (· rfl); (· conv => lhs; whnf); (· rfl); (· rfl); (· rfl); (· exact set_le (by omega) (by omega)); (· conv => lhs; simp only [List.set_cons_zero, List.set_cons_succ]))
      | ((with_reducible apply RunL.o v0_ok); (· rfl); (· conv => lhs; whnf); (· rfl); (· conv => lhs; whnf); (· rfl); (· conv => lhs; whnf); try ((with_reducible apply RunL.spl); (all_goals (intro hb <;> (try simp only [List.length_map] at hb) <;> (first | replace hb := not_t hb | replace hb := not_f hb | replace hb := bne_iff_ne.1 hb | replace hb := bne_eq_false_iff_eq.1 hb | replace hb := of_decide_eq_true hb | replace hb := of_decide_eq_false hb | replace hb := eq_of_beq hb | replace hb := ne_of_beq_false hb | skip) <;> (first | contradiction | (exfalso; omega) | skip)))))
      | ((with_reducible apply RunL.oS); (· rfl); (· conv => lhs; whnf); (· rfl))
      | ((with_reducible apply RunL.oN v0_ok); (· rfl); (· rfl); (· rfl))
      | ((with_reducible apply RunL.oSN); (· rfl); (· rfl))))
    | ((with_reducible refine Run.condSelf ?_); (first
      | ((with_reducible apply Run.condT); (· rfl))
      | ((with_reducible apply Run.condF); (· rfl))
      | ((with_reducible apply Run.condK); (· rfl); (all_goals (intro hb <;> (try simp only [List.length_map] at hb) <;> (first | replace hb := not_t hb | replace hb := not_f hb | replace hb := bne_iff_ne.1 hb | replace hb := bne_eq_false_iff_eq.1 hb | replace hb := of_decide_eq_true hb | replace hb := of_decide_eq_false hb | replace hb := eq_of_beq hb | replace hb := ne_of_beq_false hb | skip) <;> (first | contradiction | (exfalso; omega) | skip)))))))
  · have e1 : le a c = true := ‹le a c = true›
    have e2 : le b c = true := ‹le b c = true›
    rw [joinFrom_step (by omega), isJ, e1, e2, Bool.true_and, Bool.true_and] at h2
    repeat' (first
      | (with_reducible refine andThen_normal ?_)
      | (with_reducible refine andThen_ret ?_)
      | (with_reducible refine inBlk_normal ?_)
      | (with_reducible refine inBlk_ret ?_)
      | (with_reducible refine inBlk_hit ?_)
      | (with_reducible refine andThen_exit ?_)
      | ((with_reducible refine inBlk_miss ?_ ?_); (· rfl))
      | (with_reducible refine Run.seq ?_)
      | (with_reducible refine Run.skip ?_)
      | (with_reducible refine Run.ret ?_)
      | (with_reducible refine Run.exit ?_)
      | (with_reducible refine Run.block ?_)
      | (with_reducible refine Run.scope ?_)
      | (with_reducible refine Run.label ?_)
      | ((with_reducible refine Run.regionSelf ?_); ((with_reducible apply Run.lst); (· conv => lhs; whnf)))
      | (with_reducible refine RunL.nil ?_)
      | ((with_reducible refine RunL.self ?_); (first
        | ((with_reducible apply RunL.oFp v0_ok); (· rfl); (· rfl); (· rfl); (· rfl); (· rfl); (· conv => lhs; whnf); (· rfl); (· conv => lhs; whnf))
        | ((with_reducible apply RunL.oFr v0_ok); (· rfl); (· rfl); (· rfl); (· rfl); (· rfl); (· conv => lhs; whnf); (· rfl); (· conv => lhs; whnf))
        | ((with_reducible apply RunL.oBox v0_ok); (· rfl); (· rfl); (· conv => lhs; whnf); (· rfl); (· rfl); (· conv => lhs; whnf); (· conv => lhs; whnf); (· conv => lhs; simp only [List.length_cons, List.length_nil, Nat.zero_add, Nat.reduceAdd]); (· conv => lhs; simp only [List.cons_append, List.nil_append]))
        | ((with_reducible apply RunL.oAl v0_ok); (· rfl); (· first | exact z33); (· rfl); (· conv => lhs; whnf); (· rfl); (· conv => lhs; simp only [List.length_cons, List.length_nil, Nat.zero_add, Nat.reduceAdd]); (· conv => lhs; simp only [List.cons_append, List.nil_append]))
        | ((with_reducible apply RunL.oSt); (· rfl); (· rfl); (· conv => lhs; whnf); (· rfl); (· rfl); (· rfl); (· rfl); (· rfl); (· conv => lhs; whnf); (· conv => lhs; whnf); (· rfl); (· rfl); (· rfl); (· conv => lhs; simp only [setAll, List.set_cons_zero, List.set_cons_succ, Nat.reduceAdd, Nat.zero_add, setAll_le]); (· conv => lhs; simp only [List.set_cons_zero, List.set_cons_succ]); (· (repeat' (first | exact .flat rfl | exact PureL.nil | assumption | apply PureL.cons | apply Pure.agg' | apply Pure.tuple' | apply Pure.rptr' | exact pure_refL _ _)); done))
        | ((with_reducible apply RunL.oStM); (· rfl); (· rfl); (· conv => lhs; whnf); (· rfl); (· rfl); (· rfl); (· rfl); (· rfl); (· conv => lhs; whnf); (· conv => lhs; whnf); (· rfl); (· rfl); (· rfl); (· conv => lhs; simp only [setAll, List.set_cons_zero, List.set_cons_succ, Nat.reduceAdd, Nat.zero_add, setAll_le]); (· conv => lhs; simp only [List.set_cons_zero, List.set_cons_succ]); (· conv => lhs; whnf))
        | ((with_reducible apply RunL.oLa v0_ok); (· rfl); (· rfl); (· rfl); (· conv => lhs; whnf); (· rfl); (· rfl); (· rfl); (· conv => lhs; whnf); (· rfl); (· rfl); (· conv => lhs; simp only [List.drop_zero, List.drop_succ_cons, List.take_succ_cons, List.take_zero, take_leCells]))
        | ((with_reducible apply RunL.oI v0_ok); (· rfl); (· rfl); (· rfl); (· rfl); (· rfl); (· exact aindexAddr_arrN (by rfl) (by rfl) (by omega)))
        | ((with_reducible apply RunL.oLd v0_ok); (· rfl); (· rfl); (· rfl); (· rfl); (· exact aload_own (by rfl) (by rfl) (refL_get _ _ (by omega) (by omega))); try ((with_reducible apply RunL.spl); (all_goals (intro hb <;> (try simp only [List.length_map] at hb) <;> (first | replace hb := not_t hb | replace hb := not_f hb | replace hb := bne_iff_ne.1 hb | replace hb := bne_eq_false_iff_eq.1 hb | replace hb := of_decide_eq_true hb | replace hb := of_decide_eq_false hb | replace hb := eq_of_beq hb | replace hb := ne_of_beq_false hb | skip) <;> (first | contradiction | (exfalso; omega) | skip)))))
        | ((with_reducible apply RunL.oStS v0_ok); (· rfl); (· rfl); (· conv => lhs; whnf); (· rfl); (· rfl); (· rfl); (· rfl); (· rfl); (· conv => lhs; whnf); (· rfl); (· rfl); (· rfl); (· exact set_le (by omega) (by omega)); (· conv => lhs; simp only [List.set_cons_zero, List.set_cons_succ]))
        | ((with_reducible apply RunL.o v0_ok); (· rfl); (· conv => lhs; whnf); (· rfl); (· conv => lhs; whnf); (· rfl); (· conv => lhs; whnf); try ((with_reducible apply RunL.spl); (all_goals (intro hb <;> (try simp only [List.length_map] at hb) <;> (first | replace hb := not_t hb | replace hb := not_f hb | replace hb := bne_iff_ne.1 hb | replace hb := bne_eq_false_iff_eq.1 hb | replace hb := of_decide_eq_true hb | replace hb := of_decide_eq_false hb | replace hb := eq_of_beq hb | replace hb := ne_of_beq_false hb | skip) <;> (first | contradiction | (exfalso; omega) | skip)))))
        | ((with_reducible apply RunL.oS); (· rfl); (· conv => lhs; whnf); (· rfl))
        | ((with_reducible apply RunL.oN v0_ok); (· rfl); (· rfl); (· rfl))
        | ((with_reducible apply RunL.oSN); (· rfl); (· rfl))))
      | ((with_reducible refine Run.condSelf ?_); (first
        | ((with_reducible apply Run.condT); (· rfl))
        | ((with_reducible apply Run.condF); (· rfl))
        | ((with_reducible apply Run.condK); (· rfl); (all_goals (intro hb <;> (try simp only [List.length_map] at hb) <;> (first | replace hb := not_t hb | replace hb := not_f hb | replace hb := bne_iff_ne.1 hb | replace hb := bne_eq_false_iff_eq.1 hb | replace hb := of_decide_eq_true hb | replace hb := of_decide_eq_false hb | replace hb := eq_of_beq hb | replace hb := ne_of_beq_false hb | skip) <;> (first | contradiction | (exfalso; omega) | skip)))))))
    refine Run.loopK 63 (fun p : Nat × Bool => n - p.1) (fun p => p.1 ≤ n ∧ ((List.range n).all fun d => !(le a d && le b d && !le c d)) = (p.2 && ((List.range n).drop p.1).all fun d => !(le a d && le b d && !le c d)))
      (fun p => [(1, .int .i64 a), (2, .int .i64 b), (3, .ptr 0 0), (7, .int .i64 c), (8, .bool p.2), (9, .int .i64 (p.1 : Int))])
      (fun _ => ⟨[.cells (refL n le)], [], 1000000⟩) (0, true) ⟨Nat.zero_le _, rfl⟩ (.same rfl ⟨rfl, rfl, rfl, rfl, rfl, rfl, trivial⟩ rfl rfl) (fun ⟨d, q⟩ ⟨h3, h4⟩ => ?_)
    dsimp only at h3 h4 ⊢
    repeat' (first
      | (with_reducible refine andThen_normal ?_)
      | (with_reducible refine andThen_ret ?_)
      | (with_reducible refine inBlk_normal ?_)
      | (with_reducible refine inBlk_ret ?_)
      | (with_reducible refine inBlk_hit ?_)
      | (with_reducible refine andThen_exit ?_)
      | ((with_reducible refine inBlk_miss ?_ ?_); (· rfl))
      | (with_reducible refine Run.seq ?_)
      | (with_reducible refine Run.skip ?_)
      | (with_reducible refine Run.ret ?_)
      | (with_reducible refine Run.exit ?_)
      | (with_reducible refine Run.block ?_)
      | (with_reducible refine Run.scope ?_)
      | (with_reducible refine Run.label ?_)
      | ((with_reducible refine Run.regionSelf ?_); ((with_reducible apply Run.lst); (· conv => lhs; whnf)))
      | (with_reducible refine RunL.nil ?_)
      | ((with_reducible refine RunL.self ?_); (first
        | ((with_reducible apply RunL.oFp v0_ok); (· rfl); (· rfl); (· rfl); (· rfl); (· rfl); (· conv => lhs; whnf); (· rfl); (· conv => lhs; whnf))
        | ((with_reducible apply RunL.oFr v0_ok); (· rfl); (· rfl); (· rfl); (· rfl); (· rfl); (· conv => lhs; whnf); (· rfl); (· conv => lhs; whnf))
        | ((with_reducible apply RunL.oBox v0_ok); (· rfl); (· rfl); (· conv => lhs; whnf); (· rfl); (· rfl); (· conv => lhs; whnf); (· conv => lhs; whnf); (· conv => lhs; simp only [List.length_cons, List.length_nil, Nat.zero_add, Nat.reduceAdd]); (· conv => lhs; simp only [List.cons_append, List.nil_append]))
        | ((with_reducible apply RunL.oAl v0_ok); (· rfl); (· first | exact z33); (· rfl); (· conv => lhs; whnf); (· rfl); (· conv => lhs; simp only [List.length_cons, List.length_nil, Nat.zero_add, Nat.reduceAdd]); (· conv => lhs; simp only [List.cons_append, List.nil_append]))
        | ((with_reducible apply RunL.oSt); (· rfl); (· rfl); (· conv => lhs; whnf); (· rfl); (· rfl); (· rfl); (· rfl); (· rfl); (· conv => lhs; whnf); (· conv => lhs; whnf); (· rfl); (· rfl); (· rfl); (· conv => lhs; simp only [setAll, List.set_cons_zero, List.set_cons_succ, Nat.reduceAdd, Nat.zero_add, setAll_le]); (· conv => lhs; simp only [List.set_cons_zero, List.set_cons_succ]); (· (repeat' (first | exact .flat rfl | exact PureL.nil | assumption | apply PureL.cons | apply Pure.agg' | apply Pure.tuple' | apply Pure.rptr' | exact pure_refL _ _)); done))
        | ((with_reducible apply RunL.oStM); (· rfl); (· rfl); (· conv => lhs; whnf); (· rfl); (· rfl); (· rfl); (· rfl); (· rfl); (· conv => lhs; whnf); (· conv => lhs; whnf); (· rfl); (· rfl); (· rfl); (· conv => lhs; simp only [setAll, List.set_cons_zero, List.set_cons_succ, Nat.reduceAdd, Nat.zero_add, setAll_le]); (· conv => lhs; simp only [List.set_cons_zero, List.set_cons_succ]); (· conv => lhs; whnf))
        | ((with_reducible apply RunL.oLa v0_ok); (· rfl); (· rfl); (· rfl); (· conv => lhs; whnf); (· rfl); (· rfl); (· rfl); (· conv => lhs; whnf); (· rfl); (· rfl); (· conv => lhs; simp only [List.drop_zero, List.drop_succ_cons, List.take_succ_cons, List.take_zero, take_leCells]))
        | ((with_reducible apply RunL.oI v0_ok); (· rfl); (· rfl); (· rfl); (· rfl); (· rfl); (· exact aindexAddr_arrN (by rfl) (by rfl) (by omega)))
        | ((with_reducible apply RunL.oLd v0_ok); (· rfl); (· rfl); (· rfl); (· rfl); (· exact aload_own (by rfl) (by rfl) (refL_get _ _ (by omega) (by omega))); try ((with_reducible apply RunL.spl); (all_goals (intro hb <;> (try simp only [List.length_map] at hb) <;> (first | replace hb := not_t hb | replace hb := not_f hb | replace hb := bne_iff_ne.1 hb | replace hb := bne_eq_false_iff_eq.1 hb | replace hb := of_decide_eq_true hb | replace hb := of_decide_eq_false hb | replace hb := eq_of_beq hb | replace hb := ne_of_beq_false hb | skip) <;> (first | contradiction | (exfalso; omega) | skip)))))
        | ((with_reducible apply RunL.oStS v0_ok); (· rfl); (· rfl); (· conv => lhs; whnf); (· rfl); (· rfl); (· rfl); (· rfl); (· rfl); (· conv => lhs; whnf); (· rfl); (· rfl); (· rfl); (· exact set_le (by omega) (by omega)); (· conv => lhs; simp only [List.set_cons_zero, List.set_cons_succ]))
        | ((with_reducible apply RunL.o v0_ok); (· rfl); (· conv => lhs; whnf); (· rfl); (· conv => lhs; whnf); (· rfl); (· conv => lhs; whnf); try ((with_reducible apply RunL.spl); (all_goals (intro hb <;> (try simp only [List.length_map] at hb) <;> (first | replace hb := not_t hb | replace hb := not_f hb | replace hb := bne_iff_ne.1 hb | replace hb := bne_eq_false_iff_eq.1 hb | replace hb := of_decide_eq_true hb | replace hb := of_decide_eq_false hb | replace hb := eq_of_beq hb | replace hb := ne_of_beq_false hb | skip) <;> (first | contradiction | (exfalso; omega) | skip)))))
        | ((with_reducible apply RunL.oS); (· rfl); (· conv => lhs; whnf); (· rfl))
        | ((with_reducible apply RunL.oN v0_ok); (· rfl); (· rfl); (· rfl))
        | ((with_reducible apply RunL.oSN); (· rfl); (· rfl))))
      | ((with_reducible refine Run.condSelf ?_); (first
        | ((with_reducible apply Run.condT); (· rfl))
        | ((with_reducible apply Run.condF); (· rfl))
        | ((with_reducible apply Run.condK); (· rfl); (all_goals (intro hb <;> (try simp only [List.length_map] at hb) <;> (first | replace hb := not_t hb | replace hb := not_f hb | replace hb := bne_iff_ne.1 hb | replace hb := bne_eq_false_iff_eq.1 hb | replace hb := of_decide_eq_true hb | replace hb := of_decide_eq_false hb | replace hb := eq_of_beq hb | replace hb := ne_of_beq_false hb | skip) <;> (first | contradiction | (exfalso; omega) | skip)))))))
    · have f3 : le c d = true := ‹le c d = true›
      rw [all_drop (by omega), f3] at h4
      exact ⟨(d + 1, q), by dsimp only; omega, ⟨by dsimp only; omega, by simpa using h4⟩, .same rfl ⟨rfl, rfl, rfl, rfl, rfl, get_int rfl (by rw [IntWalk.i64_in _ (by omega)]; omega), trivial⟩ rfl rfl⟩
    · have f1 : le a d = true := ‹le a d = true›
      have f2 : le b d = true := ‹le b d = true›
      have f3 : le c d = false := ‹le c d = false›
      rw [all_drop (by omega), f1, f2, f3] at h4
      exact ⟨(d + 1, false), by dsimp only; omega, ⟨by dsimp only; omega, by simpa using h4⟩, .same rfl ⟨rfl, rfl, rfl, rfl, rfl, get_int rfl (by rw [IntWalk.i64_in _ (by omega)]; omega), trivial⟩ rfl rfl⟩
    · have f2 : le b d = false := ‹le b d = false›
      rw [all_drop (by omega), f2] at h4
      exact ⟨(d + 1, q), by dsimp only; omega, ⟨by dsimp only; omega, by simpa using h4⟩, .same rfl ⟨rfl, rfl, rfl, rfl, rfl, get_int rfl (by rw [IntWalk.i64_in _ (by omega)]; omega), trivial⟩ rfl rfl⟩
    · have f1 : le a d = false := ‹le a d = false›
      rw [all_drop (by omega), f1] at h4
      exact ⟨(d + 1, q), by dsimp only; omega, ⟨by dsimp only; omega, by simpa using h4⟩, .same rfl ⟨rfl, rfl, rfl, rfl, rfl, get_int rfl (by rw [IntWalk.i64_in _ (by omega)]; omega), trivial⟩ rfl rfl⟩
    · obtain rfl := ‹q = true›
      obtain rfl : d = n := by omega
      rw [all_end, Bool.and_true] at h4
      rw [h4, if_pos rfl] at h2
      change EndF _ _ _ _ _
      refine EndF.mk (.inr rfl) rfl (by rfl) (by conv => lhs; whnf) (.pure (.flat rfl)) ?_
      rw [h2]
    · obtain rfl := ‹q = false›
      obtain rfl : d = n := by omega
      rw [Bool.false_and] at h4
      rw [h4, if_neg (by decide)] at h2
      exact ⟨c + 1, by omega, ⟨by omega, h2⟩, .same rfl ⟨rfl, rfl, rfl, get_int rfl (by rw [IntWalk.i64_in _ (by omega)]; omega), trivial⟩ rfl rfl⟩
  · have e2 : le b c = false := ‹le b c = false›
    rw [joinFrom_step (by omega), isJ, e2, Bool.and_false, Bool.false_and, if_neg (by decide)] at h2
    exact ⟨c + 1, by omega, ⟨by omega, h2⟩, .same rfl ⟨rfl, rfl, rfl, get_int rfl (by rw [IntWalk.i64_in _ (by omega)]; omega), trivial⟩ rfl rfl⟩
  · have e1 : le a c = false := ‹le a c = false›
    rw [joinFrom_step (by omega), isJ, e1, Bool.false_and, Bool.false_and, if_neg (by decide)] at h2
    exact ⟨c + 1, by omega, ⟨by omega, h2⟩, .same rfl ⟨rfl, rfl, rfl, get_int rfl (by rw [IntWalk.i64_in _ (by omega)]; omega), trivial⟩ rfl rfl⟩
  · obtain rfl : c = n := by omega
    rw [joinFrom_end] at h2
    change EndF _ _ _ _ _
    refine EndF.mk (.inr rfl) rfl (by rfl) (by conv => lhs; whnf) (.pure (.flat rfl)) ?_
    rw [h2]

theorem meet_ok (n : Nat) (hn : n ≤ 8) (le : Nat → Nat → Bool) (a b : Nat) (ha : a < 8) (hB : b < 8) : Fn Tryz.prog 23 [.agg (refL n le), .int .i64 a, .int .i64 b] fun y => y = .int .i64 (joinI n (fun i j => le j i) a b) := by
  show Fn Tryz.prog 23 [.agg (refL n le), .int .i64 a, .int .i64 b] _
  refine Fn.mk1 Tryz.func23 rfl (by (repeat' (first | exact .flat rfl | exact PureL.nil | assumption | apply PureL.cons | apply Pure.agg' | apply Pure.tuple' | apply Pure.rptr' | exact pure_refL _ _))) (by (repeat' (first | exact .flat rfl | exact PureL.nil | assumption | apply PureL.cons | apply Pure.agg' | apply Pure.tuple' | apply Pure.rptr' | exact pure_refL _ _))) ?_
  rw [show enterFr Tryz.f23 [.agg (refL n le), .int .i64 a, .int .i64 b] = ⟨63, .upd (.upd (.upd .emp 0 (.agg (refL n le))) 1 (.int .i64 a)) 2 (.int .i64 b)⟩ from rfl]
  repeat' (first
    | (with_reducible refine andThen_normal ?_)
    | (with_reducible refine andThen_ret ?_)
    | (with_reducible refine inBlk_normal ?_)
    | (with_reducible refine inBlk_ret ?_)
    | (with_reducible refine inBlk_hit ?_)
    | (with_reducible refine andThen_exit ?_)
    | ((with_reducible refine inBlk_miss ?_ ?_); (· rfl))
    | (with_reducible refine Run.seq ?_)
    | (with_reducible refine Run.skip ?_)
    | (with_reducible refine Run.ret ?_)
    | (with_reducible refine Run.exit ?_)
    | (with_reducible refine Run.block ?_)
    | (with_reducible refine Run.scope ?_)
    | (with_reducible refine Run.label ?_)
    | ((with_reducible refine Run.regionSelf ?_); ((with_reducible apply Run.lst); (· conv => lhs; whnf)))
    | (with_reducible refine RunL.nil ?_)
    | ((with_reducible refine RunL.self ?_); (first
      | ((with_reducible apply RunL.oFp v0_ok); (· rfl); (· rfl); (· rfl); (· rfl); (· rfl); (· conv => lhs; whnf); (· rfl); (· conv => lhs; whnf))
      | ((with_reducible apply RunL.oFr v0_ok); (· rfl); (· rfl); (· rfl); (· rfl); (· rfl); (· conv => lhs; whnf); (· rfl); (· conv => lhs; whnf))
      | ((with_reducible apply RunL.oBox v0_ok); (· rfl); (· rfl); (· conv => lhs; whnf); (· rfl); (· rfl); (· conv => lhs; whnf); (· conv => lhs; whnf); (· conv => lhs; simp only [List.length_cons, List.length_nil, Nat.zero_add, Nat.reduceAdd]); (· conv => lhs; simp only [List.cons_append, List.nil_append]))
      | ((with_reducible apply RunL.oAl v0_ok); (· rfl); (· first | exact z33); (· rfl); (· conv => lhs; whnf); (· rfl); (· conv => lhs; simp only [List.length_cons, List.length_nil, Nat.zero_add, Nat.reduceAdd]); (· conv => lhs; simp only [List.cons_append, List.nil_append]))
      | ((with_reducible apply RunL.oSt); (· rfl); (· rfl); (· conv => lhs; whnf); (· rfl); (· rfl); (· rfl); (· rfl); (· rfl); (· conv => lhs; whnf); (· conv => lhs; whnf); (· rfl); (· rfl); (· rfl); (· conv => lhs; simp only [setAll, List.set_cons_zero, List.set_cons_succ, Nat.reduceAdd, Nat.zero_add, setAll_le]); (· conv => lhs; simp only [List.set_cons_zero, List.set_cons_succ]); (· (repeat' (first | exact .flat rfl | exact PureL.nil | assumption | apply PureL.cons | apply Pure.agg' | apply Pure.tuple' | apply Pure.rptr' | exact pure_refL _ _)); done))
      | ((with_reducible apply RunL.oStM); (· rfl); (· rfl); (· conv => lhs; whnf); (· rfl); (· rfl); (· rfl); (· rfl); (· rfl); (· conv => lhs; whnf); (· conv => lhs; whnf); (· rfl); (· rfl); (· rfl); (· conv => lhs; simp only [setAll, List.set_cons_zero, List.set_cons_succ, Nat.reduceAdd, Nat.zero_add, setAll_le]); (· conv => lhs; simp only [List.set_cons_zero, List.set_cons_succ]); (· conv => lhs; whnf))
      | ((with_reducible apply RunL.oLa v0_ok); (· rfl); (· rfl); (· rfl); (· conv => lhs; whnf); (· rfl); (· rfl); (· rfl); (· conv => lhs; whnf); (· rfl); (· rfl); (· conv => lhs; simp only [List.drop_zero, List.drop_succ_cons, List.take_succ_cons, List.take_zero, take_leCells]))
      | ((with_reducible apply RunL.oI v0_ok); (· rfl); (· rfl); (· rfl); (· rfl); (· rfl); (· exact aindexAddr_arrN (by rfl) (by rfl) (by omega)))
      | ((with_reducible apply RunL.oLd v0_ok); (· rfl); (· rfl); (· rfl); (· rfl); (· exact aload_own (by rfl) (by rfl) (refL_get _ _ (by omega) (by omega))); try ((with_reducible apply RunL.spl); (all_goals (intro hb <;> (try simp only [List.length_map] at hb) <;> (first | replace hb := not_t hb | replace hb := not_f hb | replace hb := bne_iff_ne.1 hb | replace hb := bne_eq_false_iff_eq.1 hb | replace hb := of_decide_eq_true hb | replace hb := of_decide_eq_false hb | replace hb := eq_of_beq hb | replace hb := ne_of_beq_false hb | skip) <;> (first | contradiction | (exfalso; omega) | skip)))))
      | ((with_reducible apply RunL.oStS v0_ok); (· rfl); (· rfl); (· conv => lhs; whnf); (· rfl); (· rfl); (· rfl); (· rfl); (· rfl); (· conv => lhs; whnf); (· rfl); (· rfl); (· rfl); (· exact set_le (by omega) (by omega)); (· conv => lhs; simp only [List.set_cons_zero, List.set_cons_succ]))
      | ((with_reducible apply RunL.o v0_ok); (· rfl); (· conv => lhs; whnf); (· rfl); (· conv => lhs; whnf); (· rfl); (· conv => lhs; whnf); try ((with_reducible apply RunL.spl); (all_goals (intro hb <;> (try simp only [List.length_map] at hb) <;> (first | replace hb := not_t hb | replace hb := not_f hb | replace hb := bne_iff_ne.1 hb | replace hb := bne_eq_false_iff_eq.1 hb | replace hb := of_decide_eq_true hb | replace hb := of_decide_eq_false hb | replace hb := eq_of_beq hb | replace hb := ne_of_beq_false hb | skip) <;> (first | contradiction | (exfalso; omega) | skip)))))
      | ((with_reducible apply RunL.oS); (· rfl); (· conv => lhs; whnf); (· rfl))
      | ((with_reducible apply RunL.oN v0_ok); (· rfl); (· rfl); (· rfl))
      | ((with_reducible apply RunL.oSN); (· rfl); (· rfl))))
    | ((with_reducible refine Run.condSelf ?_); (first
      | ((with_reducible apply Run.condT); (· rfl))
      | ((with_reducible apply Run.condF); (· rfl))
      | ((with_reducible apply Run.condK); (· rfl); (all_goals (intro hb <;> (try simp only [List.length_map] at hb) <;> (first | replace hb := not_t hb | replace hb := not_f hb | replace hb := bne_iff_ne.1 hb | replace hb := bne_eq_false_iff_eq.1 hb | replace hb := of_decide_eq_true hb | replace hb := of_decide_eq_false hb | replace hb := eq_of_beq hb | replace hb := ne_of_beq_false hb | skip) <;> (first | contradiction | (exfalso; omega) | skip)))))))
  refine Run.loopK 63 (fun i : Nat => n - i) (fun i => i ≤ n ∧ joinI n (fun i j => le j i) a b = joinFrom n (fun i j => le j i) a b i) (fun i => [(1, .int .i64 a), (2, .int .i64 b), (3, .ptr 0 0), (7, .int .i64 (i : Int))])
    (fun _ => ⟨[.cells (refL n le)], [], 1000000⟩) 0 ⟨Nat.zero_le _, rfl⟩ (.same rfl ⟨rfl, rfl, rfl, rfl, trivial⟩ rfl rfl) (fun c ⟨h1, h2⟩ => ?_)
  repeat' (first
    | (with_reducible refine andThen_normal ?_)
    | (with_reducible refine andThen_ret ?_)
    | (with_reducible refine inBlk_normal ?_)
    | (with_reducible refine inBlk_ret ?_)
    | (with_reducible refine inBlk_hit ?_)
    | (with_reducible refine andThen_exit ?_)
    | ((with_reducible refine inBlk_miss ?_ ?_); (· rfl))
    | ((fail_if_success (with_reducible change Run _ _ (.seq (.region 7 _ _) _) _ _)); (fail_if_success (with_reducible change Run _ _ (.seq (.seq (.region 7 _ _) _) _) _ _)); (with_reducible refine Run.seq ?_))
    | (with_reducible refine Run.skip ?_)
    | (with_reducible refine Run.ret ?_)
    | (with_reducible refine Run.exit ?_)
    | (with_reducible refine Run.block ?_)
    | (with_reducible refine Run.scope ?_)
    | (with_reducible refine Run.label ?_)
    | ((with_reducible refine Run.regionSelf ?_); ((with_reducible apply Run.lst); (· conv => lhs; whnf)))
    | (with_reducible refine RunL.nil ?_)
    | ((with_reducible refine RunL.self ?_); (first
      | ((with_reducible apply RunL.oFp v0_ok); (· rfl); (· rfl); (· rfl); (· rfl); (· rfl); (· conv => lhs; whnf); (· rfl); (· conv => lhs; whnf))
      | ((with_reducible apply RunL.oFr v0_ok); (· rfl); (· rfl); (· rfl); (· rfl); (· rfl); (· conv => lhs; whnf); (· rfl); (· conv => lhs; whnf))
      | ((with_reducible apply RunL.oBox v0_ok); (· rfl); (· rfl); (· conv => lhs; whnf); (· rfl); (· rfl); (· conv => lhs; whnf); (· conv => lhs; whnf); (· conv => lhs; simp only [List.length_cons, List.length_nil, Nat.zero_add, Nat.reduceAdd]); (· conv => lhs; simp only [List.cons_append, List.nil_append]))
      | ((with_reducible apply RunL.oAl v0_ok); (· rfl); (· first | exact z33); (· rfl); (· conv => lhs; whnf); (· rfl); (· conv => lhs; simp only [List.length_cons, List.length_nil, Nat.zero_add, Nat.reduceAdd]); (· conv => lhs; simp only [List.cons_append, List.nil_append]))
      | ((with_reducible apply RunL.oSt); (· rfl); (· rfl); (· conv => lhs; whnf); (· rfl); (· rfl); (· rfl); (· rfl); (· rfl); (· conv => lhs; whnf); (· conv => lhs; whnf); (· rfl); (· rfl); (· rfl); (· conv => lhs; simp only [setAll, List.set_cons_zero, List.set_cons_succ, Nat.reduceAdd, Nat.zero_add, setAll_le]); (· conv => lhs; simp only [List.set_cons_zero, List.set_cons_succ]); (· (repeat' (first | exact .flat rfl | exact PureL.nil | assumption | apply PureL.cons | apply Pure.agg' | apply Pure.tuple' | apply Pure.rptr' | exact pure_refL _ _)); done))
      | ((with_reducible apply RunL.oStM); (· rfl); (· rfl); (· conv => lhs; whnf); (· rfl); (· rfl); (· rfl); (· rfl); (· rfl); (· conv => lhs; whnf); (· conv => lhs; whnf); (· rfl); (· rfl); (· rfl); (· conv => lhs; simp only [setAll, List.set_cons_zero, List.set_cons_succ, Nat.reduceAdd, Nat.zero_add, setAll_le]); (· conv => lhs; simp only [List.set_cons_zero, List.set_cons_succ]); (· conv => lhs; whnf))
      | ((with_reducible apply RunL.oLa v0_ok); (· rfl); (· rfl); (· rfl); (· conv => lhs; whnf); (· rfl); (· rfl); (· rfl); (· conv => lhs; whnf); (· rfl); (· rfl); (· conv => lhs; simp only [List.drop_zero, List.drop_succ_cons, List.take_succ_cons, List.take_zero, take_leCells]))
      | ((with_reducible apply RunL.oI v0_ok); (· rfl); (· rfl); (· rfl); (· rfl); (· rfl); (· exact aindexAddr_arrN (by rfl) (by rfl) (by omega)))
      | ((with_reducible apply RunL.oLd v0_ok); (· rfl); (· rfl); (· rfl); (· rfl); (· exact aload_own (by rfl) (by rfl) (refL_get _ _ (by omega) (by omega))); try ((with_reducible apply RunL.spl); (all_goals (intro hb <;> (try simp only [List.length_map] at hb) <;> (first | replace hb := not_t hb | replace hb := not_f hb | replace hb := bne_iff_ne.1 hb | replace hb := bne_eq_false_iff_eq.1 hb | replace hb := of_decide_eq_true hb | replace hb := of_decide_eq_false hb | replace hb := eq_of_beq hb | replace hb := ne_of_beq_false hb | skip) <;> (first | contradiction | (exfalso; omega) | skip)))))
      | ((with_reducible apply RunL.oStS v0_ok); (· rfl); (· rfl); (· conv => lhs; whnf); (· rfl); (· rfl); (· rfl); (· rfl); (· rfl); (· conv => lhs; whnf); (· rfl); (· rfl); (· rfl); (· exact set_le (by omega) (by omega)); (· conv => lhs; simp only [List.set_cons_zero, List.set_cons_succ]))
      | ((with_reducible apply RunL.o v0_ok); (· rfl); (· conv => lhs; whnf); (· rfl); (· conv => lhs; whnf); (· rfl); (· conv => lhs; whnf); try ((with_reducible apply RunL.spl); (all_goals (intro hb <;> (try simp only [List.length_map] at hb) <;> (first | replace hb := not_t hb | replace hb := not_f hb | replace hb := bne_iff_ne.1 hb | replace hb := bne_eq_false_iff_eq.1 hb | replace hb := of_decide_eq_true hb | replace hb := of_decide_eq_false hb | replace hb := eq_of_beq hb | replace hb := ne_of_beq_false hb | skip) <;> (first | contradiction | (exfalso; omega) | skip)))))
      | ((with_reducible apply RunL.oS); (· rfl); (· conv => lhs; whnf); (· rfl))
      | ((with_reducible apply RunL.oN v0_ok); (· rfl); (· rfl); (· rfl))
      | ((with_reducible apply RunL.oSN); (· rfl); (· rfl))))
    | ((with_reducible refine Run.condSelf ?_); (first
      | ((with_reducible apply Run.condT); (· rfl))
      | ((with_reducible apply Run.condF); (· rfl))
      | ((with_reducible apply Run.condK); (· rfl); (all_goals (intro hb <;> (try simp only [List.length_map] at hb) <;> (first | replace hb := not_t hb | replace hb := not_f hb | replace hb := bne_iff_ne.1 hb | replace hb := bne_eq_false_iff_eq.1 hb | replace hb := of_decide_eq_true hb | replace hb := of_decide_eq_false hb | replace hb := eq_of_beq hb | replace hb := ne_of_beq_false hb | skip) <;> (first | contradiction | (exfalso; omega) | skip)))))))
  · have e1 : le c a = true := ‹le c a = true›
    have e2 : le c b = true := ‹le c b = true›
    rw [joinFrom_step (by omega), isJ, e1, e2, Bool.true_and, Bool.true_and] at h2
    repeat' (first
      | (with_reducible refine andThen_normal ?_)
      | (with_reducible refine andThen_ret ?_)
      | (with_reducible refine inBlk_normal ?_)
      | (with_reducible refine inBlk_ret ?_)
      | (with_reducible refine inBlk_hit ?_)
      | (with_reducible refine andThen_exit ?_)
      | ((with_reducible refine inBlk_miss ?_ ?_); (· rfl))
      | (with_reducible refine Run.seq ?_)
      | (with_reducible refine Run.skip ?_)
      | (with_reducible refine Run.ret ?_)
      | (with_reducible refine Run.exit ?_)
      | (with_reducible refine Run.block ?_)
      | (with_reducible refine Run.scope ?_)
      | (with_reducible refine Run.label ?_)
      | ((with_reducible refine Run.regionSelf ?_); ((with_reducible apply Run.lst); (· conv => lhs; whnf)))
      | (with_reducible refine RunL.nil ?_)
      | ((with_reducible refine RunL.self ?_); (first
        | ((with_reducible apply RunL.oFp v0_ok); (· rfl); (· rfl); (· rfl); (· rfl); (· rfl); (· conv => lhs; whnf); (· rfl); (· conv => lhs; whnf))
        | ((with_reducible apply RunL.oFr v0_ok); (· rfl); (· rfl); (· rfl); (· rfl); (· rfl); (· conv => lhs; whnf); (· rfl); (· conv => lhs; whnf))
        | ((with_reducible apply RunL.oBox v0_ok); (· rfl); (· rfl); (· conv => lhs; whnf); (· rfl); (· rfl); (· conv => lhs; whnf); (· conv => lhs; whnf); (· conv => lhs; simp only [List.length_cons, List.length_nil, Nat.zero_add, Nat.reduceAdd]); (· conv => lhs; simp only [List.cons_append, List.nil_append]))
        | ((with_reducible apply RunL.oAl v0_ok); (· rfl); (· first | exact z33); (· rfl); (· conv => lhs; whnf); (· rfl); (· conv => lhs; simp only [List.length_cons, List.length_nil, Nat.zero_add, Nat.reduceAdd]); (· conv => lhs; simp only [List.cons_append, List.nil_append]))
        | ((with_reducible apply RunL.oSt); (· rfl); (· rfl); (· conv => lhs; whnf); (· rfl); (· rfl); (· rfl); (· rfl); (· rfl); (· conv => lhs; whnf); (· conv => lhs; whnf); (· rfl); (· rfl); (· rfl); (· conv => lhs; simp only [setAll, List.set_cons_zero, List.set_cons_succ, Nat.reduceAdd, Nat.zero_add, setAll_le]); (· conv => lhs; simp only [List.set_cons_zero, List.set_cons_succ]); (· (repeat' (first | exact .flat rfl | exact PureL.nil | assumption | apply PureL.cons | apply Pure.agg' | apply Pure.tuple' | apply Pure.rptr' | exact pure_refL _ _)); done))
        | ((with_reducible apply RunL.oStM); (· rfl); (· rfl); (· conv => lhs; whnf); (· rfl); (· rfl); (· rfl); (· rfl); (· rfl); (· conv => lhs; whnf); (· conv => lhs; whnf); (· rfl); (· rfl); (· rfl); (· conv => lhs; simp only [setAll, List.set_cons_zero, List.set_cons_succ, Nat.reduceAdd, Nat.zero_add, setAll_le]); (· conv => lhs; simp only [List.set_cons_zero, List.set_cons_succ]); (· conv => lhs; whnf))
        | ((with_reducible apply RunL.oLa v0_ok); (· rfl); (· rfl); (· rfl); (· conv => lhs; whnf); (· rfl); (· rfl); (· rfl); (· conv => lhs; whnf); (· rfl); (· rfl); (· conv => lhs; simp only [List.drop_zero, List.drop_succ_cons, List.take_succ_cons, List.take_zero, take_leCells]))
        | ((with_reducible apply RunL.oI v0_ok); (· rfl); (· rfl); (· rfl); (· rfl); (· rfl); (· exact aindexAddr_arrN (by rfl) (by rfl) (by omega)))
        | ((with_reducible apply RunL.oLd v0_ok); (· rfl); (· rfl); (· rfl); (· rfl); (· exact aload_own (by rfl) (by rfl) (refL_get _ _ (by omega) (by omega))); try ((with_reducible apply RunL.spl); (all_goals (intro hb <;> (try simp only [List.length_map] at hb) <;> (first | replace hb := not_t hb | replace hb := not_f hb | replace hb := bne_iff_ne.1 hb | replace hb := bne_eq_false_iff_eq.1 hb | replace hb := of_decide_eq_true hb | replace hb := of_decide_eq_false hb | replace hb := eq_of_beq hb | replace hb := ne_of_beq_false hb | skip) <;> (first | contradiction | (exfalso; omega) | skip)))))
        | ((with_reducible apply RunL.oStS v0_ok); (· rfl); (· rfl); (· conv => lhs; whnf); (· rfl); (· rfl); (· rfl); (· rfl); (· rfl); (· conv => lhs; whnf); (· rfl); (· rfl); (· rfl); (· exact set_le (by omega) (by omega)); (· conv => lhs; simp only [List.set_cons_zero, List.set_cons_succ]))
        | ((with_reducible apply RunL.o v0_ok); (· rfl); (· conv => lhs; whnf); (· rfl); (· conv => lhs; whnf); (· rfl); (· conv => lhs; whnf); try ((with_reducible apply RunL.spl); (all_goals (intro hb <;> (try simp only [List.length_map] at hb) <;> (first | replace hb := not_t hb | replace hb := not_f hb | replace hb := bne_iff_ne.1 hb | replace hb := bne_eq_false_iff_eq.1 hb | replace hb := of_decide_eq_true hb | replace hb := of_decide_eq_false hb | replace hb := eq_of_beq hb | replace hb := ne_of_beq_false hb | skip) <;> (first | contradiction | (exfalso; omega) | skip)))))
        | ((with_reducible apply RunL.oS); (· rfl); (· conv => lhs; whnf); (· rfl))
        | ((with_reducible apply RunL.oN v0_ok); (· rfl); (· rfl); (· rfl))
        | ((with_reducible apply RunL.oSN); (· rfl); (· rfl))))
      | ((with_reducible refine Run.condSelf ?_); (first
        | ((with_reducible apply Run.condT); (· rfl))
        | ((with_reducible apply Run.condF); (· rfl))
        | ((with_reducible apply Run.condK); (· rfl); (all_goals (intro hb <;> (try simp only [List.length_map] at hb) <;> (first | replace hb := not_t hb | replace hb := not_f hb | replace hb := bne_iff_ne.1 hb | replace hb := bne_eq_false_iff_eq.1 hb | replace hb := of_decide_eq_true hb | replace hb := of_decide_eq_false hb | replace hb := eq_of_beq hb | replace hb := ne_of_beq_false hb | skip) <;> (first | contradiction | (exfalso; omega) | skip)))))))
    refine Run.loopK 63 (fun p : Nat × Bool => n - p.1) (fun p => p.1 ≤ n ∧ ((List.range n).all fun d => !(le d a && le d b && !le d c)) = (p.2 && ((List.range n).drop p.1).all fun d => !(le d a && le d b && !le d c)))
      (fun p => [(1, .int .i64 a), (2, .int .i64 b), (3, .ptr 0 0), (7, .int .i64 c), (8, .bool p.2), (9, .int .i64 (p.1 : Int))])
      (fun _ => ⟨[.cells (refL n le)], [], 1000000⟩) (0, true) ⟨Nat.zero_le _, rfl⟩ (.same rfl ⟨rfl, rfl, rfl, rfl, rfl, rfl, trivial⟩ rfl rfl) (fun ⟨d, q⟩ ⟨h3, h4⟩ => ?_)
    dsimp only at h3 h4 ⊢
    repeat' (first
      | (with_reducible refine andThen_normal ?_)
      | (with_reducible refine andThen_ret ?_)
      | (with_reducible refine inBlk_normal ?_)
      | (with_reducible refine inBlk_ret ?_)
      | (with_reducible refine inBlk_hit ?_)
      | (with_reducible refine andThen_exit ?_)
      | ((with_reducible refine inBlk_miss ?_ ?_); (· rfl))
      | (with_reducible refine Run.seq ?_)
      | (with_reducible refine Run.skip ?_)
      | (with_reducible refine Run.ret ?_)
      | (with_reducible refine Run.exit ?_)
      | (with_reducible refine Run.block ?_)
      | (with_reducible refine Run.scope ?_)
      | (with_reducible refine Run.label ?_)
      | ((with_reducible refine Run.regionSelf ?_); ((with_reducible apply Run.lst); (· conv => lhs; whnf)))
      | (with_reducible refine RunL.nil ?_)
      | ((with_reducible refine RunL.self ?_); (first
        | ((with_reducible apply RunL.oFp v0_ok); (· rfl); (· rfl); (· rfl); (· rfl); (· rfl); (· conv => lhs; whnf); (· rfl); (· conv => lhs; whnf))
        | ((with_reducible apply RunL.oFr v0_ok); (· rfl); (· rfl); (· rfl); (· rfl); (· rfl); (· conv => lhs; whnf); (· rfl); (· conv => lhs; whnf))
        | ((with_reducible apply RunL.oBox v0_ok); (· rfl); (· rfl); (· conv => lhs; whnf); (· rfl); (· rfl); (· conv => lhs; whnf); (· conv => lhs; whnf); (· conv => lhs; simp only [List.length_cons, List.length_nil, Nat.zero_add, Nat.reduceAdd]); (· conv => lhs; simp only [List.cons_append, List.nil_append]))
        | ((with_reducible apply RunL.oAl v0_ok); (· rfl); (· first | exact z33); (· rfl); (· conv => lhs; whnf); (· rfl); (· conv => lhs; simp only [List.length_cons, List.length_nil, Nat.zero_add, Nat.reduceAdd]); (· conv => lhs; simp only [List.cons_append, List.nil_append]))
        | ((with_reducible apply RunL.oSt); (· rfl); (· rfl); (· conv => lhs; whnf); (· rfl); (· rfl); (· rfl); (· rfl); (· rfl); (· conv => lhs; whnf); (· conv => lhs; whnf); (· rfl); (· rfl); (· rfl); (· conv => lhs; simp only [setAll, List.set_cons_zero, List.set_cons_succ, Nat.reduceAdd, Nat.zero_add, setAll_le]); (· conv => lhs; simp only [List.set_cons_zero, List.set_cons_succ]); (· (repeat' (first | exact .flat rfl | exact PureL.nil | assumption | apply PureL.cons | apply Pure.agg' | apply Pure.tuple' | apply Pure.rptr' | exact pure_refL _ _)); done))
        | ((with_reducible apply RunL.oStM); (· rfl); (· rfl); (· conv => lhs; whnf); (· rfl); (· rfl); (· rfl); (· rfl); (· rfl); (· conv => lhs; whnf); (· conv => lhs; whnf); (· rfl); (· rfl); (· rfl); (· conv => lhs; simp only [setAll, List.set_cons_zero, List.set_cons_succ, Nat.reduceAdd, Nat.zero_add, setAll_le]); (· conv => lhs; simp only [List.set_cons_zero, List.set_cons_succ]); (· conv => lhs; whnf))
        | ((with_reducible apply RunL.oLa v0_ok); (· rfl); (· rfl); (· rfl); (· conv => lhs; whnf); (· rfl); (· rfl); (· rfl); (· conv => lhs; whnf); (· rfl); (· rfl); (· conv => lhs; simp only [List.drop_zero, List.drop_succ_cons, List.take_succ_cons, List.take_zero, take_leCells]))
        | ((with_reducible apply RunL.oI v0_ok); (· rfl); (· rfl); (· rfl); (· rfl); (· rfl); (· exact aindexAddr_arrN (by rfl) (by rfl) (by omega)))
        | ((with_reducible apply RunL.oLd v0_ok); (· rfl); (· rfl); (· rfl); (· rfl); (· exact aload_own (by rfl) (by rfl) (refL_get _ _ (by omega) (by omega))); try ((with_reducible apply RunL.spl); (all_goals (intro hb <;> (try simp only [List.length_map] at hb) <;> (first | replace hb := not_t hb | replace hb := not_f hb | replace hb := bne_iff_ne.1 hb | replace hb := bne_eq_false_iff_eq.1 hb | replace hb := of_decide_eq_true hb | replace hb := of_decide_eq_false hb | replace hb := eq_of_beq hb | replace hb := ne_of_beq_false hb | skip) <;> (first | contradiction | (exfalso; omega) | skip)))))
        | ((with_reducible apply RunL.oStS v0_ok); (· rfl); (· rfl); (· conv => lhs; whnf); (· rfl); (· rfl); (· rfl); (· rfl); (· rfl); (· conv => lhs; whnf); (· rfl); (· rfl); (· rfl); (· exact set_le (by omega) (by omega)); (· conv => lhs; simp only [List.set_cons_zero, List.set_cons_succ]))
        | ((with_reducible apply RunL.o v0_ok); (· rfl); (· conv => lhs; whnf); (· rfl); (· conv => lhs; whnf); (· rfl); (· conv => lhs; whnf); try ((with_reducible apply RunL.spl); (all_goals (intro hb <;> (try simp only [List.length_map] at hb) <;> (first | replace hb := not_t hb | replace hb := not_f hb | replace hb := bne_iff_ne.1 hb | replace hb := bne_eq_false_iff_eq.1 hb | replace hb := of_decide_eq_true hb | replace hb := of_decide_eq_false hb | replace hb := eq_of_beq hb | replace hb := ne_of_beq_false hb | skip) <;> (first | contradiction | (exfalso; omega) | skip)))))
        | ((with_reducible apply RunL.oS); (· rfl); (· conv => lhs; whnf); (· rfl))
        | ((with_reducible apply RunL.oN v0_ok); (· rfl); (· rfl); (· rfl))
        | ((with_reducible apply RunL.oSN); (· rfl); (· rfl))))
      | ((with_reducible refine Run.condSelf ?_); (first
        | ((with_reducible apply Run.condT); (· rfl))
        | ((with_reducible apply Run.condF); (· rfl))
        | ((with_reducible apply Run.condK); (· rfl); (all_goals (intro hb <;> (try simp only [List.length_map] at hb) <;> (first | replace hb := not_t hb | replace hb := not_f hb | replace hb := bne_iff_ne.1 hb | replace hb := bne_eq_false_iff_eq.1 hb | replace hb := of_decide_eq_true hb | replace hb := of_decide_eq_false hb | replace hb := eq_of_beq hb | replace hb := ne_of_beq_false hb | skip) <;> (first | contradiction | (exfalso; omega) | skip)))))))
    · have f3 : le d c = true := ‹le d c = true›
      rw [all_drop (by omega), f3] at h4
      exact ⟨(d + 1, q), by dsimp only; omega, ⟨by dsimp only; omega, by simpa using h4⟩, .same rfl ⟨rfl, rfl, rfl, rfl, rfl, get_int rfl (by rw [IntWalk.i64_in _ (by omega)]; omega), trivial⟩ rfl rfl⟩
    · have f1 : le d a = true := ‹le d a = true›
      have f2 : le d b = true := ‹le d b = true›
      have f3 : le d c = false := ‹le d c = false›
      rw [all_drop (by omega), f1, f2, f3] at h4
      exact ⟨(d + 1, false), by dsimp only; omega, ⟨by dsimp only; omega, by simpa using h4⟩, .same rfl ⟨rfl, rfl, rfl, rfl, rfl, get_int rfl (by rw [IntWalk.i64_in _ (by omega)]; omega), trivial⟩ rfl rfl⟩
    · have f2 : le d b = false := ‹le d b = false›
      rw [all_drop (by omega), f2] at h4
      exact ⟨(d + 1, q), by dsimp only; omega, ⟨by dsimp only; omega, by simpa using h4⟩, .same rfl ⟨rfl, rfl, rfl, rfl, rfl, get_int rfl (by rw [IntWalk.i64_in _ (by omega)]; omega), trivial⟩ rfl rfl⟩
    · have f1 : le d a = false := ‹le d a = false›
      rw [all_drop (by omega), f1] at h4
      exact ⟨(d + 1, q), by dsimp only; omega, ⟨by dsimp only; omega, by simpa using h4⟩, .same rfl ⟨rfl, rfl, rfl, rfl, rfl, get_int rfl (by rw [IntWalk.i64_in _ (by omega)]; omega), trivial⟩ rfl rfl⟩
    · obtain rfl := ‹q = true›
      obtain rfl : d = n := by omega
      rw [all_end, Bool.and_true] at h4
      rw [h4, if_pos rfl] at h2
      change EndF _ _ _ _ _
      refine EndF.mk (.inr rfl) rfl (by rfl) (by conv => lhs; whnf) (.pure (.flat rfl)) ?_
      rw [h2]
    · obtain rfl := ‹q = false›
      obtain rfl : d = n := by omega
      rw [Bool.false_and] at h4
      rw [h4, if_neg (by decide)] at h2
      exact ⟨c + 1, by omega, ⟨by omega, h2⟩, .same rfl ⟨rfl, rfl, rfl, get_int rfl (by rw [IntWalk.i64_in _ (by omega)]; omega), trivial⟩ rfl rfl⟩
  · have e2 : le c b = false := ‹le c b = false›
    rw [joinFrom_step (by omega), isJ, e2, Bool.and_false, Bool.false_and, if_neg (by decide)] at h2
    exact ⟨c + 1, by omega, ⟨by omega, h2⟩, .same rfl ⟨rfl, rfl, rfl, get_int rfl (by rw [IntWalk.i64_in _ (by omega)]; omega), trivial⟩ rfl rfl⟩
  · have e1 : le c a = false := ‹le c a = false›
    rw [joinFrom_step (by omega), isJ, e1, Bool.false_and, Bool.false_and, if_neg (by decide)] at h2
    exact ⟨c + 1, by omega, ⟨by omega, h2⟩, .same rfl ⟨rfl, rfl, rfl, get_int rfl (by rw [IntWalk.i64_in _ (by omega)]; omega), trivial⟩ rfl rfl⟩
  · obtain rfl : c = n := by omega
    rw [joinFrom_end] at h2
    change EndF _ _ _ _ _
    refine EndF.mk (.inr rfl) rfl (by rfl) (by conv => lhs; whnf) (.pure (.flat rfl)) ?_
    rw [h2]

end Go.Proofs.YtgikapdeekepiaaGreatDoor
