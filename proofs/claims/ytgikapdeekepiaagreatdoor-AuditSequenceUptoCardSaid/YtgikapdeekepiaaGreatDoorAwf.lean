/- AuditSequence: the law. -/
import Derived.Test.YtgikapdeekepiaaGreatDoorAwe
import Derived.Test.YtgikapdeekepiaaGreatDoorAsB
namespace Go.Proofs.YtgikapdeekepiaaGreatDoor
open Go
set_option maxRecDepth 100000
set_option maxHeartbeats 2000000
set_option linter.unusedVariables false

theorem prs_pureL (l : List (Int × Int)) : ∀ e ∈ l.map (fun p => [AV.int .i64 p.1, AV.int .i64 p.2]), ∀ c ∈ e, Pure c := by
  intro e he c hc
  simp only [List.mem_map] at he
  obtain ⟨p, _, rfl⟩ := he
  simp only [List.mem_cons, List.not_mem_nil, or_false] at hc
  rcases hc with rfl | rfl <;> exact .flat rfl

theorem prs_cells (l : List (Int × Int)) : (l.map fun p => [AV.int .i64 p.1, AV.int .i64 p.2]).all (fun e => e.all AV.cellable) = true := by
  simp only [List.all_map, List.all_eq_true]
  intro x _
  rfl

theorem sel_fit (see : Int → Bool) : ∀ l : List Aud, (∀ a ∈ l, a.v.fit) → Val.fitL (sel see l)
  | [], _ => trivial
  | a :: l, h => by
    have ih := sel_fit see l fun x hx => h x (by simp [hx])
    unfold sel at *
    cases hs : see a.to with
    | true => simp only [List.filter_cons, hs, if_true, List.map_cons]; exact ⟨h a (by simp), ih⟩
    | false => simpa only [List.filter_cons, hs, Bool.false_eq_true, if_false] using ih

theorem law_ok (n : Int) (o : List (Int × Int)) (l : List Aud) (hl : Auds l) (lo up : Int) :
    Fn Tryz.prog 3 [.int .i64 n, prs o, auds l, .int .i64 lo, .int .i64 up] fun y => y = .bool true := by
  show Fn Tryz.prog 3 [.int .i64 n, prs o, auds l, .int .i64 lo, .int .i64 up] _
  refine Fn.mk1 Tryz.func3 rfl (by (repeat' (first | exact .flat rfl | exact PureL.nil | assumption | apply PureL.cons | apply Pure.agg' | apply Pure.tuple' | apply Pure.rptr' | exact pure_strs _ | exact pure_items _ | exact pure_val _ | exact pure_auds _ | exact pure_prs _ | exact pure_refL _ _))) (by (repeat' (first | exact .flat rfl | exact PureL.nil | assumption | apply PureL.cons | apply Pure.agg' | apply Pure.tuple' | apply Pure.rptr' | exact pure_strs _ | exact pure_items _ | exact pure_val _ | exact pure_auds _ | exact pure_prs _ | exact pure_refL _ _))) ?_
  rw [show enterFr Tryz.f3 [.int .i64 n, prs o, auds l, .int .i64 lo, .int .i64 up] = ⟨100, .upd (.upd (.upd (.upd (.upd .emp 0 (.int .i64 n)) 1 (prs o)) 2 (auds l)) 3 (.int .i64 lo)) 4 (.int .i64 up)⟩ from rfl]
  repeat' (first
    | (with_reducible refine andThen_normal ?_)
    | (with_reducible refine andThen_ret ?_)
    | (with_reducible refine inBlk_normal ?_)
    | (with_reducible refine inBlk_ret ?_)
    | (with_reducible refine inBlk_hit ?_)
    | (with_reducible refine andThen_exit ?_)
    | ((with_reducible refine inBlk_miss ?_ ?_); (· rfl))
    | (with_reducible refine Run.seq ?_)
    | (with_reducible refine Run.skip ?_)
    | (with_reducible refine Run.ret ?_)
    | (with_reducible refine Run.exit ?_)
    | (with_reducible refine Run.block ?_)
    | (with_reducible refine Run.scope ?_)
    | (with_reducible refine Run.label ?_)
    | ((with_reducible refine Run.regionSelf ?_); ((with_reducible apply Run.lst); (· conv => lhs; whnf)))
    | (with_reducible refine RunL.nil ?_)
    | ((with_reducible refine RunL.self ?_); (first
      | ((with_reducible apply RunL.oFp v0_ok); (· rfl); (· rfl); (· rfl); (· rfl); (· rfl); (· conv => lhs; whnf); (· rfl); (· conv => lhs; whnf))
      | ((with_reducible apply RunL.oFr v0_ok); (· rfl); (· rfl); (· rfl); (· rfl); (· rfl); (· conv => lhs; whnf); (· rfl); (· conv => lhs; whnf))
      | ((with_reducible apply RunL.oBox v0_ok); (· rfl); (· rfl); (· conv => lhs; whnf); (· rfl); (· rfl); (· conv => lhs; whnf); (· conv => lhs; whnf); (· conv => lhs; simp only [List.length_cons, List.length_nil, Nat.zero_add, Nat.reduceAdd]); (· conv => lhs; simp only [List.cons_append, List.nil_append]))
      | ((with_reducible apply RunL.oAl v0_ok); (· rfl); (· first | exact z44 | exact z33); (· rfl); (· conv => lhs; whnf); (· rfl); (· conv => lhs; simp only [List.length_cons, List.length_nil, Nat.zero_add, Nat.reduceAdd]); (· conv => lhs; simp only [List.cons_append, List.nil_append]))
      | ((with_reducible apply RunL.oSt); (· rfl); (· rfl); (· conv => lhs; whnf); (· rfl); (· rfl); (· rfl); (· rfl); (· rfl); (· conv => lhs; whnf); (· conv => lhs; whnf); (· rfl); (· rfl); (· rfl); (· conv => lhs; simp only [setAll, List.set_cons_zero, List.set_cons_succ, Nat.reduceAdd, Nat.zero_add, setAll_le]); (· conv => lhs; simp only [List.set_cons_zero, List.set_cons_succ]); (· (repeat' (first | exact .flat rfl | exact PureL.nil | assumption | apply PureL.cons | apply Pure.agg' | apply Pure.tuple' | apply Pure.rptr' | exact pure_strs _ | exact pure_items _ | exact pure_val _ | exact pure_auds _ | exact pure_prs _ | exact pure_refL _ _)); done))
      | ((with_reducible apply RunL.oStM); (· rfl); (· rfl); (· conv => lhs; whnf); (· rfl); (· rfl); (· rfl); (· rfl); (· rfl); (· conv => lhs; whnf); (· conv => lhs; whnf); (· rfl); (· rfl); (· rfl); (· conv => lhs; simp only [setAll, List.set_cons_zero, List.set_cons_succ, Nat.reduceAdd, Nat.zero_add, setAll_le]); (· conv => lhs; simp only [List.set_cons_zero, List.set_cons_succ]); (· conv => lhs; whnf))
      | ((with_reducible apply RunL.oLa v0_ok); (· rfl); (· rfl); (· rfl); (· conv => lhs; whnf); (· rfl); (· rfl); (· rfl); (· conv => lhs; whnf); (· rfl); (· rfl); (· conv => lhs; simp only [List.drop_zero, List.drop_succ_cons, List.take_succ_cons, List.take_zero]))
      | ((with_reducible apply RunL.oI v0_ok); (· rfl); (· rfl); (· rfl); (· rfl); (· rfl); (· exact aindexAddr_arrN (by rfl) (by rfl) (by omega)))
      | ((with_reducible apply RunL.o v0_ok); (· rfl); (· conv => lhs; whnf); (· rfl); (· conv => lhs; whnf); (· rfl); (· conv => lhs; whnf); try ((with_reducible apply RunL.spl); (all_goals (intro hb <;> (try simp only [List.length_map] at hb) <;> (first | replace hb := not_t hb | replace hb := not_f hb | replace hb := bne_iff_ne.1 hb | replace hb := bne_eq_false_iff_eq.1 hb | replace hb := of_decide_eq_true hb | replace hb := of_decide_eq_false hb | replace hb := eq_of_beq hb | replace hb := ne_of_beq_false hb | skip) <;> (first | contradiction | (exfalso; omega) | skip)))))
      | ((with_reducible apply RunL.oS); (· rfl); (· conv => lhs; whnf); (· rfl))
      | ((with_reducible apply RunL.oN v0_ok); (· rfl); (· rfl); (· rfl))
      | ((with_reducible apply RunL.oSN); (· rfl); (· rfl))
      | ((with_reducible apply RunL.oF1 v0_ok (awake_fn)); (· rfl); (· rfl); (· rfl))))
    | ((with_reducible refine Run.condSelf ?_); (first
      | ((with_reducible apply Run.condT); (· rfl))
      | ((with_reducible apply Run.condF); (· rfl))
      | ((with_reducible apply Run.condK); (· rfl); (all_goals (intro hb <;> (try simp only [List.length_map] at hb) <;> (first | replace hb := not_t hb | replace hb := not_f hb | replace hb := bne_iff_ne.1 hb | replace hb := bne_eq_false_iff_eq.1 hb | replace hb := of_decide_eq_true hb | replace hb := of_decide_eq_false hb | replace hb := eq_of_beq hb | replace hb := ne_of_beq_false hb | skip) <;> (first | contradiction | (exfalso; omega) | skip)))))))
  all_goals (try ((with_reducible refine EndF.self ?_); refine EndF.mk (.inr rfl) rfl (by rfl) (by conv => lhs; whnf) (.pure (.flat rfl)) ?_; rfl; done))
  refine RunL.oF v0_ok (few_ok l hl) (by rfl) (by rfl) (by rfl) ?_
  rintro _ ⟨m, rfl⟩
  repeat' (first
    | (with_reducible refine andThen_normal ?_)
    | (with_reducible refine andThen_ret ?_)
    | (with_reducible refine inBlk_normal ?_)
    | (with_reducible refine inBlk_ret ?_)
    | (with_reducible refine inBlk_hit ?_)
    | (with_reducible refine andThen_exit ?_)
    | ((with_reducible refine inBlk_miss ?_ ?_); (· rfl))
    | (with_reducible refine Run.seq ?_)
    | (with_reducible refine Run.skip ?_)
    | (with_reducible refine Run.ret ?_)
    | (with_reducible refine Run.exit ?_)
    | (with_reducible refine Run.block ?_)
    | (with_reducible refine Run.scope ?_)
    | (with_reducible refine Run.label ?_)
    | ((with_reducible refine Run.regionSelf ?_); ((with_reducible apply Run.lst); (· conv => lhs; whnf)))
    | (with_reducible refine RunL.nil ?_)
    | ((with_reducible refine RunL.self ?_); (first
      | ((with_reducible apply RunL.oFp v0_ok); (· rfl); (· rfl); (· rfl); (· rfl); (· rfl); (· conv => lhs; whnf); (· rfl); (· conv => lhs; whnf))
      | ((with_reducible apply RunL.oFr v0_ok); (· rfl); (· rfl); (· rfl); (· rfl); (· rfl); (· conv => lhs; whnf); (· rfl); (· conv => lhs; whnf))
      | ((with_reducible apply RunL.oBox v0_ok); (· rfl); (· rfl); (· conv => lhs; whnf); (· rfl); (· rfl); (· conv => lhs; whnf); (· conv => lhs; whnf); (· conv => lhs; simp only [List.length_cons, List.length_nil, Nat.zero_add, Nat.reduceAdd]); (· conv => lhs; simp only [List.cons_append, List.nil_append]))
      | ((with_reducible apply RunL.oAl v0_ok); (· rfl); (· first | exact z44 | exact z33); (· rfl); (· conv => lhs; whnf); (· rfl); (· conv => lhs; simp only [List.length_cons, List.length_nil, Nat.zero_add, Nat.reduceAdd]); (· conv => lhs; simp only [List.cons_append, List.nil_append]))
      | ((with_reducible apply RunL.oSt); (· rfl); (· rfl); (· conv => lhs; whnf); (· rfl); (· rfl); (· rfl); (· rfl); (· rfl); (· conv => lhs; whnf); (· conv => lhs; whnf); (· rfl); (· rfl); (· rfl); (· conv => lhs; simp only [setAll, List.set_cons_zero, List.set_cons_succ, Nat.reduceAdd, Nat.zero_add, setAll_le]); (· conv => lhs; simp only [List.set_cons_zero, List.set_cons_succ]); (· (repeat' (first | exact .flat rfl | exact PureL.nil | assumption | apply PureL.cons | apply Pure.agg' | apply Pure.tuple' | apply Pure.rptr' | exact pure_strs _ | exact pure_items _ | exact pure_val _ | exact pure_auds _ | exact pure_prs _ | exact pure_refL _ _)); done))
      | ((with_reducible apply RunL.oStM); (· rfl); (· rfl); (· conv => lhs; whnf); (· rfl); (· rfl); (· rfl); (· rfl); (· rfl); (· conv => lhs; whnf); (· conv => lhs; whnf); (· rfl); (· rfl); (· rfl); (· conv => lhs; simp only [setAll, List.set_cons_zero, List.set_cons_succ, Nat.reduceAdd, Nat.zero_add, setAll_le]); (· conv => lhs; simp only [List.set_cons_zero, List.set_cons_succ]); (· conv => lhs; whnf))
      | ((with_reducible apply RunL.oLa v0_ok); (· rfl); (· rfl); (· rfl); (· conv => lhs; whnf); (· rfl); (· rfl); (· rfl); (· conv => lhs; whnf); (· rfl); (· rfl); (· conv => lhs; simp only [List.drop_zero, List.drop_succ_cons, List.take_succ_cons, List.take_zero]))
      | ((with_reducible apply RunL.oI v0_ok); (· rfl); (· rfl); (· rfl); (· rfl); (· rfl); (· exact aindexAddr_arrN (by rfl) (by rfl) (by omega)))
      | ((with_reducible apply RunL.o v0_ok); (· rfl); (· conv => lhs; whnf); (· rfl); (· conv => lhs; whnf); (· rfl); (· conv => lhs; whnf); try ((with_reducible apply RunL.spl); (all_goals (intro hb <;> (try simp only [List.length_map] at hb) <;> (first | replace hb := not_t hb | replace hb := not_f hb | replace hb := bne_iff_ne.1 hb | replace hb := bne_eq_false_iff_eq.1 hb | replace hb := of_decide_eq_true hb | replace hb := of_decide_eq_false hb | replace hb := eq_of_beq hb | replace hb := ne_of_beq_false hb | skip) <;> (first | contradiction | (exfalso; omega) | skip)))))
      | ((with_reducible apply RunL.oS); (· rfl); (· conv => lhs; whnf); (· rfl))
      | ((with_reducible apply RunL.oN v0_ok); (· rfl); (· rfl); (· rfl))
      | ((with_reducible apply RunL.oSN); (· rfl); (· rfl))
      | ((with_reducible apply RunL.oF1 v0_ok (awake_fn)); (· rfl); (· rfl); (· rfl))))
    | ((with_reducible refine Run.condSelf ?_); (first
      | ((with_reducible apply Run.condT); (· rfl))
      | ((with_reducible apply Run.condF); (· rfl))
      | ((with_reducible apply Run.condK); (· rfl); (all_goals (intro hb <;> (try simp only [List.length_map] at hb) <;> (first | replace hb := not_t hb | replace hb := not_f hb | replace hb := bne_iff_ne.1 hb | replace hb := bne_eq_false_iff_eq.1 hb | replace hb := of_decide_eq_true hb | replace hb := of_decide_eq_false hb | replace hb := eq_of_beq hb | replace hb := ne_of_beq_false hb | skip) <;> (first | contradiction | (exfalso; omega) | skip)))))))
  all_goals (try ((with_reducible refine EndF.self ?_); refine EndF.mk (.inr rfl) rfl (by rfl) (by conv => lhs; whnf) (.pure (.flat rfl)) ?_; rfl; done))
  refine RunL.oA v0_ok (g := 0) (E := 2) (es := []) (gl0 := []) (nb := 16) (news := o.map fun p => [.int .i64 p.1, .int .i64 p.2]) (by rfl) (by rfl) (by rfl) (by rfl) (by rfl) (by rfl) (by rfl) (by rfl) (by rfl) (by rfl) (by rfl) (aelems_slc (by rfl) (by rfl)) (by rfl) (by rfl) (by rfl) ?_ ?_ ?_ ?_
  · exact prs_cells o
  · rfl
  · simp; omega
  refine RunL.wk (y := prs o) (.slc _ _ _) ?_
  generalize accG [] ([] ++ o.map fun p => [AV.int .i64 p.1, AV.int .i64 p.2]) = gl
  refine RunL.oF v0_ok (make_ok n o) (by rfl) (by rfl) (by rfl) ?_
  rintro _ (⟨hok, jn, mt, rfl⟩ | ⟨hok, e, rfl⟩)
  · repeat' (first
      | (with_reducible refine andThen_normal ?_)
      | (with_reducible refine andThen_ret ?_)
      | (with_reducible refine inBlk_normal ?_)
      | (with_reducible refine inBlk_ret ?_)
      | (with_reducible refine inBlk_hit ?_)
      | (with_reducible refine andThen_exit ?_)
      | ((with_reducible refine inBlk_miss ?_ ?_); (· rfl))
      | (with_reducible refine Run.seq ?_)
      | (with_reducible refine Run.skip ?_)
      | (with_reducible refine Run.ret ?_)
      | (with_reducible refine Run.exit ?_)
      | (with_reducible refine Run.block ?_)
      | (with_reducible refine Run.scope ?_)
      | (with_reducible refine Run.label ?_)
      | ((with_reducible refine Run.regionSelf ?_); ((with_reducible apply Run.lst); (· conv => lhs; whnf)))
      | (with_reducible refine RunL.nil ?_)
      | ((with_reducible refine RunL.self ?_); (first
        | ((with_reducible apply RunL.oFp v0_ok); (· rfl); (· rfl); (· rfl); (· rfl); (· rfl); (· conv => lhs; whnf); (· rfl); (· conv => lhs; whnf))
        | ((with_reducible apply RunL.oFr v0_ok); (· rfl); (· rfl); (· rfl); (· rfl); (· rfl); (· conv => lhs; whnf); (· rfl); (· conv => lhs; whnf))
        | ((with_reducible apply RunL.oBox v0_ok); (· rfl); (· rfl); (· conv => lhs; whnf); (· rfl); (· rfl); (· conv => lhs; whnf); (· conv => lhs; whnf); (· conv => lhs; simp only [List.length_cons, List.length_nil, Nat.zero_add, Nat.reduceAdd]); (· conv => lhs; simp only [List.cons_append, List.nil_append]))
        | ((with_reducible apply RunL.oAl v0_ok); (· rfl); (· first | exact z44 | exact z33); (· rfl); (· conv => lhs; whnf); (· rfl); (· conv => lhs; simp only [List.length_cons, List.length_nil, Nat.zero_add, Nat.reduceAdd]); (· conv => lhs; simp only [List.cons_append, List.nil_append]))
        | ((with_reducible apply RunL.oSt); (· rfl); (· rfl); (· conv => lhs; whnf); (· rfl); (· rfl); (· rfl); (· rfl); (· rfl); (· conv => lhs; whnf); (· conv => lhs; whnf); (· rfl); (· rfl); (· rfl); (· conv => lhs; simp only [setAll, List.set_cons_zero, List.set_cons_succ, Nat.reduceAdd, Nat.zero_add, setAll_le]); (· conv => lhs; simp only [List.set_cons_zero, List.set_cons_succ]); (· (repeat' (first | exact .flat rfl | exact PureL.nil | assumption | apply PureL.cons | apply Pure.agg' | apply Pure.tuple' | apply Pure.rptr' | exact pure_strs _ | exact pure_items _ | exact pure_val _ | exact pure_auds _ | exact pure_prs _ | exact pure_refL _ _)); done))
        | ((with_reducible apply RunL.oStM); (· rfl); (· rfl); (· conv => lhs; whnf); (· rfl); (· rfl); (· rfl); (· rfl); (· rfl); (· conv => lhs; whnf); (· conv => lhs; whnf); (· rfl); (· rfl); (· rfl); (· conv => lhs; simp only [setAll, List.set_cons_zero, List.set_cons_succ, Nat.reduceAdd, Nat.zero_add, setAll_le]); (· conv => lhs; simp only [List.set_cons_zero, List.set_cons_succ]); (· conv => lhs; whnf))
        | ((with_reducible apply RunL.oLa v0_ok); (· rfl); (· rfl); (· rfl); (· conv => lhs; whnf); (· rfl); (· rfl); (· rfl); (· conv => lhs; whnf); (· rfl); (· rfl); (· conv => lhs; simp only [List.drop_zero, List.drop_succ_cons, List.take_succ_cons, List.take_zero]))
        | ((with_reducible apply RunL.oI v0_ok); (· rfl); (· rfl); (· rfl); (· rfl); (· rfl); (· exact aindexAddr_arrN (by rfl) (by rfl) (by omega)))
        | ((with_reducible apply RunL.o v0_ok); (· rfl); (· conv => lhs; whnf); (· rfl); (· conv => lhs; whnf); (· rfl); (· conv => lhs; whnf); try ((with_reducible apply RunL.spl); (all_goals (intro hb <;> (try simp only [List.length_map] at hb) <;> (first | replace hb := not_t hb | replace hb := not_f hb | replace hb := bne_iff_ne.1 hb | replace hb := bne_eq_false_iff_eq.1 hb | replace hb := of_decide_eq_true hb | replace hb := of_decide_eq_false hb | replace hb := eq_of_beq hb | replace hb := ne_of_beq_false hb | skip) <;> (first | contradiction | (exfalso; omega) | skip)))))
        | ((with_reducible apply RunL.oS); (· rfl); (· conv => lhs; whnf); (· rfl))
        | ((with_reducible apply RunL.oN v0_ok); (· rfl); (· rfl); (· rfl))
        | ((with_reducible apply RunL.oSN); (· rfl); (· rfl))))
      | ((with_reducible refine Run.condSelf ?_); (first
        | ((with_reducible apply Run.condT); (· rfl))
        | ((with_reducible apply Run.condF); (· rfl))
        | ((with_reducible apply Run.condK); (· rfl); (all_goals (intro hb <;> (try simp only [List.length_map] at hb) <;> (first | replace hb := not_t hb | replace hb := not_f hb | replace hb := bne_iff_ne.1 hb | replace hb := bne_eq_false_iff_eq.1 hb | replace hb := of_decide_eq_true hb | replace hb := of_decide_eq_false hb | replace hb := eq_of_beq hb | replace hb := ne_of_beq_false hb | skip) <;> (first | contradiction | (exfalso; omega) | skip)))))))
    refine RunL.oF v0_ok (make_ref n o) (by rfl) (by rfl) (by rfl) ?_
    rintro _ (⟨hok', rfl⟩ | ⟨hok', e', rfl⟩)
    rotate_left
    · rw [← ok_eq, hok] at hok'; cases hok'
    repeat' (first
      | (with_reducible refine andThen_normal ?_)
      | (with_reducible refine andThen_ret ?_)
      | (with_reducible refine inBlk_normal ?_)
      | (with_reducible refine inBlk_ret ?_)
      | (with_reducible refine inBlk_hit ?_)
      | (with_reducible refine andThen_exit ?_)
      | ((with_reducible refine inBlk_miss ?_ ?_); (· rfl))
      | (with_reducible refine Run.seq ?_)
      | (with_reducible refine Run.skip ?_)
      | (with_reducible refine Run.ret ?_)
      | (with_reducible refine Run.exit ?_)
      | (with_reducible refine Run.block ?_)
      | (with_reducible refine Run.scope ?_)
      | (with_reducible refine Run.label ?_)
      | ((with_reducible refine Run.regionSelf ?_); ((with_reducible apply Run.lst); (· conv => lhs; whnf)))
      | (with_reducible refine RunL.nil ?_)
      | ((with_reducible refine RunL.self ?_); (first
        | ((with_reducible apply RunL.oFp v0_ok); (· rfl); (· rfl); (· rfl); (· rfl); (· rfl); (· conv => lhs; whnf); (· rfl); (· conv => lhs; whnf))
        | ((with_reducible apply RunL.oFr v0_ok); (· rfl); (· rfl); (· rfl); (· rfl); (· rfl); (· conv => lhs; whnf); (· rfl); (· conv => lhs; whnf))
        | ((with_reducible apply RunL.oBox v0_ok); (· rfl); (· rfl); (· conv => lhs; whnf); (· rfl); (· rfl); (· conv => lhs; whnf); (· conv => lhs; whnf); (· conv => lhs; simp only [List.length_cons, List.length_nil, Nat.zero_add, Nat.reduceAdd]); (· conv => lhs; simp only [List.cons_append, List.nil_append]))
        | ((with_reducible apply RunL.oAl v0_ok); (· rfl); (· first | exact z44 | exact z33); (· rfl); (· conv => lhs; whnf); (· rfl); (· conv => lhs; simp only [List.length_cons, List.length_nil, Nat.zero_add, Nat.reduceAdd]); (· conv => lhs; simp only [List.cons_append, List.nil_append]))
        | ((with_reducible apply RunL.oSt); (· rfl); (· rfl); (· conv => lhs; whnf); (· rfl); (· rfl); (· rfl); (· rfl); (· rfl); (· conv => lhs; whnf); (· conv => lhs; whnf); (· rfl); (· rfl); (· rfl); (· conv => lhs; simp only [setAll, List.set_cons_zero, List.set_cons_succ, Nat.reduceAdd, Nat.zero_add, setAll_le]); (· conv => lhs; simp only [List.set_cons_zero, List.set_cons_succ]); (· (repeat' (first | exact .flat rfl | exact PureL.nil | assumption | apply PureL.cons | apply Pure.agg' | apply Pure.tuple' | apply Pure.rptr' | exact pure_strs _ | exact pure_items _ | exact pure_val _ | exact pure_auds _ | exact pure_prs _ | exact pure_refL _ _)); done))
        | ((with_reducible apply RunL.oStM); (· rfl); (· rfl); (· conv => lhs; whnf); (· rfl); (· rfl); (· rfl); (· rfl); (· rfl); (· conv => lhs; whnf); (· conv => lhs; whnf); (· rfl); (· rfl); (· rfl); (· conv => lhs; simp only [setAll, List.set_cons_zero, List.set_cons_succ, Nat.reduceAdd, Nat.zero_add, setAll_le]); (· conv => lhs; simp only [List.set_cons_zero, List.set_cons_succ]); (· conv => lhs; whnf))
        | ((with_reducible apply RunL.oLa v0_ok); (· rfl); (· rfl); (· rfl); (· conv => lhs; whnf); (· rfl); (· rfl); (· rfl); (· conv => lhs; whnf); (· rfl); (· rfl); (· conv => lhs; simp only [List.drop_zero, List.drop_succ_cons, List.take_succ_cons, List.take_zero]))
        | ((with_reducible apply RunL.oI v0_ok); (· rfl); (· rfl); (· rfl); (· rfl); (· rfl); (· exact aindexAddr_arrN (by rfl) (by rfl) (by omega)))
        | ((with_reducible apply RunL.o v0_ok); (· rfl); (· conv => lhs; whnf); (· rfl); (· conv => lhs; whnf); (· rfl); (· conv => lhs; whnf); try ((with_reducible apply RunL.spl); (all_goals (intro hb <;> (try simp only [List.length_map] at hb) <;> (first | replace hb := not_t hb | replace hb := not_f hb | replace hb := bne_iff_ne.1 hb | replace hb := bne_eq_false_iff_eq.1 hb | replace hb := of_decide_eq_true hb | replace hb := of_decide_eq_false hb | replace hb := eq_of_beq hb | replace hb := ne_of_beq_false hb | skip) <;> (first | contradiction | (exfalso; omega) | skip)))))
        | ((with_reducible apply RunL.oS); (· rfl); (· conv => lhs; whnf); (· rfl))
        | ((with_reducible apply RunL.oN v0_ok); (· rfl); (· rfl); (· rfl))
        | ((with_reducible apply RunL.oSN); (· rfl); (· rfl))))
      | ((with_reducible refine Run.condSelf ?_); (first
        | ((with_reducible apply Run.condT); (· rfl))
        | ((with_reducible apply Run.condF); (· rfl))
        | ((with_reducible apply Run.condK); (· rfl); (all_goals (intro hb <;> (try simp only [List.length_map] at hb) <;> (first | replace hb := not_t hb | replace hb := not_f hb | replace hb := bne_iff_ne.1 hb | replace hb := bne_eq_false_iff_eq.1 hb | replace hb := of_decide_eq_true hb | replace hb := of_decide_eq_false hb | replace hb := eq_of_beq hb | replace hb := ne_of_beq_false hb | skip) <;> (first | contradiction | (exfalso; omega) | skip)))))))
    have hn8 := (okM_n hok).2
    have hs : ∀ a b, leqB n (relW n.toNat o) a b = seeB n o a b := fun a b => by unfold seeB; rw [hok, Bool.true_and]
    have hleq : ∀ a b, Fn Tryz.prog 11 [.rptr (latC n (relW n.toNat o) (relD n.toNat o) jn mt), .int .i64 a, .int .i64 b] fun y => y = .bool (seeB n o a b) := fun a b => by
      rw [← hs]; exact leq_lat n _ _ jn mt a b hn8
    have hLo := seq_rptr _ (pure_lat n (relW n.toNat o) (relD n.toNat o) jn mt) (seeB n o) hleq l hl lo
    have hUp := seq_rptr _ (pure_lat n (relW n.toNat o) (relD n.toNat o) jn mt) (seeB n o) hleq l hl up
    have hR : Fn Tryz.prog 10 [.agg (refL n (relR n.toNat o)), auds l, .int .i64 lo] fun y => y = items (sel (fun to => seeB n o to lo) l) := by
      have := seq_ref n (relR n.toNat o) l lo hn8 hl.1
      rwa [show (fun to => leqB n (relR n.toNat o) to lo) = fun to => seeB n o to lo from funext fun to => see_ref hok to lo] at this
    have hL := hleq lo up
    have htr : seeB n o lo up = true → ∀ to, seeB n o to lo = true → seeB n o to up = true := fun h1 to h2 => seeB_trans h2 h1
    generalize seeB n o = see at hLo hUp hR hL htr
    have hfS : ∀ lev, Val.fitL (sel (fun to => see to lev) l) := fun lev => sel_fit _ l hl.2
    have hlS : ∀ lev, (sel (fun to => see to lev) l).length ≤ 1048576 := fun lev => by
      have := sel_len (fun to => see to lev) l l.length
      rw [List.take_length, cellsL_len] at this
      have := hl.1
      omega
    have hS : Fn Tryz.prog 9 [items (canonL (sel (fun to => see to lo) l)), items (sel (fun to => see to lo) l)] fun y => y = .bool true := by
      have := same20_ok (canonL (sel (fun to => see to lo) l)) (sel (fun to => see to lo) l) (by rw [canonL_len]; exact hlS lo) (canonV_fit.canonL_fit _ (hfS lo))
      rwa [sameL_canon] at this
    repeat' (first
      | (with_reducible refine andThen_normal ?_)
      | (with_reducible refine andThen_ret ?_)
      | (with_reducible refine inBlk_normal ?_)
      | (with_reducible refine inBlk_ret ?_)
      | (with_reducible refine inBlk_hit ?_)
      | (with_reducible refine andThen_exit ?_)
      | ((with_reducible refine inBlk_miss ?_ ?_); (· rfl))
      | (with_reducible refine Run.seq ?_)
      | (with_reducible refine Run.skip ?_)
      | (with_reducible refine Run.ret ?_)
      | (with_reducible refine Run.exit ?_)
      | (with_reducible refine Run.block ?_)
      | (with_reducible refine Run.scope ?_)
      | (with_reducible refine Run.label ?_)
      | ((with_reducible refine Run.regionSelf ?_); ((with_reducible apply Run.lst); (· conv => lhs; whnf)))
      | (with_reducible refine RunL.nil ?_)
      | ((with_reducible refine RunL.self ?_); (first
        | ((with_reducible apply RunL.oFp v0_ok); (· rfl); (· rfl); (· rfl); (· rfl); (· rfl); (· conv => lhs; whnf); (· rfl); (· conv => lhs; whnf))
        | ((with_reducible apply RunL.oFr v0_ok); (· rfl); (· rfl); (· rfl); (· rfl); (· rfl); (· conv => lhs; whnf); (· rfl); (· conv => lhs; whnf))
        | ((with_reducible apply RunL.oBox v0_ok); (· rfl); (· rfl); (· conv => lhs; whnf); (· rfl); (· rfl); (· conv => lhs; whnf); (· conv => lhs; whnf); (· conv => lhs; simp only [List.length_cons, List.length_nil, Nat.zero_add, Nat.reduceAdd]); (· conv => lhs; simp only [List.cons_append, List.nil_append]))
        | ((with_reducible apply RunL.oAl v0_ok); (· rfl); (· first | exact z44 | exact z33); (· rfl); (· conv => lhs; whnf); (· rfl); (· conv => lhs; simp only [List.length_cons, List.length_nil, Nat.zero_add, Nat.reduceAdd]); (· conv => lhs; simp only [List.cons_append, List.nil_append]))
        | ((with_reducible apply RunL.oSt); (· rfl); (· rfl); (· conv => lhs; whnf); (· rfl); (· rfl); (· rfl); (· rfl); (· rfl); (· conv => lhs; whnf); (· conv => lhs; whnf); (· rfl); (· rfl); (· rfl); (· conv => lhs; simp only [setAll, List.set_cons_zero, List.set_cons_succ, Nat.reduceAdd, Nat.zero_add, setAll_le]); (· conv => lhs; simp only [List.set_cons_zero, List.set_cons_succ]); (· (repeat' (first | exact .flat rfl | exact PureL.nil | assumption | apply PureL.cons | apply Pure.agg' | apply Pure.tuple' | apply Pure.rptr' | exact pure_strs _ | exact pure_items _ | exact pure_val _ | exact pure_auds _ | exact pure_prs _ | exact pure_refL _ _)); done))
        | ((with_reducible apply RunL.oStM); (· rfl); (· rfl); (· conv => lhs; whnf); (· rfl); (· rfl); (· rfl); (· rfl); (· rfl); (· conv => lhs; whnf); (· conv => lhs; whnf); (· rfl); (· rfl); (· rfl); (· conv => lhs; simp only [setAll, List.set_cons_zero, List.set_cons_succ, Nat.reduceAdd, Nat.zero_add, setAll_le]); (· conv => lhs; simp only [List.set_cons_zero, List.set_cons_succ]); (· conv => lhs; whnf))
        | ((with_reducible apply RunL.oLa v0_ok); (· rfl); (· rfl); (· rfl); (· conv => lhs; whnf); (· rfl); (· rfl); (· rfl); (· conv => lhs; whnf); (· rfl); (· rfl); (· conv => lhs; simp only [List.drop_zero, List.drop_succ_cons, List.take_succ_cons, List.take_zero]))
        | ((with_reducible apply RunL.oI v0_ok); (· rfl); (· rfl); (· rfl); (· rfl); (· rfl); (· exact aindexAddr_arrN (by rfl) (by rfl) (by omega)))
        | ((with_reducible apply RunL.o v0_ok); (· rfl); (· conv => lhs; whnf); (· rfl); (· conv => lhs; whnf); (· rfl); (· conv => lhs; whnf); try ((with_reducible apply RunL.spl); (all_goals (intro hb <;> (try simp only [List.length_map] at hb) <;> (first | replace hb := not_t hb | replace hb := not_f hb | replace hb := bne_iff_ne.1 hb | replace hb := bne_eq_false_iff_eq.1 hb | replace hb := of_decide_eq_true hb | replace hb := of_decide_eq_false hb | replace hb := eq_of_beq hb | replace hb := ne_of_beq_false hb | skip) <;> (first | contradiction | (exfalso; omega) | skip)))))
        | ((with_reducible apply RunL.oS); (· rfl); (· conv => lhs; whnf); (· rfl))
        | ((with_reducible apply RunL.oN v0_ok); (· rfl); (· rfl); (· rfl))
        | ((with_reducible apply RunL.oSN); (· rfl); (· rfl))
        | ((with_reducible apply RunL.oF1 v0_ok (hLo)); (· rfl); (· rfl); (· rfl))
        | ((with_reducible apply RunL.oF1 v0_ok (hUp)); (· rfl); (· rfl); (· rfl))
        | ((with_reducible apply RunL.oF1 v0_ok (hR)); (· rfl); (· rfl); (· rfl))
        | ((with_reducible apply RunL.oF1 v0_ok (hS)); (· rfl); (· rfl); (· rfl))))
      | ((with_reducible refine Run.condSelf ?_); (first
        | ((with_reducible apply Run.condT); (· rfl))
        | ((with_reducible apply Run.condF); (· rfl))
        | ((with_reducible apply Run.condK); (· rfl); (all_goals (intro hb <;> (try simp only [List.length_map] at hb) <;> (first | replace hb := not_t hb | replace hb := not_f hb | replace hb := bne_iff_ne.1 hb | replace hb := bne_eq_false_iff_eq.1 hb | replace hb := of_decide_eq_true hb | replace hb := of_decide_eq_false hb | replace hb := eq_of_beq hb | replace hb := ne_of_beq_false hb | skip) <;> (first | contradiction | (exfalso; omega) | skip)))))))
    refine RunL.oF1 v0_ok hL (by rfl) (by rfl) (by rfl) ?_
    repeat' (first
      | (with_reducible refine andThen_normal ?_)
      | (with_reducible refine andThen_ret ?_)
      | (with_reducible refine inBlk_normal ?_)
      | (with_reducible refine inBlk_ret ?_)
      | (with_reducible refine inBlk_hit ?_)
      | (with_reducible refine andThen_exit ?_)
      | ((with_reducible refine inBlk_miss ?_ ?_); (· rfl))
      | (with_reducible refine Run.seq ?_)
      | (with_reducible refine Run.skip ?_)
      | (with_reducible refine Run.ret ?_)
      | (with_reducible refine Run.exit ?_)
      | (with_reducible refine Run.block ?_)
      | (with_reducible refine Run.scope ?_)
      | (with_reducible refine Run.label ?_)
      | ((with_reducible refine Run.regionSelf ?_); ((with_reducible apply Run.lst); (· conv => lhs; whnf)))
      | (with_reducible refine RunL.nil ?_)
      | ((with_reducible refine RunL.self ?_); (first
        | ((with_reducible apply RunL.oFp v0_ok); (· rfl); (· rfl); (· rfl); (· rfl); (· rfl); (· conv => lhs; whnf); (· rfl); (· conv => lhs; whnf))
        | ((with_reducible apply RunL.oFr v0_ok); (· rfl); (· rfl); (· rfl); (· rfl); (· rfl); (· conv => lhs; whnf); (· rfl); (· conv => lhs; whnf))
        | ((with_reducible apply RunL.oBox v0_ok); (· rfl); (· rfl); (· conv => lhs; whnf); (· rfl); (· rfl); (· conv => lhs; whnf); (· conv => lhs; whnf); (· conv => lhs; simp only [List.length_cons, List.length_nil, Nat.zero_add, Nat.reduceAdd]); (· conv => lhs; simp only [List.cons_append, List.nil_append]))
        | ((with_reducible apply RunL.oAl v0_ok); (· rfl); (· first | exact z44 | exact z33); (· rfl); (· conv => lhs; whnf); (· rfl); (· conv => lhs; simp only [List.length_cons, List.length_nil, Nat.zero_add, Nat.reduceAdd]); (· conv => lhs; simp only [List.cons_append, List.nil_append]))
        | ((with_reducible apply RunL.oSt); (· rfl); (· rfl); (· conv => lhs; whnf); (· rfl); (· rfl); (· rfl); (· rfl); (· rfl); (· conv => lhs; whnf); (· conv => lhs; whnf); (· rfl); (· rfl); (· rfl); (· conv => lhs; simp only [setAll, List.set_cons_zero, List.set_cons_succ, Nat.reduceAdd, Nat.zero_add, setAll_le]); (· conv => lhs; simp only [List.set_cons_zero, List.set_cons_succ]); (· (repeat' (first | exact .flat rfl | exact PureL.nil | assumption | apply PureL.cons | apply Pure.agg' | apply Pure.tuple' | apply Pure.rptr' | exact pure_strs _ | exact pure_items _ | exact pure_val _ | exact pure_auds _ | exact pure_prs _ | exact pure_refL _ _)); done))
        | ((with_reducible apply RunL.oStM); (· rfl); (· rfl); (· conv => lhs; whnf); (· rfl); (· rfl); (· rfl); (· rfl); (· rfl); (· conv => lhs; whnf); (· conv => lhs; whnf); (· rfl); (· rfl); (· rfl); (· conv => lhs; simp only [setAll, List.set_cons_zero, List.set_cons_succ, Nat.reduceAdd, Nat.zero_add, setAll_le]); (· conv => lhs; simp only [List.set_cons_zero, List.set_cons_succ]); (· conv => lhs; whnf))
        | ((with_reducible apply RunL.oLa v0_ok); (· rfl); (· rfl); (· rfl); (· conv => lhs; whnf); (· rfl); (· rfl); (· rfl); (· conv => lhs; whnf); (· rfl); (· rfl); (· conv => lhs; simp only [List.drop_zero, List.drop_succ_cons, List.take_succ_cons, List.take_zero]))
        | ((with_reducible apply RunL.oI v0_ok); (· rfl); (· rfl); (· rfl); (· rfl); (· rfl); (· exact aindexAddr_arrN (by rfl) (by rfl) (by omega)))
        | ((with_reducible apply RunL.o v0_ok); (· rfl); (· conv => lhs; whnf); (· rfl); (· conv => lhs; whnf); (· rfl); (· conv => lhs; whnf); try ((with_reducible apply RunL.spl); (all_goals (intro hb <;> (try simp only [List.length_map] at hb) <;> (first | replace hb := not_t hb | replace hb := not_f hb | replace hb := bne_iff_ne.1 hb | replace hb := bne_eq_false_iff_eq.1 hb | replace hb := of_decide_eq_true hb | replace hb := of_decide_eq_false hb | replace hb := eq_of_beq hb | replace hb := ne_of_beq_false hb | skip) <;> (first | contradiction | (exfalso; omega) | skip)))))
        | ((with_reducible apply RunL.oS); (· rfl); (· conv => lhs; whnf); (· rfl))
        | ((with_reducible apply RunL.oN v0_ok); (· rfl); (· rfl); (· rfl))
        | ((with_reducible apply RunL.oSN); (· rfl); (· rfl))
        | ((with_reducible apply RunL.oF1 v0_ok (hR)); (· rfl); (· rfl); (· rfl))
        | ((with_reducible apply RunL.oF1 v0_ok (hS)); (· rfl); (· rfl); (· rfl))))
      | ((with_reducible refine Run.condSelf ?_); (first
        | ((with_reducible apply Run.condT); (· rfl))
        | ((with_reducible apply Run.condF); (· rfl))
        | ((with_reducible apply Run.condK); (· rfl); (all_goals (intro hb <;> (try simp only [List.length_map] at hb) <;> (first | replace hb := not_t hb | replace hb := not_f hb | replace hb := bne_iff_ne.1 hb | replace hb := bne_eq_false_iff_eq.1 hb | replace hb := of_decide_eq_true hb | replace hb := of_decide_eq_false hb | replace hb := eq_of_beq hb | replace hb := ne_of_beq_false hb | skip) <;> (first | contradiction | (exfalso; omega) | skip)))))))
    · change EndF _ _ _ _ _
      refine EndF.mk (.inr rfl) rfl (by rfl) (by conv => lhs; whnf) (.pure (.flat rfl)) ?_
      rfl
    have hsub : List.Sublist (canonL (sel (fun to => see to lo) l)) (canonL (sel (fun to => see to up) l)) := canonL_sublist (sel_sublist (htr ‹see lo up = true›) l)
    have hg := greedy_all (canonL (sel (fun to => see to up) l)) 0 (Nat.zero_le _) (by rw [List.drop_zero]; exact hsub)
    have hfA := canonV_fit.canonL_fit _ (hfS lo)
    have hlA : (canonL (sel (fun to => see to lo) l)).length ≤ 1048576 := by rw [canonL_len]; exact hlS lo
    have hlB : (canonL (sel (fun to => see to up) l)).length ≤ 1048576 := by rw [canonL_len]; exact hlS up
    clear hLo hUp hR hS hL
    generalize canonL (sel (fun to => see to lo) l) = A at *
    generalize canonL (sel (fun to => see to up) l) = B at *
    refine Run.loopK 100 (fun p : Nat × Nat => B.length - p.1) (fun p => p.1 ≤ B.length ∧ p.2 ≤ A.length ∧ greedy A (B.drop p.1) p.2 = A.length) (fun p => [(15, items A), (17, .int .i64 (p.2 : Int)), (75, items B), (76, .int .i64 B.length), (77, .int .i64 (p.1 : Int))])
      (fun p => ⟨[.cells (refL n (relR n.toNat o))], gl, 1000000⟩) (0, 0) ⟨Nat.zero_le _, Nat.zero_le _, by rw [List.drop_zero]; exact hg⟩ (.same rfl ⟨rfl, rfl, rfl, get_int rfl (by rw [cellsL_len]), rfl, trivial⟩ rfl rfl) (fun ⟨i, k⟩ ⟨h1, h2, h3⟩ => ?_)
    dsimp only at h1 h2 h3 ⊢
    repeat' (first
      | (with_reducible refine andThen_normal ?_)
      | (with_reducible refine andThen_ret ?_)
      | (with_reducible refine inBlk_normal ?_)
      | (with_reducible refine inBlk_ret ?_)
      | (with_reducible refine inBlk_hit ?_)
      | (with_reducible refine andThen_exit ?_)
      | ((with_reducible refine inBlk_miss ?_ ?_); (· rfl))
      | (with_reducible refine Run.seq ?_)
      | (with_reducible refine Run.skip ?_)
      | (with_reducible refine Run.ret ?_)
      | (with_reducible refine Run.exit ?_)
      | (with_reducible refine Run.block ?_)
      | (with_reducible refine Run.scope ?_)
      | (with_reducible refine Run.label ?_)
      | ((with_reducible refine Run.regionSelf ?_); ((with_reducible apply Run.lst); (· conv => lhs; whnf)))
      | (with_reducible refine RunL.nil ?_)
      | ((with_reducible refine RunL.self ?_); (first
        | ((with_reducible apply RunL.oFp v0_ok); (· rfl); (· rfl); (· rfl); (· rfl); (· rfl); (· conv => lhs; whnf); (· rfl); (· conv => lhs; whnf))
        | ((with_reducible apply RunL.oFr v0_ok); (· rfl); (· rfl); (· rfl); (· rfl); (· rfl); (· conv => lhs; whnf); (· rfl); (· conv => lhs; whnf))
        | ((with_reducible apply RunL.oBox v0_ok); (· rfl); (· rfl); (· conv => lhs; whnf); (· rfl); (· rfl); (· conv => lhs; whnf); (· conv => lhs; whnf); (· conv => lhs; simp only [List.length_cons, List.length_nil, Nat.zero_add, Nat.reduceAdd]); (· conv => lhs; simp only [List.cons_append, List.nil_append]))
        | ((with_reducible apply RunL.oAl v0_ok); (· rfl); (· first | exact z44 | exact z33); (· rfl); (· conv => lhs; whnf); (· rfl); (· conv => lhs; simp only [List.length_cons, List.length_nil, Nat.zero_add, Nat.reduceAdd]); (· conv => lhs; simp only [List.cons_append, List.nil_append]))
        | ((with_reducible apply RunL.oSt); (· rfl); (· rfl); (· conv => lhs; whnf); (· rfl); (· rfl); (· rfl); (· rfl); (· rfl); (· conv => lhs; whnf); (· conv => lhs; whnf); (· rfl); (· rfl); (· rfl); (· conv => lhs; simp only [setAll, List.set_cons_zero, List.set_cons_succ, Nat.reduceAdd, Nat.zero_add, setAll_le]); (· conv => lhs; simp only [List.set_cons_zero, List.set_cons_succ]); (· (repeat' (first | exact .flat rfl | exact PureL.nil | assumption | apply PureL.cons | apply Pure.agg' | apply Pure.tuple' | apply Pure.rptr' | exact pure_strs _ | exact pure_items _ | exact pure_val _ | exact pure_auds _ | exact pure_prs _ | exact pure_refL _ _)); done))
        | ((with_reducible apply RunL.oStM); (· rfl); (· rfl); (· conv => lhs; whnf); (· rfl); (· rfl); (· rfl); (· rfl); (· rfl); (· conv => lhs; whnf); (· conv => lhs; whnf); (· rfl); (· rfl); (· rfl); (· conv => lhs; simp only [setAll, List.set_cons_zero, List.set_cons_succ, Nat.reduceAdd, Nat.zero_add, setAll_le]); (· conv => lhs; simp only [List.set_cons_zero, List.set_cons_succ]); (· conv => lhs; whnf))
        | ((with_reducible apply RunL.oLa v0_ok); (· rfl); (· rfl); (· rfl); (· conv => lhs; whnf); (· rfl); (· rfl); (· rfl); (· conv => lhs; whnf); (· rfl); (· rfl); (· conv => lhs; simp only [List.drop_zero, List.drop_succ_cons, List.take_succ_cons, List.take_zero]))
        | ((with_reducible apply RunL.oI v0_ok); (· rfl); (· rfl); (· rfl); (· rfl); (· rfl); (· exact aindexAddr_arrN (by rfl) (by rfl) (by omega)))
        | ((with_reducible apply RunL.o v0_ok); (· rfl); (· conv => lhs; whnf); (· rfl); (· conv => lhs; whnf); (· rfl); (· conv => lhs; whnf); try ((with_reducible apply RunL.spl); (all_goals (intro hb <;> (try simp only [List.length_map, cellsL_len] at hb) <;> (first | replace hb := not_t hb | replace hb := not_f hb | replace hb := bne_iff_ne.1 hb | replace hb := bne_eq_false_iff_eq.1 hb | replace hb := of_decide_eq_true hb | replace hb := of_decide_eq_false hb | replace hb := eq_of_beq hb | replace hb := ne_of_beq_false hb | skip) <;> (first | contradiction | (exfalso; omega) | skip)))))
        | ((with_reducible apply RunL.oS); (· rfl); (· conv => lhs; whnf); (· rfl))
        | ((with_reducible apply RunL.oN v0_ok); (· rfl); (· rfl); (· rfl))
        | ((with_reducible apply RunL.oSN); (· rfl); (· rfl))))
      | ((with_reducible refine Run.condSelf ?_); (first
        | ((with_reducible apply Run.condT); (· rfl))
        | ((with_reducible apply Run.condF); (· rfl))
        | ((with_reducible apply Run.condK); (· rfl); (all_goals (intro hb <;> (try simp only [List.length_map, cellsL_len] at hb) <;> (first | replace hb := not_t hb | replace hb := not_f hb | replace hb := bne_iff_ne.1 hb | replace hb := bne_eq_false_iff_eq.1 hb | replace hb := of_decide_eq_true hb | replace hb := of_decide_eq_false hb | replace hb := eq_of_beq hb | replace hb := ne_of_beq_false hb | skip) <;> (first | contradiction | (exfalso; omega) | skip)))))))
    · obtain ⟨x, hx, hxm⟩ := get_of_lt (l := B) (i := i) (by omega)
      rw [drop_of_get hx, greedy] at h3
      by_cases hk : k < A.length
      · rw [dif_pos hk] at h3
        have hy : A[k]? = some A[k] := List.getElem?_eq_getElem hk
        have hym : A[k] ∈ A := List.getElem_mem hk
        generalize A[k] = y at *
        have hsm := same_ok y x (fitL_mem hfA y hym)
        have hk' : (k : Int) < ((Val.cellsL A).length : Int) := by rw [cellsL_len]; omega
        cases x with | mk k1 n1 f1 s1 nm1 it1 =>
        cases y with | mk k2 n2 f2 s2 nm2 it2 =>
        generalize sameV (.mk k2 n2 f2 s2 nm2 it2) (.mk k1 n1 f1 s1 nm1 it1) = sm at *
        refine RunL.oI v0_ok (by rfl) (by rfl) (by rfl) (by rfl) (by rfl) (aindexAddr_slc (by rfl) (by rfl) (items_get hx)) ?_
        repeat' (first
          | (with_reducible refine andThen_normal ?_)
          | (with_reducible refine andThen_ret ?_)
          | (with_reducible refine inBlk_normal ?_)
          | (with_reducible refine inBlk_ret ?_)
          | (with_reducible refine inBlk_hit ?_)
          | (with_reducible refine andThen_exit ?_)
          | ((with_reducible refine inBlk_miss ?_ ?_); (· rfl))
          | (with_reducible refine Run.seq ?_)
          | (with_reducible refine Run.skip ?_)
          | (with_reducible refine Run.ret ?_)
          | (with_reducible refine Run.exit ?_)
          | (with_reducible refine Run.block ?_)
          | (with_reducible refine Run.scope ?_)
          | (with_reducible refine Run.label ?_)
          | ((with_reducible refine Run.regionSelf ?_); ((with_reducible apply Run.lst); (· conv => lhs; whnf)))
          | (with_reducible refine RunL.nil ?_)
          | ((with_reducible refine RunL.self ?_); (first
            | ((with_reducible apply RunL.oFp v0_ok); (· rfl); (· rfl); (· rfl); (· rfl); (· rfl); (· conv => lhs; whnf); (· rfl); (· conv => lhs; whnf))
            | ((with_reducible apply RunL.oFr v0_ok); (· rfl); (· rfl); (· rfl); (· rfl); (· rfl); (· conv => lhs; whnf); (· rfl); (· conv => lhs; whnf))
            | ((with_reducible apply RunL.oBox v0_ok); (· rfl); (· rfl); (· conv => lhs; whnf); (· rfl); (· rfl); (· conv => lhs; whnf); (· conv => lhs; whnf); (· conv => lhs; simp only [List.length_cons, List.length_nil, Nat.zero_add, Nat.reduceAdd]); (· conv => lhs; simp only [List.cons_append, List.nil_append]))
            | ((with_reducible apply RunL.oAl v0_ok); (· rfl); (· first | exact z44 | exact z33); (· rfl); (· conv => lhs; whnf); (· rfl); (· conv => lhs; simp only [List.length_cons, List.length_nil, Nat.zero_add, Nat.reduceAdd]); (· conv => lhs; simp only [List.cons_append, List.nil_append]))
            | ((with_reducible apply RunL.oSt); (· rfl); (· rfl); (· conv => lhs; whnf); (· rfl); (· rfl); (· rfl); (· rfl); (· rfl); (· conv => lhs; whnf); (· conv => lhs; whnf); (· rfl); (· rfl); (· rfl); (· conv => lhs; simp only [setAll, List.set_cons_zero, List.set_cons_succ, Nat.reduceAdd, Nat.zero_add, setAll_le]); (· conv => lhs; simp only [List.set_cons_zero, List.set_cons_succ]); (· (repeat' (first | exact .flat rfl | exact PureL.nil | assumption | apply PureL.cons | apply Pure.agg' | apply Pure.tuple' | apply Pure.rptr' | exact pure_strs _ | exact pure_items _ | exact pure_val _ | exact pure_auds _ | exact pure_prs _ | exact pure_refL _ _)); done))
            | ((with_reducible apply RunL.oStM); (· rfl); (· rfl); (· conv => lhs; whnf); (· rfl); (· rfl); (· rfl); (· rfl); (· rfl); (· conv => lhs; whnf); (· conv => lhs; whnf); (· rfl); (· rfl); (· rfl); (· conv => lhs; simp only [setAll, List.set_cons_zero, List.set_cons_succ, Nat.reduceAdd, Nat.zero_add, setAll_le]); (· conv => lhs; simp only [List.set_cons_zero, List.set_cons_succ]); (· conv => lhs; whnf))
            | ((with_reducible apply RunL.oLa v0_ok); (· rfl); (· rfl); (· rfl); (· conv => lhs; whnf); (· rfl); (· rfl); (· rfl); (· conv => lhs; whnf); (· rfl); (· rfl); (· conv => lhs; simp only [List.drop_zero, List.drop_succ_cons, List.take_succ_cons, List.take_zero]))
            | ((with_reducible apply RunL.oI v0_ok); (· rfl); (· rfl); (· rfl); (· rfl); (· rfl); (· exact aindexAddr_arrN (by rfl) (by rfl) (by omega)))
            | ((with_reducible apply RunL.o v0_ok); (· rfl); (· conv => lhs; whnf); (· rfl); (· conv => lhs; whnf); (· rfl); (· conv => lhs; whnf); try ((with_reducible apply RunL.spl); (all_goals (intro hb <;> (try simp only [List.length_map, cellsL_len] at hb) <;> (first | replace hb := not_t hb | replace hb := not_f hb | replace hb := bne_iff_ne.1 hb | replace hb := bne_eq_false_iff_eq.1 hb | replace hb := of_decide_eq_true hb | replace hb := of_decide_eq_false hb | replace hb := eq_of_beq hb | replace hb := ne_of_beq_false hb | skip) <;> (first | contradiction | (exfalso; omega) | skip)))))
            | ((with_reducible apply RunL.oS); (· rfl); (· conv => lhs; whnf); (· rfl))
            | ((with_reducible apply RunL.oN v0_ok); (· rfl); (· rfl); (· rfl))
            | ((with_reducible apply RunL.oSN); (· rfl); (· rfl))))
          | ((with_reducible refine Run.condSelf ?_); (first
            | ((with_reducible apply Run.condT); (· rfl))
            | ((with_reducible apply Run.condF); (· rfl))
            | ((with_reducible apply Run.condK); (· rfl); (all_goals (intro hb <;> (try simp only [List.length_map, cellsL_len] at hb) <;> (first | replace hb := not_t hb | replace hb := not_f hb | replace hb := bne_iff_ne.1 hb | replace hb := bne_eq_false_iff_eq.1 hb | replace hb := of_decide_eq_true hb | replace hb := of_decide_eq_false hb | replace hb := eq_of_beq hb | replace hb := ne_of_beq_false hb | skip) <;> (first | contradiction | (exfalso; omega) | skip)))))))
        apply Run.draw v0_ok (orc_ok ((hsm).ok _) noCalls_ok)
        case hl =>
          repeat' (first | exact lex_nil | (apply lex_o; (· rfl); (· rfl); (· apply stepD_call; (· rfl); (· exact orc_self _ _ _ _ _)); (· rfl)) | (apply lex_oI; (· rfl); (· rfl); (· rfl); (· rfl); (· rfl); (· exact aindexAddr_slc (by rfl) (by rfl) (items_get (by assumption)))) | (apply lex_oI; (· rfl); (· rfl); (· rfl); (· rfl); (· rfl); (· exact aindexAddr_arrN (by rfl) (by rfl) (by omega))) | (apply lex_oBin; (· rfl); (· rfl); (· rfl); (· rfl); (· rfl); (· conv => lhs; whnf); (· conv => lhs; whnf); (· exact abin_lss_t (by omega))) | (apply lex_o; (· rfl); (· rfl); (· apply stepD_ok; rfl); (· conv => lhs; whnf)) | (apply lex_oS; (· rfl); (· rfl)) | (apply lex_oN; (· rfl); (· rfl); (· apply stepD_ok; rfl); (· rfl)))
        case hc => kernel_rfl
        case hf => rfl
        case hq =>
          repeat' (first
            | (with_reducible refine andThen_normal ?_)
            | (with_reducible refine andThen_ret ?_)
            | (with_reducible refine inBlk_normal ?_)
            | (with_reducible refine inBlk_ret ?_)
            | (with_reducible refine inBlk_hit ?_)
            | (with_reducible refine andThen_exit ?_)
            | ((with_reducible refine inBlk_miss ?_ ?_); (· rfl))
            | (with_reducible refine Run.seq ?_)
            | (with_reducible refine Run.skip ?_)
            | (with_reducible refine Run.ret ?_)
            | (with_reducible refine Run.exit ?_)
            | (with_reducible refine Run.block ?_)
            | (with_reducible refine Run.scope ?_)
            | (with_reducible refine Run.label ?_)
            | ((with_reducible refine Run.regionSelf ?_); ((with_reducible apply Run.lst); (· conv => lhs; whnf)))
            | (with_reducible refine RunL.nil ?_)
            | ((with_reducible refine RunL.self ?_); (first
              | ((with_reducible apply RunL.oFp v0_ok); (· rfl); (· rfl); (· rfl); (· rfl); (· rfl); (· conv => lhs; whnf); (· rfl); (· conv => lhs; whnf))
              | ((with_reducible apply RunL.oFr v0_ok); (· rfl); (· rfl); (· rfl); (· rfl); (· rfl); (· conv => lhs; whnf); (· rfl); (· conv => lhs; whnf))
              | ((with_reducible apply RunL.oBox v0_ok); (· rfl); (· rfl); (· conv => lhs; whnf); (· rfl); (· rfl); (· conv => lhs; whnf); (· conv => lhs; whnf); (· conv => lhs; simp only [List.length_cons, List.length_nil, Nat.zero_add, Nat.reduceAdd]); (· conv => lhs; simp only [List.cons_append, List.nil_append]))
              | ((with_reducible apply RunL.oAl v0_ok); (· rfl); (· first | exact z44 | exact z33); (· rfl); (· conv => lhs; whnf); (· rfl); (· conv => lhs; simp only [List.length_cons, List.length_nil, Nat.zero_add, Nat.reduceAdd]); (· conv => lhs; simp only [List.cons_append, List.nil_append]))
              | ((with_reducible apply RunL.oSt); (· rfl); (· rfl); (· conv => lhs; whnf); (· rfl); (· rfl); (· rfl); (· rfl); (· rfl); (· conv => lhs; whnf); (· conv => lhs; whnf); (· rfl); (· rfl); (· rfl); (· conv => lhs; simp only [setAll, List.set_cons_zero, List.set_cons_succ, Nat.reduceAdd, Nat.zero_add, setAll_le]); (· conv => lhs; simp only [List.set_cons_zero, List.set_cons_succ]); (· (repeat' (first | exact .flat rfl | exact PureL.nil | assumption | apply PureL.cons | apply Pure.agg' | apply Pure.tuple' | apply Pure.rptr' | exact pure_strs _ | exact pure_items _ | exact pure_val _ | exact pure_auds _ | exact pure_prs _ | exact pure_refL _ _)); done))
              | ((with_reducible apply RunL.oStM); (· rfl); (· rfl); (· conv => lhs; whnf); (· rfl); (· rfl); (· rfl); (· rfl); (· rfl); (· conv => lhs; whnf); (· conv => lhs; whnf); (· rfl); (· rfl); (· rfl); (· conv => lhs; simp only [setAll, List.set_cons_zero, List.set_cons_succ, Nat.reduceAdd, Nat.zero_add, setAll_le]); (· conv => lhs; simp only [List.set_cons_zero, List.set_cons_succ]); (· conv => lhs; whnf))
              | ((with_reducible apply RunL.oLa v0_ok); (· rfl); (· rfl); (· rfl); (· conv => lhs; whnf); (· rfl); (· rfl); (· rfl); (· conv => lhs; whnf); (· rfl); (· rfl); (· conv => lhs; simp only [List.drop_zero, List.drop_succ_cons, List.take_succ_cons, List.take_zero]))
              | ((with_reducible apply RunL.oI v0_ok); (· rfl); (· rfl); (· rfl); (· rfl); (· rfl); (· exact aindexAddr_arrN (by rfl) (by rfl) (by omega)))
              | ((with_reducible apply RunL.oBin v0_ok); (· rfl); (· rfl); (· conv => lhs; whnf); (· rfl); (· rfl); (· rfl); (· conv => lhs; whnf); (· conv => lhs; whnf); (· exact abin_lss_t (by omega)); try ((with_reducible apply RunL.spl); (all_goals (intro hb <;> (try simp only [List.length_map, cellsL_len] at hb) <;> (first | replace hb := not_t hb | replace hb := not_f hb | replace hb := bne_iff_ne.1 hb | replace hb := bne_eq_false_iff_eq.1 hb | replace hb := of_decide_eq_true hb | replace hb := of_decide_eq_false hb | replace hb := eq_of_beq hb | replace hb := ne_of_beq_false hb | skip) <;> (first | contradiction | (exfalso; omega) | skip)))))
              | ((with_reducible apply RunL.o v0_ok); (· rfl); (· conv => lhs; whnf); (· rfl); (· conv => lhs; whnf); (· rfl); (· conv => lhs; whnf); try ((with_reducible apply RunL.spl); (all_goals (intro hb <;> (try simp only [List.length_map, cellsL_len] at hb) <;> (first | replace hb := not_t hb | replace hb := not_f hb | replace hb := bne_iff_ne.1 hb | replace hb := bne_eq_false_iff_eq.1 hb | replace hb := of_decide_eq_true hb | replace hb := of_decide_eq_false hb | replace hb := eq_of_beq hb | replace hb := ne_of_beq_false hb | skip) <;> (first | contradiction | (exfalso; omega) | skip)))))
              | ((with_reducible apply RunL.oS); (· rfl); (· conv => lhs; whnf); (· rfl))
              | ((with_reducible apply RunL.oN v0_ok); (· rfl); (· rfl); (· rfl))
              | ((with_reducible apply RunL.oSN); (· rfl); (· rfl))))
            | ((with_reducible refine Run.condSelf ?_); (first
              | ((with_reducible apply Run.condT); (· rfl))
              | ((with_reducible apply Run.condF); (· rfl))
              | ((with_reducible apply Run.condK); (· rfl); (all_goals (intro hb <;> (try simp only [List.length_map, cellsL_len] at hb) <;> (first | replace hb := not_t hb | replace hb := not_f hb | replace hb := bne_iff_ne.1 hb | replace hb := bne_eq_false_iff_eq.1 hb | replace hb := of_decide_eq_true hb | replace hb := of_decide_eq_false hb | replace hb := eq_of_beq hb | replace hb := ne_of_beq_false hb | skip) <;> (first | contradiction | (exfalso; omega) | skip)))))))
          · obtain rfl := ‹sm = true›
            exact ⟨(i + 1, k + 1), by dsimp only; omega, ⟨by dsimp only; omega, by dsimp only; omega, h3⟩, .cutO 1 rfl ⟨rfl, get_int rfl (by rw [IntWalk.i64_in _ (by omega)]; omega), rfl, rfl, get_int rfl (by rw [IntWalk.i64_in _ (by omega)]; omega), trivial⟩ rfl (Nat.zero_le _) (Nat.le_of_ble_eq_true rfl) rfl rfl (Nat.le_refl _)
              ⟨(pure_items _).sc, .flat rfl, (pure_items _).sc, .flat rfl, .flat rfl, trivial⟩⟩
          · obtain rfl := ‹sm = false›
            exact ⟨(i + 1, k), by dsimp only; omega, ⟨by dsimp only; omega, by dsimp only; omega, h3⟩, .cutO 1 rfl ⟨rfl, rfl, rfl, rfl, get_int rfl (by rw [IntWalk.i64_in _ (by omega)]; omega), trivial⟩ rfl (Nat.zero_le _) (Nat.le_of_ble_eq_true rfl) rfl rfl (Nat.le_refl _)
              ⟨(pure_items _).sc, .flat rfl, (pure_items _).sc, .flat rfl, .flat rfl, trivial⟩⟩
      · rw [dif_neg hk] at h3
        have hk' : ¬ (k : Int) < ((Val.cellsL A).length : Int) := by rw [cellsL_len]; omega
        cases x with | mk k1 n1 f1 s1 nm1 it1 =>
        refine RunL.oI v0_ok (by rfl) (by rfl) (by rfl) (by rfl) (by rfl) (aindexAddr_slc (by rfl) (by rfl) (items_get hx)) ?_
        repeat' (first
          | (with_reducible refine andThen_normal ?_)
          | (with_reducible refine andThen_ret ?_)
          | (with_reducible refine inBlk_normal ?_)
          | (with_reducible refine inBlk_ret ?_)
          | (with_reducible refine inBlk_hit ?_)
          | (with_reducible refine andThen_exit ?_)
          | ((with_reducible refine inBlk_miss ?_ ?_); (· rfl))
          | (with_reducible refine Run.seq ?_)
          | (with_reducible refine Run.skip ?_)
          | (with_reducible refine Run.ret ?_)
          | (with_reducible refine Run.exit ?_)
          | (with_reducible refine Run.block ?_)
          | (with_reducible refine Run.scope ?_)
          | (with_reducible refine Run.label ?_)
          | ((with_reducible refine Run.regionSelf ?_); ((with_reducible apply Run.lst); (· conv => lhs; whnf)))
          | (with_reducible refine RunL.nil ?_)
          | ((with_reducible refine RunL.self ?_); (first
            | ((with_reducible apply RunL.oFp v0_ok); (· rfl); (· rfl); (· rfl); (· rfl); (· rfl); (· conv => lhs; whnf); (· rfl); (· conv => lhs; whnf))
            | ((with_reducible apply RunL.oFr v0_ok); (· rfl); (· rfl); (· rfl); (· rfl); (· rfl); (· conv => lhs; whnf); (· rfl); (· conv => lhs; whnf))
            | ((with_reducible apply RunL.oBox v0_ok); (· rfl); (· rfl); (· conv => lhs; whnf); (· rfl); (· rfl); (· conv => lhs; whnf); (· conv => lhs; whnf); (· conv => lhs; simp only [List.length_cons, List.length_nil, Nat.zero_add, Nat.reduceAdd]); (· conv => lhs; simp only [List.cons_append, List.nil_append]))
            | ((with_reducible apply RunL.oAl v0_ok); (· rfl); (· first | exact z44 | exact z33); (· rfl); (· conv => lhs; whnf); (· rfl); (· conv => lhs; simp only [List.length_cons, List.length_nil, Nat.zero_add, Nat.reduceAdd]); (· conv => lhs; simp only [List.cons_append, List.nil_append]))
            | ((with_reducible apply RunL.oSt); (· rfl); (· rfl); (· conv => lhs; whnf); (· rfl); (· rfl); (· rfl); (· rfl); (· rfl); (· conv => lhs; whnf); (· conv => lhs; whnf); (· rfl); (· rfl); (· rfl); (· conv => lhs; simp only [setAll, List.set_cons_zero, List.set_cons_succ, Nat.reduceAdd, Nat.zero_add, setAll_le]); (· conv => lhs; simp only [List.set_cons_zero, List.set_cons_succ]); (· (repeat' (first | exact .flat rfl | exact PureL.nil | assumption | apply PureL.cons | apply Pure.agg' | apply Pure.tuple' | apply Pure.rptr' | exact pure_strs _ | exact pure_items _ | exact pure_val _ | exact pure_auds _ | exact pure_prs _ | exact pure_refL _ _)); done))
            | ((with_reducible apply RunL.oStM); (· rfl); (· rfl); (· conv => lhs; whnf); (· rfl); (· rfl); (· rfl); (· rfl); (· rfl); (· conv => lhs; whnf); (· conv => lhs; whnf); (· rfl); (· rfl); (· rfl); (· conv => lhs; simp only [setAll, List.set_cons_zero, List.set_cons_succ, Nat.reduceAdd, Nat.zero_add, setAll_le]); (· conv => lhs; simp only [List.set_cons_zero, List.set_cons_succ]); (· conv => lhs; whnf))
            | ((with_reducible apply RunL.oLa v0_ok); (· rfl); (· rfl); (· rfl); (· conv => lhs; whnf); (· rfl); (· rfl); (· rfl); (· conv => lhs; whnf); (· rfl); (· rfl); (· conv => lhs; simp only [List.drop_zero, List.drop_succ_cons, List.take_succ_cons, List.take_zero]))
            | ((with_reducible apply RunL.oI v0_ok); (· rfl); (· rfl); (· rfl); (· rfl); (· rfl); (· exact aindexAddr_arrN (by rfl) (by rfl) (by omega)))
            | ((with_reducible apply RunL.oBin v0_ok); (· rfl); (· rfl); (· conv => lhs; whnf); (· rfl); (· rfl); (· rfl); (· conv => lhs; whnf); (· conv => lhs; whnf); (· exact abin_lss_t (by omega)); try ((with_reducible apply RunL.spl); (all_goals (intro hb <;> (try simp only [List.length_map, cellsL_len] at hb) <;> (first | replace hb := not_t hb | replace hb := not_f hb | replace hb := bne_iff_ne.1 hb | replace hb := bne_eq_false_iff_eq.1 hb | replace hb := of_decide_eq_true hb | replace hb := of_decide_eq_false hb | replace hb := eq_of_beq hb | replace hb := ne_of_beq_false hb | skip) <;> (first | contradiction | (exfalso; omega) | skip)))))
            | ((with_reducible apply RunL.o v0_ok); (· rfl); (· conv => lhs; whnf); (· rfl); (· conv => lhs; whnf); (· rfl); (· conv => lhs; whnf); try ((with_reducible apply RunL.spl); (all_goals (intro hb <;> (try simp only [List.length_map, cellsL_len] at hb) <;> (first | replace hb := not_t hb | replace hb := not_f hb | replace hb := bne_iff_ne.1 hb | replace hb := bne_eq_false_iff_eq.1 hb | replace hb := of_decide_eq_true hb | replace hb := of_decide_eq_false hb | replace hb := eq_of_beq hb | replace hb := ne_of_beq_false hb | skip) <;> (first | contradiction | (exfalso; omega) | skip)))))
            | ((with_reducible apply RunL.oS); (· rfl); (· conv => lhs; whnf); (· rfl))
            | ((with_reducible apply RunL.oN v0_ok); (· rfl); (· rfl); (· rfl))
            | ((with_reducible apply RunL.oSN); (· rfl); (· rfl))))
          | ((with_reducible refine Run.condSelf ?_); (first
            | ((with_reducible apply Run.condT); (· rfl))
            | ((with_reducible apply Run.condF); (· rfl))
            | ((with_reducible apply Run.condK); (· rfl); (all_goals (intro hb <;> (try simp only [List.length_map, cellsL_len] at hb) <;> (first | replace hb := not_t hb | replace hb := not_f hb | replace hb := bne_iff_ne.1 hb | replace hb := bne_eq_false_iff_eq.1 hb | replace hb := of_decide_eq_true hb | replace hb := of_decide_eq_false hb | replace hb := eq_of_beq hb | replace hb := ne_of_beq_false hb | skip) <;> (first | contradiction | (exfalso; omega) | skip)))))))
        apply Run.draw v0_ok noCalls_ok
        case hl =>
          repeat' (first | exact lex_nil | (apply lex_o; (· rfl); (· rfl); (· apply stepD_call; (· rfl); (· exact orc_self _ _ _ _ _)); (· rfl)) | (apply lex_oI; (· rfl); (· rfl); (· rfl); (· rfl); (· rfl); (· exact aindexAddr_slc (by rfl) (by rfl) (items_get (by assumption)))) | (apply lex_oI; (· rfl); (· rfl); (· rfl); (· rfl); (· rfl); (· exact aindexAddr_arrN (by rfl) (by rfl) (by omega))) | (apply lex_oBin; (· rfl); (· rfl); (· rfl); (· rfl); (· rfl); (· conv => lhs; whnf); (· conv => lhs; whnf); (· exact abin_lss_f (by omega))) | (apply lex_o; (· rfl); (· rfl); (· apply stepD_ok; rfl); (· conv => lhs; whnf)) | (apply lex_oS; (· rfl); (· rfl)) | (apply lex_oN; (· rfl); (· rfl); (· apply stepD_ok; rfl); (· rfl)))
        case hc => kernel_rfl
        case hf => rfl
        case hq =>
          repeat' (first
            | (with_reducible refine andThen_normal ?_)
            | (with_reducible refine andThen_ret ?_)
            | (with_reducible refine inBlk_normal ?_)
            | (with_reducible refine inBlk_ret ?_)
            | (with_reducible refine inBlk_hit ?_)
            | (with_reducible refine andThen_exit ?_)
            | ((with_reducible refine inBlk_miss ?_ ?_); (· rfl))
            | (with_reducible refine Run.seq ?_)
            | (with_reducible refine Run.skip ?_)
            | (with_reducible refine Run.ret ?_)
            | (with_reducible refine Run.exit ?_)
            | (with_reducible refine Run.block ?_)
            | (with_reducible refine Run.scope ?_)
            | (with_reducible refine Run.label ?_)
            | ((with_reducible refine Run.regionSelf ?_); ((with_reducible apply Run.lst); (· conv => lhs; whnf)))
            | (with_reducible refine RunL.nil ?_)
            | ((with_reducible refine RunL.self ?_); (first
              | ((with_reducible apply RunL.oFp v0_ok); (· rfl); (· rfl); (· rfl); (· rfl); (· rfl); (· conv => lhs; whnf); (· rfl); (· conv => lhs; whnf))
              | ((with_reducible apply RunL.oFr v0_ok); (· rfl); (· rfl); (· rfl); (· rfl); (· rfl); (· conv => lhs; whnf); (· rfl); (· conv => lhs; whnf))
              | ((with_reducible apply RunL.oBox v0_ok); (· rfl); (· rfl); (· conv => lhs; whnf); (· rfl); (· rfl); (· conv => lhs; whnf); (· conv => lhs; whnf); (· conv => lhs; simp only [List.length_cons, List.length_nil, Nat.zero_add, Nat.reduceAdd]); (· conv => lhs; simp only [List.cons_append, List.nil_append]))
              | ((with_reducible apply RunL.oAl v0_ok); (· rfl); (· first | exact z44 | exact z33); (· rfl); (· conv => lhs; whnf); (· rfl); (· conv => lhs; simp only [List.length_cons, List.length_nil, Nat.zero_add, Nat.reduceAdd]); (· conv => lhs; simp only [List.cons_append, List.nil_append]))
              | ((with_reducible apply RunL.oSt); (· rfl); (· rfl); (· conv => lhs; whnf); (· rfl); (· rfl); (· rfl); (· rfl); (· rfl); (· conv => lhs; whnf); (· conv => lhs; whnf); (· rfl); (· rfl); (· rfl); (· conv => lhs; simp only [setAll, List.set_cons_zero, List.set_cons_succ, Nat.reduceAdd, Nat.zero_add, setAll_le]); (· conv => lhs; simp only [List.set_cons_zero, List.set_cons_succ]); (· (repeat' (first | exact .flat rfl | exact PureL.nil | assumption | apply PureL.cons | apply Pure.agg' | apply Pure.tuple' | apply Pure.rptr' | exact pure_strs _ | exact pure_items _ | exact pure_val _ | exact pure_auds _ | exact pure_prs _ | exact pure_refL _ _)); done))
              | ((with_reducible apply RunL.oStM); (· rfl); (· rfl); (· conv => lhs; whnf); (· rfl); (· rfl); (· rfl); (· rfl); (· rfl); (· conv => lhs; whnf); (· conv => lhs; whnf); (· rfl); (· rfl); (· rfl); (· conv => lhs; simp only [setAll, List.set_cons_zero, List.set_cons_succ, Nat.reduceAdd, Nat.zero_add, setAll_le]); (· conv => lhs; simp only [List.set_cons_zero, List.set_cons_succ]); (· conv => lhs; whnf))
              | ((with_reducible apply RunL.oLa v0_ok); (· rfl); (· rfl); (· rfl); (· conv => lhs; whnf); (· rfl); (· rfl); (· rfl); (· conv => lhs; whnf); (· rfl); (· rfl); (· conv => lhs; simp only [List.drop_zero, List.drop_succ_cons, List.take_succ_cons, List.take_zero]))
              | ((with_reducible apply RunL.oI v0_ok); (· rfl); (· rfl); (· rfl); (· rfl); (· rfl); (· exact aindexAddr_arrN (by rfl) (by rfl) (by omega)))
              | ((with_reducible apply RunL.oBin v0_ok); (· rfl); (· rfl); (· conv => lhs; whnf); (· rfl); (· rfl); (· rfl); (· conv => lhs; whnf); (· conv => lhs; whnf); (· exact abin_lss_f (by omega)); try ((with_reducible apply RunL.spl); (all_goals (intro hb <;> (try simp only [List.length_map, cellsL_len] at hb) <;> (first | replace hb := not_t hb | replace hb := not_f hb | replace hb := bne_iff_ne.1 hb | replace hb := bne_eq_false_iff_eq.1 hb | replace hb := of_decide_eq_true hb | replace hb := of_decide_eq_false hb | replace hb := eq_of_beq hb | replace hb := ne_of_beq_false hb | skip) <;> (first | contradiction | (exfalso; omega) | skip)))))
              | ((with_reducible apply RunL.o v0_ok); (· rfl); (· conv => lhs; whnf); (· rfl); (· conv => lhs; whnf); (· rfl); (· conv => lhs; whnf); try ((with_reducible apply RunL.spl); (all_goals (intro hb <;> (try simp only [List.length_map, cellsL_len] at hb) <;> (first | replace hb := not_t hb | replace hb := not_f hb | replace hb := bne_iff_ne.1 hb | replace hb := bne_eq_false_iff_eq.1 hb | replace hb := of_decide_eq_true hb | replace hb := of_decide_eq_false hb | replace hb := eq_of_beq hb | replace hb := ne_of_beq_false hb | skip) <;> (first | contradiction | (exfalso; omega) | skip)))))
              | ((with_reducible apply RunL.oS); (· rfl); (· conv => lhs; whnf); (· rfl))
              | ((with_reducible apply RunL.oN v0_ok); (· rfl); (· rfl); (· rfl))
              | ((with_reducible apply RunL.oSN); (· rfl); (· rfl))))
            | ((with_reducible refine Run.condSelf ?_); (first
              | ((with_reducible apply Run.condT); (· rfl))
              | ((with_reducible apply Run.condF); (· rfl))
              | ((with_reducible apply Run.condK); (· rfl); (all_goals (intro hb <;> (try simp only [List.length_map, cellsL_len] at hb) <;> (first | replace hb := not_t hb | replace hb := not_f hb | replace hb := bne_iff_ne.1 hb | replace hb := bne_eq_false_iff_eq.1 hb | replace hb := of_decide_eq_true hb | replace hb := of_decide_eq_false hb | replace hb := eq_of_beq hb | replace hb := ne_of_beq_false hb | skip) <;> (first | contradiction | (exfalso; omega) | skip)))))))
          exact ⟨(i + 1, k), by dsimp only; omega, ⟨by dsimp only; omega, by dsimp only; omega, h3⟩, .cutO 1 rfl ⟨rfl, rfl, rfl, rfl, get_int rfl (by rw [IntWalk.i64_in _ (by omega)]; omega), trivial⟩ rfl (Nat.zero_le _) (Nat.le_of_ble_eq_true rfl) rfl rfl (Nat.le_refl _)
            ⟨(pure_items _).sc, .flat rfl, (pure_items _).sc, .flat rfl, .flat rfl, trivial⟩⟩
    · obtain rfl : i = B.length := by omega
      rw [List.drop_length, greedy] at h3
      repeat' (first
        | (with_reducible refine andThen_normal ?_)
        | (with_reducible refine andThen_ret ?_)
        | (with_reducible refine inBlk_normal ?_)
        | (with_reducible refine inBlk_ret ?_)
        | (with_reducible refine inBlk_hit ?_)
        | (with_reducible refine andThen_exit ?_)
        | ((with_reducible refine inBlk_miss ?_ ?_); (· rfl))
        | (with_reducible refine Run.seq ?_)
        | (with_reducible refine Run.skip ?_)
        | (with_reducible refine Run.ret ?_)
        | (with_reducible refine Run.exit ?_)
        | (with_reducible refine Run.block ?_)
        | (with_reducible refine Run.scope ?_)
        | (with_reducible refine Run.label ?_)
        | ((with_reducible refine Run.regionSelf ?_); ((with_reducible apply Run.lst); (· conv => lhs; whnf)))
        | (with_reducible refine RunL.nil ?_)
        | ((with_reducible refine RunL.self ?_); (first
          | ((with_reducible apply RunL.oFp v0_ok); (· rfl); (· rfl); (· rfl); (· rfl); (· rfl); (· conv => lhs; whnf); (· rfl); (· conv => lhs; whnf))
          | ((with_reducible apply RunL.oFr v0_ok); (· rfl); (· rfl); (· rfl); (· rfl); (· rfl); (· conv => lhs; whnf); (· rfl); (· conv => lhs; whnf))
          | ((with_reducible apply RunL.oBox v0_ok); (· rfl); (· rfl); (· conv => lhs; whnf); (· rfl); (· rfl); (· conv => lhs; whnf); (· conv => lhs; whnf); (· conv => lhs; simp only [List.length_cons, List.length_nil, Nat.zero_add, Nat.reduceAdd]); (· conv => lhs; simp only [List.cons_append, List.nil_append]))
          | ((with_reducible apply RunL.oAl v0_ok); (· rfl); (· first | exact z44 | exact z33); (· rfl); (· conv => lhs; whnf); (· rfl); (· conv => lhs; simp only [List.length_cons, List.length_nil, Nat.zero_add, Nat.reduceAdd]); (· conv => lhs; simp only [List.cons_append, List.nil_append]))
          | ((with_reducible apply RunL.oSt); (· rfl); (· rfl); (· conv => lhs; whnf); (· rfl); (· rfl); (· rfl); (· rfl); (· rfl); (· conv => lhs; whnf); (· conv => lhs; whnf); (· rfl); (· rfl); (· rfl); (· conv => lhs; simp only [setAll, List.set_cons_zero, List.set_cons_succ, Nat.reduceAdd, Nat.zero_add, setAll_le]); (· conv => lhs; simp only [List.set_cons_zero, List.set_cons_succ]); (· (repeat' (first | exact .flat rfl | exact PureL.nil | assumption | apply PureL.cons | apply Pure.agg' | apply Pure.tuple' | apply Pure.rptr' | exact pure_strs _ | exact pure_items _ | exact pure_val _ | exact pure_auds _ | exact pure_prs _ | exact pure_refL _ _)); done))
          | ((with_reducible apply RunL.oStM); (· rfl); (· rfl); (· conv => lhs; whnf); (· rfl); (· rfl); (· rfl); (· rfl); (· rfl); (· conv => lhs; whnf); (· conv => lhs; whnf); (· rfl); (· rfl); (· rfl); (· conv => lhs; simp only [setAll, List.set_cons_zero, List.set_cons_succ, Nat.reduceAdd, Nat.zero_add, setAll_le]); (· conv => lhs; simp only [List.set_cons_zero, List.set_cons_succ]); (· conv => lhs; whnf))
          | ((with_reducible apply RunL.oLa v0_ok); (· rfl); (· rfl); (· rfl); (· conv => lhs; whnf); (· rfl); (· rfl); (· rfl); (· conv => lhs; whnf); (· rfl); (· rfl); (· conv => lhs; simp only [List.drop_zero, List.drop_succ_cons, List.take_succ_cons, List.take_zero]))
          | ((with_reducible apply RunL.oI v0_ok); (· rfl); (· rfl); (· rfl); (· rfl); (· rfl); (· exact aindexAddr_arrN (by rfl) (by rfl) (by omega)))
          | ((with_reducible apply RunL.oBin v0_ok); (· rfl); (· rfl); (· conv => lhs; whnf); (· rfl); (· rfl); (· rfl); (· conv => lhs; whnf); (· conv => lhs; whnf); (· exact abin_lss_f (by omega)); try ((with_reducible apply RunL.spl); (all_goals (intro hb <;> (try simp only [List.length_map, cellsL_len] at hb) <;> (first | replace hb := not_t hb | replace hb := not_f hb | replace hb := bne_iff_ne.1 hb | replace hb := bne_eq_false_iff_eq.1 hb | replace hb := of_decide_eq_true hb | replace hb := of_decide_eq_false hb | replace hb := eq_of_beq hb | replace hb := ne_of_beq_false hb | skip) <;> (first | contradiction | (exfalso; omega) | skip)))))
          | ((with_reducible apply RunL.o v0_ok); (· rfl); (· conv => lhs; whnf); (· rfl); (· conv => lhs; whnf); (· rfl); (· conv => lhs; whnf); try ((with_reducible apply RunL.spl); (all_goals (intro hb <;> (try simp only [List.length_map, cellsL_len] at hb) <;> (first | replace hb := not_t hb | replace hb := not_f hb | replace hb := bne_iff_ne.1 hb | replace hb := bne_eq_false_iff_eq.1 hb | replace hb := of_decide_eq_true hb | replace hb := of_decide_eq_false hb | replace hb := eq_of_beq hb | replace hb := ne_of_beq_false hb | skip) <;> (first | contradiction | (exfalso; omega) | skip)))))
          | ((with_reducible apply RunL.oS); (· rfl); (· conv => lhs; whnf); (· rfl))
          | ((with_reducible apply RunL.oN v0_ok); (· rfl); (· rfl); (· rfl))
          | ((with_reducible apply RunL.oSN); (· rfl); (· rfl))))
        | ((with_reducible refine Run.condSelf ?_); (first
          | ((with_reducible apply Run.condT); (· rfl))
          | ((with_reducible apply Run.condF); (· rfl))
          | ((with_reducible apply Run.condK); (· rfl); (all_goals (intro hb <;> (try simp only [List.length_map, cellsL_len] at hb) <;> (first | replace hb := not_t hb | replace hb := not_f hb | replace hb := bne_iff_ne.1 hb | replace hb := bne_eq_false_iff_eq.1 hb | replace hb := of_decide_eq_true hb | replace hb := of_decide_eq_false hb | replace hb := eq_of_beq hb | replace hb := ne_of_beq_false hb | skip) <;> (first | contradiction | (exfalso; omega) | skip)))))))
      change EndF _ _ _ _ _
      refine EndF.mk (.inr rfl) rfl (by rfl) (by conv => lhs; whnf) (.pure (.flat rfl)) ?_
      rfl
    · obtain rfl : i = B.length := by omega
      rw [List.drop_length, greedy] at h3
      exfalso; omega
  · repeat' (first
      | (with_reducible refine andThen_normal ?_)
      | (with_reducible refine andThen_ret ?_)
      | (with_reducible refine inBlk_normal ?_)
      | (with_reducible refine inBlk_ret ?_)
      | (with_reducible refine inBlk_hit ?_)
      | (with_reducible refine andThen_exit ?_)
      | ((with_reducible refine inBlk_miss ?_ ?_); (· rfl))
      | (with_reducible refine Run.seq ?_)
      | (with_reducible refine Run.skip ?_)
      | (with_reducible refine Run.ret ?_)
      | (with_reducible refine Run.exit ?_)
      | (with_reducible refine Run.block ?_)
      | (with_reducible refine Run.scope ?_)
      | (with_reducible refine Run.label ?_)
      | ((with_reducible refine Run.regionSelf ?_); ((with_reducible apply Run.lst); (· conv => lhs; whnf)))
      | (with_reducible refine RunL.nil ?_)
      | ((with_reducible refine RunL.self ?_); (first
        | ((with_reducible apply RunL.oFp v0_ok); (· rfl); (· rfl); (· rfl); (· rfl); (· rfl); (· conv => lhs; whnf); (· rfl); (· conv => lhs; whnf))
        | ((with_reducible apply RunL.oFr v0_ok); (· rfl); (· rfl); (· rfl); (· rfl); (· rfl); (· conv => lhs; whnf); (· rfl); (· conv => lhs; whnf))
        | ((with_reducible apply RunL.oBox v0_ok); (· rfl); (· rfl); (· conv => lhs; whnf); (· rfl); (· rfl); (· conv => lhs; whnf); (· conv => lhs; whnf); (· conv => lhs; simp only [List.length_cons, List.length_nil, Nat.zero_add, Nat.reduceAdd]); (· conv => lhs; simp only [List.cons_append, List.nil_append]))
        | ((with_reducible apply RunL.oAl v0_ok); (· rfl); (· first | exact z44 | exact z33); (· rfl); (· conv => lhs; whnf); (· rfl); (· conv => lhs; simp only [List.length_cons, List.length_nil, Nat.zero_add, Nat.reduceAdd]); (· conv => lhs; simp only [List.cons_append, List.nil_append]))
        | ((with_reducible apply RunL.oSt); (· rfl); (· rfl); (· conv => lhs; whnf); (· rfl); (· rfl); (· rfl); (· rfl); (· rfl); (· conv => lhs; whnf); (· conv => lhs; whnf); (· rfl); (· rfl); (· rfl); (· conv => lhs; simp only [setAll, List.set_cons_zero, List.set_cons_succ, Nat.reduceAdd, Nat.zero_add, setAll_le]); (· conv => lhs; simp only [List.set_cons_zero, List.set_cons_succ]); (· (repeat' (first | exact .flat rfl | exact PureL.nil | assumption | apply PureL.cons | apply Pure.agg' | apply Pure.tuple' | apply Pure.rptr' | exact pure_strs _ | exact pure_items _ | exact pure_val _ | exact pure_auds _ | exact pure_prs _ | exact pure_refL _ _)); done))
        | ((with_reducible apply RunL.oStM); (· rfl); (· rfl); (· conv => lhs; whnf); (· rfl); (· rfl); (· rfl); (· rfl); (· rfl); (· conv => lhs; whnf); (· conv => lhs; whnf); (· rfl); (· rfl); (· rfl); (· conv => lhs; simp only [setAll, List.set_cons_zero, List.set_cons_succ, Nat.reduceAdd, Nat.zero_add, setAll_le]); (· conv => lhs; simp only [List.set_cons_zero, List.set_cons_succ]); (· conv => lhs; whnf))
        | ((with_reducible apply RunL.oLa v0_ok); (· rfl); (· rfl); (· rfl); (· conv => lhs; whnf); (· rfl); (· rfl); (· rfl); (· conv => lhs; whnf); (· rfl); (· rfl); (· conv => lhs; simp only [List.drop_zero, List.drop_succ_cons, List.take_succ_cons, List.take_zero]))
        | ((with_reducible apply RunL.oI v0_ok); (· rfl); (· rfl); (· rfl); (· rfl); (· rfl); (· exact aindexAddr_arrN (by rfl) (by rfl) (by omega)))
        | ((with_reducible apply RunL.oBin v0_ok); (· rfl); (· rfl); (· conv => lhs; whnf); (· rfl); (· rfl); (· rfl); (· conv => lhs; whnf); (· conv => lhs; whnf); (· exact abin_lss_f (by omega)); try ((with_reducible apply RunL.spl); (all_goals (intro hb <;> (try simp only [List.length_map, cellsL_len] at hb) <;> (first | replace hb := not_t hb | replace hb := not_f hb | replace hb := bne_iff_ne.1 hb | replace hb := bne_eq_false_iff_eq.1 hb | replace hb := of_decide_eq_true hb | replace hb := of_decide_eq_false hb | replace hb := eq_of_beq hb | replace hb := ne_of_beq_false hb | skip) <;> (first | contradiction | (exfalso; omega) | skip)))))
        | ((with_reducible apply RunL.o v0_ok); (· rfl); (· conv => lhs; whnf); (· rfl); (· conv => lhs; whnf); (· rfl); (· conv => lhs; whnf); try ((with_reducible apply RunL.spl); (all_goals (intro hb <;> (try simp only [List.length_map, cellsL_len] at hb) <;> (first | replace hb := not_t hb | replace hb := not_f hb | replace hb := bne_iff_ne.1 hb | replace hb := bne_eq_false_iff_eq.1 hb | replace hb := of_decide_eq_true hb | replace hb := of_decide_eq_false hb | replace hb := eq_of_beq hb | replace hb := ne_of_beq_false hb | skip) <;> (first | contradiction | (exfalso; omega) | skip)))))
        | ((with_reducible apply RunL.oS); (· rfl); (· conv => lhs; whnf); (· rfl))
        | ((with_reducible apply RunL.oN v0_ok); (· rfl); (· rfl); (· rfl))
        | ((with_reducible apply RunL.oSN); (· rfl); (· rfl))))
      | ((with_reducible refine Run.condSelf ?_); (first
        | ((with_reducible apply Run.condT); (· rfl))
        | ((with_reducible apply Run.condF); (· rfl))
        | ((with_reducible apply Run.condK); (· rfl); (all_goals (intro hb <;> (try simp only [List.length_map, cellsL_len] at hb) <;> (first | replace hb := not_t hb | replace hb := not_f hb | replace hb := bne_iff_ne.1 hb | replace hb := bne_eq_false_iff_eq.1 hb | replace hb := of_decide_eq_true hb | replace hb := of_decide_eq_false hb | replace hb := eq_of_beq hb | replace hb := ne_of_beq_false hb | skip) <;> (first | contradiction | (exfalso; omega) | skip)))))))
    refine RunL.oF v0_ok (make_ref n o) (by rfl) (by rfl) (by rfl) ?_
    rintro _ (⟨hok', rfl⟩ | ⟨hok', e', rfl⟩)
    · rw [← ok_eq, hok] at hok'; cases hok'
    repeat' (first
      | (with_reducible refine andThen_normal ?_)
      | (with_reducible refine andThen_ret ?_)
      | (with_reducible refine inBlk_normal ?_)
      | (with_reducible refine inBlk_ret ?_)
      | (with_reducible refine inBlk_hit ?_)
      | (with_reducible refine andThen_exit ?_)
      | ((with_reducible refine inBlk_miss ?_ ?_); (· rfl))
      | (with_reducible refine Run.seq ?_)
      | (with_reducible refine Run.skip ?_)
      | (with_reducible refine Run.ret ?_)
      | (with_reducible refine Run.exit ?_)
      | (with_reducible refine Run.block ?_)
      | (with_reducible refine Run.scope ?_)
      | (with_reducible refine Run.label ?_)
      | ((with_reducible refine Run.regionSelf ?_); ((with_reducible apply Run.lst); (· conv => lhs; whnf)))
      | (with_reducible refine RunL.nil ?_)
      | ((with_reducible refine RunL.self ?_); (first
        | ((with_reducible apply RunL.oFp v0_ok); (· rfl); (· rfl); (· rfl); (· rfl); (· rfl); (· conv => lhs; whnf); (· rfl); (· conv => lhs; whnf))
        | ((with_reducible apply RunL.oFr v0_ok); (· rfl); (· rfl); (· rfl); (· rfl); (· rfl); (· conv => lhs; whnf); (· rfl); (· conv => lhs; whnf))
        | ((with_reducible apply RunL.oBox v0_ok); (· rfl); (· rfl); (· conv => lhs; whnf); (· rfl); (· rfl); (· conv => lhs; whnf); (· conv => lhs; whnf); (· conv => lhs; simp only [List.length_cons, List.length_nil, Nat.zero_add, Nat.reduceAdd]); (· conv => lhs; simp only [List.cons_append, List.nil_append]))
        | ((with_reducible apply RunL.oAl v0_ok); (· rfl); (· first | exact z44 | exact z33); (· rfl); (· conv => lhs; whnf); (· rfl); (· conv => lhs; simp only [List.length_cons, List.length_nil, Nat.zero_add, Nat.reduceAdd]); (· conv => lhs; simp only [List.cons_append, List.nil_append]))
        | ((with_reducible apply RunL.oSt); (· rfl); (· rfl); (· conv => lhs; whnf); (· rfl); (· rfl); (· rfl); (· rfl); (· rfl); (· conv => lhs; whnf); (· conv => lhs; whnf); (· rfl); (· rfl); (· rfl); (· conv => lhs; simp only [setAll, List.set_cons_zero, List.set_cons_succ, Nat.reduceAdd, Nat.zero_add, setAll_le]); (· conv => lhs; simp only [List.set_cons_zero, List.set_cons_succ]); (· (repeat' (first | exact .flat rfl | exact PureL.nil | assumption | apply PureL.cons | apply Pure.agg' | apply Pure.tuple' | apply Pure.rptr' | exact pure_strs _ | exact pure_items _ | exact pure_val _ | exact pure_auds _ | exact pure_prs _ | exact pure_refL _ _)); done))
        | ((with_reducible apply RunL.oStM); (· rfl); (· rfl); (· conv => lhs; whnf); (· rfl); (· rfl); (· rfl); (· rfl); (· rfl); (· conv => lhs; whnf); (· conv => lhs; whnf); (· rfl); (· rfl); (· rfl); (· conv => lhs; simp only [setAll, List.set_cons_zero, List.set_cons_succ, Nat.reduceAdd, Nat.zero_add, setAll_le]); (· conv => lhs; simp only [List.set_cons_zero, List.set_cons_succ]); (· conv => lhs; whnf))
        | ((with_reducible apply RunL.oLa v0_ok); (· rfl); (· rfl); (· rfl); (· conv => lhs; whnf); (· rfl); (· rfl); (· rfl); (· conv => lhs; whnf); (· rfl); (· rfl); (· conv => lhs; simp only [List.drop_zero, List.drop_succ_cons, List.take_succ_cons, List.take_zero]))
        | ((with_reducible apply RunL.oI v0_ok); (· rfl); (· rfl); (· rfl); (· rfl); (· rfl); (· exact aindexAddr_arrN (by rfl) (by rfl) (by omega)))
        | ((with_reducible apply RunL.oBin v0_ok); (· rfl); (· rfl); (· conv => lhs; whnf); (· rfl); (· rfl); (· rfl); (· conv => lhs; whnf); (· conv => lhs; whnf); (· exact abin_lss_f (by omega)); try ((with_reducible apply RunL.spl); (all_goals (intro hb <;> (try simp only [List.length_map, cellsL_len] at hb) <;> (first | replace hb := not_t hb | replace hb := not_f hb | replace hb := bne_iff_ne.1 hb | replace hb := bne_eq_false_iff_eq.1 hb | replace hb := of_decide_eq_true hb | replace hb := of_decide_eq_false hb | replace hb := eq_of_beq hb | replace hb := ne_of_beq_false hb | skip) <;> (first | contradiction | (exfalso; omega) | skip)))))
        | ((with_reducible apply RunL.o v0_ok); (· rfl); (· conv => lhs; whnf); (· rfl); (· conv => lhs; whnf); (· rfl); (· conv => lhs; whnf); try ((with_reducible apply RunL.spl); (all_goals (intro hb <;> (try simp only [List.length_map, cellsL_len] at hb) <;> (first | replace hb := not_t hb | replace hb := not_f hb | replace hb := bne_iff_ne.1 hb | replace hb := bne_eq_false_iff_eq.1 hb | replace hb := of_decide_eq_true hb | replace hb := of_decide_eq_false hb | replace hb := eq_of_beq hb | replace hb := ne_of_beq_false hb | skip) <;> (first | contradiction | (exfalso; omega) | skip)))))
        | ((with_reducible apply RunL.oS); (· rfl); (· conv => lhs; whnf); (· rfl))
        | ((with_reducible apply RunL.oN v0_ok); (· rfl); (· rfl); (· rfl))
        | ((with_reducible apply RunL.oSN); (· rfl); (· rfl))))
      | ((with_reducible refine Run.condSelf ?_); (first
        | ((with_reducible apply Run.condT); (· rfl))
        | ((with_reducible apply Run.condF); (· rfl))
        | ((with_reducible apply Run.condK); (· rfl); (all_goals (intro hb <;> (try simp only [List.length_map, cellsL_len] at hb) <;> (first | replace hb := not_t hb | replace hb := not_f hb | replace hb := bne_iff_ne.1 hb | replace hb := bne_eq_false_iff_eq.1 hb | replace hb := of_decide_eq_true hb | replace hb := of_decide_eq_false hb | replace hb := eq_of_beq hb | replace hb := ne_of_beq_false hb | skip) <;> (first | contradiction | (exfalso; omega) | skip)))))))
    have hleq : ∀ a b, Fn Tryz.prog 11 [.nilp, .int .i64 a, .int .i64 b] fun y => y = .bool false := leq_nil
    have hLo := seq_nil (fun _ _ => false) hleq l hl lo
    have hUp := seq_nil (fun _ _ => false) hleq l hl up
    have hR : Fn Tryz.prog 10 [.agg (refL 0 noL), auds l, .int .i64 lo] fun y => y = items (sel (fun (_ : Int) => false) l) := by
      have := seq_ref 0 noL l lo (by decide) hl.1
      rwa [show (fun (to : Int) => leqB 0 noL to lo) = fun (to : Int) => false from funext fun to => leqB_zero _ to lo] at this
    have hL := hleq lo up
    obtain ⟨see, hsee⟩ : ∃ see : Int → Int → Bool, ∀ a b, see a b = false := ⟨fun _ _ => false, fun _ _ => rfl⟩
    have hsee' : see = fun _ _ => false := funext fun a => funext fun b => hsee a b
    replace hLo : Fn Tryz.prog 8 [.nilp, auds l, .int .i64 lo] fun y => y = items (canonL (sel (fun to => see to lo) l)) := by rw [hsee']; exact hLo
    replace hUp : Fn Tryz.prog 8 [.nilp, auds l, .int .i64 up] fun y => y = items (canonL (sel (fun to => see to up) l)) := by rw [hsee']; exact hUp
    replace hR : Fn Tryz.prog 10 [.agg (refL 0 noL), auds l, .int .i64 lo] fun y => y = items (sel (fun to => see to lo) l) := by rw [hsee']; exact hR
    replace hL : Fn Tryz.prog 11 [.nilp, .int .i64 lo, .int .i64 up] fun y => y = .bool (see lo up) := by rw [hsee']; exact hL
    have htr : see lo up = true → ∀ to, see to lo = true → see to up = true := by rw [hsee']; intro h; cases h
    clear hsee hsee' hleq
    have hfS : ∀ lev, Val.fitL (sel (fun to => see to lev) l) := fun lev => sel_fit _ l hl.2
    have hlS : ∀ lev, (sel (fun to => see to lev) l).length ≤ 1048576 := fun lev => by
      have := sel_len (fun to => see to lev) l l.length
      rw [List.take_length, cellsL_len] at this
      have := hl.1
      omega
    have hS : Fn Tryz.prog 9 [items (canonL (sel (fun to => see to lo) l)), items (sel (fun to => see to lo) l)] fun y => y = .bool true := by
      have := same20_ok (canonL (sel (fun to => see to lo) l)) (sel (fun to => see to lo) l) (by rw [canonL_len]; exact hlS lo) (canonV_fit.canonL_fit _ (hfS lo))
      rwa [sameL_canon] at this
    repeat' (first
      | (with_reducible refine andThen_normal ?_)
      | (with_reducible refine andThen_ret ?_)
      | (with_reducible refine inBlk_normal ?_)
      | (with_reducible refine inBlk_ret ?_)
      | (with_reducible refine inBlk_hit ?_)
      | (with_reducible refine andThen_exit ?_)
      | ((with_reducible refine inBlk_miss ?_ ?_); (· rfl))
      | (with_reducible refine Run.seq ?_)
      | (with_reducible refine Run.skip ?_)
      | (with_reducible refine Run.ret ?_)
      | (with_reducible refine Run.exit ?_)
      | (with_reducible refine Run.block ?_)
      | (with_reducible refine Run.scope ?_)
      | (with_reducible refine Run.label ?_)
      | ((with_reducible refine Run.regionSelf ?_); ((with_reducible apply Run.lst); (· conv => lhs; whnf)))
      | (with_reducible refine RunL.nil ?_)
      | ((with_reducible refine RunL.self ?_); (first
        | ((with_reducible apply RunL.oFp v0_ok); (· rfl); (· rfl); (· rfl); (· rfl); (· rfl); (· conv => lhs; whnf); (· rfl); (· conv => lhs; whnf))
        | ((with_reducible apply RunL.oFr v0_ok); (· rfl); (· rfl); (· rfl); (· rfl); (· rfl); (· conv => lhs; whnf); (· rfl); (· conv => lhs; whnf))
        | ((with_reducible apply RunL.oBox v0_ok); (· rfl); (· rfl); (· conv => lhs; whnf); (· rfl); (· rfl); (· conv => lhs; whnf); (· conv => lhs; whnf); (· conv => lhs; simp only [List.length_cons, List.length_nil, Nat.zero_add, Nat.reduceAdd]); (· conv => lhs; simp only [List.cons_append, List.nil_append]))
        | ((with_reducible apply RunL.oAl v0_ok); (· rfl); (· first | exact z44 | exact z33); (· rfl); (· conv => lhs; whnf); (· rfl); (· conv => lhs; simp only [List.length_cons, List.length_nil, Nat.zero_add, Nat.reduceAdd]); (· conv => lhs; simp only [List.cons_append, List.nil_append]))
        | ((with_reducible apply RunL.oSt); (· rfl); (· rfl); (· conv => lhs; whnf); (· rfl); (· rfl); (· rfl); (· rfl); (· rfl); (· conv => lhs; whnf); (· conv => lhs; whnf); (· rfl); (· rfl); (· rfl); (· conv => lhs; simp only [setAll, List.set_cons_zero, List.set_cons_succ, Nat.reduceAdd, Nat.zero_add, setAll_le]); (· conv => lhs; simp only [List.set_cons_zero, List.set_cons_succ]); (· (repeat' (first | exact .flat rfl | exact PureL.nil | assumption | apply PureL.cons | apply Pure.agg' | apply Pure.tuple' | apply Pure.rptr' | exact pure_strs _ | exact pure_items _ | exact pure_val _ | exact pure_auds _ | exact pure_prs _ | exact pure_refL _ _)); done))
        | ((with_reducible apply RunL.oStM); (· rfl); (· rfl); (· conv => lhs; whnf); (· rfl); (· rfl); (· rfl); (· rfl); (· rfl); (· conv => lhs; whnf); (· conv => lhs; whnf); (· rfl); (· rfl); (· rfl); (· conv => lhs; simp only [setAll, List.set_cons_zero, List.set_cons_succ, Nat.reduceAdd, Nat.zero_add, setAll_le]); (· conv => lhs; simp only [List.set_cons_zero, List.set_cons_succ]); (· conv => lhs; whnf))
        | ((with_reducible apply RunL.oLa v0_ok); (· rfl); (· rfl); (· rfl); (· conv => lhs; whnf); (· rfl); (· rfl); (· rfl); (· conv => lhs; whnf); (· rfl); (· rfl); (· conv => lhs; simp only [List.drop_zero, List.drop_succ_cons, List.take_succ_cons, List.take_zero]))
        | ((with_reducible apply RunL.oI v0_ok); (· rfl); (· rfl); (· rfl); (· rfl); (· rfl); (· exact aindexAddr_arrN (by rfl) (by rfl) (by omega)))
        | ((with_reducible apply RunL.oBin v0_ok); (· rfl); (· rfl); (· conv => lhs; whnf); (· rfl); (· rfl); (· rfl); (· conv => lhs; whnf); (· conv => lhs; whnf); (· exact abin_lss_f (by omega)); try ((with_reducible apply RunL.spl); (all_goals (intro hb <;> (try simp only [List.length_map, cellsL_len] at hb) <;> (first | replace hb := not_t hb | replace hb := not_f hb | replace hb := bne_iff_ne.1 hb | replace hb := bne_eq_false_iff_eq.1 hb | replace hb := of_decide_eq_true hb | replace hb := of_decide_eq_false hb | replace hb := eq_of_beq hb | replace hb := ne_of_beq_false hb | skip) <;> (first | contradiction | (exfalso; omega) | skip)))))
        | ((with_reducible apply RunL.o v0_ok); (· rfl); (· conv => lhs; whnf); (· rfl); (· conv => lhs; whnf); (· rfl); (· conv => lhs; whnf); try ((with_reducible apply RunL.spl); (all_goals (intro hb <;> (try simp only [List.length_map, cellsL_len] at hb) <;> (first | replace hb := not_t hb | replace hb := not_f hb | replace hb := bne_iff_ne.1 hb | replace hb := bne_eq_false_iff_eq.1 hb | replace hb := of_decide_eq_true hb | replace hb := of_decide_eq_false hb | replace hb := eq_of_beq hb | replace hb := ne_of_beq_false hb | skip) <;> (first | contradiction | (exfalso; omega) | skip)))))
        | ((with_reducible apply RunL.oS); (· rfl); (· conv => lhs; whnf); (· rfl))
        | ((with_reducible apply RunL.oN v0_ok); (· rfl); (· rfl); (· rfl))
        | ((with_reducible apply RunL.oSN); (· rfl); (· rfl))
        | ((with_reducible apply RunL.oF1 v0_ok (hLo)); (· rfl); (· rfl); (· rfl))
        | ((with_reducible apply RunL.oF1 v0_ok (hUp)); (· rfl); (· rfl); (· rfl))
        | ((with_reducible apply RunL.oF1 v0_ok (hR)); (· rfl); (· rfl); (· rfl))
        | ((with_reducible apply RunL.oF1 v0_ok (hS)); (· rfl); (· rfl); (· rfl))))
      | ((with_reducible refine Run.condSelf ?_); (first
        | ((with_reducible apply Run.condT); (· rfl))
        | ((with_reducible apply Run.condF); (· rfl))
        | ((with_reducible apply Run.condK); (· rfl); (all_goals (intro hb <;> (try simp only [List.length_map, cellsL_len] at hb) <;> (first | replace hb := not_t hb | replace hb := not_f hb | replace hb := bne_iff_ne.1 hb | replace hb := bne_eq_false_iff_eq.1 hb | replace hb := of_decide_eq_true hb | replace hb := of_decide_eq_false hb | replace hb := eq_of_beq hb | replace hb := ne_of_beq_false hb | skip) <;> (first | contradiction | (exfalso; omega) | skip)))))))
    refine RunL.oF1 v0_ok hL (by rfl) (by rfl) (by rfl) ?_
    repeat' (first
      | (with_reducible refine andThen_normal ?_)
      | (with_reducible refine andThen_ret ?_)
      | (with_reducible refine inBlk_normal ?_)
      | (with_reducible refine inBlk_ret ?_)
      | (with_reducible refine inBlk_hit ?_)
      | (with_reducible refine andThen_exit ?_)
      | ((with_reducible refine inBlk_miss ?_ ?_); (· rfl))
      | (with_reducible refine Run.seq ?_)
      | (with_reducible refine Run.skip ?_)
      | (with_reducible refine Run.ret ?_)
      | (with_reducible refine Run.exit ?_)
      | (with_reducible refine Run.block ?_)
      | (with_reducible refine Run.scope ?_)
      | (with_reducible refine Run.label ?_)
      | ((with_reducible refine Run.regionSelf ?_); ((with_reducible apply Run.lst); (· conv => lhs; whnf)))
      | (with_reducible refine RunL.nil ?_)
      | ((with_reducible refine RunL.self ?_); (first
        | ((with_reducible apply RunL.oFp v0_ok); (· rfl); (· rfl); (· rfl); (· rfl); (· rfl); (· conv => lhs; whnf); (· rfl); (· conv => lhs; whnf))
        | ((with_reducible apply RunL.oFr v0_ok); (· rfl); (· rfl); (· rfl); (· rfl); (· rfl); (· conv => lhs; whnf); (· rfl); (· conv => lhs; whnf))
        | ((with_reducible apply RunL.oBox v0_ok); (· rfl); (· rfl); (· conv => lhs; whnf); (· rfl); (· rfl); (· conv => lhs; whnf); (· conv => lhs; whnf); (· conv => lhs; simp only [List.length_cons, List.length_nil, Nat.zero_add, Nat.reduceAdd]); (· conv => lhs; simp only [List.cons_append, List.nil_append]))
        | ((with_reducible apply RunL.oAl v0_ok); (· rfl); (· first | exact z44 | exact z33); (· rfl); (· conv => lhs; whnf); (· rfl); (· conv => lhs; simp only [List.length_cons, List.length_nil, Nat.zero_add, Nat.reduceAdd]); (· conv => lhs; simp only [List.cons_append, List.nil_append]))
        | ((with_reducible apply RunL.oSt); (· rfl); (· rfl); (· conv => lhs; whnf); (· rfl); (· rfl); (· rfl); (· rfl); (· rfl); (· conv => lhs; whnf); (· conv => lhs; whnf); (· rfl); (· rfl); (· rfl); (· conv => lhs; simp only [setAll, List.set_cons_zero, List.set_cons_succ, Nat.reduceAdd, Nat.zero_add, setAll_le]); (· conv => lhs; simp only [List.set_cons_zero, List.set_cons_succ]); (· (repeat' (first | exact .flat rfl | exact PureL.nil | assumption | apply PureL.cons | apply Pure.agg' | apply Pure.tuple' | apply Pure.rptr' | exact pure_strs _ | exact pure_items _ | exact pure_val _ | exact pure_auds _ | exact pure_prs _ | exact pure_refL _ _)); done))
        | ((with_reducible apply RunL.oStM); (· rfl); (· rfl); (· conv => lhs; whnf); (· rfl); (· rfl); (· rfl); (· rfl); (· rfl); (· conv => lhs; whnf); (· conv => lhs; whnf); (· rfl); (· rfl); (· rfl); (· conv => lhs; simp only [setAll, List.set_cons_zero, List.set_cons_succ, Nat.reduceAdd, Nat.zero_add, setAll_le]); (· conv => lhs; simp only [List.set_cons_zero, List.set_cons_succ]); (· conv => lhs; whnf))
        | ((with_reducible apply RunL.oLa v0_ok); (· rfl); (· rfl); (· rfl); (· conv => lhs; whnf); (· rfl); (· rfl); (· rfl); (· conv => lhs; whnf); (· rfl); (· rfl); (· conv => lhs; simp only [List.drop_zero, List.drop_succ_cons, List.take_succ_cons, List.take_zero]))
        | ((with_reducible apply RunL.oI v0_ok); (· rfl); (· rfl); (· rfl); (· rfl); (· rfl); (· exact aindexAddr_arrN (by rfl) (by rfl) (by omega)))
        | ((with_reducible apply RunL.oBin v0_ok); (· rfl); (· rfl); (· conv => lhs; whnf); (· rfl); (· rfl); (· rfl); (· conv => lhs; whnf); (· conv => lhs; whnf); (· exact abin_lss_f (by omega)); try ((with_reducible apply RunL.spl); (all_goals (intro hb <;> (try simp only [List.length_map, cellsL_len] at hb) <;> (first | replace hb := not_t hb | replace hb := not_f hb | replace hb := bne_iff_ne.1 hb | replace hb := bne_eq_false_iff_eq.1 hb | replace hb := of_decide_eq_true hb | replace hb := of_decide_eq_false hb | replace hb := eq_of_beq hb | replace hb := ne_of_beq_false hb | skip) <;> (first | contradiction | (exfalso; omega) | skip)))))
        | ((with_reducible apply RunL.o v0_ok); (· rfl); (· conv => lhs; whnf); (· rfl); (· conv => lhs; whnf); (· rfl); (· conv => lhs; whnf); try ((with_reducible apply RunL.spl); (all_goals (intro hb <;> (try simp only [List.length_map, cellsL_len] at hb) <;> (first | replace hb := not_t hb | replace hb := not_f hb | replace hb := bne_iff_ne.1 hb | replace hb := bne_eq_false_iff_eq.1 hb | replace hb := of_decide_eq_true hb | replace hb := of_decide_eq_false hb | replace hb := eq_of_beq hb | replace hb := ne_of_beq_false hb | skip) <;> (first | contradiction | (exfalso; omega) | skip)))))
        | ((with_reducible apply RunL.oS); (· rfl); (· conv => lhs; whnf); (· rfl))
        | ((with_reducible apply RunL.oN v0_ok); (· rfl); (· rfl); (· rfl))
        | ((with_reducible apply RunL.oSN); (· rfl); (· rfl))
        | ((with_reducible apply RunL.oF1 v0_ok (hR)); (· rfl); (· rfl); (· rfl))
        | ((with_reducible apply RunL.oF1 v0_ok (hS)); (· rfl); (· rfl); (· rfl))))
      | ((with_reducible refine Run.condSelf ?_); (first
        | ((with_reducible apply Run.condT); (· rfl))
        | ((with_reducible apply Run.condF); (· rfl))
        | ((with_reducible apply Run.condK); (· rfl); (all_goals (intro hb <;> (try simp only [List.length_map, cellsL_len] at hb) <;> (first | replace hb := not_t hb | replace hb := not_f hb | replace hb := bne_iff_ne.1 hb | replace hb := bne_eq_false_iff_eq.1 hb | replace hb := of_decide_eq_true hb | replace hb := of_decide_eq_false hb | replace hb := eq_of_beq hb | replace hb := ne_of_beq_false hb | skip) <;> (first | contradiction | (exfalso; omega) | skip)))))))
    · change EndF _ _ _ _ _
      refine EndF.mk (.inr rfl) rfl (by rfl) (by conv => lhs; whnf) (.pure (.flat rfl)) ?_
      rfl
    have hsub : List.Sublist (canonL (sel (fun to => see to lo) l)) (canonL (sel (fun to => see to up) l)) := canonL_sublist (sel_sublist (htr ‹see lo up = true›) l)
    have hg := greedy_all (canonL (sel (fun to => see to up) l)) 0 (Nat.zero_le _) (by rw [List.drop_zero]; exact hsub)
    have hfA := canonV_fit.canonL_fit _ (hfS lo)
    have hlA : (canonL (sel (fun to => see to lo) l)).length ≤ 1048576 := by rw [canonL_len]; exact hlS lo
    have hlB : (canonL (sel (fun to => see to up) l)).length ≤ 1048576 := by rw [canonL_len]; exact hlS up
    clear hLo hUp hR hS hL
    generalize canonL (sel (fun to => see to lo) l) = A at *
    generalize canonL (sel (fun to => see to up) l) = B at *
    refine Run.loopK 100 (fun p : Nat × Nat => B.length - p.1) (fun p => p.1 ≤ B.length ∧ p.2 ≤ A.length ∧ greedy A (B.drop p.1) p.2 = A.length) (fun p => [(15, items A), (17, .int .i64 (p.2 : Int)), (75, items B), (76, .int .i64 B.length), (77, .int .i64 (p.1 : Int))])
      (fun p => ⟨[.cells (refL 0 noL)], gl, 1000000⟩) (0, 0) ⟨Nat.zero_le _, Nat.zero_le _, by rw [List.drop_zero]; exact hg⟩ (.same rfl ⟨rfl, rfl, rfl, get_int rfl (by rw [cellsL_len]), rfl, trivial⟩ rfl rfl) (fun ⟨i, k⟩ ⟨h1, h2, h3⟩ => ?_)
    dsimp only at h1 h2 h3 ⊢
    repeat' (first
      | (with_reducible refine andThen_normal ?_)
      | (with_reducible refine andThen_ret ?_)
      | (with_reducible refine inBlk_normal ?_)
      | (with_reducible refine inBlk_ret ?_)
      | (with_reducible refine inBlk_hit ?_)
      | (with_reducible refine andThen_exit ?_)
      | ((with_reducible refine inBlk_miss ?_ ?_); (· rfl))
      | (with_reducible refine Run.seq ?_)
      | (with_reducible refine Run.skip ?_)
      | (with_reducible refine Run.ret ?_)
      | (with_reducible refine Run.exit ?_)
      | (with_reducible refine Run.block ?_)
      | (with_reducible refine Run.scope ?_)
      | (with_reducible refine Run.label ?_)
      | ((with_reducible refine Run.regionSelf ?_); ((with_reducible apply Run.lst); (· conv => lhs; whnf)))
      | (with_reducible refine RunL.nil ?_)
      | ((with_reducible refine RunL.self ?_); (first
        | ((with_reducible apply RunL.oFp v0_ok); (· rfl); (· rfl); (· rfl); (· rfl); (· rfl); (· conv => lhs; whnf); (· rfl); (· conv => lhs; whnf))
        | ((with_reducible apply RunL.oFr v0_ok); (· rfl); (· rfl); (· rfl); (· rfl); (· rfl); (· conv => lhs; whnf); (· rfl); (· conv => lhs; whnf))
        | ((with_reducible apply RunL.oBox v0_ok); (· rfl); (· rfl); (· conv => lhs; whnf); (· rfl); (· rfl); (· conv => lhs; whnf); (· conv => lhs; whnf); (· conv => lhs; simp only [List.length_cons, List.length_nil, Nat.zero_add, Nat.reduceAdd]); (· conv => lhs; simp only [List.cons_append, List.nil_append]))
        | ((with_reducible apply RunL.oAl v0_ok); (· rfl); (· first | exact z44 | exact z33); (· rfl); (· conv => lhs; whnf); (· rfl); (· conv => lhs; simp only [List.length_cons, List.length_nil, Nat.zero_add, Nat.reduceAdd]); (· conv => lhs; simp only [List.cons_append, List.nil_append]))
        | ((with_reducible apply RunL.oSt); (· rfl); (· rfl); (· conv => lhs; whnf); (· rfl); (· rfl); (· rfl); (· rfl); (· rfl); (· conv => lhs; whnf); (· conv => lhs; whnf); (· rfl); (· rfl); (· rfl); (· conv => lhs; simp only [setAll, List.set_cons_zero, List.set_cons_succ, Nat.reduceAdd, Nat.zero_add, setAll_le]); (· conv => lhs; simp only [List.set_cons_zero, List.set_cons_succ]); (· (repeat' (first | exact .flat rfl | exact PureL.nil | assumption | apply PureL.cons | apply Pure.agg' | apply Pure.tuple' | apply Pure.rptr' | exact pure_strs _ | exact pure_items _ | exact pure_val _ | exact pure_auds _ | exact pure_prs _ | exact pure_refL _ _)); done))
        | ((with_reducible apply RunL.oStM); (· rfl); (· rfl); (· conv => lhs; whnf); (· rfl); (· rfl); (· rfl); (· rfl); (· rfl); (· conv => lhs; whnf); (· conv => lhs; whnf); (· rfl); (· rfl); (· rfl); (· conv => lhs; simp only [setAll, List.set_cons_zero, List.set_cons_succ, Nat.reduceAdd, Nat.zero_add, setAll_le]); (· conv => lhs; simp only [List.set_cons_zero, List.set_cons_succ]); (· conv => lhs; whnf))
        | ((with_reducible apply RunL.oLa v0_ok); (· rfl); (· rfl); (· rfl); (· conv => lhs; whnf); (· rfl); (· rfl); (· rfl); (· conv => lhs; whnf); (· rfl); (· rfl); (· conv => lhs; simp only [List.drop_zero, List.drop_succ_cons, List.take_succ_cons, List.take_zero]))
        | ((with_reducible apply RunL.oI v0_ok); (· rfl); (· rfl); (· rfl); (· rfl); (· rfl); (· exact aindexAddr_arrN (by rfl) (by rfl) (by omega)))
        | ((with_reducible apply RunL.oBin v0_ok); (· rfl); (· rfl); (· conv => lhs; whnf); (· rfl); (· rfl); (· rfl); (· conv => lhs; whnf); (· conv => lhs; whnf); (· exact abin_lss_f (by omega)); try ((with_reducible apply RunL.spl); (all_goals (intro hb <;> (try simp only [List.length_map, cellsL_len] at hb) <;> (first | replace hb := not_t hb | replace hb := not_f hb | replace hb := bne_iff_ne.1 hb | replace hb := bne_eq_false_iff_eq.1 hb | replace hb := of_decide_eq_true hb | replace hb := of_decide_eq_false hb | replace hb := eq_of_beq hb | replace hb := ne_of_beq_false hb | skip) <;> (first | contradiction | (exfalso; omega) | skip)))))
        | ((with_reducible apply RunL.o v0_ok); (· rfl); (· conv => lhs; whnf); (· rfl); (· conv => lhs; whnf); (· rfl); (· conv => lhs; whnf); try ((with_reducible apply RunL.spl); (all_goals (intro hb <;> (try simp only [List.length_map, cellsL_len] at hb) <;> (first | replace hb := not_t hb | replace hb := not_f hb | replace hb := bne_iff_ne.1 hb | replace hb := bne_eq_false_iff_eq.1 hb | replace hb := of_decide_eq_true hb | replace hb := of_decide_eq_false hb | replace hb := eq_of_beq hb | replace hb := ne_of_beq_false hb | skip) <;> (first | contradiction | (exfalso; omega) | skip)))))
        | ((with_reducible apply RunL.oS); (· rfl); (· conv => lhs; whnf); (· rfl))
        | ((with_reducible apply RunL.oN v0_ok); (· rfl); (· rfl); (· rfl))
        | ((with_reducible apply RunL.oSN); (· rfl); (· rfl))))
      | ((with_reducible refine Run.condSelf ?_); (first
        | ((with_reducible apply Run.condT); (· rfl))
        | ((with_reducible apply Run.condF); (· rfl))
        | ((with_reducible apply Run.condK); (· rfl); (all_goals (intro hb <;> (try simp only [List.length_map, cellsL_len] at hb) <;> (first | replace hb := not_t hb | replace hb := not_f hb | replace hb := bne_iff_ne.1 hb | replace hb := bne_eq_false_iff_eq.1 hb | replace hb := of_decide_eq_true hb | replace hb := of_decide_eq_false hb | replace hb := eq_of_beq hb | replace hb := ne_of_beq_false hb | skip) <;> (first | contradiction | (exfalso; omega) | skip)))))))
    · obtain ⟨x, hx, hxm⟩ := get_of_lt (l := B) (i := i) (by omega)
      rw [drop_of_get hx, greedy] at h3
      by_cases hk : k < A.length
      · rw [dif_pos hk] at h3
        have hy : A[k]? = some A[k] := List.getElem?_eq_getElem hk
        have hym : A[k] ∈ A := List.getElem_mem hk
        generalize A[k] = y at *
        have hsm := same_ok y x (fitL_mem hfA y hym)
        have hk' : (k : Int) < ((Val.cellsL A).length : Int) := by rw [cellsL_len]; omega
        cases x with | mk k1 n1 f1 s1 nm1 it1 =>
        cases y with | mk k2 n2 f2 s2 nm2 it2 =>
        generalize sameV (.mk k2 n2 f2 s2 nm2 it2) (.mk k1 n1 f1 s1 nm1 it1) = sm at *
        refine RunL.oI v0_ok (by rfl) (by rfl) (by rfl) (by rfl) (by rfl) (aindexAddr_slc (by rfl) (by rfl) (items_get hx)) ?_
        repeat' (first
          | (with_reducible refine andThen_normal ?_)
          | (with_reducible refine andThen_ret ?_)
          | (with_reducible refine inBlk_normal ?_)
          | (with_reducible refine inBlk_ret ?_)
          | (with_reducible refine inBlk_hit ?_)
          | (with_reducible refine andThen_exit ?_)
          | ((with_reducible refine inBlk_miss ?_ ?_); (· rfl))
          | (with_reducible refine Run.seq ?_)
          | (with_reducible refine Run.skip ?_)
          | (with_reducible refine Run.ret ?_)
          | (with_reducible refine Run.exit ?_)
          | (with_reducible refine Run.block ?_)
          | (with_reducible refine Run.scope ?_)
          | (with_reducible refine Run.label ?_)
          | ((with_reducible refine Run.regionSelf ?_); ((with_reducible apply Run.lst); (· conv => lhs; whnf)))
          | (with_reducible refine RunL.nil ?_)
          | ((with_reducible refine RunL.self ?_); (first
            | ((with_reducible apply RunL.oFp v0_ok); (· rfl); (· rfl); (· rfl); (· rfl); (· rfl); (· conv => lhs; whnf); (· rfl); (· conv => lhs; whnf))
            | ((with_reducible apply RunL.oFr v0_ok); (· rfl); (· rfl); (· rfl); (· rfl); (· rfl); (· conv => lhs; whnf); (· rfl); (· conv => lhs; whnf))
            | ((with_reducible apply RunL.oBox v0_ok); (· rfl); (· rfl); (· conv => lhs; whnf); (· rfl); (· rfl); (· conv => lhs; whnf); (· conv => lhs; whnf); (· conv => lhs; simp only [List.length_cons, List.length_nil, Nat.zero_add, Nat.reduceAdd]); (· conv => lhs; simp only [List.cons_append, List.nil_append]))
            | ((with_reducible apply RunL.oAl v0_ok); (· rfl); (· first | exact z44 | exact z33); (· rfl); (· conv => lhs; whnf); (· rfl); (· conv => lhs; simp only [List.length_cons, List.length_nil, Nat.zero_add, Nat.reduceAdd]); (· conv => lhs; simp only [List.cons_append, List.nil_append]))
            | ((with_reducible apply RunL.oSt); (· rfl); (· rfl); (· conv => lhs; whnf); (· rfl); (· rfl); (· rfl); (· rfl); (· rfl); (· conv => lhs; whnf); (· conv => lhs; whnf); (· rfl); (· rfl); (· rfl); (· conv => lhs; simp only [setAll, List.set_cons_zero, List.set_cons_succ, Nat.reduceAdd, Nat.zero_add, setAll_le]); (· conv => lhs; simp only [List.set_cons_zero, List.set_cons_succ]); (· (repeat' (first | exact .flat rfl | exact PureL.nil | assumption | apply PureL.cons | apply Pure.agg' | apply Pure.tuple' | apply Pure.rptr' | exact pure_strs _ | exact pure_items _ | exact pure_val _ | exact pure_auds _ | exact pure_prs _ | exact pure_refL _ _)); done))
            | ((with_reducible apply RunL.oStM); (· rfl); (· rfl); (· conv => lhs; whnf); (· rfl); (· rfl); (· rfl); (· rfl); (· rfl); (· conv => lhs; whnf); (· conv => lhs; whnf); (· rfl); (· rfl); (· rfl); (· conv => lhs; simp only [setAll, List.set_cons_zero, List.set_cons_succ, Nat.reduceAdd, Nat.zero_add, setAll_le]); (· conv => lhs; simp only [List.set_cons_zero, List.set_cons_succ]); (· conv => lhs; whnf))
            | ((with_reducible apply RunL.oLa v0_ok); (· rfl); (· rfl); (· rfl); (· conv => lhs; whnf); (· rfl); (· rfl); (· rfl); (· conv => lhs; whnf); (· rfl); (· rfl); (· conv => lhs; simp only [List.drop_zero, List.drop_succ_cons, List.take_succ_cons, List.take_zero]))
            | ((with_reducible apply RunL.oI v0_ok); (· rfl); (· rfl); (· rfl); (· rfl); (· rfl); (· exact aindexAddr_arrN (by rfl) (by rfl) (by omega)))
            | ((with_reducible apply RunL.oBin v0_ok); (· rfl); (· rfl); (· conv => lhs; whnf); (· rfl); (· rfl); (· rfl); (· conv => lhs; whnf); (· conv => lhs; whnf); (· exact abin_lss_f (by omega)); try ((with_reducible apply RunL.spl); (all_goals (intro hb <;> (try simp only [List.length_map, cellsL_len] at hb) <;> (first | replace hb := not_t hb | replace hb := not_f hb | replace hb := bne_iff_ne.1 hb | replace hb := bne_eq_false_iff_eq.1 hb | replace hb := of_decide_eq_true hb | replace hb := of_decide_eq_false hb | replace hb := eq_of_beq hb | replace hb := ne_of_beq_false hb | skip) <;> (first | contradiction | (exfalso; omega) | skip)))))
            | ((with_reducible apply RunL.o v0_ok); (· rfl); (· conv => lhs; whnf); (· rfl); (· conv => lhs; whnf); (· rfl); (· conv => lhs; whnf); try ((with_reducible apply RunL.spl); (all_goals (intro hb <;> (try simp only [List.length_map, cellsL_len] at hb) <;> (first | replace hb := not_t hb | replace hb := not_f hb | replace hb := bne_iff_ne.1 hb | replace hb := bne_eq_false_iff_eq.1 hb | replace hb := of_decide_eq_true hb | replace hb := of_decide_eq_false hb | replace hb := eq_of_beq hb | replace hb := ne_of_beq_false hb | skip) <;> (first | contradiction | (exfalso; omega) | skip)))))
            | ((with_reducible apply RunL.oS); (· rfl); (· conv => lhs; whnf); (· rfl))
            | ((with_reducible apply RunL.oN v0_ok); (· rfl); (· rfl); (· rfl))
            | ((with_reducible apply RunL.oSN); (· rfl); (· rfl))))
          | ((with_reducible refine Run.condSelf ?_); (first
            | ((with_reducible apply Run.condT); (· rfl))
            | ((with_reducible apply Run.condF); (· rfl))
            | ((with_reducible apply Run.condK); (· rfl); (all_goals (intro hb <;> (try simp only [List.length_map, cellsL_len] at hb) <;> (first | replace hb := not_t hb | replace hb := not_f hb | replace hb := bne_iff_ne.1 hb | replace hb := bne_eq_false_iff_eq.1 hb | replace hb := of_decide_eq_true hb | replace hb := of_decide_eq_false hb | replace hb := eq_of_beq hb | replace hb := ne_of_beq_false hb | skip) <;> (first | contradiction | (exfalso; omega) | skip)))))))
        apply Run.draw v0_ok (orc_ok ((hsm).ok _) noCalls_ok)
        case hl =>
          repeat' (first | exact lex_nil | (apply lex_o; (· rfl); (· rfl); (· apply stepD_call; (· rfl); (· exact orc_self _ _ _ _ _)); (· rfl)) | (apply lex_oI; (· rfl); (· rfl); (· rfl); (· rfl); (· rfl); (· exact aindexAddr_slc (by rfl) (by rfl) (items_get (by assumption)))) | (apply lex_oI; (· rfl); (· rfl); (· rfl); (· rfl); (· rfl); (· exact aindexAddr_arrN (by rfl) (by rfl) (by omega))) | (apply lex_oBin; (· rfl); (· rfl); (· rfl); (· rfl); (· rfl); (· conv => lhs; whnf); (· conv => lhs; whnf); (· exact abin_lss_t (by omega))) | (apply lex_o; (· rfl); (· rfl); (· apply stepD_ok; rfl); (· conv => lhs; whnf)) | (apply lex_oS; (· rfl); (· rfl)) | (apply lex_oN; (· rfl); (· rfl); (· apply stepD_ok; rfl); (· rfl)))
        case hc => kernel_rfl
        case hf => rfl
        case hq =>
          repeat' (first
            | (with_reducible refine andThen_normal ?_)
            | (with_reducible refine andThen_ret ?_)
            | (with_reducible refine inBlk_normal ?_)
            | (with_reducible refine inBlk_ret ?_)
            | (with_reducible refine inBlk_hit ?_)
            | (with_reducible refine andThen_exit ?_)
            | ((with_reducible refine inBlk_miss ?_ ?_); (· rfl))
            | (with_reducible refine Run.seq ?_)
            | (with_reducible refine Run.skip ?_)
            | (with_reducible refine Run.ret ?_)
            | (with_reducible refine Run.exit ?_)
            | (with_reducible refine Run.block ?_)
            | (with_reducible refine Run.scope ?_)
            | (with_reducible refine Run.label ?_)
            | ((with_reducible refine Run.regionSelf ?_); ((with_reducible apply Run.lst); (· conv => lhs; whnf)))
            | (with_reducible refine RunL.nil ?_)
            | ((with_reducible refine RunL.self ?_); (first
              | ((with_reducible apply RunL.oFp v0_ok); (· rfl); (· rfl); (· rfl); (· rfl); (· rfl); (· conv => lhs; whnf); (· rfl); (· conv => lhs; whnf))
              | ((with_reducible apply RunL.oFr v0_ok); (· rfl); (· rfl); (· rfl); (· rfl); (· rfl); (· conv => lhs; whnf); (· rfl); (· conv => lhs; whnf))
              | ((with_reducible apply RunL.oBox v0_ok); (· rfl); (· rfl); (· conv => lhs; whnf); (· rfl); (· rfl); (· conv => lhs; whnf); (· conv => lhs; whnf); (· conv => lhs; simp only [List.length_cons, List.length_nil, Nat.zero_add, Nat.reduceAdd]); (· conv => lhs; simp only [List.cons_append, List.nil_append]))
              | ((with_reducible apply RunL.oAl v0_ok); (· rfl); (· first | exact z44 | exact z33); (· rfl); (· conv => lhs; whnf); (· rfl); (· conv => lhs; simp only [List.length_cons, List.length_nil, Nat.zero_add, Nat.reduceAdd]); (· conv => lhs; simp only [List.cons_append, List.nil_append]))
              | ((with_reducible apply RunL.oSt); (· rfl); (· rfl); (· conv => lhs; whnf); (· rfl); (· rfl); (· rfl); (· rfl); (· rfl); (· conv => lhs; whnf); (· conv => lhs; whnf); (· rfl); (· rfl); (· rfl); (· conv => lhs; simp only [setAll, List.set_cons_zero, List.set_cons_succ, Nat.reduceAdd, Nat.zero_add, setAll_le]); (· conv => lhs; simp only [List.set_cons_zero, List.set_cons_succ]); (· (repeat' (first | exact .flat rfl | exact PureL.nil | assumption | apply PureL.cons | apply Pure.agg' | apply Pure.tuple' | apply Pure.rptr' | exact pure_strs _ | exact pure_items _ | exact pure_val _ | exact pure_auds _ | exact pure_prs _ | exact pure_refL _ _)); done))
              | ((with_reducible apply RunL.oStM); (· rfl); (· rfl); (· conv => lhs; whnf); (· rfl); (· rfl); (· rfl); (· rfl); (· rfl); (· conv => lhs; whnf); (· conv => lhs; whnf); (· rfl); (· rfl); (· rfl); (· conv => lhs; simp only [setAll, List.set_cons_zero, List.set_cons_succ, Nat.reduceAdd, Nat.zero_add, setAll_le]); (· conv => lhs; simp only [List.set_cons_zero, List.set_cons_succ]); (· conv => lhs; whnf))
              | ((with_reducible apply RunL.oLa v0_ok); (· rfl); (· rfl); (· rfl); (· conv => lhs; whnf); (· rfl); (· rfl); (· rfl); (· conv => lhs; whnf); (· rfl); (· rfl); (· conv => lhs; simp only [List.drop_zero, List.drop_succ_cons, List.take_succ_cons, List.take_zero]))
              | ((with_reducible apply RunL.oI v0_ok); (· rfl); (· rfl); (· rfl); (· rfl); (· rfl); (· exact aindexAddr_arrN (by rfl) (by rfl) (by omega)))
              | ((with_reducible apply RunL.oBin v0_ok); (· rfl); (· rfl); (· conv => lhs; whnf); (· rfl); (· rfl); (· rfl); (· conv => lhs; whnf); (· conv => lhs; whnf); (· exact abin_lss_t (by omega)); try ((with_reducible apply RunL.spl); (all_goals (intro hb <;> (try simp only [List.length_map, cellsL_len] at hb) <;> (first | replace hb := not_t hb | replace hb := not_f hb | replace hb := bne_iff_ne.1 hb | replace hb := bne_eq_false_iff_eq.1 hb | replace hb := of_decide_eq_true hb | replace hb := of_decide_eq_false hb | replace hb := eq_of_beq hb | replace hb := ne_of_beq_false hb | skip) <;> (first | contradiction | (exfalso; omega) | skip)))))
              | ((with_reducible apply RunL.o v0_ok); (· rfl); (· conv => lhs; whnf); (· rfl); (· conv => lhs; whnf); (· rfl); (· conv => lhs; whnf); try ((with_reducible apply RunL.spl); (all_goals (intro hb <;> (try simp only [List.length_map, cellsL_len] at hb) <;> (first | replace hb := not_t hb | replace hb := not_f hb | replace hb := bne_iff_ne.1 hb | replace hb := bne_eq_false_iff_eq.1 hb | replace hb := of_decide_eq_true hb | replace hb := of_decide_eq_false hb | replace hb := eq_of_beq hb | replace hb := ne_of_beq_false hb | skip) <;> (first | contradiction | (exfalso; omega) | skip)))))
              | ((with_reducible apply RunL.oS); (· rfl); (· conv => lhs; whnf); (· rfl))
              | ((with_reducible apply RunL.oN v0_ok); (· rfl); (· rfl); (· rfl))
              | ((with_reducible apply RunL.oSN); (· rfl); (· rfl))))
            | ((with_reducible refine Run.condSelf ?_); (first
              | ((with_reducible apply Run.condT); (· rfl))
              | ((with_reducible apply Run.condF); (· rfl))
              | ((with_reducible apply Run.condK); (· rfl); (all_goals (intro hb <;> (try simp only [List.length_map, cellsL_len] at hb) <;> (first | replace hb := not_t hb | replace hb := not_f hb | replace hb := bne_iff_ne.1 hb | replace hb := bne_eq_false_iff_eq.1 hb | replace hb := of_decide_eq_true hb | replace hb := of_decide_eq_false hb | replace hb := eq_of_beq hb | replace hb := ne_of_beq_false hb | skip) <;> (first | contradiction | (exfalso; omega) | skip)))))))
          · obtain rfl := ‹sm = true›
            exact ⟨(i + 1, k + 1), by dsimp only; omega, ⟨by dsimp only; omega, by dsimp only; omega, h3⟩, .cutO 1 rfl ⟨rfl, get_int rfl (by rw [IntWalk.i64_in _ (by omega)]; omega), rfl, rfl, get_int rfl (by rw [IntWalk.i64_in _ (by omega)]; omega), trivial⟩ rfl (Nat.zero_le _) (Nat.le_of_ble_eq_true rfl) rfl rfl (Nat.le_refl _)
              ⟨(pure_items _).sc, .flat rfl, (pure_items _).sc, .flat rfl, .flat rfl, trivial⟩⟩
          · obtain rfl := ‹sm = false›
            exact ⟨(i + 1, k), by dsimp only; omega, ⟨by dsimp only; omega, by dsimp only; omega, h3⟩, .cutO 1 rfl ⟨rfl, rfl, rfl, rfl, get_int rfl (by rw [IntWalk.i64_in _ (by omega)]; omega), trivial⟩ rfl (Nat.zero_le _) (Nat.le_of_ble_eq_true rfl) rfl rfl (Nat.le_refl _)
              ⟨(pure_items _).sc, .flat rfl, (pure_items _).sc, .flat rfl, .flat rfl, trivial⟩⟩
      · rw [dif_neg hk] at h3
        have hk' : ¬ (k : Int) < ((Val.cellsL A).length : Int) := by rw [cellsL_len]; omega
        cases x with | mk k1 n1 f1 s1 nm1 it1 =>
        refine RunL.oI v0_ok (by rfl) (by rfl) (by rfl) (by rfl) (by rfl) (aindexAddr_slc (by rfl) (by rfl) (items_get hx)) ?_
        repeat' (first
          | (with_reducible refine andThen_normal ?_)
          | (with_reducible refine andThen_ret ?_)
          | (with_reducible refine inBlk_normal ?_)
          | (with_reducible refine inBlk_ret ?_)
          | (with_reducible refine inBlk_hit ?_)
          | (with_reducible refine andThen_exit ?_)
          | ((with_reducible refine inBlk_miss ?_ ?_); (· rfl))
          | (with_reducible refine Run.seq ?_)
          | (with_reducible refine Run.skip ?_)
          | (with_reducible refine Run.ret ?_)
          | (with_reducible refine Run.exit ?_)
          | (with_reducible refine Run.block ?_)
          | (with_reducible refine Run.scope ?_)
          | (with_reducible refine Run.label ?_)
          | ((with_reducible refine Run.regionSelf ?_); ((with_reducible apply Run.lst); (· conv => lhs; whnf)))
          | (with_reducible refine RunL.nil ?_)
          | ((with_reducible refine RunL.self ?_); (first
            | ((with_reducible apply RunL.oFp v0_ok); (· rfl); (· rfl); (· rfl); (· rfl); (· rfl); (· conv => lhs; whnf); (· rfl); (· conv => lhs; whnf))
            | ((with_reducible apply RunL.oFr v0_ok); (· rfl); (· rfl); (· rfl); (· rfl); (· rfl); (· conv => lhs; whnf); (· rfl); (· conv => lhs; whnf))
            | ((with_reducible apply RunL.oBox v0_ok); (· rfl); (· rfl); (· conv => lhs; whnf); (· rfl); (· rfl); (· conv => lhs; whnf); (· conv => lhs; whnf); (· conv => lhs; simp only [List.length_cons, List.length_nil, Nat.zero_add, Nat.reduceAdd]); (· conv => lhs; simp only [List.cons_append, List.nil_append]))
            | ((with_reducible apply RunL.oAl v0_ok); (· rfl); (· first | exact z44 | exact z33); (· rfl); (· conv => lhs; whnf); (· rfl); (· conv => lhs; simp only [List.length_cons, List.length_nil, Nat.zero_add, Nat.reduceAdd]); (· conv => lhs; simp only [List.cons_append, List.nil_append]))
            | ((with_reducible apply RunL.oSt); (· rfl); (· rfl); (· conv => lhs; whnf); (· rfl); (· rfl); (· rfl); (· rfl); (· rfl); (· conv => lhs; whnf); (· conv => lhs; whnf); (· rfl); (· rfl); (· rfl); (· conv => lhs; simp only [setAll, List.set_cons_zero, List.set_cons_succ, Nat.reduceAdd, Nat.zero_add, setAll_le]); (· conv => lhs; simp only [List.set_cons_zero, List.set_cons_succ]); (· (repeat' (first | exact .flat rfl | exact PureL.nil | assumption | apply PureL.cons | apply Pure.agg' | apply Pure.tuple' | apply Pure.rptr' | exact pure_strs _ | exact pure_items _ | exact pure_val _ | exact pure_auds _ | exact pure_prs _ | exact pure_refL _ _)); done))
            | ((with_reducible apply RunL.oStM); (· rfl); (· rfl); (· conv => lhs; whnf); (· rfl); (· rfl); (· rfl); (· rfl); (· rfl); (· conv => lhs; whnf); (· conv => lhs; whnf); (· rfl); (· rfl); (· rfl); (· conv => lhs; simp only [setAll, List.set_cons_zero, List.set_cons_succ, Nat.reduceAdd, Nat.zero_add, setAll_le]); (· conv => lhs; simp only [List.set_cons_zero, List.set_cons_succ]); (· conv => lhs; whnf))
            | ((with_reducible apply RunL.oLa v0_ok); (· rfl); (· rfl); (· rfl); (· conv => lhs; whnf); (· rfl); (· rfl); (· rfl); (· conv => lhs; whnf); (· rfl); (· rfl); (· conv => lhs; simp only [List.drop_zero, List.drop_succ_cons, List.take_succ_cons, List.take_zero]))
            | ((with_reducible apply RunL.oI v0_ok); (· rfl); (· rfl); (· rfl); (· rfl); (· rfl); (· exact aindexAddr_arrN (by rfl) (by rfl) (by omega)))
            | ((with_reducible apply RunL.oBin v0_ok); (· rfl); (· rfl); (· conv => lhs; whnf); (· rfl); (· rfl); (· rfl); (· conv => lhs; whnf); (· conv => lhs; whnf); (· exact abin_lss_t (by omega)); try ((with_reducible apply RunL.spl); (all_goals (intro hb <;> (try simp only [List.length_map, cellsL_len] at hb) <;> (first | replace hb := not_t hb | replace hb := not_f hb | replace hb := bne_iff_ne.1 hb | replace hb := bne_eq_false_iff_eq.1 hb | replace hb := of_decide_eq_true hb | replace hb := of_decide_eq_false hb | replace hb := eq_of_beq hb | replace hb := ne_of_beq_false hb | skip) <;> (first | contradiction | (exfalso; omega) | skip)))))
            | ((with_reducible apply RunL.o v0_ok); (· rfl); (· conv => lhs; whnf); (· rfl); (· conv => lhs; whnf); (· rfl); (· conv => lhs; whnf); try ((with_reducible apply RunL.spl); (all_goals (intro hb <;> (try simp only [List.length_map, cellsL_len] at hb) <;> (first | replace hb := not_t hb | replace hb := not_f hb | replace hb := bne_iff_ne.1 hb | replace hb := bne_eq_false_iff_eq.1 hb | replace hb := of_decide_eq_true hb | replace hb := of_decide_eq_false hb | replace hb := eq_of_beq hb | replace hb := ne_of_beq_false hb | skip) <;> (first | contradiction | (exfalso; omega) | skip)))))
            | ((with_reducible apply RunL.oS); (· rfl); (· conv => lhs; whnf); (· rfl))
            | ((with_reducible apply RunL.oN v0_ok); (· rfl); (· rfl); (· rfl))
            | ((with_reducible apply RunL.oSN); (· rfl); (· rfl))))
          | ((with_reducible refine Run.condSelf ?_); (first
            | ((with_reducible apply Run.condT); (· rfl))
            | ((with_reducible apply Run.condF); (· rfl))
            | ((with_reducible apply Run.condK); (· rfl); (all_goals (intro hb <;> (try simp only [List.length_map, cellsL_len] at hb) <;> (first | replace hb := not_t hb | replace hb := not_f hb | replace hb := bne_iff_ne.1 hb | replace hb := bne_eq_false_iff_eq.1 hb | replace hb := of_decide_eq_true hb | replace hb := of_decide_eq_false hb | replace hb := eq_of_beq hb | replace hb := ne_of_beq_false hb | skip) <;> (first | contradiction | (exfalso; omega) | skip)))))))
        apply Run.draw v0_ok noCalls_ok
        case hl =>
          repeat' (first | exact lex_nil | (apply lex_o; (· rfl); (· rfl); (· apply stepD_call; (· rfl); (· exact orc_self _ _ _ _ _)); (· rfl)) | (apply lex_oI; (· rfl); (· rfl); (· rfl); (· rfl); (· rfl); (· exact aindexAddr_slc (by rfl) (by rfl) (items_get (by assumption)))) | (apply lex_oI; (· rfl); (· rfl); (· rfl); (· rfl); (· rfl); (· exact aindexAddr_arrN (by rfl) (by rfl) (by omega))) | (apply lex_oBin; (· rfl); (· rfl); (· rfl); (· rfl); (· rfl); (· conv => lhs; whnf); (· conv => lhs; whnf); (· exact abin_lss_f (by omega))) | (apply lex_o; (· rfl); (· rfl); (· apply stepD_ok; rfl); (· conv => lhs; whnf)) | (apply lex_oS; (· rfl); (· rfl)) | (apply lex_oN; (· rfl); (· rfl); (· apply stepD_ok; rfl); (· rfl)))
        case hc => kernel_rfl
        case hf => rfl
        case hq =>
          repeat' (first
            | (with_reducible refine andThen_normal ?_)
            | (with_reducible refine andThen_ret ?_)
            | (with_reducible refine inBlk_normal ?_)
            | (with_reducible refine inBlk_ret ?_)
            | (with_reducible refine inBlk_hit ?_)
            | (with_reducible refine andThen_exit ?_)
            | ((with_reducible refine inBlk_miss ?_ ?_); (· rfl))
            | (with_reducible refine Run.seq ?_)
            | (with_reducible refine Run.skip ?_)
            | (with_reducible refine Run.ret ?_)
            | (with_reducible refine Run.exit ?_)
            | (with_reducible refine Run.block ?_)
            | (with_reducible refine Run.scope ?_)
            | (with_reducible refine Run.label ?_)
            | ((with_reducible refine Run.regionSelf ?_); ((with_reducible apply Run.lst); (· conv => lhs; whnf)))
            | (with_reducible refine RunL.nil ?_)
            | ((with_reducible refine RunL.self ?_); (first
              | ((with_reducible apply RunL.oFp v0_ok); (· rfl); (· rfl); (· rfl); (· rfl); (· rfl); (· conv => lhs; whnf); (· rfl); (· conv => lhs; whnf))
              | ((with_reducible apply RunL.oFr v0_ok); (· rfl); (· rfl); (· rfl); (· rfl); (· rfl); (· conv => lhs; whnf); (· rfl); (· conv => lhs; whnf))
              | ((with_reducible apply RunL.oBox v0_ok); (· rfl); (· rfl); (· conv => lhs; whnf); (· rfl); (· rfl); (· conv => lhs; whnf); (· conv => lhs; whnf); (· conv => lhs; simp only [List.length_cons, List.length_nil, Nat.zero_add, Nat.reduceAdd]); (· conv => lhs; simp only [List.cons_append, List.nil_append]))
              | ((with_reducible apply RunL.oAl v0_ok); (· rfl); (· first | exact z44 | exact z33); (· rfl); (· conv => lhs; whnf); (· rfl); (· conv => lhs; simp only [List.length_cons, List.length_nil, Nat.zero_add, Nat.reduceAdd]); (· conv => lhs; simp only [List.cons_append, List.nil_append]))
              | ((with_reducible apply RunL.oSt); (· rfl); (· rfl); (· conv => lhs; whnf); (· rfl); (· rfl); (· rfl); (· rfl); (· rfl); (· conv => lhs; whnf); (· conv => lhs; whnf); (· rfl); (· rfl); (· rfl); (· conv => lhs; simp only [setAll, List.set_cons_zero, List.set_cons_succ, Nat.reduceAdd, Nat.zero_add, setAll_le]); (· conv => lhs; simp only [List.set_cons_zero, List.set_cons_succ]); (· (repeat' (first | exact .flat rfl | exact PureL.nil | assumption | apply PureL.cons | apply Pure.agg' | apply Pure.tuple' | apply Pure.rptr' | exact pure_strs _ | exact pure_items _ | exact pure_val _ | exact pure_auds _ | exact pure_prs _ | exact pure_refL _ _)); done))
              | ((with_reducible apply RunL.oStM); (· rfl); (· rfl); (· conv => lhs; whnf); (· rfl); (· rfl); (· rfl); (· rfl); (· rfl); (· conv => lhs; whnf); (· conv => lhs; whnf); (· rfl); (· rfl); (· rfl); (· conv => lhs; simp only [setAll, List.set_cons_zero, List.set_cons_succ, Nat.reduceAdd, Nat.zero_add, setAll_le]); (· conv => lhs; simp only [List.set_cons_zero, List.set_cons_succ]); (· conv => lhs; whnf))
              | ((with_reducible apply RunL.oLa v0_ok); (· rfl); (· rfl); (· rfl); (· conv => lhs; whnf); (· rfl); (· rfl); (· rfl); (· conv => lhs; whnf); (· rfl); (· rfl); (· conv => lhs; simp only [List.drop_zero, List.drop_succ_cons, List.take_succ_cons, List.take_zero]))
              | ((with_reducible apply RunL.oI v0_ok); (· rfl); (· rfl); (· rfl); (· rfl); (· rfl); (· exact aindexAddr_arrN (by rfl) (by rfl) (by omega)))
              | ((with_reducible apply RunL.oBin v0_ok); (· rfl); (· rfl); (· conv => lhs; whnf); (· rfl); (· rfl); (· rfl); (· conv => lhs; whnf); (· conv => lhs; whnf); (· exact abin_lss_f (by omega)); try ((with_reducible apply RunL.spl); (all_goals (intro hb <;> (try simp only [List.length_map, cellsL_len] at hb) <;> (first | replace hb := not_t hb | replace hb := not_f hb | replace hb := bne_iff_ne.1 hb | replace hb := bne_eq_false_iff_eq.1 hb | replace hb := of_decide_eq_true hb | replace hb := of_decide_eq_false hb | replace hb := eq_of_beq hb | replace hb := ne_of_beq_false hb | skip) <;> (first | contradiction | (exfalso; omega) | skip)))))
              | ((with_reducible apply RunL.o v0_ok); (· rfl); (· conv => lhs; whnf); (· rfl); (· conv => lhs; whnf); (· rfl); (· conv => lhs; whnf); try ((with_reducible apply RunL.spl); (all_goals (intro hb <;> (try simp only [List.length_map, cellsL_len] at hb) <;> (first | replace hb := not_t hb | replace hb := not_f hb | replace hb := bne_iff_ne.1 hb | replace hb := bne_eq_false_iff_eq.1 hb | replace hb := of_decide_eq_true hb | replace hb := of_decide_eq_false hb | replace hb := eq_of_beq hb | replace hb := ne_of_beq_false hb | skip) <;> (first | contradiction | (exfalso; omega) | skip)))))
              | ((with_reducible apply RunL.oS); (· rfl); (· conv => lhs; whnf); (· rfl))
              | ((with_reducible apply RunL.oN v0_ok); (· rfl); (· rfl); (· rfl))
              | ((with_reducible apply RunL.oSN); (· rfl); (· rfl))))
            | ((with_reducible refine Run.condSelf ?_); (first
              | ((with_reducible apply Run.condT); (· rfl))
              | ((with_reducible apply Run.condF); (· rfl))
              | ((with_reducible apply Run.condK); (· rfl); (all_goals (intro hb <;> (try simp only [List.length_map, cellsL_len] at hb) <;> (first | replace hb := not_t hb | replace hb := not_f hb | replace hb := bne_iff_ne.1 hb | replace hb := bne_eq_false_iff_eq.1 hb | replace hb := of_decide_eq_true hb | replace hb := of_decide_eq_false hb | replace hb := eq_of_beq hb | replace hb := ne_of_beq_false hb | skip) <;> (first | contradiction | (exfalso; omega) | skip)))))))
          exact ⟨(i + 1, k), by dsimp only; omega, ⟨by dsimp only; omega, by dsimp only; omega, h3⟩, .cutO 1 rfl ⟨rfl, rfl, rfl, rfl, get_int rfl (by rw [IntWalk.i64_in _ (by omega)]; omega), trivial⟩ rfl (Nat.zero_le _) (Nat.le_of_ble_eq_true rfl) rfl rfl (Nat.le_refl _)
            ⟨(pure_items _).sc, .flat rfl, (pure_items _).sc, .flat rfl, .flat rfl, trivial⟩⟩
    · obtain rfl : i = B.length := by omega
      rw [List.drop_length, greedy] at h3
      repeat' (first
        | (with_reducible refine andThen_normal ?_)
        | (with_reducible refine andThen_ret ?_)
        | (with_reducible refine inBlk_normal ?_)
        | (with_reducible refine inBlk_ret ?_)
        | (with_reducible refine inBlk_hit ?_)
        | (with_reducible refine andThen_exit ?_)
        | ((with_reducible refine inBlk_miss ?_ ?_); (· rfl))
        | (with_reducible refine Run.seq ?_)
        | (with_reducible refine Run.skip ?_)
        | (with_reducible refine Run.ret ?_)
        | (with_reducible refine Run.exit ?_)
        | (with_reducible refine Run.block ?_)
        | (with_reducible refine Run.scope ?_)
        | (with_reducible refine Run.label ?_)
        | ((with_reducible refine Run.regionSelf ?_); ((with_reducible apply Run.lst); (· conv => lhs; whnf)))
        | (with_reducible refine RunL.nil ?_)
        | ((with_reducible refine RunL.self ?_); (first
          | ((with_reducible apply RunL.oFp v0_ok); (· rfl); (· rfl); (· rfl); (· rfl); (· rfl); (· conv => lhs; whnf); (· rfl); (· conv => lhs; whnf))
          | ((with_reducible apply RunL.oFr v0_ok); (· rfl); (· rfl); (· rfl); (· rfl); (· rfl); (· conv => lhs; whnf); (· rfl); (· conv => lhs; whnf))
          | ((with_reducible apply RunL.oBox v0_ok); (· rfl); (· rfl); (· conv => lhs; whnf); (· rfl); (· rfl); (· conv => lhs; whnf); (· conv => lhs; whnf); (· conv => lhs; simp only [List.length_cons, List.length_nil, Nat.zero_add, Nat.reduceAdd]); (· conv => lhs; simp only [List.cons_append, List.nil_append]))
          | ((with_reducible apply RunL.oAl v0_ok); (· rfl); (· first | exact z44 | exact z33); (· rfl); (· conv => lhs; whnf); (· rfl); (· conv => lhs; simp only [List.length_cons, List.length_nil, Nat.zero_add, Nat.reduceAdd]); (· conv => lhs; simp only [List.cons_append, List.nil_append]))
          | ((with_reducible apply RunL.oSt); (· rfl); (· rfl); (· conv => lhs; whnf); (· rfl); (· rfl); (· rfl); (· rfl); (· rfl); (· conv => lhs; whnf); (· conv => lhs; whnf); (· rfl); (· rfl); (· rfl); (· conv => lhs; simp only [setAll, List.set_cons_zero, List.set_cons_succ, Nat.reduceAdd, Nat.zero_add, setAll_le]); (· conv => lhs; simp only [List.set_cons_zero, List.set_cons_succ]); (· (repeat' (first | exact .flat rfl | exact PureL.nil | assumption | apply PureL.cons | apply Pure.agg' | apply Pure.tuple' | apply Pure.rptr' | exact pure_strs _ | exact pure_items _ | exact pure_val _ | exact pure_auds _ | exact pure_prs _ | exact pure_refL _ _)); done))
          | ((with_reducible apply RunL.oStM); (· rfl); (· rfl); (· conv => lhs; whnf); (· rfl); (· rfl); (· rfl); (· rfl); (· rfl); (· conv => lhs; whnf); (· conv => lhs; whnf); (· rfl); (· rfl); (· rfl); (· conv => lhs; simp only [setAll, List.set_cons_zero, List.set_cons_succ, Nat.reduceAdd, Nat.zero_add, setAll_le]); (· conv => lhs; simp only [List.set_cons_zero, List.set_cons_succ]); (· conv => lhs; whnf))
          | ((with_reducible apply RunL.oLa v0_ok); (· rfl); (· rfl); (· rfl); (· conv => lhs; whnf); (· rfl); (· rfl); (· rfl); (· conv => lhs; whnf); (· rfl); (· rfl); (· conv => lhs; simp only [List.drop_zero, List.drop_succ_cons, List.take_succ_cons, List.take_zero]))
          | ((with_reducible apply RunL.oI v0_ok); (· rfl); (· rfl); (· rfl); (· rfl); (· rfl); (· exact aindexAddr_arrN (by rfl) (by rfl) (by omega)))
          | ((with_reducible apply RunL.oBin v0_ok); (· rfl); (· rfl); (· conv => lhs; whnf); (· rfl); (· rfl); (· rfl); (· conv => lhs; whnf); (· conv => lhs; whnf); (· exact abin_lss_f (by omega)); try ((with_reducible apply RunL.spl); (all_goals (intro hb <;> (try simp only [List.length_map, cellsL_len] at hb) <;> (first | replace hb := not_t hb | replace hb := not_f hb | replace hb := bne_iff_ne.1 hb | replace hb := bne_eq_false_iff_eq.1 hb | replace hb := of_decide_eq_true hb | replace hb := of_decide_eq_false hb | replace hb := eq_of_beq hb | replace hb := ne_of_beq_false hb | skip) <;> (first | contradiction | (exfalso; omega) | skip)))))
          | ((with_reducible apply RunL.o v0_ok); (· rfl); (· conv => lhs; whnf); (· rfl); (· conv => lhs; whnf); (· rfl); (· conv => lhs; whnf); try ((with_reducible apply RunL.spl); (all_goals (intro hb <;> (try simp only [List.length_map, cellsL_len] at hb) <;> (first | replace hb := not_t hb | replace hb := not_f hb | replace hb := bne_iff_ne.1 hb | replace hb := bne_eq_false_iff_eq.1 hb | replace hb := of_decide_eq_true hb | replace hb := of_decide_eq_false hb | replace hb := eq_of_beq hb | replace hb := ne_of_beq_false hb | skip) <;> (first | contradiction | (exfalso; omega) | skip)))))
          | ((with_reducible apply RunL.oS); (· rfl); (· conv => lhs; whnf); (· rfl))
          | ((with_reducible apply RunL.oN v0_ok); (· rfl); (· rfl); (· rfl))
          | ((with_reducible apply RunL.oSN); (· rfl); (· rfl))))
        | ((with_reducible refine Run.condSelf ?_); (first
          | ((with_reducible apply Run.condT); (· rfl))
          | ((with_reducible apply Run.condF); (· rfl))
          | ((with_reducible apply Run.condK); (· rfl); (all_goals (intro hb <;> (try simp only [List.length_map, cellsL_len] at hb) <;> (first | replace hb := not_t hb | replace hb := not_f hb | replace hb := bne_iff_ne.1 hb | replace hb := bne_eq_false_iff_eq.1 hb | replace hb := of_decide_eq_true hb | replace hb := of_decide_eq_false hb | replace hb := eq_of_beq hb | replace hb := ne_of_beq_false hb | skip) <;> (first | contradiction | (exfalso; omega) | skip)))))))
      change EndF _ _ _ _ _
      refine EndF.mk (.inr rfl) rfl (by rfl) (by conv => lhs; whnf) (.pure (.flat rfl)) ?_
      rfl
    · obtain rfl : i = B.length := by omega
      rw [List.drop_length, greedy] at h3
      exfalso; omega

end Go.Proofs.YtgikapdeekepiaaGreatDoor
