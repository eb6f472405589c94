/- AuditSequence: contracts of sign, text, rows. -/
import Derived.Test.YtgikapdeekepiaaGreatDoorAsV
namespace Go.Proofs.YtgikapdeekepiaaGreatDoor
open Go
set_option maxRecDepth 100000
set_option maxHeartbeats 1000000
set_option linter.unusedVariables false

def signI (a b : Int) : Int := if a < b then -1 else if a > b then 1 else 0

theorem sign_ok (a b : Int) : Fn Tryz.prog 40 [.int .i64 a, .int .i64 b] fun x => x = .int .i64 (signI a b) := by
  show Fn Tryz.prog 40 [.int .i64 a, .int .i64 b] _
  refine Fn.mk1 Tryz.func40 rfl (by (repeat' (first | exact .flat rfl | exact PureL.nil | assumption | apply PureL.cons | apply Pure.agg' | apply Pure.tuple' | apply Pure.rptr' | exact pure_strs _ | exact pure_items _ | exact pure_val _))) (by (repeat' (first | exact .flat rfl | exact PureL.nil | assumption | apply PureL.cons | apply Pure.agg' | apply Pure.tuple' | apply Pure.rptr' | exact pure_strs _ | exact pure_items _ | exact pure_val _))) ?_
  rw [show enterFr Tryz.f40 [.int .i64 a, .int .i64 b] = ⟨11, .upd (.upd .emp 0 (.int .i64 a)) 1 (.int .i64 b)⟩ from rfl]
  repeat' (first
    | (with_reducible refine andThen_normal ?_)
    | (with_reducible refine andThen_ret ?_)
    | (with_reducible refine inBlk_normal ?_)
    | (with_reducible refine inBlk_ret ?_)
    | (with_reducible refine inBlk_hit ?_)
    | (with_reducible refine andThen_exit ?_)
    | ((with_reducible refine inBlk_miss ?_ ?_); (· rfl))
    | (with_reducible refine Run.seq ?_)
    | (with_reducible refine Run.skip ?_)
    | (with_reducible refine Run.ret ?_)
    | (with_reducible refine Run.exit ?_)
    | (with_reducible refine Run.block ?_)
    | (with_reducible refine Run.scope ?_)
    | (with_reducible refine Run.label ?_)
    | ((with_reducible refine Run.regionSelf ?_); ((with_reducible apply Run.lst); (· conv => lhs; whnf)))
    | (with_reducible refine RunL.nil ?_)
    | ((with_reducible refine RunL.self ?_); (first
      | ((with_reducible apply RunL.oFp v0_ok); (· rfl); (· rfl); (· rfl); (· rfl); (· rfl); (· conv => lhs; whnf); (· rfl); (· conv => lhs; whnf))
      | ((with_reducible apply RunL.oFr v0_ok); (· rfl); (· rfl); (· rfl); (· rfl); (· rfl); (· conv => lhs; whnf); (· rfl); (· conv => lhs; whnf))
      | ((with_reducible apply RunL.oBox v0_ok); (· rfl); (· rfl); (· conv => lhs; whnf); (· rfl); (· rfl); (· conv => lhs; whnf); (· conv => lhs; whnf); (· conv => lhs; simp only [List.length_cons, List.length_nil, Nat.zero_add, Nat.reduceAdd]); (· conv => lhs; simp only [List.cons_append, List.nil_append]))
      | ((with_reducible apply RunL.oAl v0_ok); (· rfl); (· fail); (· rfl); (· conv => lhs; whnf); (· rfl); (· conv => lhs; simp only [List.length_cons, List.length_nil, Nat.zero_add, Nat.reduceAdd]); (· conv => lhs; simp only [List.cons_append, List.nil_append]))
      | ((with_reducible apply RunL.oSt); (· rfl); (· rfl); (· conv => lhs; whnf); (· rfl); (· rfl); (· rfl); (· rfl); (· rfl); (· conv => lhs; whnf); (· conv => lhs; whnf); (· rfl); (· rfl); (· rfl); (· conv => lhs; simp only [setAll, List.set_cons_zero, List.set_cons_succ, Nat.reduceAdd, Nat.zero_add]); (· conv => lhs; simp only [List.set_cons_zero, List.set_cons_succ]); (· (repeat' (first | exact .flat rfl | exact PureL.nil | assumption | apply PureL.cons | apply Pure.agg' | apply Pure.tuple' | apply Pure.rptr' | exact pure_strs _ | exact pure_items _ | exact pure_val _)); done))
      | ((with_reducible apply RunL.oStM); (· rfl); (· rfl); (· conv => lhs; whnf); (· rfl); (· rfl); (· rfl); (· rfl); (· rfl); (· conv => lhs; whnf); (· conv => lhs; whnf); (· rfl); (· rfl); (· rfl); (· conv => lhs; simp only [setAll, List.set_cons_zero, List.set_cons_succ, Nat.reduceAdd, Nat.zero_add]); (· conv => lhs; simp only [List.set_cons_zero, List.set_cons_succ]); (· conv => lhs; whnf))
      | ((with_reducible apply RunL.oLa v0_ok); (· rfl); (· rfl); (· rfl); (· conv => lhs; whnf); (· rfl); (· rfl); (· rfl); (· conv => lhs; whnf); (· rfl); (· rfl); (· conv => lhs; simp only [List.drop_zero, List.drop_succ_cons, List.take_succ_cons, List.take_zero]))
      | ((with_reducible apply RunL.oI v0_ok); (· rfl); (· rfl); (· rfl); (· rfl); (· rfl); (· exact aindexAddr_arrN (by rfl) (by rfl) (by omega)))
      | ((with_reducible apply RunL.o v0_ok); (· rfl); (· conv => lhs; whnf); (· rfl); (· conv => lhs; whnf); (· rfl); (· conv => lhs; whnf); try ((with_reducible apply RunL.spl); (all_goals (intro hb <;> (try simp only [List.length_map] at hb) <;> (first | replace hb := bne_iff_ne.1 hb | replace hb := bne_eq_false_iff_eq.1 hb | replace hb := of_decide_eq_true hb | replace hb := of_decide_eq_false hb | replace hb := eq_of_beq hb | replace hb := ne_of_beq_false hb | skip) <;> (first | contradiction | (exfalso; omega) | skip)))))
      | ((with_reducible apply RunL.oS); (· rfl); (· conv => lhs; whnf); (· rfl))
      | ((with_reducible apply RunL.oN v0_ok); (· rfl); (· rfl); (· rfl))
      | ((with_reducible apply RunL.oSN); (· rfl); (· rfl))))
    | ((with_reducible refine Run.condSelf ?_); (first
      | ((with_reducible apply Run.condT); (· rfl))
      | ((with_reducible apply Run.condF); (· rfl))
      | ((with_reducible apply Run.condK); (· rfl); (all_goals (intro hb <;> (try simp only [List.length_map] at hb) <;> (first | replace hb := bne_iff_ne.1 hb | replace hb := bne_eq_false_iff_eq.1 hb | replace hb := of_decide_eq_true hb | replace hb := of_decide_eq_false hb | replace hb := eq_of_beq hb | replace hb := ne_of_beq_false hb | skip) <;> (first | contradiction | (exfalso; omega) | skip)))))))
  all_goals
    change EndF _ _ _ _ _
    refine EndF.mk (.inr rfl) rfl (by rfl) (by conv => lhs; whnf) (.pure (.flat rfl)) ?_
    show AV.int _ _ = AV.int _ _
    simp [signI, *]


def textI (a b : ByteArray) : Int := if Op.bytesLess a.data.toList b.data.toList then -1 else if !(Op.bytesLess a.data.toList b.data.toList || a.data.toList == b.data.toList) then 1 else 0

theorem text_ok (a b : ByteArray) : Fn Tryz.prog 42 [.str a, .str b] fun x => x = .int .i64 (textI a b) := by
  show Fn Tryz.prog 42 [.str a, .str b] _
  refine Fn.mk1 Tryz.func42 rfl (by (repeat' (first | exact .flat rfl | exact PureL.nil | assumption | apply PureL.cons | apply Pure.agg' | apply Pure.tuple' | apply Pure.rptr' | exact pure_strs _ | exact pure_items _ | exact pure_val _))) (by (repeat' (first | exact .flat rfl | exact PureL.nil | assumption | apply PureL.cons | apply Pure.agg' | apply Pure.tuple' | apply Pure.rptr' | exact pure_strs _ | exact pure_items _ | exact pure_val _))) ?_
  rw [show enterFr Tryz.f42 [.str a, .str b] = ⟨11, .upd (.upd .emp 0 (.str a)) 1 (.str b)⟩ from rfl]
  repeat' (first
    | (with_reducible refine andThen_normal ?_)
    | (with_reducible refine andThen_ret ?_)
    | (with_reducible refine inBlk_normal ?_)
    | (with_reducible refine inBlk_ret ?_)
    | (with_reducible refine inBlk_hit ?_)
    | (with_reducible refine andThen_exit ?_)
    | ((with_reducible refine inBlk_miss ?_ ?_); (· rfl))
    | (with_reducible refine Run.seq ?_)
    | (with_reducible refine Run.skip ?_)
    | (with_reducible refine Run.ret ?_)
    | (with_reducible refine Run.exit ?_)
    | (with_reducible refine Run.block ?_)
    | (with_reducible refine Run.scope ?_)
    | (with_reducible refine Run.label ?_)
    | ((with_reducible refine Run.regionSelf ?_); ((with_reducible apply Run.lst); (· conv => lhs; whnf)))
    | (with_reducible refine RunL.nil ?_)
    | ((with_reducible refine RunL.self ?_); (first
      | ((with_reducible apply RunL.oFp v0_ok); (· rfl); (· rfl); (· rfl); (· rfl); (· rfl); (· conv => lhs; whnf); (· rfl); (· conv => lhs; whnf))
      | ((with_reducible apply RunL.oFr v0_ok); (· rfl); (· rfl); (· rfl); (· rfl); (· rfl); (· conv => lhs; whnf); (· rfl); (· conv => lhs; whnf))
      | ((with_reducible apply RunL.oBox v0_ok); (· rfl); (· rfl); (· conv => lhs; whnf); (· rfl); (· rfl); (· conv => lhs; whnf); (· conv => lhs; whnf); (· conv => lhs; simp only [List.length_cons, List.length_nil, Nat.zero_add, Nat.reduceAdd]); (· conv => lhs; simp only [List.cons_append, List.nil_append]))
      | ((with_reducible apply RunL.oAl v0_ok); (· rfl); (· fail); (· rfl); (· conv => lhs; whnf); (· rfl); (· conv => lhs; simp only [List.length_cons, List.length_nil, Nat.zero_add, Nat.reduceAdd]); (· conv => lhs; simp only [List.cons_append, List.nil_append]))
      | ((with_reducible apply RunL.oSt); (· rfl); (· rfl); (· conv => lhs; whnf); (· rfl); (· rfl); (· rfl); (· rfl); (· rfl); (· conv => lhs; whnf); (· conv => lhs; whnf); (· rfl); (· rfl); (· rfl); (· conv => lhs; simp only [setAll, List.set_cons_zero, List.set_cons_succ, Nat.reduceAdd, Nat.zero_add]); (· conv => lhs; simp only [List.set_cons_zero, List.set_cons_succ]); (· (repeat' (first | exact .flat rfl | exact PureL.nil | assumption | apply PureL.cons | apply Pure.agg' | apply Pure.tuple' | apply Pure.rptr' | exact pure_strs _ | exact pure_items _ | exact pure_val _)); done))
      | ((with_reducible apply RunL.oStM); (· rfl); (· rfl); (· conv => lhs; whnf); (· rfl); (· rfl); (· rfl); (· rfl); (· rfl); (· conv => lhs; whnf); (· conv => lhs; whnf); (· rfl); (· rfl); (· rfl); (· conv => lhs; simp only [setAll, List.set_cons_zero, List.set_cons_succ, Nat.reduceAdd, Nat.zero_add]); (· conv => lhs; simp only [List.set_cons_zero, List.set_cons_succ]); (· conv => lhs; whnf))
      | ((with_reducible apply RunL.oLa v0_ok); (· rfl); (· rfl); (· rfl); (· conv => lhs; whnf); (· rfl); (· rfl); (· rfl); (· conv => lhs; whnf); (· rfl); (· rfl); (· conv => lhs; simp only [List.drop_zero, List.drop_succ_cons, List.take_succ_cons, List.take_zero]))
      | ((with_reducible apply RunL.oI v0_ok); (· rfl); (· rfl); (· rfl); (· rfl); (· rfl); (· exact aindexAddr_arrN (by rfl) (by rfl) (by omega)))
      | ((with_reducible apply RunL.o v0_ok); (· rfl); (· conv => lhs; whnf); (· rfl); (· conv => lhs; whnf); (· rfl); (· conv => lhs; whnf); try ((with_reducible apply RunL.spl); (all_goals (intro hb <;> (try simp only [List.length_map] at hb) <;> (first | replace hb := bne_iff_ne.1 hb | replace hb := bne_eq_false_iff_eq.1 hb | replace hb := of_decide_eq_true hb | replace hb := of_decide_eq_false hb | replace hb := eq_of_beq hb | replace hb := ne_of_beq_false hb | skip) <;> (first | contradiction | (exfalso; omega) | skip)))))
      | ((with_reducible apply RunL.oS); (· rfl); (· conv => lhs; whnf); (· rfl))
      | ((with_reducible apply RunL.oN v0_ok); (· rfl); (· rfl); (· rfl))
      | ((with_reducible apply RunL.oSN); (· rfl); (· rfl))))
    | ((with_reducible refine Run.condSelf ?_); (first
      | ((with_reducible apply Run.condT); (· rfl))
      | ((with_reducible apply Run.condF); (· rfl))
      | ((with_reducible apply Run.condK); (· rfl); (all_goals (intro hb <;> (try simp only [List.length_map] at hb) <;> (first | replace hb := bne_iff_ne.1 hb | replace hb := bne_eq_false_iff_eq.1 hb | replace hb := of_decide_eq_true hb | replace hb := of_decide_eq_false hb | replace hb := eq_of_beq hb | replace hb := ne_of_beq_false hb | skip) <;> (first | contradiction | (exfalso; omega) | skip)))))))
  all_goals
    change EndF _ _ _ _ _
    refine EndF.mk (.inr rfl) rfl (by rfl) (by conv => lhs; whnf) (.pure (.flat rfl)) ?_
    show AV.int _ _ = AV.int _ _
    simp_all [textI]

def rowsI : List ByteArray → List ByteArray → Int
  | a :: l, b :: m => if textI a b ≠ 0 then textI a b else rowsI l m
  | [], m => signI 0 m.length
  | l, [] => signI l.length 0

theorem rowsI_step {us vs : List ByteArray} {i : Nat} {a b : ByteArray} (ha : us[i]? = some a) (hb : vs[i]? = some b) :
    rowsI (us.drop i) (vs.drop i) = if textI a b ≠ 0 then textI a b else rowsI (us.drop (i + 1)) (vs.drop (i + 1)) := by
  have h : ∀ {l : List ByteArray} {x : ByteArray}, l[i]? = some x → l.drop i = x :: l.drop (i + 1) := by
    intro l x hx
    obtain ⟨h1, h2⟩ := List.getElem?_eq_some_iff.1 hx
    rw [List.drop_eq_getElem_cons h1, h2]
  rw [h ha, h hb, rowsI]

theorem rowsI_end {us vs : List ByteArray} {i : Nat} (h1 : i ≤ us.length) (h2 : i ≤ vs.length) (h : i = us.length ∨ i = vs.length) : rowsI (us.drop i) (vs.drop i) = signI us.length vs.length := by
  rcases h with rfl | rfl
  · rw [List.drop_length]
    have : (vs.drop us.length).length = vs.length - us.length := by simp
    cases hv : vs.drop us.length with
    | nil => rw [hv] at this; simp at this; simp [rowsI, signI]; omega
    | cons x l => rw [hv] at this; simp at this; simp [rowsI, signI]; omega
  · rw [List.drop_length]
    have : (us.drop vs.length).length = us.length - vs.length := by simp
    cases hv : us.drop vs.length with
    | nil => rw [hv] at this; simp at this; simp [rowsI, signI]; omega
    | cons x l => rw [hv] at this; simp at this; simp [rowsI, signI]; omega

theorem rows_ok (us vs : List ByteArray) (hu : us.length ≤ 1048576) : Fn Tryz.prog 43 [strs us, strs vs] fun x => x = .int .i64 (rowsI us vs) := by
  show Fn Tryz.prog 43 [strs us, strs vs] _
  refine Fn.mk1 Tryz.func43 rfl (by (repeat' (first | exact .flat rfl | exact PureL.nil | assumption | apply PureL.cons | apply Pure.agg' | apply Pure.tuple' | apply Pure.rptr' | exact pure_strs _ | exact pure_items _ | exact pure_val _))) (by (repeat' (first | exact .flat rfl | exact PureL.nil | assumption | apply PureL.cons | apply Pure.agg' | apply Pure.tuple' | apply Pure.rptr' | exact pure_strs _ | exact pure_items _ | exact pure_val _))) ?_
  rw [show enterFr Tryz.f43 [strs us, strs vs] = ⟨36, .upd (.upd .emp 0 (strs us)) 1 (strs vs)⟩ from rfl]
  repeat' (first
    | (with_reducible refine andThen_normal ?_)
    | (with_reducible refine andThen_ret ?_)
    | (with_reducible refine inBlk_normal ?_)
    | (with_reducible refine inBlk_ret ?_)
    | (with_reducible refine inBlk_hit ?_)
    | (with_reducible refine andThen_exit ?_)
    | ((with_reducible refine inBlk_miss ?_ ?_); (· rfl))
    | (with_reducible refine Run.seq ?_)
    | (with_reducible refine Run.skip ?_)
    | (with_reducible refine Run.ret ?_)
    | (with_reducible refine Run.exit ?_)
    | (with_reducible refine Run.block ?_)
    | (with_reducible refine Run.scope ?_)
    | (with_reducible refine Run.label ?_)
    | ((with_reducible refine Run.regionSelf ?_); ((with_reducible apply Run.lst); (· conv => lhs; whnf)))
    | (with_reducible refine RunL.nil ?_)
    | ((with_reducible refine RunL.self ?_); (first
      | ((with_reducible apply RunL.oFp v0_ok); (· rfl); (· rfl); (· rfl); (· rfl); (· rfl); (· conv => lhs; whnf); (· rfl); (· conv => lhs; whnf))
      | ((with_reducible apply RunL.oFr v0_ok); (· rfl); (· rfl); (· rfl); (· rfl); (· rfl); (· conv => lhs; whnf); (· rfl); (· conv => lhs; whnf))
      | ((with_reducible apply RunL.oBox v0_ok); (· rfl); (· rfl); (· conv => lhs; whnf); (· rfl); (· rfl); (· conv => lhs; whnf); (· conv => lhs; whnf); (· conv => lhs; simp only [List.length_cons, List.length_nil, Nat.zero_add, Nat.reduceAdd]); (· conv => lhs; simp only [List.cons_append, List.nil_append]))
      | ((with_reducible apply RunL.oAl v0_ok); (· rfl); (· fail); (· rfl); (· conv => lhs; whnf); (· rfl); (· conv => lhs; simp only [List.length_cons, List.length_nil, Nat.zero_add, Nat.reduceAdd]); (· conv => lhs; simp only [List.cons_append, List.nil_append]))
      | ((with_reducible apply RunL.oSt); (· rfl); (· rfl); (· conv => lhs; whnf); (· rfl); (· rfl); (· rfl); (· rfl); (· rfl); (· conv => lhs; whnf); (· conv => lhs; whnf); (· rfl); (· rfl); (· rfl); (· conv => lhs; simp only [setAll, List.set_cons_zero, List.set_cons_succ, Nat.reduceAdd, Nat.zero_add]); (· conv => lhs; simp only [List.set_cons_zero, List.set_cons_succ]); (· (repeat' (first | exact .flat rfl | exact PureL.nil | assumption | apply PureL.cons | apply Pure.agg' | apply Pure.tuple' | apply Pure.rptr' | exact pure_strs _ | exact pure_items _ | exact pure_val _)); done))
      | ((with_reducible apply RunL.oStM); (· rfl); (· rfl); (· conv => lhs; whnf); (· rfl); (· rfl); (· rfl); (· rfl); (· rfl); (· conv => lhs; whnf); (· conv => lhs; whnf); (· rfl); (· rfl); (· rfl); (· conv => lhs; simp only [setAll, List.set_cons_zero, List.set_cons_succ, Nat.reduceAdd, Nat.zero_add]); (· conv => lhs; simp only [List.set_cons_zero, List.set_cons_succ]); (· conv => lhs; whnf))
      | ((with_reducible apply RunL.oLa v0_ok); (· rfl); (· rfl); (· rfl); (· conv => lhs; whnf); (· rfl); (· rfl); (· rfl); (· conv => lhs; whnf); (· rfl); (· rfl); (· conv => lhs; simp only [List.drop_zero, List.drop_succ_cons, List.take_succ_cons, List.take_zero]))
      | ((with_reducible apply RunL.oI v0_ok); (· rfl); (· rfl); (· rfl); (· rfl); (· rfl); (· exact aindexAddr_arrN (by rfl) (by rfl) (by omega)))
      | ((with_reducible apply RunL.o v0_ok); (· rfl); (· conv => lhs; whnf); (· rfl); (· conv => lhs; whnf); (· rfl); (· conv => lhs; whnf); try ((with_reducible apply RunL.spl); (all_goals (intro hb <;> (try simp only [List.length_map] at hb) <;> (first | replace hb := bne_iff_ne.1 hb | replace hb := bne_eq_false_iff_eq.1 hb | replace hb := of_decide_eq_true hb | replace hb := of_decide_eq_false hb | replace hb := eq_of_beq hb | replace hb := ne_of_beq_false hb | skip) <;> (first | contradiction | (exfalso; omega) | skip)))))
      | ((with_reducible apply RunL.oS); (· rfl); (· conv => lhs; whnf); (· rfl))
      | ((with_reducible apply RunL.oN v0_ok); (· rfl); (· rfl); (· rfl))
      | ((with_reducible apply RunL.oSN); (· rfl); (· rfl))))
    | ((with_reducible refine Run.condSelf ?_); (first
      | ((with_reducible apply Run.condT); (· rfl))
      | ((with_reducible apply Run.condF); (· rfl))
      | ((with_reducible apply Run.condK); (· rfl); (all_goals (intro hb <;> (try simp only [List.length_map] at hb) <;> (first | replace hb := bne_iff_ne.1 hb | replace hb := bne_eq_false_iff_eq.1 hb | replace hb := of_decide_eq_true hb | replace hb := of_decide_eq_false hb | replace hb := eq_of_beq hb | replace hb := ne_of_beq_false hb | skip) <;> (first | contradiction | (exfalso; omega) | skip)))))))
  refine Run.loopK 36 (fun i => us.length - i) (fun i => i ≤ us.length ∧ i ≤ vs.length ∧ rowsI us vs = rowsI (us.drop i) (vs.drop i)) (fun i => [(0, strs us), (1, strs vs), (5, .int .i64 ((i : Nat) : Int))]) (fun _ => ⟨[], [], 1000000⟩) 0
    ⟨Nat.zero_le _, Nat.zero_le _, rfl⟩ (.same rfl ⟨rfl, rfl, rfl, trivial⟩ rfl rfl) (fun i ⟨h1, h2, h3⟩ => ?_)
  repeat' (first
    | (with_reducible refine andThen_normal ?_)
    | (with_reducible refine andThen_ret ?_)
    | (with_reducible refine inBlk_normal ?_)
    | (with_reducible refine inBlk_ret ?_)
    | (with_reducible refine inBlk_hit ?_)
    | (with_reducible refine andThen_exit ?_)
    | ((with_reducible refine inBlk_miss ?_ ?_); (· rfl))
    | (with_reducible refine Run.seq ?_)
    | (with_reducible refine Run.skip ?_)
    | (with_reducible refine Run.ret ?_)
    | (with_reducible refine Run.exit ?_)
    | (with_reducible refine Run.block ?_)
    | (with_reducible refine Run.scope ?_)
    | (with_reducible refine Run.label ?_)
    | ((with_reducible refine Run.regionSelf ?_); ((with_reducible apply Run.lst); (· conv => lhs; whnf)))
    | (with_reducible refine RunL.nil ?_)
    | ((with_reducible refine RunL.self ?_); (first
      | ((with_reducible apply RunL.oFp v0_ok); (· rfl); (· rfl); (· rfl); (· rfl); (· rfl); (· conv => lhs; whnf); (· rfl); (· conv => lhs; whnf))
      | ((with_reducible apply RunL.oFr v0_ok); (· rfl); (· rfl); (· rfl); (· rfl); (· rfl); (· conv => lhs; whnf); (· rfl); (· conv => lhs; whnf))
      | ((with_reducible apply RunL.oBox v0_ok); (· rfl); (· rfl); (· conv => lhs; whnf); (· rfl); (· rfl); (· conv => lhs; whnf); (· conv => lhs; whnf); (· conv => lhs; simp only [List.length_cons, List.length_nil, Nat.zero_add, Nat.reduceAdd]); (· conv => lhs; simp only [List.cons_append, List.nil_append]))
      | ((with_reducible apply RunL.oAl v0_ok); (· rfl); (· fail); (· rfl); (· conv => lhs; whnf); (· rfl); (· conv => lhs; simp only [List.length_cons, List.length_nil, Nat.zero_add, Nat.reduceAdd]); (· conv => lhs; simp only [List.cons_append, List.nil_append]))
      | ((with_reducible apply RunL.oSt); (· rfl); (· rfl); (· conv => lhs; whnf); (· rfl); (· rfl); (· rfl); (· rfl); (· rfl); (· conv => lhs; whnf); (· conv => lhs; whnf); (· rfl); (· rfl); (· rfl); (· conv => lhs; simp only [setAll, List.set_cons_zero, List.set_cons_succ, Nat.reduceAdd, Nat.zero_add]); (· conv => lhs; simp only [List.set_cons_zero, List.set_cons_succ]); (· (repeat' (first | exact .flat rfl | exact PureL.nil | assumption | apply PureL.cons | apply Pure.agg' | apply Pure.tuple' | apply Pure.rptr' | exact pure_strs _ | exact pure_items _ | exact pure_val _)); done))
      | ((with_reducible apply RunL.oStM); (· rfl); (· rfl); (· conv => lhs; whnf); (· rfl); (· rfl); (· rfl); (· rfl); (· rfl); (· conv => lhs; whnf); (· conv => lhs; whnf); (· rfl); (· rfl); (· rfl); (· conv => lhs; simp only [setAll, List.set_cons_zero, List.set_cons_succ, Nat.reduceAdd, Nat.zero_add]); (· conv => lhs; simp only [List.set_cons_zero, List.set_cons_succ]); (· conv => lhs; whnf))
      | ((with_reducible apply RunL.oLa v0_ok); (· rfl); (· rfl); (· rfl); (· conv => lhs; whnf); (· rfl); (· rfl); (· rfl); (· conv => lhs; whnf); (· rfl); (· rfl); (· conv => lhs; simp only [List.drop_zero, List.drop_succ_cons, List.take_succ_cons, List.take_zero]))
      | ((with_reducible apply RunL.oI v0_ok); (· rfl); (· rfl); (· rfl); (· rfl); (· rfl); (· exact aindexAddr_arrN (by rfl) (by rfl) (by omega)))
      | ((with_reducible apply RunL.o v0_ok); (· rfl); (· conv => lhs; whnf); (· rfl); (· conv => lhs; whnf); (· rfl); (· conv => lhs; whnf); try ((with_reducible apply RunL.spl); (all_goals (intro hb <;> (try simp only [List.length_map] at hb) <;> (first | replace hb := bne_iff_ne.1 hb | replace hb := bne_eq_false_iff_eq.1 hb | replace hb := of_decide_eq_true hb | replace hb := of_decide_eq_false hb | replace hb := eq_of_beq hb | replace hb := ne_of_beq_false hb | skip) <;> (first | contradiction | (exfalso; omega) | skip)))))
      | ((with_reducible apply RunL.oS); (· rfl); (· conv => lhs; whnf); (· rfl))
      | ((with_reducible apply RunL.oN v0_ok); (· rfl); (· rfl); (· rfl))
      | ((with_reducible apply RunL.oSN); (· rfl); (· rfl))))
    | ((with_reducible refine Run.condSelf ?_); (first
      | ((with_reducible apply Run.condT); (· rfl))
      | ((with_reducible apply Run.condF); (· rfl))
      | ((with_reducible apply Run.condK); (· rfl); (all_goals (intro hb <;> (try simp only [List.length_map] at hb) <;> (first | replace hb := bne_iff_ne.1 hb | replace hb := bne_eq_false_iff_eq.1 hb | replace hb := of_decide_eq_true hb | replace hb := of_decide_eq_false hb | replace hb := eq_of_beq hb | replace hb := ne_of_beq_false hb | skip) <;> (first | contradiction | (exfalso; omega) | skip)))))))
  · obtain ⟨a, ha, _⟩ := get_of_lt (l := us) (i := i) (by omega)
    obtain ⟨b, hb, _⟩ := get_of_lt (l := vs) (i := i) (by omega)
    rw [rowsI_step ha hb] at h3
    apply Run.draw v0_ok (orc_ok ((text_ok a b).ok _) noCalls_ok)
    case hl =>
      repeat' (first | exact lex_nil | (apply lex_o; (· rfl); (· rfl); (· apply stepD_call; (· rfl); (· exact orc_self _ _ _ _ _)); (· rfl)) | (apply lex_oI; (· rfl); (· rfl); (· rfl); (· rfl); (· rfl); (· exact aindexAddr_slc (by rfl) (by rfl) (strs_get (by assumption)))) | (apply lex_oI; (· rfl); (· rfl); (· rfl); (· rfl); (· rfl); (· exact aindexAddr_slc (by rfl) (by rfl) (items_get (by assumption)))) | (apply lex_oI; (· rfl); (· rfl); (· rfl); (· rfl); (· rfl); (· exact aindexAddr_arrN (by rfl) (by rfl) (by omega))) | (apply lex_o; (· rfl); (· rfl); (· apply stepD_ok; rfl); (· conv => lhs; whnf)) | (apply lex_oS; (· rfl); (· rfl)) | (apply lex_oN; (· rfl); (· rfl); (· apply stepD_ok; rfl); (· rfl)))
    case hc => kernel_rfl
    case hf => rfl
    case hq =>
      repeat' (first
        | (with_reducible refine andThen_normal ?_)
        | (with_reducible refine andThen_ret ?_)
        | (with_reducible refine inBlk_normal ?_)
        | (with_reducible refine inBlk_ret ?_)
        | (with_reducible refine inBlk_hit ?_)
        | (with_reducible refine andThen_exit ?_)
        | ((with_reducible refine inBlk_miss ?_ ?_); (· rfl))
        | (with_reducible refine Run.seq ?_)
        | (with_reducible refine Run.skip ?_)
        | (with_reducible refine Run.ret ?_)
        | (with_reducible refine Run.exit ?_)
        | (with_reducible refine Run.block ?_)
        | (with_reducible refine Run.scope ?_)
        | (with_reducible refine Run.label ?_)
        | ((with_reducible refine Run.regionSelf ?_); ((with_reducible apply Run.lst); (· conv => lhs; whnf)))
        | (with_reducible refine RunL.nil ?_)
        | ((with_reducible refine RunL.self ?_); (first
          | ((with_reducible apply RunL.oFp v0_ok); (· rfl); (· rfl); (· rfl); (· rfl); (· rfl); (· conv => lhs; whnf); (· rfl); (· conv => lhs; whnf))
          | ((with_reducible apply RunL.oFr v0_ok); (· rfl); (· rfl); (· rfl); (· rfl); (· rfl); (· conv => lhs; whnf); (· rfl); (· conv => lhs; whnf))
          | ((with_reducible apply RunL.oBox v0_ok); (· rfl); (· rfl); (· conv => lhs; whnf); (· rfl); (· rfl); (· conv => lhs; whnf); (· conv => lhs; whnf); (· conv => lhs; simp only [List.length_cons, List.length_nil, Nat.zero_add, Nat.reduceAdd]); (· conv => lhs; simp only [List.cons_append, List.nil_append]))
          | ((with_reducible apply RunL.oAl v0_ok); (· rfl); (· fail); (· rfl); (· conv => lhs; whnf); (· rfl); (· conv => lhs; simp only [List.length_cons, List.length_nil, Nat.zero_add, Nat.reduceAdd]); (· conv => lhs; simp only [List.cons_append, List.nil_append]))
          | ((with_reducible apply RunL.oSt); (· rfl); (· rfl); (· conv => lhs; whnf); (· rfl); (· rfl); (· rfl); (· rfl); (· rfl); (· conv => lhs; whnf); (· conv => lhs; whnf); (· rfl); (· rfl); (· rfl); (· conv => lhs; simp only [setAll, List.set_cons_zero, List.set_cons_succ, Nat.reduceAdd, Nat.zero_add]); (· conv => lhs; simp only [List.set_cons_zero, List.set_cons_succ]); (· (repeat' (first | exact .flat rfl | exact PureL.nil | assumption | apply PureL.cons | apply Pure.agg' | apply Pure.tuple' | apply Pure.rptr' | exact pure_strs _ | exact pure_items _ | exact pure_val _)); done))
          | ((with_reducible apply RunL.oStM); (· rfl); (· rfl); (· conv => lhs; whnf); (· rfl); (· rfl); (· rfl); (· rfl); (· rfl); (· conv => lhs; whnf); (· conv => lhs; whnf); (· rfl); (· rfl); (· rfl); (· conv => lhs; simp only [setAll, List.set_cons_zero, List.set_cons_succ, Nat.reduceAdd, Nat.zero_add]); (· conv => lhs; simp only [List.set_cons_zero, List.set_cons_succ]); (· conv => lhs; whnf))
          | ((with_reducible apply RunL.oLa v0_ok); (· rfl); (· rfl); (· rfl); (· conv => lhs; whnf); (· rfl); (· rfl); (· rfl); (· conv => lhs; whnf); (· rfl); (· rfl); (· conv => lhs; simp only [List.drop_zero, List.drop_succ_cons, List.take_succ_cons, List.take_zero]))
          | ((with_reducible apply RunL.oI v0_ok); (· rfl); (· rfl); (· rfl); (· rfl); (· rfl); (· exact aindexAddr_arrN (by rfl) (by rfl) (by omega)))
          | ((with_reducible apply RunL.o v0_ok); (· rfl); (· conv => lhs; whnf); (· rfl); (· conv => lhs; whnf); (· rfl); (· conv => lhs; whnf); try ((with_reducible apply RunL.spl); (all_goals (intro hb <;> (try simp only [List.length_map] at hb) <;> (first | replace hb := bne_iff_ne.1 hb | replace hb := bne_eq_false_iff_eq.1 hb | replace hb := of_decide_eq_true hb | replace hb := of_decide_eq_false hb | replace hb := eq_of_beq hb | replace hb := ne_of_beq_false hb | skip) <;> (first | contradiction | (exfalso; omega) | skip)))))
          | ((with_reducible apply RunL.oS); (· rfl); (· conv => lhs; whnf); (· rfl))
          | ((with_reducible apply RunL.oN v0_ok); (· rfl); (· rfl); (· rfl))
          | ((with_reducible apply RunL.oSN); (· rfl); (· rfl))))
        | ((with_reducible refine Run.condSelf ?_); (first
          | ((with_reducible apply Run.condT); (· rfl))
          | ((with_reducible apply Run.condF); (· rfl))
          | ((with_reducible apply Run.condK); (· rfl); (all_goals (intro hb <;> (try simp only [List.length_map] at hb) <;> (first | replace hb := bne_iff_ne.1 hb | replace hb := bne_eq_false_iff_eq.1 hb | replace hb := of_decide_eq_true hb | replace hb := of_decide_eq_false hb | replace hb := eq_of_beq hb | replace hb := ne_of_beq_false hb | skip) <;> (first | contradiction | (exfalso; omega) | skip)))))))
      · change EndF _ _ _ _ _
        refine EndF.mk (.inr rfl) rfl (by rfl) (by conv => lhs; whnf) (.pure (.flat rfl)) ?_
        rw [h3]; simp_all
      · refine ⟨i + 1, by omega, ⟨by omega, by omega, by simp_all⟩, .same rfl ⟨rfl, rfl, get_int rfl (by rw [IntWalk.i64_in _ (by omega)]; omega), trivial⟩ rfl rfl⟩
  all_goals
    refine RunL.oF1 v0_ok (sign_ok _ _) (by rfl) (by rfl) (by rfl) ?_
    repeat' (first
      | (with_reducible refine andThen_normal ?_)
      | (with_reducible refine andThen_ret ?_)
      | (with_reducible refine inBlk_normal ?_)
      | (with_reducible refine inBlk_ret ?_)
      | (with_reducible refine inBlk_hit ?_)
      | (with_reducible refine andThen_exit ?_)
      | ((with_reducible refine inBlk_miss ?_ ?_); (· rfl))
      | (with_reducible refine Run.seq ?_)
      | (with_reducible refine Run.skip ?_)
      | (with_reducible refine Run.ret ?_)
      | (with_reducible refine Run.exit ?_)
      | (with_reducible refine Run.block ?_)
      | (with_reducible refine Run.scope ?_)
      | (with_reducible refine Run.label ?_)
      | ((with_reducible refine Run.regionSelf ?_); ((with_reducible apply Run.lst); (· conv => lhs; whnf)))
      | (with_reducible refine RunL.nil ?_)
      | ((with_reducible refine RunL.self ?_); (first
        | ((with_reducible apply RunL.oFp v0_ok); (· rfl); (· rfl); (· rfl); (· rfl); (· rfl); (· conv => lhs; whnf); (· rfl); (· conv => lhs; whnf))
        | ((with_reducible apply RunL.oFr v0_ok); (· rfl); (· rfl); (· rfl); (· rfl); (· rfl); (· conv => lhs; whnf); (· rfl); (· conv => lhs; whnf))
        | ((with_reducible apply RunL.oBox v0_ok); (· rfl); (· rfl); (· conv => lhs; whnf); (· rfl); (· rfl); (· conv => lhs; whnf); (· conv => lhs; whnf); (· conv => lhs; simp only [List.length_cons, List.length_nil, Nat.zero_add, Nat.reduceAdd]); (· conv => lhs; simp only [List.cons_append, List.nil_append]))
        | ((with_reducible apply RunL.oAl v0_ok); (· rfl); (· fail); (· rfl); (· conv => lhs; whnf); (· rfl); (· conv => lhs; simp only [List.length_cons, List.length_nil, Nat.zero_add, Nat.reduceAdd]); (· conv => lhs; simp only [List.cons_append, List.nil_append]))
        | ((with_reducible apply RunL.oSt); (· rfl); (· rfl); (· conv => lhs; whnf); (· rfl); (· rfl); (· rfl); (· rfl); (· rfl); (· conv => lhs; whnf); (· conv => lhs; whnf); (· rfl); (· rfl); (· rfl); (· conv => lhs; simp only [setAll, List.set_cons_zero, List.set_cons_succ, Nat.reduceAdd, Nat.zero_add]); (· conv => lhs; simp only [List.set_cons_zero, List.set_cons_succ]); (· (repeat' (first | exact .flat rfl | exact PureL.nil | assumption | apply PureL.cons | apply Pure.agg' | apply Pure.tuple' | apply Pure.rptr' | exact pure_strs _ | exact pure_items _ | exact pure_val _)); done))
        | ((with_reducible apply RunL.oStM); (· rfl); (· rfl); (· conv => lhs; whnf); (· rfl); (· rfl); (· rfl); (· rfl); (· rfl); (· conv => lhs; whnf); (· conv => lhs; whnf); (· rfl); (· rfl); (· rfl); (· conv => lhs; simp only [setAll, List.set_cons_zero, List.set_cons_succ, Nat.reduceAdd, Nat.zero_add]); (· conv => lhs; simp only [List.set_cons_zero, List.set_cons_succ]); (· conv => lhs; whnf))
        | ((with_reducible apply RunL.oLa v0_ok); (· rfl); (· rfl); (· rfl); (· conv => lhs; whnf); (· rfl); (· rfl); (· rfl); (· conv => lhs; whnf); (· rfl); (· rfl); (· conv => lhs; simp only [List.drop_zero, List.drop_succ_cons, List.take_succ_cons, List.take_zero]))
        | ((with_reducible apply RunL.oI v0_ok); (· rfl); (· rfl); (· rfl); (· rfl); (· rfl); (· exact aindexAddr_arrN (by rfl) (by rfl) (by omega)))
        | ((with_reducible apply RunL.o v0_ok); (· rfl); (· conv => lhs; whnf); (· rfl); (· conv => lhs; whnf); (· rfl); (· conv => lhs; whnf); try ((with_reducible apply RunL.spl); (all_goals (intro hb <;> (try simp only [List.length_map] at hb) <;> (first | replace hb := bne_iff_ne.1 hb | replace hb := bne_eq_false_iff_eq.1 hb | replace hb := of_decide_eq_true hb | replace hb := of_decide_eq_false hb | replace hb := eq_of_beq hb | replace hb := ne_of_beq_false hb | skip) <;> (first | contradiction | (exfalso; omega) | skip)))))
        | ((with_reducible apply RunL.oS); (· rfl); (· conv => lhs; whnf); (· rfl))
        | ((with_reducible apply RunL.oN v0_ok); (· rfl); (· rfl); (· rfl))
        | ((with_reducible apply RunL.oSN); (· rfl); (· rfl))))
      | ((with_reducible refine Run.condSelf ?_); (first
        | ((with_reducible apply Run.condT); (· rfl))
        | ((with_reducible apply Run.condF); (· rfl))
        | ((with_reducible apply Run.condK); (· rfl); (all_goals (intro hb <;> (try simp only [List.length_map] at hb) <;> (first | replace hb := bne_iff_ne.1 hb | replace hb := bne_eq_false_iff_eq.1 hb | replace hb := of_decide_eq_true hb | replace hb := of_decide_eq_false hb | replace hb := eq_of_beq hb | replace hb := ne_of_beq_false hb | skip) <;> (first | contradiction | (exfalso; omega) | skip)))))))
    change EndF _ _ _ _ _
    refine EndF.mk (.inr rfl) rfl (by rfl) (by conv => lhs; whnf) (.pure (.flat rfl)) ?_
    simp only [List.length_map]
    rw [h3, rowsI_end h1 h2 (by omega)]

end Go.Proofs.YtgikapdeekepiaaGreatDoor
