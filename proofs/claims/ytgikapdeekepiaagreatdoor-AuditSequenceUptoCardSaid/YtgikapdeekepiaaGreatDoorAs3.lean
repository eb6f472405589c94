/- AuditSequence: the document's lattice: Is, Leq; the document's Sequence. -/
import Derived.Test.YtgikapdeekepiaaGreatDoorAs2
namespace Go.Proofs.YtgikapdeekepiaaGreatDoor
open Go
set_option maxRecDepth 100000
set_option maxHeartbeats 1000000
set_option linter.unusedVariables false

/-- The cells of the document's relation. -/
def leCells (le : Nat → Nat → Bool) : List AV := (List.range 64).map fun i => .bool (le (i / 8) (i % 8))

/-- The document's lattice. -/
abbrev refL (n : Int) (le : Nat → Nat → Bool) : List AV := .int .i64 n :: leCells le

theorem leCells_get {le : Nat → Nat → Bool} {k : Nat} (h : k < 64) : (leCells le)[k]? = some (.bool (le (k / 8) (k % 8))) := by
  simp [leCells, h]

theorem leCells_pure (le : Nat → Nat → Bool) : ∀ c ∈ leCells le, Pure c := by
  intro c hc
  simp only [leCells, List.mem_map] at hc
  obtain ⟨i, _, rfl⟩ := hc
  exact .flat rfl

theorem leCells_pureL (le : Nat → Nat → Bool) : PureL (leCells le) := by
  have : ∀ l : List AV, (∀ c ∈ l, Pure c) → PureL l := by
    intro l
    induction l with
    | nil => intro _; trivial
    | cons x l ih => intro h; exact ⟨h x (by simp), ih fun c hc => h c (by simp [hc])⟩
  exact this _ (leCells_pure le)

theorem pure_refL (n : Int) (le : Nat → Nat → Bool) : Pure (.agg (refL n le)) := by
  refine .agg fun c hc => ?_
  rcases List.mem_cons.1 hc with rfl | hc
  · exact .flat rfl
  · exact leCells_pure le c hc

theorem leCells_len (le : Nat → Nat → Bool) : (leCells le).length = 64 := by simp [leCells]

theorem take_refL (n : Int) (le : Nat → Nat → Bool) : (refL n le).take 65 = refL n le := List.take_of_length_le (by simp [leCells_len])

theorem take_leCells (le : Nat → Nat → Bool) : (leCells le).take 64 = leCells le := List.take_of_length_le (by simp [leCells_len])

theorem refL_get {n : Int} {le : Nat → Nat → Bool} (i j : Nat) (hi : i < 8) (hj : j < 8) : (refL n le)[1 + i * 8 + j * 1]? = some (.bool (le i j)) := by
  rw [show 1 + i * 8 + j * 1 = (i * 8 + j) + 1 from by omega]
  show (leCells le)[i * 8 + j]? = _
  rw [leCells_get (by omega), show (i * 8 + j) / 8 = i from by omega, show (i * 8 + j) % 8 = j from by omega]

def isB (n a : Int) : Bool := decide (a ≥ 0) && decide (a < n)

theorem isB_true {n a : Int} (h : isB n a = true) : 0 ≤ a ∧ a < n := by simpa [isB] using h

theorem is_ok (n a : Int) (le : Nat → Nat → Bool) : Fn Tryz.prog 39 [.agg (refL n le), .int .i64 a] fun y => y = .bool (isB n a) := by
  show Fn Tryz.prog 39 [.agg (refL n le), .int .i64 a] _
  refine Fn.mk1 Tryz.func39 rfl (by (repeat' (first | exact .flat rfl | exact PureL.nil | assumption | apply PureL.cons | apply Pure.agg' | apply Pure.tuple' | apply Pure.rptr' | exact pure_strs _ | exact pure_items _ | exact pure_val _ | exact pure_auds _ | exact pure_refL _ _))) (by (repeat' (first | exact .flat rfl | exact PureL.nil | assumption | apply PureL.cons | apply Pure.agg' | apply Pure.tuple' | apply Pure.rptr' | exact pure_strs _ | exact pure_items _ | exact pure_val _ | exact pure_auds _ | exact pure_refL _ _))) ?_
  rw [show enterFr Tryz.f39 [.agg (refL n le), .int .i64 a] = ⟨13, .upd (.upd .emp 0 (.agg (refL n le))) 1 (.int .i64 a)⟩ from rfl]
  repeat' (first
    | (with_reducible refine andThen_normal ?_)
    | (with_reducible refine andThen_ret ?_)
    | (with_reducible refine inBlk_normal ?_)
    | (with_reducible refine inBlk_ret ?_)
    | (with_reducible refine inBlk_hit ?_)
    | (with_reducible refine andThen_exit ?_)
    | ((with_reducible refine inBlk_miss ?_ ?_); (· rfl))
    | (with_reducible refine Run.seq ?_)
    | (with_reducible refine Run.skip ?_)
    | (with_reducible refine Run.ret ?_)
    | (with_reducible refine Run.exit ?_)
    | (with_reducible refine Run.block ?_)
    | (with_reducible refine Run.scope ?_)
    | (with_reducible refine Run.label ?_)
    | ((with_reducible refine Run.regionSelf ?_); ((with_reducible apply Run.lst); (· conv => lhs; whnf)))
    | (with_reducible refine RunL.nil ?_)
    | ((with_reducible refine RunL.self ?_); (first
      | ((with_reducible apply RunL.oFp v0_ok); (· rfl); (· rfl); (· rfl); (· rfl); (· rfl); (· conv => lhs; whnf); (· rfl); (· conv => lhs; whnf))
      | ((with_reducible apply RunL.oFr v0_ok); (· rfl); (· rfl); (· rfl); (· rfl); (· rfl); (· conv => lhs; whnf); (· rfl); (· conv => lhs; whnf))
      | ((with_reducible apply RunL.oBox v0_ok); (· rfl); (· rfl); (· conv => lhs; whnf); (· rfl); (· rfl); (· conv => lhs; whnf); (· conv => lhs; whnf); (· conv => lhs; simp only [List.length_cons, List.length_nil, Nat.zero_add, Nat.reduceAdd]); (· conv => lhs; simp only [List.cons_append, List.nil_append]))
      | ((with_reducible apply RunL.oAl v0_ok); (· rfl); (· fail); (· rfl); (· conv => lhs; whnf); (· rfl); (· conv => lhs; simp only [List.length_cons, List.length_nil, Nat.zero_add, Nat.reduceAdd]); (· conv => lhs; simp only [List.cons_append, List.nil_append]))
      | ((with_reducible apply RunL.oSt); (· rfl); (· rfl); (· conv => lhs; whnf); (· rfl); (· rfl); (· rfl); (· rfl); (· rfl); (· conv => lhs; whnf); (· conv => lhs; whnf); (· rfl); (· rfl); (· rfl); (· conv => lhs; simp only [setAll, List.set_cons_zero, List.set_cons_succ, Nat.reduceAdd, Nat.zero_add]); (· conv => lhs; simp only [List.set_cons_zero, List.set_cons_succ]); (· (repeat' (first | exact .flat rfl | exact PureL.nil | assumption | apply PureL.cons | apply Pure.agg' | apply Pure.tuple' | apply Pure.rptr' | exact pure_strs _ | exact pure_items _ | exact pure_val _ | exact pure_auds _ | exact pure_refL _ _)); done))
      | ((with_reducible apply RunL.oStM); (· rfl); (· rfl); (· conv => lhs; whnf); (· rfl); (· rfl); (· rfl); (· rfl); (· rfl); (· conv => lhs; whnf); (· conv => lhs; whnf); (· rfl); (· rfl); (· rfl); (· conv => lhs; simp only [setAll, List.set_cons_zero, List.set_cons_succ, Nat.reduceAdd, Nat.zero_add]); (· conv => lhs; simp only [List.set_cons_zero, List.set_cons_succ]); (· conv => lhs; whnf))
      | ((with_reducible apply RunL.oLa v0_ok); (· rfl); (· rfl); (· rfl); (· conv => lhs; whnf); (· rfl); (· rfl); (· rfl); (· conv => lhs; whnf); (· rfl); (· rfl); (· conv => lhs; simp only [List.drop_zero, List.drop_succ_cons, List.take_succ_cons, List.take_zero, take_leCells]))
      | ((with_reducible apply RunL.oI v0_ok); (· rfl); (· rfl); (· rfl); (· rfl); (· rfl); (· exact aindexAddr_arrN (by rfl) (by rfl) (by omega)))
      | ((with_reducible apply RunL.o v0_ok); (· rfl); (· conv => lhs; whnf); (· rfl); (· conv => lhs; whnf); (· rfl); (· conv => lhs; whnf); try ((with_reducible apply RunL.spl); (all_goals (intro hb <;> (try simp only [List.length_map] at hb) <;> (first | replace hb := bne_iff_ne.1 hb | replace hb := bne_eq_false_iff_eq.1 hb | replace hb := of_decide_eq_true hb | replace hb := of_decide_eq_false hb | replace hb := eq_of_beq hb | replace hb := ne_of_beq_false hb | skip) <;> (first | contradiction | (exfalso; omega) | skip)))))
      | ((with_reducible apply RunL.oS); (· rfl); (· conv => lhs; whnf); (· rfl))
      | ((with_reducible apply RunL.oN v0_ok); (· rfl); (· rfl); (· rfl))
      | ((with_reducible apply RunL.oSN); (· rfl); (· rfl))))
    | ((with_reducible refine Run.condSelf ?_); (first
      | ((with_reducible apply Run.condT); (· rfl))
      | ((with_reducible apply Run.condF); (· rfl))
      | ((with_reducible apply Run.condK); (· rfl); (all_goals (intro hb <;> (try simp only [List.length_map] at hb) <;> (first | replace hb := bne_iff_ne.1 hb | replace hb := bne_eq_false_iff_eq.1 hb | replace hb := of_decide_eq_true hb | replace hb := of_decide_eq_false hb | replace hb := eq_of_beq hb | replace hb := ne_of_beq_false hb | skip) <;> (first | contradiction | (exfalso; omega) | skip)))))))
  all_goals
    change EndF _ _ _ _ _
    refine EndF.mk (.inr rfl) rfl (by rfl) (by conv => lhs; whnf) (.pure (.flat rfl)) ?_
    simp [isB, *]

def leqB (n : Int) (le : Nat → Nat → Bool) (a b : Int) : Bool := isB n a && isB n b && le a.toNat b.toNat

theorem leq_ok (n a b : Int) (le : Nat → Nat → Bool) (hn : n ≤ 8) : Fn Tryz.prog 25 [.agg (refL n le), .int .i64 a, .int .i64 b] fun y => y = .bool (leqB n le a b) := by
  show Fn Tryz.prog 25 [.agg (refL n le), .int .i64 a, .int .i64 b] _
  refine Fn.mk1 Tryz.func25 rfl (by (repeat' (first | exact .flat rfl | exact PureL.nil | assumption | apply PureL.cons | apply Pure.agg' | apply Pure.tuple' | apply Pure.rptr' | exact pure_strs _ | exact pure_items _ | exact pure_val _ | exact pure_auds _ | exact pure_refL _ _))) (by (repeat' (first | exact .flat rfl | exact PureL.nil | assumption | apply PureL.cons | apply Pure.agg' | apply Pure.tuple' | apply Pure.rptr' | exact pure_strs _ | exact pure_items _ | exact pure_val _ | exact pure_auds _ | exact pure_refL _ _))) ?_
  rw [show enterFr Tryz.f25 [.agg (refL n le), .int .i64 a, .int .i64 b] = ⟨23, .upd (.upd (.upd .emp 0 (.agg (refL n le))) 1 (.int .i64 a)) 2 (.int .i64 b)⟩ from rfl]
  repeat' (first
    | (with_reducible refine andThen_normal ?_)
    | (with_reducible refine andThen_ret ?_)
    | (with_reducible refine inBlk_normal ?_)
    | (with_reducible refine inBlk_ret ?_)
    | (with_reducible refine inBlk_hit ?_)
    | (with_reducible refine andThen_exit ?_)
    | ((with_reducible refine inBlk_miss ?_ ?_); (· rfl))
    | (with_reducible refine Run.seq ?_)
    | (with_reducible refine Run.skip ?_)
    | (with_reducible refine Run.ret ?_)
    | (with_reducible refine Run.exit ?_)
    | (with_reducible refine Run.block ?_)
    | (with_reducible refine Run.scope ?_)
    | (with_reducible refine Run.label ?_)
    | ((with_reducible refine Run.regionSelf ?_); ((with_reducible apply Run.lst); (· conv => lhs; whnf)))
    | (with_reducible refine RunL.nil ?_)
    | ((with_reducible refine RunL.self ?_); (first
      | ((with_reducible apply RunL.oFp v0_ok); (· rfl); (· rfl); (· rfl); (· rfl); (· rfl); (· conv => lhs; whnf); (· rfl); (· conv => lhs; whnf))
      | ((with_reducible apply RunL.oFr v0_ok); (· rfl); (· rfl); (· rfl); (· rfl); (· rfl); (· conv => lhs; whnf); (· rfl); (· conv => lhs; whnf))
      | ((with_reducible apply RunL.oBox v0_ok); (· rfl); (· rfl); (· conv => lhs; whnf); (· rfl); (· rfl); (· conv => lhs; whnf); (· conv => lhs; whnf); (· conv => lhs; simp only [List.length_cons, List.length_nil, Nat.zero_add, Nat.reduceAdd]); (· conv => lhs; simp only [List.cons_append, List.nil_append]))
      | ((with_reducible apply RunL.oAl v0_ok); (· rfl); (· fail); (· rfl); (· conv => lhs; whnf); (· rfl); (· conv => lhs; simp only [List.length_cons, List.length_nil, Nat.zero_add, Nat.reduceAdd]); (· conv => lhs; simp only [List.cons_append, List.nil_append]))
      | ((with_reducible apply RunL.oSt); (· rfl); (· rfl); (· conv => lhs; whnf); (· rfl); (· rfl); (· rfl); (· rfl); (· rfl); (· conv => lhs; whnf); (· conv => lhs; whnf); (· rfl); (· rfl); (· rfl); (· conv => lhs; simp only [setAll, List.set_cons_zero, List.set_cons_succ, Nat.reduceAdd, Nat.zero_add]); (· conv => lhs; simp only [List.set_cons_zero, List.set_cons_succ]); (· (repeat' (first | exact .flat rfl | exact PureL.nil | assumption | apply PureL.cons | apply Pure.agg' | apply Pure.tuple' | apply Pure.rptr' | exact pure_strs _ | exact pure_items _ | exact pure_val _ | exact pure_auds _ | exact pure_refL _ _)); done))
      | ((with_reducible apply RunL.oStM); (· rfl); (· rfl); (· conv => lhs; whnf); (· rfl); (· rfl); (· rfl); (· rfl); (· rfl); (· conv => lhs; whnf); (· conv => lhs; whnf); (· rfl); (· rfl); (· rfl); (· conv => lhs; simp only [setAll, List.set_cons_zero, List.set_cons_succ, Nat.reduceAdd, Nat.zero_add]); (· conv => lhs; simp only [List.set_cons_zero, List.set_cons_succ]); (· conv => lhs; whnf))
      | ((with_reducible apply RunL.oLa v0_ok); (· rfl); (· rfl); (· rfl); (· conv => lhs; whnf); (· rfl); (· rfl); (· rfl); (· conv => lhs; whnf); (· rfl); (· rfl); (· conv => lhs; simp only [List.drop_zero, List.drop_succ_cons, List.take_succ_cons, List.take_zero, take_leCells]))
      | ((with_reducible apply RunL.oI v0_ok); (· rfl); (· rfl); (· rfl); (· rfl); (· rfl); (· exact aindexAddr_arrN (by rfl) (by rfl) (by omega)))
      | ((with_reducible apply RunL.oI v0_ok); (· rfl); (· rfl); (· rfl); (· rfl); (· rfl); (· exact aindexAddr_arr (by rfl) (by rfl) (by omega) (by omega)))
      | ((with_reducible apply RunL.oLd v0_ok); (· rfl); (· rfl); (· rfl); (· rfl); (· exact aload_own (by rfl) (by rfl) (refL_get _ _ (by omega) (by omega))); try ((with_reducible apply RunL.spl); (all_goals (intro hb <;> (try simp only [List.length_map] at hb) <;> (first | replace hb := isB_true hb | replace hb := bne_iff_ne.1 hb | replace hb := bne_eq_false_iff_eq.1 hb | replace hb := of_decide_eq_true hb | replace hb := of_decide_eq_false hb | replace hb := eq_of_beq hb | replace hb := ne_of_beq_false hb | skip) <;> (first | contradiction | (exfalso; omega) | skip)))))
      | ((with_reducible apply RunL.o v0_ok); (· rfl); (· conv => lhs; whnf); (· rfl); (· conv => lhs; whnf); (· rfl); (· conv => lhs; whnf); try ((with_reducible apply RunL.spl); (all_goals (intro hb <;> (try simp only [List.length_map] at hb) <;> (first | replace hb := isB_true hb | replace hb := bne_iff_ne.1 hb | replace hb := bne_eq_false_iff_eq.1 hb | replace hb := of_decide_eq_true hb | replace hb := of_decide_eq_false hb | replace hb := eq_of_beq hb | replace hb := ne_of_beq_false hb | skip) <;> (first | contradiction | (exfalso; omega) | skip)))))
      | ((with_reducible apply RunL.oS); (· rfl); (· conv => lhs; whnf); (· rfl))
      | ((with_reducible apply RunL.oN v0_ok); (· rfl); (· rfl); (· rfl))
      | ((with_reducible apply RunL.oSN); (· rfl); (· rfl))
      | ((with_reducible apply RunL.oF1 v0_ok (is_ok _ _ _)); (· rfl); (· rfl); (· rfl))))
    | ((with_reducible refine Run.condSelf ?_); (first
      | ((with_reducible apply Run.condT); (· rfl))
      | ((with_reducible apply Run.condF); (· rfl))
      | ((with_reducible apply Run.condK); (· rfl); (all_goals (intro hb <;> (try simp only [List.length_map] at hb) <;> (first | replace hb := isB_true hb | replace hb := bne_iff_ne.1 hb | replace hb := bne_eq_false_iff_eq.1 hb | replace hb := of_decide_eq_true hb | replace hb := of_decide_eq_false hb | replace hb := eq_of_beq hb | replace hb := ne_of_beq_false hb | skip) <;> (first | contradiction | (exfalso; omega) | skip)))))))
  all_goals
    change EndF _ _ _ _ _
    refine EndF.mk (.inr rfl) rfl (by rfl) (by conv => lhs; whnf) (.pure (.flat rfl)) ?_
    simp_all [leqB, isB]
    try (intros; omega)

/-- What of a record an observer sees. -/
def sel (see : Int → Bool) (l : List Aud) : List Val := (l.filter fun a => see a.to).map (·.v)

theorem sel_take {see : Int → Bool} {l : List Aud} {i : Nat} {a : Aud} (ha : l[i]? = some a) : sel see (l.take (i + 1)) = sel see (l.take i) ++ (if see a.to then [a.v] else []) := by
  obtain ⟨h1, h2⟩ := List.getElem?_eq_some_iff.1 ha
  rw [List.take_succ_eq_append_getElem h1, h2]
  unfold sel
  rw [List.filter_append, List.map_append]
  congr 1
  by_cases h : see a.to = true <;> simp [List.filter_cons, h]

theorem cellsL_append (l m : List Val) : Val.cellsL (l ++ m) = Val.cellsL l ++ Val.cellsL m := by simp [cellsL_eq]

theorem sel_len (see : Int → Bool) (l : List Aud) (i : Nat) : (Val.cellsL (sel see (l.take i))).length ≤ l.length := by
  rw [cellsL_len]
  unfold sel
  rw [List.length_map]
  have := List.length_filter_le (fun a : Aud => see a.to) (l.take i)
  have := List.length_take_le i l
  simp at *
  omega

theorem seq_ref (n : Int) (le : Nat → Nat → Bool) (l : List Aud) (lev : Int) (hn : n ≤ 8) (hl : l.length ≤ 1048576) : Fn Tryz.prog 10 [.agg (refL n le), auds l, .int .i64 lev] fun y => y = items (sel (fun to => leqB n le to lev) l) := by
  show Fn Tryz.prog 10 [.agg (refL n le), auds l, .int .i64 lev] _
  refine Fn.mk1 Tryz.func10 rfl (by (repeat' (first | exact .flat rfl | exact PureL.nil | assumption | apply PureL.cons | apply Pure.agg' | apply Pure.tuple' | apply Pure.rptr' | exact pure_strs _ | exact pure_items _ | exact pure_val _ | exact pure_auds _ | exact pure_refL _ _))) (by (repeat' (first | exact .flat rfl | exact PureL.nil | assumption | apply PureL.cons | apply Pure.agg' | apply Pure.tuple' | apply Pure.rptr' | exact pure_strs _ | exact pure_items _ | exact pure_val _ | exact pure_auds _ | exact pure_refL _ _))) ?_
  rw [show enterFr Tryz.f10 [.agg (refL n le), auds l, .int .i64 lev] = ⟨32, .upd (.upd (.upd .emp 0 (.agg (refL n le))) 1 (auds l)) 2 (.int .i64 lev)⟩ from rfl]
  repeat' (first
    | (with_reducible refine andThen_normal ?_)
    | (with_reducible refine andThen_ret ?_)
    | (with_reducible refine inBlk_normal ?_)
    | (with_reducible refine inBlk_ret ?_)
    | (with_reducible refine inBlk_hit ?_)
    | (with_reducible refine andThen_exit ?_)
    | ((with_reducible refine inBlk_miss ?_ ?_); (· rfl))
    | (with_reducible refine Run.seq ?_)
    | (with_reducible refine Run.skip ?_)
    | (with_reducible refine Run.ret ?_)
    | (with_reducible refine Run.exit ?_)
    | (with_reducible refine Run.block ?_)
    | (with_reducible refine Run.scope ?_)
    | (with_reducible refine Run.label ?_)
    | ((with_reducible refine Run.regionSelf ?_); ((with_reducible apply Run.lst); (· conv => lhs; whnf)))
    | (with_reducible refine RunL.nil ?_)
    | ((with_reducible refine RunL.self ?_); (first
      | ((with_reducible apply RunL.oFp v0_ok); (· rfl); (· rfl); (· rfl); (· rfl); (· rfl); (· conv => lhs; whnf); (· rfl); (· conv => lhs; whnf))
      | ((with_reducible apply RunL.oFr v0_ok); (· rfl); (· rfl); (· rfl); (· rfl); (· rfl); (· conv => lhs; whnf); (· rfl); (· conv => lhs; whnf))
      | ((with_reducible apply RunL.oBox v0_ok); (· rfl); (· rfl); (· conv => lhs; whnf); (· rfl); (· rfl); (· conv => lhs; whnf); (· conv => lhs; whnf); (· conv => lhs; simp only [List.length_cons, List.length_nil, Nat.zero_add, Nat.reduceAdd]); (· conv => lhs; simp only [List.cons_append, List.nil_append]))
      | ((with_reducible apply RunL.oAl v0_ok); (· rfl); (· fail); (· rfl); (· conv => lhs; whnf); (· rfl); (· conv => lhs; simp only [List.length_cons, List.length_nil, Nat.zero_add, Nat.reduceAdd]); (· conv => lhs; simp only [List.cons_append, List.nil_append]))
      | ((with_reducible apply RunL.oSt); (· rfl); (· rfl); (· conv => lhs; whnf); (· rfl); (· rfl); (· rfl); (· rfl); (· rfl); (· conv => lhs; whnf); (· conv => lhs; whnf); (· rfl); (· rfl); (· rfl); (· conv => lhs; simp only [setAll, List.set_cons_zero, List.set_cons_succ, Nat.reduceAdd, Nat.zero_add]); (· conv => lhs; simp only [List.set_cons_zero, List.set_cons_succ]); (· (repeat' (first | exact .flat rfl | exact PureL.nil | assumption | apply PureL.cons | apply Pure.agg' | apply Pure.tuple' | apply Pure.rptr' | exact pure_strs _ | exact pure_items _ | exact pure_val _ | exact pure_auds _ | exact pure_refL _ _)); done))
      | ((with_reducible apply RunL.oStM); (· rfl); (· rfl); (· conv => lhs; whnf); (· rfl); (· rfl); (· rfl); (· rfl); (· rfl); (· conv => lhs; whnf); (· conv => lhs; whnf); (· rfl); (· rfl); (· rfl); (· conv => lhs; simp only [setAll, List.set_cons_zero, List.set_cons_succ, Nat.reduceAdd, Nat.zero_add]); (· conv => lhs; simp only [List.set_cons_zero, List.set_cons_succ]); (· conv => lhs; whnf))
      | ((with_reducible apply RunL.oLa v0_ok); (· rfl); (· rfl); (· rfl); (· conv => lhs; whnf); (· rfl); (· rfl); (· rfl); (· conv => lhs; whnf); (· rfl); (· rfl); (· conv => lhs; simp only [List.drop_zero, List.drop_succ_cons, List.take_succ_cons, List.take_zero, take_leCells, Aud.cells, Val.cells]))
      | ((with_reducible apply RunL.oI v0_ok); (· rfl); (· rfl); (· rfl); (· rfl); (· rfl); (· exact aindexAddr_arrN (by rfl) (by rfl) (by omega)))
      | ((with_reducible apply RunL.oI v0_ok); (· rfl); (· rfl); (· rfl); (· rfl); (· rfl); (· exact aindexAddr_arr (by rfl) (by rfl) (by omega) (by omega)))
      | ((with_reducible apply RunL.oLd v0_ok); (· rfl); (· rfl); (· rfl); (· rfl); (· exact aload_own (by rfl) (by rfl) (refL_get _ _ (by omega) (by omega))); try ((with_reducible apply RunL.spl); (all_goals (intro hb <;> (try simp only [List.length_map] at hb) <;> (first | replace hb := bne_iff_ne.1 hb | replace hb := bne_eq_false_iff_eq.1 hb | replace hb := of_decide_eq_true hb | replace hb := of_decide_eq_false hb | replace hb := eq_of_beq hb | replace hb := ne_of_beq_false hb | skip) <;> (first | contradiction | (exfalso; omega) | skip)))))
      | ((with_reducible apply RunL.o v0_ok); (· rfl); (· conv => lhs; whnf); (· rfl); (· conv => lhs; whnf); (· rfl); (· conv => lhs; whnf); try ((with_reducible apply RunL.spl); (all_goals (intro hb <;> (try simp only [List.length_map] at hb) <;> (first | replace hb := bne_iff_ne.1 hb | replace hb := bne_eq_false_iff_eq.1 hb | replace hb := of_decide_eq_true hb | replace hb := of_decide_eq_false hb | replace hb := eq_of_beq hb | replace hb := ne_of_beq_false hb | skip) <;> (first | contradiction | (exfalso; omega) | skip)))))
      | ((with_reducible apply RunL.oS); (· rfl); (· conv => lhs; whnf); (· rfl))
      | ((with_reducible apply RunL.oN v0_ok); (· rfl); (· rfl); (· rfl))
      | ((with_reducible apply RunL.oSN); (· rfl); (· rfl))))
    | ((with_reducible refine Run.condSelf ?_); (first
      | ((with_reducible apply Run.condT); (· rfl))
      | ((with_reducible apply Run.condF); (· rfl))
      | ((with_reducible apply Run.condK); (· rfl); (all_goals (intro hb <;> (try simp only [List.length_map] at hb) <;> (first | replace hb := bne_iff_ne.1 hb | replace hb := bne_eq_false_iff_eq.1 hb | replace hb := of_decide_eq_true hb | replace hb := of_decide_eq_false hb | replace hb := eq_of_beq hb | replace hb := ne_of_beq_false hb | skip) <;> (first | contradiction | (exfalso; omega) | skip)))))))
  refine Run.nilAt 7 6 (by rfl) ?_
  refine Run.loopK 32 (fun i : Nat => l.length - i) (fun i => i ≤ l.length) (fun i => [(1, auds l), (2, .int .i64 lev), (3, .ptr 0 0), (7, accS 0 6 (Val.cellsL (sel (fun to => leqB n le to lev) (l.take i)))), (8, .int .i64 (i : Int))])
    (fun i => ⟨[.cells (refL n le)], accG [] (Val.cellsL (sel (fun to => leqB n le to lev) (l.take i))), 1000000⟩) 0 (Nat.zero_le _) (.same rfl ⟨rfl, rfl, rfl, rfl, rfl, trivial⟩ rfl rfl) (fun i h1 => ?_)
  repeat' (first
    | (with_reducible refine andThen_normal ?_)
    | (with_reducible refine andThen_ret ?_)
    | (with_reducible refine inBlk_normal ?_)
    | (with_reducible refine inBlk_ret ?_)
    | (with_reducible refine inBlk_hit ?_)
    | (with_reducible refine andThen_exit ?_)
    | ((with_reducible refine inBlk_miss ?_ ?_); (· rfl))
    | (with_reducible refine Run.seq ?_)
    | (with_reducible refine Run.skip ?_)
    | (with_reducible refine Run.ret ?_)
    | (with_reducible refine Run.exit ?_)
    | (with_reducible refine Run.block ?_)
    | (with_reducible refine Run.scope ?_)
    | (with_reducible refine Run.label ?_)
    | ((with_reducible refine Run.regionSelf ?_); ((with_reducible apply Run.lst); (· conv => lhs; whnf)))
    | (with_reducible refine RunL.nil ?_)
    | ((with_reducible refine RunL.self ?_); (first
      | ((with_reducible apply RunL.oFp v0_ok); (· rfl); (· rfl); (· rfl); (· rfl); (· rfl); (· conv => lhs; whnf); (· rfl); (· conv => lhs; whnf))
      | ((with_reducible apply RunL.oFr v0_ok); (· rfl); (· rfl); (· rfl); (· rfl); (· rfl); (· conv => lhs; whnf); (· rfl); (· conv => lhs; whnf))
      | ((with_reducible apply RunL.oBox v0_ok); (· rfl); (· rfl); (· conv => lhs; whnf); (· rfl); (· rfl); (· conv => lhs; whnf); (· conv => lhs; whnf); (· conv => lhs; simp only [List.length_cons, List.length_nil, Nat.zero_add, Nat.reduceAdd]); (· conv => lhs; simp only [List.cons_append, List.nil_append]))
      | ((with_reducible apply RunL.oAl v0_ok); (· rfl); (· fail); (· rfl); (· conv => lhs; whnf); (· rfl); (· conv => lhs; simp only [List.length_cons, List.length_nil, Nat.zero_add, Nat.reduceAdd]); (· conv => lhs; simp only [List.cons_append, List.nil_append]))
      | ((with_reducible apply RunL.oSt); (· rfl); (· rfl); (· conv => lhs; whnf); (· rfl); (· rfl); (· rfl); (· rfl); (· rfl); (· conv => lhs; whnf); (· conv => lhs; whnf); (· rfl); (· rfl); (· rfl); (· conv => lhs; simp only [setAll, List.set_cons_zero, List.set_cons_succ, Nat.reduceAdd, Nat.zero_add]); (· conv => lhs; simp only [List.set_cons_zero, List.set_cons_succ]); (· (repeat' (first | exact .flat rfl | exact PureL.nil | assumption | apply PureL.cons | apply Pure.agg' | apply Pure.tuple' | apply Pure.rptr' | exact pure_strs _ | exact pure_items _ | exact pure_val _ | exact pure_auds _ | exact pure_refL _ _)); done))
      | ((with_reducible apply RunL.oStM); (· rfl); (· rfl); (· conv => lhs; whnf); (· rfl); (· rfl); (· rfl); (· rfl); (· rfl); (· conv => lhs; whnf); (· conv => lhs; whnf); (· rfl); (· rfl); (· rfl); (· conv => lhs; simp only [setAll, List.set_cons_zero, List.set_cons_succ, Nat.reduceAdd, Nat.zero_add]); (· conv => lhs; simp only [List.set_cons_zero, List.set_cons_succ]); (· conv => lhs; whnf))
      | ((with_reducible apply RunL.oLa v0_ok); (· rfl); (· rfl); (· rfl); (· conv => lhs; whnf); (· rfl); (· rfl); (· rfl); (· conv => lhs; whnf); (· rfl); (· rfl); (· conv => lhs; simp only [List.drop_zero, List.drop_succ_cons, List.take_succ_cons, List.take_zero, take_leCells, Aud.cells, Val.cells]))
      | ((with_reducible apply RunL.oI v0_ok); (· rfl); (· rfl); (· rfl); (· rfl); (· rfl); (· exact aindexAddr_arrN (by rfl) (by rfl) (by omega)))
      | ((with_reducible apply RunL.oI v0_ok); (· rfl); (· rfl); (· rfl); (· rfl); (· rfl); (· exact aindexAddr_arr (by rfl) (by rfl) (by omega) (by omega)))
      | ((with_reducible apply RunL.oLd v0_ok); (· rfl); (· rfl); (· rfl); (· rfl); (· exact aload_own (by rfl) (by rfl) (refL_get _ _ (by omega) (by omega))); try ((with_reducible apply RunL.spl); (all_goals (intro hb <;> (try simp only [List.length_map] at hb) <;> (first | replace hb := bne_iff_ne.1 hb | replace hb := bne_eq_false_iff_eq.1 hb | replace hb := of_decide_eq_true hb | replace hb := of_decide_eq_false hb | replace hb := eq_of_beq hb | replace hb := ne_of_beq_false hb | skip) <;> (first | contradiction | (exfalso; omega) | skip)))))
      | ((with_reducible apply RunL.o v0_ok); (· rfl); (· conv => lhs; whnf); (· rfl); (· conv => lhs; whnf); (· rfl); (· conv => lhs; whnf); try ((with_reducible apply RunL.spl); (all_goals (intro hb <;> (try simp only [List.length_map] at hb) <;> (first | replace hb := bne_iff_ne.1 hb | replace hb := bne_eq_false_iff_eq.1 hb | replace hb := of_decide_eq_true hb | replace hb := of_decide_eq_false hb | replace hb := eq_of_beq hb | replace hb := ne_of_beq_false hb | skip) <;> (first | contradiction | (exfalso; omega) | skip)))))
      | ((with_reducible apply RunL.oS); (· rfl); (· conv => lhs; whnf); (· rfl))
      | ((with_reducible apply RunL.oN v0_ok); (· rfl); (· rfl); (· rfl))
      | ((with_reducible apply RunL.oSN); (· rfl); (· rfl))))
    | ((with_reducible refine Run.condSelf ?_); (first
      | ((with_reducible apply Run.condT); (· rfl))
      | ((with_reducible apply Run.condF); (· rfl))
      | ((with_reducible apply Run.condK); (· rfl); (all_goals (intro hb <;> (try simp only [List.length_map] at hb) <;> (first | replace hb := bne_iff_ne.1 hb | replace hb := bne_eq_false_iff_eq.1 hb | replace hb := of_decide_eq_true hb | replace hb := of_decide_eq_false hb | replace hb := eq_of_beq hb | replace hb := ne_of_beq_false hb | skip) <;> (first | contradiction | (exfalso; omega) | skip)))))))
  · obtain ⟨a, ha, ham⟩ := get_of_lt (l := l) (i := i) (by omega)
    have hlen := sel_len (fun to => leqB n le to lev) l i
    have ht := sel_take (see := fun to => leqB n le to lev) ha
    obtain ⟨r1, r2, node, frm, to, ⟨k1, n1, f1, s1, nm1, it1⟩⟩ := a
    have hc := leq_ok n to lev le hn
    generalize hb0 : leqB n le to lev = b0 at hc
    dsimp only at ht
    rw [hb0] at ht
    apply Run.draw v0_ok (orc_ok ((hc).ok _) noCalls_ok)
    case hl =>
      repeat' (first | exact lex_nil | (apply lex_o; (· rfl); (· rfl); (· apply stepD_call; (· rfl); (· exact orc_self _ _ _ _ _)); (· rfl)) | (apply lex_oI; (· rfl); (· rfl); (· rfl); (· rfl); (· rfl); (· exact aindexAddr_slc (by rfl) (by rfl) (auds_get (by assumption)))) | (apply lex_oI; (· rfl); (· rfl); (· rfl); (· rfl); (· rfl); (· exact aindexAddr_arrN (by rfl) (by rfl) (by omega))) | (apply lex_oI; (· rfl); (· rfl); (· rfl); (· rfl); (· rfl); (· exact aindexAddr_arr (by rfl) (by rfl) (by omega) (by omega))) | (apply lex_oLd; (· rfl); (· rfl); (· rfl); (· rfl); (· exact aload_own (by rfl) (by rfl) (refL_get _ _ (by omega) (by omega)))) | (apply lex_o; (· rfl); (· rfl); (· apply stepD_ok; rfl); (· conv => lhs; whnf)) | (apply lex_oS; (· rfl); (· rfl)) | (apply lex_oN; (· rfl); (· rfl); (· apply stepD_ok; rfl); (· rfl)))
    case hc => kernel_rfl
    case hf => rfl
    case hq =>
      repeat' (first
        | (with_reducible refine andThen_normal ?_)
        | (with_reducible refine andThen_ret ?_)
        | (with_reducible refine inBlk_normal ?_)
        | (with_reducible refine inBlk_ret ?_)
        | (with_reducible refine inBlk_hit ?_)
        | (with_reducible refine andThen_exit ?_)
        | ((with_reducible refine inBlk_miss ?_ ?_); (· rfl))
        | (with_reducible refine Run.seq ?_)
        | (with_reducible refine Run.skip ?_)
        | (with_reducible refine Run.ret ?_)
        | (with_reducible refine Run.exit ?_)
        | (with_reducible refine Run.block ?_)
        | (with_reducible refine Run.scope ?_)
        | (with_reducible refine Run.label ?_)
        | ((with_reducible refine Run.regionSelf ?_); ((with_reducible apply Run.lst); (· conv => lhs; whnf)))
        | (with_reducible refine RunL.nil ?_)
        | ((with_reducible refine RunL.self ?_); (first
          | ((with_reducible apply RunL.oFp v0_ok); (· rfl); (· rfl); (· rfl); (· rfl); (· rfl); (· conv => lhs; whnf); (· rfl); (· conv => lhs; whnf))
          | ((with_reducible apply RunL.oFr v0_ok); (· rfl); (· rfl); (· rfl); (· rfl); (· rfl); (· conv => lhs; whnf); (· rfl); (· conv => lhs; whnf))
          | ((with_reducible apply RunL.oBox v0_ok); (· rfl); (· rfl); (· conv => lhs; whnf); (· rfl); (· rfl); (· conv => lhs; whnf); (· conv => lhs; whnf); (· conv => lhs; simp only [List.length_cons, List.length_nil, Nat.zero_add, Nat.reduceAdd]); (· conv => lhs; simp only [List.cons_append, List.nil_append]))
          | ((with_reducible apply RunL.oAl v0_ok); (· rfl); (· fail); (· rfl); (· conv => lhs; whnf); (· rfl); (· conv => lhs; simp only [List.length_cons, List.length_nil, Nat.zero_add, Nat.reduceAdd]); (· conv => lhs; simp only [List.cons_append, List.nil_append]))
          | ((with_reducible apply RunL.oSt); (· rfl); (· rfl); (· conv => lhs; whnf); (· rfl); (· rfl); (· rfl); (· rfl); (· rfl); (· conv => lhs; whnf); (· conv => lhs; whnf); (· rfl); (· rfl); (· rfl); (· conv => lhs; simp only [setAll, List.set_cons_zero, List.set_cons_succ, Nat.reduceAdd, Nat.zero_add]); (· conv => lhs; simp only [List.set_cons_zero, List.set_cons_succ]); (· (repeat' (first | exact .flat rfl | exact PureL.nil | assumption | apply PureL.cons | apply Pure.agg' | apply Pure.tuple' | apply Pure.rptr' | exact pure_strs _ | exact pure_items _ | exact pure_val _ | exact pure_auds _ | exact pure_refL _ _)); done))
          | ((with_reducible apply RunL.oStM); (· rfl); (· rfl); (· conv => lhs; whnf); (· rfl); (· rfl); (· rfl); (· rfl); (· rfl); (· conv => lhs; whnf); (· conv => lhs; whnf); (· rfl); (· rfl); (· rfl); (· conv => lhs; simp only [setAll, List.set_cons_zero, List.set_cons_succ, Nat.reduceAdd, Nat.zero_add]); (· conv => lhs; simp only [List.set_cons_zero, List.set_cons_succ]); (· conv => lhs; whnf))
          | ((with_reducible apply RunL.oLa v0_ok); (· rfl); (· rfl); (· rfl); (· conv => lhs; whnf); (· rfl); (· rfl); (· rfl); (· conv => lhs; whnf); (· rfl); (· rfl); (· conv => lhs; simp only [List.drop_zero, List.drop_succ_cons, List.take_succ_cons, List.take_zero, take_leCells, Aud.cells, Val.cells]))
          | ((with_reducible apply RunL.oI v0_ok); (· rfl); (· rfl); (· rfl); (· rfl); (· rfl); (· exact aindexAddr_arrN (by rfl) (by rfl) (by omega)))
          | ((with_reducible apply RunL.oI v0_ok); (· rfl); (· rfl); (· rfl); (· rfl); (· rfl); (· exact aindexAddr_arr (by rfl) (by rfl) (by omega) (by omega)))
          | ((with_reducible apply RunL.oLd v0_ok); (· rfl); (· rfl); (· rfl); (· rfl); (· exact aload_own (by rfl) (by rfl) (refL_get _ _ (by omega) (by omega))); try ((with_reducible apply RunL.spl); (all_goals (intro hb <;> (try simp only [List.length_map] at hb) <;> (first | replace hb := bne_iff_ne.1 hb | replace hb := bne_eq_false_iff_eq.1 hb | replace hb := of_decide_eq_true hb | replace hb := of_decide_eq_false hb | replace hb := eq_of_beq hb | replace hb := ne_of_beq_false hb | skip) <;> (first | contradiction | (exfalso; omega) | skip)))))
          | ((with_reducible apply RunL.o v0_ok); (· rfl); (· conv => lhs; whnf); (· rfl); (· conv => lhs; whnf); (· rfl); (· conv => lhs; whnf); try ((with_reducible apply RunL.spl); (all_goals (intro hb <;> (try simp only [List.length_map] at hb) <;> (first | replace hb := bne_iff_ne.1 hb | replace hb := bne_eq_false_iff_eq.1 hb | replace hb := of_decide_eq_true hb | replace hb := of_decide_eq_false hb | replace hb := eq_of_beq hb | replace hb := ne_of_beq_false hb | skip) <;> (first | contradiction | (exfalso; omega) | skip)))))
          | ((with_reducible apply RunL.oS); (· rfl); (· conv => lhs; whnf); (· rfl))
          | ((with_reducible apply RunL.oN v0_ok); (· rfl); (· rfl); (· rfl))
          | ((with_reducible apply RunL.oSN); (· rfl); (· rfl))))
        | ((with_reducible refine Run.condSelf ?_); (first
          | ((with_reducible apply Run.condT); (· rfl))
          | ((with_reducible apply Run.condF); (· rfl))
          | ((with_reducible apply Run.condK); (· rfl); (all_goals (intro hb <;> (try simp only [List.length_map] at hb) <;> (first | replace hb := bne_iff_ne.1 hb | replace hb := bne_eq_false_iff_eq.1 hb | replace hb := of_decide_eq_true hb | replace hb := of_decide_eq_false hb | replace hb := eq_of_beq hb | replace hb := ne_of_beq_false hb | skip) <;> (first | contradiction | (exfalso; omega) | skip)))))))
      · obtain rfl := ‹b0 = true›
        refine RunL.oI v0_ok (by rfl) (by rfl) (by rfl) (by rfl) (by rfl) (aindexAddr_slc (by rfl) (by rfl) (auds_get ha)) ?_
        repeat' (first
          | (with_reducible refine andThen_normal ?_)
          | (with_reducible refine andThen_ret ?_)
          | (with_reducible refine inBlk_normal ?_)
          | (with_reducible refine inBlk_ret ?_)
          | (with_reducible refine inBlk_hit ?_)
          | (with_reducible refine andThen_exit ?_)
          | ((with_reducible refine inBlk_miss ?_ ?_); (· rfl))
          | (with_reducible refine Run.seq ?_)
          | (with_reducible refine Run.skip ?_)
          | (with_reducible refine Run.ret ?_)
          | (with_reducible refine Run.exit ?_)
          | (with_reducible refine Run.block ?_)
          | (with_reducible refine Run.scope ?_)
          | (with_reducible refine Run.label ?_)
          | ((with_reducible refine Run.regionSelf ?_); ((with_reducible apply Run.lst); (· conv => lhs; whnf)))
          | (with_reducible refine RunL.nil ?_)
          | ((with_reducible refine RunL.self ?_); (first
            | ((with_reducible apply RunL.oFp v0_ok); (· rfl); (· rfl); (· rfl); (· rfl); (· rfl); (· conv => lhs; whnf); (· rfl); (· conv => lhs; whnf))
            | ((with_reducible apply RunL.oFr v0_ok); (· rfl); (· rfl); (· rfl); (· rfl); (· rfl); (· conv => lhs; whnf); (· rfl); (· conv => lhs; whnf))
            | ((with_reducible apply RunL.oBox v0_ok); (· rfl); (· rfl); (· conv => lhs; whnf); (· rfl); (· rfl); (· conv => lhs; whnf); (· conv => lhs; whnf); (· conv => lhs; simp only [List.length_cons, List.length_nil, Nat.zero_add, Nat.reduceAdd]); (· conv => lhs; simp only [List.cons_append, List.nil_append]))
            | ((with_reducible apply RunL.oAl v0_ok); (· rfl); (· fail); (· rfl); (· conv => lhs; whnf); (· rfl); (· conv => lhs; simp only [List.length_cons, List.length_nil, Nat.zero_add, Nat.reduceAdd]); (· conv => lhs; simp only [List.cons_append, List.nil_append]))
            | ((with_reducible apply RunL.oSt); (· rfl); (· rfl); (· conv => lhs; whnf); (· rfl); (· rfl); (· rfl); (· rfl); (· rfl); (· conv => lhs; whnf); (· conv => lhs; whnf); (· rfl); (· rfl); (· rfl); (· conv => lhs; simp only [setAll, List.set_cons_zero, List.set_cons_succ, Nat.reduceAdd, Nat.zero_add]); (· conv => lhs; simp only [List.set_cons_zero, List.set_cons_succ]); (· (repeat' (first | exact .flat rfl | exact PureL.nil | assumption | apply PureL.cons | apply Pure.agg' | apply Pure.tuple' | apply Pure.rptr' | exact pure_strs _ | exact pure_items _ | exact pure_val _ | exact pure_auds _ | exact pure_refL _ _)); done))
            | ((with_reducible apply RunL.oStM); (· rfl); (· rfl); (· conv => lhs; whnf); (· rfl); (· rfl); (· rfl); (· rfl); (· rfl); (· conv => lhs; whnf); (· conv => lhs; whnf); (· rfl); (· rfl); (· rfl); (· conv => lhs; simp only [setAll, List.set_cons_zero, List.set_cons_succ, Nat.reduceAdd, Nat.zero_add]); (· conv => lhs; simp only [List.set_cons_zero, List.set_cons_succ]); (· conv => lhs; whnf))
            | ((with_reducible apply RunL.oLa v0_ok); (· rfl); (· rfl); (· rfl); (· conv => lhs; whnf); (· rfl); (· rfl); (· rfl); (· conv => lhs; whnf); (· rfl); (· rfl); (· conv => lhs; simp only [List.drop_zero, List.drop_succ_cons, List.take_succ_cons, List.take_zero, take_leCells, Aud.cells, Val.cells]))
            | ((with_reducible apply RunL.oI v0_ok); (· rfl); (· rfl); (· rfl); (· rfl); (· rfl); (· exact aindexAddr_arrN (by rfl) (by rfl) (by omega)))
            | ((with_reducible apply RunL.oI v0_ok); (· rfl); (· rfl); (· rfl); (· rfl); (· rfl); (· exact aindexAddr_arr (by rfl) (by rfl) (by omega) (by omega)))
            | ((with_reducible apply RunL.oLd v0_ok); (· rfl); (· rfl); (· rfl); (· rfl); (· exact aload_own (by rfl) (by rfl) (refL_get _ _ (by omega) (by omega))); try ((with_reducible apply RunL.spl); (all_goals (intro hb <;> (try simp only [List.length_map] at hb) <;> (first | replace hb := bne_iff_ne.1 hb | replace hb := bne_eq_false_iff_eq.1 hb | replace hb := of_decide_eq_true hb | replace hb := of_decide_eq_false hb | replace hb := eq_of_beq hb | replace hb := ne_of_beq_false hb | skip) <;> (first | contradiction | (exfalso; omega) | skip)))))
            | ((with_reducible apply RunL.o v0_ok); (· rfl); (· conv => lhs; whnf); (· rfl); (· conv => lhs; whnf); (· rfl); (· conv => lhs; whnf); try ((with_reducible apply RunL.spl); (all_goals (intro hb <;> (try simp only [List.length_map] at hb) <;> (first | replace hb := bne_iff_ne.1 hb | replace hb := bne_eq_false_iff_eq.1 hb | replace hb := of_decide_eq_true hb | replace hb := of_decide_eq_false hb | replace hb := eq_of_beq hb | replace hb := ne_of_beq_false hb | skip) <;> (first | contradiction | (exfalso; omega) | skip)))))
            | ((with_reducible apply RunL.oS); (· rfl); (· conv => lhs; whnf); (· rfl))
            | ((with_reducible apply RunL.oN v0_ok); (· rfl); (· rfl); (· rfl))
            | ((with_reducible apply RunL.oSN); (· rfl); (· rfl))))
          | ((with_reducible refine Run.condSelf ?_); (first
            | ((with_reducible apply Run.condT); (· rfl))
            | ((with_reducible apply Run.condF); (· rfl))
            | ((with_reducible apply Run.condK); (· rfl); (all_goals (intro hb <;> (try simp only [List.length_map] at hb) <;> (first | replace hb := bne_iff_ne.1 hb | replace hb := bne_eq_false_iff_eq.1 hb | replace hb := of_decide_eq_true hb | replace hb := of_decide_eq_false hb | replace hb := eq_of_beq hb | replace hb := ne_of_beq_false hb | skip) <;> (first | contradiction | (exfalso; omega) | skip)))))))
        refine RunL.oA v0_ok (g := 0) (E := 6) (es := Val.cellsL (sel (fun to => leqB n le to lev) (l.take i))) (gl0 := []) (nb := 88) (news := [(Val.mk k1 n1 f1 s1 nm1 it1).cells]) (by rfl) (by rfl) (by rfl) (by rfl) (by rfl) (by rfl) (by rfl) (by rfl) (by rfl) (by rfl) (by rfl) (by rfl) (by rfl) (by rfl) (by rfl) ?_ ?_ ?_ ?_
        · rfl
        · rfl
        · simp; omega
        repeat' (first
          | (with_reducible refine andThen_normal ?_)
          | (with_reducible refine andThen_ret ?_)
          | (with_reducible refine inBlk_normal ?_)
          | (with_reducible refine inBlk_ret ?_)
          | (with_reducible refine inBlk_hit ?_)
          | (with_reducible refine andThen_exit ?_)
          | ((with_reducible refine inBlk_miss ?_ ?_); (· rfl))
          | (with_reducible refine Run.seq ?_)
          | (with_reducible refine Run.skip ?_)
          | (with_reducible refine Run.ret ?_)
          | (with_reducible refine Run.exit ?_)
          | (with_reducible refine Run.block ?_)
          | (with_reducible refine Run.scope ?_)
          | (with_reducible refine Run.label ?_)
          | ((with_reducible refine Run.regionSelf ?_); ((with_reducible apply Run.lst); (· conv => lhs; whnf)))
          | (with_reducible refine RunL.nil ?_)
          | ((with_reducible refine RunL.self ?_); (first
            | ((with_reducible apply RunL.oFp v0_ok); (· rfl); (· rfl); (· rfl); (· rfl); (· rfl); (· conv => lhs; whnf); (· rfl); (· conv => lhs; whnf))
            | ((with_reducible apply RunL.oFr v0_ok); (· rfl); (· rfl); (· rfl); (· rfl); (· rfl); (· conv => lhs; whnf); (· rfl); (· conv => lhs; whnf))
            | ((with_reducible apply RunL.oBox v0_ok); (· rfl); (· rfl); (· conv => lhs; whnf); (· rfl); (· rfl); (· conv => lhs; whnf); (· conv => lhs; whnf); (· conv => lhs; simp only [List.length_cons, List.length_nil, Nat.zero_add, Nat.reduceAdd]); (· conv => lhs; simp only [List.cons_append, List.nil_append]))
            | ((with_reducible apply RunL.oAl v0_ok); (· rfl); (· fail); (· rfl); (· conv => lhs; whnf); (· rfl); (· conv => lhs; simp only [List.length_cons, List.length_nil, Nat.zero_add, Nat.reduceAdd]); (· conv => lhs; simp only [List.cons_append, List.nil_append]))
            | ((with_reducible apply RunL.oSt); (· rfl); (· rfl); (· conv => lhs; whnf); (· rfl); (· rfl); (· rfl); (· rfl); (· rfl); (· conv => lhs; whnf); (· conv => lhs; whnf); (· rfl); (· rfl); (· rfl); (· conv => lhs; simp only [setAll, List.set_cons_zero, List.set_cons_succ, Nat.reduceAdd, Nat.zero_add]); (· conv => lhs; simp only [List.set_cons_zero, List.set_cons_succ]); (· (repeat' (first | exact .flat rfl | exact PureL.nil | assumption | apply PureL.cons | apply Pure.agg' | apply Pure.tuple' | apply Pure.rptr' | exact pure_strs _ | exact pure_items _ | exact pure_val _ | exact pure_auds _ | exact pure_refL _ _)); done))
            | ((with_reducible apply RunL.oStM); (· rfl); (· rfl); (· conv => lhs; whnf); (· rfl); (· rfl); (· rfl); (· rfl); (· rfl); (· conv => lhs; whnf); (· conv => lhs; whnf); (· rfl); (· rfl); (· rfl); (· conv => lhs; simp only [setAll, List.set_cons_zero, List.set_cons_succ, Nat.reduceAdd, Nat.zero_add]); (· conv => lhs; simp only [List.set_cons_zero, List.set_cons_succ]); (· conv => lhs; whnf))
            | ((with_reducible apply RunL.oLa v0_ok); (· rfl); (· rfl); (· rfl); (· conv => lhs; whnf); (· rfl); (· rfl); (· rfl); (· conv => lhs; whnf); (· rfl); (· rfl); (· conv => lhs; simp only [List.drop_zero, List.drop_succ_cons, List.take_succ_cons, List.take_zero, take_leCells, Aud.cells, Val.cells]))
            | ((with_reducible apply RunL.oI v0_ok); (· rfl); (· rfl); (· rfl); (· rfl); (· rfl); (· exact aindexAddr_arrN (by rfl) (by rfl) (by omega)))
            | ((with_reducible apply RunL.oI v0_ok); (· rfl); (· rfl); (· rfl); (· rfl); (· rfl); (· exact aindexAddr_arr (by rfl) (by rfl) (by omega) (by omega)))
            | ((with_reducible apply RunL.oLd v0_ok); (· rfl); (· rfl); (· rfl); (· rfl); (· exact aload_own (by rfl) (by rfl) (refL_get _ _ (by omega) (by omega))); try ((with_reducible apply RunL.spl); (all_goals (intro hb <;> (try simp only [List.length_map] at hb) <;> (first | replace hb := bne_iff_ne.1 hb | replace hb := bne_eq_false_iff_eq.1 hb | replace hb := of_decide_eq_true hb | replace hb := of_decide_eq_false hb | replace hb := eq_of_beq hb | replace hb := ne_of_beq_false hb | skip) <;> (first | contradiction | (exfalso; omega) | skip)))))
            | ((with_reducible apply RunL.o v0_ok); (· rfl); (· conv => lhs; whnf); (· rfl); (· conv => lhs; whnf); (· rfl); (· conv => lhs; whnf); try ((with_reducible apply RunL.spl); (all_goals (intro hb <;> (try simp only [List.length_map] at hb) <;> (first | replace hb := bne_iff_ne.1 hb | replace hb := bne_eq_false_iff_eq.1 hb | replace hb := of_decide_eq_true hb | replace hb := of_decide_eq_false hb | replace hb := eq_of_beq hb | replace hb := ne_of_beq_false hb | skip) <;> (first | contradiction | (exfalso; omega) | skip)))))
            | ((with_reducible apply RunL.oS); (· rfl); (· conv => lhs; whnf); (· rfl))
            | ((with_reducible apply RunL.oN v0_ok); (· rfl); (· rfl); (· rfl))
            | ((with_reducible apply RunL.oSN); (· rfl); (· rfl))))
          | ((with_reducible refine Run.condSelf ?_); (first
            | ((with_reducible apply Run.condT); (· rfl))
            | ((with_reducible apply Run.condF); (· rfl))
            | ((with_reducible apply Run.condK); (· rfl); (all_goals (intro hb <;> (try simp only [List.length_map] at hb) <;> (first | replace hb := bne_iff_ne.1 hb | replace hb := bne_eq_false_iff_eq.1 hb | replace hb := of_decide_eq_true hb | replace hb := of_decide_eq_false hb | replace hb := eq_of_beq hb | replace hb := ne_of_beq_false hb | skip) <;> (first | contradiction | (exfalso; omega) | skip)))))))
        have ht' : Val.cellsL (sel (fun to => leqB n le to lev) (l.take i)) ++ [(Val.mk k1 n1 f1 s1 nm1 it1).cells] = Val.cellsL (sel (fun to => leqB n le to lev) (l.take (i + 1))) := by
          rw [ht, cellsL_append]; rfl
        exact ⟨i + 1, by omega, by omega, .same rfl ⟨rfl, rfl, rfl, get_eq' rfl (congrArg (accS 0 6) ht'), get_int rfl (by rw [IntWalk.i64_in _ (by omega)]; omega), trivial⟩ rfl (by rw [← ht'])⟩
      · obtain rfl := ‹b0 = false›
        have ht' : Val.cellsL (sel (fun to => leqB n le to lev) (l.take i)) = Val.cellsL (sel (fun to => leqB n le to lev) (l.take (i + 1))) := by
          rw [ht, cellsL_append]; simp [Val.cellsL]
        exact ⟨i + 1, by omega, by omega, .same rfl ⟨rfl, rfl, rfl, get_eq' rfl (congrArg (accS 0 6) ht'), get_int rfl (by rw [IntWalk.i64_in _ (by omega)]; omega), trivial⟩ rfl (by rw [← ht'])⟩
  · obtain rfl : i = l.length := by omega
    change EndF _ _ _ _ _
    refine EndF.mk (r := .slc .r 6 (Val.cellsL (sel (fun to => leqB n le to lev) (l.take l.length)))) (.inr rfl) rfl (by rfl) (by conv => lhs; whnf) (by exact .slcP (Val.pureLL _)) ?_
    rw [List.take_length]

end Go.Proofs.YtgikapdeekepiaaGreatDoor
