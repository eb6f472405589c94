/- AuditSequence: the program's lattice: least. -/
import Derived.Test.YtgikapdeekepiaaGreatDoorAs5
namespace Go.Proofs.YtgikapdeekepiaaGreatDoor
open Go
set_option maxRecDepth 100000
set_option maxHeartbeats 1000000
set_option linter.unusedVariables false

theorem tz_facts : ∀ x : Fin 256, x.1 ≠ 0 → tzI x.1 < 8 ∧ x.1.testBit (tzI x.1) = true ∧ (∀ d : Fin 8, x.1.testBit d.1 = true → tzI x.1 ≤ d.1) ∧
    (∀ d : Fin 8, (x.1 - 2 ^ tzI x.1).testBit d.1 = (x.1.testBit d.1 && (d.1 != tzI x.1))) ∧
    IntKind.u8.wrap ((BitVec.ofInt 8 (x.1 : Int) &&& BitVec.ofInt 8 (IntKind.u8.wrap ((x.1 : Int) - 1))).toNat : Int) = ((x.1 - 2 ^ tzI x.1 : Nat) : Int) := by decide +kernel

/-- The first of a row. -/
def tzF (f : Nat → Bool) : Nat := tzI (row8 (f 0) (f 1) (f 2) (f 3) (f 4) (f 5) (f 6) (f 7))

theorem tzF_ok {f : Nat → Bool} (h : rowI f ≠ 0) : tzF f < 8 ∧ f (tzF f) = true ∧ (∀ d, d < 8 → f d = true → tzF f ≤ d) ∧
    IntKind.u8.wrap ((BitVec.ofInt 8 (rowI f) &&& BitVec.ofInt 8 (IntKind.u8.wrap (rowI f - 1))).toNat : Int) = rowI fun d => f d && (d != tzF f) := by
  have hx := row8_lt (f 0) (f 1) (f 2) (f 3) (f 4) (f 5) (f 6) (f 7)
  have h0 : row8 (f 0) (f 1) (f 2) (f 3) (f 4) (f 5) (f 6) (f 7) ≠ 0 := by
    intro e; apply h; unfold rowI; rw [e]; rfl
  obtain ⟨h1, h2, h3, h4, h5⟩ := tz_facts ⟨_, hx⟩ h0
  dsimp only at h1 h2 h3 h4 h5
  refine ⟨h1, ?_, fun d hd hf => h3 ⟨d, hd⟩ (by rw [rowI_bit hd]; exact hf), ?_⟩
  · show f (tzI (row8 (f 0) (f 1) (f 2) (f 3) (f 4) (f 5) (f 6) (f 7))) = true
    rw [← rowI_bit (f := f) h1]; exact h2
  · unfold rowI at *
    rw [h5]
    have : row8 (f 0) (f 1) (f 2) (f 3) (f 4) (f 5) (f 6) (f 7) - 2 ^ tzI (row8 (f 0) (f 1) (f 2) (f 3) (f 4) (f 5) (f 6) (f 7)) = row8 (f 0 && (0 != tzF f)) (f 1 && (1 != tzF f)) (f 2 && (2 != tzF f)) (f 3 && (3 != tzF f)) (f 4 && (4 != tzF f)) (f 5 && (5 != tzF f)) (f 6 && (6 != tzF f)) (f 7 && (7 != tzF f)) := by
      refine nat8_ext (Nat.lt_of_le_of_lt (Nat.sub_le _ _) hx) (row8_lt ..) fun d hd => ?_
      rw [h4 ⟨d, hd⟩, rowI_bit hd, rowI_bit (f := fun d => f d && (d != tzF f)) hd]
      rfl
    rw [this]

theorem tzF_int (f : Nat → Bool) : Fn Tryz.prog 54 [.int .u8 (rowI f)] fun y => y = .int .i64 (tzF f) := tz_ok _ (row8_lt ..)

def okLeast (S : Nat → Bool) (L : Nat → Nat → Bool) (c : Nat) : Bool := S c && (List.range 8).all fun d => !S d || L c d

def leastFrom (S : Nat → Bool) (L : Nat → Nat → Bool) (i : Nat) : Int :=
  match ((List.range 8).drop i).find? (okLeast S L) with
  | some c => c
  | none => -1

def leastI (S : Nat → Bool) (L : Nat → Nat → Bool) : Int := leastFrom S L 0

theorem leastFrom_step {S : Nat → Bool} {L : Nat → Nat → Bool} {i : Nat} (h : i < 8) : leastFrom S L i = if okLeast S L i = true then (i : Int) else leastFrom S L (i + 1) := by
  unfold leastFrom
  have hd : (List.range 8).drop i = i :: (List.range 8).drop (i + 1) := drop_of_get (by simp [h])
  rw [hd, List.find?_cons]
  cases okLeast S L i <;> rfl

theorem leastFrom_skip {S : Nat → Bool} {L : Nat → Nat → Bool} {i : Nat} : ∀ {k : Nat}, i + k ≤ 8 → (∀ d, i ≤ d → d < i + k → S d = false) → leastFrom S L i = leastFrom S L (i + k)
  | 0, _, _ => rfl
  | k + 1, h, hs => by
    rw [leastFrom_skip (k := k) (by omega) (fun d h1 h2 => hs d h1 (by omega)), leastFrom_step (by omega), if_neg]
    · rfl
    · simp [okLeast, hs (i + k) (by omega) (by omega)]

theorem leastFrom_end {S : Nat → Bool} {L : Nat → Nat → Bool} : leastFrom S L 8 = -1 := rfl

theorem rowsR_get {L : Nat → Nat → Bool} {R : List AV} {a : Nat} (h : a < 8) : ((rowC L ++ R).drop (a * 1))[0]? = some (.int .u8 (rowI (L a))) := by
  rw [List.getElem?_drop, Nat.mul_one, Nat.add_zero, List.getElem?_append_left (by rw [rowC_len]; exact h), rowC_get h]

theorem okLeast_iff {S : Nat → Bool} {L : Nat → Nat → Bool} {c : Nat} (hc : S c = true) : okLeast S L c = true ↔ rowI (fun i => L c i && S i) = rowI S := by
  unfold okLeast
  simp only [hc, Bool.true_and, List.all_eq_true, List.mem_range, Bool.or_eq_true, Bool.not_eq_true']
  constructor
  · intro h
    refine rowI_congr fun d hd => ?_
    rcases h d hd with h1 | h1
    · simp [h1]
    · simp [h1]
  · intro h d hd
    have := rowI_inj h d hd
    cases hs : S d with
    | false => exact .inl rfl
    | true => right; simpa [hs] using this

theorem rowI_zero {f : Nat → Bool} (h : rowI f = 0) : ∀ d, d < 8 → f d = false := by
  intro d hd
  have : rowI f = rowI fun _ => false := h
  exact rowI_inj this d hd

theorem least_ok (S : Nat → Bool) (L : Nat → Nat → Bool) (R : List AV) (hR : ∀ c ∈ R, c.flat = true) : Fn Tryz.prog 36 [.int .u8 (rowI S), .rptr (rowC L ++ R)] fun y => y = .int .i8 (leastI S L) := by
  have hp : Pure (.rptr (rowC L ++ R)) := by
    refine .rptr fun c hc => ?_
    simp only [rowC, List.mem_append, List.mem_map] at hc
    rcases hc with ⟨_, _, rfl⟩ | hc
    · exact .flat rfl
    · exact .flat (hR c hc)
  show Fn Tryz.prog 36 [.int .u8 (rowI S), .rptr (rowC L ++ R)] _
  refine Fn.mk1 Tryz.func36 rfl (by (repeat' (first | exact .flat rfl | exact PureL.nil | assumption | apply PureL.cons | apply Pure.agg' | apply Pure.tuple' | apply Pure.rptr' | exact pure_lat _ _ _ _ _))) (by (repeat' (first | exact .flat rfl | exact PureL.nil | assumption | apply PureL.cons | apply Pure.agg' | apply Pure.tuple' | apply Pure.rptr' | exact pure_lat _ _ _ _ _))) ?_
  rw [show enterFr Tryz.f36 [.int .u8 (rowI S), .rptr (rowC L ++ R)] = ⟨27, .upd (.upd .emp 0 (.int .u8 (rowI S))) 1 (.rptr (rowC L ++ R))⟩ from rfl]
  repeat' (first
    | (with_reducible refine andThen_normal ?_)
    | (with_reducible refine andThen_ret ?_)
    | (with_reducible refine inBlk_normal ?_)
    | (with_reducible refine inBlk_ret ?_)
    | (with_reducible refine inBlk_hit ?_)
    | (with_reducible refine andThen_exit ?_)
    | ((with_reducible refine inBlk_miss ?_ ?_); (· rfl))
    | (with_reducible refine Run.seq ?_)
    | (with_reducible refine Run.skip ?_)
    | (with_reducible refine Run.ret ?_)
    | (with_reducible refine Run.exit ?_)
    | (with_reducible refine Run.block ?_)
    | (with_reducible refine Run.scope ?_)
    | (with_reducible refine Run.label ?_)
    | ((with_reducible refine Run.regionSelf ?_); ((with_reducible apply Run.lst); (· conv => lhs; whnf)))
    | (with_reducible refine RunL.nil ?_)
    | ((with_reducible refine RunL.self ?_); (first
      | ((with_reducible apply RunL.oFp v0_ok); (· rfl); (· rfl); (· rfl); (· rfl); (· rfl); (· conv => lhs; whnf); (· rfl); (· conv => lhs; whnf))
      | ((with_reducible apply RunL.oFr v0_ok); (· rfl); (· rfl); (· rfl); (· rfl); (· rfl); (· conv => lhs; whnf); (· rfl); (· conv => lhs; whnf))
      | ((with_reducible apply RunL.oBox v0_ok); (· rfl); (· rfl); (· conv => lhs; whnf); (· rfl); (· rfl); (· conv => lhs; whnf); (· conv => lhs; whnf); (· conv => lhs; simp only [List.length_cons, List.length_nil, Nat.zero_add, Nat.reduceAdd]); (· conv => lhs; simp only [List.cons_append, List.nil_append]))
      | ((with_reducible apply RunL.oAl v0_ok); (· rfl); (· fail); (· rfl); (· conv => lhs; whnf); (· rfl); (· conv => lhs; simp only [List.length_cons, List.length_nil, Nat.zero_add, Nat.reduceAdd]); (· conv => lhs; simp only [List.cons_append, List.nil_append]))
      | ((with_reducible apply RunL.oSt); (· rfl); (· rfl); (· conv => lhs; whnf); (· rfl); (· rfl); (· rfl); (· rfl); (· rfl); (· conv => lhs; whnf); (· conv => lhs; whnf); (· rfl); (· rfl); (· rfl); (· conv => lhs; simp only [setAll, List.set_cons_zero, List.set_cons_succ, Nat.reduceAdd, Nat.zero_add]); (· conv => lhs; simp only [List.set_cons_zero, List.set_cons_succ]); (· (repeat' (first | exact .flat rfl | exact PureL.nil | assumption | apply PureL.cons | apply Pure.agg' | apply Pure.tuple' | apply Pure.rptr' | exact pure_lat _ _ _ _ _)); done))
      | ((with_reducible apply RunL.oStM); (· rfl); (· rfl); (· conv => lhs; whnf); (· rfl); (· rfl); (· rfl); (· rfl); (· rfl); (· conv => lhs; whnf); (· conv => lhs; whnf); (· rfl); (· rfl); (· rfl); (· conv => lhs; simp only [setAll, List.set_cons_zero, List.set_cons_succ, Nat.reduceAdd, Nat.zero_add]); (· conv => lhs; simp only [List.set_cons_zero, List.set_cons_succ]); (· conv => lhs; whnf))
      | ((with_reducible apply RunL.oLa v0_ok); (· rfl); (· rfl); (· rfl); (· conv => lhs; whnf); (· rfl); (· rfl); (· rfl); (· conv => lhs; whnf); (· rfl); (· rfl); (· conv => lhs; simp only [List.drop_zero, List.drop_succ_cons, List.take_succ_cons, List.take_zero]))
      | ((with_reducible apply RunL.oI v0_ok); (· rfl); (· rfl); (· rfl); (· rfl); (· rfl); (· exact aindexAddr_arrN (by rfl) (by rfl) (by omega)))
      | ((with_reducible apply RunL.o v0_ok); (· rfl); (· conv => lhs; whnf); (· rfl); (· conv => lhs; whnf); (· rfl); (· conv => lhs; whnf); try ((with_reducible apply RunL.spl); (all_goals (intro hb <;> (try simp only [List.length_map] at hb) <;> (first | replace hb := bne_iff_ne.1 hb | replace hb := bne_eq_false_iff_eq.1 hb | replace hb := of_decide_eq_true hb | replace hb := of_decide_eq_false hb | replace hb := eq_of_beq hb | replace hb := ne_of_beq_false hb | skip) <;> (first | contradiction | (exfalso; omega) | skip)))))
      | ((with_reducible apply RunL.oS); (· rfl); (· conv => lhs; whnf); (· rfl))
      | ((with_reducible apply RunL.oN v0_ok); (· rfl); (· rfl); (· rfl))
      | ((with_reducible apply RunL.oSN); (· rfl); (· rfl))))
    | ((with_reducible refine Run.condSelf ?_); (first
      | ((with_reducible apply Run.condT); (· rfl))
      | ((with_reducible apply Run.condF); (· rfl))
      | ((with_reducible apply Run.condK); (· rfl); (all_goals (intro hb <;> (try simp only [List.length_map] at hb) <;> (first | replace hb := bne_iff_ne.1 hb | replace hb := bne_eq_false_iff_eq.1 hb | replace hb := of_decide_eq_true hb | replace hb := of_decide_eq_false hb | replace hb := eq_of_beq hb | replace hb := ne_of_beq_false hb | skip) <;> (first | contradiction | (exfalso; omega) | skip)))))))
  refine Run.loopK 27 (fun i : Nat => 8 - i) (fun i => i ≤ 8 ∧ leastI S L = leastFrom S L i) (fun i => [(0, .int .u8 (rowI S)), (1, .rptr (rowC L ++ R)), (5, .int .u8 (rowI fun d => decide (i ≤ d) && S d))])
    (fun _ => ⟨[], [], 1000000⟩) 0 ⟨Nat.zero_le _, rfl⟩ (.same rfl ⟨rfl, rfl, get_int rfl (rowI_congr fun i _ => by simp), trivial⟩ rfl rfl) (fun i ⟨h1, h2⟩ => ?_)
  repeat' (first
    | (with_reducible refine andThen_normal ?_)
    | (with_reducible refine andThen_ret ?_)
    | (with_reducible refine inBlk_normal ?_)
    | (with_reducible refine inBlk_ret ?_)
    | (with_reducible refine inBlk_hit ?_)
    | (with_reducible refine andThen_exit ?_)
    | ((with_reducible refine inBlk_miss ?_ ?_); (· rfl))
    | (with_reducible refine Run.seq ?_)
    | (with_reducible refine Run.skip ?_)
    | (with_reducible refine Run.ret ?_)
    | (with_reducible refine Run.exit ?_)
    | (with_reducible refine Run.block ?_)
    | (with_reducible refine Run.scope ?_)
    | (with_reducible refine Run.label ?_)
    | ((with_reducible refine Run.regionSelf ?_); ((with_reducible apply Run.lst); (· conv => lhs; whnf)))
    | (with_reducible refine RunL.nil ?_)
    | ((with_reducible refine RunL.self ?_); (first
      | ((with_reducible apply RunL.oFp v0_ok); (· rfl); (· rfl); (· rfl); (· rfl); (· rfl); (· conv => lhs; whnf); (· rfl); (· conv => lhs; whnf))
      | ((with_reducible apply RunL.oFr v0_ok); (· rfl); (· rfl); (· rfl); (· rfl); (· rfl); (· conv => lhs; whnf); (· rfl); (· conv => lhs; whnf))
      | ((with_reducible apply RunL.oBox v0_ok); (· rfl); (· rfl); (· conv => lhs; whnf); (· rfl); (· rfl); (· conv => lhs; whnf); (· conv => lhs; whnf); (· conv => lhs; simp only [List.length_cons, List.length_nil, Nat.zero_add, Nat.reduceAdd]); (· conv => lhs; simp only [List.cons_append, List.nil_append]))
      | ((with_reducible apply RunL.oAl v0_ok); (· rfl); (· fail); (· rfl); (· conv => lhs; whnf); (· rfl); (· conv => lhs; simp only [List.length_cons, List.length_nil, Nat.zero_add, Nat.reduceAdd]); (· conv => lhs; simp only [List.cons_append, List.nil_append]))
      | ((with_reducible apply RunL.oSt); (· rfl); (· rfl); (· conv => lhs; whnf); (· rfl); (· rfl); (· rfl); (· rfl); (· rfl); (· conv => lhs; whnf); (· conv => lhs; whnf); (· rfl); (· rfl); (· rfl); (· conv => lhs; simp only [setAll, List.set_cons_zero, List.set_cons_succ, Nat.reduceAdd, Nat.zero_add]); (· conv => lhs; simp only [List.set_cons_zero, List.set_cons_succ]); (· (repeat' (first | exact .flat rfl | exact PureL.nil | assumption | apply PureL.cons | apply Pure.agg' | apply Pure.tuple' | apply Pure.rptr' | exact pure_lat _ _ _ _ _)); done))
      | ((with_reducible apply RunL.oStM); (· rfl); (· rfl); (· conv => lhs; whnf); (· rfl); (· rfl); (· rfl); (· rfl); (· rfl); (· conv => lhs; whnf); (· conv => lhs; whnf); (· rfl); (· rfl); (· rfl); (· conv => lhs; simp only [setAll, List.set_cons_zero, List.set_cons_succ, Nat.reduceAdd, Nat.zero_add]); (· conv => lhs; simp only [List.set_cons_zero, List.set_cons_succ]); (· conv => lhs; whnf))
      | ((with_reducible apply RunL.oLa v0_ok); (· rfl); (· rfl); (· rfl); (· conv => lhs; whnf); (· rfl); (· rfl); (· rfl); (· conv => lhs; whnf); (· rfl); (· rfl); (· conv => lhs; simp only [List.drop_zero, List.drop_succ_cons, List.take_succ_cons, List.take_zero]))
      | ((with_reducible apply RunL.oI v0_ok); (· rfl); (· rfl); (· rfl); (· rfl); (· rfl); (· exact aindexAddr_arrR (by rfl) (by rfl) (by omega) (by omega)))
      | ((with_reducible apply RunL.oLd v0_ok); (· rfl); (· rfl); (· rfl); (· rfl); (· exact aload_rptr (by rfl) (rowsR_get (by omega))); try ((with_reducible apply RunL.spl); (all_goals (intro hb <;> (try simp only [List.length_map] at hb) <;> (first | replace hb := bne_iff_ne.1 hb | replace hb := bne_eq_false_iff_eq.1 hb | replace hb := of_decide_eq_true hb | replace hb := of_decide_eq_false hb | replace hb := eq_of_beq hb | replace hb := ne_of_beq_false hb | skip) <;> (first | contradiction | (exfalso; omega) | skip)))))
      | ((with_reducible apply RunL.o v0_ok); (· rfl); (· conv => lhs; whnf); (· rfl); (· conv => lhs; whnf); (· rfl); (· conv => lhs; whnf); try ((with_reducible apply RunL.spl); (all_goals (intro hb <;> (try simp only [List.length_map] at hb) <;> (first | replace hb := bne_iff_ne.1 hb | replace hb := bne_eq_false_iff_eq.1 hb | replace hb := of_decide_eq_true hb | replace hb := of_decide_eq_false hb | replace hb := eq_of_beq hb | replace hb := ne_of_beq_false hb | skip) <;> (first | contradiction | (exfalso; omega) | skip)))))
      | ((with_reducible apply RunL.oS); (· rfl); (· conv => lhs; whnf); (· rfl))
      | ((with_reducible apply RunL.oN v0_ok); (· rfl); (· rfl); (· rfl))
      | ((with_reducible apply RunL.oSN); (· rfl); (· rfl))))
    | ((with_reducible refine Run.condSelf ?_); (first
      | ((with_reducible apply Run.condT); (· rfl))
      | ((with_reducible apply Run.condF); (· rfl))
      | ((with_reducible apply Run.condK); (· rfl); (all_goals (intro hb <;> (try simp only [List.length_map] at hb) <;> (first | replace hb := bne_iff_ne.1 hb | replace hb := bne_eq_false_iff_eq.1 hb | replace hb := of_decide_eq_true hb | replace hb := of_decide_eq_false hb | replace hb := eq_of_beq hb | replace hb := ne_of_beq_false hb | skip) <;> (first | contradiction | (exfalso; omega) | skip)))))))
  · have hne := ‹¬ rowI _ = 0›
    obtain ⟨q1, q2, q3, q4⟩ := tzF_ok hne
    have hf := tzF_int fun d => decide (i ≤ d) && S d
    generalize hc : tzF (fun d => decide (i ≤ d) && S d) = c at *
    have hi : i ≤ c ∧ S c = true := by simpa using q2
    have hskip : leastFrom S L i = leastFrom S L c := by
      have := leastFrom_skip (S := S) (L := L) (i := i) (k := c - i) (by omega) (fun d h1 h2 => by
        cases hs : S d with
        | false => rfl
        | true => have := q3 d (by omega) (by simp [hs]; omega); omega)
      rwa [show i + (c - i) = c by omega] at this
    rw [hskip, leastFrom_step q1] at h2
    have hiff := okLeast_iff (L := L) hi.2
    repeat' (first
      | (with_reducible refine andThen_normal ?_)
      | (with_reducible refine andThen_ret ?_)
      | (with_reducible refine inBlk_normal ?_)
      | (with_reducible refine inBlk_ret ?_)
      | (with_reducible refine inBlk_hit ?_)
      | (with_reducible refine andThen_exit ?_)
      | ((with_reducible refine inBlk_miss ?_ ?_); (· rfl))
      | (with_reducible refine Run.seq ?_)
      | (with_reducible refine Run.skip ?_)
      | (with_reducible refine Run.ret ?_)
      | (with_reducible refine Run.exit ?_)
      | (with_reducible refine Run.block ?_)
      | (with_reducible refine Run.scope ?_)
      | (with_reducible refine Run.label ?_)
      | ((with_reducible refine Run.regionSelf ?_); ((with_reducible apply Run.lst); (· conv => lhs; whnf)))
      | (with_reducible refine RunL.nil ?_)
      | ((with_reducible refine RunL.self ?_); (first
        | ((with_reducible apply RunL.oFp v0_ok); (· rfl); (· rfl); (· rfl); (· rfl); (· rfl); (· conv => lhs; whnf); (· rfl); (· conv => lhs; whnf))
        | ((with_reducible apply RunL.oFr v0_ok); (· rfl); (· rfl); (· rfl); (· rfl); (· rfl); (· conv => lhs; whnf); (· rfl); (· conv => lhs; whnf))
        | ((with_reducible apply RunL.oBox v0_ok); (· rfl); (· rfl); (· conv => lhs; whnf); (· rfl); (· rfl); (· conv => lhs; whnf); (· conv => lhs; whnf); (· conv => lhs; simp only [List.length_cons, List.length_nil, Nat.zero_add, Nat.reduceAdd]); (· conv => lhs; simp only [List.cons_append, List.nil_append]))
        | ((with_reducible apply RunL.oAl v0_ok); (· rfl); (· fail); (· rfl); (· conv => lhs; whnf); (· rfl); (· conv => lhs; simp only [List.length_cons, List.length_nil, Nat.zero_add, Nat.reduceAdd]); (· conv => lhs; simp only [List.cons_append, List.nil_append]))
        | ((with_reducible apply RunL.oSt); (· rfl); (· rfl); (· conv => lhs; whnf); (· rfl); (· rfl); (· rfl); (· rfl); (· rfl); (· conv => lhs; whnf); (· conv => lhs; whnf); (· rfl); (· rfl); (· rfl); (· conv => lhs; simp only [setAll, List.set_cons_zero, List.set_cons_succ, Nat.reduceAdd, Nat.zero_add]); (· conv => lhs; simp only [List.set_cons_zero, List.set_cons_succ]); (· (repeat' (first | exact .flat rfl | exact PureL.nil | assumption | apply PureL.cons | apply Pure.agg' | apply Pure.tuple' | apply Pure.rptr' | exact pure_lat _ _ _ _ _)); done))
        | ((with_reducible apply RunL.oStM); (· rfl); (· rfl); (· conv => lhs; whnf); (· rfl); (· rfl); (· rfl); (· rfl); (· rfl); (· conv => lhs; whnf); (· conv => lhs; whnf); (· rfl); (· rfl); (· rfl); (· conv => lhs; simp only [setAll, List.set_cons_zero, List.set_cons_succ, Nat.reduceAdd, Nat.zero_add]); (· conv => lhs; simp only [List.set_cons_zero, List.set_cons_succ]); (· conv => lhs; whnf))
        | ((with_reducible apply RunL.oLa v0_ok); (· rfl); (· rfl); (· rfl); (· conv => lhs; whnf); (· rfl); (· rfl); (· rfl); (· conv => lhs; whnf); (· rfl); (· rfl); (· conv => lhs; simp only [List.drop_zero, List.drop_succ_cons, List.take_succ_cons, List.take_zero]))
        | ((with_reducible apply RunL.oI v0_ok); (· rfl); (· rfl); (· rfl); (· rfl); (· rfl); (· exact aindexAddr_arrR (by rfl) (by rfl) (by omega) (by omega)))
        | ((with_reducible apply RunL.oLd v0_ok); (· rfl); (· rfl); (· rfl); (· rfl); (· exact aload_rptr (by rfl) (rowsR_get (by omega))); try ((with_reducible apply RunL.spl); (all_goals (intro hb <;> (try simp only [List.length_map] at hb) <;> (first | replace hb := bne_iff_ne.1 hb | replace hb := bne_eq_false_iff_eq.1 hb | replace hb := of_decide_eq_true hb | replace hb := of_decide_eq_false hb | replace hb := eq_of_beq hb | replace hb := ne_of_beq_false hb | skip) <;> (first | contradiction | (exfalso; omega) | skip)))))
        | ((with_reducible apply RunL.o v0_ok); (· rfl); (· conv => lhs; whnf); (· rfl); (· conv => lhs; whnf); (· rfl); (· conv => lhs; whnf); try ((with_reducible apply RunL.spl); (all_goals (intro hb <;> (try simp only [List.length_map] at hb) <;> (first | replace hb := bne_iff_ne.1 hb | replace hb := bne_eq_false_iff_eq.1 hb | replace hb := of_decide_eq_true hb | replace hb := of_decide_eq_false hb | replace hb := eq_of_beq hb | replace hb := ne_of_beq_false hb | skip) <;> (first | contradiction | (exfalso; omega) | skip)))))
        | ((with_reducible apply RunL.oS); (· rfl); (· conv => lhs; whnf); (· rfl))
        | ((with_reducible apply RunL.oN v0_ok); (· rfl); (· rfl); (· rfl))
        | ((with_reducible apply RunL.oSN); (· rfl); (· rfl))
        | ((with_reducible apply RunL.oF1 v0_ok (hf)); (· rfl); (· rfl); (· rfl))))
      | ((with_reducible refine Run.condSelf ?_); (first
        | ((with_reducible apply Run.condT); (· rfl))
        | ((with_reducible apply Run.condF); (· rfl))
        | ((with_reducible apply Run.condK); (· rfl); (all_goals (intro hb <;> (try simp only [List.length_map] at hb) <;> (first | replace hb := bne_iff_ne.1 hb | replace hb := bne_eq_false_iff_eq.1 hb | replace hb := of_decide_eq_true hb | replace hb := of_decide_eq_false hb | replace hb := eq_of_beq hb | replace hb := ne_of_beq_false hb | skip) <;> (first | contradiction | (exfalso; omega) | skip)))))))
    · rename_i hb
      rw [if_pos (hiff.2 ((rowI_and (L c) S).symm.trans hb))] at h2
      change EndF _ _ _ _ _
      refine EndF.mk (.inr rfl) rfl (by rfl) (by conv => lhs; whnf) (.pure (.flat rfl)) ?_
      show AV.int _ _ = AV.int _ _
      rw [h2, IntWalk.i8_in _ (by omega)]
    · rename_i hb
      rw [if_neg (fun h => hb ((rowI_and (L c) S).trans (hiff.1 h)))] at h2
      refine ⟨c + 1, by omega, ⟨by omega, h2⟩, .same rfl ⟨rfl, rfl, get_int rfl (q4.trans (rowI_congr fun d hd => ?_)), trivial⟩ rfl rfl⟩
      cases hs : S d with
      | false => simp
      | true =>
        by_cases hid : i ≤ d
        · have := q3 d hd (by simp [hs, hid])
          by_cases hdc : d = c
          · subst hdc; simp
          · simp [hdc, hid, show c + 1 ≤ d by omega]
        · simp [hid, show ¬ c + 1 ≤ d by omega]
  · have hz := ‹rowI _ = 0›
    have hz' := rowI_zero hz
    change EndF _ _ _ _ _
    refine EndF.mk (.inr rfl) rfl (by rfl) (by conv => lhs; whnf) (.pure (.flat rfl)) ?_
    show AV.int _ _ = AV.int _ _
    rw [h2]
    have := leastFrom_skip (S := S) (L := L) (i := i) (k := 8 - i) (by omega) (fun d h1 h2 => by
      have := hz' d (by omega)
      simpa [h1] using this)
    rw [this, show i + (8 - i) = 8 by omega]
    rfl

end Go.Proofs.YtgikapdeekepiaaGreatDoor
