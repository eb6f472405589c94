/- AuditSequence: the program's lattice: tables. -/
import Derived.Test.YtgikapdeekepiaaGreatDoorAs7
namespace Go.Proofs.YtgikapdeekepiaaGreatDoor
open Go
set_option maxRecDepth 100000
set_option maxHeartbeats 1000000
set_option linter.unusedVariables false

theorem all_drop {n i : Nat} {f : Nat → Bool} (h : i < n) : ((List.range n).drop i).all f = (f i && ((List.range n).drop (i + 1)).all f) := by
  rw [drop_of_get (show (List.range n)[i]? = some i by simp [h]), List.all_cons]

theorem all_end {n : Nat} {f : Nat → Bool} : ((List.range n).drop n).all f = true := by
  rw [List.drop_of_length_le (by simp)]; rfl

def twin (up : Nat → Nat → Bool) (a b : Nat) : Bool := decide (a ≠ b) && up a b && up b a

def okAt (up dn : Nat → Nat → Bool) (a b : Nat) : Bool :=
  !twin up a b && decide (leastI (fun i => up a i && up b i) up ≥ 0) && decide (leastI (fun i => dn a i && dn b i) dn ≥ 0)

def okRow (n : Nat) (up dn : Nat → Nat → Bool) (a : Nat) : Bool := (List.range n).all (okAt up dn a)

def okT (n : Nat) (up dn : Nat → Nat → Bool) : Bool := (List.range n).all (okRow n up dn)

theorem tail_flat (up : Nat → Nat → Bool) (jn mt : Nat → Nat → Int) : ∀ c ∈ rowC up ++ (tabC jn ++ tabC mt), c.flat = true := by
  intro c hc
  simp only [rowC, tabC, List.mem_append, List.mem_map] at hc
  rcases hc with ⟨_, _, rfl⟩ | ⟨_, _, rfl⟩ | ⟨_, _, rfl⟩ <;> rfl

theorem tail_flat2 (jn mt : Nat → Nat → Int) : ∀ c ∈ tabC jn ++ tabC mt, c.flat = true := by
  intro c hc
  simp only [tabC, List.mem_append, List.mem_map] at hc
  rcases hc with ⟨_, _, rfl⟩ | ⟨_, _, rfl⟩ <;> rfl

theorem ptr_fz {objs : List AObj} {cs cs' : List AV} {off : Nat} (ho : objs[0]? = some (.cells cs)) (hd : cs.drop off = cs') (hf : ∀ c ∈ cs', c.flat = true) : Fz objs (.ptr 0 off) (.rptr cs') := by
  subst hd
  refine .ptr ho rfl fun i c c' h1 h2 => ?_
  rw [h1] at h2; cases h2
  exact .flat (hf c (List.mem_iff_getElem?.2 ⟨i, h1⟩))

theorem drop9 (n : Int) (up dn : Nat → Nat → Bool) (jn mt : Nat → Nat → Int) : (latC n up dn jn mt).drop 9 = rowC dn ++ (tabC jn ++ tabC mt) := by
  rw [show (9 : Nat) = 8 + 1 from rfl, latC, List.drop_succ_cons, List.drop_append, rowC_len, List.drop_of_length_le (by rw [rowC_len]; exact Nat.le_refl _)]
  rfl

theorem least_up {n : Int} {up dn : Nat → Nat → Bool} {jn mt : Nat → Nat → Int} (a b : Nat) (h : AH) (ho : h.objs[0]? = some (.cells (latC n up dn jn mt))) :
    CallOK Tryz.prog 36 [.int .u8 (IntKind.u8.wrap ((BitVec.ofInt IntKind.u8.bits (rowI (up a)) &&& BitVec.ofInt IntKind.u8.bits (rowI (up b))).toNat : Int)), .ptr 0 1] h (.ret (.int .i8 (leastI (fun i => up a i && up b i) up)) h) := by
  have e := rowI_and (up a) (up b)
  refine Fn.lentOK (args' := [.int .u8 (rowI fun i => up a i && up b i), .rptr (rowC up ++ (rowC dn ++ (tabC jn ++ tabC mt)))]) (least_ok _ up _ (tail_flat dn jn mt)) ⟨?_, ptr_fz ho rfl ?_, trivial⟩ rfl
  · rw [← e]; exact .flat rfl
  · intro c hc
    exact lat_flat n up dn jn mt c (List.mem_cons_of_mem _ hc)

theorem least_dn {n : Int} {up dn : Nat → Nat → Bool} {jn mt : Nat → Nat → Int} (a b : Nat) (h : AH) (ho : h.objs[0]? = some (.cells (latC n up dn jn mt))) :
    CallOK Tryz.prog 36 [.int .u8 (IntKind.u8.wrap ((BitVec.ofInt IntKind.u8.bits (rowI (dn a)) &&& BitVec.ofInt IntKind.u8.bits (rowI (dn b))).toNat : Int)), .ptr 0 9] h (.ret (.int .i8 (leastI (fun i => dn a i && dn b i) dn)) h) := by
  have e := rowI_and (dn a) (dn b)
  refine Fn.lentOK (args' := [.int .u8 (rowI fun i => dn a i && dn b i), .rptr (rowC dn ++ (tabC jn ++ tabC mt))]) (least_ok _ dn _ (tail_flat2 jn mt)) ⟨?_, ptr_fz ho (drop9 _ _ _ _ _) ?_, trivial⟩ rfl
  · rw [← e]; exact .flat rfl
  · intro c hc
    exact tail_flat dn jn mt c hc

theorem updT_self (g : Nat → Nat → Int) (a b : Nat) (x : Int) : updT g a b x a b = x := by simp [updT]

theorem okAt_pass {up dn : Nat → Nat → Bool} {a b : Nat} {x y : Int} (hx : leastI (fun i => up a i && up b i) up = x) (hy : leastI (fun i => dn a i && dn b i) dn = y) (h1 : x ≥ 0) (h2 : y ≥ 0) (h3 : a = b ∨ up a b = false ∨ up b a = false) : okAt up dn a b = true := by
  unfold okAt twin
  rw [hx, hy]
  rcases h3 with h | h | h <;> simp [h, h1, h2]

theorem okAt_fail {up dn : Nat → Nat → Bool} {a b : Nat} {x y : Int} (hx : leastI (fun i => up a i && up b i) up = x) (hy : leastI (fun i => dn a i && dn b i) dn = y) (h : ¬ x ≥ 0 ∨ ¬ y ≥ 0 ∨ (a ≠ b ∧ up a b = true ∧ up b a = true)) : okAt up dn a b = false := by
  unfold okAt twin
  rw [hx, hy]
  rcases h with h | h | ⟨h1, h2, h3⟩
  · simp [h]
  · simp [h]
  · simp [h1, h2, h3]

theorem tables_ok (n : Nat) (hn : n ≤ 8) (up dn : Nat → Nat → Bool) (jn mt : Nat → Nat → Int) :
    CallP Tryz.prog 20 [.ptr 0 0] ⟨[.cells (latC n up dn jn mt)], [], 1000000⟩ (fun r h' => r = .bool (okT n up dn) ∧ ∃ jn' mt', h' = ⟨[.cells (latC n up dn jn' mt')], [], 1000000⟩) := by
  refine CallP.mk Tryz.func20 rfl ?_
  rw [show enterFr Tryz.f20 [.ptr 0 0] = ⟨125, .upd .emp 0 (.ptr 0 0)⟩ from rfl]
  show Run _ 1 _ _ _
  repeat' (first
    | (with_reducible refine andThen_normal ?_)
    | (with_reducible refine andThen_ret ?_)
    | (with_reducible refine inBlk_normal ?_)
    | (with_reducible refine inBlk_ret ?_)
    | (with_reducible refine inBlk_hit ?_)
    | (with_reducible refine andThen_exit ?_)
    | ((with_reducible refine inBlk_miss ?_ ?_); (· rfl))
    | (with_reducible refine Run.seq ?_)
    | (with_reducible refine Run.skip ?_)
    | (with_reducible refine Run.ret ?_)
    | (with_reducible refine Run.exit ?_)
    | (with_reducible refine Run.block ?_)
    | (with_reducible refine Run.scope ?_)
    | (with_reducible refine Run.label ?_)
    | ((with_reducible refine Run.regionSelf ?_); ((with_reducible apply Run.lst); (· conv => lhs; whnf)))
    | (with_reducible refine RunL.nil ?_)
    | ((with_reducible refine RunL.self ?_); (first
      | ((with_reducible apply RunL.oFp v0_ok); (· rfl); (· rfl); (· rfl); (· rfl); (· rfl); (· conv => lhs; whnf); (· rfl); (· conv => lhs; whnf))
      | ((with_reducible apply RunL.oFr v0_ok); (· rfl); (· rfl); (· rfl); (· rfl); (· rfl); (· conv => lhs; whnf); (· rfl); (· conv => lhs; whnf))
      | ((with_reducible apply RunL.oBox v0_ok); (· rfl); (· rfl); (· conv => lhs; whnf); (· rfl); (· rfl); (· conv => lhs; whnf); (· conv => lhs; whnf); (· conv => lhs; simp only [List.length_cons, List.length_nil, Nat.zero_add, Nat.reduceAdd]); (· conv => lhs; simp only [List.cons_append, List.nil_append]))
      | ((with_reducible apply RunL.oAl v0_ok); (· rfl); (· fail); (· rfl); (· conv => lhs; whnf); (· rfl); (· conv => lhs; simp only [List.length_cons, List.length_nil, Nat.zero_add, Nat.reduceAdd]); (· conv => lhs; simp only [List.cons_append, List.nil_append]))
      | ((with_reducible apply RunL.oSt); (· rfl); (· rfl); (· conv => lhs; whnf); (· rfl); (· rfl); (· rfl); (· rfl); (· rfl); (· conv => lhs; whnf); (· conv => lhs; whnf); (· rfl); (· rfl); (· rfl); (· conv => lhs; simp only [setAll, List.set_cons_zero, List.set_cons_succ, Nat.reduceAdd, Nat.zero_add]); (· conv => lhs; simp only [List.set_cons_zero, List.set_cons_succ]); (· (repeat' (first | exact .flat rfl | exact PureL.nil | assumption | apply PureL.cons | apply Pure.agg' | apply Pure.tuple' | apply Pure.rptr' | exact pure_strs _ | exact pure_items _ | exact pure_val _)); done))
      | ((with_reducible apply RunL.oStM); (· rfl); (· rfl); (· conv => lhs; whnf); (· rfl); (· rfl); (· rfl); (· rfl); (· rfl); (· conv => lhs; whnf); (· conv => lhs; whnf); (· rfl); (· rfl); (· rfl); (· conv => lhs; simp only [setAll, List.set_cons_zero, List.set_cons_succ, Nat.reduceAdd, Nat.zero_add]); (· conv => lhs; simp only [List.set_cons_zero, List.set_cons_succ]); (· conv => lhs; whnf))
      | ((with_reducible apply RunL.oLa v0_ok); (· rfl); (· rfl); (· rfl); (· conv => lhs; whnf); (· rfl); (· rfl); (· rfl); (· conv => lhs; whnf); (· rfl); (· rfl); (· conv => lhs; simp only [List.drop_zero, List.drop_succ_cons, List.take_succ_cons, List.take_zero]))
      | ((with_reducible apply RunL.oI v0_ok); (· rfl); (· rfl); (· rfl); (· rfl); (· rfl); (· exact aindexAddr_arrN (by rfl) (by rfl) (by omega)))
      | ((with_reducible apply RunL.oLd v0_ok); (· rfl); (· rfl); (· rfl); (· rfl); (· exact aload_own (by rfl) (by rfl) (lat_up _ (by omega))); try ((with_reducible apply RunL.spl); (all_goals (intro hb <;> (try simp only [List.length_map] at hb) <;> (first | replace hb := bitN_t (by omega) hb | replace hb := bitN_f (by omega) hb | replace hb := bne_iff_ne.1 hb | replace hb := bne_eq_false_iff_eq.1 hb | replace hb := of_decide_eq_true hb | replace hb := of_decide_eq_false hb | replace hb := eq_of_beq hb | replace hb := ne_of_beq_false hb | skip) <;> (first | contradiction | (exfalso; omega) | skip)))))
      | ((with_reducible apply RunL.oLd v0_ok); (· rfl); (· rfl); (· rfl); (· rfl); (· exact aload_own (by rfl) (by rfl) (lat_dn _ (by omega))); try ((with_reducible apply RunL.spl); (all_goals (intro hb <;> (try simp only [List.length_map] at hb) <;> (first | replace hb := bitN_t (by omega) hb | replace hb := bitN_f (by omega) hb | replace hb := bne_iff_ne.1 hb | replace hb := bne_eq_false_iff_eq.1 hb | replace hb := of_decide_eq_true hb | replace hb := of_decide_eq_false hb | replace hb := eq_of_beq hb | replace hb := ne_of_beq_false hb | skip) <;> (first | contradiction | (exfalso; omega) | skip)))))
      | ((with_reducible apply RunL.oLd v0_ok); (· rfl); (· rfl); (· rfl); (· rfl); (· exact aload_own (by rfl) (by rfl) (lat_jn _ _ (by omega) (by omega))); try ((with_reducible apply RunL.spl); (all_goals (intro hb <;> (try simp only [List.length_map] at hb) <;> (first | replace hb := bitN_t (by omega) hb | replace hb := bitN_f (by omega) hb | replace hb := bne_iff_ne.1 hb | replace hb := bne_eq_false_iff_eq.1 hb | replace hb := of_decide_eq_true hb | replace hb := of_decide_eq_false hb | replace hb := eq_of_beq hb | replace hb := ne_of_beq_false hb | skip) <;> (first | contradiction | (exfalso; omega) | skip)))))
      | ((with_reducible apply RunL.oLd v0_ok); (· rfl); (· rfl); (· rfl); (· rfl); (· exact aload_own (by rfl) (by rfl) (lat_mt _ _ (by omega) (by omega))); try ((with_reducible apply RunL.spl); (all_goals (intro hb <;> (try simp only [List.length_map] at hb) <;> (first | replace hb := bitN_t (by omega) hb | replace hb := bitN_f (by omega) hb | replace hb := bne_iff_ne.1 hb | replace hb := bne_eq_false_iff_eq.1 hb | replace hb := of_decide_eq_true hb | replace hb := of_decide_eq_false hb | replace hb := eq_of_beq hb | replace hb := ne_of_beq_false hb | skip) <;> (first | contradiction | (exfalso; omega) | skip)))))
      | ((with_reducible apply RunL.oStS v0_ok); (· rfl); (· rfl); (· conv => lhs; whnf); (· rfl); (· rfl); (· rfl); (· rfl); (· rfl); (· conv => lhs; whnf); (· rfl); (· rfl); (· rfl); (· exact set_jn (by omega) (by omega)); (· conv => lhs; simp only [List.set_cons_zero, List.set_cons_succ]))
      | ((with_reducible apply RunL.oStS v0_ok); (· rfl); (· rfl); (· conv => lhs; whnf); (· rfl); (· rfl); (· rfl); (· rfl); (· rfl); (· conv => lhs; whnf); (· rfl); (· rfl); (· rfl); (· exact set_mt (by omega) (by omega)); (· conv => lhs; simp only [List.set_cons_zero, List.set_cons_succ]))
      | ((with_reducible apply RunL.oBin v0_ok); (· rfl); (· rfl); (· conv => lhs; whnf); (· rfl); (· rfl); (· rfl); (· conv => lhs; whnf); (· conv => lhs; whnf); (· exact abin_shr (by omega)); try ((with_reducible apply RunL.spl); (all_goals (intro hb <;> (try simp only [List.length_map] at hb) <;> (first | replace hb := bitN_t (by omega) hb | replace hb := bitN_f (by omega) hb | replace hb := bne_iff_ne.1 hb | replace hb := bne_eq_false_iff_eq.1 hb | replace hb := of_decide_eq_true hb | replace hb := of_decide_eq_false hb | replace hb := eq_of_beq hb | replace hb := ne_of_beq_false hb | skip) <;> (first | contradiction | (exfalso; omega) | skip)))))
      | ((with_reducible apply RunL.oBin v0_ok); (· rfl); (· rfl); (· conv => lhs; whnf); (· rfl); (· rfl); (· rfl); (· conv => lhs; whnf); (· conv => lhs; whnf); (· exact abin_shl (by omega)); try ((with_reducible apply RunL.spl); (all_goals (intro hb <;> (try simp only [List.length_map] at hb) <;> (first | replace hb := bitN_t (by omega) hb | replace hb := bitN_f (by omega) hb | replace hb := bne_iff_ne.1 hb | replace hb := bne_eq_false_iff_eq.1 hb | replace hb := of_decide_eq_true hb | replace hb := of_decide_eq_false hb | replace hb := eq_of_beq hb | replace hb := ne_of_beq_false hb | skip) <;> (first | contradiction | (exfalso; omega) | skip)))))
      | ((with_reducible apply RunL.o v0_ok); (· rfl); (· conv => lhs; whnf); (· rfl); (· conv => lhs; whnf); (· rfl); (· conv => lhs; whnf); try ((with_reducible apply RunL.spl); (all_goals (intro hb <;> (try simp only [List.length_map] at hb) <;> (first | replace hb := bitN_t (by omega) hb | replace hb := bitN_f (by omega) hb | replace hb := bne_iff_ne.1 hb | replace hb := bne_eq_false_iff_eq.1 hb | replace hb := of_decide_eq_true hb | replace hb := of_decide_eq_false hb | replace hb := eq_of_beq hb | replace hb := ne_of_beq_false hb | skip) <;> (first | contradiction | (exfalso; omega) | skip)))))
      | ((with_reducible apply RunL.oS); (· rfl); (· conv => lhs; whnf); (· rfl))
      | ((with_reducible apply RunL.oN v0_ok); (· rfl); (· rfl); (· rfl))
      | ((with_reducible apply RunL.oSN); (· rfl); (· rfl))))
    | ((with_reducible refine Run.condSelf ?_); (first
      | ((with_reducible apply Run.condT); (· rfl))
      | ((with_reducible apply Run.condF); (· rfl))
      | ((with_reducible apply Run.condK); (· rfl); (all_goals (intro hb <;> (try simp only [List.length_map] at hb) <;> (first | replace hb := bitN_t (by omega) hb | replace hb := bitN_f (by omega) hb | replace hb := bne_iff_ne.1 hb | replace hb := bne_eq_false_iff_eq.1 hb | replace hb := of_decide_eq_true hb | replace hb := of_decide_eq_false hb | replace hb := eq_of_beq hb | replace hb := ne_of_beq_false hb | skip) <;> (first | contradiction | (exfalso; omega) | skip)))))))
  refine Run.loopK 125 (fun p : Nat × (Nat → Nat → Int) × (Nat → Nat → Int) => n - p.1) (fun p => p.1 ≤ n ∧ okT n up dn = ((List.range n).drop p.1).all (okRow n up dn)) (fun p => [(0, .ptr 0 0), (3, .bool true), (10, .int .i64 n), (11, .int .i64 (p.1 : Int))])
    (fun p => ⟨[.cells (latC n up dn p.2.1 p.2.2)], [], 1000000⟩) (0, jn, mt) ⟨Nat.zero_le _, rfl⟩ (.same rfl ⟨rfl, rfl, rfl, rfl, trivial⟩ rfl rfl) (fun ⟨a, jn, mt⟩ ⟨h1, h2⟩ => ?_)
  dsimp only at h1 h2 ⊢
  repeat' (first
    | (with_reducible refine andThen_normal ?_)
    | (with_reducible refine andThen_ret ?_)
    | (with_reducible refine inBlk_normal ?_)
    | (with_reducible refine inBlk_ret ?_)
    | (with_reducible refine inBlk_hit ?_)
    | (with_reducible refine andThen_exit ?_)
    | ((with_reducible refine inBlk_miss ?_ ?_); (· rfl))
    | (with_reducible refine Run.seq ?_)
    | (with_reducible refine Run.skip ?_)
    | (with_reducible refine Run.ret ?_)
    | (with_reducible refine Run.exit ?_)
    | (with_reducible refine Run.block ?_)
    | (with_reducible refine Run.scope ?_)
    | (with_reducible refine Run.label ?_)
    | ((with_reducible refine Run.regionSelf ?_); ((with_reducible apply Run.lst); (· conv => lhs; whnf)))
    | (with_reducible refine RunL.nil ?_)
    | ((with_reducible refine RunL.self ?_); (first
      | ((with_reducible apply RunL.oFp v0_ok); (· rfl); (· rfl); (· rfl); (· rfl); (· rfl); (· conv => lhs; whnf); (· rfl); (· conv => lhs; whnf))
      | ((with_reducible apply RunL.oFr v0_ok); (· rfl); (· rfl); (· rfl); (· rfl); (· rfl); (· conv => lhs; whnf); (· rfl); (· conv => lhs; whnf))
      | ((with_reducible apply RunL.oBox v0_ok); (· rfl); (· rfl); (· conv => lhs; whnf); (· rfl); (· rfl); (· conv => lhs; whnf); (· conv => lhs; whnf); (· conv => lhs; simp only [List.length_cons, List.length_nil, Nat.zero_add, Nat.reduceAdd]); (· conv => lhs; simp only [List.cons_append, List.nil_append]))
      | ((with_reducible apply RunL.oAl v0_ok); (· rfl); (· fail); (· rfl); (· conv => lhs; whnf); (· rfl); (· conv => lhs; simp only [List.length_cons, List.length_nil, Nat.zero_add, Nat.reduceAdd]); (· conv => lhs; simp only [List.cons_append, List.nil_append]))
      | ((with_reducible apply RunL.oSt); (· rfl); (· rfl); (· conv => lhs; whnf); (· rfl); (· rfl); (· rfl); (· rfl); (· rfl); (· conv => lhs; whnf); (· conv => lhs; whnf); (· rfl); (· rfl); (· rfl); (· conv => lhs; simp only [setAll, List.set_cons_zero, List.set_cons_succ, Nat.reduceAdd, Nat.zero_add]); (· conv => lhs; simp only [List.set_cons_zero, List.set_cons_succ]); (· (repeat' (first | exact .flat rfl | exact PureL.nil | assumption | apply PureL.cons | apply Pure.agg' | apply Pure.tuple' | apply Pure.rptr' | exact pure_strs _ | exact pure_items _ | exact pure_val _)); done))
      | ((with_reducible apply RunL.oStM); (· rfl); (· rfl); (· conv => lhs; whnf); (· rfl); (· rfl); (· rfl); (· rfl); (· rfl); (· conv => lhs; whnf); (· conv => lhs; whnf); (· rfl); (· rfl); (· rfl); (· conv => lhs; simp only [setAll, List.set_cons_zero, List.set_cons_succ, Nat.reduceAdd, Nat.zero_add]); (· conv => lhs; simp only [List.set_cons_zero, List.set_cons_succ]); (· conv => lhs; whnf))
      | ((with_reducible apply RunL.oLa v0_ok); (· rfl); (· rfl); (· rfl); (· conv => lhs; whnf); (· rfl); (· rfl); (· rfl); (· conv => lhs; whnf); (· rfl); (· rfl); (· conv => lhs; simp only [List.drop_zero, List.drop_succ_cons, List.take_succ_cons, List.take_zero]))
      | ((with_reducible apply RunL.oI v0_ok); (· rfl); (· rfl); (· rfl); (· rfl); (· rfl); (· exact aindexAddr_arrN (by rfl) (by rfl) (by omega)))
      | ((with_reducible apply RunL.oLd v0_ok); (· rfl); (· rfl); (· rfl); (· rfl); (· exact aload_own (by rfl) (by rfl) (lat_up _ (by omega))); try ((with_reducible apply RunL.spl); (all_goals (intro hb <;> (try simp only [List.length_map] at hb) <;> (first | replace hb := bitN_t (by omega) hb | replace hb := bitN_f (by omega) hb | replace hb := bne_iff_ne.1 hb | replace hb := bne_eq_false_iff_eq.1 hb | replace hb := of_decide_eq_true hb | replace hb := of_decide_eq_false hb | replace hb := eq_of_beq hb | replace hb := ne_of_beq_false hb | skip) <;> (first | contradiction | (exfalso; omega) | skip)))))
      | ((with_reducible apply RunL.oLd v0_ok); (· rfl); (· rfl); (· rfl); (· rfl); (· exact aload_own (by rfl) (by rfl) (lat_dn _ (by omega))); try ((with_reducible apply RunL.spl); (all_goals (intro hb <;> (try simp only [List.length_map] at hb) <;> (first | replace hb := bitN_t (by omega) hb | replace hb := bitN_f (by omega) hb | replace hb := bne_iff_ne.1 hb | replace hb := bne_eq_false_iff_eq.1 hb | replace hb := of_decide_eq_true hb | replace hb := of_decide_eq_false hb | replace hb := eq_of_beq hb | replace hb := ne_of_beq_false hb | skip) <;> (first | contradiction | (exfalso; omega) | skip)))))
      | ((with_reducible apply RunL.oLd v0_ok); (· rfl); (· rfl); (· rfl); (· rfl); (· exact aload_own (by rfl) (by rfl) (lat_jn _ _ (by omega) (by omega))); try ((with_reducible apply RunL.spl); (all_goals (intro hb <;> (try simp only [List.length_map] at hb) <;> (first | replace hb := bitN_t (by omega) hb | replace hb := bitN_f (by omega) hb | replace hb := bne_iff_ne.1 hb | replace hb := bne_eq_false_iff_eq.1 hb | replace hb := of_decide_eq_true hb | replace hb := of_decide_eq_false hb | replace hb := eq_of_beq hb | replace hb := ne_of_beq_false hb | skip) <;> (first | contradiction | (exfalso; omega) | skip)))))
      | ((with_reducible apply RunL.oLd v0_ok); (· rfl); (· rfl); (· rfl); (· rfl); (· exact aload_own (by rfl) (by rfl) (lat_mt _ _ (by omega) (by omega))); try ((with_reducible apply RunL.spl); (all_goals (intro hb <;> (try simp only [List.length_map] at hb) <;> (first | replace hb := bitN_t (by omega) hb | replace hb := bitN_f (by omega) hb | replace hb := bne_iff_ne.1 hb | replace hb := bne_eq_false_iff_eq.1 hb | replace hb := of_decide_eq_true hb | replace hb := of_decide_eq_false hb | replace hb := eq_of_beq hb | replace hb := ne_of_beq_false hb | skip) <;> (first | contradiction | (exfalso; omega) | skip)))))
      | ((with_reducible apply RunL.oStS v0_ok); (· rfl); (· rfl); (· conv => lhs; whnf); (· rfl); (· rfl); (· rfl); (· rfl); (· rfl); (· conv => lhs; whnf); (· rfl); (· rfl); (· rfl); (· exact set_jn (by omega) (by omega)); (· conv => lhs; simp only [List.set_cons_zero, List.set_cons_succ]))
      | ((with_reducible apply RunL.oStS v0_ok); (· rfl); (· rfl); (· conv => lhs; whnf); (· rfl); (· rfl); (· rfl); (· rfl); (· rfl); (· conv => lhs; whnf); (· rfl); (· rfl); (· rfl); (· exact set_mt (by omega) (by omega)); (· conv => lhs; simp only [List.set_cons_zero, List.set_cons_succ]))
      | ((with_reducible apply RunL.oBin v0_ok); (· rfl); (· rfl); (· conv => lhs; whnf); (· rfl); (· rfl); (· rfl); (· conv => lhs; whnf); (· conv => lhs; whnf); (· exact abin_shr (by omega)); try ((with_reducible apply RunL.spl); (all_goals (intro hb <;> (try simp only [List.length_map] at hb) <;> (first | replace hb := bitN_t (by omega) hb | replace hb := bitN_f (by omega) hb | replace hb := bne_iff_ne.1 hb | replace hb := bne_eq_false_iff_eq.1 hb | replace hb := of_decide_eq_true hb | replace hb := of_decide_eq_false hb | replace hb := eq_of_beq hb | replace hb := ne_of_beq_false hb | skip) <;> (first | contradiction | (exfalso; omega) | skip)))))
      | ((with_reducible apply RunL.oBin v0_ok); (· rfl); (· rfl); (· conv => lhs; whnf); (· rfl); (· rfl); (· rfl); (· conv => lhs; whnf); (· conv => lhs; whnf); (· exact abin_shl (by omega)); try ((with_reducible apply RunL.spl); (all_goals (intro hb <;> (try simp only [List.length_map] at hb) <;> (first | replace hb := bitN_t (by omega) hb | replace hb := bitN_f (by omega) hb | replace hb := bne_iff_ne.1 hb | replace hb := bne_eq_false_iff_eq.1 hb | replace hb := of_decide_eq_true hb | replace hb := of_decide_eq_false hb | replace hb := eq_of_beq hb | replace hb := ne_of_beq_false hb | skip) <;> (first | contradiction | (exfalso; omega) | skip)))))
      | ((with_reducible apply RunL.o v0_ok); (· rfl); (· conv => lhs; whnf); (· rfl); (· conv => lhs; whnf); (· rfl); (· conv => lhs; whnf); try ((with_reducible apply RunL.spl); (all_goals (intro hb <;> (try simp only [List.length_map] at hb) <;> (first | replace hb := bitN_t (by omega) hb | replace hb := bitN_f (by omega) hb | replace hb := bne_iff_ne.1 hb | replace hb := bne_eq_false_iff_eq.1 hb | replace hb := of_decide_eq_true hb | replace hb := of_decide_eq_false hb | replace hb := eq_of_beq hb | replace hb := ne_of_beq_false hb | skip) <;> (first | contradiction | (exfalso; omega) | skip)))))
      | ((with_reducible apply RunL.oS); (· rfl); (· conv => lhs; whnf); (· rfl))
      | ((with_reducible apply RunL.oN v0_ok); (· rfl); (· rfl); (· rfl))
      | ((with_reducible apply RunL.oSN); (· rfl); (· rfl))))
    | ((with_reducible refine Run.condSelf ?_); (first
      | ((with_reducible apply Run.condT); (· rfl))
      | ((with_reducible apply Run.condF); (· rfl))
      | ((with_reducible apply Run.condK); (· rfl); (all_goals (intro hb <;> (try simp only [List.length_map] at hb) <;> (first | replace hb := bitN_t (by omega) hb | replace hb := bitN_f (by omega) hb | replace hb := bne_iff_ne.1 hb | replace hb := bne_eq_false_iff_eq.1 hb | replace hb := of_decide_eq_true hb | replace hb := of_decide_eq_false hb | replace hb := eq_of_beq hb | replace hb := ne_of_beq_false hb | skip) <;> (first | contradiction | (exfalso; omega) | skip)))))))
  · rw [all_drop (by omega)] at h2
    refine Run.loopK 125 (fun p : Nat × (Nat → Nat → Int) × (Nat → Nat → Int) => n - p.1) (fun p => p.1 ≤ n ∧ okRow n up dn a = ((List.range n).drop p.1).all (okAt up dn a)) (fun p => [(0, .ptr 0 0), (3, .bool true), (4, .int .i64 a), (10, .int .i64 n), (11, .int .i64 a), (17, .int .i64 n), (18, .int .i64 (p.1 : Int))])
      (fun p => ⟨[.cells (latC n up dn p.2.1 p.2.2)], [], 1000000⟩) (0, jn, mt) ⟨Nat.zero_le _, rfl⟩ (.same rfl ⟨rfl, rfl, rfl, rfl, rfl, rfl, rfl, trivial⟩ rfl rfl) (fun ⟨b, jn, mt⟩ ⟨h3, h4⟩ => ?_)
    dsimp only at h3 h4 ⊢
    repeat' (first
      | (with_reducible refine andThen_normal ?_)
      | (with_reducible refine andThen_ret ?_)
      | (with_reducible refine inBlk_normal ?_)
      | (with_reducible refine inBlk_ret ?_)
      | (with_reducible refine inBlk_hit ?_)
      | (with_reducible refine andThen_exit ?_)
      | ((with_reducible refine inBlk_miss ?_ ?_); (· rfl))
      | (with_reducible refine Run.seq ?_)
      | (with_reducible refine Run.skip ?_)
      | (with_reducible refine Run.ret ?_)
      | (with_reducible refine Run.exit ?_)
      | (with_reducible refine Run.block ?_)
      | (with_reducible refine Run.scope ?_)
      | (with_reducible refine Run.label ?_)
      | ((with_reducible refine Run.regionSelf ?_); ((with_reducible apply Run.lst); (· conv => lhs; whnf)))
      | (with_reducible refine RunL.nil ?_)
      | ((with_reducible refine RunL.self ?_); (first
        | ((with_reducible apply RunL.oFp v0_ok); (· rfl); (· rfl); (· rfl); (· rfl); (· rfl); (· conv => lhs; whnf); (· rfl); (· conv => lhs; whnf))
        | ((with_reducible apply RunL.oFr v0_ok); (· rfl); (· rfl); (· rfl); (· rfl); (· rfl); (· conv => lhs; whnf); (· rfl); (· conv => lhs; whnf))
        | ((with_reducible apply RunL.oBox v0_ok); (· rfl); (· rfl); (· conv => lhs; whnf); (· rfl); (· rfl); (· conv => lhs; whnf); (· conv => lhs; whnf); (· conv => lhs; simp only [List.length_cons, List.length_nil, Nat.zero_add, Nat.reduceAdd]); (· conv => lhs; simp only [List.cons_append, List.nil_append]))
        | ((with_reducible apply RunL.oAl v0_ok); (· rfl); (· fail); (· rfl); (· conv => lhs; whnf); (· rfl); (· conv => lhs; simp only [List.length_cons, List.length_nil, Nat.zero_add, Nat.reduceAdd]); (· conv => lhs; simp only [List.cons_append, List.nil_append]))
        | ((with_reducible apply RunL.oSt); (· rfl); (· rfl); (· conv => lhs; whnf); (· rfl); (· rfl); (· rfl); (· rfl); (· rfl); (· conv => lhs; whnf); (· conv => lhs; whnf); (· rfl); (· rfl); (· rfl); (· conv => lhs; simp only [setAll, List.set_cons_zero, List.set_cons_succ, Nat.reduceAdd, Nat.zero_add]); (· conv => lhs; simp only [List.set_cons_zero, List.set_cons_succ]); (· (repeat' (first | exact .flat rfl | exact PureL.nil | assumption | apply PureL.cons | apply Pure.agg' | apply Pure.tuple' | apply Pure.rptr' | exact pure_strs _ | exact pure_items _ | exact pure_val _)); done))
        | ((with_reducible apply RunL.oStM); (· rfl); (· rfl); (· conv => lhs; whnf); (· rfl); (· rfl); (· rfl); (· rfl); (· rfl); (· conv => lhs; whnf); (· conv => lhs; whnf); (· rfl); (· rfl); (· rfl); (· conv => lhs; simp only [setAll, List.set_cons_zero, List.set_cons_succ, Nat.reduceAdd, Nat.zero_add]); (· conv => lhs; simp only [List.set_cons_zero, List.set_cons_succ]); (· conv => lhs; whnf))
        | ((with_reducible apply RunL.oLa v0_ok); (· rfl); (· rfl); (· rfl); (· conv => lhs; whnf); (· rfl); (· rfl); (· rfl); (· conv => lhs; whnf); (· rfl); (· rfl); (· conv => lhs; simp only [List.drop_zero, List.drop_succ_cons, List.take_succ_cons, List.take_zero]))
        | ((with_reducible apply RunL.oI v0_ok); (· rfl); (· rfl); (· rfl); (· rfl); (· rfl); (· exact aindexAddr_arrN (by rfl) (by rfl) (by omega)))
        | ((with_reducible apply RunL.oLd v0_ok); (· rfl); (· rfl); (· rfl); (· rfl); (· exact aload_own (by rfl) (by rfl) (lat_up _ (by omega))); try ((with_reducible apply RunL.spl); (all_goals (intro hb <;> (try simp only [List.length_map] at hb) <;> (first | replace hb := bitN_t (by omega) hb | replace hb := bitN_f (by omega) hb | replace hb := bne_iff_ne.1 hb | replace hb := bne_eq_false_iff_eq.1 hb | replace hb := of_decide_eq_true hb | replace hb := of_decide_eq_false hb | replace hb := eq_of_beq hb | replace hb := ne_of_beq_false hb | skip) <;> (first | contradiction | (exfalso; omega) | skip)))))
        | ((with_reducible apply RunL.oLd v0_ok); (· rfl); (· rfl); (· rfl); (· rfl); (· exact aload_own (by rfl) (by rfl) (lat_dn _ (by omega))); try ((with_reducible apply RunL.spl); (all_goals (intro hb <;> (try simp only [List.length_map] at hb) <;> (first | replace hb := bitN_t (by omega) hb | replace hb := bitN_f (by omega) hb | replace hb := bne_iff_ne.1 hb | replace hb := bne_eq_false_iff_eq.1 hb | replace hb := of_decide_eq_true hb | replace hb := of_decide_eq_false hb | replace hb := eq_of_beq hb | replace hb := ne_of_beq_false hb | skip) <;> (first | contradiction | (exfalso; omega) | skip)))))
        | ((with_reducible apply RunL.oLd v0_ok); (· rfl); (· rfl); (· rfl); (· rfl); (· exact aload_own (by rfl) (by rfl) (lat_jn _ _ (by omega) (by omega))); try ((with_reducible apply RunL.spl); (all_goals (intro hb <;> (try simp only [List.length_map] at hb) <;> (first | replace hb := bitN_t (by omega) hb | replace hb := bitN_f (by omega) hb | replace hb := bne_iff_ne.1 hb | replace hb := bne_eq_false_iff_eq.1 hb | replace hb := of_decide_eq_true hb | replace hb := of_decide_eq_false hb | replace hb := eq_of_beq hb | replace hb := ne_of_beq_false hb | skip) <;> (first | contradiction | (exfalso; omega) | skip)))))
        | ((with_reducible apply RunL.oLd v0_ok); (· rfl); (· rfl); (· rfl); (· rfl); (· exact aload_own (by rfl) (by rfl) (lat_mt _ _ (by omega) (by omega))); try ((with_reducible apply RunL.spl); (all_goals (intro hb <;> (try simp only [List.length_map] at hb) <;> (first | replace hb := bitN_t (by omega) hb | replace hb := bitN_f (by omega) hb | replace hb := bne_iff_ne.1 hb | replace hb := bne_eq_false_iff_eq.1 hb | replace hb := of_decide_eq_true hb | replace hb := of_decide_eq_false hb | replace hb := eq_of_beq hb | replace hb := ne_of_beq_false hb | skip) <;> (first | contradiction | (exfalso; omega) | skip)))))
        | ((with_reducible apply RunL.oStS v0_ok); (· rfl); (· rfl); (· conv => lhs; whnf); (· rfl); (· rfl); (· rfl); (· rfl); (· rfl); (· conv => lhs; whnf); (· rfl); (· rfl); (· rfl); (· exact set_jn (by omega) (by omega)); (· conv => lhs; simp only [List.set_cons_zero, List.set_cons_succ]))
        | ((with_reducible apply RunL.oStS v0_ok); (· rfl); (· rfl); (· conv => lhs; whnf); (· rfl); (· rfl); (· rfl); (· rfl); (· rfl); (· conv => lhs; whnf); (· rfl); (· rfl); (· rfl); (· exact set_mt (by omega) (by omega)); (· conv => lhs; simp only [List.set_cons_zero, List.set_cons_succ]))
        | ((with_reducible apply RunL.oBin v0_ok); (· rfl); (· rfl); (· conv => lhs; whnf); (· rfl); (· rfl); (· rfl); (· conv => lhs; whnf); (· conv => lhs; whnf); (· exact abin_shr (by omega)); try ((with_reducible apply RunL.spl); (all_goals (intro hb <;> (try simp only [List.length_map] at hb) <;> (first | replace hb := bitN_t (by omega) hb | replace hb := bitN_f (by omega) hb | replace hb := bne_iff_ne.1 hb | replace hb := bne_eq_false_iff_eq.1 hb | replace hb := of_decide_eq_true hb | replace hb := of_decide_eq_false hb | replace hb := eq_of_beq hb | replace hb := ne_of_beq_false hb | skip) <;> (first | contradiction | (exfalso; omega) | skip)))))
        | ((with_reducible apply RunL.oBin v0_ok); (· rfl); (· rfl); (· conv => lhs; whnf); (· rfl); (· rfl); (· rfl); (· conv => lhs; whnf); (· conv => lhs; whnf); (· exact abin_shl (by omega)); try ((with_reducible apply RunL.spl); (all_goals (intro hb <;> (try simp only [List.length_map] at hb) <;> (first | replace hb := bitN_t (by omega) hb | replace hb := bitN_f (by omega) hb | replace hb := bne_iff_ne.1 hb | replace hb := bne_eq_false_iff_eq.1 hb | replace hb := of_decide_eq_true hb | replace hb := of_decide_eq_false hb | replace hb := eq_of_beq hb | replace hb := ne_of_beq_false hb | skip) <;> (first | contradiction | (exfalso; omega) | skip)))))
        | ((with_reducible apply RunL.o v0_ok); (· rfl); (· conv => lhs; whnf); (· rfl); (· conv => lhs; whnf); (· rfl); (· conv => lhs; whnf); try ((with_reducible apply RunL.spl); (all_goals (intro hb <;> (try simp only [List.length_map] at hb) <;> (first | replace hb := bitN_t (by omega) hb | replace hb := bitN_f (by omega) hb | replace hb := bne_iff_ne.1 hb | replace hb := bne_eq_false_iff_eq.1 hb | replace hb := of_decide_eq_true hb | replace hb := of_decide_eq_false hb | replace hb := eq_of_beq hb | replace hb := ne_of_beq_false hb | skip) <;> (first | contradiction | (exfalso; omega) | skip)))))
        | ((with_reducible apply RunL.oS); (· rfl); (· conv => lhs; whnf); (· rfl))
        | ((with_reducible apply RunL.oN v0_ok); (· rfl); (· rfl); (· rfl))
        | ((with_reducible apply RunL.oSN); (· rfl); (· rfl))))
      | ((with_reducible refine Run.condSelf ?_); (first
        | ((with_reducible apply Run.condT); (· rfl))
        | ((with_reducible apply Run.condF); (· rfl))
        | ((with_reducible apply Run.condK); (· rfl); (all_goals (intro hb <;> (try simp only [List.length_map] at hb) <;> (first | replace hb := bitN_t (by omega) hb | replace hb := bitN_f (by omega) hb | replace hb := bne_iff_ne.1 hb | replace hb := bne_eq_false_iff_eq.1 hb | replace hb := of_decide_eq_true hb | replace hb := of_decide_eq_false hb | replace hb := eq_of_beq hb | replace hb := ne_of_beq_false hb | skip) <;> (first | contradiction | (exfalso; omega) | skip)))))))
    · rw [all_drop (by omega)] at h4
      apply Run.draw v0_ok (orc_ok (least_up (n := n) (up := up) (dn := dn) (jn := jn) (mt := mt) a b ⟨[.cells (latC n up dn jn mt)], [], 1000000⟩ rfl) noCalls_ok)
      case hl =>
        repeat' (first | exact lex_nil | (apply lex_o; (· rfl); (· rfl); (· apply stepD_call; (· rfl); (· exact orc_self _ _ _ _ _)); (· rfl)) | (apply lex_oI; (· rfl); (· rfl); (· rfl); (· rfl); (· rfl); (· exact aindexAddr_slc (by rfl) (by rfl) (strs_get (by assumption)))) | (apply lex_oI; (· rfl); (· rfl); (· rfl); (· rfl); (· rfl); (· exact aindexAddr_slc (by rfl) (by rfl) (items_get (by assumption)))) | (apply lex_oI; (· rfl); (· rfl); (· rfl); (· rfl); (· rfl); (· exact aindexAddr_arrN (by rfl) (by rfl) (by omega))) | (apply lex_oLd; (· rfl); (· rfl); (· rfl); (· rfl); (· exact aload_own (by rfl) (by rfl) (lat_up _ (by omega)))) | (apply lex_oLd; (· rfl); (· rfl); (· rfl); (· rfl); (· exact aload_own (by rfl) (by rfl) (lat_dn _ (by omega)))) | (apply lex_oLd; (· rfl); (· rfl); (· rfl); (· rfl); (· exact aload_own (by rfl) (by rfl) (lat_jn _ _ (by omega) (by omega)))) | (apply lex_oLd; (· rfl); (· rfl); (· rfl); (· rfl); (· exact aload_own (by rfl) (by rfl) (lat_mt _ _ (by omega) (by omega)))) | (apply lex_oBin; (· rfl); (· rfl); (· rfl); (· rfl); (· rfl); (· conv => lhs; whnf); (· conv => lhs; whnf); (· exact abin_shr (by omega))) | (apply lex_oBin; (· rfl); (· rfl); (· rfl); (· rfl); (· rfl); (· conv => lhs; whnf); (· conv => lhs; whnf); (· exact abin_shl (by omega))) | (apply lex_oStS; (· rfl); (· rfl); (· rfl); (· rfl); (· rfl); (· rfl); (· rfl); (· conv => lhs; whnf); (· rfl); (· rfl); (· rfl); (· exact set_jn (by omega) (by omega)); (· conv => lhs; simp only [List.set_cons_zero, List.set_cons_succ])) | (apply lex_oStS; (· rfl); (· rfl); (· rfl); (· rfl); (· rfl); (· rfl); (· rfl); (· conv => lhs; whnf); (· rfl); (· rfl); (· rfl); (· exact set_mt (by omega) (by omega)); (· conv => lhs; simp only [List.set_cons_zero, List.set_cons_succ])) | (apply lex_o; (· rfl); (· rfl); (· apply stepD_ok; rfl); (· conv => lhs; whnf)) | (apply lex_oS; (· rfl); (· rfl)) | (apply lex_oN; (· rfl); (· rfl); (· apply stepD_ok; rfl); (· rfl)))
      case hc => kernel_rfl
      case hf => rfl
      case hq =>
        repeat' (first
          | (with_reducible refine andThen_normal ?_)
          | (with_reducible refine andThen_ret ?_)
          | (with_reducible refine inBlk_normal ?_)
          | (with_reducible refine inBlk_ret ?_)
          | (with_reducible refine inBlk_hit ?_)
          | (with_reducible refine andThen_exit ?_)
          | ((with_reducible refine inBlk_miss ?_ ?_); (· rfl))
          | (with_reducible refine Run.seq ?_)
          | (with_reducible refine Run.skip ?_)
          | (with_reducible refine Run.ret ?_)
          | (with_reducible refine Run.exit ?_)
          | (with_reducible refine Run.block ?_)
          | (with_reducible refine Run.scope ?_)
          | (with_reducible refine Run.label ?_)
          | ((with_reducible refine Run.regionSelf ?_); ((with_reducible apply Run.lst); (· conv => lhs; whnf)))
          | (with_reducible refine RunL.nil ?_)
          | ((with_reducible refine RunL.self ?_); (first
            | ((with_reducible apply RunL.oFp v0_ok); (· rfl); (· rfl); (· rfl); (· rfl); (· rfl); (· conv => lhs; whnf); (· rfl); (· conv => lhs; whnf))
            | ((with_reducible apply RunL.oFr v0_ok); (· rfl); (· rfl); (· rfl); (· rfl); (· rfl); (· conv => lhs; whnf); (· rfl); (· conv => lhs; whnf))
            | ((with_reducible apply RunL.oBox v0_ok); (· rfl); (· rfl); (· conv => lhs; whnf); (· rfl); (· rfl); (· conv => lhs; whnf); (· conv => lhs; whnf); (· conv => lhs; simp only [List.length_cons, List.length_nil, Nat.zero_add, Nat.reduceAdd]); (· conv => lhs; simp only [List.cons_append, List.nil_append]))
            | ((with_reducible apply RunL.oAl v0_ok); (· rfl); (· fail); (· rfl); (· conv => lhs; whnf); (· rfl); (· conv => lhs; simp only [List.length_cons, List.length_nil, Nat.zero_add, Nat.reduceAdd]); (· conv => lhs; simp only [List.cons_append, List.nil_append]))
            | ((with_reducible apply RunL.oSt); (· rfl); (· rfl); (· conv => lhs; whnf); (· rfl); (· rfl); (· rfl); (· rfl); (· rfl); (· conv => lhs; whnf); (· conv => lhs; whnf); (· rfl); (· rfl); (· rfl); (· conv => lhs; simp only [setAll, List.set_cons_zero, List.set_cons_succ, Nat.reduceAdd, Nat.zero_add]); (· conv => lhs; simp only [List.set_cons_zero, List.set_cons_succ]); (· (repeat' (first | exact .flat rfl | exact PureL.nil | assumption | apply PureL.cons | apply Pure.agg' | apply Pure.tuple' | apply Pure.rptr' | exact pure_strs _ | exact pure_items _ | exact pure_val _)); done))
            | ((with_reducible apply RunL.oStM); (· rfl); (· rfl); (· conv => lhs; whnf); (· rfl); (· rfl); (· rfl); (· rfl); (· rfl); (· conv => lhs; whnf); (· conv => lhs; whnf); (· rfl); (· rfl); (· rfl); (· conv => lhs; simp only [setAll, List.set_cons_zero, List.set_cons_succ, Nat.reduceAdd, Nat.zero_add]); (· conv => lhs; simp only [List.set_cons_zero, List.set_cons_succ]); (· conv => lhs; whnf))
            | ((with_reducible apply RunL.oLa v0_ok); (· rfl); (· rfl); (· rfl); (· conv => lhs; whnf); (· rfl); (· rfl); (· rfl); (· conv => lhs; whnf); (· rfl); (· rfl); (· conv => lhs; simp only [List.drop_zero, List.drop_succ_cons, List.take_succ_cons, List.take_zero]))
            | ((with_reducible apply RunL.oI v0_ok); (· rfl); (· rfl); (· rfl); (· rfl); (· rfl); (· exact aindexAddr_arrN (by rfl) (by rfl) (by omega)))
            | ((with_reducible apply RunL.oLd v0_ok); (· rfl); (· rfl); (· rfl); (· rfl); (· exact aload_own (by rfl) (by rfl) (lat_up _ (by omega))); try ((with_reducible apply RunL.spl); (all_goals (intro hb <;> (try simp only [List.length_map] at hb) <;> (first | replace hb := bitN_t (by omega) hb | replace hb := bitN_f (by omega) hb | replace hb := bne_iff_ne.1 hb | replace hb := bne_eq_false_iff_eq.1 hb | replace hb := of_decide_eq_true hb | replace hb := of_decide_eq_false hb | replace hb := eq_of_beq hb | replace hb := ne_of_beq_false hb | skip) <;> (first | contradiction | (exfalso; omega) | skip)))))
            | ((with_reducible apply RunL.oLd v0_ok); (· rfl); (· rfl); (· rfl); (· rfl); (· exact aload_own (by rfl) (by rfl) (lat_dn _ (by omega))); try ((with_reducible apply RunL.spl); (all_goals (intro hb <;> (try simp only [List.length_map] at hb) <;> (first | replace hb := bitN_t (by omega) hb | replace hb := bitN_f (by omega) hb | replace hb := bne_iff_ne.1 hb | replace hb := bne_eq_false_iff_eq.1 hb | replace hb := of_decide_eq_true hb | replace hb := of_decide_eq_false hb | replace hb := eq_of_beq hb | replace hb := ne_of_beq_false hb | skip) <;> (first | contradiction | (exfalso; omega) | skip)))))
            | ((with_reducible apply RunL.oLd v0_ok); (· rfl); (· rfl); (· rfl); (· rfl); (· exact aload_own (by rfl) (by rfl) (lat_jn _ _ (by omega) (by omega))); try ((with_reducible apply RunL.spl); (all_goals (intro hb <;> (try simp only [List.length_map] at hb) <;> (first | replace hb := bitN_t (by omega) hb | replace hb := bitN_f (by omega) hb | replace hb := bne_iff_ne.1 hb | replace hb := bne_eq_false_iff_eq.1 hb | replace hb := of_decide_eq_true hb | replace hb := of_decide_eq_false hb | replace hb := eq_of_beq hb | replace hb := ne_of_beq_false hb | skip) <;> (first | contradiction | (exfalso; omega) | skip)))))
            | ((with_reducible apply RunL.oLd v0_ok); (· rfl); (· rfl); (· rfl); (· rfl); (· exact aload_own (by rfl) (by rfl) (lat_mt _ _ (by omega) (by omega))); try ((with_reducible apply RunL.spl); (all_goals (intro hb <;> (try simp only [List.length_map] at hb) <;> (first | replace hb := bitN_t (by omega) hb | replace hb := bitN_f (by omega) hb | replace hb := bne_iff_ne.1 hb | replace hb := bne_eq_false_iff_eq.1 hb | replace hb := of_decide_eq_true hb | replace hb := of_decide_eq_false hb | replace hb := eq_of_beq hb | replace hb := ne_of_beq_false hb | skip) <;> (first | contradiction | (exfalso; omega) | skip)))))
            | ((with_reducible apply RunL.oStS v0_ok); (· rfl); (· rfl); (· conv => lhs; whnf); (· rfl); (· rfl); (· rfl); (· rfl); (· rfl); (· conv => lhs; whnf); (· rfl); (· rfl); (· rfl); (· exact set_jn (by omega) (by omega)); (· conv => lhs; simp only [List.set_cons_zero, List.set_cons_succ]))
            | ((with_reducible apply RunL.oStS v0_ok); (· rfl); (· rfl); (· conv => lhs; whnf); (· rfl); (· rfl); (· rfl); (· rfl); (· rfl); (· conv => lhs; whnf); (· rfl); (· rfl); (· rfl); (· exact set_mt (by omega) (by omega)); (· conv => lhs; simp only [List.set_cons_zero, List.set_cons_succ]))
            | ((with_reducible apply RunL.oBin v0_ok); (· rfl); (· rfl); (· conv => lhs; whnf); (· rfl); (· rfl); (· rfl); (· conv => lhs; whnf); (· conv => lhs; whnf); (· exact abin_shr (by omega)); try ((with_reducible apply RunL.spl); (all_goals (intro hb <;> (try simp only [List.length_map] at hb) <;> (first | replace hb := bitN_t (by omega) hb | replace hb := bitN_f (by omega) hb | replace hb := bne_iff_ne.1 hb | replace hb := bne_eq_false_iff_eq.1 hb | replace hb := of_decide_eq_true hb | replace hb := of_decide_eq_false hb | replace hb := eq_of_beq hb | replace hb := ne_of_beq_false hb | skip) <;> (first | contradiction | (exfalso; omega) | skip)))))
            | ((with_reducible apply RunL.oBin v0_ok); (· rfl); (· rfl); (· conv => lhs; whnf); (· rfl); (· rfl); (· rfl); (· conv => lhs; whnf); (· conv => lhs; whnf); (· exact abin_shl (by omega)); try ((with_reducible apply RunL.spl); (all_goals (intro hb <;> (try simp only [List.length_map] at hb) <;> (first | replace hb := bitN_t (by omega) hb | replace hb := bitN_f (by omega) hb | replace hb := bne_iff_ne.1 hb | replace hb := bne_eq_false_iff_eq.1 hb | replace hb := of_decide_eq_true hb | replace hb := of_decide_eq_false hb | replace hb := eq_of_beq hb | replace hb := ne_of_beq_false hb | skip) <;> (first | contradiction | (exfalso; omega) | skip)))))
            | ((with_reducible apply RunL.o v0_ok); (· rfl); (· conv => lhs; whnf); (· rfl); (· conv => lhs; whnf); (· rfl); (· conv => lhs; whnf); try ((with_reducible apply RunL.spl); (all_goals (intro hb <;> (try simp only [List.length_map] at hb) <;> (first | replace hb := bitN_t (by omega) hb | replace hb := bitN_f (by omega) hb | replace hb := bne_iff_ne.1 hb | replace hb := bne_eq_false_iff_eq.1 hb | replace hb := of_decide_eq_true hb | replace hb := of_decide_eq_false hb | replace hb := eq_of_beq hb | replace hb := ne_of_beq_false hb | skip) <;> (first | contradiction | (exfalso; omega) | skip)))))
            | ((with_reducible apply RunL.oS); (· rfl); (· conv => lhs; whnf); (· rfl))
            | ((with_reducible apply RunL.oN v0_ok); (· rfl); (· rfl); (· rfl))
            | ((with_reducible apply RunL.oSN); (· rfl); (· rfl))))
          | ((with_reducible refine Run.condSelf ?_); (first
            | ((with_reducible apply Run.condT); (· rfl))
            | ((with_reducible apply Run.condF); (· rfl))
            | ((with_reducible apply Run.condK); (· rfl); (all_goals (intro hb <;> (try simp only [List.length_map] at hb) <;> (first | replace hb := bitN_t (by omega) hb | replace hb := bitN_f (by omega) hb | replace hb := bne_iff_ne.1 hb | replace hb := bne_eq_false_iff_eq.1 hb | replace hb := of_decide_eq_true hb | replace hb := of_decide_eq_false hb | replace hb := eq_of_beq hb | replace hb := ne_of_beq_false hb | skip) <;> (first | contradiction | (exfalso; omega) | skip)))))))
        generalize hx : leastI (fun i => up a i && up b i) up = x
        apply Run.draw v0_ok (orc_ok (least_dn (n := n) (up := up) (dn := dn) (jn := updT jn a b x) (mt := mt) a b ⟨[.cells (latC n up dn (updT jn a b x) mt)], [], 1000000⟩ rfl) noCalls_ok)
        case hl =>
          repeat' (first | exact lex_nil | (apply lex_o; (· rfl); (· rfl); (· apply stepD_call; (· rfl); (· exact orc_self _ _ _ _ _)); (· rfl)) | (apply lex_oI; (· rfl); (· rfl); (· rfl); (· rfl); (· rfl); (· exact aindexAddr_slc (by rfl) (by rfl) (strs_get (by assumption)))) | (apply lex_oI; (· rfl); (· rfl); (· rfl); (· rfl); (· rfl); (· exact aindexAddr_slc (by rfl) (by rfl) (items_get (by assumption)))) | (apply lex_oI; (· rfl); (· rfl); (· rfl); (· rfl); (· rfl); (· exact aindexAddr_arrN (by rfl) (by rfl) (by omega))) | (apply lex_oLd; (· rfl); (· rfl); (· rfl); (· rfl); (· exact aload_own (by rfl) (by rfl) (lat_up _ (by omega)))) | (apply lex_oLd; (· rfl); (· rfl); (· rfl); (· rfl); (· exact aload_own (by rfl) (by rfl) (lat_dn _ (by omega)))) | (apply lex_oLd; (· rfl); (· rfl); (· rfl); (· rfl); (· exact aload_own (by rfl) (by rfl) (lat_jn _ _ (by omega) (by omega)))) | (apply lex_oLd; (· rfl); (· rfl); (· rfl); (· rfl); (· exact aload_own (by rfl) (by rfl) (lat_mt _ _ (by omega) (by omega)))) | (apply lex_oBin; (· rfl); (· rfl); (· rfl); (· rfl); (· rfl); (· conv => lhs; whnf); (· conv => lhs; whnf); (· exact abin_shr (by omega))) | (apply lex_oBin; (· rfl); (· rfl); (· rfl); (· rfl); (· rfl); (· conv => lhs; whnf); (· conv => lhs; whnf); (· exact abin_shl (by omega))) | (apply lex_oStS; (· rfl); (· rfl); (· rfl); (· rfl); (· rfl); (· rfl); (· rfl); (· conv => lhs; whnf); (· rfl); (· rfl); (· rfl); (· exact set_jn (by omega) (by omega)); (· conv => lhs; simp only [List.set_cons_zero, List.set_cons_succ])) | (apply lex_oStS; (· rfl); (· rfl); (· rfl); (· rfl); (· rfl); (· rfl); (· rfl); (· conv => lhs; whnf); (· rfl); (· rfl); (· rfl); (· exact set_mt (by omega) (by omega)); (· conv => lhs; simp only [List.set_cons_zero, List.set_cons_succ])) | (apply lex_o; (· rfl); (· rfl); (· apply stepD_ok; rfl); (· conv => lhs; whnf)) | (apply lex_oS; (· rfl); (· rfl)) | (apply lex_oN; (· rfl); (· rfl); (· apply stepD_ok; rfl); (· rfl)))
        case hc => kernel_rfl
        case hf => rfl
        case hq =>
          generalize hy : leastI (fun i => dn a i && dn b i) dn = y
          repeat' (first
            | (with_reducible refine andThen_normal ?_)
            | (with_reducible refine andThen_ret ?_)
            | (with_reducible refine inBlk_normal ?_)
            | (with_reducible refine inBlk_ret ?_)
            | (with_reducible refine inBlk_hit ?_)
            | (with_reducible refine andThen_exit ?_)
            | ((with_reducible refine inBlk_miss ?_ ?_); (· rfl))
            | (with_reducible refine Run.seq ?_)
            | (with_reducible refine Run.skip ?_)
            | (with_reducible refine Run.ret ?_)
            | (with_reducible refine Run.exit ?_)
            | (with_reducible refine Run.block ?_)
            | (with_reducible refine Run.scope ?_)
            | (with_reducible refine Run.label ?_)
            | ((with_reducible refine Run.regionSelf ?_); ((with_reducible apply Run.lst); (· conv => lhs; whnf)))
            | (with_reducible refine RunL.nil ?_)
            | ((with_reducible refine RunL.self ?_); (first
              | ((with_reducible apply RunL.oFp v0_ok); (· rfl); (· rfl); (· rfl); (· rfl); (· rfl); (· conv => lhs; whnf); (· rfl); (· conv => lhs; whnf))
              | ((with_reducible apply RunL.oFr v0_ok); (· rfl); (· rfl); (· rfl); (· rfl); (· rfl); (· conv => lhs; whnf); (· rfl); (· conv => lhs; whnf))
              | ((with_reducible apply RunL.oBox v0_ok); (· rfl); (· rfl); (· conv => lhs; whnf); (· rfl); (· rfl); (· conv => lhs; whnf); (· conv => lhs; whnf); (· conv => lhs; simp only [List.length_cons, List.length_nil, Nat.zero_add, Nat.reduceAdd]); (· conv => lhs; simp only [List.cons_append, List.nil_append]))
              | ((with_reducible apply RunL.oAl v0_ok); (· rfl); (· fail); (· rfl); (· conv => lhs; whnf); (· rfl); (· conv => lhs; simp only [List.length_cons, List.length_nil, Nat.zero_add, Nat.reduceAdd]); (· conv => lhs; simp only [List.cons_append, List.nil_append]))
              | ((with_reducible apply RunL.oSt); (· rfl); (· rfl); (· conv => lhs; whnf); (· rfl); (· rfl); (· rfl); (· rfl); (· rfl); (· conv => lhs; whnf); (· conv => lhs; whnf); (· rfl); (· rfl); (· rfl); (· conv => lhs; simp only [setAll, List.set_cons_zero, List.set_cons_succ, Nat.reduceAdd, Nat.zero_add]); (· conv => lhs; simp only [List.set_cons_zero, List.set_cons_succ]); (· (repeat' (first | exact .flat rfl | exact PureL.nil | assumption | apply PureL.cons | apply Pure.agg' | apply Pure.tuple' | apply Pure.rptr' | exact pure_strs _ | exact pure_items _ | exact pure_val _)); done))
              | ((with_reducible apply RunL.oStM); (· rfl); (· rfl); (· conv => lhs; whnf); (· rfl); (· rfl); (· rfl); (· rfl); (· rfl); (· conv => lhs; whnf); (· conv => lhs; whnf); (· rfl); (· rfl); (· rfl); (· conv => lhs; simp only [setAll, List.set_cons_zero, List.set_cons_succ, Nat.reduceAdd, Nat.zero_add]); (· conv => lhs; simp only [List.set_cons_zero, List.set_cons_succ]); (· conv => lhs; whnf))
              | ((with_reducible apply RunL.oLa v0_ok); (· rfl); (· rfl); (· rfl); (· conv => lhs; whnf); (· rfl); (· rfl); (· rfl); (· conv => lhs; whnf); (· rfl); (· rfl); (· conv => lhs; simp only [List.drop_zero, List.drop_succ_cons, List.take_succ_cons, List.take_zero]))
              | ((with_reducible apply RunL.oI v0_ok); (· rfl); (· rfl); (· rfl); (· rfl); (· rfl); (· exact aindexAddr_arrN (by rfl) (by rfl) (by omega)))
              | ((with_reducible apply RunL.oLd v0_ok); (· rfl); (· rfl); (· rfl); (· rfl); (· exact aload_own (by rfl) (by rfl) (lat_up _ (by omega))); try ((with_reducible apply RunL.spl); (all_goals (intro hb <;> (try simp only [List.length_map] at hb) <;> (first | replace hb := bitN_t (by omega) hb | replace hb := bitN_f (by omega) hb | replace hb := bne_iff_ne.1 hb | replace hb := bne_eq_false_iff_eq.1 hb | replace hb := of_decide_eq_true hb | replace hb := of_decide_eq_false hb | replace hb := eq_of_beq hb | replace hb := ne_of_beq_false hb | skip) <;> (first | contradiction | (exfalso; omega) | skip)))))
              | ((with_reducible apply RunL.oLd v0_ok); (· rfl); (· rfl); (· rfl); (· rfl); (· exact aload_own (by rfl) (by rfl) (lat_dn _ (by omega))); try ((with_reducible apply RunL.spl); (all_goals (intro hb <;> (try simp only [List.length_map] at hb) <;> (first | replace hb := bitN_t (by omega) hb | replace hb := bitN_f (by omega) hb | replace hb := bne_iff_ne.1 hb | replace hb := bne_eq_false_iff_eq.1 hb | replace hb := of_decide_eq_true hb | replace hb := of_decide_eq_false hb | replace hb := eq_of_beq hb | replace hb := ne_of_beq_false hb | skip) <;> (first | contradiction | (exfalso; omega) | skip)))))
              | ((with_reducible apply RunL.oLd v0_ok); (· rfl); (· rfl); (· rfl); (· rfl); (· exact aload_own (by rfl) (by rfl) (lat_jn _ _ (by omega) (by omega))); try ((with_reducible apply RunL.spl); (all_goals (intro hb <;> (try simp only [List.length_map] at hb) <;> (first | replace hb := bitN_t (by omega) hb | replace hb := bitN_f (by omega) hb | replace hb := bne_iff_ne.1 hb | replace hb := bne_eq_false_iff_eq.1 hb | replace hb := of_decide_eq_true hb | replace hb := of_decide_eq_false hb | replace hb := eq_of_beq hb | replace hb := ne_of_beq_false hb | skip) <;> (first | contradiction | (exfalso; omega) | skip)))))
              | ((with_reducible apply RunL.oLd v0_ok); (· rfl); (· rfl); (· rfl); (· rfl); (· exact aload_own (by rfl) (by rfl) (lat_mt _ _ (by omega) (by omega))); try ((with_reducible apply RunL.spl); (all_goals (intro hb <;> (try simp only [List.length_map] at hb) <;> (first | replace hb := bitN_t (by omega) hb | replace hb := bitN_f (by omega) hb | replace hb := bne_iff_ne.1 hb | replace hb := bne_eq_false_iff_eq.1 hb | replace hb := of_decide_eq_true hb | replace hb := of_decide_eq_false hb | replace hb := eq_of_beq hb | replace hb := ne_of_beq_false hb | skip) <;> (first | contradiction | (exfalso; omega) | skip)))))
              | ((with_reducible apply RunL.oStS v0_ok); (· rfl); (· rfl); (· conv => lhs; whnf); (· rfl); (· rfl); (· rfl); (· rfl); (· rfl); (· conv => lhs; whnf); (· rfl); (· rfl); (· rfl); (· exact set_jn (by omega) (by omega)); (· conv => lhs; simp only [List.set_cons_zero, List.set_cons_succ]))
              | ((with_reducible apply RunL.oStS v0_ok); (· rfl); (· rfl); (· conv => lhs; whnf); (· rfl); (· rfl); (· rfl); (· rfl); (· rfl); (· conv => lhs; whnf); (· rfl); (· rfl); (· rfl); (· exact set_mt (by omega) (by omega)); (· conv => lhs; simp only [List.set_cons_zero, List.set_cons_succ]))
              | ((with_reducible apply RunL.oBin v0_ok); (· rfl); (· rfl); (· conv => lhs; whnf); (· rfl); (· rfl); (· rfl); (· conv => lhs; whnf); (· conv => lhs; whnf); (· exact abin_shr (by omega)); try ((with_reducible apply RunL.spl); (all_goals (intro hb <;> (try simp only [List.length_map] at hb) <;> (first | replace hb := bitN_t (by omega) hb | replace hb := bitN_f (by omega) hb | replace hb := bne_iff_ne.1 hb | replace hb := bne_eq_false_iff_eq.1 hb | replace hb := of_decide_eq_true hb | replace hb := of_decide_eq_false hb | replace hb := eq_of_beq hb | replace hb := ne_of_beq_false hb | skip) <;> (first | contradiction | (exfalso; omega) | skip)))))
              | ((with_reducible apply RunL.oBin v0_ok); (· rfl); (· rfl); (· conv => lhs; whnf); (· rfl); (· rfl); (· rfl); (· conv => lhs; whnf); (· conv => lhs; whnf); (· exact abin_shl (by omega)); try ((with_reducible apply RunL.spl); (all_goals (intro hb <;> (try simp only [List.length_map] at hb) <;> (first | replace hb := bitN_t (by omega) hb | replace hb := bitN_f (by omega) hb | replace hb := bne_iff_ne.1 hb | replace hb := bne_eq_false_iff_eq.1 hb | replace hb := of_decide_eq_true hb | replace hb := of_decide_eq_false hb | replace hb := eq_of_beq hb | replace hb := ne_of_beq_false hb | skip) <;> (first | contradiction | (exfalso; omega) | skip)))))
              | ((with_reducible apply RunL.o v0_ok); (· rfl); (· conv => lhs; whnf); (· rfl); (· conv => lhs; whnf); (· rfl); (· conv => lhs; whnf); try ((with_reducible apply RunL.spl); (all_goals (intro hb <;> (try simp only [List.length_map] at hb) <;> (first | replace hb := bitN_t (by omega) hb | replace hb := bitN_f (by omega) hb | replace hb := bne_iff_ne.1 hb | replace hb := bne_eq_false_iff_eq.1 hb | replace hb := of_decide_eq_true hb | replace hb := of_decide_eq_false hb | replace hb := eq_of_beq hb | replace hb := ne_of_beq_false hb | skip) <;> (first | contradiction | (exfalso; omega) | skip)))))
              | ((with_reducible apply RunL.oS); (· rfl); (· conv => lhs; whnf); (· rfl))
              | ((with_reducible apply RunL.oN v0_ok); (· rfl); (· rfl); (· rfl))
              | ((with_reducible apply RunL.oSN); (· rfl); (· rfl))))
            | ((with_reducible refine Run.condSelf ?_); (first
              | ((with_reducible apply Run.condT); (· rfl))
              | ((with_reducible apply Run.condF); (· rfl))
              | ((with_reducible apply Run.condK); (· rfl); (all_goals (intro hb <;> (try simp only [List.length_map] at hb) <;> (first | replace hb := bitN_t (by omega) hb | replace hb := bitN_f (by omega) hb | replace hb := bne_iff_ne.1 hb | replace hb := bne_eq_false_iff_eq.1 hb | replace hb := of_decide_eq_true hb | replace hb := of_decide_eq_false hb | replace hb := eq_of_beq hb | replace hb := ne_of_beq_false hb | skip) <;> (first | contradiction | (exfalso; omega) | skip)))))))
          all_goals first
            | (have hk : okAt up dn a b = true := okAt_pass hx hy (by have e := ‹updT jn a b x a b ≥ 0›; rwa [updT_self] at e) (by have e := ‹updT mt a b y a b ≥ 0›; rwa [updT_self] at e) (by first | exact .inr (.inl ‹up a b = false›) | exact .inr (.inr ‹up b a = false›) | exact .inl (by omega))
               rw [hk, Bool.true_and] at h4
               exact ⟨(b + 1, updT jn a b x, updT mt a b y), by dsimp only; omega, ⟨by dsimp only; omega, h4⟩, .same rfl ⟨rfl, rfl, rfl, rfl, rfl, rfl, get_int rfl (by rw [IntWalk.i64_in _ (by omega)]; omega), trivial⟩ rfl rfl⟩)
            | (have hk : okAt up dn a b = false := okAt_fail hx hy (by first | exact .inl (by have e := ‹¬ updT jn a b x a b ≥ 0›; rwa [updT_self] at e) | exact .inr (.inl (by have e := ‹¬ updT mt a b y a b ≥ 0›; rwa [updT_self] at e)) | exact .inr (.inr ⟨by omega, ‹up a b = true›, ‹up b a = true›⟩))
               rw [hk, Bool.false_and] at h4
               rw [h4, Bool.false_and] at h2
               exact EndM.mk (.inr rfl) rfl (by rfl) rfl (.flat rfl) (by rfl) (lat_os _ _ _ _ _ _) ⟨congrArg AV.bool h2.symm, _, _, rfl⟩)
    · obtain rfl : b = n := by omega
      rw [all_end] at h4
      rw [h4, Bool.true_and] at h2
      exact ⟨(a + 1, jn, mt), by dsimp only; omega, ⟨by dsimp only; omega, h2⟩, .same rfl ⟨rfl, rfl, rfl, get_int rfl (by rw [IntWalk.i64_in _ (by omega)]; omega), trivial⟩ rfl rfl⟩
  · obtain rfl : a = n := by omega
    rw [all_end] at h2
    exact EndM.mk (.inr rfl) rfl (by rfl) rfl (.flat rfl) (by rfl) (lat_os _ _ _ _ _ _) ⟨congrArg AV.bool h2.symm, _, _, rfl⟩

end Go.Proofs.YtgikapdeekepiaaGreatDoor
