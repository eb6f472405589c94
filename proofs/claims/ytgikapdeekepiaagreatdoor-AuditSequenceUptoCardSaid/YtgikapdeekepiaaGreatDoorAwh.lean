/- The tied card of the law AuditSequence: it answers true and its arguments read as before, wherever what it reads is of bulk at most 1048576. -/
import Derived.Test.YtgikapdeekepiaaGreatDoorAwf
import Derived.Test.YtgikapdeekepiaaGreatDoorAwg
import Derived.Test.YtgikapdeekepiaaGreatDoorCards
import Derived.Test.YtgikapdeekepiaaGreatDoorTie
import Derived.OpenShut
import Derived.Deep.DeepHandedRow
import Derived.Lib.LaidTab
namespace Go.Proofs.YtgikapdeekepiaaGreatDoor
open Go Go.ChangeShapes Go.WideShapes Go.ChangeAt Go.RowKit Go.Proofs.YtgikapdeekepiaaGreatDoor
set_option linter.unusedVariables false
set_option maxRecDepth 100000

theorem own : ownKnob Tryz.prog.godebug = none := by kernel_rfl
theorem laidOut : laidOutB Tryz.prog = true := by kernel_rfl
theorem readsAll : Tryz.f3.params.toList.all (fun t => Tryz.prog.readableRec t && decide (t < Tryz.prog.types.size)) = true := by kernel_rfl

theorem c3 : Tryz.prog.cellsOf 3 = 1 := by kernel_rfl
theorem c2 : Tryz.prog.cellsOf 2 = 1 := by kernel_rfl
theorem c41 : Tryz.prog.cellsOf 41 = 1 := by kernel_rfl
theorem c9 : Tryz.prog.cellsOf 9 = 1 := by kernel_rfl
theorem c42 : Tryz.prog.cellsOf 42 = 1 := by kernel_rfl
theorem c36 : Tryz.prog.cellsOf 36 = 1 := by kernel_rfl
theorem c44 : Tryz.prog.cellsOf 44 = 6 := by kernel_rfl
theorem c47 : Tryz.prog.cellsOf 47 = 2 := by kernel_rfl
theorem c50 : Tryz.prog.cellsOf 50 = 2 := by kernel_rfl
theorem c52 : Tryz.prog.cellsOf 52 = 11 := by kernel_rfl

section
variable {H : Type} {enc : TypeId × Value → H} {w : World}

theorem rd_str {n : Nat} {cs : List Value} {x : DataW H × List MemPlace} (h : DataW.trod enc Tryz.prog w 0 (fun _ => true) true n 9 cs = some x) : ∃ s : ByteArray, True ∧ VL w [.str s] cs := by
  obtain ⟨s, rfl, _⟩ := DataW.trod_string Tryz.underlying9 h
  exact ⟨s, trivial, .cons (.str s) .nil⟩

theorem fitL_of : ∀ {l : List Val}, (∀ v ∈ l, v.fit) → Val.fitL l
  | [], _ => trivial
  | v :: l, h => ⟨h v (by simp), fitL_of fun x hx => h x (by simp [hx])⟩

theorem rd_val : ∀ (N n : Nat) (cs : List Value) (x : DataW H × List MemPlace), N ≤ 1048576 → DataW.trod enc Tryz.prog w 0 (fun _ => true) true n 44 cs = some x → bulk x.1 ≤ N → ∃ v : Val, v.fit ∧ VL w v.cells cs := by
  intro N
  induction N using Nat.strongRecOn with
  | _ N ih =>
    intro n cs x hN h hb
    obtain ⟨xs, m, rfl, rfl, hl, hlen, hf⟩ := DataW.trod_struct Tryz.underlying44 h
    rw [c44] at hl
    match xs, hlen, cs, hl with
    | [y0, y1, y2, y3, y4, y5], _, [v0, v1, v2, v3, v4, v5], _ =>
      have g0 := hf 0 ⟨ "Kind", 3, 0, false, "", "", 0⟩ rfl
      have g1 := hf 1 ⟨ "N", 2, 1, false, "", "", 8⟩ rfl
      have g2 := hf 2 ⟨ "F", 41, 2, false, "", "", 16⟩ rfl
      have g3 := hf 3 ⟨ "S", 9, 3, false, "", "", 24⟩ rfl
      have g4 := hf 4 ⟨ "Names", 42, 4, false, "", "", 40⟩ rfl
      have g5 := hf 5 ⟨ "Items", 36, 5, false, "", "", 64⟩ rfl
      simp only [c3, c2, c41, c9, c42, c36, List.drop_succ_cons, List.drop_zero, List.take_succ_cons, List.take_zero, List.getElem?_cons_succ, List.getElem?_cons_zero] at g0 g1 g2 g3 g4 g5
      simp only [bulk_agg, List.map_cons, List.map_nil] at hb
      have hb4 := bulk_mem (l := [y0.1, y1.1, y2.1, y3.1, y4.1, y5.1]) (d := y4.1) (by simp)
      have hb5 := bulk_mem (l := [y0.1, y1.1, y2.1, y3.1, y4.1, y5.1]) (d := y5.1) (by simp)
      obtain ⟨k, e0, _⟩ := DataW.trod_int Tryz.underlying3 g0
      obtain ⟨n', e1, _⟩ := DataW.trod_int Tryz.underlying2 g1
      obtain ⟨f, e2⟩ := rd_float Tryz.underlying41 g2
      obtain ⟨s, _, h3⟩ := rd_str g3
      obtain ⟨nm, u4, e4, _, l4, r4⟩ := rd_slc (fun s => [AV.str s]) (fun _ => True) Tryz.underlying42 (by rw [c9]; decide) g4 (fun n cs' y hy _ => rd_str hy)
      obtain ⟨it, u5, e5, q5, l5, r5⟩ := rd_slc Val.cells Val.fit Tryz.underlying36 (by rw [c44]; decide) g5 (fun n cs' y hy hlt => ih (bulk y.1) (by omega) n cs' y (by omega) hy (Nat.le_refl _))
      rw [c9] at r4
      rw [c44] at r5
      simp only [List.cons.injEq, and_true] at e0 e1 e2 e4 e5
      subst e0; subst e1; subst e2; subst e4; subst e5
      refine ⟨.mk k n' f s nm it, ⟨by omega, by omega, fitL_of q5⟩, ?_⟩
      rw [Val.cells]
      refine .cons (.int _ _) (.cons (.int _ _) (.cons (.float _ _) ?_))
      refine VL.append (xs := [AV.str s]) h3 (.cons r4 (.cons ?_ .nil))
      rw [cellsL_eq]
      exact r5

theorem rd_aud {n : Nat} {cs : List Value} {x : DataW H × List MemPlace} (h : DataW.trod enc Tryz.prog w 0 (fun _ => true) true n 52 cs = some x) (hb : bulk x.1 ≤ 1048576) : ∃ a : Aud, a.v.fit ∧ VL w a.cells cs := by
  obtain ⟨xs, m, rfl, rfl, hl, hlen, hf⟩ := DataW.trod_struct Tryz.underlying52 h
  rw [c52] at hl
  match xs, hlen, cs, hl with
  | [y0, y1, y2, y3, y4], _, [v0, v1, v2, v3, v4, v5, v6, v7, v8, v9, v10], _ =>
    have g0 := hf 0 ⟨ "Inst", 50, 0, false, "", "", 0⟩ rfl
    have g1 := hf 1 ⟨ "Node", 3, 2, false, "", "", 16⟩ rfl
    have g2 := hf 2 ⟨ "From", 3, 3, false, "", "", 24⟩ rfl
    have g3 := hf 3 ⟨ "To", 3, 4, false, "", "", 32⟩ rfl
    have g4 := hf 4 ⟨ "V", 44, 5, false, "", "", 40⟩ rfl
    simp only [c3, c50, c44, List.drop_succ_cons, List.drop_zero, List.take_succ_cons, List.take_zero, List.getElem?_cons_succ, List.getElem?_cons_zero] at g0 g1 g2 g3 g4
    simp only [bulk_agg, List.map_cons, List.map_nil] at hb
    have hb4 := bulk_mem (l := [y0.1, y1.1, y2.1, y3.1, y4.1]) (d := y4.1) (by simp)
    obtain ⟨a, e1, _⟩ := DataW.trod_int Tryz.underlying3 g1
    obtain ⟨b, e2, _⟩ := DataW.trod_int Tryz.underlying3 g2
    obtain ⟨c, e3, _⟩ := DataW.trod_int Tryz.underlying3 g3
    obtain ⟨v, hv, h4⟩ := rd_val 1048576 _ _ _ (Nat.le_refl _) g4 (by omega)
    obtain ⟨xs', m', _, _, hl', hlen', hf'⟩ := DataW.trod_struct Tryz.underlying50 g0
    have k0 := hf' 0 ⟨ "Label", 3, 0, false, "", "", 0⟩ rfl
    have k1 := hf' 1 ⟨ "N", 3, 1, false, "", "", 8⟩ rfl
    match xs', hlen' with
    | [z0, z1], _ =>
      simp only [c3, List.drop_succ_cons, List.drop_zero, List.take_succ_cons, List.take_zero, List.getElem?_cons_succ, List.getElem?_cons_zero] at k0 k1
      obtain ⟨r1, o1, _⟩ := DataW.trod_int Tryz.underlying3 k0
      obtain ⟨r2, o2, _⟩ := DataW.trod_int Tryz.underlying3 k1
      simp only [List.cons.injEq, and_true] at e1 e2 e3 o1 o2
      subst e1; subst e2; subst e3; subst o1; subst o2
      exact ⟨⟨r1, r2, a, b, c, v⟩, hv, .cons (.int _ _) (.cons (.int _ _) (.cons (.int _ _) (.cons (.int _ _) (.cons (.int _ _) h4))))⟩

theorem rd_pr {n : Nat} {cs : List Value} {x : DataW H × List MemPlace} (h : DataW.trod enc Tryz.prog w 0 (fun _ => true) true n 47 cs = some x) : ∃ p : Int × Int, True ∧ VL w [.int .i64 p.1, .int .i64 p.2] cs := by
  obtain ⟨xs, m, rfl, rfl, hl, hlen, hf⟩ := DataW.trod_array Tryz.underlying47 h
  rw [c47] at hl
  match xs, hlen, cs, hl with
  | [y0, y1], _, [v0, v1], _ =>
    have g0 := hf 0 (by decide)
    have g1 := hf 1 (by decide)
    simp only [c3, Nat.zero_mul, Nat.one_mul, List.drop_succ_cons, List.drop_zero, List.take_succ_cons, List.take_zero, List.getElem?_cons_succ, List.getElem?_cons_zero] at g0 g1
    obtain ⟨a, e0, _⟩ := DataW.trod_int Tryz.underlying3 g0
    obtain ⟨b, e1, _⟩ := DataW.trod_int Tryz.underlying3 g1
    simp only [List.cons.injEq, and_true] at e0 e1
    subst e0; subst e1
    exact ⟨(a, b), trivial, .cons (.int _ _) (.cons (.int _ _) .nil)⟩

end

theorem contract (H : Type) (enc : TypeId × Value → H) (W : World) (base : Nat) (args : Array Value) (ds gs : List (DataW H)) (before : List MemPlace)
    (hval : ∀ (j : Nat) t v, Tryz.f3.params[j]? = some t → args[j]? = some v → Value.okWide Tryz.prog W .any base t v)
    (hW : DataW.Whole enc Tryz.prog Tryz.f3.params.toList Rows.auditSequenceSpec.vars false W args.toList ds gs before) (hB : bulkAll (ds ++ gs) ≤ 1048576) :
    Calls Tryz.prog 3 args W fun e W' => ∃ v, e = .returned v ∧ Rows.auditSequenceSpec.post enc Tryz.prog Tryz.f3 false true false false W args v W' := by
  have hW' := hW
  obtain ⟨p, q, hA0, hV, rfl, hfz, hnd⟩ := hW
  have hA : DataW.TrodAll enc Tryz.prog W 0 (fun _ => true) true Tryz.f3.params.toList args.toList ds p := hA0
  rw [Tryz.params3] at hA hval
  obtain ⟨v0, _, d0, _, p0, q0, ha0, rfl, rfl, h0, hA⟩ := trodAll_cons hA
  obtain ⟨v1, _, d1, _, p1, q1, rfl, rfl, rfl, h1, hA⟩ := trodAll_cons hA
  obtain ⟨v2, _, d2, _, p2, q2, rfl, rfl, rfl, h2, hA⟩ := trodAll_cons hA
  obtain ⟨v3, _, d3, _, p3, q3, rfl, rfl, rfl, h3, hA⟩ := trodAll_cons hA
  obtain ⟨v4, _, d4, _, p4, q4, rfl, rfl, rfl, h4, hA⟩ := trodAll_cons hA
  obtain ⟨rfl, rfl, rfl⟩ := trodAll_nil hA
  obtain rfl : args = #[v0, v1, v2, v3, v4] := by cases args; simp_all
  obtain ⟨rfl, rfl⟩ := trodVars_none hV
  obtain ⟨n, rfl, rfl, rfl, _⟩ := open_int Tryz.underlying3 (hval 0 3 v0 rfl rfl) h0
  obtain ⟨a1, l1, t1, rfl⟩ := okWide_slice Tryz.underlying22 (hval 1 22 v1 rfl rfl)
  obtain ⟨a2, l2, t2, rfl⟩ := okWide_slice Tryz.underlying23 (hval 2 23 v2 rfl rfl)
  obtain ⟨lo, rfl, rfl, rfl, _⟩ := open_int Tryz.underlying3 (hval 3 3 v3 rfl rfl) h3
  obtain ⟨up, rfl, rfl, rfl, _⟩ := open_int Tryz.underlying3 (hval 4 3 v4 rfl rfl) h4
  obtain ⟨n1, h1⟩ := h1
  obtain ⟨n2, h2⟩ := h2
  have hb2 := bulk_mem (l := [DataW.lit (.int .i64 n), d1, d2, DataW.lit (.int .i64 lo), DataW.lit (.int .i64 up)] ++ []) (d := d2) (by simp)
  obtain ⟨o, u1, e1, _, _, r1⟩ := rd_slc (fun p : Int × Int => [AV.int .i64 p.1, AV.int .i64 p.2]) (fun _ => True) Tryz.underlying22 (by rw [c47]; decide) h1 (fun n cs' y hy _ => rd_pr hy)
  obtain ⟨l, u2, e2, q2, l2', r2⟩ := rd_slc Aud.cells (fun a => a.v.fit) Tryz.underlying23 (by rw [c52]; decide) h2 (fun n cs' y hy hlt => rd_aud hy (Nat.le_trans (Nat.le_of_lt hlt) (Nat.le_trans hb2 hB)))
  rw [c47] at r1
  rw [c52] at r2
  have e1' : u1 = .slice a1 l1 t1 := by simpa [Value.cells] using e1.symm
  have e2' : u2 = .slice a2 l2 t2 := by simpa [Value.cells] using e2.symm
  subst e1'; subst e2'
  refine (Fn.law (law_ok n o l ⟨Nat.le_trans (Nat.le_of_lt l2') (Nat.le_trans hb2 hB), q2⟩ lo up) (vs := #[.int .i64 n, .slice a1 l1 t1, .slice a2 l2 t2, .int .i64 lo, .int .i64 up]) (w := W)
    (.cons (.int _ _) (.cons r1 (.cons r2 (.cons (.int _ _) (.cons (.int _ _) .nil)))))).mono fun e W' ⟨he, hos, hout, _, hold⟩ => ?_
  subst he
  exact ⟨_, rfl, law_post laidOut readsAll rfl Tryz.underlying4 (by kernel_rfl) hW' rfl rfl rfl hos hout hold⟩

/-- A world for the witness: the listed tables hold what their initialisers lay. -/
noncomputable def cellsOfDatum : DataW Unit → Array Value
  | .agg l => (l.map fun d => match d with | .lit (.int k n) => Value.int k n | _ => undef).toArray
  | _ => #[]
noncomputable def layAt (b : Nat) (d : DataW Unit) (h : Array Obj) : Array Obj := h.modify b fun
  | .cells _ t frozen => .cells (cellsOfDatum d) t frozen
  | o => o
noncomputable def laidHeap (h : Array Obj) : Array Obj :=
  layAt ((Tryz.prog.globalNamed "internal/strconv.uint64pow10").getD 0) Rows.laid_internal_strconv_uint64pow10
    (layAt ((Tryz.prog.globalNamed "math/bits.deBruijn64tab").getD 0) Rows.laid_math_bits_deBruijn64tab
      (layAt ((Tryz.prog.globalNamed "math/bits.deBruijn32tab").getD 0) Rows.laid_math_bits_deBruijn32tab h))
noncomputable def laidWorld (os : Os) : World :=
  { World.holding Tryz.prog os ⟨#[], #[], []⟩ with heap := laidHeap (World.holding Tryz.prog os ⟨#[], #[], []⟩).heap }
noncomputable def wargs : Array Value := #[.int .i64 0, .slice none 0 0, .slice none 0 0, .int .i64 0, .int .i64 0]
theorem laid_met (os : Os) : laidMet Tryz.prog Rows.auditSequenceUptoRow.laid ((laidWorld os).forCall (fun _ _ => 0) ⟨#[], wargs, []⟩).memory :=
  laidMet_of_run' 8 (by kernel_rfl) (by kernel_rfl)
theorem reads (os : Os) {H : Type} (enc : TypeId × Value → H) : ∃ places, DataW.whole enc Tryz.prog ((laidWorld os).forCall (fun _ _ => 0) ⟨#[], wargs, []⟩).memory Tryz.f3.params.toList Rows.auditSequenceSpec.vars false wargs.toList 8 = some ([.lit (.int .i64 0), .nil, .nil, .lit (.int .i64 0), .lit (.int .i64 0)], [], places) :=
  ⟨[], by kernel_rfl⟩

theorem liftedUpto (os : Os) (started : os.Started) (H : Type) (enc : TypeId × Value → H) (F : Stop.Interp) :
    ReturnsInHanded {} Tryz.checked os 3 .any ((Rows.OpenSpec.upto Rows.auditSequenceSpec).preRow enc Tryz.prog Tryz.f3 Rows.auditSequenceUptoRow.domain false Rows.auditSequenceUptoRow.laid) (((Rows.OpenSpec.upto Rows.auditSequenceSpec).at F).post enc Tryz.prog Tryz.f3 false true false false) := by
  obtain ⟨places, hx⟩ := reads os enc
  refine returnsInHanded_of_row (C := Tryz.checked) (s := Rows.OpenSpec.upto Rows.auditSequenceSpec) own started (by kernel_rfl) Tryz.func3
    (witness_row_at (enc := enc) (C := Tryz.checked) false (laidWorld os) wargs rfl (by kernel_rfl) (by kernel_rfl) (by kernel_rfl)
      (OpenSpec.preRow_of_cond 8 hx (by kernel_rfl) (fun k hk => by cases hk; kernel_rfl) (by kernel_rfl) (laid_met os))) ?_
  intro W base args ds gs before hval hW _ hcond _ hL _ _
  exact contract H enc W base args ds gs before hval hW (of_decide_eq_true (hcond _ rfl))

theorem saidUpto : Rows.AuditSequenceUptoSaid :=
  OpenClaim.holds_of_cond 3 Tryz.f3 rfl rfl rfl rfl rfl rfl rfl ⟨rfl, rfl, rfl, rfl, rfl⟩ rfl rfl rfl rfl rfl (by kernel_rfl) Tryz.func3 (by kernel_rfl)
    (of_decide_eq_true (by kernel_rfl)) (by unfold Func.isWrapper; first | (rw [if_pos (by decide +kernel)]; kernel_rfl) | (rw [if_neg (by decide +kernel)]; exact ⟨rfl, rfl⟩))
    (fun os started H enc _ F => by rw [OpenClaim.pre_eq_preRow]; exact liftedUpto os started H enc F)

/-- No parameter wants a stand-in; the program's own looks are off. -/
theorem plain (f : FuncId) (fn : Func) (hf : Tryz.pinned.checked.prog.funcNamed "bascule/basculelaw23.AuditSequence" = some f) (hfn : Tryz.pinned.checked.prog.funcs[f]? = some fn) :
    true = Tryz.pinned.checked.prog.looks [] ∧ ∀ (j : Nat) t, fn.params[j]? = some t → Tryz.pinned.checked.prog.wantsStandIn t = false := by
  obtain rfl : f = 3 := Option.some.inj ((show Tryz.prog.funcNamed "bascule/basculelaw23.AuditSequence" = some 3 by kernel_rfl).symm.trans hf) |>.symm
  obtain rfl : fn = Tryz.f3 := (Option.some.inj (Tryz.func3.symm.trans hfn)).symm
  refine ⟨by kernel_rfl, fun j t ht => ?_⟩
  rw [Tryz.params3] at ht
  have hall : (#[3, 22, 23, 3, 3] : Array TypeId).toList.all (fun t => !Tryz.prog.wantsStandIn t) = true := by kernel_rfl
  have := List.all_eq_true.1 hall t (by simpa using Array.mem_of_getElem? ht)
  have h2 : (!Tryz.prog.wantsStandIn t) = true := this
  cases hw : Tryz.prog.wantsStandIn t with
  | false => exact hw
  | true => rw [hw] at h2; cases h2

theorem cardUpto : Rows.AuditSequenceUptoCardSaid :=
  Claim7.holds_tied_plain_at .later [] _ _ _ _ saidUpto (fun _ h => by cases h) (by kernel_rfl) (fun _ h => by cases h) auditSequenceUpto_row_tie rfl ⟨rfl, rfl⟩ (by kernel_rfl) rfl plain (by kernel_rfl)

end Go.Proofs.YtgikapdeekepiaaGreatDoor
