/- Regions that draw their order: what the lexical run leaves is what every order leaves. -/
import Derived.Test.YtgikapdeekepiaaGreatDoorEvL
set_option linter.unusedSimpArgs false
namespace Go.Proofs.YtgikapdeekepiaaGreatDoor
open Go

theorem stepD_cls {P : Program} {V : Env} {call : CallF} {fr : FT} {h h' : AH} {o : Oper} {x : AV} (hs : stepD P V call fr h o = some (x, h')) (hc : cls o ≠ 2) (hc3 : cls o ≠ 3) : aop P V fr h o = .ok x h' := by
  unfold stepD at hs
  split at hs
  · rename_i y hy ha
    simp only [Option.some.injEq, Prod.mk.injEq] at hs
    rw [ha, hs.1, hs.2]
  · rename_i f args ha
    exfalso
    unfold aop at ha
    unfold cls at hc hc3
    cases ho : o.op <;> simp only [ho] at ha hc hc3 <;> first | (exact absurd rfl hc; done) | (exact absurd rfl hc3; done) | skip
    all_goals first
      | (unfold OO.of at ha; split at ha <;> cases ha; done)
      | (split at ha
         · first
             | (unfold OO.of at ha; split at ha <;> cases ha; done)
             | (cases ha; done)
             | (split at ha <;> cases ha; done)
         · cases ha)
      | skip
    case call c =>
      obtain ⟨cl, cargs, cts⟩ := c
      cases cl with
      | builtin b =>
        cases b <;> simp only at ha hc hc3 <;> first | (exact absurd rfl hc; done) | (exact absurd rfl hc3; done) | skip
        all_goals (split at ha <;> first | (unfold OO.of at ha; split at ha <;> cases ha; done) | cases ha)
      | value f => exact absurd rfl hc
      | invoke r m => exact absurd rfl hc3
  · cases hs

theorem stepD_evOp {P : Program} {V : Env} {call : CallF} {s : AS} {o : Oper} {x : AV} {h' : AH} (hs : stepD P V call s.fr s.h o = some (x, h')) :
    evOp P V call o s = some (.normal, { s with fr := fput s.fr o.dst x, h := h' }) := by
  unfold stepD at hs
  unfold evOp
  split at hs
  · rename_i y hy ha
    simp only [Option.some.injEq, Prod.mk.injEq] at hs
    rw [ha, hs.1, hs.2]
  · rename_i f args ha
    rw [ha]
    split at hs
    · rename_i r hr hc
      simp only [Option.some.injEq, Prod.mk.injEq] at hs
      simp only [hc, hs.1, hs.2]
    · cases hs
  · cases hs

theorem stepD_congr {P : Program} {V : Env} {call : CallF} {fr fr' : FT} {h : AH} {o : Oper} (hl : ∀ x ∈ o.op.operands, aeval fr x = aeval fr' x) (hc : cls o ≠ 3) : stepD P V call fr h o = stepD P V call fr' h o := by
  unfold stepD
  rw [aop_congr hl hc]

section
variable {P : Program} {V : Env} {call : CallF} {ops : Array Oper} {s : AS} {xs : List (Bool × AV)} {st : List (FT × AH)}

/-- Where nothing changes the memory the lexical heaps are one. -/
theorem heap_const (hlex : Lex P V call ops ops.toList s.fr s.h xs st) (hcls : ∀ (j : Nat) o, ops[j]? = some o → cls o ≠ 3) : ∀ (d k : Nat) F H F' H', st[k]? = some (F, H) → st[k + d]? = some (F', H') →
    (∀ m, k ≤ m → m < k + d → emod ops.toList xs m = false) → H' = H := by
  intro d
  induction d with
  | zero =>
    intro k F H F' H' h1 h2 _
    rw [Nat.add_zero, h1] at h2
    cases h2; rfl
  | succ d ih =>
    intro k F H F' H' h1 h2 hm
    have hlt : k + d < ops.toList.length := by
      have := (List.getElem?_eq_some_iff.1 h2).1
      rw [hlex.sl] at this
      omega
    obtain ⟨b, x, F1, H1, H2, g1, g2, g3, g4, g5, g6⟩ := hlex.step (k + d) _ (List.getElem?_eq_getElem hlt)
    have e1 := ih k F H F1 H1 h1 g2 (fun m a b => hm m a (by omega))
    rw [show k + (d + 1) = k + d + 1 from by omega] at h2
    rw [g3] at h2
    cases h2
    rw [← e1]
    cases b with
    | false => exact (g6 rfl).2
    | true =>
      have hst := g5 rfl
      have hne := hm (k + d) (by omega) (by omega)
      have hc3 := hcls (k + d) ops.toList[k + d] (by simp at hlt; simp [hlt])
      have hc2 : cls ops.toList[k + d] ≠ 2 := by
        intro e
        have hm2 : emod ops.toList xs (k + d) = true := by
          unfold emod
          rw [List.getElem?_eq_getElem hlt, g1]
          simp only [e]
          rfl
        rw [hm2] at hne
        cases hne
      have ha := stepD_cls hst hc2 hc3
      have h01 : cls ops.toList[k + d] = 0 ∨ cls ops.toList[k + d] = 1 := by
        have : cls ops.toList[k + d] ≤ 3 := by
          unfold cls
          repeat' split
          all_goals omega
        omega
      rcases h01 with e | e
      · exact (aop_pure e ha).1
      · exact aop_read e ha

theorem mem_mods {m : Nat} : m ∈ (List.range ops.size).filter (emod ops.toList xs) ↔ emod ops.toList xs m = true := by
  rw [List.mem_filter, List.mem_range]
  refine ⟨fun h => h.2, fun h => ⟨?_, h⟩⟩
  unfold emod at h
  split at h
  · rename_i o _ ho _
    have := (List.getElem?_eq_some_iff.1 ho).1
    simpa using this
  · cases h

/-- Two places between which nothing changes the memory. -/
theorem heap_mask (hlex : Lex P V call ops ops.toList s.fr s.h xs st) (hcls : ∀ (j : Nat) o, ops[j]? = some o → cls o ≠ 3) {mods : List Nat} (hmods : mods = (List.range ops.size).filter (emod ops.toList xs))
    {p q : Nat} {F F' : FT} {H H' : AH} (hp : st[p]? = some (F, H)) (hq : st[q]? = some (F', H')) (he : lexmask mods p = lexmask mods q) : H = H' := by
  have one : ∀ {p q : Nat} {F F' : FT} {H H' : AH}, p ≤ q → st[p]? = some (F, H) → st[q]? = some (F', H') → lexmask mods p = lexmask mods q → H = H' := by
    intro p q F F' H H' hpq hp hq he
    refine (heap_const hlex hcls (q - p) p F H F' H' hp (by rw [show p + (q - p) = q from by omega]; exact hq) fun m h1 h2 => ?_).symm
    cases hm : emod ops.toList xs m with
    | false => rfl
    | true =>
      have hmem : m ∈ mods := by rw [hmods]; exact mem_mods.2 hm
      have h3 : (lexmask mods q).testBit m = true := testBit_lexmask.2 ⟨hmem, by omega⟩
      rw [← he] at h3
      have := (testBit_lexmask.1 h3).2
      omega
  rcases Nat.le_total p q with h | h
  · exact one h hp hq he
  · exact (one h hq hp he.symm).symm

/-- What heapOf finds at a lexical place. -/
theorem heapOf_lex (hlex : Lex P V call ops ops.toList s.fr s.h xs st) (hcls : ∀ (j : Nat) o, ops[j]? = some o → cls o ≠ 3) {d : DC} {B : List Nat} (hd : d = drawDC ops B ((List.range ops.size).filter (emod ops.toList xs)) xs st)
    {p q : Nat} {F : FT} {H : AH} {ex : List (Nat × AH)} (hp : st[p]? = some (F, H)) (hq : q ∈ d.ps) (he : lexmask d.mods p = lexmask d.mods q) : d.heapOf ex (lexmask d.mods p) = some H := by
  unfold DC.heapOf
  cases hf : d.ps.find? (fun r => Nat.beq (lexmask d.mods r) (lexmask d.mods p)) with
  | none =>
    have := List.find?_eq_none.1 hf q hq
    simp [he] at this
  | some r =>
    have h1 := List.mem_of_find?_eq_some hf
    have h2 : lexmask d.mods r = lexmask d.mods p := by have := List.find?_some hf; simpa using this
    have hr : r < st.length := by
      rw [hlex.sl]
      subst hd
      simp only [drawDC, List.mem_cons, List.mem_map] at h1
      have hn : ops.toList.length = ops.size := by simp
      rcases h1 with h1 | h1 | ⟨m, hm, h1⟩
      · omega
      · omega
      · have := List.mem_range.1 (List.mem_filter.1 hm).1
        omega
    have hst : d.st = st := by rw [hd]; rfl
    simp only [hst]
    obtain ⟨⟨F', H'⟩, hr'⟩ : ∃ e, st[r]? = some e := ⟨_, List.getElem?_eq_getElem hr⟩
    rw [hr']
    rw [heap_mask hlex hcls (mods := d.mods) (by rw [hd]; rfl) hp hr' h2.symm]
    rfl

/-- Every memory changing operation that may come up next, at every set. -/
theorem draw_next (hlex : Lex P V call ops ops.toList s.fr s.h xs st) (hcls : ∀ (j : Nat) o, ops[j]? = some o → cls o ≠ 3) {d : DC} {B : List Nat} (hd : d = drawDC ops B ((List.range ops.size).filter (emod ops.toList xs)) xs st)
    {ex1 ex : List (Nat × AH)} (h1 : d.growLex P V call d.ps [] = some ex1) {n : Nat} (h2 : d.growEx P V call n 0 ex1 = some ex) {S : Nat} {H : AH} (hS : d.heapOf ex S = some H)
    {m : Nat} (hm : emod ops.toList xs m = true) (ha : d.addable S m = true) {o : Oper} {F : FT} {H0 : AH} {b : Bool} {x : AV} (ho : ops[m]? = some o) (hst : st[m]? = some (F, H0)) (hx : xs[m]? = some (b, x)) :
    ∃ H', stepD P V call F H o = some (x, H') ∧ d.heapOf ex (S ||| 2 ^ m) = some H' := by
  obtain ⟨a1, a2⟩ := DC.growLex_ok h1
  obtain ⟨a3, a4⟩ := DC.growEx_ok h2
  have hmods : d.mods = (List.range ops.size).filter (emod ops.toList xs) := by rw [hd]; rfl
  have hmm : m ∈ d.mods := by rw [hmods]; exact mem_mods.2 hm
  have hops : d.ops = ops := by rw [hd]; rfl
  have hdst : d.st = st := by rw [hd]; rfl
  have hdxs : d.xs = xs := by rw [hd]; rfl
  have use : d.Next P V call ex S H m → ∃ H', stepD P V call F H o = some (x, H') ∧ d.heapOf ex (S ||| 2 ^ m) = some H' := by
    rintro ⟨o', F', H0', b', x', H', g1, g2, g3, g4, g5⟩
    rw [hops, ho] at g1
    rw [hdst, hst] at g2
    rw [hdxs, hx] at g3
    cases g1; cases g2; cases g3
    exact ⟨H', g4, g5⟩
  cases hf : d.ps.find? (fun r => Nat.beq (lexmask d.mods r) S) with
  | none =>
    unfold DC.heapOf at hS
    rw [hf] at hS
    obtain ⟨i, hi⟩ := hlook_get hS
    exact use (a4 i S H (Nat.zero_le _) hi m hmm ha)
  | some p =>
    have hp := List.mem_of_find?_eq_some hf
    have hpS : lexmask d.mods p = S := by have := List.find?_some hf; simpa using this
    obtain ⟨Fp, Hp, hstp, hnext⟩ := a2 p hp
    rw [hdst] at hstp
    have hHp : H = Hp := by
      unfold DC.heapOf at hS
      rw [hf] at hS
      simp only [hdst, hstp, Option.map_some] at hS
      exact (Option.some.inj hS).symm
    subst hHp; subst hpS
    cases hlm : Nat.beq (lexmask d.mods p) (lexmask d.mods m) with
    | false => exact use ((hnext m hmm ha hlm).ext a3)
    | true =>
      have he := Nat.eq_of_beq_eq_true hlm
      have hH := heap_mask hlex hcls hmods hstp hst he
      subst hH
      obtain ⟨b', x', F', H1, H2, g1, g2, g3, g4, g5, g6⟩ := hlex.step m o (by simpa using ho)
      rw [hx] at g1; rw [hst] at g2
      cases g1; cases g2
      have hb : b = true := by
        unfold emod at hm
        rw [show ops.toList[m]? = some o from by simpa using ho, hx] at hm
        cases b with
        | true => rfl
        | false => simp at hm
      refine ⟨H2, g5 hb, ?_⟩
      have hmask : lexmask d.mods p ||| 2 ^ m = lexmask d.mods (m + 1) := by
        apply Nat.eq_of_testBit_eq
        intro k
        rw [Bool.eq_iff_iff, Nat.testBit_or, Bool.or_eq_true, Nat.testBit_two_pow, decide_eq_true_eq, he, testBit_lexmask, testBit_lexmask]
        constructor
        · rintro (⟨h1, h2⟩ | rfl)
          · exact ⟨h1, by omega⟩
          · exact ⟨hmm, by omega⟩
        · rintro ⟨h1, h2⟩
          by_cases hk : m = k
          · exact .inr hk
          · exact .inl ⟨h1, by omega⟩
      rw [hmask]
      refine heapOf_lex hlex hcls hd g3 (q := m + 1) ?_ rfl
      rw [hd]
      simp only [drawDC, List.mem_cons, List.mem_map]
      exact .inr (.inr ⟨m, mem_mods.2 hm, rfl⟩)

/-- The lexical frames. -/
theorem lex_FI (hlex : Lex P V call ops ops.toList s.fr s.h xs st) : ∀ (k : Nat) F H, st[k]? = some (F, H) → FI ops xs s.fr (fun i => i < k) F := by
  intro k
  induction k with
  | zero =>
    intro F H h
    rw [hlex.s0] at h
    cases h
    exact ⟨fun _ => rfl, fun t i o b x _ _ _ hi => absurd hi (Nat.not_lt_zero _), fun t _ => rfl⟩
  | succ k ih =>
    intro F H h
    have hlt : k < ops.toList.length := by
      have := (List.getElem?_eq_some_iff.1 h).1
      rw [hlex.sl] at this
      omega
    obtain ⟨b, x, F1, H1, H2, g1, g2, g3, _⟩ := hlex.step k _ (List.getElem?_eq_getElem hlt)
    rw [g3] at h
    cases h
    have ho : ops[k]? = some ops.toList[k] := by simp at hlt; simp [hlt]
    exact (ih F1 H1 g2).step ho g1 (fun t i o' _ _ _ hi => hi) (fun i => by omega)

end

theorem count_set {l : List Bool} {j : Nat} (h : l[j]? = some false) : l.count false = (l.set j true).count false + 1 := by
  induction l generalizing j with
  | nil => simp at h
  | cons a l ih =>
    cases j with
    | zero => simp at h; subst h; simp
    | succ j =>
      simp only [List.getElem?_cons_succ] at h
      have := ih h
      simp only [List.set_cons_succ, List.count_cons]
      omega

theorem evDraw_main {P : Program} {V : Env} {call : CallF} (hV : V.ok P) (hcall : ∀ f args h, CallOK P f args h (call f args h)) {ops : Array Oper} {s s' : AS} {x : AX} {id : Nat}
    {xs : List (Bool × AV)} {st : List (FT × AH)} (hlex : Lex P V call ops ops.toList s.fr s.h xs st) {d : DC} (hd : d = drawDC ops (befL ops.toList []) ((List.range ops.size).filter (emod ops.toList xs)) xs st)
    (hstat : chkStatic ops (befL ops.toList []) = true) {ex1 ex : List (Nat × AH)} (hg1 : d.growLex P V call d.ps [] = some ex1) (hg2 : d.growEx P V call 200 0 ex1 = some ex) (hreads : d.reads P V ex = true)
    (h : (match st[ops.size]? with
      | some (F, H) => some (AX.normal, { s with fr := F, h := H })
      | none => none) = some (x, s')) {Γ0 Γ : Ctx} {w0 w : World} {a : Act} (hr : Rel Γ s a w) (he : Evo Γ0 w0 Γ w) : (Code.region id ops true).wp P (PostQ Γ0 w0 x s') a w := by
  split at h
  · rename_i Fn Hn hfin
    simp only [Option.some.injEq, Prod.mk.injEq] at h
    obtain ⟨rfl, rfl⟩ := h
    -- the static facts
    simp only [chkStatic, Bool.and_eq_true] at hstat
    obtain ⟨hst1, hst2⟩ := hstat
    have hxl : xs.length = ops.size := by rw [hlex.xl]; simp
    have hedge : ∀ (j : Nat) o, ops[j]? = some o → ∀ e ∈ o.after, Region.binds .any e = true → e.on < j := by
      intro j o ho e hem hb
      have := allI_ok hst1 j o (by simpa using ho)
      simp only [Bool.and_eq_true, List.all_eq_true, Nat.zero_add] at this
      have := this.1 e (by simpa using hem)
      simpa [hb] using this
    have hcls : ∀ (j : Nat) o, ops[j]? = some o → cls o ≠ 3 := by
      intro j o ho
      have := allI_ok hst1 j o (by simpa using ho)
      simp only [Bool.and_eq_true, bne_iff_ne] at this
      exact this.2
    have happ : ∀ (i j : Nat) oi oj, ops[i]? = some oi → ops[j]? = some oj → i < j → oi.apart ops oj = false → bef (befL ops.toList []) i j = true := by
      intro i j oi oj hi hj hij hap
      have h1 := allI_ok hst2 j oj (by simpa using hj)
      have h2 := allI_ok h1 i oi (by simpa using hi)
      simp only [Nat.zero_add, Bool.or_eq_true, Bool.not_eq_true', decide_eq_false_iff_not] at h2
      rcases h2 with (h2 | h2) | h2
      · exact absurd hij h2
      · rw [hap] at h2; cases h2
      · exact h2
    have hmem : ∀ m, emod ops.toList xs m = true → m < ops.size ∧ m ∈ (List.range ops.size).filter (emod ops.toList xs) := by
      intro m hm
      have hlt : m < ops.size := by
        unfold emod at hm
        split at hm
        · rename_i o _ ho _
          have := (List.getElem?_eq_some_iff.1 ho).1
          simpa using this
        · cases hm
      exact ⟨hlt, List.mem_filter.2 ⟨List.mem_range.2 hlt, hm⟩⟩
    have hdmods : d.mods = (List.range ops.size).filter (emod ops.toList xs) := by rw [hd]; rfl
    -- the walk
    have hfinFI := lex_FI hlex ops.size Fn Hn hfin
    -- all have come up: the end
    have fin : ∀ (listed : Array Bool) (Γ : Ctx) (a : Act) (w : World) (fr : FT) (S : Nat) (H : AH), (∀ j, j < ops.size → listed.getD j false = true) →
        d.heapOf ex S = some H → (∀ k, S.testBit k = true ↔ (emod ops.toList xs k = true ∧ listed.getD k false = true)) →
        FI ops xs s.fr (fun i => listed.getD i false = true) fr → Rel Γ { s with fr := fr, h := H } a w → Evo Γ0 w0 Γ w → PostQ Γ0 w0 .normal { s with fr := Fn, h := Hn } .normal a w := by
      intro listed Γ a w fr S H hall hlk hSm hfi hrel hev
      have hmask : S = lexmask d.mods ops.size := by
        apply Nat.eq_of_testBit_eq
        intro k
        rw [Bool.eq_iff_iff, hSm, testBit_lexmask, hdmods, mem_mods]
        exact ⟨fun h1 => ⟨h1.1, (hmem k h1.1).1⟩, fun h1 => ⟨h1.1, hall k h1.2⟩⟩
      have hH : Hn = H := by
        have := heapOf_lex (ex := ex) hlex hcls hd hfin (q := ops.size) (by rw [hd]; simp [drawDC]) rfl
        rw [← hmask, hlk] at this
        exact (Option.some.inj this).symm
      have hfr : ∀ t, fr.get t = Fn.get t := fun t => hfi.read hxl hfinFI (fun i o hi _ => by
        have hlt := (Array.getElem?_eq_some_iff.1 hi).1
        exact ⟨fun _ => hlt, fun _ => hall i hlt⟩)
      subst hH
      exact ⟨Γ, rfl, ⟨hrel.st, hrel.fr.congr hfr, hrel.df⟩, hev⟩
    -- the walk
    have main : ∀ (fuel : Nat) (listed : Array Bool) (Γ : Ctx) (a : Act) (w : World) (fr : FT) (S : Nat) (H : AH),
        listed.size = ops.size → listed.toList.count false = fuel → Closed ops (fun i => listed.getD i false = true) →
        d.heapOf ex S = some H → (∀ k, S.testBit k = true ↔ (emod ops.toList xs k = true ∧ listed.getD k false = true)) →
        FI ops xs s.fr (fun i => listed.getD i false = true) fr → Rel Γ { s with fr := fr, h := H } a w → Evo Γ0 w0 Γ w →
        wpAny P .any ops (PostQ Γ0 w0 .normal { s with fr := Fn, h := Hn }) fuel listed a w := by
      intro fuel
      induction fuel with
      | zero =>
        intro listed Γ a w fr S H hsz hcnt hclo hlk hSm hfi hrel hev
        have hall : ∀ j, j < ops.size → listed.getD j false = true := by
          intro j hj
          have hj' : j < listed.size := by omega
          cases hb : listed[j] with
          | true => simp [Array.getD_eq_getD_getElem?, hj', hb]
          | false =>
            exfalso
            have : false ∈ listed.toList := by rw [← hb]; exact Array.getElem_mem_toList hj'
            have := List.count_pos_iff.2 this
            omega
        refine ⟨?_, fin listed Γ a w fr S H hall hlk hSm hfi hrel hev⟩
        apply List.eq_nil_iff_forall_not_mem.2
        intro j hj
        obtain ⟨h0, o, ho, _⟩ := mem_ready.1 hj
        have hlt := (Array.getElem?_eq_some_iff.1 ho).1
        have := hall j hlt
        have hlt' : j < listed.size := by omega
        simp [Array.getD_eq_getD_getElem?, hlt'] at h0 this
        rw [h0] at this; cases this
      | succ fuel ih =>
        intro listed Γ a w fr S H hsz hcnt hclo hlk hSm hfi hrel hev
        refine ⟨fun hnone => ?_, fun j hj => ?_⟩
        · -- none may come up: all have
          refine fin listed Γ a w fr S H (fun j => ?_) hlk hSm hfi hrel hev
          induction j using Nat.strongRecOn with
          | _ j ihj =>
            intro hj
            have hj' : j < listed.size := by omega
            cases hb : listed[j] with
            | true => simp [Array.getD_eq_getD_getElem?, hj', hb]
            | false =>
              exfalso
              have ho : ops[j]? = some ops[j] := by simp
              have : j ∈ Region.ready .any ops listed := mem_ready.2 ⟨by simp [Array.getD_eq_getD_getElem?, hj', hb], _, ho, fun e hem hbd => by
                have hlt := hedge j _ ho e hem hbd
                exact ihj e.on hlt (by omega)⟩
              rw [hnone] at this
              cases this
        · -- operation j comes up
          obtain ⟨h0, o, ho, hall⟩ := mem_ready.1 hj
          have hjlt := (Array.getElem?_eq_some_iff.1 ho).1
          have hjl : j < listed.size := by omega
          have hjf : listed.getD j false = false := by
            simp [Array.getD_eq_getD_getElem?, hjl] at h0 ⊢; exact h0
          -- what has come up, and j
          have hclo' : Closed ops (fun i => listed.getD i false = true ∨ i = j) := by
            intro k ok hk hS e hem hbd
            rcases hS with hS | rfl
            · exact .inl (hclo k ok hk hS e hem hbd)
            · rw [ho] at hk; cases hk; exact .inl (hall e hem hbd)
          have hbefore : ∀ i, bef (befL ops.toList []) i j = true → i ≠ j → listed.getD i false = true := fun i hb hne => (bef_closed hclo' hb (.inr rfl)).resolve_right hne
          have hafter : ∀ i, bef (befL ops.toList []) j i = true → ¬ listed.getD i false = true := fun i hb hL => by
            have := bef_closed hclo hb hL
            rw [hjf] at this; cases this
          -- who has written what j looks at
          have hconf : ∀ (i : Nat) oi, ops[i]? = some oi → i ≠ j → (oi.apart ops o = false) → (o.apart ops oi = false) → (listed.getD i false = true ↔ i < j) := by
            intro i oi hi hne h1 h2
            rcases Nat.lt_or_gt_of_ne hne with hlt | hgt
            · exact ⟨fun _ => hlt, fun _ => hbefore i (happ i j oi o hi ho hlt h1) hne⟩
            · exact ⟨fun hL => absurd hL (hafter i (happ j i o oi ho hi hgt h2)), fun hlt => by omega⟩
          obtain ⟨b, x, Fj, Hj, Hj', g1, g2, g3, g4, g5, g6⟩ := hlex.step j o (by simpa using ho)
          have hFj := lex_FI hlex j Fj Hj g2
          have hread : ∀ t, t ∈ o.looksAt ops → fr.get t = Fj.get t := fun t ht => hfi.read hxl hFj (fun i oi hi hd => by
            by_cases hne : i = j
            · subst hne
              rw [hjf]
              exact ⟨(fun h => by cases h), fun h => absurd h (Nat.lt_irrefl _)⟩
            · refine hconf i oi hi hne ?_ ?_
              · simp [Oper.apart, hd, ht]
              · simp [Oper.apart, hd, ht])
          have hops : ∀ y ∈ o.op.operands, aeval fr y = aeval Fj y := fun y hy => aeval_congr fun t e => hread t (by
            subst e
            simp only [Oper.looksAt, List.mem_append, List.mem_filterMap]
            exact .inl ⟨.tmp t, by simpa using hy, rfl⟩)
          have hwant : awanted o ops fr = some b := by
            rw [← g4]
            unfold awanted
            cases hg : o.guard with
            | none => rfl
            | some q =>
              obtain ⟨k, want⟩ := q
              simp only
              cases hk : ops[k]? with
              | none => rfl
              | some ok =>
                simp only
                cases hd : ok.dst with
                | none => rfl
                | some d =>
                  simp only
                  rw [hread d (by
                    simp only [Oper.looksAt, List.mem_append, hg]
                    exact .inr (by simp [hk, hd]))]
          -- the frame behind it
          have hset : ∀ i, ((listed.setIfInBounds j true).getD i false = true ↔ (listed.getD i false = true ∨ i = j)) := by
            intro i
            by_cases e : j = i
            · subst e; simp [Array.getD_eq_getD_getElem?, hjl]
            · rw [getD_set_ne false e]
              exact ⟨.inl, fun h => h.resolve_right (Ne.symm e)⟩
          have hfi' : FI ops xs s.fr (fun i => (listed.setIfInBounds j true).getD i false = true) (fput fr o.dst x) := by
            refine hfi.step ho g1 (fun t i oi hd hi hd' hL => ?_) hset
            by_cases hne : i = j
            · subst hne; rw [hjf] at hL; cases hL
            · refine (hconf i oi hi hne ?_ ?_).1 hL
              · simp [Oper.apart, hd, hd']
              · simp [Oper.apart, hd, hd']
          have hsz' : (listed.setIfInBounds j true).size = ops.size := by simpa using hsz
          have hcnt' : (listed.setIfInBounds j true).toList.count false = fuel := by
            have hlj : listed.toList[j]? = some false := by
              simp [Array.getD_eq_getD_getElem?, hjl] at hjf
              simp [hjl, hjf]
            have := count_set hlj
            simp only [Array.toList_setIfInBounds]
            omega
          have hclo2 : Closed ops (fun i => (listed.setIfInBounds j true).getD i false = true) := by
            intro k ok hk hS e hem hbd
            exact (hset _).2 (hclo' k ok hk ((hset k).1 hS) e hem hbd)
          unfold wpOp
          simp only [ho]
          rw [awanted_ok hrel.fr hwant]
          cases b with
          | false =>
            simp only [Bool.false_eq_true, if_false]
            obtain ⟨hx, _⟩ := g6 rfl
            subst hx
            refine ih _ Γ _ w (fput fr o.dst (.tuple [])) S H hsz' hcnt' hclo2 hlk (fun m => ?_) hfi' ⟨hrel.st, fput_ok hrel.fr o.dst (undef_VR Γ w), by rw [put_defers]; exact hrel.df⟩ hev
            rw [hset, hSm]
            refine and_congr_right fun hm => ⟨.inl, fun h => h.resolve_right (fun e => ?_)⟩
            subst e
            unfold emod at hm
            rw [g1] at hm
            split at hm
            · rename_i heq; cases heq
            · cases hm
          | true =>
            simp only [if_true]
            left
            have hst := g5 rfl
            by_cases hc2 : cls o = 2
            · -- it may change the memory
              have hmj : emod ops.toList xs j = true := by
                unfold emod
                rw [show ops.toList[j]? = some o from by simpa using ho, g1]
                simp only [hc2]; rfl
              have hadd : d.addable S j = true := by
                unfold DC.addable
                simp only [Bool.and_eq_true, List.all_eq_true, Bool.or_eq_true, Bool.not_eq_true']
                refine ⟨?_, fun m hm => ?_⟩
                · cases hb : S.testBit j with
                  | false => rfl
                  | true => have := ((hSm j).1 hb).2; rw [hjf] at this; cases this
                · have hm' : emod ops.toList xs m = true := by rw [hdmods] at hm; exact mem_mods.1 hm
                  have hdB : d.B = befL ops.toList [] := by rw [hd]; rfl
                  rw [hdB]
                  constructor
                  · by_cases hne : m = j
                    · subst hne; exact .inl (.inl (by simp))
                    · cases hb : bef (befL ops.toList []) m j with
                      | false => exact .inl (.inr rfl)
                      | true => exact .inr ((hSm m).2 ⟨hm', hbefore m hb hne⟩)
                  · cases hb : bef (befL ops.toList []) j m with
                    | false => exact .inr rfl
                    | true =>
                      left
                      cases hb' : S.testBit m with
                      | false => rfl
                      | true => exact absurd ((hSm m).1 hb').2 (hafter m hb)
              obtain ⟨H', hst1, hlk'⟩ := draw_next hlex hcls hd hg1 hg2 hlk hmj hadd ho g2 g1
              have hst' : stepD P V call fr H o = some (x, H') := by rw [stepD_congr hops (hcls j o ho)]; exact hst1
              have hev1 := stepD_evOp (s := { s with fr := fr, h := H }) hst'
              refine evOp_ok hV hcall hev1 hrel (fun _ Γ' a' w' hr' he' => ?_) (fun y hy => by cases hy)
              refine ih _ Γ' a' w' (fput fr o.dst x) (S ||| 2 ^ j) H' hsz' hcnt' hclo2 hlk' (fun m => ?_) hfi' hr' (hev.trans he')
              rw [hset, Nat.testBit_or, Bool.or_eq_true, Nat.testBit_two_pow, decide_eq_true_eq, hSm]
              constructor
              · rintro (⟨h1, h2⟩ | rfl)
                · exact ⟨h1, .inl h2⟩
                · exact ⟨hmj, .inr rfl⟩
              · rintro ⟨h1, h2 | rfl⟩
                · exact .inl ⟨h1, h2⟩
                · exact .inr rfl
            · -- it leaves the memory alone
              have hc3 := hcls j o ho
              have ha := stepD_cls hst hc2 hc3
              have h01 : cls o = 0 ∨ cls o = 1 := by
                have : cls o ≤ 3 := by
                  unfold cls
                  repeat' split
                  all_goals omega
                omega
              have haH : aop P V Fj H o = .ok x H := by
                rcases h01 with e | e
                · exact (aop_pure e ha).2 H
                · have hdops : d.ops = ops := by rw [hd]; rfl
                  have hdst : d.st = st := by rw [hd]; rfl
                  have hdxs : d.xs = xs := by rw [hd]; rfl
                  have hdB : d.B = befL ops.toList [] := by rw [hd]; rfl
                  unfold DC.reads at hreads
                  have hrd := allI_ok hreads j o (by rw [hdops]; simpa using ho)
                  simp only [Nat.zero_add, e, Nat.beq_refl, if_true, hdxs, g1, hdst, g2, Bool.and_eq_true, List.all_eq_true, Bool.or_eq_true] at hrd
                  have okA : d.okAt P V Fj o j x S H = true → aop P V Fj H o = .ok x H := by
                    intro hk
                    unfold DC.okAt at hk
                    simp only [Bool.or_eq_true, List.any_eq_true, Bool.and_eq_true, Bool.not_eq_true'] at hk
                    rcases hk with ⟨m, hm, hk⟩ | hk
                    · exfalso
                      have hm' : emod ops.toList xs m = true := by rw [hdmods] at hm; exact mem_mods.1 hm
                      have hne : m ≠ j := by
                        intro e'
                        subst e'
                        unfold emod at hm'
                        rw [show ops.toList[m]? = some o from by simpa using ho, g1] at hm'
                        simp [e] at hm'
                      rw [hdB] at hk
                      rcases hk with ⟨q1, q2⟩ | ⟨q1, q2⟩
                      · have := (hSm m).2 ⟨hm', hbefore m q1 hne⟩
                        rw [q2] at this; cases this
                      · exact hafter m q1 ((hSm m).1 q2).2
                    · split at hk
                      · rename_i y h2 hay
                        have := AV.beq_ok 20 y x hk
                        rw [hay, this, aop_read e hay]
                      · cases hk
                  cases hf : d.ps.find? (fun r => Nat.beq (lexmask d.mods r) S) with
                  | none =>
                    have hlk2 := hlk
                    unfold DC.heapOf at hlk2
                    rw [hf] at hlk2
                    obtain ⟨i, hi⟩ := hlook_get hlk2
                    exact okA (hrd.2 _ (List.mem_iff_getElem?.2 ⟨i, hi⟩))
                  | some p =>
                    have hp := List.mem_of_find?_eq_some hf
                    have hpS : lexmask d.mods p = S := by have := List.find?_some hf; simpa using this
                    have hlk2 := hlk
                    unfold DC.heapOf at hlk2
                    rw [hf] at hlk2
                    simp only [hdst, Option.map_eq_some_iff] at hlk2
                    obtain ⟨⟨Fp, Hp⟩, hstp, rfl⟩ := hlk2
                    rcases hrd.1 p hp with hq | hq
                    · have hHH := heap_mask hlex hcls hdmods hstp g2 (Nat.eq_of_beq_eq_true hq)
                      simp only [hHH]
                      have := aop_read e ha
                      subst this
                      exact ha
                    · rw [hstp] at hq
                      simp only [hpS] at hq
                      exact okA hq
              have hst' : stepD P V call fr H o = some (x, H) := by
                rw [stepD_congr hops hc3]
                unfold stepD
                rw [haH]
              have hev1 := stepD_evOp (s := { s with fr := fr, h := H }) hst'
              refine evOp_ok hV hcall hev1 hrel (fun _ Γ' a' w' hr' he' => ?_) (fun y hy => by cases hy)
              refine ih _ Γ' a' w' (fput fr o.dst x) S H hsz' hcnt' hclo2 hlk (fun m => ?_) hfi' hr' (hev.trans he')
              rw [hset, hSm]
              refine and_congr_right fun hm => ⟨.inl, fun h => h.resolve_right (fun e => ?_)⟩
              subst e
              unfold emod at hm
              rw [show ops.toList[m]? = some o from by simpa using ho, g1] at hm
              simp at hm
              exact hc2 hm
    have hrep : ∀ j, (Array.replicate ops.size false).getD j false = false := fun j => by
      simp only [Array.getD_eq_getD_getElem?, Array.getElem?_replicate]
      split <;> rfl
    have hd' := evo_same (Γ := Γ) (w := w) (w' := { w with drawn := w.drawn + 1 }) rfl
    have h0 : d.heapOf ex 0 = some s.h := by
      have := heapOf_lex (ex := ex) hlex hcls hd hlex.s0 (q := 0) (by rw [hd]; simp [drawDC]) rfl
      have hz : lexmask d.mods 0 = 0 := by
        apply Nat.eq_of_testBit_eq
        intro k
        rw [Bool.eq_iff_iff, testBit_lexmask]
        simp
      rw [hz] at this
      exact this
    refine wp_region_any hV.mixed (main ops.size _ Γ a _ s.fr 0 s.h (by simp) (by simp [List.count_replicate]) (fun j o _ hS => ?_) h0 (fun m => ?_) ⟨fun _ => rfl, ?_, fun _ _ => rfl⟩
      ⟨hr.st.same rfl, hr.fr.evo hd', hr.df.evo hd'⟩ (he.trans hd'))
    · simp only [hrep] at hS; cases hS
    · rw [hrep]; simp
    · intro t i o b x _ _ _ hL
      simp only [hrep] at hL; cases hL
  · cases h

theorem evDraw_ok {P : Program} {V : Env} {call : CallF} (hV : V.ok P) (hcall : ∀ f args h, CallOK P f args h (call f args h)) {ops : Array Oper} {s s' : AS} {x : AX} {id : Nat}
    (h : evDraw P V call ops s = some (x, s')) {Γ0 Γ : Ctx} {w0 w : World} {a : Act} (hr : Rel Γ s a w) (he : Evo Γ0 w0 Γ w) : (Code.region id ops true).wp P (PostQ Γ0 w0 x s') a w := by
  unfold evDraw at h
  split at h
  · rename_i xs st hlr
    have hlex := lexRun_ok _ _ _ _ _ hlr
    simp only at h
    split at h
    · rename_i hchk
      simp only [Bool.and_eq_true] at hchk
      obtain ⟨hstat, hdc⟩ := hchk
      unfold drawCheck at hdc
      split at hdc
      · rename_i ex1 hg1
        split at hdc
        · rename_i ex hg2
          generalize hd : drawDC ops (befL ops.toList []) ((List.range ops.size).filter (emod ops.toList xs)) xs st = d at hg1 hg2 hdc
          exact evDraw_main hV hcall hlex hd.symm hstat hg1 hg2 hdc h hr he
        · cases hdc
      · cases hdc
    · cases h
  · cases h

end Go.Proofs.YtgikapdeekepiaaGreatDoor
