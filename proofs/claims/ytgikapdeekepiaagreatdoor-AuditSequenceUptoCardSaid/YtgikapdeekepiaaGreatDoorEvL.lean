/- Regions that draw their order: the check, and that it serves every order. -/
import Derived.Test.YtgikapdeekepiaaGreatDoorEvK
set_option linter.unusedSimpArgs false
namespace Go.Proofs.YtgikapdeekepiaaGreatDoor
open Go

/-! Which operation waits for which. -/

def befOne (acc : List Nat) (es : List Edge) : Nat :=
  es.foldl (fun s e => if Region.binds .any e then s ||| 2 ^ e.on ||| acc.getD e.on 0 else s) 0

def befL : List Oper → List Nat → List Nat
  | [], acc => acc
  | o :: os, acc => befL os (acc ++ [befOne acc o.after.toList])

def bef (B : List Nat) (i j : Nat) : Bool := (B.getD j 0).testBit i

def Closed (ops : Array Oper) (S : Nat → Prop) : Prop :=
  ∀ (j : Nat) o, ops[j]? = some o → S j → ∀ e ∈ o.after, Region.binds .any e = true → S e.on

theorem befOne_closed {S : Nat → Prop} {acc : List Nat} (hacc : ∀ j, S j → ∀ i, (acc.getD j 0).testBit i = true → S i) : ∀ (es : List Edge) (s : Nat),
    (∀ i, s.testBit i = true → S i) → (∀ e ∈ es, Region.binds .any e = true → S e.on) →
    ∀ i, (es.foldl (fun s e => if Region.binds .any e then s ||| 2 ^ e.on ||| acc.getD e.on 0 else s) s).testBit i = true → S i
  | [], s, hs, _, i, h => hs i h
  | e :: es, s, hs, he, i, h => by
    simp only [List.foldl_cons] at h
    refine befOne_closed hacc es _ (fun k hk => ?_) (fun e' h' => he e' (by simp [h'])) i h
    split at hk
    · rename_i hb
      have hon := he e (by simp) hb
      rw [Nat.testBit_or, Nat.testBit_or] at hk
      simp only [Bool.or_eq_true, Nat.testBit_two_pow, decide_eq_true_eq] at hk
      rcases hk with (hk | hk) | hk
      · exact hs k hk
      · rw [← hk]; exact hon
      · exact hacc e.on hon k hk
    · exact hs k hk

theorem getD_snoc {l : List Nat} {x j : Nat} : (l ++ [x]).getD j 0 = if j = l.length then x else l.getD j 0 := by
  simp only [List.getD_eq_getElem?_getD]
  by_cases hj : j = l.length
  · subst hj; simp
  · rw [if_neg hj]
    rcases Nat.lt_or_ge j l.length with h | h
    · rw [List.getElem?_append_left h]
    · rw [List.getElem?_eq_none (by simp; omega), List.getElem?_eq_none h]

theorem befL_closed {ops : Array Oper} {S : Nat → Prop} (hS : Closed ops S) : ∀ (l : List Oper) (acc : List Nat), (∀ (k : Nat), l[k]? = ops[acc.length + k]?) →
    (∀ j, S j → ∀ i, (acc.getD j 0).testBit i = true → S i) → ∀ j, S j → ∀ i, ((befL l acc).getD j 0).testBit i = true → S i
  | [], acc, _, hacc => hacc
  | o :: l, acc, hl, hacc => by
    unfold befL
    refine befL_closed hS l _ (fun k => ?_) (fun j hj i hi => ?_)
    · have := hl (k + 1)
      simp only [List.getElem?_cons_succ] at this
      rw [this]
      congr 1
      simp
      omega
    · rw [getD_snoc] at hi
      split at hi
      · rename_i hjl
        subst hjl
        have ho : ops[acc.length]? = some o := by have := hl 0; simpa using this.symm
        refine befOne_closed hacc o.after.toList 0 (fun k hk => by simp at hk) (fun e he hb => hS _ o ho hj e (by simpa using he) hb) i hi
      · exact hacc j hj i hi

theorem bef_closed {ops : Array Oper} {S : Nat → Prop} (hS : Closed ops S) {i j : Nat} (h : bef (befL ops.toList []) i j = true) (hj : S j) : S i :=
  befL_closed hS ops.toList [] (by simp) (fun j _ i hi => by simp at hi) j hj i h

/-! The lexical run. -/

def lexRun (P : Program) (V : Env) (call : CallF) (ops : Array Oper) : List Oper → FT → AH → Option (List (Bool × AV) × List (FT × AH))
  | [], fr, h => some ([], [(fr, h)])
  | o :: r, fr, h =>
    match awanted o ops fr with
    | some true =>
      match stepD P V call fr h o with
      | some (x, h') => match lexRun P V call ops r (fput fr o.dst x) h' with
        | some (xs, st) => some ((true, x) :: xs, (fr, h) :: st)
        | none => none
      | none => none
    | some false => match lexRun P V call ops r (fput fr o.dst (.tuple [])) h with
      | some (xs, st) => some ((false, .tuple []) :: xs, (fr, h) :: st)
      | none => none
    | none => none

structure Lex (P : Program) (V : Env) (call : CallF) (ops : Array Oper) (l : List Oper) (fr : FT) (h : AH) (xs : List (Bool × AV)) (st : List (FT × AH)) : Prop where
  xl : xs.length = l.length
  sl : st.length = l.length + 1
  s0 : st[0]? = some (fr, h)
  step : ∀ (i : Nat) o, l[i]? = some o → ∃ b x F H H', xs[i]? = some (b, x) ∧ st[i]? = some (F, H) ∧ st[i + 1]? = some (fput F o.dst x, H') ∧ awanted o ops F = some b ∧
    (b = true → stepD P V call F H o = some (x, H')) ∧ (b = false → x = .tuple [] ∧ H' = H)

theorem lexRun_ok {P : Program} {V : Env} {call : CallF} {ops : Array Oper} : ∀ (l : List Oper) (fr : FT) (h : AH) (xs : List (Bool × AV)) (st : List (FT × AH)),
    lexRun P V call ops l fr h = some (xs, st) → Lex P V call ops l fr h xs st
  | [], fr, h, xs, st, hr => by
    simp only [lexRun, Option.some.injEq, Prod.mk.injEq] at hr
    obtain ⟨rfl, rfl⟩ := hr
    exact ⟨rfl, rfl, rfl, fun i o ho => by simp at ho⟩
  | o :: l, fr, h, xs, st, hr => by
    simp only [lexRun] at hr
    split at hr
    · rename_i hw
      split at hr
      · rename_i x h' hst
        split at hr
        · rename_i xs' st' hl
          simp only [Option.some.injEq, Prod.mk.injEq] at hr
          obtain ⟨rfl, rfl⟩ := hr
          have ih := lexRun_ok l _ _ _ _ hl
          refine ⟨by simp [ih.xl], by simp [ih.sl], rfl, fun i o' ho => ?_⟩
          cases i with
          | zero =>
            simp at ho
            subst ho
            exact ⟨true, x, fr, h, h', rfl, rfl, by simpa using ih.s0, hw, fun _ => hst, (fun h => by cases h)⟩
          | succ i =>
            obtain ⟨b, y, F, H, H', g1, g2, g3, g4⟩ := ih.step i o' (by simpa using ho)
            exact ⟨b, y, F, H, H', by simpa using g1, by simpa using g2, by simpa using g3, g4⟩
        · cases hr
      · cases hr
    · rename_i hw
      split at hr
      · rename_i xs' st' hl
        simp only [Option.some.injEq, Prod.mk.injEq] at hr
        obtain ⟨rfl, rfl⟩ := hr
        have ih := lexRun_ok l _ _ _ _ hl
        refine ⟨by simp [ih.xl], by simp [ih.sl], rfl, fun i o' ho => ?_⟩
        cases i with
        | zero =>
          simp at ho
          subst ho
          exact ⟨false, .tuple [], fr, h, h, rfl, rfl, by simpa using ih.s0, hw, (fun h => by cases h), fun _ => ⟨rfl, rfl⟩⟩
        | succ i =>
          obtain ⟨b, y, F, H, H', g1, g2, g3, g4⟩ := ih.step i o' (by simpa using ho)
          exact ⟨b, y, F, H, H', by simpa using g1, by simpa using g2, by simpa using g3, g4⟩
      · cases hr
    · cases hr

/-! The check. -/

def emod (l : List Oper) (xs : List (Bool × AV)) (m : Nat) : Bool :=
  match l[m]?, xs[m]? with
  | some o, some (true, _) => cls o == 2
  | _, _ => false

def allI {α : Type} (f : Nat → α → Bool) : Nat → List α → Bool
  | _, [] => true
  | i, x :: xs => f i x && allI f (i + 1) xs

theorem allI_ok {α : Type} {f : Nat → α → Bool} : ∀ {l : List α} {k : Nat}, allI f k l = true → ∀ (i : Nat) x, l[i]? = some x → f (k + i) x = true
  | [], _, _, i, x, h => by simp at h
  | y :: l, k, h, i, x, hx => by
    simp only [allI, Bool.and_eq_true] at h
    cases i with
    | zero => simp at hx; subst hx; simpa using h.1
    | succ i =>
      have := allI_ok h.2 i x (by simpa using hx)
      rw [show k + (i + 1) = k + 1 + i from by omega]
      exact this

def chkStatic (ops : Array Oper) (B : List Nat) : Bool :=
  allI (fun j o => o.after.toList.all (fun e => !Region.binds .any e || decide (e.on < j)) && cls o != 3) 0 ops.toList &&
  allI (fun j oj => allI (fun i oi => !(decide (i < j)) || oi.apart ops oj || bef B i j) 0 ops.toList) 0 ops.toList

/-! The heaps, by the set of the memory changing operations that have come up: a set is a number, bit by bit. -/

def lexmask (mods : List Nat) (p : Nat) : Nat := mods.foldl (fun a m => if m < p then a ||| 2 ^ m else a) 0

theorem testBit_fold (p k : Nat) : ∀ (mods : List Nat) (a : Nat), ((mods.foldl (fun a m => if m < p then a ||| 2 ^ m else a) a).testBit k = true ↔ (a.testBit k = true ∨ (k ∈ mods ∧ k < p)))
  | [], a => by simp
  | m :: r, a => by
    simp only [List.foldl_cons]
    rw [testBit_fold p k r]
    split
    · rename_i hm
      rw [Nat.testBit_or, Bool.or_eq_true, Nat.testBit_two_pow, decide_eq_true_eq]
      constructor
      · rintro ((h | h) | h)
        · exact .inl h
        · subst h; exact .inr ⟨by simp, hm⟩
        · exact .inr ⟨by simp [h.1], h.2⟩
      · rintro (h | ⟨h1, h2⟩)
        · exact .inl (.inl h)
        · rcases List.mem_cons.1 h1 with h1 | h1
          · exact .inl (.inr h1.symm)
          · exact .inr ⟨h1, h2⟩
    · rename_i hm
      constructor
      · rintro (h | h)
        · exact .inl h
        · exact .inr ⟨by simp [h.1], h.2⟩
      · rintro (h | ⟨h1, h2⟩)
        · exact .inl h
        · rcases List.mem_cons.1 h1 with h1 | h1
          · subst h1; exact absurd h2 hm
          · exact .inr ⟨h1, h2⟩

theorem testBit_lexmask {mods : List Nat} {p k : Nat} : (lexmask mods p).testBit k = true ↔ (k ∈ mods ∧ k < p) := by
  unfold lexmask
  rw [testBit_fold]
  simp

def hlook : List (Nat × AH) → Nat → Option AH
  | [], _ => none
  | (S', H) :: r, S => if Nat.beq S' S then some H else hlook r S

theorem hlook_snoc {S : Nat} {H : AH} {e : Nat × AH} : ∀ {ex : List (Nat × AH)}, hlook ex S = some H → hlook (ex ++ [e]) S = some H
  | [], h => by cases h
  | (S', H') :: r, h => by
    simp only [hlook, List.cons_append] at h ⊢
    split
    · rename_i hb; rw [if_pos hb] at h; exact h
    · rename_i hb; rw [if_neg hb] at h; exact hlook_snoc h

theorem hlook_get {S : Nat} {H : AH} : ∀ {ex : List (Nat × AH)}, hlook ex S = some H → ∃ i : Nat, ex[i]? = some (S, H)
  | [], h => by cases h
  | (S', H') :: r, h => by
    simp only [hlook] at h
    split at h
    · rename_i hb
      have hb := Nat.eq_of_beq_eq_true hb
      cases h
      subst hb
      exact ⟨0, rfl⟩
    · obtain ⟨i, hi⟩ := hlook_get h
      exact ⟨i + 1, by simpa using hi⟩

theorem hlook_new {S : Nat} {H : AH} : ∀ {ex : List (Nat × AH)}, hlook ex S = none → hlook (ex ++ [(S, H)]) S = some H
  | [], _ => by simp [hlook]
  | (S', H') :: r, h => by
    simp only [hlook, List.cons_append] at h ⊢
    split
    · rename_i hb; rw [if_pos hb] at h; cases h
    · rename_i hb; rw [if_neg hb] at h; exact hlook_new h

structure DC where
  ops : Array Oper
  B : List Nat
  mods : List Nat
  ps : List Nat
  xs : List (Bool × AV)
  st : List (FT × AH)

def DC.heapOf (d : DC) (ex : List (Nat × AH)) (S : Nat) : Option AH :=
  match d.ps.find? (fun p => Nat.beq (lexmask d.mods p) S) with
  | some p => (d.st[p]?).map (·.2)
  | none => hlook ex S

def DC.addable (d : DC) (S m : Nat) : Bool :=
  !(S.testBit m) && d.mods.all fun m' => (Nat.beq m' m || !(bef d.B m' m) || S.testBit m') && (!(S.testBit m') || !(bef d.B m m'))

def AObj.beq : AObj → AObj → Bool
  | .cells a, .cells b => eqL (AV.beq 20) a b
  | .map a, .map b => eqL (fun p q => AV.beq 20 p.1 q.1 && AV.beq 20 p.2 q.2) a b
  | _, _ => false

theorem AObj.beq_ok : ∀ {x y : AObj}, AObj.beq x y = true → x = y
  | .cells a, .cells b, h => by rw [eqL_ok (fun a b => AV.beq_ok 20 a b) h]
  | .map a, .map b, h => by
    rw [eqL_ok (fun a b hh => by
      simp only [Bool.and_eq_true] at hh
      exact Prod.ext (AV.beq_ok 20 _ _ hh.1) (AV.beq_ok 20 _ _ hh.2)) h]
  | .cells _, .map _, h => by cases h
  | .map _, .cells _, h => by cases h

def AH.beq (a b : AH) : Bool := eqL AObj.beq a.objs b.objs && eqL Nat.beq a.gl b.gl && Nat.beq a.esc b.esc

theorem AH.beq_ok {x y : AH} (h : AH.beq x y = true) : x = y := by
  cases x; cases y
  simp only [AH.beq, Bool.and_eq_true] at h
  rw [AH.mk.injEq]
  exact ⟨eqL_ok (fun _ _ => AObj.beq_ok) h.1.1, eqL_ok (fun _ _ => Nat.eq_of_beq_eq_true) h.1.2, Nat.eq_of_beq_eq_true h.2⟩

def DC.grow1 (d : DC) (P : Program) (V : Env) (call : CallF) (S : Nat) (H : AH) (lx : Bool) : List Nat → List (Nat × AH) → Option (List (Nat × AH))
  | [], ex => some ex
  | m :: r, ex =>
    if d.addable S m && !(lx && Nat.beq S (lexmask d.mods m)) then
      match d.ops[m]?, d.st[m]?, d.xs[m]? with
      | some o, some (F, _), some (_, x) => match stepD P V call F H o with
        | some (x', H') =>
          if AV.beq 20 x' x then
            match d.heapOf ex (S ||| 2 ^ m) with
            | some H'' => if AH.beq H' H'' then d.grow1 P V call S H lx r ex else none
            | none => if (d.ps.find? (fun p => Nat.beq (lexmask d.mods p) (S ||| 2 ^ m))).isNone then d.grow1 P V call S H lx r (ex ++ [(S ||| 2 ^ m, H')]) else none
          else none
        | none => none
      | _, _, _ => none
    else d.grow1 P V call S H lx r ex

def DC.Next (d : DC) (P : Program) (V : Env) (call : CallF) (ex : List (Nat × AH)) (S : Nat) (H : AH) (m : Nat) : Prop :=
  ∃ o F H0 b x H', d.ops[m]? = some o ∧ d.st[m]? = some (F, H0) ∧ d.xs[m]? = some (b, x) ∧ stepD P V call F H o = some (x, H') ∧ d.heapOf ex (S ||| 2 ^ m) = some H'

def DC.Ext (d : DC) (ex ex' : List (Nat × AH)) : Prop :=
  (∀ S H, d.heapOf ex S = some H → d.heapOf ex' S = some H) ∧ ∀ (i : Nat) e, ex[i]? = some e → ex'[i]? = some e

theorem DC.Ext.refl (d : DC) (ex : List (Nat × AH)) : d.Ext ex ex := ⟨fun _ _ h => h, fun _ _ h => h⟩

theorem DC.Ext.trans {d : DC} {a b c : List (Nat × AH)} (h : d.Ext a b) (h' : d.Ext b c) : d.Ext a c := ⟨fun S H x => h'.1 S H (h.1 S H x), fun i e x => h'.2 i e (h.2 i e x)⟩

theorem DC.Next.ext {d : DC} {P : Program} {V : Env} {call : CallF} {ex ex' : List (Nat × AH)} {S : Nat} {H : AH} {m : Nat} (hn : d.Next P V call ex S H m) (he : d.Ext ex ex') : d.Next P V call ex' S H m := by
  obtain ⟨o, F, H0, b, x, H', h1, h2, h3, h4, h5⟩ := hn
  exact ⟨o, F, H0, b, x, H', h1, h2, h3, h4, he.1 _ _ h5⟩

theorem DC.ext_snoc (d : DC) (ex : List (Nat × AH)) (e : Nat × AH) : d.Ext ex (ex ++ [e]) := by
  refine ⟨fun S H h => ?_, fun i e' h => ?_⟩
  · unfold DC.heapOf at *
    split
    · rename_i p hp; rw [hp] at h; exact h
    · rename_i hp; rw [hp] at h; exact hlook_snoc h
  · rw [List.getElem?_append_left (List.getElem?_eq_some_iff.1 h).1]; exact h

theorem DC.grow1_ok {d : DC} {P : Program} {V : Env} {call : CallF} {S : Nat} {H : AH} {lx : Bool} : ∀ {ms : List Nat} {ex ex' : List (Nat × AH)}, d.grow1 P V call S H lx ms ex = some ex' →
    d.Ext ex ex' ∧ ∀ m ∈ ms, d.addable S m = true → (lx && Nat.beq S (lexmask d.mods m)) = false → d.Next P V call ex' S H m
  | [], ex, ex', h => by
    cases h
    exact ⟨.refl _ _, fun m hm => by cases hm⟩
  | m :: r, ex, ex', h => by
    unfold DC.grow1 at h
    split at h
    · split at h
      · rename_i o F H0 b x ho hst hx
        split at h
        · rename_i x' H' hstep
          split at h
          · rename_i hb
            have hxx := AV.beq_ok 20 x' x hb
            subst hxx
            split at h
            · rename_i H'' hh
              split at h
              · rename_i hbeq
                have := AH.beq_ok hbeq
                subst this
                obtain ⟨h1, h2⟩ := DC.grow1_ok h
                refine ⟨h1, fun m' hm' ha hl => ?_⟩
                rcases List.mem_cons.1 hm' with rfl | hm'
                · exact ⟨o, F, H0, b, x', H', ho, hst, hx, hstep, h1.1 _ _ hh⟩
                · exact h2 m' hm' ha hl
              · cases h
            · rename_i hh
              split at h
              · rename_i hnone
                obtain ⟨h1, h2⟩ := DC.grow1_ok h
                refine ⟨(d.ext_snoc ex _).trans h1, fun m' hm' ha hl => ?_⟩
                rcases List.mem_cons.1 hm' with rfl | hm'
                · refine ⟨o, F, H0, b, x', H', ho, hst, hx, hstep, h1.1 _ _ ?_⟩
                  have hf := Option.isNone_iff_eq_none.1 hnone
                  unfold DC.heapOf at hh ⊢
                  rw [hf] at hh ⊢
                  exact hlook_new hh
                · exact h2 m' hm' ha hl
              · cases h
          · cases h
        · cases h
      · cases h
    · rename_i hc
      obtain ⟨h1, h2⟩ := DC.grow1_ok h
      refine ⟨h1, fun m' hm' ha hl => ?_⟩
      rcases List.mem_cons.1 hm' with rfl | hm'
      · simp [ha, hl] at hc
      · exact h2 m' hm' ha hl

def DC.growLex (d : DC) (P : Program) (V : Env) (call : CallF) : List Nat → List (Nat × AH) → Option (List (Nat × AH))
  | [], ex => some ex
  | p :: r, ex => match d.st[p]? with
    | some (_, H) => match d.grow1 P V call (lexmask d.mods p) H true d.mods ex with
      | some ex' => d.growLex P V call r ex'
      | none => none
    | none => none

theorem DC.growLex_ok {d : DC} {P : Program} {V : Env} {call : CallF} : ∀ {ps : List Nat} {ex ex' : List (Nat × AH)}, d.growLex P V call ps ex = some ex' →
    d.Ext ex ex' ∧ ∀ p ∈ ps, ∃ F H, d.st[p]? = some (F, H) ∧ ∀ m ∈ d.mods, d.addable (lexmask d.mods p) m = true → Nat.beq (lexmask d.mods p) (lexmask d.mods m) = false → d.Next P V call ex' (lexmask d.mods p) H m
  | [], ex, ex', h => by
    cases h
    exact ⟨.refl _ _, fun p hp => by cases hp⟩
  | p :: r, ex, ex', h => by
    unfold DC.growLex at h
    split at h
    · rename_i F H hst
      split at h
      · rename_i ex1 hg
        obtain ⟨h1, h2⟩ := DC.grow1_ok hg
        obtain ⟨h3, h4⟩ := DC.growLex_ok h
        refine ⟨h1.trans h3, fun p' hp' => ?_⟩
        rcases List.mem_cons.1 hp' with rfl | hp'
        · exact ⟨F, H, hst, fun m hm ha hl => (h2 m hm ha (by rw [hl]; rfl)).ext h3⟩
        · exact h4 p' hp'
      · cases h
    · cases h

def DC.growEx (d : DC) (P : Program) (V : Env) (call : CallF) : Nat → Nat → List (Nat × AH) → Option (List (Nat × AH))
  | 0, _, _ => none
  | n + 1, i, ex => match ex[i]? with
    | none => some ex
    | some (S, H) => match d.grow1 P V call S H false d.mods ex with
      | some ex' => d.growEx P V call n (i + 1) ex'
      | none => none

theorem DC.growEx_ok {d : DC} {P : Program} {V : Env} {call : CallF} : ∀ {n i : Nat} {ex ex' : List (Nat × AH)}, d.growEx P V call n i ex = some ex' →
    d.Ext ex ex' ∧ ∀ (j : Nat) S H, i ≤ j → ex'[j]? = some (S, H) → ∀ m ∈ d.mods, d.addable S m = true → d.Next P V call ex' S H m
  | 0, i, ex, ex', h => by cases h
  | n + 1, i, ex, ex', h => by
    unfold DC.growEx at h
    split at h
    · rename_i hi
      cases h
      refine ⟨.refl _ _, fun j S H hij hj => ?_⟩
      rw [List.getElem?_eq_none_iff] at hi
      have := (List.getElem?_eq_some_iff.1 hj).1
      omega
    · rename_i S H hi
      split at h
      · rename_i ex1 hg
        obtain ⟨h1, h2⟩ := DC.grow1_ok hg
        obtain ⟨h3, h4⟩ := DC.growEx_ok h
        refine ⟨h1.trans h3, fun j S' H' hij hj m hm ha => ?_⟩
        rcases Nat.eq_or_lt_of_le hij with rfl | hlt
        · have := h3.2 _ _ (h1.2 _ _ hi)
          rw [this] at hj
          cases hj
          exact (h2 m hm ha rfl).ext h3
        · exact h4 j S' H' hlt hj m hm ha
      · cases h

def DC.okAt (d : DC) (P : Program) (V : Env) (F : FT) (o : Oper) (i : Nat) (x : AV) (S : Nat) (H : AH) : Bool :=
  d.mods.any (fun m => (bef d.B m i && !(S.testBit m)) || (bef d.B i m && S.testBit m)) ||
  match aop P V F H o with
  | .ok y _ => AV.beq 20 y x
  | _ => false

def DC.reads (d : DC) (P : Program) (V : Env) (ex : List (Nat × AH)) : Bool :=
  allI (fun i o =>
    if Nat.beq (cls o) 1 then
      match d.xs[i]?, d.st[i]? with
      | some (true, x), some (F, _) =>
        (d.ps.all fun p => Nat.beq (lexmask d.mods p) (lexmask d.mods i) || match d.st[p]? with
          | some (_, H) => d.okAt P V F o i x (lexmask d.mods p) H
          | none => false) && ex.all fun e => d.okAt P V F o i x e.1 e.2
      | _, _ => true
    else true) 0 d.ops.toList

def drawDC (ops : Array Oper) (B : List Nat) (mods : List Nat) (xs : List (Bool × AV)) (st : List (FT × AH)) : DC :=
  ⟨ops, B, mods, ops.size :: 0 :: mods.map (· + 1), xs, st⟩

def drawCheck (P : Program) (V : Env) (call : CallF) (d : DC) : Bool :=
  match d.growLex P V call d.ps [] with
  | some ex1 => match d.growEx P V call 200 0 ex1 with
    | some ex => d.reads P V ex
    | none => false
  | none => false

def evDraw (P : Program) (V : Env) (call : CallF) (ops : Array Oper) (s : AS) : Option (AX × AS) :=
  match lexRun P V call ops ops.toList s.fr s.h with
  | some (xs, st) =>
    let B := befL ops.toList []
    let mods := (List.range ops.size).filter (emod ops.toList xs)
    if chkStatic ops B && drawCheck P V call (drawDC ops B mods xs st) then
      match st[ops.size]? with
      | some (F, H) => some (.normal, { s with fr := F, h := H })
      | none => none
    else none
  | none => none

/-! The frame, by what has come up. -/

structure FI (ops : Array Oper) (xs : List (Bool × AV)) (base : FT) (L : Nat → Prop) (fr : FT) : Prop where
  len : ∀ t, (fr.get t).isSome = (base.get t).isSome
  wr : ∀ (t i : Nat) o b x, (base.get t).isSome = true → ops[i]? = some o → o.dst = some t → L i → xs[i]? = some (b, x) → (∀ (i' : Nat) o', ops[i']? = some o' → o'.dst = some t → L i' → i' ≤ i) → fr.get t = some x
  no : ∀ (t : Nat), (∀ (i : Nat) o, ops[i]? = some o → o.dst = some t → ¬ L i) → fr.get t = base.get t

theorem isSome_fput (fr : FT) (d : Option Tmp) (x : AV) (t : Nat) : ((fput fr d x).get t).isSome = (fr.get t).isSome := by
  cases d with
  | none => rfl
  | some d => exact FT.isSome_put fr d t x

theorem FI.step {ops : Array Oper} {xs : List (Bool × AV)} {base fr : FT} {L : Nat → Prop} (h : FI ops xs base L fr) {j : Nat} {o : Oper} {b : Bool} {x : AV} (ho : ops[j]? = some o) (hx : xs[j]? = some (b, x))
    (hlast : ∀ (t i : Nat) o', o.dst = some t → ops[i]? = some o' → o'.dst = some t → L i → i < j) {L' : Nat → Prop} (hL : ∀ i, L' i ↔ (L i ∨ i = j)) :
    FI ops xs base L' (fput fr o.dst x) := by
  refine ⟨fun t => by rw [isSome_fput]; exact h.len t, fun t i o' b' y ht hi hd hLi hy hmax => ?_, fun t hno => ?_⟩
  · by_cases hdt : o.dst = some t
    · have hij : i = j := by
        have h1 : j ≤ i := hmax j o ho hdt ((hL j).2 (.inr rfl))
        rcases (hL i).1 hLi with h2 | h2
        · have := hlast t i o' hdt hi hd h2; omega
        · exact h2
      subst hij
      rw [hx] at hy
      cases hy
      simp only [hdt, fput]
      rw [FT.get_put_self fr t x (by rw [h.len]; exact ht)]
    · have hne : i ≠ j := fun e => by subst e; rw [ho] at hi; cases hi; exact hdt hd
      have hLi' : L i := ((hL i).1 hLi).resolve_right hne
      have := h.wr t i o' b' y ht hi hd hLi' hy (fun i' o'' h1 h2 h3 => hmax i' o'' h1 h2 ((hL i').2 (.inl h3)))
      cases hod : o.dst with
      | none => simpa [fput] using this
      | some d =>
        have : d ≠ t := fun e => hdt (by rw [hod, e])
        simp only [fput, FT.get_put_ne fr x this]
        assumption
  · have hdt : o.dst ≠ some t := fun e => hno j o ho e ((hL j).2 (.inr rfl))
    have := h.no t (fun i o' hi hd hLi => hno i o' hi hd ((hL i).2 (.inl hLi)))
    cases hod : o.dst with
    | none => simpa [fput] using this
    | some d =>
      have : d ≠ t := fun e => hdt (by rw [hod, e])
      simp only [fput, FT.get_put_ne fr x this]
      assumption

theorem exists_max {Q : Nat → Prop} : ∀ (n : Nat), (∀ i, Q i → i < n) → (∃ i, Q i) → ∃ i, Q i ∧ ∀ j, Q j → j ≤ i
  | 0, hb, ⟨i, hi⟩ => absurd (hb i hi) (Nat.not_lt_zero _)
  | n + 1, hb, he => by
    by_cases hn : Q n
    · exact ⟨n, hn, fun j hj => Nat.lt_succ_iff.1 (hb j hj)⟩
    · exact exists_max n (fun i hi => by
        have := hb i hi
        rcases Nat.lt_or_ge i n with h | h
        · exact h
        · have : i = n := by omega
          subst this; exact absurd hi hn) he

theorem FI.read {ops : Array Oper} {xs : List (Bool × AV)} {base fr fr' : FT} {L L' : Nat → Prop} (hxl : xs.length = ops.size) (h : FI ops xs base L fr) (h' : FI ops xs base L' fr') {t : Nat}
    (heq : ∀ (i : Nat) o, ops[i]? = some o → o.dst = some t → (L i ↔ L' i)) : fr.get t = fr'.get t := by
  by_cases hex : ∃ i, ∃ o, ops[i]? = some o ∧ o.dst = some t ∧ L i
  · by_cases ht : (base.get t).isSome = true
    · obtain ⟨i, ⟨o, h1, h2, h3⟩, hmax⟩ := exists_max (Q := fun i => ∃ o, ops[i]? = some o ∧ o.dst = some t ∧ L i) ops.size (fun i ⟨o, h1, _⟩ => (Array.getElem?_eq_some_iff.1 h1).1) hex
      have hi : i < xs.length := by rw [hxl]; exact (Array.getElem?_eq_some_iff.1 h1).1
      obtain ⟨⟨b, x⟩, hx'⟩ : ∃ p, xs[i]? = some p := ⟨_, List.getElem?_eq_getElem hi⟩
      rw [h.wr t i o b x ht h1 h2 h3 hx' (fun i' o' a b c => hmax i' ⟨o', a, b, c⟩), h'.wr t i o b x ht h1 h2 ((heq i o h1 h2).1 h3) hx' (fun i' o' a b c => hmax i' ⟨o', a, b, (heq i' o' a b).2 c⟩)]
    · have e1 := h.len t
      have e2 := h'.len t
      have e3 : (base.get t).isSome = false := by simpa using ht
      rw [e3] at e1 e2
      rw [Option.isSome_eq_false_iff, Option.isNone_iff_eq_none] at e1 e2
      rw [e1, e2]
  · rw [h.no t (fun i o a b c => hex ⟨i, o, a, b, c⟩), h'.no t (fun i o a b c => hex ⟨i, o, a, b, (heq i o a b).2 c⟩)]

end Go.Proofs.YtgikapdeekepiaaGreatDoor
