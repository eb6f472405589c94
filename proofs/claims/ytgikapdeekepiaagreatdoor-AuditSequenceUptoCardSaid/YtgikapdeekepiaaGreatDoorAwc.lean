/- AuditSequence, the plain law: the program's closure and the document's are one; so are the answers of the two Makes. -/
import Derived.Test.YtgikapdeekepiaaGreatDoorAwb
namespace Go.Proofs.YtgikapdeekepiaaGreatDoor
open Go
set_option linter.unusedVariables false

theorem foldl_inv {α β : Type} {P : α → Prop} {f : α → β → α} : ∀ (l : List β) (x : α), P x → (∀ y ∈ l, ∀ z, P z → P (f z y)) → P (l.foldl f x)
  | [], _, h, _ => h
  | y :: l, x, h, hs => foldl_inv l (f x y) (hs y (by simp) x h) fun z hz w hw => hs z (by simp [hz]) w hw

abbrev BRel := Nat → Nat → Bool

def LEr (L M : BRel) : Prop := ∀ a b, L a b = true → M a b = true

theorem LEr.refl (L : BRel) : LEr L L := fun _ _ h => h
theorem LEr.trans {L M N : BRel} (h : LEr L M) (h' : LEr M N) : LEr L N := fun a b hl => h' a b (h a b hl)

theorem fold_le {β : Type} {f : BRel → β → BRel} (hf : ∀ z y, LEr z (f z y)) : ∀ (l : List β) (x : BRel), LEr x (l.foldl f x)
  | [], x => LEr.refl x
  | y :: l, x => (hf x y).trans (fold_le hf l (f x y))

theorem fold_hit {β : Type} {f : BRel → β → BRel} (hf : ∀ z y, LEr z (f z y)) {a c : Nat} {y : β} : ∀ (l : List β) (x : BRel), y ∈ l → (∀ z, LEr x z → f z y a c = true) → l.foldl f x a c = true
  | [], _, hy, _ => by cases hy
  | y' :: l, x, hy, h => by
    rcases List.mem_cons.1 hy with rfl | hy
    · exact fold_le hf l _ a c (h x (LEr.refl x))
    · exact fold_hit hf l (f x y') hy fun z hz => h z ((hf x y').trans hz)

/-! The two beginnings are one. -/

theorem addP_eq : addP = addP2 := by
  funext L p i k
  unfold addP addP2 updR upd2
  by_cases hi : i = p.1.toNat
  · subst hi
    by_cases hk : k = p.2.toNat
    · subst hk; simp
    · simp [hk]
  · simp [hi]

theorem diag_eq (n : Nat) : diag n = diag2 n := by
  have h1 : ∀ k, k ≤ n → (List.range k).foldl stepG noL = (List.range k).foldl stepG2 noL ∧ ∀ a b, (List.range k).foldl stepG2 noL a b = true → a < k := by
    intro k
    induction k with
    | zero => intro _; exact ⟨rfl, fun a b h => by simp [noL] at h⟩
    | succ k ih =>
      intro hk
      obtain ⟨e1, e2⟩ := ih (by omega)
      rw [List.range_succ, List.foldl_append, List.foldl_append, e1]
      simp only [List.foldl_cons, List.foldl_nil]
      generalize (List.range k).foldl stepG2 noL = M at *
      refine ⟨?_, fun a b h => ?_⟩
      · funext i j
        unfold stepG stepG2 updR upd2
        by_cases hi : i = k
        · subst hi
          by_cases hj : j = i
          · subst hj; simp
          · have hz : M i j = false := by
              cases hh : M i j with
              | false => rfl
              | true => have := e2 i j hh; omega
            simp [hj, hz]
        · simp [hi]
      · unfold stepG2 upd2 at h
        split at h
        · omega
        · have := e2 a b h; omega
  exact (h1 n (Nat.le_refl _)).1

theorem rel0_eq (n : Nat) (l : List (Int × Int)) : rel0 n l = relR0 n l := by
  unfold rel0 relR0
  rw [addP_eq, diag_eq]

/-- All that it holds of lies below n. -/
def Bd (n : Nat) (L : BRel) : Prop := ∀ a b, L a b = true → a < n ∧ b < n

theorem diag2_bd (n : Nat) : Bd n (diag2 n) := by
  refine foldl_inv (P := Bd n) _ _ (fun a b h => by simp [noL] at h) fun y hy z hz a b h => ?_
  unfold stepG2 upd2 at h
  have := List.mem_range.1 hy
  split at h
  · omega
  · exact hz a b h

theorem relR0_bd {n : Nat} {l : List (Int × Int)} (hl : l.all (inR n) = true) : Bd n (relR0 n l) := by
  refine foldl_inv (P := Bd n) _ _ (diag2_bd n) fun p hp z hz a b h => ?_
  unfold addP2 upd2 at h
  have := List.all_eq_true.1 hl p hp
  unfold inR at this
  simp only [Bool.and_eq_true, decide_eq_true_eq] at this
  split at h
  · omega
  · exact hz a b h

/-! The program's closure. -/

theorem stepA_le (k : Nat) (L : BRel) (a : Nat) : LEr L (stepA k L a) := by
  intro i j h
  unfold stepA
  split
  · unfold updR
    split
    · rename_i hi; subst hi; simp [h]
    · exact h
  · exact h

theorem warsh_le (n : Nat) (L : BRel) : LEr L (warsh n L) := fold_le (fun z k => fold_le (stepA_le k) _ z) _ L

def Tr (n : Nat) (L : BRel) : Prop := ∀ a b c, a < n → b < n → c < n → L a b = true → L b c = true → L a c = true

def Sub (n : Nat) (L M : BRel) : Prop := ∀ a b, a < n → b < n → L a b = true → M a b = true

theorem warsh_sub {n : Nat} {L T : BRel} (ht : Tr n T) (hs : Sub n L T) : Sub n (warsh n L) T := by
  refine foldl_inv (P := fun M => Sub n M T) _ _ hs fun k hk M hM => ?_
  refine foldl_inv (P := fun M => Sub n M T) _ _ hM fun a ha N hN i j hi hj h => ?_
  have hk := List.mem_range.1 hk
  have ha := List.mem_range.1 ha
  unfold stepA at h
  split at h
  · rename_i hak
    unfold updR at h
    split at h
    · rename_i hia
      subst hia
      simp only [Bool.or_eq_true] at h
      rcases h with h | h
      · exact hN _ _ hi hj h
      · exact ht _ k _ hi hk hj (hN _ _ hi hk hak) (hN _ _ hk hj h)
    · exact hN _ _ hi hj h
  · exact hN _ _ hi hj h

theorem warsh_bd {n : Nat} {L : BRel} (h0 : Bd n L) : Bd n (warsh n L) := by
  refine foldl_inv (P := Bd n) _ _ h0 fun k hk M hM => ?_
  refine foldl_inv (P := Bd n) _ _ hM fun a ha N hN i j h => ?_
  unfold stepA at h
  split at h
  · rename_i hak
    unfold updR at h
    split at h
    · rename_i hia
      subst hia
      simp only [Bool.or_eq_true] at h
      rcases h with h | h
      · exact hN _ _ h
      · exact ⟨(hN _ _ hak).1, (hN _ _ h).2⟩
    · exact hN _ _ h
  · exact hN _ _ h

theorem pivot_eq (n : Nat) (L : BRel) (k a b : Nat) : pivot n L k a b = if a < n then (L a b || (L a k && L k b)) else L a b := by
  have key : ∀ i, (List.range i).foldl (stepA k) L = fun a b => if a < i then (L a b || (L a k && L k b)) else L a b := by
    intro i
    induction i with
    | zero => funext a b; simp
    | succ i ih =>
      rw [List.range_succ, List.foldl_append, ih]
      simp only [List.foldl_cons, List.foldl_nil]
      funext a b
      have hk : ∀ c, (if k < i then (L k c || (L k k && L k c)) else L k c) = L k c := by
        intro c; split
        · cases L k c <;> simp
        · rfl
      unfold stepA
      simp only [Nat.lt_irrefl, if_false]
      split
      · rename_i hik
        unfold updR
        by_cases ha : a = i
        · subst ha
          simp only [if_true, Nat.lt_irrefl, if_false, hk, show a < a + 1 by omega, hik, Bool.true_and]
        · by_cases hlt : a < i
          · simp only [ha, if_false, hlt, if_true, show a < i + 1 by omega]
          · simp only [ha, if_false, hlt, show ¬ a < i + 1 by omega]
      · rename_i hik
        have hik : L i k = false := by simpa using hik
        by_cases ha : a = i
        · subst ha
          simp [hik]
        · by_cases hlt : a < i
          · simp only [hlt, if_true, show a < i + 1 by omega]
          · simp only [hlt, if_false, show ¬ a < i + 1 by omega]
  unfold pivot
  rw [key n]

theorem warsh_tr (n : Nat) (L : BRel) : Tr n (warsh n L) := by
  have key : ∀ k, k ≤ n → ∀ j, j < k → ∀ a b, a < n → b < n → (List.range k).foldl (pivot n) L a j = true → (List.range k).foldl (pivot n) L j b = true → (List.range k).foldl (pivot n) L a b = true := by
    intro k
    induction k with
    | zero => intro _ j hj; omega
    | succ k ih =>
      intro hk j hj a b ha hb h1 h2
      have ih := ih (by omega)
      rw [List.range_succ, List.foldl_append] at h1 h2 ⊢
      simp only [List.foldl_cons, List.foldl_nil, pivot_eq] at h1 h2 ⊢
      have hjn : j < n := by omega
      simp only [ha, hjn, if_true] at h1 h2 ⊢
      generalize hM : (List.range k).foldl (pivot n) L = M at *
      simp only [Bool.or_eq_true, Bool.and_eq_true] at h1 h2 ⊢
      by_cases hjk : j = k
      · subst hjk
        rcases h1 with h1 | ⟨h1, h1'⟩ <;> rcases h2 with h2 | ⟨h2, h2'⟩
        · exact .inr ⟨h1, h2⟩
        · exact .inr ⟨h1, h2'⟩
        · exact .inr ⟨h1, h2⟩
        · exact .inr ⟨h1, h2'⟩
      · have hj' : j < k := by omega
        rcases h1 with h1 | ⟨h1, h1'⟩ <;> rcases h2 with h2 | ⟨h2, h2'⟩
        · exact .inl (ih j hj' a b ha hb h1 h2)
        · exact .inr ⟨ih j hj' a k ha (by omega) h1 h2, h2'⟩
        · exact .inr ⟨h1, ih j hj' k b (by omega) hb h1' h2⟩
        · exact .inr ⟨h1, h2'⟩
  intro a j b ha hj hb h1 h2
  exact key n (Nat.le_refl _) j hj a b ha hb h1 h2

/-! The document's closure. -/

theorem stepC_le (a b : Nat) (L : BRel) (c : Nat) : LEr L (stepC' a b L c) := by
  intro i j h
  unfold stepC'
  split
  · unfold upd2
    split
    · rfl
    · exact h
  · exact h

theorem sweepC_le (n a : Nat) (L : BRel) (b : Nat) : LEr L (sweepC n a L b) := fold_le (stepC_le a b) _ L
theorem sweepB_le (n : Nat) (L : BRel) (a : Nat) : LEr L (sweepB n L a) := fold_le (sweepC_le n a) _ L
theorem sweep_le (n : Nat) (L : BRel) (r : Nat) : LEr L (sweep n L r) := fold_le (sweepB_le n) _ L

theorem sweep_hit {n : Nat} {L : BRel} {r a b c : Nat} (ha : a < n) (hb : b < n) (hc : c < n) (h1 : L a b = true) (h2 : L b c = true) : sweep n L r a c = true := by
  refine fold_hit (sweepB_le n) _ _ (List.mem_range.2 ha) fun z hz => ?_
  refine fold_hit (sweepC_le n a) _ _ (List.mem_range.2 hb) fun y hy => ?_
  refine fold_hit (stepC_le a b) _ _ (List.mem_range.2 hc) fun x hx => ?_
  have hLx : LEr L x := (hz.trans hy).trans hx
  unfold stepC'
  rw [if_pos ⟨hLx _ _ h1, hLx _ _ h2⟩]
  unfold upd2
  rw [if_pos ⟨rfl, rfl⟩]

theorem refClose_sub {n : Nat} {L T : BRel} (ht : Tr n T) (hs : Sub n L T) : Sub n (refClose n L) T := by
  refine foldl_inv (P := fun M => Sub n M T) _ _ hs fun r _ M hM => ?_
  refine foldl_inv (P := fun M => Sub n M T) _ _ hM fun a ha M hM => ?_
  refine foldl_inv (P := fun M => Sub n M T) _ _ hM fun b hb M hM => ?_
  refine foldl_inv (P := fun M => Sub n M T) _ _ hM fun c hc N hN i j hi hj h => ?_
  have ha := List.mem_range.1 ha
  have hb := List.mem_range.1 hb
  have hc := List.mem_range.1 hc
  unfold stepC' at h
  split at h
  · rename_i hh
    unfold upd2 at h
    split at h
    · rename_i hij
      obtain ⟨rfl, rfl⟩ := hij
      exact ht _ b _ hi hb hj (hN _ _ hi hb hh.1) (hN _ _ hb hj hh.2)
    · exact hN _ _ hi hj h
  · exact hN _ _ hi hj h

theorem warsh_refClose {n : Nat} (hn : n ≤ 8) (L : BRel) : Sub n (warsh n L) (refClose n L) := by
  have key : ∀ k, k ≤ n → Sub n ((List.range k).foldl (pivot n) L) ((List.range k).foldl (sweep n) L) := by
    intro k
    induction k with
    | zero => intro _ a b _ _ h; exact h
    | succ k ih =>
      intro hk a b ha hb h
      have ih := ih (by omega)
      rw [List.range_succ, List.foldl_append] at h ⊢
      simp only [List.foldl_cons, List.foldl_nil, pivot_eq, ha, if_true, Bool.or_eq_true, Bool.and_eq_true] at h ⊢
      rcases h with h | ⟨h1, h2⟩
      · exact sweep_le n _ k a b (ih a b ha hb h)
      · exact sweep_hit ha (by omega) hb (ih a k ha (by omega) h1) (ih k b (by omega) hb h2)
  intro a b ha hb h
  have h1 := key n (Nat.le_refl _) a b ha hb h
  unfold refClose
  have e : List.range 8 = List.range n ++ (List.range 8).drop n := by
    have := (List.take_append_drop n (List.range 8)).symm
    rw [List.take_range, Nat.min_eq_left hn] at this
    exact this
  rw [e, List.foldl_append]
  exact fold_le (sweep_le n) _ _ a b h1

theorem close_eq {n : Nat} (hn : n ≤ 8) (L : BRel) {a b : Nat} (ha : a < n) (hb : b < n) : warsh n L a b = refClose n L a b := by
  have h1 : warsh n L a b = true → refClose n L a b = true := warsh_refClose hn L a b ha hb
  have h2 : refClose n L a b = true → warsh n L a b = true := refClose_sub (warsh_tr n L) (fun a b _ _ h => warsh_le n L a b h) a b ha hb
  cases h : warsh n L a b with
  | true => exact (h1 h).symm
  | false =>
    cases h' : refClose n L a b with
    | false => rfl
    | true => rw [h2 h'] at h; cases h

end Go.Proofs.YtgikapdeekepiaaGreatDoor
