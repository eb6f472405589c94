/- AuditSequence, the plain law: the two Makes answer alike. -/
import Derived.Test.YtgikapdeekepiaaGreatDoorAwc
namespace Go.Proofs.YtgikapdeekepiaaGreatDoor
open Go
set_option linter.unusedVariables false

theorem downA_eq (n : Nat) (W D : BRel) (a : Nat) : downA n W D a = fun b x => D b x || (decide (b < n) && W a b && (x == a)) := by
  have key : ∀ m, (List.range m).foldl (stepDn W a) D = fun b x => D b x || (decide (b < m) && W a b && (x == a)) := by
    intro m
    induction m with
    | zero => funext b x; simp
    | succ m ih =>
      rw [List.range_succ, List.foldl_append, ih]
      simp only [List.foldl_cons, List.foldl_nil]
      funext b x
      unfold stepDn updR
      by_cases hb : b = m
      · subst hb
        cases hW : W a b <;> simp [hW]
      · by_cases hlt : b < m
        · cases hW : W a m <;> simp [hb, hlt, show b < m + 1 by omega]
        · cases hW : W a m <;> simp [hb, hlt, show ¬ b < m + 1 by omega]
  exact key n

theorem downs_eq (n : Nat) (W : BRel) : downs n W noL = fun b x => decide (b < n) && decide (x < n) && W x b := by
  have key : ∀ i, (List.range i).foldl (downA n W) noL = fun b x => decide (b < n) && decide (x < i) && W x b := by
    intro i
    induction i with
    | zero => funext b x; simp [noL]
    | succ i ih =>
      rw [List.range_succ, List.foldl_append, ih]
      simp only [List.foldl_cons, List.foldl_nil, downA_eq]
      funext b x
      by_cases hx : x = i
      · subst hx; simp
      · by_cases hlt : x < i
        · simp [hx, hlt, show x < i + 1 by omega]
        · simp [hx, hlt, show ¬ x < i + 1 by omega]
  exact key n

theorem leastI_iff (S : Nat → Bool) (L : BRel) : leastI S L ≥ 0 ↔ ∃ c, c < 8 ∧ okLeast S L c = true := by
  unfold leastI leastFrom
  rw [List.drop_zero]
  cases hf : (List.range 8).find? (okLeast S L) with
  | none =>
    simp only [ge_iff_le]
    constructor
    · intro h; omega
    · rintro ⟨c, hc, hk⟩
      have := List.find?_eq_none.1 hf c (List.mem_range.2 hc)
      exact absurd hk this
  | some c =>
    simp only [ge_iff_le]
    refine ⟨fun _ => ⟨c, List.mem_range.1 (List.mem_of_find?_eq_some hf), List.find?_some hf⟩, fun _ => by omega⟩

theorem joinI_iff (n : Nat) (le : BRel) (a b : Nat) : ¬ joinI n le a b < 0 ↔ ∃ c, c < n ∧ isJ n le a b c = true := by
  unfold joinI joinFrom
  rw [List.drop_zero]
  cases hf : (List.range n).find? (isJ n le a b) with
  | none =>
    simp only
    constructor
    · intro h; omega
    · rintro ⟨c, hc, hk⟩
      have := List.find?_eq_none.1 hf c (List.mem_range.2 hc)
      exact absurd hk this
  | some c =>
    simp only
    refine ⟨fun _ => ⟨c, List.mem_range.1 (List.mem_of_find?_eq_some hf), List.find?_some hf⟩, fun _ => by omega⟩

/-- A relation that the program has in rows of eight bits, and one that the document has. -/
theorem least_join {n : Nat} (hn : n ≤ 8) {W R : BRel} (hE : ∀ a b, a < n → b < n → W a b = R a b) (hB : Bd n W) {a b : Nat} (ha : a < n) (hb : b < n) :
    decide (leastI (fun i => W a i && W b i) W ≥ 0) = !decide (joinI n R a b < 0) := by
  have h1 := leastI_iff (fun i => W a i && W b i) W
  have h2 := joinI_iff n R a b
  have h3 : (∃ c, c < 8 ∧ okLeast (fun i => W a i && W b i) W c = true) ↔ ∃ c, c < n ∧ isJ n R a b c = true := by
    constructor
    · rintro ⟨c, hc, hk⟩
      unfold okLeast at hk
      simp only [Bool.and_eq_true, List.all_eq_true, List.mem_range, Bool.or_eq_true, Bool.not_eq_true'] at hk
      obtain ⟨⟨q1, q2⟩, q3⟩ := hk
      have hcn := (hB a c q1).2
      refine ⟨c, hcn, ?_⟩
      unfold isJ
      simp only [Bool.and_eq_true, List.all_eq_true, List.mem_range, Bool.not_eq_true', Bool.and_eq_false_iff, Bool.not_eq_false']
      refine ⟨⟨by rw [← hE a c ha hcn]; exact q1, by rw [← hE b c hb hcn]; exact q2⟩, fun d hd => ?_⟩
      rw [← hE a d ha hd, ← hE b d hb hd, ← hE c d hcn hd]
      rcases q3 d (by omega) with h | h
      · rcases (Bool.and_eq_false_iff.1 h) with h | h
        · exact .inl (.inl h)
        · exact .inl (.inr h)
      · exact .inr h
    · rintro ⟨c, hc, hk⟩
      unfold isJ at hk
      simp only [Bool.and_eq_true, List.all_eq_true, List.mem_range, Bool.not_eq_true', Bool.and_eq_false_iff, Bool.not_eq_false'] at hk
      obtain ⟨⟨q1, q2⟩, q3⟩ := hk
      refine ⟨c, by omega, ?_⟩
      unfold okLeast
      simp only [Bool.and_eq_true, List.all_eq_true, List.mem_range, Bool.or_eq_true, Bool.not_eq_true', Bool.and_eq_false_iff]
      refine ⟨⟨by rw [hE a c ha hc]; exact q1, by rw [hE b c hb hc]; exact q2⟩, fun d hd => ?_⟩
      cases had : W a d with
      | false => exact .inl (.inl rfl)
      | true =>
        have hdn := (hB a d had).2
        have := q3 d hdn
        rw [← hE a d ha hdn, ← hE b d hb hdn, ← hE c d hc hdn, had] at this
        rcases this with (h | h) | h
        · cases h
        · exact .inl (.inr h)
        · exact .inr h
  rw [Bool.eq_iff_iff]
  simp only [decide_eq_true_eq, Bool.not_eq_true', decide_eq_false_iff_not]
  rw [h1, h3, h2]

theorem twin_eq {n : Nat} {W R : BRel} (hE : ∀ a b, a < n → b < n → W a b = R a b) {a b : Nat} (ha : a < n) (hb : b < n) : twin W a b = twin R a b := by
  unfold twin
  rw [hE a b ha hb, hE b a hb ha]

theorem okAt_eq {n : Nat} (hn : n ≤ 8) {W R : BRel} (hE : ∀ a b, a < n → b < n → W a b = R a b) (hB : Bd n W) {a b : Nat} (ha : a < n) (hb : b < n) : okAt W (downs n W noL) a b = okAtR n R a b := by
  unfold okAt okAtR
  have e1 := least_join hn hE hB ha hb
  have hD : downs n W noL = fun b x => W x b := by
    rw [downs_eq]
    funext b x
    cases h : W x b with
    | false => simp
    | true => have := hB x b h; simp [this.1, this.2]
  have e2 := least_join hn (W := downs n W noL) (R := fun i j => R j i) (fun a b ha hb => by rw [hD]; exact hE b a hb ha) (fun a b h => by rw [hD] at h; have := hB b a h; exact ⟨this.2, this.1⟩) ha hb
  rw [e1, e2, twin_eq hE ha hb]
  cases twin R a b <;> cases decide (joinI n R a b < 0) <;> simp

theorem all_congr {n : Nat} {f g : Nat → Bool} (h : ∀ i, i < n → f i = g i) : (List.range n).all f = (List.range n).all g := by
  rw [Bool.eq_iff_iff, List.all_eq_true, List.all_eq_true]
  constructor
  · intro h' x hx; rw [← h x (List.mem_range.1 hx)]; exact h' x hx
  · intro h' x hx; rw [h x (List.mem_range.1 hx)]; exact h' x hx

theorem rel_eq {n : Nat} (hn : n ≤ 8) (l : List (Int × Int)) {a b : Nat} (ha : a < n) (hb : b < n) : relW n l a b = relR n l a b := by
  unfold relW relR
  rw [rel0_eq]
  exact close_eq hn _ ha hb

theorem relW_bd {n : Nat} {l : List (Int × Int)} (hl : l.all (inR n) = true) : Bd n (relW n l) := by
  unfold relW
  rw [rel0_eq]
  exact warsh_bd (relR0_bd hl)

theorem relW_tr (n : Nat) (l : List (Int × Int)) : Tr n (relW n l) := warsh_tr n _

theorem ok_eq (n : Int) (l : List (Int × Int)) : okM n l = okR n l := by
  unfold okM okR
  by_cases h1 : 1 ≤ n
  · by_cases h2 : n ≤ 8
    · obtain ⟨m, rfl⟩ : ∃ m : Nat, n = m := ⟨n.toNat, by omega⟩
      cases hl : l.all (inR m) with
      | false => simp
      | true =>
        have hm : m ≤ 8 := by omega
        have e : okT m (relW m l) (relD m l) = okTR m (relR m l) := by
          unfold okT okTR
          refine all_congr fun a ha => ?_
          unfold okRow okRowR
          refine all_congr fun b hb => ?_
          exact okAt_eq hm (fun a b ha hb => rel_eq hm l ha hb) (relW_bd hl) ha hb
        simp only [Int.toNat_natCast, e]
    · simp [h2]
  · simp [h1]

/-- What both Makes make of an order, as their Leq tells it. -/
def seeB (n : Int) (l : List (Int × Int)) (a b : Int) : Bool := okM n l && leqB n (relW n.toNat l) a b

theorem okM_n {n : Int} {l : List (Int × Int)} (h : okM n l = true) : 1 ≤ n ∧ n ≤ 8 := by
  unfold okM at h
  simp only [Bool.and_eq_true, decide_eq_true_eq] at h
  exact ⟨h.1.1.1.1, h.1.1.1.2⟩

theorem leqB_eq {n : Int} (hn : n ≤ 8) {W R : BRel} (hE : ∀ a b, a < n.toNat → b < n.toNat → W a b = R a b) (a b : Int) : leqB n W a b = leqB n R a b := by
  unfold leqB
  cases h1 : isB n a with
  | false => rfl
  | true =>
    cases h2 : isB n b with
    | false => rfl
    | true =>
      have := isB_true h1
      have := isB_true h2
      rw [hE a.toNat b.toNat (by omega) (by omega)]

theorem see_ref {n : Int} {l : List (Int × Int)} (h : okM n l = true) (a b : Int) : leqB n (relR n.toNat l) a b = seeB n l a b := by
  unfold seeB
  rw [h, Bool.true_and]
  have := okM_n h
  exact (leqB_eq this.2 (fun a b ha hb => rel_eq (by omega) l ha hb) a b).symm

theorem leqB_zero (le : BRel) (a b : Int) : leqB 0 le a b = false := by
  unfold leqB isB
  by_cases h : a ≥ 0
  · simp [show ¬ a < 0 by omega]
  · simp [h]

theorem seeB_trans {n : Int} {l : List (Int × Int)} {a b c : Int} (h1 : seeB n l a b = true) (h2 : seeB n l b c = true) : seeB n l a c = true := by
  unfold seeB leqB at *
  simp only [Bool.and_eq_true] at *
  obtain ⟨h0, ⟨ha, hb⟩, hab⟩ := h1
  obtain ⟨_, ⟨_, hc⟩, hbc⟩ := h2
  have q1 := isB_true ha
  have q2 := isB_true hb
  have q3 := isB_true hc
  have := okM_n h0
  exact ⟨h0, ⟨ha, hc⟩, relW_tr n.toNat l _ _ _ (by omega) (by omega) (by omega) hab hbc⟩

end Go.Proofs.YtgikapdeekepiaaGreatDoor
