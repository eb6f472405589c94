/- Regions that draw their order, in the abstract evaluator: when every order leaves the same. -/
import Derived.Test.YtgikapdeekepiaaGreatDoorEvJ
set_option linter.unusedSimpArgs false
namespace Go.Proofs.YtgikapdeekepiaaGreatDoor
open Go

/-! Equality of abstract values. -/

def eqL {α : Type} (f : α → α → Bool) : List α → List α → Bool
  | [], [] => true
  | a :: as, b :: bs => f a b && eqL f as bs
  | _, _ => false

theorem eqL_ok {α : Type} {f : α → α → Bool} (hf : ∀ a b, f a b = true → a = b) : ∀ {l l' : List α}, eqL f l l' = true → l = l'
  | [], [], _ => rfl
  | [], _ :: _, h => by simp [eqL] at h
  | _ :: _, [], h => by simp [eqL] at h
  | a :: as, b :: bs, h => by
    simp only [eqL, Bool.and_eq_true] at h
    rw [hf a b h.1, eqL_ok hf h.2]

def AV.beq : Nat → AV → AV → Bool
  | 0, _, _ => false
  | n + 1, x, y =>
    match x, y with
    | .bool a, .bool b => a == b
    | .int k a, .int k' b => decide (k = k') && decide (a = b)
    | .float k a, .float k' b => decide (k = k') && decide (a = b)
    | .str a, .str b => decide (a.data.toList = b.data.toList)
    | .nilp, .nilp => true
    | .nilm, .nilm => true
    | .nilf, .nilf => true
    | .nili, .nili => true
    | .nils, .nils => true
    | .ptr k o, .ptr k' o' => decide (k = k') && decide (o = o')
    | .rptr cs, .rptr cs' => eqL (AV.beq n) cs cs'
    | .slc s E es, .slc s' E' es' => decide (s = s') && decide (E = E') && eqL (eqL (AV.beq n)) es es'
    | .sl k o m, .sl k' o' m' => decide (k = k') && decide (o = o') && decide (m = m')
    | .map k, .map k' => decide (k = k')
    | .func f a b, .func f' a' b' => decide (f = f') && eqL (AV.beq n) a a' && eqL (AV.beq n) b b'
    | .iface t v, .iface t' v' => decide (t = t') && AV.beq n v v'
    | .agg cs, .agg cs' => eqL (AV.beq n) cs cs'
    | .tuple cs, .tuple cs' => eqL (AV.beq n) cs cs'
    | _, _ => false

theorem AV.beq_ok : ∀ (n : Nat) (x y : AV), AV.beq n x y = true → x = y
  | 0, _, _, h => by simp [AV.beq] at h
  | n + 1, x, y, h => by
    have ih := AV.beq_ok n
    unfold AV.beq at h
    split at h <;> try simp only [Bool.and_eq_true, decide_eq_true_eq, beq_iff_eq] at h
    · rw [h]
    · rw [h.1, h.2]
    · rw [h.1, h.2]
    · rename_i a b
      congr 1
      obtain ⟨⟨a⟩⟩ := a
      obtain ⟨⟨b⟩⟩ := b
      simpa using h
    · rfl
    · rfl
    · rfl
    · rfl
    · rfl
    · rw [h.1, h.2]
    · rw [eqL_ok ih h]
    · rw [h.1.1, h.1.2, eqL_ok (fun a b => eqL_ok ih) h.2]
    · rw [h.1.1, h.1.2, h.2]
    · rw [h]
    · rw [h.1.1, eqL_ok ih h.1.2, eqL_ok ih h.2]
    · rw [h.1, ih _ _ h.2]
    · rw [eqL_ok ih h]
    · rw [eqL_ok ih h]
    · cases h

/-! Kinds of operations: 0: they look at no memory; 1: they only read; 2: they may change it; 3: none of these. -/

def cls (o : Oper) : Nat :=
  match o.op with
  | .move _ | .assign _ | .pick .. | .build .. | .buildSlice .. | .nilCheck _ | .binOp .. | .unOp .. | .convert .. | .makeInterface .. | .makeFunc .. | .slice .. | .fieldAddr .. | .field .. | .indexAddr .. | .index .. | .typeAssert .. | .extract .. => 0
  | .load .. | .lookup .. => 1
  | .alloc _ | .box .. | .store .. | .makeMap .. | .mapUpdate .. => 2
  | .call c => match c.callee with
    | .builtin .len => 1
    | .builtin .max | .builtin .min => 0
    | .builtin .append => 2
    | .value _ => 2
    | _ => 3
  | _ => 3

/-- The value that an operation hands back, and the state behind it. -/
def stepD (P : Program) (V : Env) (call : CallF) (fr : FT) (h : AH) (o : Oper) : Option (AV × AH) :=
  match aop P V fr h o with
  | .ok x h' => some (x, h')
  | .enter f args => match call f args h with
    | .ret r h' => some (r, h')
    | _ => none
  | _ => none

theorem of_ok {h h1 h' : AH} {x : Option AV} {y : AV} (hx : OO.of h x = .ok y h') : x = some y ∧ h' = h ∧ OO.of h1 x = .ok y h1 := by
  cases x with
  | none => simp [OO.of] at hx
  | some z => simp only [OO.of, OO.ok.injEq] at hx; exact ⟨by rw [hx.1], hx.2.symm, by simp [OO.of, hx.1]⟩

/-- Kind 0: whatever the memory. -/
theorem aop_pure {P : Program} {V : Env} {fr : FT} {h h' : AH} {o : Oper} {y : AV} (hc : cls o = 0) (ha : aop P V fr h o = .ok y h') : h' = h ∧ ∀ h1, aop P V fr h1 o = .ok y h1 := by
  unfold aop at *
  unfold cls at hc
  cases ho : o.op <;> simp only [ho] at ha hc ⊢ <;> first | (cases hc; done) | skip
  all_goals first
    | (obtain ⟨_, h2, _⟩ := of_ok (h1 := h) ha; exact ⟨h2, fun h1 => (of_ok ha).2.2⟩)
    | (split at ha
       · first
           | (obtain ⟨_, h2, _⟩ := of_ok (h1 := h) ha; exact ⟨h2, fun h1 => (of_ok ha).2.2⟩)
           | (simp only [OO.ok.injEq] at ha; exact ⟨ha.2.symm, fun h1 => by rw [ha.1]⟩)
           | (split at ha
              · simp only [OO.ok.injEq] at ha
                rename_i hcond
                obtain ⟨rfl, rfl⟩ := ha
                exact ⟨rfl, fun h1 => by simp [hcond]⟩
              · cases ha)
       · cases ha)
    | skip
  case call c =>
    obtain ⟨cl, cargs, cts⟩ := c
    cases cl with
    | builtin b =>
      cases b <;> simp only at ha hc ⊢ <;> first | (cases hc; done) | skip
      all_goals
        split at ha
        · obtain ⟨_, h2, _⟩ := of_ok (h1 := h) ha; exact ⟨h2, fun h1 => (of_ok ha).2.2⟩
        · cases ha
    | value f => simp at hc
    | invoke r m => simp at hc

/-- Kind 1: the memory is as it was. -/
theorem aop_read {P : Program} {V : Env} {fr : FT} {h h' : AH} {o : Oper} {y : AV} (hc : cls o = 1) (ha : aop P V fr h o = .ok y h') : h' = h := by
  unfold aop at *
  unfold cls at hc
  cases ho : o.op <;> simp only [ho] at ha hc <;> first | (cases hc; done) | skip
  all_goals first
    | (split at ha
       · exact (of_ok (h1 := h) ha).2.1
       · cases ha)
    | skip
  case call c =>
    obtain ⟨cl, cargs, cts⟩ := c
    cases cl with
    | builtin b =>
      cases b <;> simp only at ha hc <;> first | (cases hc; done) | skip
      split at ha
      · exact (of_ok (h1 := h) ha).2.1
      · cases ha
    | value f => simp at hc
    | invoke r m => simp at hc

/-! An operation looks at its operands alone. -/

def looks (ops : Array Oper) (o : Oper) : List Tmp := o.looksAt ops

theorem aeval_congr {fr fr' : FT} {x : Operand} (h : ∀ t, x = .tmp t → fr.get t = fr'.get t) : aeval fr x = aeval fr' x := by
  cases x with
  | tmp t => simp only [aeval, FT.rd, h t rfl]
  | _ => rfl

theorem mapO_congr {α β : Type} {f g : α → Option β} : ∀ {l : List α}, (∀ x ∈ l, f x = g x) → mapO f l = mapO g l
  | [], _ => rfl
  | a :: l, h => by
    unfold mapO
    rw [h a (by simp), mapO_congr (l := l) fun x hx => h x (by simp [hx])]

theorem aop_congr {P : Program} {V : Env} {fr fr' : FT} {h : AH} {o : Oper} (hl : ∀ x ∈ o.op.operands, aeval fr x = aeval fr' x) (hc : cls o ≠ 3) : aop P V fr h o = aop P V fr' h o := by
  have vals : ∀ os : Array Operand, (∀ x ∈ os, aeval fr x = aeval fr' x) → aevals fr os = aevals fr' os := fun os ho => mapO_congr fun x hx => ho x (by simpa using hx)
  have parts : ∀ ps : Array (Nat × Operand), (∀ x ∈ (ps.toList.map (·.2)).toArray, aeval fr x = aeval fr' x) → aparts fr ps = aparts fr' ps := fun ps ho =>
    mapO_congr fun p hp => by rw [ho p.2 (by simp; exact ⟨p.1, by simpa using hp⟩)]
  have bnd : ∀ (b : Option Operand) d, (∀ x ∈ b.toArray, aeval fr x = aeval fr' x) → abound fr b d = abound fr' b d := fun b d hb => by
    cases b with
    | none => rfl
    | some x => simp only [abound, hb x (by simp)]
  unfold aop
  unfold cls at hc
  cases ho : o.op <;> simp only [ho, Op.operands] at hl hc ⊢
  case move x => rw [hl x (by simp)]
  case assign x => rw [hl x (by simp)]
  case pick c a b =>
    have hab : ∀ t : Bool, aeval fr (if t = true then a else b) = aeval fr' (if t = true then a else b) := fun t => by
      cases t
      · exact hl b (by simp)
      · exact hl a (by simp)
    simp only [hl c (by simp), hab]
  case box t x => rw [hl x (by simp)]
  case build t ps => simp only [abuild, parts ps hl]
  case buildSlice t n ps => simp only [abuildSlice, parts ps hl]
  case load t x => rw [hl x (by simp)]
  case store t x y => rw [hl x (by simp), hl y (by simp)]
  case nilCheck x => rw [hl x (by simp)]
  case binOp op t x y t2 => rw [hl x (by simp), hl y (by simp)]
  case unOp op t x => rw [hl x (by simp)]
  case convert a b x => rw [hl x (by simp)]
  case makeInterface t x => rw [hl x (by simp)]
  case makeFunc fn fi ca => rw [vals fi fun x hx => hl x (by simp [hx]), vals ca fun x hx => hl x (by simp [hx])]
  case slice t x lo hi mx =>
    have hlo := fun d => bnd lo d fun x hx => hl x (by simp at hx ⊢; simp [hx])
    have hhi := fun d => bnd hi d fun x hx => hl x (by simp at hx ⊢; simp [hx])
    have hmx := fun d => bnd mx d fun x hx => hl x (by simp at hx ⊢; simp [hx])
    rw [hl x (by simp)]
    cases hi with
    | none =>
      cases mx with
      | none => simp only [aslice, hlo, hhi, hmx]
      | some m =>
        simp only [aslice, hlo, hhi, hmx]
        generalize abound fr' lo 0 = L
        cases L <;> simp only
    | some q =>
      cases mx with
      | none => simp only [aslice, hlo, hhi, hmx]
      | some m =>
        simp only [aslice, hlo, hhi, hmx]
        generalize abound fr' lo 0 = L
        cases L <;> simp only [hhi]
  case makeMap t r => cases r <;> rfl
  case fieldAddr t x f => rw [hl x (by simp)]
  case field t x f => rw [hl x (by simp)]
  case indexAddr t x i => rw [hl x (by simp), hl i (by simp)]
  case index t x i => rw [hl x (by simp), hl i (by simp)]
  case lookup t x k ok => rw [hl x (by simp), hl k (by simp)]
  case mapUpdate t m k x => rw [hl m (by simp), hl k (by simp), hl x (by simp)]
  case typeAssert x xt t ok => rw [hl x (by simp)]
  case extract x i => rw [hl x (by simp)]
  case panic x => rw [hl x (by simp)]
  case call c =>
    obtain ⟨cl, cargs, cts⟩ := c
    simp only [Call.operands] at hl
    cases cl with
    | builtin b => cases b <;> simp only [vals cargs fun x hx => hl x (by simp [hx])]
    | value f => simp only [vals cargs fun x hx => hl x (by simp [hx]), hl f (by simp)]
    | invoke r m => rfl
  case defer c =>
    obtain ⟨cl, cargs, cts⟩ := c
    simp only [Call.operands] at hl
    cases cl with
    | builtin b => rfl
    | value f => simp only [vals cargs fun x hx => hl x (by simp [hx]), hl f (by simp)]
    | invoke r m => rfl

end Go.Proofs.YtgikapdeekepiaaGreatDoor
