/- Plain operations of the abstract evaluator: operands, loads, stores, addresses. -/
import Derived.Test.YtgikapdeekepiaaGreatDoorEvB
import Derived.Laws.Entries
import Derived.Laws.StructEq
set_option linter.unusedSimpArgs false
namespace Go.Proofs.YtgikapdeekepiaaGreatDoor
open Go

def mapO {α β : Type} (f : α → Option β) : List α → Option (List β)
  | [] => some []
  | x :: xs => match f x, mapO f xs with
    | some y, some ys => some (y :: ys)
    | _, _ => none

theorem mapO_get {α β : Type} {f : α → Option β} : ∀ {xs : List α} {ys : List β}, mapO f xs = some ys →
    xs.length = ys.length ∧ ∀ (i : Nat) x y, xs[i]? = some x → ys[i]? = some y → f x = some y
  | [], ys, h => by simp [mapO] at h; subst h; simp
  | x :: xs, ys, h => by
    unfold mapO at h
    split at h
    · rename_i y ys' h1 h2
      cases h
      obtain ⟨hl, hg⟩ := mapO_get h2
      refine ⟨by simp [hl], fun i a b ha hb => ?_⟩
      cases i with
      | zero => simp at ha hb; subst ha; subst hb; exact h1
      | succ i => simp at ha hb; exact hg i a b ha hb
    · cases h

def AV.ofV : Nat → Value → Option AV
  | _, .bool b => some (.bool b)
  | _, .int k n => some (.int k n)
  | _, .float k n => some (.float k n)
  | _, .string s => some (.str s)
  | _, .pointer none => some .nilp
  | _, .slice none 0 0 => some .nils
  | _, .map none => some .nilm
  | _, .nilFunc => some .nilf
  | _, .nilIface => some .nili
  | n + 1, .agg cs => (mapO (AV.ofV n) cs.toList).map .agg
  | n + 1, .tuple cs => (mapO (AV.ofV n) cs.toList).map .tuple
  | n + 1, .iface t v => (AV.ofV n v).map (.iface t)
  | _, _ => none

theorem getElem?_toList {α : Type} (a : Array α) (i : Nat) : a.toList[i]? = a[i]? := by simp

theorem ofV_ok {Γ : Ctx} {w : World} : ∀ (n : Nat) (v : Value) (x : AV), AV.ofV n v = some x → VR Γ w x v := by
  intro n
  induction n with
  | zero =>
    intro v x h
    cases v with
    | bool b => simp [AV.ofV] at h; subst h; exact .bool _
    | int k n => simp [AV.ofV] at h; subst h; exact .int _ _
    | float k n => simp [AV.ofV] at h; subst h; exact .float _ _
    | string s => simp [AV.ofV] at h; subst h; exact .str _
    | pointer a => cases a <;> simp [AV.ofV] at h; subst h; exact .nilp
    | slice a l c =>
      cases a with
      | some a => simp [AV.ofV] at h
      | none =>
        cases l with
        | succ l => simp [AV.ofV] at h
        | zero =>
          cases c with
          | succ c => simp [AV.ofV] at h
          | zero => simp [AV.ofV] at h; subst h; exact .nils
    | map a => cases a <;> simp [AV.ofV] at h; subst h; exact .nilm
    | nilFunc => simp [AV.ofV] at h; subst h; exact .nilf
    | nilIface => simp [AV.ofV] at h; subst h; exact .nili
    | _ => simp [AV.ofV] at h
  | succ n ih =>
    intro v x h
    cases v with
    | bool b => simp [AV.ofV] at h; subst h; exact .bool _
    | int k n => simp [AV.ofV] at h; subst h; exact .int _ _
    | float k n => simp [AV.ofV] at h; subst h; exact .float _ _
    | string s => simp [AV.ofV] at h; subst h; exact .str _
    | pointer a => cases a <;> simp [AV.ofV] at h; subst h; exact .nilp
    | slice a l c =>
      cases a with
      | some a => simp [AV.ofV] at h
      | none =>
        cases l with
        | succ l => simp [AV.ofV] at h
        | zero =>
          cases c with
          | succ c => simp [AV.ofV] at h
          | zero => simp [AV.ofV] at h; subst h; exact .nils
    | map a => cases a <;> simp [AV.ofV] at h; subst h; exact .nilm
    | nilFunc => simp [AV.ofV] at h; subst h; exact .nilf
    | nilIface => simp [AV.ofV] at h; subst h; exact .nili
    | agg cs =>
      simp only [AV.ofV, Option.map_eq_some_iff] at h
      obtain ⟨ys, h1, rfl⟩ := h
      obtain ⟨hl, hg⟩ := mapO_get h1
      exact .agg (by simpa using hl) fun i c v hc hv => ih _ _ (hg i v c (by simpa using hv) hc)
    | tuple cs =>
      simp only [AV.ofV, Option.map_eq_some_iff] at h
      obtain ⟨ys, h1, rfl⟩ := h
      obtain ⟨hl, hg⟩ := mapO_get h1
      exact .tuple (by simpa using hl) fun i c v hc hv => ih _ _ (hg i v c (by simpa using hv) hc)
    | iface t v =>
      simp only [AV.ofV, Option.map_eq_some_iff] at h
      obtain ⟨y, h1, rfl⟩ := h
      exact .iface (ih _ _ h1)
    | _ => simp [AV.ofV] at h

/-! The frame. -/

/-- A tree of values, by number; 'upd' is a writing that has not been worked in. -/
inductive FTree where
  | emp
  | node (l : FTree) (x : AV) (r : FTree)
  | upd (t : FTree) (i : Nat) (x : AV)
  deriving Inhabited

def FTree.val : FTree → Nat → AV
  | .emp, _ => .any
  | .node l x r, i => cond (Nat.beq i 0) x (cond (Nat.beq (Nat.mod i 2) 1) (FTree.val l (Nat.div (Nat.sub i 1) 2)) (FTree.val r (Nat.div (Nat.sub i 1) 2)))
  | .upd t j x, i => cond (Nat.beq j i) x (FTree.val t i)

def FTree.put : FTree → Nat → AV → FTree
  | .emp, _, _ => .emp
  | .node l x r, i, y => cond (Nat.beq i 0) (.node l y r) (cond (Nat.beq (Nat.mod i 2) 1) (.node (FTree.put l (Nat.div (Nat.sub i 1) 2) y) x r) (.node l x (FTree.put r (Nat.div (Nat.sub i 1) 2) y)))
  | .upd t j x, i, y => .upd (.upd t j x) i y

def FTree.mk : Nat → Nat → FTree
  | 0, _ => .emp
  | f + 1, n => cond (Nat.beq n 0) .emp (.node (FTree.mk f (Nat.div n 2)) .any (FTree.mk f (Nat.div (Nat.sub n 1) 2)))

/-- The writings are worked in. -/
def FTree.flush (n : Nat) : FTree → FTree
  | .emp => FTree.mk n n
  | .node l x r => .node l x r
  | .upd t i x => (FTree.flush n t).put i x

theorem beq_ne {i j : Nat} (h : i ≠ j) : Nat.beq i j = false := by
  cases hb : Nat.beq i j with
  | false => rfl
  | true => exact absurd (Nat.eq_of_beq_eq_true hb) h

theorem FTree.val_node (l : FTree) (x : AV) (r : FTree) (i : Nat) : (FTree.node l x r).val i = if i = 0 then x else if i % 2 = 1 then l.val ((i - 1) / 2) else r.val ((i - 1) / 2) := by
  show cond (Nat.beq i 0) x (cond (Nat.beq (i % 2) 1) (FTree.val l ((i - 1) / 2)) (FTree.val r ((i - 1) / 2))) = _
  by_cases h : i = 0
  · subst h; rfl
  · rw [if_neg h, beq_ne h]
    by_cases h2 : i % 2 = 1
    · rw [if_pos h2, h2]; rfl
    · rw [if_neg h2, beq_ne h2]; rfl

theorem FTree.put_node (l : FTree) (x : AV) (r : FTree) (i : Nat) (y : AV) : (FTree.node l x r).put i y = if i = 0 then .node l y r else if i % 2 = 1 then .node (l.put ((i - 1) / 2) y) x r else .node l x (r.put ((i - 1) / 2) y) := by
  show cond (Nat.beq i 0) (FTree.node l y r) (cond (Nat.beq (i % 2) 1) (FTree.node (FTree.put l ((i - 1) / 2) y) x r) (FTree.node l x (FTree.put r ((i - 1) / 2) y))) = _
  by_cases h : i = 0
  · subst h; rfl
  · rw [if_neg h, beq_ne h]
    by_cases h2 : i % 2 = 1
    · rw [if_pos h2, h2]; rfl
    · rw [if_neg h2, beq_ne h2]; rfl

theorem FTree.val_upd (t : FTree) (j : Nat) (x : AV) (i : Nat) : (FTree.upd t j x).val i = if j = i then x else t.val i := by
  show cond (Nat.beq j i) x (FTree.val t i) = _
  by_cases h : j = i
  · subst h; rw [if_pos rfl, Nat.beq_refl]; rfl
  · rw [if_neg h, beq_ne h]; rfl

theorem FTree.val_put : ∀ (t : FTree) (i k : Nat) (y : AV), (t.put i y).val k = (if i = k then y else t.val k) ∨ (t.put i y).val k = .any
  | .emp, _, _, _ => .inr rfl
  | .upd t j x, i, k, y => .inl (FTree.val_upd _ _ _ _)
  | .node l x r, i, k, y => by
    rw [FTree.put_node]
    by_cases h0 : i = 0
    · rw [if_pos h0, FTree.val_node]
      left
      by_cases hk : k = 0
      · have hik : i = k := by omega
        rw [if_pos hk, if_pos hik]
      · have hik : i ≠ k := by omega
        rw [if_neg hk, if_neg hik, FTree.val_node, if_neg hk]
    · rw [if_neg h0]
      by_cases h1 : i % 2 = 1
      · rw [if_pos h1, FTree.val_node]
        by_cases hk : k = 0
        · left
          rw [if_pos hk, if_neg (by omega), FTree.val_node, if_pos hk]
        · rw [if_neg hk]
          by_cases h2 : k % 2 = 1
          · rw [if_pos h2]
            rcases FTree.val_put l ((i - 1) / 2) ((k - 1) / 2) y with h3 | h3
            · left
              rw [h3, FTree.val_node, if_neg hk, if_pos h2]
              by_cases he : i = k
              · subst he; rw [if_pos rfl, if_pos rfl]
              · rw [if_neg he, if_neg (by omega)]
            · exact .inr h3
          · left
            rw [if_neg h2, if_neg (by intro e; subst e; exact h2 h1), FTree.val_node, if_neg hk, if_neg h2]
      · rw [if_neg h1, FTree.val_node]
        by_cases hk : k = 0
        · left
          rw [if_pos hk, if_neg (by omega), FTree.val_node, if_pos hk]
        · rw [if_neg hk]
          by_cases h2 : k % 2 = 1
          · left
            rw [if_pos h2, if_neg (by intro e; subst e; exact h1 h2), FTree.val_node, if_neg hk, if_pos h2]
          · rw [if_neg h2]
            rcases FTree.val_put r ((i - 1) / 2) ((k - 1) / 2) y with h3 | h3
            · left
              rw [h3, FTree.val_node, if_neg hk, if_neg h2]
              by_cases he : i = k
              · subst he; rw [if_pos rfl, if_pos rfl]
              · rw [if_neg he, if_neg (by omega)]
            · exact .inr h3

theorem FTree.val_mk : ∀ (f n i : Nat), (FTree.mk f n).val i = .any
  | 0, n, i => rfl
  | f + 1, n, i => by
    show (cond (Nat.beq n 0) FTree.emp (FTree.node (FTree.mk f (n / 2)) .any (FTree.mk f ((n - 1) / 2)))).val i = _
    cases Nat.beq n 0 with
    | true => rfl
    | false =>
      simp only [cond_false]
      rw [FTree.val_node]
      by_cases h1 : i = 0
      · rw [if_pos h1]
      · rw [if_neg h1]
        by_cases h2 : i % 2 = 1
        · rw [if_pos h2]; exact FTree.val_mk f _ _
        · rw [if_neg h2]; exact FTree.val_mk f _ _

theorem FTree.val_flush (n : Nat) : ∀ (t : FTree) (i : Nat), (t.flush n).val i = t.val i ∨ (t.flush n).val i = .any
  | .emp, i => .inr (FTree.val_mk n n i)
  | .node l x r, i => .inl rfl
  | .upd t j x, i => by
    show ((t.flush n).put j x).val i = _ ∨ _
    rcases FTree.val_put (t.flush n) j i x with h | h
    · rw [show (FTree.upd t j x).flush n = (t.flush n).put j x from rfl, h, FTree.val_upd]
      by_cases he : j = i
      · rw [if_pos he, if_pos he]; exact .inl rfl
      · rw [if_neg he, if_neg he]; exact FTree.val_flush n t i
    · exact .inr h

/-- A frame: how many slots, and what stands in them. -/
structure FT where
  sz : Nat
  t : FTree
  deriving Inhabited

def FT.get (fr : FT) (i : Nat) : Option AV := cond (Nat.blt i fr.sz) (some (fr.t.val i)) none

def FT.put (fr : FT) (i : Nat) (x : AV) : FT := ⟨fr.sz, .upd fr.t i x⟩

def FT.flush (fr : FT) : FT := ⟨fr.sz, fr.t.flush fr.sz⟩

def FT.args (t : FTree) (i : Nat) : List AV → FTree
  | [] => t
  | x :: xs => FT.args (.upd t i x) (i + 1) xs

theorem FT.get_eq (fr : FT) (i : Nat) : fr.get i = if i < fr.sz then some (fr.t.val i) else none := by
  unfold FT.get
  by_cases h : i < fr.sz
  · rw [if_pos h, show Nat.blt i fr.sz = true from by rw [Nat.blt_eq]; exact h]; rfl
  · rw [if_neg h, show Nat.blt i fr.sz = false from by
      cases hb : Nat.blt i fr.sz with
      | false => rfl
      | true => exact absurd (by rw [Nat.blt_eq] at hb; exact hb) h]; rfl

theorem FT.isSome_get (fr : FT) (i : Nat) : (fr.get i).isSome = decide (i < fr.sz) := by
  rw [FT.get_eq]
  by_cases h : i < fr.sz
  · rw [if_pos h]; simp [h]
  · rw [if_neg h]; simp [h]

theorem FT.get_put_self (fr : FT) (i : Nat) (y : AV) (h : (fr.get i).isSome = true) : (fr.put i y).get i = some y := by
  rw [FT.isSome_get, decide_eq_true_eq] at h
  rw [FT.get_eq, if_pos (show i < (fr.put i y).sz from h)]
  show some ((FTree.upd fr.t i y).val i) = some y
  rw [FTree.val_upd, if_pos rfl]

theorem FT.get_put_ne (fr : FT) {i j : Nat} (y : AV) (h : i ≠ j) : (fr.put i y).get j = fr.get j := by
  rw [FT.get_eq, FT.get_eq]
  show (if j < fr.sz then some ((FTree.upd fr.t i y).val j) else none) = _
  rw [FTree.val_upd, if_neg h]

theorem FT.isSome_put (fr : FT) (i j : Nat) (y : AV) : ((fr.put i y).get j).isSome = (fr.get j).isSome := by
  rw [FT.isSome_get, FT.isSome_get]
  rfl

theorem FT.get_flush (fr : FT) (i : Nat) : fr.flush.get i = fr.get i ∨ fr.flush.get i = some .any := by
  rw [FT.get_eq, FT.get_eq]
  show (if i < fr.sz then some ((fr.t.flush fr.sz).val i) else none) = _ ∨ (if i < fr.sz then some ((fr.t.flush fr.sz).val i) else none) = _
  by_cases h : i < fr.sz
  · rw [if_pos h, if_pos h]
    rcases FTree.val_flush fr.sz fr.t i with h1 | h1
    · exact .inl (by rw [h1])
    · exact .inr (by rw [h1])
  · rw [if_neg h, if_neg h]; exact .inl rfl

theorem FT.val_args : ∀ (xs : List AV) (t : FTree) (i k : Nat), (FT.args t i xs).val k = if i ≤ k ∧ k < i + xs.length then (xs[k - i]?).getD .any else t.val k
  | [], t, i, k => by rw [if_neg (by intro hc; simp at hc; omega)]; rfl
  | x :: xs, t, i, k => by
    show (FT.args (.upd t i x) (i + 1) xs).val k = _
    rw [FT.val_args xs (.upd t i x) (i + 1) k]
    by_cases hc : i + 1 ≤ k ∧ k < i + 1 + xs.length
    · rw [if_pos hc, if_pos (by simp; omega), show k - i = (k - (i + 1)) + 1 from by omega]
      simp
    · rw [if_neg hc, FTree.val_upd]
      by_cases he : i = k
      · subst he
        rw [if_pos rfl, if_pos (by simp)]
        simp
      · rw [if_neg he, if_neg (by simp; omega)]

def FR (Γ : Ctx) (w : World) (fr : FT) (tmps : Array Value) : Prop :=
  (∀ i, (fr.get i).isSome = decide (i < tmps.size)) ∧ ∀ (i : Nat) x v, fr.get i = some x → tmps[i]? = some v → x = .any ∨ VR Γ w x v

/-- A slot, unless it is forgotten. -/
def FT.rd (fr : FT) (t : Nat) : Option AV :=
  match fr.get t with
  | some .any => none
  | r => r

theorem FT.rd_some {fr : FT} {t : Nat} {x : AV} (h : fr.rd t = some x) : fr.get t = some x ∧ x ≠ .any := by
  unfold FT.rd at h
  split at h
  · cases h
  · rename_i hne
    exact ⟨h, fun e => hne (by rw [h, e])⟩

theorem FR.lt {Γ : Ctx} {w : World} {fr : FT} {tmps : Array Value} (hf : FR Γ w fr tmps) {t : Nat} {x : AV} (h : fr.get t = some x) : t < tmps.size := by
  have := hf.1 t
  rw [h] at this
  simpa using this

theorem FR.none {Γ : Ctx} {w : World} {fr : FT} {tmps : Array Value} (hf : FR Γ w fr tmps) {t : Nat} (h : fr.get t = none) : tmps[t]? = none := by
  have := hf.1 t
  rw [h] at this
  rw [Array.getElem?_eq_none_iff]
  simpa using this

/-- Slots may be forgotten. -/
theorem FR.forget {Γ : Ctx} {w : World} {fr fr' : FT} {tmps : Array Value} (hf : FR Γ w fr tmps) (h : ∀ t, fr'.get t = fr.get t ∨ (fr'.get t = some .any ∧ (fr.get t).isSome = true)) : FR Γ w fr' tmps := by
  refine ⟨fun i => ?_, fun i x v a b => ?_⟩
  · rcases h i with e | ⟨e, e2⟩
    · rw [e]; exact hf.1 i
    · rw [e, ← hf.1 i, e2]; rfl
  · rcases h i with e | ⟨e, e2⟩
    · exact hf.2 i x v (by rw [← e]; exact a) b
    · rw [e] at a; cases a; exact .inl rfl

theorem FR.flush {Γ : Ctx} {w : World} {fr : FT} {tmps : Array Value} (hf : FR Γ w fr tmps) : FR Γ w fr.flush tmps := by
  refine hf.forget fun t => ?_
  have hs : (fr.flush.get t).isSome = (fr.get t).isSome := by rw [FT.isSome_get, FT.isSome_get]; rfl
  rcases FT.get_flush fr t with h | h
  · exact .inl h
  · exact .inr ⟨h, by rw [← hs, h]; rfl⟩

theorem FR.congr {Γ : Ctx} {w : World} {fr fr' : FT} {tmps : Array Value} (hf : FR Γ w fr tmps) (h : ∀ t, fr.get t = fr'.get t) : FR Γ w fr' tmps :=
  ⟨fun i => by rw [← h]; exact hf.1 i, fun i x v a b => hf.2 i x v (by rw [h]; exact a) b⟩

theorem FR.evo {Γ Γ' : Ctx} {w w' : World} (h : Evo Γ w Γ' w') {fr : FT} {tmps : Array Value} (hf : FR Γ w fr tmps) : FR Γ' w' fr tmps :=
  ⟨hf.1, fun i x v a b => (hf.2 i x v a b).imp id (fun q => q.evo h)⟩

theorem FR.val {Γ : Ctx} {w : World} {fr : FT} {tmps : Array Value} (hf : FR Γ w fr tmps) {t : Nat} {x : AV} (h : fr.rd t = some x) : VR Γ w x (tmps.getD t undef) := by
  obtain ⟨h1, h2⟩ := FT.rd_some h
  have hlt := hf.lt h1
  simp only [Array.getD_eq_getD_getElem?, Array.getElem?_eq_getElem hlt, Option.getD_some]
  exact (hf.2 t x _ h1 (by simp [hlt])).resolve_left h2

def aeval (fr : FT) : Operand → Option AV
  | .tmp t => fr.rd t
  | .const v => AV.ofV 3 v
  | .func f => some (.func (.func f) [] [])
  | .global _ => none

theorem aeval_ok {Γ : Ctx} {w : World} {fr : FT} {a : Act} (hf : FR Γ w fr a.tmps) {o : Operand} {x : AV} (h : aeval fr o = some x) : VR Γ w x (a.eval o) := by
  cases o with
  | tmp t =>
    exact hf.val h
  | const v => exact ofV_ok 3 v x h
  | func f => simp only [aeval, Option.some.injEq] at h; subst h; exact .func rfl rfl (by simp) (by simp)
  | global g => simp [aeval] at h

def fput (fr : FT) (dst : Option Tmp) (x : AV) : FT :=
  match dst with
  | some d => fr.put d x
  | none => fr

theorem fput_ok {Γ : Ctx} {w : World} {fr : FT} {a : Act} (hf : FR Γ w fr a.tmps) (dst : Option Tmp) {x : AV} {v : Value} (hx : VR Γ w x v) :
    FR Γ w (fput fr dst x) (a.put dst v).tmps := by
  cases dst with
  | none => exact hf
  | some d =>
    refine ⟨fun i => by simp only [fput, Act.put, FT.isSome_put, Array.size_setIfInBounds]; exact hf.1 i, fun i y u hy hu => ?_⟩
    simp only [fput] at hy
    simp only [Act.put] at hu
    by_cases hd : d = i
    · subst hd
      have hlt : (fr.get d).isSome = true := by rw [← FT.isSome_put fr d d x, hy]; rfl
      rw [FT.get_put_self fr d x hlt] at hy
      have hlt' : d < a.tmps.size := by rw [hf.1] at hlt; simpa using hlt
      simp [hlt'] at hu
      cases hy; subst hu; exact .inr hx
    · rw [FT.get_put_ne fr x hd] at hy
      rw [Array.getElem?_setIfInBounds_ne hd] at hu
      exact hf.2 i y u hy hu

/-! Cells of a value. -/

def AV.acells : AV → List AV
  | .agg cs => cs
  | x => [x]

def AV.cellable : AV → Bool
  | .agg _ | .tuple _ => false
  | _ => true

theorem VR.oneCell {Γ : Ctx} {w : World} {x : AV} {v : Value} (h : VR Γ w x v) (hc : x.cellable = true) : v.oneCell' = true := by
  cases h <;> first | rfl | (simp [AV.cellable] at hc)

theorem VR.cells {Γ : Ctx} {w : World} {x : AV} {v : Value} (h : VR Γ w x v) :
    v.cells.size = x.acells.length ∧ ∀ (i : Nat) c u, x.acells[i]? = some c → v.cells[i]? = some u → VR Γ w c u := by
  have one : ∀ {y : AV} {u : Value}, VR Γ w y u → y.acells = [y] → u.cells = #[u] →
      u.cells.size = y.acells.length ∧ ∀ (i : Nat) c z, y.acells[i]? = some c → u.cells[i]? = some z → VR Γ w c z := by
    intro y u hy e1 e2
    rw [e1, e2]
    refine ⟨rfl, fun i c z hc hz => ?_⟩
    cases i with
    | zero => simp at hc hz; subst hc; subst hz; exact hy
    | succ i => simp at hc
  cases h with
  | agg h1 hv => exact ⟨h1, hv⟩
  | bool b => exact one (.bool b) rfl rfl
  | int k n => exact one (.int k n) rfl rfl
  | float k n => exact one (.float k n) rfl rfl
  | str s => exact one (.str s) rfl rfl
  | nilp => exact one .nilp rfl rfl
  | nilm => exact one .nilm rfl rfl
  | nilf => exact one .nilf rfl rfl
  | nili => exact one .nili rfl rfl
  | nils => exact one .nils rfl rfl
  | ptr hk => exact one (.ptr hk) rfl rfl
  | sl hk hc => exact one (.sl hk hc) rfl rfl
  | map hk => exact one (.map hk) rfl rfl
  | rptr val hc hu hv => exact one (.rptr val hc hu hv) rfl rfl
  | slcR h0 => exact one (.slcR h0) rfl rfl
  | slcX => exact one .slcX rfl rfl
  | slc val hsk hcap hE hc hu hv => exact one (.slc val hsk hcap hE hc hu hv) rfl rfl
  | func h1 h2 hf hv => exact one (.func h1 h2 hf hv) rfl rfl
  | iface hx => exact one (.iface hx) rfl rfl
  | tuple h1 hv => exact one (.tuple h1 hv) rfl rfl

/-! Loads. -/

def cellsAt (h : AH) : AV → Option (List AV)
  | .ptr k off => match h.objs[k]? with
    | some (.cells cs) => some (cs.drop off)
    | _ => none
  | .rptr cs => some cs
  | _ => none

theorem cellsAt_ok {Γ : Ctx} {h : AH} {w : World} (hs : St Γ h w) {x : AV} {v : Value} (hx : VR Γ w x v) {cs : List AV} (hc : cellsAt h x = some cs) :
    ∃ b off, v = .pointer (some ⟨b, off, none⟩) ∧ ∀ (j : Nat) c, cs[j]? = some c → ∃ u, w.cell? ⟨b, off + j, none⟩ = some u ∧ VR Γ w c u := by
  cases hx <;> simp only [cellsAt] at hc
  case ptr k off b hk =>
    split at hc
    · rename_i cs' ho
      cases hc
      refine ⟨b, off, rfl, fun j c hj => ?_⟩
      rw [List.getElem?_drop] at hj
      obtain ⟨u, h1, h2, _⟩ := own_read hs hk ho hj
      exact ⟨u, h1, h2⟩
    · cases hc
  case rptr cs' b off val h1 h2 h3 =>
    cases hc
    exact ⟨b, off, rfl, fun j c hj => ⟨_, h1 j c hj, h3 j c hj⟩⟩
  all_goals cases hc

def isAggT (P : Program) (t : TypeId) : Option Bool :=
  match P.underlying t with
  | some (.struct _) => some true
  | some (.array _ _) => some true
  | some _ => some false
  | none => none

def szT (P : Program) (t : TypeId) : Option Nat := (P.info? t).map (·.size)

theorem run_underlying' {P : Program} {w : World} {t : TypeId} {d : TypeDesc} (h : P.underlying t = some d) : (underlying t).run P w = .ok d w := by
  simp [underlying, h]

theorem run_sizeOf' {P : Program} {w : World} {t : TypeId} {n : Nat} (h : szT P t = some n) : (sizeOf t).run P w = .ok n w := by
  simp only [szT, Option.map_eq_some_iff] at h
  obtain ⟨i, hi, rfl⟩ := h
  simp [sizeOf, typeInfo, hi]

theorem run_isAgg' {P : Program} {w : World} {t : TypeId} {b : Bool} (h : isAggT P t = some b) : (isAgg t).run P w = .ok b w := by
  unfold isAggT at h
  unfold isAgg
  simp only [Sem.run_bind]
  cases hd : P.underlying t with
  | none => simp [hd] at h
  | some d =>
    rw [run_underlying' hd]
    cases d <;> simp [hd] at h <;> subst h <;> rfl

def apart' (P : Program) (t : TypeId) (cs : List AV) : Option AV :=
  match isAggT P t with
  | some true => match szT P t with
    | some n => if n ≤ cs.length then some (.agg (cs.take n)) else none
    | none => none
  | some false => cs[0]?
  | none => none

theorem loadVar_ok {P : Program} {Γ : Ctx} {w : World} {t : TypeId} {cs : List AV} {b off : Nat} {x : AV}
    (hc : ∀ (j : Nat) c, cs[j]? = some c → ∃ u, w.cell? ⟨b, off + j, none⟩ = some u ∧ VR Γ w c u) (h : apart' P t cs = some x) :
    ∃ u, (loadVar t ⟨b, off, none⟩).run P w = .ok u w ∧ VR Γ w x u := by
  unfold apart' at h
  split at h
  · rename_i ht
    split at h
    · rename_i n hn
      split at h
      · rename_i hle
        cases h
        have hch : ∃ f : Nat → Value, ∀ j, j < n → w.cell? ⟨b, off + j, none⟩ = some (f j) ∧ ∀ c, cs[j]? = some c → VR Γ w c (f j) := by
          refine ⟨fun j => ((w.cell? ⟨b, off + j, none⟩).getD undef), fun j hj => ?_⟩
          obtain ⟨u, h1, h2⟩ := hc j cs[j] (by simp)
          refine ⟨by simp [h1], fun c hcj => ?_⟩
          simp only [h1, Option.getD_some]
          simp [List.getElem?_eq_getElem (Nat.lt_of_lt_of_le hj hle)] at hcj
          subst hcj; exact h2
        obtain ⟨f, hf⟩ := hch
        refine ⟨.agg ((List.range n).map f).toArray, ?_, .agg (by simp [hle]) fun i c v hci hvi => ?_⟩
        · unfold loadVar
          rw [Sem.run_bind, run_isAgg' ht]
          simp only [Result.andThen_ok, if_true, Sem.run_bind, run_sizeOf' hn]
          rw [run_loadCells w ⟨b, off, none⟩ n f (fun j hj => by rw [Addr.add_lit]; exact (hf j hj).1)]
          rfl
        · have hi : i < n := by
            rcases Nat.lt_or_ge i n with h' | h'
            · exact h'
            · rw [List.getElem?_take_eq_none h'] at hci; cases hci
          rw [List.getElem?_take_of_lt hi] at hci
          simp [hi] at hvi
          subst hvi
          exact (hf i hi).2 c hci
      · cases h
    · cases h
  · rename_i ht
    obtain ⟨u, h1, h2⟩ := hc 0 x h
    refine ⟨u, ?_, h2⟩
    unfold loadVar
    rw [Sem.run_bind, run_isAgg' ht]
    simp only [Result.andThen_ok, Bool.false_eq_true, if_false, run_load]
    simp only [Nat.add_zero] at h1
    rw [h1]
  · cases h

def aload (P : Program) (h : AH) (t : TypeId) (a : AV) : Option AV :=
  match cellsAt h a with
  | some cs => apart' P t cs
  | none => none

theorem aload_ok {P : Program} {Γ : Ctx} {h : AH} {w : World} (hs : St Γ h w) {a : AV} {v : Value} (ha : VR Γ w a v) {t : TypeId} {x : AV} (hl : aload P h t a = some x) :
    ∃ u, (Instr.loadAt t v).run P w = .ok u w ∧ VR Γ w x u := by
  unfold aload at hl
  split at hl
  · rename_i cs hcs
    obtain ⟨b, off, rfl, hc⟩ := cellsAt_ok hs ha hcs
    obtain ⟨u, h1, h2⟩ := loadVar_ok (P := P) hc hl
    exact ⟨u, by simp only [Instr.loadAt, Instr.sureAddr, Sem.run_bind, Sem.run_pure, Result.andThen_ok]; exact h1, h2⟩
  · cases hl

/-! Stores. -/

def setAll : List AV → Nat → List AV → List AV
  | cs, _, [] => cs
  | cs, i, x :: xs => setAll (cs.set i x) (i + 1) xs

theorem run_storeCells_own {P : Program} {Γ : Ctx} {k b off : Nat} (hk : Γ.ρ[k]? = some b) : ∀ (xs : List AV) (vs : List Value) (i : Nat) (h : AH) (w : World) (cs : List AV),
    St Γ h w → h.objs[k]? = some (.cells cs) → off + i + xs.length ≤ cs.length → vs.length = xs.length →
    (∀ (j : Nat) x v, xs[j]? = some x → vs[j]? = some v → VR Γ w x v) → xs.all AV.cellable = true → (k < h.esc → ∀ x ∈ xs, Sc (k + 1) x) →
    ∃ w', (storeCells ⟨b, off, none⟩ vs i).run P w = .ok () w' ∧ St Γ { h with objs := h.objs.set k (.cells (setAll cs (off + i) xs)) } w' ∧ Evo Γ w Γ w'
  | [], [], i, h, w, cs, hs, ho, hl, hn, hv, hcl, _ => by
    refine ⟨w, by simp [storeCells], ?_, Evo.refl _ _⟩
    have hlt := (List.getElem?_eq_some_iff.1 ho).1
    have : h.objs.set k (.cells cs) = h.objs := by
      apply List.ext_getElem?
      intro j
      by_cases hj : k = j
      · subst hj; rw [List.getElem?_set_self hlt, ho]
      · rw [List.getElem?_set_ne hj]
    simp only [setAll, this]
    exact hs
  | [], _ :: _, _, _, _, _, _, _, _, hn, _, _, _ => by simp at hn
  | _ :: _, [], _, _, _, _, _, _, _, hn, _, _, _ => by simp at hn
  | x :: xs, v :: vs, i, h, w, cs, hs, ho, hl, hn, hv, hcl, hsc => by
    have hx : VR Γ w x v := hv 0 x v (by simp) (by simp)
    simp only [List.all_cons, Bool.and_eq_true] at hcl
    have hone := hx.oneCell hcl.1
    have hlt : off + i < cs.length := by simp at hl; omega
    obtain ⟨u, hr, _, hfz⟩ := own_read hs hk ho (List.getElem?_eq_getElem hlt)
    obtain ⟨hs', he⟩ := own_cell hs hk ho (i := off + i) hx (fun hlt => hsc hlt x (by simp))
    have hklt := (List.getElem?_eq_some_iff.1 ho).1
    obtain ⟨w', h1, h2, h3⟩ := run_storeCells_own (off := off) hk xs vs (i + 1) { h with objs := h.objs.set k (.cells (cs.set (off + i) x)) } (w.setCell ⟨b, off + i, none⟩ v) (cs.set (off + i) x) hs'
      (by simp only [List.getElem?_set_self hklt]) (by simp at hl ⊢; omega) (by simpa using hn)
      (fun j y z hy hz => (hv (j + 1) y z (by simpa using hy) (by simpa using hz)).evo he) hcl.2 (fun hlt y hy => hsc hlt y (by simp [hy]))
    refine ⟨w', ?_, ?_, he.trans h3⟩
    · simp only [storeCells, Sem.run_bind, Addr.add_lit, run_store _ _ _ _ _ hone, hr, hfz, Bool.false_eq_true, if_false, Result.andThen_ok]
      exact h1
    · simp only [setAll]
      simp only [List.set_set] at h2
      rw [show off + i + 1 = off + (i + 1) from by omega]
      exact h2

def astore (P : Program) (h : AH) (t : TypeId) (a x : AV) : Option AH :=
  match a with
  | .ptr k off => match h.objs[k]? with
    | some (.cells cs) =>
      if szT P t = some x.acells.length then
        if off + x.acells.length ≤ cs.length then
          if x.acells.all AV.cellable then some { h.mark k x.acells with objs := h.objs.set k (.cells (setAll cs off x.acells)) } else none
        else none
      else none
    | _ => none
  | _ => none

theorem astore_ok {P : Program} {Γ : Ctx} {h h' : AH} {w : World} (hs : St Γ h w) {a x : AV} {v u : Value} (ha : VR Γ w a v) (hx : VR Γ w x u) {t : TypeId}
    (hl : astore P h t a x = some h') : ∃ w', (Instr.storeAt t v u).run P w = .ok () w' ∧ St Γ h' w' ∧ Evo Γ w Γ w' := by
  cases ha <;> simp only [astore] at hl
  case ptr k off b hk =>
    split at hl
    · rename_i cs ho
      split at hl
      · rename_i hsz
        split at hl
        · rename_i hle
          split at hl
          · rename_i hcl
            cases hl
            obtain ⟨hc1, hc2⟩ := hx.cells
            obtain ⟨m1, m2⟩ := hs.mark k x.acells
            obtain ⟨w', h1, h2, h3⟩ := run_storeCells_own (P := P) (off := off) hk x.acells u.cells.toList 0 (h.mark k x.acells) w cs m1 (by rw [AH.mark_objs]; exact ho) (by omega) (by simpa using hc1)
              (fun j y z hy hz => hc2 j y z hy (by simpa using hz)) hcl m2
            rw [AH.mark_objs] at h2
            refine ⟨w', ?_, h2, h3⟩
            simp only [Instr.storeAt, Instr.sureAddr, storeVar, Sem.run_bind, Sem.run_pure, Result.andThen_ok, run_sizeOf' hsz]
            simp only [hc1, ne_eq, not_true_eq_false, if_false]
            simpa using h1
          · cases hl
        · cases hl
      · cases hl
    · cases hl
  all_goals cases hl

end Go.Proofs.YtgikapdeekepiaaGreatDoor
