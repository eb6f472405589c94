/- Plain operations of the abstract evaluator: arithmetic, comparisons, conversions, lengths, interfaces. -/
import Derived.Test.YtgikapdeekepiaaGreatDoorEvE
import Derived.Laws.Strings
import Derived.Laws.StructEq
import Derived.Laws.Externs
set_option linter.unusedSimpArgs false
namespace Go.Proofs.YtgikapdeekepiaaGreatDoor
open Go

/-- What is given to the evaluator of a program: struct types whose values may be held against each other, with their fields (type, offset). -/
inductive Ext where
  | cmpstr
  | f64bits
  | f64from
  | same
  deriving DecidableEq

/-- The model's own entry for a function without a body. -/
def Ext.row : Ext → Array Value → Sem Value
  | .cmpstr => Extern.BytealgCompare.compare
  | .f64bits => Extern.MathFloatBits.float64bits
  | .f64from => Extern.MathFloatBits.float64frombits
  | .same => Extern.AbiNoEscape.same

structure Env where
  eqTs : List (TypeId × List (TypeId × Nat))
  exts : List (FuncId × Ext)

structure Env.ok (V : Env) (P : Program) : Prop where
  mixed : P.follows .mixedOrders = true
  noNG : ∀ (f : Nat) fn, P.funcs[f]? = some fn → (fn.name == "runtime.NumGoroutine") = false
  eqs : ∀ t fs, (t, fs) ∈ V.eqTs → P.stoodInHeld t = false ∧ P.eqGuardType P.depth t = false ∧ P.underlying t = some (.struct (P.fieldsOf t)) ∧
    (P.fieldsOf t).toList.map (fun f => (f.type, f.offset)) = fs ∧ ∀ f ∈ (P.fieldsOf t).toList, f.name ≠ "_"
  exts : ∀ f e, (f, e) ∈ V.exts → ∃ fn, P.funcs[f]? = some fn ∧ fn.body.isNone = true ∧ Extern.findNext fn = none ∧ Extern.find fn = some e.row

def abits (op : BinOp) (k : IntKind) (a b : Int) : Option AV :=
  match op with
  | .and => some (.int k (k.wrap (BitVec.ofInt k.bits a &&& BitVec.ofInt k.bits b).toNat))
  | .or => some (.int k (k.wrap (BitVec.ofInt k.bits a ||| BitVec.ofInt k.bits b).toNat))
  | .xor => some (.int k (k.wrap (BitVec.ofInt k.bits a ^^^ BitVec.ofInt k.bits b).toNat))
  | .andNot => some (.int k (k.wrap (BitVec.ofInt k.bits a &&& ~~~BitVec.ofInt k.bits b).toNat))
  | _ => none

def aint (op : BinOp) (k : IntKind) (a b : Int) : Option AV :=
  match op with
  | .add => some (.int k (k.wrap (a + b)))
  | .sub => some (.int k (k.wrap (a - b)))
  | .mul => some (.int k (k.wrap (a * b)))
  | .quo => if b = 0 then none else some (.int k (k.wrap (a.tdiv b)))
  | .rem => if b = 0 then none else some (.int k (a.tmod b))
  | .eql => some (.bool (a == b))
  | .neq => some (.bool (a != b))
  | .lss => some (.bool (decide (a < b)))
  | .leq => some (.bool (decide (a ≤ b)))
  | .gtr => some (.bool (decide (a > b)))
  | .geq => some (.bool (decide (a ≥ b)))
  | .and | .or | .xor | .andNot => abits op k a b
  | _ => none

def ashift (op : BinOp) (k : IntKind) (a b : Int) : Option AV :=
  if b < 0 then none else
  match op with
  | .shl => some (.int k (k.wrap (a * 2 ^ (min b.toNat k.bits))))
  | .shr => some (.int k (a.fdiv (2 ^ (min b.toNat k.bits))))
  | _ => none

def astr (op : BinOp) (a b : ByteArray) : Option AV :=
  match op with
  | .add => if a.size + b.size ≤ 9223372036854775807 then some (.str (a ++ b)) else none
  | .eql => some (.bool (a.data.toList == b.data.toList))
  | .neq => some (.bool (!(a.data.toList == b.data.toList)))
  | .lss => some (.bool (Op.bytesLess a.data.toList b.data.toList))
  | .leq => some (.bool (Op.bytesLess a.data.toList b.data.toList || a.data.toList == b.data.toList))
  | .gtr => some (.bool (!(Op.bytesLess a.data.toList b.data.toList || a.data.toList == b.data.toList)))
  | .geq => some (.bool (!(Op.bytesLess a.data.toList b.data.toList)))
  | _ => none

def afloat (op : BinOp) (k : FloatKind) (a b : Nat) : Option AV :=
  match op with
  | .add => (k.format.add a b).map (.float k)
  | .sub => (k.format.sub a b).map (.float k)
  | .mul => (k.format.mul a b).map (.float k)
  | .quo => (k.format.div a b).map (.float k)
  | .eql => some (.bool (k.format.order a b == some .eq))
  | .neq => some (.bool (k.format.order a b != some .eq))
  | .lss => some (.bool (k.format.order a b == some .lt))
  | .leq => some (.bool (k.format.order a b == some .lt || k.format.order a b == some .eq))
  | .gtr => some (.bool (k.format.order a b == some .gt))
  | .geq => some (.bool (k.format.order a b == some .gt || k.format.order a b == some .eq))
  | _ => none

def isPtr : AV → Bool
  | .ptr _ _ | .rptr _ => true
  | _ => false

def aeqF (P : Program) (eq : TypeId → AV → AV → Option Bool) (xs ys : List AV) : List (TypeId × Nat) → Option Bool
  | [] => some true
  | (t, off) :: fs =>
    match apart' P t (xs.drop off), apart' P t (ys.drop off) with
    | some a, some b => match eq t a b with
      | some true => aeqF P eq xs ys fs
      | some false => some false
      | none => none
    | _, _ => none

/-- Equality by a type. -/
def aeqT (P : Program) (V : Env) : Nat → TypeId → AV → AV → Option Bool
  | 0, _, _, _ => none
  | d + 1, t, x, y =>
    match P.underlying t, x, y with
    | some (.int _), .int k a, .int k' b => if k = k' then some (a == b) else none
    | some .bool, .bool a, .bool b => some (a == b)
    | some .string, .str a, .str b => some (a.data.toList == b.data.toList)
    | some (.struct _), .agg xs, .agg ys =>
      match V.eqTs.find? (fun p => p.1 == t) with
      | some p => aeqF P (aeqT P V d) xs ys p.2
      | none => none
    | _, _, _ => none

theorem aeq_ok {P : Program} {V : Env} (hV : V.ok P) {Γ : Ctx} {w : World} : ∀ (d : Nat) (t : TypeId) (x y : AV) (u v : Value) (r : Bool), VR Γ w x u → VR Γ w y v → aeqT P V d t x y = some r →
    (Op.equalIn d t u v).run P w = .ok r w := by
  intro d
  induction d with
  | zero => intro t x y u v r _ _ h; simp [aeqT] at h
  | succ d ih =>
    intro t x y u v r hx hy h
    unfold aeqT at h
    split at h
    · rename_i k0 k a k' b hu
      cases hx; cases hy
      split at h
      · rename_i hk
        subst hk
        cases h
        exact run_equalIn_int w d t k k0 a b hu
      · cases h
    · rename_i a b hu
      cases hx; cases hy; cases h
      exact run_equalIn_bool' w d t a b hu
    · rename_i a b hu
      cases hx; cases hy; cases h
      rw [run_equalIn_string w d t a b hu, ByteArray.toList_eq, ByteArray.toList_eq]
    · rename_i fs0 xs ys hu
      split at h
      · rename_i p hp
        cases hx with
        | agg hx1 hx2 =>
          cases hy with
          | agg hy1 hy2 =>
            have hmem := List.mem_of_find?_eq_some hp
            have hpt : p.1 = t := by have := List.find?_some hp; simpa using this
            obtain ⟨q1, q2, q3, q4, q5⟩ := hV.eqs p.1 p.2 hmem
            rw [hpt] at q1 q3 q4 q5
            rw [run_equalIn_struct w d t _ _ q3 q1]
            rw [← q4] at h
            clear q3 q4 hp hmem hpt
            generalize (P.fieldsOf t).toList = fs at h q5
            induction fs with
            | nil => simp [aeqF] at h; subst h; simp [Op.eqFields]
            | cons f fs ihf =>
              simp only [List.map_cons, aeqF] at h
              split at h
              · rename_i a b ha hb
                obtain ⟨va, ra, ea⟩ := part_ok (P := P) ⟨hx1, hx2⟩ ha
                obtain ⟨vb, rb, eb⟩ := part_ok (P := P) ⟨hy1, hy2⟩ hb
                have hne : f.name ≠ "_" := q5 f (by simp)
                simp only [Op.eqFields, if_pos hne, Sem.run_bind, ra, rb, Result.andThen_ok]
                split at h
                · rename_i he
                  rw [ih _ _ _ _ _ _ ea eb he]
                  simp only [Result.andThen_ok, Bool.not_true, Bool.false_eq_true, if_false]
                  exact ihf h (fun g hg => q5 g (by simp [hg]))
                · rename_i he
                  cases h
                  rw [ih _ _ _ _ _ _ ea eb he]
                  simp
                · cases h
              · cases h
      · cases h
    · cases h

def isConst : Operand → Bool
  | .const _ => true
  | _ => false

def abinP (op : BinOp) (a b : AV) : Option AV :=
  match op, a, b with
  | .eql, .nilp, .nilp => some (.bool true)
  | .neq, .nilp, .nilp => some (.bool false)
  | .eql, .nilp, b => if isPtr b then some (.bool false) else none
  | .neq, .nilp, b => if isPtr b then some (.bool true) else none
  | .eql, a, .nilp => if isPtr a then some (.bool false) else none
  | .neq, a, .nilp => if isPtr a then some (.bool true) else none
  | _, _, _ => none

def abinI (c : Bool) (op : BinOp) (a b : AV) : Option AV :=
  match op, a, b with
  | .eql, .nili, .nili => if c then some (.bool true) else none
  | .neq, .nili, .nili => if c then some (.bool false) else none
  | .eql, .iface _ _, .nili => some (.bool false)
  | .neq, .iface _ _, .nili => some (.bool true)
  | .eql, .nili, .iface _ _ => some (.bool false)
  | .neq, .nili, .iface _ _ => some (.bool true)
  | _, _, _ => none

def abinS (op : BinOp) (a b : AV) : Option AV :=
  match op, a, b with
  | .eql, .nils, .nils => some (.bool true)
  | .neq, .nils, .nils => some (.bool false)
  | .eql, .slc _ _ (_ :: _), .nils => some (.bool false)
  | .neq, .slc _ _ (_ :: _), .nils => some (.bool true)
  | _, _, _ => none

def abinB (op : BinOp) (m n : Bool) : Option AV :=
  match op with
  | .eql => some (.bool (m == n))
  | .neq => some (.bool (!(m == n)))
  | _ => none

def abinA (op : BinOp) (r : Option Bool) : Option AV :=
  match op, r with
  | .eql, some r => some (.bool r)
  | .neq, some r => some (.bool (!r))
  | _, _ => none

def abinN (op : BinOp) (k : IntKind) (m n : Int) (k' : IntKind) : Option AV :=
  match op with
  | .shl | .shr => ashift op k m n
  | _ => if k = k' then aint op k m n else none

/-- Operands neither of which is a plain value: by their type. -/
def abinT (d : Option TypeDesc) (c : Bool) (op : BinOp) (a b : AV) : Option AV :=
  match d with
  | some (.pointer _) => abinP op a b
  | some (.interface _) => abinI c op a b
  | some (.slice _) => abinS op a b
  | _ => none

def abin (P : Program) (V : Env) (op : BinOp) (t : TypeId) (x y : Operand) (a b : AV) : Option AV :=
  match a, b with
  | .int k m, .int k' n => abinN op k m n k'
  | .float k m, .float k' n => if k = k' then afloat op k m n else none
  | .str m, .str n => astr op m n
  | .bool m, .bool n =>
    match P.underlying t with
    | some .bool => abinB op m n
    | _ => none
  | .agg xs, .agg ys => abinA op (aeqT P V 10000 t (.agg xs) (.agg ys))
  | a, b => abinT (P.underlying t) (isConst x || isConst y) op a b

theorem aint_ok {P : Program} {w : World} {op : BinOp} {k : IntKind} {a b : Int} {x : AV} (t : TypeId) (hop : op ≠ .shl ∧ op ≠ .shr) (h : aint op k a b = some x) {Γ : Ctx} :
    ∃ v, (binOp op t (.int k a) (.int k b)).run P w = .ok v w ∧ VR Γ w x v := by
  cases op <;> simp only [aint, abits] at h
  case shl => cases h
  case shr => cases h
  case quo =>
    split at h
    · cases h
    · rename_i hb; cases h; exact ⟨_, by simp [binOp_quo, Op.intDiv, hb], .int _ _⟩
  case rem =>
    split at h
    · cases h
    · rename_i hb; cases h; exact ⟨_, by simp [binOp_rem, Op.intDiv, hb], .int _ _⟩
  case add => cases h; exact ⟨_, by simp [binOp_add, Op.intArith], .int _ _⟩
  case sub => cases h; exact ⟨_, by simp [binOp_sub, Op.intArith], .int _ _⟩
  case mul => cases h; exact ⟨_, by simp [binOp_mul, Op.intArith], .int _ _⟩
  case and => cases h; exact ⟨_, by simp only [binOp_and, Op.intBits, Sem.run_pure], .int _ _⟩
  case or => cases h; exact ⟨_, by simp only [binOp_or, Op.intBits, Sem.run_pure], .int _ _⟩
  case xor => cases h; exact ⟨_, by simp only [binOp_xor, Op.intBits, Sem.run_pure], .int _ _⟩
  case andNot => cases h; exact ⟨_, by simp only [binOp_andNot, Op.intBits, Sem.run_pure], .int _ _⟩
  case eql => cases h; exact ⟨_, by simp only [binOp_eql, Sem.run_pure], .bool _⟩
  case neq => cases h; exact ⟨_, by simp only [binOp_neq, Sem.run_pure], .bool _⟩
  case lss => cases h; exact ⟨_, by simp only [binOp_lss, Sem.run_pure], .bool _⟩
  case leq => cases h; exact ⟨_, by simp only [binOp_leq, Sem.run_pure], .bool _⟩
  case gtr => cases h; exact ⟨_, by simp only [binOp_gtr, Sem.run_pure], .bool _⟩
  case geq => cases h; exact ⟨_, by simp only [binOp_geq, Sem.run_pure], .bool _⟩

theorem ashift_ok {P : Program} {w : World} {op : BinOp} {k k' : IntKind} {a b : Int} {x : AV} (t : TypeId) (h : ashift op k a b = some x) {Γ : Ctx} :
    ∃ v, (binOp op t (.int k a) (.int k' b)).run P w = .ok v w ∧ VR Γ w x v := by
  unfold ashift at h
  split at h
  · cases h
  · rename_i hb
    cases op <;> simp only at h <;> cases h
    · exact ⟨_, by simp only [binOp_shl, Op.shift, if_neg hb, Sem.run_pure], .int _ _⟩
    · exact ⟨_, by simp only [binOp_shr, Op.shift, if_neg hb, Sem.run_pure], .int _ _⟩

theorem astr_ok {P : Program} {w : World} {op : BinOp} {a b : ByteArray} {x : AV} (t : TypeId) (h : astr op a b = some x) {Γ : Ctx} :
    ∃ v, (binOp op t (.string a) (.string b)).run P w = .ok v w ∧ VR Γ w x v := by
  have hb : binOp op t (.string a) (.string b) = Op.stringOp op a b := by cases op <;> rfl
  rw [hb]
  cases op <;> simp only [astr] at h <;> (try (cases h; done))
  case add =>
    split at h
    · rename_i hle
      cases h
      have : ¬ ((a.size + b.size : Nat) : Int) > IntKind.i64.max := by rw [IntKind.max_i64]; omega
      exact ⟨_, by simp only [Op.stringOp, if_neg this, Sem.run_pure], .str _⟩
    · cases h
  all_goals (cases h; refine ⟨_, ?_, .bool _⟩; simp only [Op.stringOp, ByteArray.toList_eq, Sem.run_pure])

theorem afloat_ok {P : Program} {w : World} {op : BinOp} {k : FloatKind} {a b : Nat} {x : AV} (t : TypeId) (h : afloat op k a b = some x) {Γ : Ctx} :
    ∃ v, (binOp op t (.float k a) (.float k b)).run P w = .ok v w ∧ VR Γ w x v := by
  cases op <;> simp only [afloat] at h <;> (try (cases h; done))
  case add => simp only [Option.map_eq_some_iff] at h; obtain ⟨r, hr, rfl⟩ := h; exact ⟨_, by simp [binOp, Op.floatArith, hr], .float _ _⟩
  case sub => simp only [Option.map_eq_some_iff] at h; obtain ⟨r, hr, rfl⟩ := h; exact ⟨_, by simp [binOp, Op.floatArith, hr], .float _ _⟩
  case mul => simp only [Option.map_eq_some_iff] at h; obtain ⟨r, hr, rfl⟩ := h; exact ⟨_, by simp [binOp, Op.floatArith, hr], .float _ _⟩
  case quo => simp only [Option.map_eq_some_iff] at h; obtain ⟨r, hr, rfl⟩ := h; exact ⟨_, by simp [binOp, Op.floatArith, hr], .float _ _⟩
  all_goals (cases h; exact ⟨_, by simp [binOp, Op.floatCmp], .bool _⟩)

theorem isPtr_ok {Γ : Ctx} {w : World} {x : AV} {v : Value} (h : VR Γ w x v) (hp : isPtr x = true) : ∃ a, v = .pointer (some a) := by
  cases h <;> simp [isPtr] at hp
  · exact ⟨_, rfl⟩
  · exact ⟨_, rfl⟩

theorem eqGuard_ptr (op : BinOp) (t : TypeId) (x y : Operand) (a b : Option Addr) : eqGuard op t x y (.pointer a) (.pointer b) = pure () := by cases op <;> rfl

theorem run_eql_any {P : Program} {w : World} (t : TypeId) (a b : Value) (r : Bool) (ha : ∀ op, binOp op t a b = match op with | .eql => (do pure (.bool (← Op.equal t a b))) | .neq => (do pure (.bool (!(← Op.equal t a b)))) | op => binOp op t a b)
    (h : (Op.equalIn 10000 t a b).run P w = .ok r w) : (binOp .eql t a b).run P w = .ok (.bool r) w ∧ (binOp .neq t a b).run P w = .ok (.bool (!r)) w := by
  rw [ha .eql, ha .neq]
  simp [Op.equal, Op.maxDepth, h]

theorem run_equalIn_ptr_nil {P : Program} {w : World} (d : Nat) {t e : TypeId} (hu : P.underlying t = some (.pointer e)) (a b : Option Addr) (hn : a = none ∨ b = none) :
    (Op.equalIn (d + 1) t (.pointer a) (.pointer b)).run P w = .ok (a.isNone && b.isNone) w := by
  cases a <;> cases b <;> simp_all [Op.equalIn, run_underlying' hu]

theorem run_ptr_nil {P : Program} {w : World} {t e : TypeId} (hu : P.underlying t = some (.pointer e)) (a b : Option Addr) (hn : a = none ∨ b = none) :
    (binOp .eql t (.pointer a) (.pointer b)).run P w = .ok (.bool (a.isNone && b.isNone)) w ∧ (binOp .neq t (.pointer a) (.pointer b)).run P w = .ok (.bool (!(a.isNone && b.isNone))) w :=
  run_eql_any t _ _ _ (fun op => by cases op <;> rfl) (run_equalIn_ptr_nil 9999 hu a b hn)

theorem run_equalIn_iface_nil {P : Program} {w : World} (d : Nat) {t : TypeId} {ms : Array (String × TypeId)} (hu : P.underlying t = some (.interface ms)) (u : TypeId) (v : Value) :
    (Op.equalIn (d + 1) t (.iface u v) .nilIface).run P w = .ok false w ∧ (Op.equalIn (d + 1) t .nilIface (.iface u v)).run P w = .ok false w ∧ (Op.equalIn (d + 1) t .nilIface .nilIface).run P w = .ok true w := by
  simp [Op.equalIn, run_underlying' hu]

theorem run_iface_nil {P : Program} {w : World} {t : TypeId} {ms : Array (String × TypeId)} (hu : P.underlying t = some (.interface ms)) (u : TypeId) (v : Value) :
    ((binOp .eql t (.iface u v) .nilIface).run P w = .ok (.bool false) w ∧ (binOp .neq t (.iface u v) .nilIface).run P w = .ok (.bool true) w) ∧
    ((binOp .eql t .nilIface (.iface u v)).run P w = .ok (.bool false) w ∧ (binOp .neq t .nilIface (.iface u v)).run P w = .ok (.bool true) w) ∧
    ((binOp .eql t .nilIface .nilIface).run P w = .ok (.bool true) w ∧ (binOp .neq t .nilIface .nilIface).run P w = .ok (.bool false) w) :=
  ⟨run_eql_any t _ _ false (fun op => by cases op <;> rfl) (run_equalIn_iface_nil 9999 hu u v).1, run_eql_any t _ _ false (fun op => by cases op <;> rfl) (run_equalIn_iface_nil 9999 hu u v).2.1,
    run_eql_any t _ _ true (fun op => by cases op <;> rfl) (run_equalIn_iface_nil 9999 hu u v).2.2⟩

theorem run_equalIn_slice_nil {P : Program} {w : World} (d : Nat) {t e : TypeId} (hu : P.underlying t = some (.slice e)) (a : Option Addr) (n c : Nat) :
    (Op.equalIn (d + 1) t (.slice a n c) (.slice none 0 0)).run P w = .ok a.isNone w := by
  cases a <;> simp [Op.equalIn, run_underlying' hu]

theorem run_slice_nil {P : Program} {w : World} {t e : TypeId} (hu : P.underlying t = some (.slice e)) (a : Option Addr) (n c : Nat) :
    (binOp .eql t (.slice a n c) (.slice none 0 0)).run P w = .ok (.bool a.isNone) w ∧ (binOp .neq t (.slice a n c) (.slice none 0 0)).run P w = .ok (.bool (!a.isNone)) w :=
  run_eql_any t _ _ _ (fun op => by cases op <;> rfl) (run_equalIn_slice_nil 9999 hu a n c)

theorem slc_some {Γ : Ctx} {w : World} {sk : SK} {E : Nat} {e : List AV} {es : List (List AV)} {v : Value} (h : VR Γ w (.slc sk E (e :: es)) v) : ∃ a n c, v = .slice (some a) n c := by
  obtain ⟨a, cap, rfl, _, _, hc, _⟩ := slc_inv h
  rcases hc with ⟨h1, _⟩ | ⟨b, off, rfl, _⟩
  · cases h1
  · exact ⟨_, _, _, rfl⟩

theorem aeqT_agg {P : Program} {V : Env} (hV : V.ok P) (d : Nat) {t : TypeId} {xs ys : List AV} {r : Bool} (hr : aeqT P V (d + 1) t (.agg xs) (.agg ys) = some r) : P.eqGuardType P.depth t = false := by
  unfold aeqT at hr
  split at hr <;> try contradiction
  split at hr
  · rename_i p hp
    have hmem := List.mem_of_find?_eq_some hp
    have hpt : p.1 = t := by have := List.find?_some hp; simpa using this
    rw [← hpt]; exact (hV.eqs p.1 p.2 hmem).2.1
  · cases hr

theorem abin_ok {P : Program} {V : Env} (hV : V.ok P) {Γ : Ctx} {w : World} {op : BinOp} {t : TypeId} {x y : Operand} {a b r : AV} {u v : Value} (ha : VR Γ w a u) (hb : VR Γ w b v)
    (h : abin P V op t x y a b = some r) : ∃ z, (do eqGuard op t x y u v; binOp op t u v).run P w = .ok z w ∧ VR Γ w r z := by
  unfold abin at h
  split at h
  · rename_i k m k' n
    cases ha; cases hb
    simp only [eqGuard_at_int, pure_bind]
    unfold abinN at h
    split at h
    · exact ashift_ok t h
    · exact ashift_ok t h
    · rename_i h1 h2
      split at h
      · rename_i hk; subst hk; exact aint_ok t ⟨h1, h2⟩ h
      · cases h
  · rename_i k m k' n
    cases ha; cases hb
    have hg : eqGuard op t x y (.float k m) (.float k' n) = pure () := by cases op <;> rfl
    simp only [hg, pure_bind]
    split at h
    · rename_i hk; subst hk; exact afloat_ok t h
    · cases h
  · rename_i m n
    cases ha; cases hb
    have hg : eqGuard op t x y (.string m) (.string n) = pure () := by cases op <;> rfl
    simp only [hg, pure_bind]
    exact astr_ok t h
  · rename_i m n
    cases ha; cases hb
    simp only [eqGuard_at_bool, pure_bind]
    split at h
    · rename_i hu
      have := run_eql_any (P := P) (w := w) t (.bool m) (.bool n) (m == n) (fun op => by cases op <;> rfl) (run_equalIn_bool' w 9999 t m n hu)
      unfold abinB at h
      split at h
      · cases h; exact ⟨_, this.1, .bool _⟩
      · cases h; exact ⟨_, this.2, .bool _⟩
      · cases h
    · cases h
  · rename_i xs ys
    have key : ∀ r, aeqT P V 10000 t (.agg xs) (.agg ys) = some r → P.eqGuardType P.depth t = false := fun r hr => aeqT_agg hV 9999 hr
    unfold abinA at h
    split at h
    · rename_i r hr
      cases h
      have hq := aeq_ok hV 10000 t _ _ _ _ _ ha hb hr
      cases ha; cases hb
      refine ⟨_, ?_, .bool r⟩
      simp only [Sem.run_bind, run_eqGuard_agg w _ t x y _ _ (key _ hr), Result.andThen_ok, run_eql_struct, hq]
    · rename_i r hr
      cases h
      have hq := aeq_ok hV 10000 t _ _ _ _ _ ha hb hr
      cases ha; cases hb
      refine ⟨_, ?_, .bool (!r)⟩
      simp only [Sem.run_bind, run_eqGuard_agg w _ t x y _ _ (key _ hr), Result.andThen_ok, run_neq_struct, hq]
    · cases h
  · unfold abinT at h
    split at h
    · rename_i e hu
      unfold abinP at h
      split at h
      · cases ha; cases hb; cases h
        exact ⟨_, by simp only [eqGuard_ptr, pure_bind]; exact (run_ptr_nil hu none none (.inl rfl)).1, .bool _⟩
      · cases ha; cases hb; cases h
        exact ⟨_, by simp only [eqGuard_ptr, pure_bind]; exact (run_ptr_nil hu none none (.inl rfl)).2, .bool _⟩
      · split at h
        · rename_i hp
          cases h; cases ha
          obtain ⟨q, rfl⟩ := isPtr_ok hb hp
          exact ⟨_, by simp only [eqGuard_ptr, pure_bind]; exact (run_ptr_nil hu none (some q) (.inl rfl)).1, .bool _⟩
        · cases h
      · split at h
        · rename_i hp
          cases h; cases ha
          obtain ⟨q, rfl⟩ := isPtr_ok hb hp
          exact ⟨_, by simp only [eqGuard_ptr, pure_bind]; exact (run_ptr_nil hu none (some q) (.inl rfl)).2, .bool _⟩
        · cases h
      · split at h
        · rename_i hp
          cases h; cases hb
          obtain ⟨q, rfl⟩ := isPtr_ok ha hp
          exact ⟨_, by simp only [eqGuard_ptr, pure_bind]; exact (run_ptr_nil hu (some q) none (.inr rfl)).1, .bool _⟩
        · cases h
      · split at h
        · rename_i hp
          cases h; cases hb
          obtain ⟨q, rfl⟩ := isPtr_ok ha hp
          exact ⟨_, by simp only [eqGuard_ptr, pure_bind]; exact (run_ptr_nil hu (some q) none (.inr rfl)).2, .bool _⟩
        · cases h
      · cases h
    · rename_i ms hu
      have H := fun (u : TypeId) (v : Value) => run_iface_nil (P := P) (w := w) hu u v
      have hg : (isConst x || isConst y) = true → ∀ op, eqGuard op t x y .nilIface .nilIface = pure () := by
        intro hc op
        cases x <;> cases y <;> simp [isConst] at hc <;> cases op <;> rfl
      unfold abinI at h
      split at h
      · split at h
        · rename_i hc
          cases ha; cases hb; cases h
          exact ⟨_, by simp only [hg hc, pure_bind]; exact (H 0 .nilIface).2.2.1, .bool _⟩
        · cases h
      · split at h
        · rename_i hc
          cases ha; cases hb; cases h
          exact ⟨_, by simp only [hg hc, pure_bind]; exact (H 0 .nilIface).2.2.2, .bool _⟩
        · cases h
      · cases ha; cases hb; cases h
        exact ⟨_, by simp only [eqGuard_at_iface, pure_bind]; exact (H _ _).1.1, .bool _⟩
      · cases ha; cases hb; cases h
        exact ⟨_, by simp only [eqGuard_at_iface, pure_bind]; exact (H _ _).1.2, .bool _⟩
      · cases ha; cases hb; cases h
        exact ⟨_, by simp only [eqGuard_nil_iface, pure_bind]; exact (H _ _).2.1.1, .bool _⟩
      · cases ha; cases hb; cases h
        exact ⟨_, by simp only [eqGuard_nil_iface, pure_bind]; exact (H _ _).2.1.2, .bool _⟩
      · cases h
    · rename_i e hu
      unfold abinS at h
      split at h
      · cases ha; cases hb; cases h
        exact ⟨_, by simp only [eqGuard_at_slice, pure_bind]; exact (run_slice_nil hu none 0 0).1, .bool _⟩
      · cases ha; cases hb; cases h
        exact ⟨_, by simp only [eqGuard_at_slice, pure_bind]; exact (run_slice_nil hu none 0 0).2, .bool _⟩
      · cases hb; cases h
        obtain ⟨q, n, c, rfl⟩ := slc_some ha
        exact ⟨_, by simp only [eqGuard_at_slice, pure_bind]; exact (run_slice_nil hu (some q) n c).1, .bool _⟩
      · cases hb; cases h
        obtain ⟨q, n, c, rfl⟩ := slc_some ha
        exact ⟨_, by simp only [eqGuard_at_slice, pure_bind]; exact (run_slice_nil hu (some q) n c).2, .bool _⟩
      · cases h
    · cases h

def aun (op : UnOp) (x : AV) : Option AV :=
  match op, x with
  | .not, .bool b => some (.bool (!b))
  | .neg, .int k n => some (.int k (k.wrap (0 - n)))
  | .neg, .float k b => some (.float k (Op.negFloat k b))
  | .xor, .int k n => abits .xor k (if k.signed then -1 else k.max) n
  | _, _ => none

theorem aun_ok {P : Program} {Γ : Ctx} {w : World} {op : UnOp} {x y : AV} {v : Value} (hx : VR Γ w x v) (h : aun op x = some y) :
    ∃ z, (Op.unary op v).run P w = .ok z w ∧ VR Γ w y z := by
  unfold aun at h
  split at h
  · cases hx; cases h; exact ⟨_, rfl, .bool _⟩
  · cases hx; cases h; exact ⟨_, rfl, .int _ _⟩
  · cases hx; cases h; exact ⟨_, rfl, .float _ _⟩
  · cases hx
    simp only [abits, Option.some.injEq] at h
    subst h
    exact ⟨_, by simp only [Op.unary, Op.intBits, Sem.run_pure], .int _ _⟩
  · cases h

def asFloat (k : IntKind) (s : FloatKind) (b : Nat) : Option AV :=
  match (s.decode b).toInt .zero with
  | some n => if k.min ≤ n ∧ n ≤ k.max then some (.int k n) else none
  | none => none

def aconv (P : Program) (src dst : TypeId) (x : AV) : Option AV :=
  match P.underlying src, P.underlying dst, x with
  | some _, some (.int k), .int _ n => some (.int k (k.wrap n))
  | some _, some (.float k), .int _ n => some (.float k (k.nearest n))
  | some _, some (.int k), .float s b => asFloat k s b
  | some _, some .string, .str s => some (.str s)
  | some _, some (.slice e), .str s => match P.underlying e with
    | some (.int .u8) => some (.slc .r 1 (s.data.toList.map fun b => [.int .u8 b.toNat]))
    | _ => none
  | _, _, _ => none

theorem bytes_slc {Γ : Ctx} {w' : World} {b cap : Nat} {s : ByteArray} {c : Array Value} {el : TypeId} {fz : Nat × Nat} (hb : w'.heap[b]? = some (.cells c el fz))
    (hc : ∀ i, i < s.size → c[i]? = some (.int .u8 s.data[i]!.toNat)) (hcap : s.size ≤ cap) (hU : ∀ i, ¬ Γ.unst b i) :
    VR Γ w' (.slc .r 1 (s.data.toList.map fun b => [.int .u8 b.toNat])) (.slice (some ⟨b, 0, none⟩) s.size cap) := by
  have hl : (s.data.toList.map fun b => [AV.int .u8 b.toNat]).length = s.size := by simp
  rw [← hl]
  refine slc_mk (by trivial) (by omega) ⟨fun i e he => ?_, fun i j e x he hj => ?_⟩
  · simp only [List.getElem?_map, Option.map_eq_some_iff] at he
    obtain ⟨y, _, rfl⟩ := he; rfl
  · simp only [List.getElem?_map, Option.map_eq_some_iff] at he
    obtain ⟨y, hy, rfl⟩ := he
    have hi : i < s.size := by have := (List.getElem?_eq_some_iff.1 hy).1; simpa using this
    cases j with
    | succ j => simp at hj
    | zero =>
      simp at hj
      subst hj
      refine ⟨.int .u8 y.toNat, ?_, hU _, .int _ _⟩
      have hd : s.data[i]! = y := by
        have hi' : i < s.data.size := hi
        rw [getElem!_pos s.data i hi']
        rw [Array.getElem?_toList, Array.getElem?_eq_getElem hi'] at hy
        exact Option.some.inj hy
      simp only [World.cell?, hb, Nat.zero_add, Nat.mul_one, Nat.add_zero, Option.isSome_none, Bool.false_eq_true, if_false]
      rw [hc i hi, hd]

theorem World.alloc_heap (w : World) (o : Obj) : (w.alloc o).heap = w.heap.push o := rfl

theorem modify_push (h : Array Obj) (o : Obj) (f : Obj → Obj) : (h.push o).modify h.size f = h.push (f o) := by
  apply Array.ext_getElem?
  intro i
  rw [Array.getElem?_modify, Array.getElem?_push, Array.getElem?_push]
  by_cases hi : i = h.size
  · subst hi; simp
  · rw [if_neg hi, if_neg hi, if_neg (fun e => hi e.symm)]

theorem unst_fresh {Γ : Ctx} {h : AH} {w : World} (hs : St Γ h w) : ∀ i, ¬ Γ.unst w.heap.size i := by
  intro i hu
  rcases hu with hu | hu | ⟨g, gi, hg, hb, _⟩
  · have := hs.o0lt _ _ hu; omega
  · obtain ⟨k, hk⟩ := List.mem_iff_getElem?.1 hu
    have := rho_lt hs hk; omega
  · have := glk_lt hs hg; omega

theorem aconv_ok {P : Program} {Γ : Ctx} {h : AH} {w : World} (hs : St Γ h w) {src dst : TypeId} {x y : AV} {v : Value} (hx : VR Γ w x v) (hc : aconv P src dst x = some y) :
    ∃ w' z, (convert src dst v).run P w = .ok z w' ∧ VR Γ w' y z ∧ St Γ h w' ∧ Evo Γ w Γ w' := by
  unfold aconv at hc
  split at hc
  · rename_i d k k' n hs1 hd
    cases hx; cases hc
    exact ⟨w, _, by simp [convert, run_underlying' hs1, run_underlying' hd, Conv.intToInt], .int _ _, hs, Evo.refl _ _⟩
  · rename_i d k k' n hs1 hd
    cases hx; cases hc
    exact ⟨w, _, by simp [convert, run_underlying' hs1, run_underlying' hd, Conv.intToFloat], .float _ _, hs, Evo.refl _ _⟩
  · rename_i d k s b hs1 hd
    cases hx
    unfold asFloat at hc
    split at hc
    · rename_i n hn
      split at hc
      · rename_i hle
        cases hc
        exact ⟨w, _, by simp [convert, run_underlying' hs1, run_underlying' hd, Conv.floatToInt, hn, hle], .int _ _, hs, Evo.refl _ _⟩
      · cases hc
    · cases hc
  · rename_i d s hs1 hd
    cases hx; cases hc
    exact ⟨w, _, by simp [convert, run_underlying' hs1, run_underlying' hd], .str _, hs, Evo.refl _ _⟩
  · rename_i d e s hs1 hd
    cases hx
    split at hc
    · rename_i he
      cases hc
      obtain ⟨cap, hcap, hcapeq⟩ : ∃ cap, s.size ≤ cap ∧ (Question.appendCap s.size 0 e).cut (w.tape w.drawn (Question.appendCap s.size 0 e)) = cap := ⟨_, Nat.le_add_right _ _, rfl⟩
      have hd1 := (evo_same (Γ := Γ) (w := w) (w' := w.drew) rfl)
      have hs1' := hs.same (w' := w.drew) rfl
      have hrun : (convert src dst (.string s)).run P w = .ok (.slice (some ⟨w.heap.size, 0, none⟩) s.size cap)
          ((w.drew.alloc (.cells (s.data.map (fun b => Value.int .u8 b.toNat) ++ Array.replicate (cap - s.size) (.int .u8 0)) e)).freeze ⟨w.heap.size, s.size + (cap - s.size), none⟩ 1) := by
        simp only [convert, Sem.run_bind, run_underlying' hs1, run_underlying' hd, Result.andThen_ok, run_underlying' he, Conv.stringToBytes, run_choose, Question.forced, Bool.false_eq_true, if_false, hcapeq, World.drew_eq]
        simp only [newRow, Sem.run_bind, run_newObj, World.alloc_eq, Result.andThen_ok, Sem.run_pure, markStringish, run_shape, World.size_drew]
        have hsh : (w.drew.alloc (.cells (s.data.map (fun b => Value.int .u8 b.toNat) ++ Array.replicate (cap - s.size) (.int .u8 0)) e)).shape? w.heap.size = some (e, s.size + (cap - s.size)) := by
          have hz : s.data.size = s.size := rfl
          have hp : (w.drew.alloc (.cells (s.data.map (fun b => Value.int .u8 b.toNat) ++ Array.replicate (cap - s.size) (.int .u8 0)) e)).heap[w.heap.size]? = some (.cells (s.data.map (fun b => Value.int .u8 b.toNat) ++ Array.replicate (cap - s.size) (.int .u8 0)) e) :=
            Array.getElem?_push_size
          simp only [World.shape?, hp]
          simp [hz]
        rw [hsh]
        simp
      have hheap : ((w.drew.alloc (.cells (s.data.map (fun b => Value.int .u8 b.toNat) ++ Array.replicate (cap - s.size) (.int .u8 0)) e)).freeze ⟨w.heap.size, s.size + (cap - s.size), none⟩ 1).heap =
          (w.alloc (.cells (s.data.map (fun b => Value.int .u8 b.toNat) ++ Array.replicate (cap - s.size) (.int .u8 0)) e (s.size + (cap - s.size), s.size + (cap - s.size) + 1))).heap := by
        unfold World.freeze
        rw [if_neg (by omega : ¬ (1 = 0))]
        simp only [World.alloc_heap]
        rw [show w.drew.heap = w.heap from rfl, modify_push]
        simp
      have hU : ∀ i, ¬ Γ.unst w.heap.size i := unst_fresh hs
      refine ⟨_, _, hrun, bytes_slc (c := s.data.map (fun b => Value.int .u8 b.toNat) ++ Array.replicate (cap - s.size) (.int .u8 0)) (by rw [hheap]; exact Array.getElem?_push_size) (fun i hi => ?_) hcap hU,
        (hs.alloc _).same hheap, (evo_alloc _).trans (evo_same hheap)⟩
      have hi' : i < s.data.size := hi
      rw [Array.getElem?_append_left (by simpa using hi')]
      rw [Array.getElem?_map, Array.getElem?_eq_getElem hi', getElem!_pos s.data i hi']
      rfl
    · cases hc
  · cases hc

end Go.Proofs.YtgikapdeekepiaaGreatDoor
