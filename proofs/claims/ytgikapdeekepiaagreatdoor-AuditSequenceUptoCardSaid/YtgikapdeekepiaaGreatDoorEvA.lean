/- Abstract values and the relation between them and the model's values and worlds: the base of a sound abstract evaluator. -/
import Derived.Calls
import Derived.Defers
import Derived.Recover
import Derived.Orders
import Derived.Laws.World
import Derived.Laws.Sem
import Derived.Laws.Cells
namespace Go.Proofs.YtgikapdeekepiaaGreatDoor
open Go

/-- How a slice may grow: r: not known; x: its capacity is its length; g: identity number, it may grow in place. -/
inductive SK where
  | r
  | x
  | g (i : Nat)
  deriving DecidableEq, Inhabited

inductive AV where
  | bool (b : Bool)
  | int (k : IntKind) (n : Int)
  | float (k : FloatKind) (bits : Nat)
  | str (s : ByteArray)
  | nilp | nilm | nilf | nili | nils
  | ptr (k off : Nat)
  | rptr (cs : List AV)
  | slc (sk : SK) (E : Nat) (es : List (List AV))
  | sl (k off n : Nat)
  | map (k : Nat)
  | func (fn : Fn) (first captured : List AV)
  | iface (t : TypeId) (x : AV)
  | agg (cs : List AV)
  | tuple (xs : List AV)
  | any
  deriving Inhabited

structure GI where
  blk : Nat
  cap : Nat
  E : Nat
  len : Nat

structure Ctx where
  O0 : Nat → Nat → Prop
  ρ : List Nat
  G : List GI

def Ctx.unst (Γ : Ctx) (b i : Nat) : Prop :=
  Γ.O0 b i ∨ b ∈ Γ.ρ ∨ ∃ (g : Nat) (gi : GI), Γ.G[g]? = some gi ∧ gi.blk = b ∧ gi.len * gi.E ≤ i ∧ i < gi.cap * gi.E

def SKok (Γ : Ctx) (n : Nat) (b off cap E : Nat) : SK → Prop
  | .r => True
  | .x => cap = n
  | .g g => ∃ gi, Γ.G[g]? = some gi ∧ n ≤ gi.len ∧ (n = gi.len → gi.blk = b ∧ off = 0 ∧ gi.cap = cap ∧ gi.E = E)

inductive VR (Γ : Ctx) (w : World) : AV → Value → Prop
  | bool (b : Bool) : VR Γ w (.bool b) (.bool b)
  | int (k : IntKind) (n : Int) : VR Γ w (.int k n) (.int k n)
  | float (k : FloatKind) (n : Nat) : VR Γ w (.float k n) (.float k n)
  | str (s : ByteArray) : VR Γ w (.str s) (.string s)
  | nilp : VR Γ w .nilp (.pointer none)
  | nilm : VR Γ w .nilm (.map none)
  | nilf : VR Γ w .nilf .nilFunc
  | nili : VR Γ w .nili .nilIface
  | nils : VR Γ w .nils (.slice none 0 0)
  | ptr {k off b : Nat} (h : Γ.ρ[k]? = some b) : VR Γ w (.ptr k off) (.pointer (some ⟨b, off, none⟩))
  | sl {k off n b cap : Nat} (h : Γ.ρ[k]? = some b) (hc : n ≤ cap) : VR Γ w (.sl k off n) (.slice (some ⟨b, off, none⟩) n cap)
  | map {k b : Nat} (h : Γ.ρ[k]? = some b) : VR Γ w (.map k) (.map (some b))
  | rptr {cs : List AV} {b off : Nat} (val : Nat → Value)
      (hc : ∀ (j : Nat) (c : AV), cs[j]? = some c → w.cell? ⟨b, off + j, none⟩ = some (val j))
      (hu : ∀ (j : Nat) (c : AV), cs[j]? = some c → ¬ Γ.unst b (off + j))
      (hv : ∀ (j : Nat) (c : AV), cs[j]? = some c → VR Γ w c (val j)) : VR Γ w (.rptr cs) (.pointer (some ⟨b, off, none⟩))
  | slcR {a : Option Addr} {E cap : Nat} (h : a = none → cap = 0) : VR Γ w (.slc .r E []) (.slice a 0 cap)
  | slcX {a : Option Addr} {E : Nat} : VR Γ w (.slc .x E []) (.slice a 0 0)
  | slc {sk : SK} {es : List (List AV)} {b off cap E : Nat} (val : Nat → Nat → Value)
      (hsk : SKok Γ es.length b off cap E sk)
      (hcap : es.length ≤ cap)
      (hE : ∀ (i : Nat) (e : List AV), es[i]? = some e → e.length = E)
      (hc : ∀ (i j : Nat) (e : List AV) (c : AV), es[i]? = some e → e[j]? = some c → w.cell? ⟨b, off + i * E + j, none⟩ = some (val i j))
      (hu : ∀ (i j : Nat) (e : List AV) (c : AV), es[i]? = some e → e[j]? = some c → ¬ Γ.unst b (off + i * E + j))
      (hv : ∀ (i j : Nat) (e : List AV) (c : AV), es[i]? = some e → e[j]? = some c → VR Γ w c (val i j)) :
      VR Γ w (.slc sk E es) (.slice (some ⟨b, off, none⟩) es.length cap)
  | func {fn : Fn} {fi ca : List AV} {fa va : Array Value} (h1 : fa.size = fi.length) (h2 : va.size = ca.length)
      (hf : ∀ (i : Nat) (c : AV) (v : Value), fi[i]? = some c → fa[i]? = some v → VR Γ w c v)
      (hv : ∀ (i : Nat) (c : AV) (v : Value), ca[i]? = some c → va[i]? = some v → VR Γ w c v) : VR Γ w (.func fn fi ca) (.func fn fa va)
  | iface {t : TypeId} {x : AV} {v : Value} (h : VR Γ w x v) : VR Γ w (.iface t x) (.iface t v)
  | agg {cs : List AV} {a : Array Value} (h1 : a.size = cs.length)
      (hv : ∀ (i : Nat) (c : AV) (v : Value), cs[i]? = some c → a[i]? = some v → VR Γ w c v) : VR Γ w (.agg cs) (.agg a)
  | tuple {cs : List AV} {a : Array Value} (h1 : a.size = cs.length)
      (hv : ∀ (i : Nat) (c : AV) (v : Value), cs[i]? = some c → a[i]? = some v → VR Γ w c v) : VR Γ w (.tuple cs) (.tuple a)

/-- From one world to a later one: what is stable stays; what is new is fresh. -/
structure Evo (Γ : Ctx) (w : World) (Γ' : Ctx) (w' : World) : Prop where
  size : w.heap.size ≤ w'.heap.size
  o0 : Γ'.O0 = Γ.O0
  rho : ∀ (k : Nat) b, Γ.ρ[k]? = some b → Γ'.ρ[k]? = some b
  gs : ∀ (g : Nat) gi, Γ.G[g]? = some gi → ∃ gi', Γ'.G[g]? = some gi' ∧ gi.len ≤ gi'.len ∧ (gi'.len = gi.len → gi' = gi)
  obj : ∀ b, b < w.heap.size → b ∉ Γ.ρ → (∀ (g : Nat) gi, Γ.G[g]? = some gi → gi.blk ≠ b) → w'.heap[b]? = w.heap[b]?
  cell : ∀ b i v, w.cell? ⟨b, i, none⟩ = some v → ¬ Γ.unst b i → w'.cell? ⟨b, i, none⟩ = some v
  newU : ∀ b i, b < w.heap.size → Γ'.unst b i → Γ.unst b i
  newR : ∀ b, b < w.heap.size → b ∈ Γ'.ρ → b ∈ Γ.ρ
  newG : ∀ (g : Nat) gi, Γ'.G[g]? = some gi → gi.blk < w.heap.size → ∃ (g' : Nat) (gi' : GI), Γ.G[g']? = some gi' ∧ gi'.blk = gi.blk
  io : w'.os = w.os ∧ w'.output = w.output := by exact ⟨rfl, rfl⟩

theorem Evo.refl (Γ : Ctx) (w : World) : Evo Γ w Γ w where
  size := Nat.le_refl _
  o0 := rfl
  rho := fun _ _ h => h
  gs := fun _ gi h => ⟨gi, h, Nat.le_refl _, fun _ => rfl⟩
  obj := fun _ _ _ _ => rfl
  cell := fun _ _ _ h _ => h
  newU := fun _ _ _ h => h
  newR := fun _ _ h => h
  newG := fun g gi h _ => ⟨g, gi, h, rfl⟩

theorem cell_lt {w : World} {b i : Nat} {v : Value} (h : w.cell? ⟨b, i, none⟩ = some v) : b < w.heap.size :=
  World.block_lt_of_cell? w ⟨b, i, none⟩ h

theorem Evo.trans {Γ Γ₁ Γ₂ : Ctx} {w w₁ w₂ : World} (h : Evo Γ w Γ₁ w₁) (h' : Evo Γ₁ w₁ Γ₂ w₂) : Evo Γ w Γ₂ w₂ where
  size := Nat.le_trans h.size h'.size
  o0 := h'.o0.trans h.o0
  rho := fun k b hk => h'.rho k b (h.rho k b hk)
  gs := fun g gi hg => by
    obtain ⟨g1, h1, l1, e1⟩ := h.gs g gi hg
    obtain ⟨g2, h2, l2, e2⟩ := h'.gs g g1 h1
    refine ⟨g2, h2, Nat.le_trans l1 l2, fun he => ?_⟩
    have a1 : g1.len = gi.len := by omega
    have a2 : g2.len = g1.len := by omega
    rw [e2 a2, e1 a1]
  obj := fun b hb hr hg => by
    have h1 := h.obj b hb hr hg
    rw [← h1]
    refine h'.obj b (Nat.lt_of_lt_of_le hb h.size) (fun hm => hr (h.newR b hb hm)) (fun g gi hgi he => ?_)
    obtain ⟨g', gi', a, e⟩ := h.newG g gi hgi (by rw [he]; exact hb)
    exact hg g' gi' a (e.trans he)
  cell := fun b i v hc hu => h'.cell b i v (h.cell b i v hc hu) (fun hu' => hu (h.newU b i (cell_lt hc) hu'))
  newU := fun b i hb hu => h.newU b i hb (h'.newU b i (Nat.lt_of_lt_of_le hb h.size) hu)
  newR := fun b hb hm => h.newR b hb (h'.newR b (Nat.lt_of_lt_of_le hb h.size) hm)
  newG := fun g gi hg hb => by
    obtain ⟨g1, gi1, a, e⟩ := h'.newG g gi hg (Nat.lt_of_lt_of_le hb h.size)
    obtain ⟨g2, gi2, a2, e2⟩ := h.newG g1 gi1 a (by rw [e]; exact hb)
    exact ⟨g2, gi2, a2, e2.trans e⟩
  io := ⟨h'.io.1.trans h.io.1, h'.io.2.trans h.io.2⟩

theorem SKok.evo {Γ Γ' : Ctx} {w w' : World} (h : Evo Γ w Γ' w') {n b off cap E : Nat} {sk : SK} (hs : SKok Γ n b off cap E sk) : SKok Γ' n b off cap E sk := by
  cases sk with
  | r => trivial
  | x => exact hs
  | g g =>
    obtain ⟨gi, hg, hn, he⟩ := hs
    obtain ⟨gi', hg', hl, heq⟩ := h.gs g gi hg
    refine ⟨gi', hg', Nat.le_trans hn hl, fun hn' => ?_⟩
    have : gi'.len = gi.len := by omega
    rw [heq this]
    exact he (by omega)

theorem VR.evo {Γ Γ' : Ctx} {w w' : World} (h : Evo Γ w Γ' w') {x : AV} {v : Value} (hx : VR Γ w x v) : VR Γ' w' x v := by
  induction hx with
  | bool b => exact .bool b
  | int k n => exact .int k n
  | float k n => exact .float k n
  | str s => exact .str s
  | nilp => exact .nilp
  | nilm => exact .nilm
  | nilf => exact .nilf
  | nili => exact .nili
  | nils => exact .nils
  | ptr hk => exact .ptr (h.rho _ _ hk)
  | sl hk hc => exact .sl (h.rho _ _ hk) hc
  | map hk => exact .map (h.rho _ _ hk)
  | rptr val hc hu hv ih =>
    exact .rptr val (fun j c hj => h.cell _ _ _ (hc j c hj) (hu j c hj)) (fun j c hj hU => hu j c hj (h.newU _ _ (cell_lt (hc j c hj)) hU)) ih
  | slcR h0 => exact .slcR h0
  | slcX => exact .slcX
  | slc val hsk hcap hE hc hu hv ih =>
    exact .slc val (hsk.evo h) hcap hE (fun i j e c hi hj => h.cell _ _ _ (hc i j e c hi hj) (hu i j e c hi hj))
      (fun i j e c hi hj hU => hu i j e c hi hj (h.newU _ _ (cell_lt (hc i j e c hi hj)) hU)) ih
  | func h1 h2 hf hv ihf ihv => exact .func h1 h2 ihf ihv
  | iface hx ih => exact .iface ih
  | agg h1 hv ih => exact .agg h1 ih
  | tuple h1 hv ih => exact .tuple h1 ih

/-! Objects of one's own, and the state. -/

inductive AObj where
  | cells (cs : List AV)
  | map (es : List (AV × AV))
  deriving Inhabited

/-- The abstract memory. 'esc': below it no object of one's own leads to a later one. -/
structure AH where
  objs : List AObj
  gl : List Nat
  esc : Nat
  deriving Inhabited

def AV.flat : AV → Bool
  | .bool _ | .int _ _ | .float _ _ | .str _ | .nilp | .nilm | .nilf | .nili | .nils | .any => true
  | _ => false

/-- It leads to the first n objects of one's own alone. -/
inductive Sc (n : Nat) : AV → Prop
  | flat {x : AV} (h : x.flat = true) : Sc n x
  | ptr {k off : Nat} (h : k < n) : Sc n (.ptr k off)
  | sl {k off m : Nat} (h : k < n) : Sc n (.sl k off m)
  | map {k : Nat} (h : k < n) : Sc n (.map k)
  | rptr {cs : List AV} (h : ∀ c ∈ cs, Sc n c) : Sc n (.rptr cs)
  | slc {sk : SK} {E : Nat} {es : List (List AV)} (h : ∀ e ∈ es, ∀ c ∈ e, Sc n c) : Sc n (.slc sk E es)
  | func {fn : Fn} {fi ca : List AV} (h1 : ∀ c ∈ fi, Sc n c) (h2 : ∀ c ∈ ca, Sc n c) : Sc n (.func fn fi ca)
  | iface {t : TypeId} {x : AV} (h : Sc n x) : Sc n (.iface t x)
  | agg {cs : List AV} (h : ∀ c ∈ cs, Sc n c) : Sc n (.agg cs)
  | tuple {cs : List AV} (h : ∀ c ∈ cs, Sc n c) : Sc n (.tuple cs)

theorem Sc.mono {n m : Nat} (hnm : n ≤ m) {x : AV} (h : Sc n x) : Sc m x := by
  induction h with
  | flat h => exact .flat h
  | ptr h => exact .ptr (by omega)
  | sl h => exact .sl (by omega)
  | map h => exact .map (by omega)
  | rptr h ih => exact .rptr ih
  | slc h ih => exact .slc ih
  | func h1 h2 ih1 ih2 => exact .func ih1 ih2
  | iface h ih => exact .iface ih
  | agg h ih => exact .agg ih
  | tuple h ih => exact .tuple ih

def AV.lowB : Nat → Nat → AV → Bool
  | 0, _, _ => false
  | f + 1, n, x =>
    match x with
    | .ptr k _ => decide (k < n)
    | .sl k _ _ => decide (k < n)
    | .map k => decide (k < n)
    | .rptr cs => cs.all (AV.lowB f n)
    | .slc _ _ es => es.all fun e => e.all (AV.lowB f n)
    | .func _ fi ca => fi.all (AV.lowB f n) && ca.all (AV.lowB f n)
    | .iface _ v => AV.lowB f n v
    | .agg cs => cs.all (AV.lowB f n)
    | .tuple cs => cs.all (AV.lowB f n)
    | _ => true

theorem AV.lowB_ok : ∀ (f n : Nat) (x : AV), AV.lowB f n x = true → Sc n x
  | 0, _, _, h => by simp [AV.lowB] at h
  | f + 1, n, x, h => by
    have ih := AV.lowB_ok f n
    cases x <;> simp only [AV.lowB, List.all_eq_true, Bool.and_eq_true, decide_eq_true_eq] at h
    case ptr => exact .ptr h
    case sl => exact .sl h
    case map => exact .map h
    case rptr => exact .rptr fun c hc => ih c (h c hc)
    case slc => exact .slc fun e he c hc => ih c (h e he c hc)
    case func => exact .func (fun c hc => ih c (h.1 c hc)) (fun c hc => ih c (h.2 c hc))
    case iface => exact .iface (ih _ h)
    case agg => exact .agg fun c hc => ih c (h c hc)
    case tuple => exact .tuple fun c hc => ih c (h c hc)
    all_goals exact .flat rfl

inductive ScO (n : Nat) : AObj → Prop
  | cells {cs : List AV} (h : ∀ c ∈ cs, Sc n c) : ScO n (.cells cs)
  | map {es : List (AV × AV)} (h : ∀ p ∈ es, Sc n p.1 ∧ Sc n p.2) : ScO n (.map es)

theorem mem_get {α : Type} {l : List α} {c : α} (h : c ∈ l) : ∃ (i : Nat), l[i]? = some c := List.mem_iff_getElem?.1 h

theorem VR.sc {Γ : Ctx} {w : World} {x : AV} {v : Value} (h : VR Γ w x v) : Sc Γ.ρ.length x := by
  have arr : ∀ {cs : List AV} {a : Array Value}, a.size = cs.length → (∀ (i : Nat) c v, cs[i]? = some c → a[i]? = some v → Sc Γ.ρ.length c) → ∀ c ∈ cs, Sc Γ.ρ.length c := by
    intro cs a hs hv c hc
    obtain ⟨i, hi⟩ := mem_get hc
    have hlt : i < a.size := by rw [hs]; exact (List.getElem?_eq_some_iff.1 hi).1
    exact hv i c a[i] hi (by simp [hlt])
  induction h with
  | ptr hk => exact .ptr (List.getElem?_eq_some_iff.1 hk).1
  | sl hk hc => exact .sl (List.getElem?_eq_some_iff.1 hk).1
  | map hk => exact .map (List.getElem?_eq_some_iff.1 hk).1
  | rptr val hc hu hv ih => exact .rptr fun c hcc => by obtain ⟨i, hi⟩ := mem_get hcc; exact ih i c hi
  | slcR _ => exact .slc fun e he => by simp at he
  | slcX => exact .slc fun e he => by simp at he
  | slc val hsk hcap hE hc hu hv ih =>
    refine .slc ?_
    intro e he c hcc
    obtain ⟨i, hi⟩ := mem_get he
    obtain ⟨j, hj⟩ := mem_get hcc
    exact ih i j e c hi hj
  | func h1 h2 hf hv ihf ihv => exact .func (arr h1 ihf) (arr h2 ihv)
  | iface hx ih => exact .iface ih
  | agg h1 hv ih => exact .agg (arr h1 ih)
  | tuple h1 hv ih => exact .tuple (arr h1 ih)
  | _ => exact .flat rfl

inductive ObjR (Γ : Ctx) (w : World) : AObj → Nat → Prop
  | cells {cs : List AV} {b : Nat} {c : Array Value} {el : TypeId} (hb : w.heap[b]? = some (.cells c el (0, 0))) (hs : c.size = cs.length)
      (hv : ∀ (i : Nat) (x : AV) (v : Value), cs[i]? = some x → c[i]? = some v → VR Γ w x v) : ObjR Γ w (.cells cs) b
  | map {es : List (AV × AV)} {b : Nat} {en : Array MapEntry} {cl : Nat} (hb : w.heap[b]? = some (.map en cl)) (hs : en.size = es.length)
      (hv : ∀ (i : Nat) (p : AV × AV) (e : MapEntry), es[i]? = some p → en[i]? = some e → VR Γ w p.1 e.key ∧ VR Γ w p.2 e.val) : ObjR Γ w (.map es) b

structure St (Γ : Ctx) (h : AH) (w : World) : Prop where
  len : h.objs.length = Γ.ρ.length
  nodup : Γ.ρ.Nodup
  objs : ∀ (k : Nat) o b, h.objs[k]? = some o → Γ.ρ[k]? = some b → ObjR Γ w o b
  gl : h.gl = Γ.G.map (·.len)
  gblk : ∀ (g : Nat) gi, Γ.G[g]? = some gi → gi.blk ∉ Γ.ρ
  gdis : ∀ (g g' : Nat) gi gi', Γ.G[g]? = some gi → Γ.G[g']? = some gi' → gi.blk = gi'.blk → g = g'
  gcell : ∀ (g : Nat) gi, Γ.G[g]? = some gi → ∃ c el, w.heap[gi.blk]? = some (.cells c el (0, 0)) ∧ gi.cap * gi.E ≤ c.size ∧ gi.len ≤ gi.cap
  o0r : ∀ b i, Γ.O0 b i → b ∉ Γ.ρ
  o0g : ∀ b i (g : Nat) gi, Γ.O0 b i → Γ.G[g]? = some gi → gi.blk ≠ b
  o0lt : ∀ b i, Γ.O0 b i → b < w.heap.size
  scope : ∀ (k : Nat) o, h.objs[k]? = some o → k < h.esc → ScO (k + 1) o

theorem rho_lt {Γ : Ctx} {h : AH} {w : World} (hs : St Γ h w) {k b : Nat} (hk : Γ.ρ[k]? = some b) : b < w.heap.size := by
  have hlt : k < Γ.ρ.length := by
    rcases Nat.lt_or_ge k Γ.ρ.length with h' | h'
    · exact h'
    · rw [List.getElem?_eq_none h'] at hk; cases hk
  obtain ⟨o, ho⟩ : ∃ o, h.objs[k]? = some o := ⟨_, List.getElem?_eq_getElem (by rw [hs.len]; exact hlt)⟩
  have := hs.objs k o b ho hk
  rcases Nat.lt_or_ge b w.heap.size with h' | h'
  · exact h'
  · cases this with
    | cells hb _ _ => rw [Array.getElem?_eq_none h'] at hb; cases hb
    | map hb _ _ => rw [Array.getElem?_eq_none h'] at hb; cases hb

theorem ObjR.sc {Γ : Ctx} {w : World} {o : AObj} {b : Nat} (h : ObjR Γ w o b) : ScO Γ.ρ.length o := by
  cases h with
  | cells hb hs hv =>
    refine .cells fun c hc => ?_
    obtain ⟨i, hi⟩ := mem_get hc
    have hlt : i < Array.size ‹Array Value› := by rw [hs]; exact (List.getElem?_eq_some_iff.1 hi).1
    exact (hv i c _ hi (by simp [hlt]; rfl)).sc
  | map hb hs hv =>
    refine .map fun p hp => ?_
    obtain ⟨i, hi⟩ := mem_get hp
    have hlt : i < Array.size ‹Array MapEntry› := by rw [hs]; exact (List.getElem?_eq_some_iff.1 hi).1
    have := hv i p _ hi (by simp [hlt]; rfl)
    exact ⟨this.1.sc, this.2.sc⟩

theorem ObjR.evo {Γ Γ' : Ctx} {w w' : World} (h : Evo Γ w Γ' w') {o : AObj} {b : Nat} (hb : w'.heap[b]? = w.heap[b]?) (ho : ObjR Γ w o b) : ObjR Γ' w' o b := by
  cases ho with
  | cells h1 h2 h3 => exact .cells (hb.trans h1) h2 (fun i x v a c => (h3 i x v a c).evo h)
  | map h1 h2 h3 => exact .map (hb.trans h1) h2 (fun i p e a c => ⟨(h3 i p e a c).1.evo h, (h3 i p e a c).2.evo h⟩)

/-! The world changes that do not touch what is known. -/

theorem evo_same {Γ : Ctx} {w w' : World} (hw : w'.heap = w.heap) (hio : w'.os = w.os ∧ w'.output = w.output := by exact ⟨rfl, rfl⟩) : Evo Γ w Γ w' where
  io := hio
  size := by rw [hw]; exact Nat.le_refl _
  o0 := rfl
  rho := fun _ _ h => h
  gs := fun _ gi h => ⟨gi, h, Nat.le_refl _, fun _ => rfl⟩
  obj := fun _ _ _ _ => by rw [hw]
  cell := fun _ _ _ h _ => by unfold World.cell? at *; rw [hw]; exact h
  newU := fun _ _ _ h => h
  newR := fun _ _ h => h
  newG := fun g gi h _ => ⟨g, gi, h, rfl⟩

theorem St.same {Γ : Ctx} {h : AH} {w w' : World} (hs : St Γ h w) (hw : w'.heap = w.heap) (hio : w'.os = w.os ∧ w'.output = w.output := by exact ⟨rfl, rfl⟩) : St Γ h w' where
  len := hs.len
  nodup := hs.nodup
  objs := fun k o b ho hk => (hs.objs k o b ho hk).evo (evo_same hw hio) (by rw [hw])
  gl := hs.gl
  gblk := hs.gblk
  gdis := hs.gdis
  gcell := fun g gi hg => by rw [hw]; exact hs.gcell g gi hg
  o0r := hs.o0r
  o0g := hs.o0g
  o0lt := fun b i h => by rw [hw]; exact hs.o0lt b i h
  scope := hs.scope

theorem glk_lt {Γ : Ctx} {h : AH} {w : World} (hs : St Γ h w) {g : Nat} {gi : GI} (hg : Γ.G[g]? = some gi) : gi.blk < w.heap.size := by
  obtain ⟨c, el, hb, _⟩ := hs.gcell g gi hg
  rcases Nat.lt_or_ge gi.blk w.heap.size with h' | h'
  · exact h'
  · rw [Array.getElem?_eq_none h'] at hb; cases hb

theorem alloc_old {w : World} {o : Obj} {b : Nat} (hb : b < w.heap.size) : (w.alloc o).heap[b]? = w.heap[b]? := by
  simp only [World.alloc, Array.getElem?_push]
  rw [if_neg (Nat.ne_of_lt hb)]

theorem alloc_cell {w : World} {o : Obj} {b i : Nat} {v : Value} (h : w.cell? ⟨b, i, none⟩ = some v) : (w.alloc o).cell? ⟨b, i, none⟩ = some v := by
  rw [World.cell?_alloc_lt _ _ _ (cell_lt h)]; exact h

theorem evo_alloc {Γ : Ctx} {w : World} (o : Obj) : Evo Γ w Γ (w.alloc o) where
  size := by simp
  o0 := rfl
  rho := fun _ _ h => h
  gs := fun _ gi h => ⟨gi, h, Nat.le_refl _, fun _ => rfl⟩
  obj := fun b hb _ _ => alloc_old hb
  cell := fun _ _ _ h _ => alloc_cell h
  newU := fun _ _ _ h => h
  newR := fun _ _ h => h
  newG := fun g gi h _ => ⟨g, gi, h, rfl⟩

theorem St.alloc {Γ : Ctx} {h : AH} {w : World} (hs : St Γ h w) (o : Obj) : St Γ h (w.alloc o) where
  len := hs.len
  nodup := hs.nodup
  objs := fun k ob b ho hk => (hs.objs k ob b ho hk).evo (evo_alloc o) (alloc_old (rho_lt hs hk))
  gl := hs.gl
  gblk := hs.gblk
  gdis := hs.gdis
  gcell := fun g gi hg => by rw [alloc_old (glk_lt hs hg)]; exact hs.gcell g gi hg
  o0r := hs.o0r
  o0g := hs.o0g
  o0lt := fun b i h => by have := hs.o0lt b i h; simp; omega
  scope := hs.scope

/-- A new object of one's own. -/
def Ctx.own (Γ : Ctx) (b : Nat) : Ctx := { Γ with ρ := Γ.ρ ++ [b] }

def AH.push (h : AH) (o : AObj) : AH := { h with objs := h.objs ++ [o] }

theorem getElem?_snoc {α : Type} {l : List α} {x y : α} {k : Nat} (h : (l ++ [x])[k]? = some y) : l[k]? = some y ∨ (k = l.length ∧ y = x) := by
  rcases Nat.lt_or_ge k l.length with h' | h'
  · rw [List.getElem?_append_left h'] at h; exact .inl h
  · rw [List.getElem?_append_right h'] at h
    have : k - l.length = 0 := by
      rcases Nat.eq_zero_or_pos (k - l.length) with h0 | h0
      · exact h0
      · rw [List.getElem?_eq_none (by simp; omega)] at h; cases h
    rw [this] at h
    simp at h
    exact .inr ⟨by omega, h.symm⟩

theorem unst_own {Γ : Ctx} {c b i : Nat} (h : (Γ.own c).unst b i) : Γ.unst b i ∨ b = c := by
  rcases h with h | h | h
  · exact .inl (.inl h)
  · simp [Ctx.own] at h
    rcases h with h | h
    · exact .inl (.inr (.inl h))
    · exact .inr h
  · exact .inl (.inr (.inr h))

theorem evo_own {Γ : Ctx} {w : World} (o : Obj) : Evo Γ w (Γ.own w.heap.size) (w.alloc o) where
  size := by simp
  o0 := rfl
  rho := fun k b h => by
    have hlt : k < Γ.ρ.length := by
      rcases Nat.lt_or_ge k Γ.ρ.length with h' | h'
      · exact h'
      · rw [List.getElem?_eq_none h'] at h; cases h
    simp only [Ctx.own, List.getElem?_append_left hlt, h]
  gs := fun _ gi h => ⟨gi, h, Nat.le_refl _, fun _ => rfl⟩
  obj := fun b hb _ _ => alloc_old hb
  cell := fun _ _ _ h _ => alloc_cell h
  newU := fun b i hb h => (unst_own h).resolve_right (Nat.ne_of_lt hb)
  newR := fun b hb h => by
    simp [Ctx.own] at h
    exact h.resolve_right (Nat.ne_of_lt hb)
  newG := fun g gi h _ => ⟨g, gi, h, rfl⟩

theorem St.own {Γ : Ctx} {h : AH} {w : World} (hs : St Γ h w) {o : Obj} {ao : AObj}
    (ho : ObjR (Γ.own w.heap.size) (w.alloc o) ao w.heap.size) : St (Γ.own w.heap.size) (h.push ao) (w.alloc o) where
  len := by simp [AH.push, Ctx.own, hs.len]
  nodup := by
    refine List.nodup_append.2 ⟨hs.nodup, by simp, ?_⟩
    intro a ha b hb hab
    simp at hb
    obtain ⟨k, hk⟩ := List.mem_iff_getElem?.1 ha
    have := rho_lt hs hk
    omega
  objs := fun k ob b hk hr => by
    rcases getElem?_snoc hr with h1 | ⟨h1, h2⟩
    · have hlt : k < h.objs.length := by
        rw [hs.len]
        rcases Nat.lt_or_ge k Γ.ρ.length with h' | h'
        · exact h'
        · rw [List.getElem?_eq_none h'] at h1; cases h1
      simp only [AH.push, List.getElem?_append_left hlt] at hk
      exact (hs.objs k ob b hk h1).evo (evo_own o) (alloc_old (rho_lt hs h1))
    · subst h2
      simp only [AH.push, h1, ← hs.len] at hk
      simp at hk
      subst hk
      exact ho
  gl := hs.gl
  gblk := fun g gi hg hm => by
    simp [Ctx.own] at hm
    rcases hm with hm | hm
    · exact hs.gblk g gi hg hm
    · have := glk_lt hs hg; omega
  gdis := hs.gdis
  gcell := fun g gi hg => by rw [alloc_old (glk_lt hs hg)]; exact hs.gcell g gi hg
  o0r := fun b i hb hm => by
    simp [Ctx.own] at hm
    rcases hm with hm | hm
    · exact hs.o0r b i hb hm
    · subst hm; have := hs.o0lt _ i hb; omega
  o0g := hs.o0g
  o0lt := fun b i h => by have := hs.o0lt b i h; simp; omega
  scope := fun k ob hk hlt => by
    rcases getElem?_snoc hk with h1 | ⟨h1, h2⟩
    · exact hs.scope k ob h1 hlt
    · subst h2
      rw [h1]
      have hlen : (Γ.own w.heap.size).ρ.length = h.objs.length + 1 := by simp [Ctx.own, hs.len]
      rw [← hlen]
      exact ho.sc

/-- The mark may be lowered. -/
theorem St.lower {Γ : Ctx} {h : AH} {w : World} (hs : St Γ h w) {e : Nat} (he : e ≤ h.esc) : St Γ { h with esc := e } w :=
  { hs with scope := fun k o hk hlt => hs.scope k o hk (Nat.lt_of_lt_of_le hlt he) }

/-- Before these values are written into object k: the mark is lowered if they lead further. -/
def AH.mark (h : AH) (k : Nat) (xs : List AV) : AH := if xs.all (AV.lowB 20 (k + 1)) then h else { h with esc := min h.esc k }

theorem AH.mark_objs (h : AH) (k : Nat) (xs : List AV) : (h.mark k xs).objs = h.objs := by
  unfold AH.mark; split <;> rfl

theorem St.mark {Γ : Ctx} {h : AH} {w : World} (hs : St Γ h w) (k : Nat) (xs : List AV) :
    St Γ (h.mark k xs) w ∧ (k < (h.mark k xs).esc → ∀ x ∈ xs, Sc (k + 1) x) := by
  unfold AH.mark
  split
  · rename_i hall
    simp only [List.all_eq_true] at hall
    exact ⟨hs, fun _ x hx => AV.lowB_ok _ _ _ (hall x hx)⟩
  · refine ⟨hs.lower (Nat.min_le_left _ _), fun hlt => ?_⟩
    simp only at hlt
    omega

/-! Objects that nothing leads to any more are forgotten. -/

def Ctx.trunc (Γ : Ctx) (n : Nat) : Ctx := { Γ with ρ := Γ.ρ.take n }

def AH.trunc (h : AH) (n : Nat) : AH := { h with objs := h.objs.take n }

theorem take_get {α : Type} {l : List α} {n k : Nat} {x : α} (h : (l.take n)[k]? = some x) : l[k]? = some x ∧ k < n := by
  rw [List.getElem?_take] at h
  split at h
  · exact ⟨h, ‹_›⟩
  · cases h

theorem take_mem {α : Type} {l : List α} {n : Nat} {x : α} (h : x ∈ l.take n) : x ∈ l := List.mem_of_mem_take h

theorem unst_trunc {Γ : Ctx} {n b i : Nat} (h : (Γ.trunc n).unst b i) : Γ.unst b i := by
  rcases h with h | h | h
  · exact .inl h
  · exact .inr (.inl (take_mem h))
  · exact .inr (.inr h)

theorem get_trunc {Γ : Ctx} {n k b : Nat} (h : Γ.ρ[k]? = some b) (hk : k < n) : (Γ.trunc n).ρ[k]? = some b := by
  simp only [Ctx.trunc, List.getElem?_take, if_pos hk, h]

theorem VR.trunc {Γ : Ctx} {w : World} {n : Nat} {x : AV} {v : Value} (hx : VR Γ w x v) (hn : Sc n x) : VR (Γ.trunc n) w x v := by
  induction hx with
  | bool b => exact .bool b
  | int k n => exact .int k n
  | float k n => exact .float k n
  | str s => exact .str s
  | nilp => exact .nilp
  | nilm => exact .nilm
  | nilf => exact .nilf
  | nili => exact .nili
  | nils => exact .nils
  | ptr hk => cases hn with | ptr h => exact .ptr (get_trunc hk h) | flat h => cases h
  | sl hk hc => cases hn with | sl h => exact .sl (get_trunc hk h) hc | flat h => cases h
  | map hk => cases hn with | map h => exact .map (get_trunc hk h) | flat h => cases h
  | rptr val hc hu hv ih =>
    cases hn with
    | rptr h => exact .rptr val hc (fun j c hj hU => hu j c hj (unst_trunc hU)) (fun j c hj => ih j c hj (h c (List.mem_iff_getElem?.2 ⟨j, hj⟩)))
    | flat h => cases h
  | slcR h0 => exact .slcR h0
  | slcX => exact .slcX
  | slc val hsk hcap hE hc hu hv ih =>
    cases hn with
    | slc h =>
      exact .slc val hsk hcap hE hc (fun i j e c hi hj hU => hu i j e c hi hj (unst_trunc hU))
        (fun i j e c hi hj => ih i j e c hi hj (h e (List.mem_iff_getElem?.2 ⟨i, hi⟩) c (List.mem_iff_getElem?.2 ⟨j, hj⟩)))
    | flat h => cases h
  | func h1 h2 hf hv ihf ihv =>
    cases hn with
    | func a b => exact .func h1 h2 (fun i c v hc hv => ihf i c v hc hv (a c (List.mem_iff_getElem?.2 ⟨i, hc⟩))) (fun i c v hc hv => ihv i c v hc hv (b c (List.mem_iff_getElem?.2 ⟨i, hc⟩)))
    | flat h => cases h
  | iface hx ih => cases hn with | iface h => exact .iface (ih h) | flat h => cases h
  | agg h1 hv ih =>
    cases hn with
    | agg a => exact .agg h1 (fun i c v hc hv => ih i c v hc hv (a c (List.mem_iff_getElem?.2 ⟨i, hc⟩)))
    | flat h => cases h
  | tuple h1 hv ih =>
    cases hn with
    | tuple a => exact .tuple h1 (fun i c v hc hv => ih i c v hc hv (a c (List.mem_iff_getElem?.2 ⟨i, hc⟩)))
    | flat h => cases h

theorem ObjR.trunc {Γ : Ctx} {w : World} {n : Nat} {o : AObj} {b : Nat} (ho : ObjR Γ w o b) (hn : ScO n o) : ObjR (Γ.trunc n) w o b := by
  cases ho with
  | cells h1 h2 h3 => cases hn with | cells h => exact .cells h1 h2 (fun i x v a c => (h3 i x v a c).trunc (h x (List.mem_iff_getElem?.2 ⟨i, a⟩)))
  | map h1 h2 h3 =>
    cases hn with
    | map h => exact .map h1 h2 (fun i p e a c => ⟨(h3 i p e a c).1.trunc (h p (List.mem_iff_getElem?.2 ⟨i, a⟩)).1, (h3 i p e a c).2.trunc (h p (List.mem_iff_getElem?.2 ⟨i, a⟩)).2⟩)

theorem ScO.mono {n m : Nat} (hnm : n ≤ m) {o : AObj} (h : ScO n o) : ScO m o := by
  cases h with
  | cells h => exact .cells fun c hc => (h c hc).mono hnm
  | map h => exact .map fun p hp => ⟨(h p hp).1.mono hnm, (h p hp).2.mono hnm⟩

theorem St.trunc {Γ : Ctx} {h : AH} {w : World} (hs : St Γ h w) {n : Nat} (hn : n ≤ h.esc) : St (Γ.trunc n) (h.trunc n) w where
  len := by simp [AH.trunc, Ctx.trunc, hs.len]
  nodup := hs.nodup.sublist (List.take_sublist _ _)
  objs := fun k o b ho hk => by
    obtain ⟨h1, h2⟩ := take_get ho
    obtain ⟨h3, _⟩ := take_get hk
    exact (hs.objs k o b h1 h3).trunc ((hs.scope k o h1 (by omega)).mono (by omega))
  gl := hs.gl
  gblk := fun g gi hg hm => hs.gblk g gi hg (take_mem hm)
  gdis := hs.gdis
  gcell := hs.gcell
  o0r := fun b i hb hm => hs.o0r b i hb (take_mem hm)
  o0g := hs.o0g
  o0lt := hs.o0lt
  scope := fun k o hk hlt => hs.scope k o (take_get hk).1 hlt

theorem Evo.trunc {Γ Γ' : Ctx} {w w' : World} (h : Evo Γ w Γ' w') {n : Nat} (hn : Γ.ρ.length ≤ n) : Evo Γ w (Γ'.trunc n) w' where
  size := h.size
  o0 := h.o0
  rho := fun k b hk => get_trunc (h.rho k b hk) (Nat.lt_of_lt_of_le (List.getElem?_eq_some_iff.1 hk).1 hn)
  gs := h.gs
  obj := h.obj
  cell := h.cell
  newU := fun b i hb hu => h.newU b i hb (unst_trunc hu)
  newR := fun b hb hm => h.newR b hb (take_mem hm)
  newG := h.newG
  io := h.io

end Go.Proofs.YtgikapdeekepiaaGreatDoor
