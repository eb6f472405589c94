/- Plain operations of the abstract evaluator: addresses of parts, parts, slicing, lengths. -/
import Derived.Test.YtgikapdeekepiaaGreatDoorEvD
set_option linter.unusedSimpArgs false
namespace Go.Proofs.YtgikapdeekepiaaGreatDoor
open Go

/-- What is known of the elements of a slice that lies in memory. -/
def CellsAt (Γ : Ctx) (w : World) (E : Nat) (es : List (List AV)) (b off : Nat) : Prop :=
  (∀ (i : Nat) (e : List AV), es[i]? = some e → e.length = E) ∧
  ∀ (i j : Nat) (e : List AV) (c : AV), es[i]? = some e → e[j]? = some c →
    ∃ v, w.cell? ⟨b, off + i * E + j, none⟩ = some v ∧ ¬ Γ.unst b (off + i * E + j) ∧ VR Γ w c v

theorem slc_inv {Γ : Ctx} {w : World} {sk : SK} {E : Nat} {es : List (List AV)} {v : Value} (h : VR Γ w (.slc sk E es) v) :
    ∃ a cap, v = .slice a es.length cap ∧ es.length ≤ cap ∧ (sk = .x → cap = es.length) ∧
      ((es = [] ∧ ∀ g, sk ≠ .g g) ∨ ∃ b off, a = some ⟨b, off, none⟩ ∧ CellsAt Γ w E es b off ∧ SKok Γ es.length b off cap E sk) ∧ (a = none → cap = 0) := by
  cases h with
  | slcR h0 => exact ⟨_, _, rfl, by simp, by simp, .inl ⟨rfl, by simp⟩, h0⟩
  | slcX => exact ⟨_, _, rfl, by simp, by simp, .inl ⟨rfl, by simp⟩, fun _ => rfl⟩
  | slc val hsk hcap hE hc hu hv =>
    exact ⟨_, _, rfl, hcap, fun e => by subst e; exact hsk, .inr ⟨_, _, rfl, ⟨hE, fun i j e c h1 h2 => ⟨_, hc i j e c h1 h2, hu i j e c h1 h2, hv i j e c h1 h2⟩⟩, hsk⟩, fun h => by cases h⟩

/-- A slice value as its elements; nil has none. -/
def sview : AV → Option (SK × Nat × List (List AV))
  | .nils => some (.x, 0, [])
  | .slc sk E es => some (sk, E, es)
  | _ => none

theorem sview_inv {Γ : Ctx} {w : World} {x : AV} {sk : SK} {E : Nat} {es : List (List AV)} {v : Value} (hv : sview x = some (sk, E, es)) (h : VR Γ w x v) :
    ∃ a cap, v = .slice a es.length cap ∧ es.length ≤ cap ∧ (sk = .x → cap = es.length) ∧
      ((es = [] ∧ ∀ g, sk ≠ .g g) ∨ ∃ b off, a = some ⟨b, off, none⟩ ∧ CellsAt Γ w E es b off ∧ SKok Γ es.length b off cap E sk) := by
  cases x <;> simp [sview] at hv
  case nils =>
    obtain ⟨rfl, rfl, rfl⟩ := hv
    cases h
    exact ⟨_, _, rfl, by simp, by simp, .inl ⟨rfl, by simp⟩⟩
  case slc =>
    obtain ⟨rfl, rfl, rfl⟩ := hv
    obtain ⟨a, cap, h1, h2, h3, h4, _⟩ := slc_inv h
    exact ⟨a, cap, h1, h2, h3, h4⟩

theorem slc_mk {Γ : Ctx} {w : World} {sk : SK} {E : Nat} {es : List (List AV)} {b off cap : Nat} (hsk : SKok Γ es.length b off cap E sk) (hcap : es.length ≤ cap)
    (hc : CellsAt Γ w E es b off) : VR Γ w (.slc sk E es) (.slice (some ⟨b, off, none⟩) es.length cap) :=
  .slc (fun i j => (w.cell? ⟨b, off + i * E + j, none⟩).getD undef) hsk hcap hc.1
    (fun i j e c h1 h2 => by obtain ⟨v, h3, _, _⟩ := hc.2 i j e c h1 h2; rw [h3]; rfl)
    (fun i j e c h1 h2 => by obtain ⟨v, _, h4, _⟩ := hc.2 i j e c h1 h2; exact h4)
    (fun i j e c h1 h2 => by obtain ⟨v, h3, _, h5⟩ := hc.2 i j e c h1 h2; rw [h3]; exact h5)

theorem CellsAt.sub {Γ : Ctx} {w : World} {E : Nat} {es : List (List AV)} {b off : Nat} (h : CellsAt Γ w E es b off) (l n : Nat) :
    CellsAt Γ w E ((es.take n).drop l) b (off + l * E) := by
  have key : ∀ (i : Nat) (e : List AV), ((es.take n).drop l)[i]? = some e → es[l + i]? = some e := by
    intro i e hi
    rw [List.getElem?_drop] at hi
    rcases Nat.lt_or_ge (l + i) n with h' | h'
    · rw [List.getElem?_take_of_lt h'] at hi; exact hi
    · rw [List.getElem?_take_eq_none h'] at hi; cases hi
  refine ⟨fun i e hi => h.1 _ e (key i e hi), fun i j e c hi hj => ?_⟩
  have := h.2 (l + i) j e c (key i e hi) hj
  rw [show off + (l + i) * E + j = off + l * E + i * E + j from by rw [Nat.add_mul]; omega] at this
  exact this

/-! Addresses of parts. -/

theorem rptr_drop {Γ : Ctx} {w : World} {cs : List AV} {b off : Nat} (h : VR Γ w (.rptr cs) (.pointer (some ⟨b, off, none⟩))) (o : Nat) :
    VR Γ w (.rptr (cs.drop o)) (.pointer (some ⟨b, off + o, none⟩)) := by
  cases h with
  | rptr val hc hu hv =>
    refine .rptr (fun j => val (o + j)) (fun j c hj => ?_) (fun j c hj => ?_) (fun j c hj => ?_)
    · rw [List.getElem?_drop] at hj; rw [Nat.add_assoc]; exact hc _ c hj
    · rw [List.getElem?_drop] at hj; rw [Nat.add_assoc]; exact hu _ c hj
    · rw [List.getElem?_drop] at hj; exact hv _ c hj

/-- The address 'o' cells on. -/
def AV.on : AV → Nat → Option AV
  | .ptr k off, o => some (.ptr k (off + o))
  | .rptr cs, o => some (.rptr (cs.drop o))
  | _, _ => none

theorem on_ok {Γ : Ctx} {w : World} {x y : AV} {v : Value} (hx : VR Γ w x v) {o : Nat} (h : x.on o = some y) :
    ∃ b off, v = .pointer (some ⟨b, off, none⟩) ∧ VR Γ w y (.pointer (some ⟨b, off + o, none⟩)) := by
  cases hx <;> simp only [AV.on] at h
  case ptr k off b hk => cases h; exact ⟨b, off, rfl, .ptr hk⟩
  case rptr cs b off val hc hu hv => cases h; exact ⟨b, off, rfl, rptr_drop (.rptr val hc hu hv) o⟩
  all_goals cases h

def afieldAddr (P : Program) (s : TypeId) (x : AV) (f : Nat) : Option AV :=
  match P.underlying s with
  | some (.struct fs) => match fs[f]? with
    | some fd => match szT P fd.type with
      | some 0 => none
      | some _ => x.on fd.offset
      | none => none
    | none => none
  | _ => none

theorem afieldAddr_ok {P : Program} {Γ : Ctx} {w : World} {s : TypeId} {x y : AV} {v : Value} {f : Nat} (hx : VR Γ w x v) (h : afieldAddr P s x f = some y) :
    ∃ u, (Instr.fieldAt s v f).run P w = .ok u w ∧ VR Γ w y u := by
  unfold afieldAddr at h
  split at h
  · rename_i fs hu
    split at h
    · rename_i fd hfd
      split at h
      · cases h
      · rename_i n hne hsz
        obtain ⟨b, off, rfl, hy⟩ := on_ok hx h
        refine ⟨_, ?_, hy⟩
        have hn0 : ¬ n = 0 := fun e => hne (by rw [e])
        simp only [Instr.fieldAt, Instr.sureAddr, fieldPlace, Sem.run_bind, run_underlying' hu, Result.andThen_ok, hfd, Sem.run_pure, run_sizeOf' hsz, if_neg hn0, Addr.add_lit]
      · cases h
    · cases h
  · cases h

def aindexAddr (P : Program) (t : TypeId) (x i : AV) : Option AV :=
  match i with
  | .int _ n =>
    if 0 ≤ n then
      match P.underlying t with
      | some (.array len e) => match szT P e with
        | some sz => if n < len then x.on (n.toNat * sz) else none
        | none => none
      | some (.slice e) => match szT P e with
        | some sz => match x with
          | .slc _ E es => if sz = E then (es[n.toNat]?).map .rptr else none
          | .sl k off m => if n < m then some (.ptr k (off + n.toNat * sz)) else none
          | _ => none
        | none => none
      | _ => none
    else none
  | _ => none

theorem aindexAddr_ok {P : Program} {Γ : Ctx} {w : World} {t : TypeId} {x i y : AV} {v u : Value} (hx : VR Γ w x v) (hi : VR Γ w i u) (h : aindexAddr P t x i = some y) :
    ∃ z, (Instr.indexAt t v u).run P w = .ok z w ∧ VR Γ w y z := by
  cases hi <;> simp only [aindexAddr] at h
  case int k n =>
    split at h
    · rename_i h0
      split at h
      · rename_i len e hu
        split at h
        · rename_i sz hsz
          split at h
          · rename_i hlt
            obtain ⟨b, off, rfl, hy⟩ := on_ok hx h
            refine ⟨_, ?_, hy⟩
            simp only [Instr.indexAt, Instr.sureAddr, asIntOf, Sem.run_bind, Sem.run_pure, run_underlying' hu, Result.andThen_ok, run_sizeOf' hsz, h0, hlt, and_self, if_true, Addr.add_lit]
          · cases h
        · cases h
      · rename_i e hu
        split at h
        · rename_i sz hsz
          split at h
          · rename_i sk E es
            split at h
            · rename_i hE
              subst hE
              simp only [Option.map_eq_some_iff] at h
              obtain ⟨el, he, rfl⟩ := h
              obtain ⟨a, cap, rfl, hcap, _, hcase, _⟩ := slc_inv hx
              have hlt : n.toNat < es.length := (List.getElem?_eq_some_iff.1 he).1
              rcases hcase with ⟨rfl, _⟩ | ⟨b, off, rfl, hc, _⟩
              · simp at hlt
              · refine ⟨.pointer (some ⟨b, off + n.toNat * sz, none⟩), ?_, ?_⟩
                · have hlt' : n < (es.length : Int) := by omega
                  simp only [Instr.indexAt, asIntOf, Sem.run_bind, Sem.run_pure, run_underlying' hu, Result.andThen_ok, run_sizeOf' hsz, h0, hlt', and_self, if_true, Addr.add_lit]
                · refine .rptr (fun j => (w.cell? ⟨b, off + n.toNat * sz + j, none⟩).getD undef) (fun j c hj => ?_) (fun j c hj => ?_) (fun j c hj => ?_)
                  · obtain ⟨v, h3, _, _⟩ := hc.2 _ j el c he hj; rw [h3]; rfl
                  · obtain ⟨v, _, h4, _⟩ := hc.2 _ j el c he hj; exact h4
                  · obtain ⟨v, h3, _, h5⟩ := hc.2 _ j el c he hj; rw [h3]; exact h5
            · cases h
          · rename_i k' off m
            split at h
            · rename_i hlt
              cases h
              cases hx with
              | sl hk hc =>
                refine ⟨_, ?_, .ptr hk⟩
                simp only [Instr.indexAt, asIntOf, Sem.run_bind, Sem.run_pure, run_underlying' hu, Result.andThen_ok, run_sizeOf' hsz, h0, hlt, and_self, if_true, Addr.add_lit]
            · cases h
          · cases h
        · cases h
      · cases h
    · cases h
  all_goals cases h

/-! Parts of values. -/

theorem part_ok {P : Program} {Γ : Ctx} {w : World} {t : TypeId} {cs : List AV} {c : Array Value} (hr : RelL Γ w cs c) {off : Nat} {x : AV}
    (h : apart' P t (cs.drop off) = some x) : ∃ v, (part t c off).run P w = .ok v w ∧ VR Γ w x v := by
  unfold apart' at h
  split at h
  · rename_i ht
    split at h
    · rename_i n hn
      split at h
      · rename_i hle
        cases h
        simp only [List.length_drop] at hle
        refine ⟨.agg (c.extract off (off + n)), ?_, .agg ?_ fun i y v hy hv => ?_⟩
        · simp only [part, Sem.run_bind, run_isAgg' ht, Result.andThen_ok, if_true, run_sizeOf' hn, Sem.run_pure]
        · have := hr.1; simp; omega
        · have hi : i < n := by
            rcases Nat.lt_or_ge i n with h' | h'
            · exact h'
            · rw [List.getElem?_take_eq_none h'] at hy; cases hy
          rw [List.getElem?_take_of_lt hi, List.getElem?_drop] at hy
          refine hr.2 (off + i) y v hy ?_
          rw [Array.getElem?_extract] at hv
          split at hv
          · exact hv
          · cases hv
      · cases h
    · cases h
  · rename_i ht
    rw [List.getElem?_drop, Nat.add_zero] at h
    have hlt : off < c.size := by rw [hr.1]; exact (List.getElem?_eq_some_iff.1 h).1
    refine ⟨c[off], ?_, hr.2 off x _ h (by simp [hlt])⟩
    simp only [part, Sem.run_bind, run_isAgg' ht, Result.andThen_ok, Bool.false_eq_true, if_false]
    simp [hlt]
  · cases h

def afield (P : Program) (t : TypeId) (x : AV) (f : Nat) : Option AV :=
  match P.underlying t, x with
  | some (.struct fs), .agg cs => match fs[f]? with
    | some fd => apart' P fd.type (cs.drop fd.offset)
    | none => none
  | _, _ => none

theorem afield_ok {P : Program} {Γ : Ctx} {w : World} {t : TypeId} {x y : AV} {v : Value} {f : Nat} (hx : VR Γ w x v) (h : afield P t x f = some y) :
    ∃ u, (Instr.field t v f).run P w = .ok u w ∧ VR Γ w y u := by
  unfold afield at h
  split at h
  · rename_i fs cs hu
    split at h
    · rename_i fd hfd
      cases hx with
      | agg h1 hv =>
        obtain ⟨u, h2, h3⟩ := part_ok (P := P) ⟨h1, hv⟩ h
        refine ⟨u, ?_, h3⟩
        simp only [Instr.field, Sem.run_bind, run_underlying' hu, Result.andThen_ok, hfd, asAgg, Sem.run_pure]
        exact h2
    · cases h
  · cases h

def aindex (P : Program) (t : TypeId) (x i : AV) : Option AV :=
  match i with
  | .int _ n =>
    if 0 ≤ n then
      match P.underlying t, x with
      | some (.array len e), .agg cs => match szT P e with
        | some sz => if n < len then apart' P e (cs.drop (n.toNat * sz)) else none
        | none => none
      | some .string, .str s => (s[n.toNat]?).map fun b => .int .u8 b.toNat
      | _, _ => none
    else none
  | _ => none

theorem aindex_ok {P : Program} {Γ : Ctx} {w : World} {t : TypeId} {x i y : AV} {v u : Value} (hx : VR Γ w x v) (hi : VR Γ w i u) (h : aindex P t x i = some y) :
    ∃ z, (Instr.index t v u).run P w = .ok z w ∧ VR Γ w y z := by
  cases hi <;> simp only [aindex] at h
  case int k n =>
    split at h
    · rename_i h0
      split at h
      · rename_i len e cs hu
        split at h
        · rename_i sz hsz
          split at h
          · rename_i hlt
            cases hx with
            | agg h1 hv =>
              obtain ⟨z, h2, h3⟩ := part_ok (P := P) ⟨h1, hv⟩ h
              refine ⟨z, ?_, h3⟩
              simp only [Instr.index, asIntOf, Sem.run_bind, Sem.run_pure, run_underlying' hu, Result.andThen_ok, run_sizeOf' hsz, h0, hlt, and_self, if_true]
              exact h2
          · cases h
        · cases h
      · rename_i s hu
        simp only [Option.map_eq_some_iff] at h
        obtain ⟨b, hb, rfl⟩ := h
        cases hx with
        | str =>
          refine ⟨_, ?_, .int _ _⟩
          simp only [Instr.index, asIntOf, Sem.run_bind, Sem.run_pure, run_underlying' hu, Result.andThen_ok, if_pos h0, hb]
      · cases h
    · cases h
  all_goals cases h

/-! Slicing. -/

/-- A bound. -/
def abound (fr : FT) (o : Option Operand) (d : Nat) : Option Nat :=
  match o with
  | none => some d
  | some o => match aeval fr o with
    | some (.int _ n) => if 0 ≤ n then some n.toNat else none
    | _ => none

theorem sliceBound_ok {P : Program} {w : World} {k : IntKind} {n : Int} {y : Nat} (code : BoundsCode) (h0 : 0 ≤ n) (h : n.toNat ≤ y) :
    (Instr.sliceBound (.int k n) y code).run P w = .ok n.toNat w := by
  have : n ≤ (y : Int) := by omega
  simp only [Instr.sliceBound, asIntOf, Sem.run_bind, Sem.run_pure, Result.andThen_ok, h0, this, and_self, if_true]

theorem abound_some {Γ : Ctx} {w : World} {fr : FT} {a : Act} (hf : FR Γ w fr a.tmps) {o : Operand} {d n : Nat} (h : abound fr (some o) d = some n) :
    ∃ k m, a.eval o = .int k m ∧ 0 ≤ m ∧ m.toNat = n := by
  simp only [abound] at h
  split at h
  · rename_i k m hm
    split at h
    · cases h
      have := aeval_ok hf hm
      generalize a.eval o = v at this
      cases this
      exact ⟨_, _, rfl, by assumption, rfl⟩
    · cases h
  · cases h

/-- The bounds of a slice expression without a max. -/
theorem sliceBounds_ok {P : Program} {Γ : Ctx} {w : World} {fr : FT} {a : Act} (hf : FR Γ w fr a.tmps) {lo hi : Option Operand} {isS : Bool} {len cap l h : Nat}
    (hl : abound fr lo 0 = some l) (hh : abound fr hi len = some h) (h1 : h ≤ cap) (h2 : l ≤ h) :
    (Instr.sliceBounds isS len cap (lo.map a.eval) (hi.map a.eval) none).run P w = .ok (l, h, cap) w := by
  unfold Instr.sliceBounds
  cases hi with
  | none =>
    simp only [abound, Option.some.injEq] at hh
    subst hh
    cases lo with
    | none =>
      simp only [abound, Option.some.injEq] at hl
      subst hl
      simp
    | some o =>
      obtain ⟨k, m, e, h0, e2⟩ := abound_some hf hl
      subst e2
      simp [e, sliceBound_ok _ h0 h2]
  | some p =>
    obtain ⟨k', m', e', h0', e2'⟩ := abound_some hf hh
    subst e2'
    cases lo with
    | none =>
      simp only [abound, Option.some.injEq] at hl
      subst hl
      simp [e', sliceBound_ok _ h0' h1]
    | some o =>
      obtain ⟨k, m, e, h0, e2⟩ := abound_some hf hl
      subst e2
      simp [e, e', sliceBound_ok _ h0' h1, sliceBound_ok _ h0 h2]

/-- The bounds of a slice expression with a max that is its high. -/
theorem sliceBounds3_ok {P : Program} {Γ : Ctx} {w : World} {fr : FT} {a : Act} (hf : FR Γ w fr a.tmps) {lo : Option Operand} {hi mx : Operand} {isS : Bool} {len cap l h : Nat}
    (hl : abound fr lo 0 = some l) (hh : abound fr (some hi) 0 = some h) (hm : abound fr (some mx) 0 = some h) (h1 : h ≤ cap) (h2 : l ≤ h) :
    (Instr.sliceBounds isS len cap (lo.map a.eval) ((some hi).map a.eval) ((some mx).map a.eval)).run P w = .ok (l, h, h) w := by
  unfold Instr.sliceBounds
  obtain ⟨k', m', e', h0', e2'⟩ := abound_some hf hh
  obtain ⟨k3, m3, e3, h03, e23⟩ := abound_some hf hm
  have s3 : (Instr.sliceBound (.int k3 m3) cap (if isS = true then .slice3Acap else .slice3Alen)).run P w = .ok h w := by rw [sliceBound_ok _ h03 (by omega), e23]
  have s2 : (Instr.sliceBound (.int k' m') h .slice3B).run P w = .ok h w := by rw [sliceBound_ok _ h0' (by omega), e2']
  cases lo with
  | none =>
    simp only [abound, Option.some.injEq] at hl
    subst hl
    simp [e', e3, s3, s2]
  | some o =>
    obtain ⟨k, m, e, h0, e2⟩ := abound_some hf hl
    subst e2
    simp [e, e', e3, s3, s2, sliceBound_ok _ h0 h2]

def aslice (P : Program) (fr : FT) (t : TypeId) (x : AV) (lo hi mx : Option Operand) : Option AV :=
  match P.underlying t, x with
  | some .string, .str s =>
    match mx, abound fr lo 0, abound fr hi s.size with
    | none, some l, some h => if h ≤ s.size then if l ≤ h then some (.str (s.extract l h)) else none else none
    | _, _, _ => none
  | some (.slice e), .slc _ E es =>
    if szT P e = some E then
      match mx with
      | none => match abound fr lo 0, abound fr hi es.length with
        | some l, some h => if h ≤ es.length then if l ≤ h then some (.slc .r E ((es.take h).drop l)) else none else none
        | _, _ => none
      | some m => match abound fr lo 0, hi with
        | some l, some hi' => match abound fr (some hi') 0 with
          | some h => if abound fr (some m) 0 = some h then if h ≤ es.length then if l ≤ h then some (.slc .x E ((es.take h).drop l)) else none else none else none
          | none => none
        | _, _ => none
    else none
  | some (.slice e), .nils =>
    if (szT P e).isSome && (mx.isNone || hi.isSome) then
      if abound fr lo 0 = some 0 then if abound fr hi 0 = some 0 then if abound fr mx 0 = some 0 then some .nils else none else none else none
    else none
  | some (.slice e), .sl k off n =>
    match szT P e, mx, abound fr lo 0, abound fr hi n with
    | some sz, none, some l, some h => if h ≤ n then if l ≤ h then some (if h = l then .slc .r sz [] else .sl k (off + l * sz) (h - l)) else none else none
    | _, _, _, _ => none
  | _, _ => none

theorem sub_len {es : List (List AV)} {l h : Nat} (h1 : h ≤ es.length) : ((es.take h).drop l).length = h - l := by simp; omega

theorem slice_sub {Γ : Ctx} {w : World} {E : Nat} {es : List (List AV)} {a : Option Addr} {l h m : Nat} (h1 : h ≤ es.length) (h2 : l ≤ h) (h3 : h ≤ m) {sk : SK} (hn : a = none → m ≤ l)
    (hsk : sk = .r ∨ (sk = .x ∧ m = h))
    (hcase : es = [] ∨ ∃ b off, a = some ⟨b, off, none⟩ ∧ CellsAt Γ w E es b off) :
    VR Γ w (.slc sk E ((es.take h).drop l)) (.slice (if m = l then a else a.map (·.add (l * E))) (h - l) (m - l)) := by
  by_cases he : h = l
  · subst he
    have : (es.take h).drop h = [] := by simp
    rw [this, Nat.sub_self]
    rcases hsk with rfl | ⟨rfl, rfl⟩
    · refine .slcR fun hz => ?_
      have : a = none := by
        split at hz
        · exact hz
        · cases a with
          | none => rfl
          | some x => cases hz
      have := hn this
      omega
    · rw [Nat.sub_self]; exact .slcX
  · have hlt : l < h := by omega
    have hm : ¬ m = l := by omega
    rw [if_neg hm]
    rcases hcase with rfl | ⟨b, off, rfl, hc⟩
    · simp at h1; omega
    · have hsub := hc.sub l h
      have hlen := sub_len (l := l) h1
      rw [← hlen]
      simp only [Option.map_some, Addr.add_lit]
      refine slc_mk ?_ (by omega) hsub
      rcases hsk with rfl | ⟨rfl, rfl⟩
      · trivial
      · simp only [SKok]; omega

theorem aslice_ok {P : Program} {Γ : Ctx} {w : World} {fr : FT} {a : Act} (hf : FR Γ w fr a.tmps) {t : TypeId} {x y : AV} {v : Value} {lo hi mx : Option Operand}
    (hx : VR Γ w x v) (h : aslice P fr t x lo hi mx = some y) :
    ∃ u, (Instr.sliceAt t v (lo.map a.eval) (hi.map a.eval) (mx.map a.eval)).run P w = .ok u w ∧ VR Γ w y u := by
  unfold aslice at h
  split at h
  · rename_i s hu
    split at h
    · rename_i l hh hl hhi
      split at h
      · rename_i h1
        split at h
        · rename_i h2
          cases h
          cases hx with
          | str =>
            refine ⟨_, ?_, .str _⟩
            simp only [Instr.sliceAt, Sem.run_bind, run_underlying' hu, Result.andThen_ok, Instr.slice, Option.map_none, Option.isSome_none, Bool.false_eq_true, if_false, Sem.run_pure,
              sliceBounds_ok hf hl hhi h1 h2]
        · cases h
      · cases h
    · cases h
  · rename_i e sk E es hu
    split at h
    · rename_i hsz
      obtain ⟨ad, cap, rfl, hcap, hxx, hcase, hcn⟩ := slc_inv hx
      have hcase' : es = [] ∨ ∃ b off, ad = some ⟨b, off, none⟩ ∧ CellsAt Γ w E es b off := by
        rcases hcase with ⟨h1, _⟩ | ⟨b, off, h1, h2, _⟩
        · exact .inl h1
        · exact .inr ⟨b, off, h1, h2⟩
      split at h
      · split at h
        · rename_i l hh hl hhi
          split at h
          · rename_i h1
            split at h
            · rename_i h2
              cases h
              refine ⟨_, ?_, slice_sub (m := cap) (sk := .r) h1 h2 (by omega) (fun e => by rw [hcn e]; exact Nat.zero_le _) (.inl rfl) hcase'⟩
              simp only [Instr.sliceAt, Sem.run_bind, run_underlying' hu, Result.andThen_ok, Instr.slice, Option.map_none,
                sliceBounds_ok hf hl hhi (Nat.le_trans h1 hcap) h2, run_sizeOf' hsz, Sem.run_pure]
            · cases h
          · cases h
        · cases h
      · rename_i m
        split at h
        · rename_i l hi' hl
          split at h
          · rename_i hh hhi
            split at h
            · rename_i hm
              split at h
              · rename_i h1
                split at h
                · rename_i h2
                  cases h
                  refine ⟨_, ?_, slice_sub (m := hh) (sk := .x) h1 h2 (Nat.le_refl _) (fun e => by have := hcn e; omega) (.inr ⟨rfl, rfl⟩) hcase'⟩
                  simp only [Instr.sliceAt, Sem.run_bind, run_underlying' hu, Result.andThen_ok, Instr.slice,
                    sliceBounds3_ok hf hl hhi hm (Nat.le_trans h1 hcap) h2, run_sizeOf' hsz, Sem.run_pure]
                · cases h
              · cases h
            · cases h
          · cases h
        · cases h
    · cases h
  · rename_i e hu
    cases hx
    split at h
    · rename_i hc
      simp only [Bool.and_eq_true, Bool.or_eq_true] at hc
      obtain ⟨hsz, hmh⟩ := hc
      obtain ⟨n, hsz⟩ := Option.isSome_iff_exists.1 hsz
      split at h
      · rename_i hl
        split at h
        · rename_i hhi
          split at h
          · rename_i hm
            cases h
            refine ⟨_, ?_, .nils⟩
            cases mx with
            | none =>
              simp only [Instr.sliceAt, Sem.run_bind, run_underlying' hu, Result.andThen_ok, Instr.slice, Option.map_none, sliceBounds_ok hf hl hhi (Nat.le_refl 0) (Nat.le_refl 0), run_sizeOf' hsz, Sem.run_pure]
              rfl
            | some m =>
              cases hi with
              | none => simp at hmh
              | some hi =>
                simp only [Instr.sliceAt, Sem.run_bind, run_underlying' hu, Result.andThen_ok, Instr.slice, sliceBounds3_ok hf hl hhi hm (Nat.le_refl 0) (Nat.le_refl 0), run_sizeOf' hsz, Sem.run_pure]
                rfl
          · cases h
        · cases h
      · cases h
    · cases h
  · rename_i e k off n hu
    split at h
    · rename_i sz l hh hsz hl hhi
      split at h
      · rename_i h1
        split at h
        · rename_i h2
          cases h
          cases hx with
          | sl hk hc =>
            rename_i b cap
            have hrun := sliceBounds_ok (P := P) (w := w) (isS := true) hf hl hhi (Nat.le_trans h1 hc) h2
            by_cases he : hh = l
            · rw [if_pos he]
              refine ⟨.slice (if cap = l then some ⟨b, off, none⟩ else some ⟨b, off + l * sz, none⟩) (hh - l) (cap - l), ?_, ?_⟩
              · simp only [Instr.sliceAt, Sem.run_bind, run_underlying' hu, Result.andThen_ok, Instr.slice, Option.map_none, hrun, run_sizeOf' hsz, Sem.run_pure, Option.map_some, Addr.add_lit]
              · rw [he, Nat.sub_self]
                by_cases hcl : cap = l
                · rw [if_pos hcl]; exact .slcR (fun h => by cases h)
                · rw [if_neg hcl]; exact .slcR (fun h => by cases h)
            · have hm : ¬ cap = l := by omega
              rw [if_neg he]
              refine ⟨.slice (some ⟨b, off + l * sz, none⟩) (hh - l) (cap - l), ?_, .sl hk (by omega)⟩
              simp only [Instr.sliceAt, Sem.run_bind, run_underlying' hu, Result.andThen_ok, Instr.slice, Option.map_none, hrun, run_sizeOf' hsz, Sem.run_pure, if_neg hm, Option.map_some, Addr.add_lit]
        · cases h
      · cases h
    · cases h
  · cases h

end Go.Proofs.YtgikapdeekepiaaGreatDoor
