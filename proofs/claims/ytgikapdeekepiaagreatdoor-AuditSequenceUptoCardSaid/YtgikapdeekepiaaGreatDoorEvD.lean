/- Plain operations of the abstract evaluator: new variables, structs, slices of literals, addresses, fields, indexes. -/
import Derived.Test.YtgikapdeekepiaaGreatDoorEvC
set_option linter.unusedSimpArgs false
namespace Go.Proofs.YtgikapdeekepiaaGreatDoor
open Go

def RelL (Γ : Ctx) (w : World) (cs : List AV) (c : Array Value) : Prop :=
  c.size = cs.length ∧ ∀ (i : Nat) x v, cs[i]? = some x → c[i]? = some v → VR Γ w x v

theorem RelL.set {Γ : Ctx} {w : World} {cs : List AV} {c : Array Value} (h : RelL Γ w cs c) {i : Nat} {x : AV} {v : Value} (hx : VR Γ w x v) :
    RelL Γ w (cs.set i x) (c.setIfInBounds i v) := by
  refine ⟨by simp [h.1], fun j y u hy hu => ?_⟩
  by_cases hij : i = j
  · subst hij
    have hlt : i < cs.length := by have := (List.getElem?_eq_some_iff.1 hy).1; simpa using this
    have hlt' : i < c.size := by rw [h.1]; exact hlt
    simp only [List.getElem?_set_self hlt, Option.some.injEq] at hy
    simp [hlt'] at hu
    subst hy; subst hu; exact hx
  · rw [List.getElem?_set_ne hij] at hy
    rw [Array.getElem?_setIfInBounds_ne hij] at hu
    exact h.2 j y u hy hu

theorem RelL.setAll {Γ : Ctx} {w : World} {off : Nat} : ∀ (xs : List AV) (vs : List Value) (k : Nat) (cs : List AV) (c : Array Value),
    RelL Γ w cs c → vs.length = xs.length → (∀ (j : Nat) x v, xs[j]? = some x → vs[j]? = some v → VR Γ w x v) →
    RelL Γ w (setAll cs (off + k) xs) ((vs.zipIdx k).foldl (fun cs (c, j) => cs.setIfInBounds (off + j) c) c)
  | [], [], k, cs, c, h, _, _ => by simpa [Go.Proofs.YtgikapdeekepiaaGreatDoor.setAll] using h
  | [], _ :: _, _, _, _, _, hn, _ => by simp at hn
  | _ :: _, [], _, _, _, _, hn, _ => by simp at hn
  | x :: xs, v :: vs, k, cs, c, h, hn, hv => by
    simp only [Go.Proofs.YtgikapdeekepiaaGreatDoor.setAll, List.zipIdx_cons, List.foldl_cons]
    have := RelL.setAll (off := off) xs vs (k + 1) (cs.set (off + k) x) (c.setIfInBounds (off + k) v) (h.set (hv 0 x v (by simp) (by simp))) (by simpa using hn)
      (fun j y z hy hz => hv (j + 1) y z (by simpa using hy) (by simpa using hz))
    rw [show off + k + 1 = off + (k + 1) from by omega]
    exact this

def afill (place : Nat → Option (Nat × Nat)) (cells : List AV) : List (Nat × AV) → Option (List AV)
  | [] => some cells
  | (i, x) :: rest =>
    match place i with
    | none => none
    | some (off, size) =>
      if x.acells.length = size then
        if off + x.acells.length ≤ cells.length then afill place (setAll cells off x.acells) rest else none
      else none

theorem length_setAll : ∀ (xs cs : List AV) (i : Nat), (setAll cs i xs).length = cs.length
  | [], _, _ => rfl
  | x :: xs, cs, i => by simp [setAll, length_setAll xs]

theorem fill_ok {Γ : Ctx} {w : World} {place : Nat → Option (Nat × Nat)} : ∀ (ps : List (Nat × AV)) (vs : List (Nat × Value)) (cs cs' : List AV) (c : Array Value),
    RelL Γ w cs c → vs.length = ps.length → (∀ (j : Nat) p q, ps[j]? = some p → vs[j]? = some q → p.1 = q.1 ∧ VR Γ w p.2 q.2) → afill place cs ps = some cs' →
    ∃ c', Instr.fill place c vs = some c' ∧ RelL Γ w cs' c'
  | [], [], cs, cs', c, h, _, _, hf => by simp [afill] at hf; subst hf; exact ⟨c, by simp [Instr.fill], h⟩
  | [], _ :: _, _, _, _, _, hn, _, _ => by simp at hn
  | _ :: _, [], _, _, _, _, hn, _, _ => by simp at hn
  | (i, x) :: ps, (i', v) :: vs, cs, cs', c, h, hn, hv, hf => by
    have h0 := hv 0 (i, x) (i', v) (by simp) (by simp)
    obtain ⟨e, hx⟩ := h0
    simp only at e; subst e
    simp only [afill] at hf
    cases hp : place i with
    | none => simp [hp] at hf
    | some os =>
      obtain ⟨off, size⟩ := os
      simp only [hp] at hf
      split at hf
      · rename_i hsz
        split at hf
        · rename_i hle
          obtain ⟨hc1, hc2⟩ := hx.cells
          have hrel := RelL.setAll (off := off) x.acells v.cells.toList 0 cs c h (by simpa using hc1) (fun j y z hy hz => hc2 j y z hy (by simpa using hz))
          have hfold : (v.cells.zipIdx.foldl (fun cs (c, j) => cs.setIfInBounds (off + j) c) c) = ((v.cells.toList.zipIdx 0).foldl (fun cs (c, j) => cs.setIfInBounds (off + j) c) c) := by
            rw [← Array.foldl_toList, Array.toList_zipIdx]
          obtain ⟨c', h1, h2⟩ := fill_ok ps vs _ cs' _ hrel (by simpa using hn) (fun j p q hp hq => hv (j + 1) p q (by simpa using hp) (by simpa using hq)) hf
          refine ⟨c', ?_, h2⟩
          simp only [Instr.fill, hp]
          have hcond : (v.cells.size ≠ size || decide (off + v.cells.size > c.size)) = false := by
            simp only [hc1, hsz, h.1, ne_eq, not_true_eq_false, decide_false, Bool.false_or, decide_eq_false_iff_not]
            omega
          rw [if_neg (by rw [hcond]; simp)]
          rw [hfold]
          exact h1
        · cases hf
      · cases hf

/-! New variables. -/

def aalloc (P : Program) (h : AH) (t : TypeId) : Option (AV × AH) :=
  match (P.info? t).bind (·.zero) with
  | some z => match AV.ofV 3 z with
    | some x => some (.ptr h.objs.length 0, h.push (.cells x.acells))
    | none => none
  | none => none

theorem own_new {Γ : Ctx} {h : AH} {w : World} (hs : St Γ h w) {c : Array Value} {el : TypeId} {cs : List AV} (hr : RelL Γ w cs c) :
    St (Γ.own w.heap.size) (h.push (.cells cs)) (w.alloc (.cells c el)) ∧ Evo Γ w (Γ.own w.heap.size) (w.alloc (.cells c el)) ∧
    VR (Γ.own w.heap.size) (w.alloc (.cells c el)) (.ptr h.objs.length 0) (.pointer (some ⟨w.heap.size, 0, none⟩)) := by
  refine ⟨hs.own (.cells (by unfold World.alloc; exact Array.getElem?_push_size) hr.1 (fun i x v a b => (hr.2 i x v a b).evo (evo_own _))), evo_own _, .ptr ?_⟩
  simp [Ctx.own, hs.len]

theorem aalloc_ok {P : Program} {Γ : Ctx} {h h' : AH} {w : World} (hs : St Γ h w) {t : TypeId} {x : AV} (hl : aalloc P h t = some (x, h')) :
    ∃ Γ' w' v, (Instr.alloc t true (.tuple #[])).run P w = .ok v w' ∧ VR Γ' w' x v ∧ St Γ' h' w' ∧ Evo Γ w Γ' w' := by
  unfold aalloc at hl
  split at hl
  · rename_i z hz
    split at hl
    · rename_i y hy
      simp only [Option.some.injEq, Prod.mk.injEq] at hl
      obtain ⟨rfl, rfl⟩ := hl
      have hv : VR Γ w y z := ofV_ok 3 z y hy
      obtain ⟨h1, h2, h3⟩ := own_new hs (el := t) (c := z.cells) (cs := y.acells) hv.cells
      refine ⟨_, _, _, ?_, h3, h1, h2⟩
      simp only [Option.bind_eq_some_iff] at hz
      obtain ⟨i, hi, hz⟩ := hz
      simp [Instr.alloc, zeroValue, typeInfo, hi, hz, newVar, newRow]
    · cases hl
  · cases hl

theorem abox_ok {P : Program} {Γ : Ctx} {h : AH} {w : World} (hs : St Γ h w) {t : TypeId} {x : AV} {v : Value} (hx : VR Γ w x v) :
    ∃ Γ' w' u, (Instr.box t v).run P w = .ok u w' ∧ VR Γ' w' (.ptr h.objs.length 0) u ∧ St Γ' (h.push (.cells x.acells)) w' ∧ Evo Γ w Γ' w' := by
  obtain ⟨h1, h2, h3⟩ := own_new hs (el := t) (c := v.cells) (cs := x.acells) hx.cells
  exact ⟨_, _, _, by simp [Instr.box, newVar, newRow], h3, h1, h2⟩

/-! build. -/

def aparts (fr : FT) (ps : Array (Nat × Operand)) : Option (List (Nat × AV)) :=
  mapO (fun (p : Nat × Operand) => (aeval fr p.2).map (fun x => (p.1, x))) ps.toList

theorem aparts_ok {Γ : Ctx} {w : World} {fr : FT} {a : Act} (hf : FR Γ w fr a.tmps) {ps : Array (Nat × Operand)} {qs : List (Nat × AV)} (h : aparts fr ps = some qs) :
    (ps.map (fun (i, x) => (i, a.eval x))).toList.length = qs.length ∧
    ∀ (j : Nat) p q, qs[j]? = some p → (ps.map (fun (i, x) => (i, a.eval x))).toList[j]? = some q → p.1 = q.1 ∧ VR Γ w p.2 q.2 := by
  obtain ⟨hl, hg⟩ := mapO_get h
  refine ⟨by simpa using hl, fun j p q hp hq => ?_⟩
  simp only [Array.toList_map, List.getElem?_map, Option.map_eq_some_iff] at hq
  obtain ⟨r, hr, rfl⟩ := hq
  have := hg j r p hr hp
  simp only [Option.map_eq_some_iff] at this
  obtain ⟨x, hx, rfl⟩ := this
  exact ⟨rfl, aeval_ok hf hx⟩

def aplaces (P : Program) (fs : Array Field) : Option (List (Nat × Nat)) :=
  mapO (fun (f : Field) => (szT P f.type).map (fun n => (f.offset, n))) fs.toList

theorem run_mapM {P : Program} {w : World} {α β : Type} {f : α → Sem β} : ∀ {xs : List α} {ys : List β}, xs.length = ys.length →
    (∀ (i : Nat) x y, xs[i]? = some x → ys[i]? = some y → (f x).run P w = .ok y w) → (xs.mapM f).run P w = .ok ys w
  | [], [], _, _ => by simp
  | [], _ :: _, hn, _ => by simp at hn
  | _ :: _, [], hn, _ => by simp at hn
  | x :: xs, y :: ys, hn, h => by
    have h0 := h 0 x y (by simp) (by simp)
    have ih := run_mapM (P := P) (w := w) (f := f) (xs := xs) (ys := ys) (by simpa using hn) (fun i a b ha hb => h (i + 1) a b (by simpa using ha) (by simpa using hb))
    simp only [List.mapM_cons, Sem.run_bind, h0, Result.andThen_ok, ih, Sem.run_pure]

theorem aplaces_ok {P : Program} {w : World} {fs : Array Field} {ps : List (Nat × Nat)} (h : aplaces P fs = some ps) :
    (fs.mapM fun (f : Field) => do pure (f.offset, ← sizeOf f.type)).run P w = .ok ps.toArray w := by
  obtain ⟨hl, hg⟩ := mapO_get h
  rw [Array.mapM_eq_mapM_toList, Sem.run_map, run_mapM (ys := ps) (by simpa using hl)]
  · simp
  · intro i x y hx hy
    have := hg i x y hx hy
    simp only [Option.map_eq_some_iff] at this
    obtain ⟨n, hn, rfl⟩ := this
    simp [run_sizeOf' hn]

def abuild (P : Program) (fr : FT) (t : TypeId) (ps : Array (Nat × Operand)) : Option AV :=
  match (P.info? t).bind (·.zero) with
  | some z => match AV.ofV 3 z, aparts fr ps with
    | some x, some qs => match P.underlying t with
      | some (.struct fs) => match aplaces P fs with
        | some pl => (afill (pl[·]?) x.acells qs).map .agg
        | none => none
      | some (.array _ e) => match szT P e with
        | some n => (afill (fun i => some (i * n, n)) x.acells qs).map .agg
        | none => none
      | _ => none
    | _, _ => none
  | none => none

theorem abuild_ok {P : Program} {Γ : Ctx} {w : World} {fr : FT} {a : Act} (hf : FR Γ w fr a.tmps) {t : TypeId} {ps : Array (Nat × Operand)} {x : AV}
    (h : abuild P fr t ps = some x) : ∃ v, (Instr.build t (ps.map fun (i, x) => (i, a.eval x))).run P w = .ok v w ∧ VR Γ w x v := by
  unfold abuild at h
  split at h
  · rename_i z hz
    split at h
    · rename_i y qs hy hq
      obtain ⟨hq1, hq2⟩ := aparts_ok hf hq
      have hv : VR Γ w y z := ofV_ok 3 z y hy
      simp only [Option.bind_eq_some_iff] at hz
      obtain ⟨i, hi, hz⟩ := hz
      have hzero : (zeroValue t).run P w = .ok z w := by simp [zeroValue, typeInfo, hi, hz]
      split at h
      · rename_i fs hu
        split at h
        · rename_i pl hpl
          simp only [Option.map_eq_some_iff] at h
          obtain ⟨cs, h1, rfl⟩ := h
          obtain ⟨c, h2, h3⟩ := fill_ok qs _ y.acells cs z.cells hv.cells hq1 hq2 h1
          refine ⟨.agg c, ?_, .agg h3.1 h3.2⟩
          simp only [Instr.build, Sem.run_bind, hzero, Result.andThen_ok, run_underlying' hu, aplaces_ok hpl]
          have : (fun (i : Nat) => (pl.toArray)[i]?) = (fun (i : Nat) => pl[i]?) := by funext i; simp
          simp only [this]
          rw [h2]
          rfl
        · cases h
      · rename_i e n hu
        split at h
        · rename_i n hn
          simp only [Option.map_eq_some_iff] at h
          obtain ⟨cs, h1, rfl⟩ := h
          obtain ⟨c, h2, h3⟩ := fill_ok qs _ y.acells cs z.cells hv.cells hq1 hq2 h1
          refine ⟨.agg c, ?_, .agg h3.1 h3.2⟩
          simp only [Instr.build, Sem.run_bind, hzero, Result.andThen_ok, run_underlying' hu, run_sizeOf' hn]
          rw [h2]
          rfl
        · cases h
      · cases h
    · cases h
  · cases h

/-! Slices of literals. -/

def chunk (n : Nat) (cs : List AV) : Nat → List (List AV)
  | 0 => []
  | k + 1 => cs.take n :: chunk n (cs.drop n) k

theorem chunk_len (n : Nat) : ∀ (k : Nat) (cs : List AV), (chunk n cs k).length = k
  | 0, _ => rfl
  | k + 1, cs => by simp [chunk, chunk_len n k]

theorem chunk_get {n : Nat} : ∀ (k : Nat) (cs : List AV) (i : Nat) (e : List AV), cs.length = k * n → (chunk n cs k)[i]? = some e →
    e.length = n ∧ ∀ (j : Nat) c, e[j]? = some c → cs[i * n + j]? = some c
  | 0, _, _, _, _, h => by simp [chunk] at h
  | k + 1, cs, 0, e, hl, h => by
    simp [chunk] at h
    subst h
    have : n ≤ cs.length := by rw [hl, Nat.succ_mul]; omega
    refine ⟨by simp [this], fun j c hj => ?_⟩
    have hj' : j < n := by
      rcases Nat.lt_or_ge j n with h' | h'
      · exact h'
      · rw [List.getElem?_take_eq_none h'] at hj; cases hj
    rw [List.getElem?_take_of_lt hj'] at hj
    simpa using hj
  | k + 1, cs, i + 1, e, hl, h => by
    simp only [chunk, List.getElem?_cons_succ] at h
    have hl' : (cs.drop n).length = k * n := by rw [List.length_drop, hl, Nat.succ_mul]; omega
    obtain ⟨h1, h2⟩ := chunk_get k (cs.drop n) i e hl' h
    refine ⟨h1, fun j c hj => ?_⟩
    have := h2 j c hj
    rw [List.getElem?_drop] at this
    rw [show (i + 1) * n + j = n + (i * n + j) from by rw [Nat.succ_mul]; omega]
    exact this

def abuildSlice (P : Program) (fr : FT) (t : TypeId) (len : Nat) (ps : Array (Nat × Operand)) : Option AV :=
  match P.underlying t with
  | some (.slice e) => match szT P e, (P.info? e).bind (·.zero), aparts fr ps with
    | some n, some z, some qs => match AV.ofV 3 z with
      | some x =>
        if x.acells.length = n then
          if 0 < n then
            if len * n ≤ 16777216 then
              (afill (fun i => some (i * n, n)) ((List.range (len * n)).map fun i => x.acells.getD (i % n) .nilp) qs).map fun cs => .slc .x n (chunk n cs len)
            else none
          else none
        else none
      | none => none
    | _, _, _ => none
  | _ => none

theorem length_afill {place : Nat → Option (Nat × Nat)} : ∀ (ps : List (Nat × AV)) (cs cs' : List AV), afill place cs ps = some cs' → cs'.length = cs.length
  | [], cs, cs', h => by simp [afill] at h; subst h; rfl
  | (i, x) :: ps, cs, cs', h => by
    simp only [afill] at h
    cases hp : place i with
    | none => simp [hp] at h
    | some os =>
      simp only [hp] at h
      split at h
      · split at h
        · rw [length_afill ps _ cs' h, length_setAll]
        · cases h
      · cases h

theorem slc_new {Γ : Ctx} {w : World} {c : Array Value} {el : TypeId} {cs : List AV} {n len : Nat} (hs : ∃ h, St Γ h w) (hr : RelL Γ w cs c) (hl : cs.length = len * n) :
    VR Γ (w.alloc (.cells c el)) (.slc .x n (chunk n cs len)) (.slice (some ⟨w.heap.size, 0, none⟩) len len) := by
  obtain ⟨h, hs⟩ := hs
  have hcell : ∀ i, (w.alloc (.cells c el)).cell? ⟨w.heap.size, i, none⟩ = c[i]? := fun i => by simp
  have hU : ∀ i, ¬ Γ.unst w.heap.size i := by
    intro i hu
    rcases hu with hu | hu | ⟨g, gi, hg, hb, _⟩
    · have := hs.o0lt _ _ hu; omega
    · obtain ⟨k, hk⟩ := List.mem_iff_getElem?.1 hu
      have := rho_lt hs hk; omega
    · have := glk_lt hs hg; omega
  have main : VR Γ (w.alloc (.cells c el)) (.slc .x n (chunk n cs len)) (.slice (some ⟨w.heap.size, 0, none⟩) (chunk n cs len).length len) := by
    have hlen := chunk_len n len cs
    have hin : ∀ (i j : Nat) (e : List AV) (x : AV), (chunk n cs len)[i]? = some e → e[j]? = some x → ∃ v, c[i * n + j]? = some v ∧ VR Γ w x v := by
      intro i j e x he hj
      have h1 := (chunk_get len cs i e hl he).2 j x hj
      have hlt : i * n + j < c.size := by rw [hr.1]; exact (List.getElem?_eq_some_iff.1 h1).1
      exact ⟨c[i * n + j], by simp [hlt], hr.2 _ x _ h1 (by simp [hlt])⟩
    refine .slc (fun i j => (c[i * n + j]?).getD undef) (by simp [SKok, hlen]) (by omega) (fun i e he => (chunk_get len cs i e hl he).1) (fun i j e x he hj => ?_) (fun i j e x he hj => hU _) (fun i j e x he hj => ?_)
    · obtain ⟨v, h1, _⟩ := hin i j e x he hj
      rw [Nat.zero_add, hcell, h1]; rfl
    · obtain ⟨v, h1, h2⟩ := hin i j e x he hj
      simp only [h1, Option.getD_some]
      exact h2.evo (evo_alloc _)
  rw [chunk_len] at main
  exact main

theorem abuildSlice_ok {P : Program} {Γ : Ctx} {h : AH} {w : World} (hs : St Γ h w) {fr : FT} {a : Act} (hf : FR Γ w fr a.tmps) {t : TypeId} {len : Nat} {ps : Array (Nat × Operand)} {x : AV}
    (hb : abuildSlice P fr t len ps = some x) : ∃ w' v, (Instr.buildSlice t len (ps.map fun (i, x) => (i, a.eval x))).run P w = .ok v w' ∧ VR Γ w' x v ∧ St Γ h w' ∧ Evo Γ w Γ w' := by
  unfold abuildSlice at hb
  split at hb
  · rename_i e hu
    split at hb
    · rename_i n z qs hn hz hq
      split at hb
      · rename_i y hy
        split at hb
        · rename_i hyn
          split at hb
          · rename_i hpos
            split at hb
            · rename_i hle
              simp only [Option.map_eq_some_iff] at hb
              obtain ⟨cs, h1, rfl⟩ := hb
              obtain ⟨hq1, hq2⟩ := aparts_ok hf hq
              have hv : VR Γ w y z := ofV_ok 3 z y hy
              simp only [Option.bind_eq_some_iff] at hz
              obtain ⟨i, hi, hz⟩ := hz
              have hzero : (zeroValue e).run P w = .ok z w := by simp [zeroValue, typeInfo, hi, hz]
              obtain ⟨hc1, hc2⟩ := hv.cells
              have hzc : z.cells.size = n := by omega
              have hrel : RelL Γ w ((List.range (len * n)).map fun i => y.acells.getD (i % n) .nilp) ((Array.range (len * n)).map (z.cells[· % z.cells.size]!)) := by
                refine ⟨by simp, fun i c v hc hv' => ?_⟩
                have hi' : i < len * n := by
                  have := (List.getElem?_eq_some_iff.1 hc).1; simpa using this
                simp [hi'] at hc hv'
                have hm : i % n < n := Nat.mod_lt _ hpos
                subst hc; subst hv'
                rw [hzc]
                have e1 : y.acells[i % n]? = some y.acells[i % n] := by simp
                have e2 : z.cells[i % n]? = some z.cells[i % n] := by simp
                rw [e1, Option.getD_some, getElem!_pos z.cells (i % n) (by omega)]
                exact hc2 (i % n) _ _ e1 e2
              obtain ⟨c, h2, h3⟩ := fill_ok qs _ _ cs _ hrel hq1 hq2 h1
              have hcl : cs.length = len * n := by rw [length_afill _ _ _ h1]; simp
              refine ⟨w.alloc (.cells c e), _, ?_, slc_new ⟨h, hs⟩ h3 hcl, hs.alloc _, evo_alloc _⟩
              have hnot : ¬ (len * n > 2 ^ 24) := by omega
              simp only [Instr.buildSlice, Sem.run_bind, run_underlying' hu, Result.andThen_ok, run_sizeOf' hn]
              rw [if_neg hnot]
              by_cases hz0 : len * n = 0
              · have hz0' : (Array.range (len * n)).map (z.cells[· % z.cells.size]!) = #[] := by rw [hz0]; simp
                rw [hz0'] at h2
                simp only [hz0, if_true, pure_bind]
                have : ∀ f : Nat → Value, (Array.range 0).map f = #[] := fun f => by simp
                rw [this, h2]
                simp [newRow]
              · simp only [if_neg hz0, Sem.run_bind, hzero, Result.andThen_ok, Sem.run_pure]
                rw [h2]
                simp [newRow]
            · cases hb
          · cases hb
        · cases hb
      · cases hb
    · cases hb
  · cases hb

end Go.Proofs.YtgikapdeekepiaaGreatDoor
