/- How the state of the abstract evaluator follows stores, growing slices and new identities. -/
import Derived.Test.YtgikapdeekepiaaGreatDoorEvA
import Derived.Laws.Append
import Derived.Deep.AppendSrc
namespace Go.Proofs.YtgikapdeekepiaaGreatDoor
open Go

/-- One own object's content is replaced. -/
theorem own_set {Γ : Ctx} {h : AH} {w w' : World} (hs : St Γ h w) {k b : Nat} (hk : Γ.ρ[k]? = some b) {o : AObj}
    (hsize : w'.heap.size = w.heap.size) (hoth : ∀ b', b' ≠ b → w'.heap[b']? = w.heap[b']?)
    (ho : Evo Γ w Γ w' → ObjR Γ w' o b) (hsc : k < h.esc → ScO (k + 1) o) (hio : w'.os = w.os ∧ w'.output = w.output := by exact ⟨rfl, rfl⟩) : St Γ { h with objs := h.objs.set k o } w' ∧ Evo Γ w Γ w' := by
  have hmem : b ∈ Γ.ρ := List.mem_iff_getElem?.2 ⟨k, hk⟩
  have he : Evo Γ w Γ w' :=
    { size := by omega, o0 := rfl, rho := fun _ _ h => h, gs := fun _ gi h => ⟨gi, h, Nat.le_refl _, fun _ => rfl⟩,
      obj := fun b' _ hr _ => hoth b' (fun e => hr (e ▸ hmem)),
      cell := fun b' i v hc hu => by
        have hne : b' ≠ b := fun e => hu (.inr (.inl (e ▸ hmem)))
        unfold World.cell? at *
        simp only at *
        rw [hoth b' hne]; exact hc
      newU := fun _ _ _ h => h, newR := fun _ _ h => h, newG := fun g gi h _ => ⟨g, gi, h, rfl⟩, io := hio }
  refine ⟨?_, he⟩
  refine { len := by simp [hs.len], nodup := hs.nodup, objs := ?_, gl := hs.gl, gblk := hs.gblk, gdis := hs.gdis, gcell := ?_, o0r := hs.o0r, o0g := hs.o0g, o0lt := fun b i h => by have := hs.o0lt b i h; omega, scope := ?_ }
  · intro k' o' b' hk' hb'
    by_cases hkk : k = k'
    · subst hkk
      have hbb : b' = b := by rw [hk] at hb'; exact (Option.some.inj hb').symm
      subst hbb
      have hlt : k < h.objs.length := by
        rw [hs.len]; exact (List.getElem?_eq_some_iff.1 hk).1
      simp only [List.getElem?_set_self hlt, Option.some.injEq] at hk'
      subst hk'
      exact ho he
    · simp only [List.getElem?_set_ne hkk] at hk'
      refine (hs.objs k' o' b' hk' hb').evo he (hoth b' (fun e => hkk ?_))
      subst e
      have h1 := List.getElem?_eq_some_iff.1 hk
      have h2 := List.getElem?_eq_some_iff.1 hb'
      exact (List.getElem_inj hs.nodup).1 (h1.2.trans h2.2.symm)
  · intro g gi hg
    have : gi.blk ≠ b := fun e => hs.gblk g gi hg (e ▸ hmem)
    rw [hoth _ this]
    exact hs.gcell g gi hg
  · intro k' o' hk' hlt
    rcases Nat.lt_trichotomy k k' with hkk | hkk | hkk
    · simp only [List.getElem?_set_ne (Nat.ne_of_lt hkk)] at hk'
      exact hs.scope k' o' hk' hlt
    · subst hkk
      have hl : k < h.objs.length := by
        rw [hs.len]; exact (List.getElem?_eq_some_iff.1 hk).1
      simp only [List.getElem?_set_self hl, Option.some.injEq] at hk'
      subst hk'
      exact hsc hlt
    · simp only [List.getElem?_set_ne (Nat.ne_of_gt hkk)] at hk'
      exact hs.scope k' o' hk' hlt

theorem setCell_other {w : World} {a : Addr} {v : Value} {b' : Nat} (h : b' ≠ a.block) : (w.setCell a v).heap[b']? = w.heap[b']? := by
  simp only [World.setCell, Array.getElem?_modify]
  rw [if_neg (fun e => h e.symm)]

theorem setCell_self {w : World} {b i : Nat} {v : Value} {c : Array Value} {el : TypeId} {fz : Nat × Nat} (hb : w.heap[b]? = some (.cells c el fz)) :
    (w.setCell ⟨b, i, none⟩ v).heap[b]? = some (.cells (c.setIfInBounds i v) el fz) := by
  simp [World.setCell, Array.getElem?_modify, hb]

/-- One cell of an own object is written. -/
theorem own_cell {Γ : Ctx} {h : AH} {w : World} (hs : St Γ h w) {k b : Nat} (hk : Γ.ρ[k]? = some b) {cs : List AV}
    (ho : h.objs[k]? = some (.cells cs)) {i : Nat} {x : AV} {v : Value} (hx : VR Γ w x v) (hsc : k < h.esc → Sc (k + 1) x) :
    St Γ { h with objs := h.objs.set k (.cells (cs.set i x)) } (w.setCell ⟨b, i, none⟩ v) ∧ Evo Γ w Γ (w.setCell ⟨b, i, none⟩ v) := by
  have hob := hs.objs k _ b ho hk
  cases hob with
  | cells hb hsz hv =>
    refine own_set hs hk (by simp) (fun b' hne => setCell_other hne) ?_ ?_
    rotate_left
    · intro hlt
      cases hs.scope k _ ho hlt with
      | cells hcs =>
        refine .cells fun c hc => ?_
        rcases List.mem_or_eq_of_mem_set hc with h1 | h1
        · exact hcs c h1
        · rw [h1]; exact hsc hlt
    intro he
    refine .cells (setCell_self hb) (by simp [hsz]) (fun j y u hy hu => ?_)
    by_cases hij : i = j
    · subst hij
      have hlt : i < cs.length := by
        have := (List.getElem?_eq_some_iff.1 hy).1
        simpa using this
      simp only [List.getElem?_set_self hlt, Option.some.injEq] at hy
      have hlt' : i < Array.size ‹Array Value› := by rw [hsz]; exact hlt
      simp [hlt'] at hu
      subst hy; subst hu
      exact hx.evo he
    · simp only [List.getElem?_set_ne hij] at hy
      rw [Array.getElem?_setIfInBounds_ne hij] at hu
      exact (hv j y u hy hu).evo he

/-- A cell of an own object can be read and written. -/
theorem own_read {Γ : Ctx} {h : AH} {w : World} (hs : St Γ h w) {k b : Nat} (hk : Γ.ρ[k]? = some b) {cs : List AV}
    (ho : h.objs[k]? = some (.cells cs)) {i : Nat} {x : AV} (hi : cs[i]? = some x) :
    ∃ v, w.cell? ⟨b, i, none⟩ = some v ∧ VR Γ w x v ∧ w.frozen? ⟨b, i, none⟩ = false := by
  have hob := hs.objs k _ b ho hk
  cases hob with
  | cells hb hsz hv =>
    have hlt : i < Array.size ‹Array Value› := by rw [hsz]; exact (List.getElem?_eq_some_iff.1 hi).1
    refine ⟨_, by simp [World.cell?, hb, hlt]; rfl, hv i x _ hi (by simp [hlt]), by simp [World.frozen?, hb]⟩

/-! Identities. -/

/-- A fresh block with a new identity. -/
theorem new_id {Γ : Ctx} {h : AH} {w : World} (hs : St Γ h w) {c : Array Value} {el : TypeId} {cap E len : Nat}
    (hc : cap * E ≤ c.size) (hl : len ≤ cap) :
    St { Γ with G := Γ.G ++ [⟨w.heap.size, cap, E, len⟩] } { h with gl := h.gl ++ [len] } (w.alloc (.cells c el)) ∧
    Evo Γ w { Γ with G := Γ.G ++ [⟨w.heap.size, cap, E, len⟩] } (w.alloc (.cells c el)) := by
  have hU : ∀ b i, ({ Γ with G := Γ.G ++ [⟨w.heap.size, cap, E, len⟩] } : Ctx).unst b i → Γ.unst b i ∨ b = w.heap.size := by
    intro b i hu
    rcases hu with hu | hu | ⟨g, gi, hg, hb, h1, h2⟩
    · exact .inl (.inl hu)
    · exact .inl (.inr (.inl hu))
    · rcases getElem?_snoc hg with h' | ⟨_, h'⟩
      · exact .inl (.inr (.inr ⟨g, gi, h', hb, h1, h2⟩))
      · subst h'; exact .inr hb.symm
  have he : Evo Γ w { Γ with G := Γ.G ++ [⟨w.heap.size, cap, E, len⟩] } (w.alloc (.cells c el)) :=
    { size := by simp, o0 := rfl, rho := fun _ _ h => h,
      gs := fun g gi hg => ⟨gi, by
        have hlt := (List.getElem?_eq_some_iff.1 hg).1
        simp only [List.getElem?_append_left hlt, hg], Nat.le_refl _, fun _ => rfl⟩,
      obj := fun b hb _ _ => alloc_old hb, cell := fun _ _ _ h _ => alloc_cell h,
      newU := fun b i hb hu => (hU b i hu).resolve_right (Nat.ne_of_lt hb), newR := fun _ _ h => h,
      newG := fun g gi hg hb => by
        rcases getElem?_snoc hg with h' | ⟨_, h'⟩
        · exact ⟨g, gi, h', rfl⟩
        · subst h'; simp at hb }
  refine ⟨{ len := hs.len, nodup := hs.nodup, objs := fun k o b ho hk => (hs.objs k o b ho hk).evo he (alloc_old (rho_lt hs hk)), gl := by simp [hs.gl], gblk := ?_, gdis := ?_, gcell := ?_, o0r := hs.o0r, o0g := ?_, o0lt := fun b i h => by have := hs.o0lt b i h; simp; omega, scope := hs.scope }, he⟩
  · intro g gi hg hm
    rcases getElem?_snoc hg with h' | ⟨_, h'⟩
    · exact hs.gblk g gi h' hm
    · subst h'
      obtain ⟨k, hk⟩ := List.mem_iff_getElem?.1 hm
      have := rho_lt hs hk
      simp at this
  · intro g g' gi gi' hg hg' hb
    rcases getElem?_snoc hg with h1 | ⟨h1, h1'⟩ <;> rcases getElem?_snoc hg' with h2 | ⟨h2, h2'⟩
    · exact hs.gdis g g' gi gi' h1 h2 hb
    · subst h2'; have := glk_lt hs h1; rw [hb] at this; simp at this
    · subst h1'; have := glk_lt hs h2; rw [← hb] at this; simp at this
    · omega
  · intro g gi hg
    rcases getElem?_snoc hg with h' | ⟨_, h'⟩
    · rw [alloc_old (glk_lt hs h')]; exact hs.gcell g gi h'
    · subst h'
      exact ⟨c, el, by unfold World.alloc; exact Array.getElem?_push_size, hc, hl⟩
  · intro b i g gi hb hg
    rcases getElem?_snoc hg with h' | ⟨_, h'⟩
    · exact hs.o0g b i g gi hb h'
    · subst h'; intro e; have := hs.o0lt b i hb; simp at e; omega

/-- An identity moves to a fresh block, and grows. -/
theorem move_id {Γ : Ctx} {h : AH} {w : World} (hs : St Γ h w) {g : Nat} {gi : GI} (hg : Γ.G[g]? = some gi) {c : Array Value} {el : TypeId} {cap E len : Nat}
    (hc : cap * E ≤ c.size) (hl : len ≤ cap) (hgrow : gi.len < len) :
    St { Γ with G := Γ.G.set g ⟨w.heap.size, cap, E, len⟩ } { h with gl := h.gl.set g len } (w.alloc (.cells c el)) ∧
    Evo Γ w { Γ with G := Γ.G.set g ⟨w.heap.size, cap, E, len⟩ } (w.alloc (.cells c el)) := by
  have hglt := (List.getElem?_eq_some_iff.1 hg).1
  have hget : ∀ (g' : Nat) gi', (Γ.G.set g ⟨w.heap.size, cap, E, len⟩)[g']? = some gi' → (g' = g ∧ gi' = ⟨w.heap.size, cap, E, len⟩) ∨ (g' ≠ g ∧ Γ.G[g']? = some gi') := by
    intro g' gi' h'
    by_cases e : g = g'
    · subst e
      simp only [List.getElem?_set_self hglt, Option.some.injEq] at h'
      exact .inl ⟨rfl, h'.symm⟩
    · rw [List.getElem?_set_ne e] at h'
      exact .inr ⟨fun x => e x.symm, h'⟩
  have hU : ∀ b i, ({ Γ with G := Γ.G.set g ⟨w.heap.size, cap, E, len⟩ } : Ctx).unst b i → Γ.unst b i ∨ b = w.heap.size := by
    intro b i hu
    rcases hu with hu | hu | ⟨g', gi', hg', hb, h1, h2⟩
    · exact .inl (.inl hu)
    · exact .inl (.inr (.inl hu))
    · rcases hget g' gi' hg' with ⟨_, h'⟩ | ⟨_, h'⟩
      · subst h'; exact .inr hb.symm
      · exact .inl (.inr (.inr ⟨g', gi', h', hb, h1, h2⟩))
  have he : Evo Γ w { Γ with G := Γ.G.set g ⟨w.heap.size, cap, E, len⟩ } (w.alloc (.cells c el)) :=
    { size := by simp, o0 := rfl, rho := fun _ _ h => h,
      gs := fun g' gi' hg' => by
        by_cases e : g = g'
        · subst e
          rw [hg] at hg'; cases hg'
          exact ⟨_, by simp only [List.getElem?_set_self hglt]; rfl, Nat.le_of_lt hgrow, fun he => by simp at he; omega⟩
        · exact ⟨gi', by rw [List.getElem?_set_ne e]; exact hg', Nat.le_refl _, fun _ => rfl⟩,
      obj := fun b hb _ _ => alloc_old hb, cell := fun _ _ _ h _ => alloc_cell h,
      newU := fun b i hb hu => (hU b i hu).resolve_right (Nat.ne_of_lt hb), newR := fun _ _ h => h,
      newG := fun g' gi' hg' hb => by
        rcases hget g' gi' hg' with ⟨_, h'⟩ | ⟨_, h'⟩
        · subst h'; simp at hb
        · exact ⟨g', gi', h', rfl⟩ }
  refine ⟨{ len := hs.len, nodup := hs.nodup, objs := fun k o b ho hk => (hs.objs k o b ho hk).evo he (alloc_old (rho_lt hs hk)), gl := by simp [hs.gl, List.map_set], gblk := ?_, gdis := ?_, gcell := ?_, o0r := hs.o0r, o0g := ?_, o0lt := fun b i h => by have := hs.o0lt b i h; simp; omega, scope := hs.scope }, he⟩
  · intro g' gi' hg' hm
    rcases hget g' gi' hg' with ⟨_, h'⟩ | ⟨_, h'⟩
    · subst h'
      obtain ⟨k, hk⟩ := List.mem_iff_getElem?.1 hm
      have := rho_lt hs hk
      simp at this
    · exact hs.gblk g' gi' h' hm
  · intro g1 g2 gi1 gi2 h1 h2 hb
    rcases hget g1 gi1 h1 with ⟨e1, h1'⟩ | ⟨e1, h1'⟩ <;> rcases hget g2 gi2 h2 with ⟨e2, h2'⟩ | ⟨e2, h2'⟩
    · omega
    · subst h1'; have := glk_lt hs h2'; rw [← hb] at this; simp at this
    · subst h2'; have := glk_lt hs h1'; rw [hb] at this; simp at this
    · exact hs.gdis g1 g2 gi1 gi2 h1' h2' hb
  · intro g' gi' hg'
    rcases hget g' gi' hg' with ⟨_, h'⟩ | ⟨_, h'⟩
    · subst h'; exact ⟨c, el, by unfold World.alloc; exact Array.getElem?_push_size, hc, hl⟩
    · rw [alloc_old (glk_lt hs h')]; exact hs.gcell g' gi' h'
  · intro b i g' gi' hb hg'
    rcases hget g' gi' hg' with ⟨_, h'⟩ | ⟨_, h'⟩
    · subst h'; intro e; have := hs.o0lt b i hb; simp at e; omega
    · exact hs.o0g b i g' gi' hb h'

/-- An identity grows in place: cells of its spare places are written. -/
theorem grow_id {Γ : Ctx} {h : AH} {w w' : World} (hs : St Γ h w) {g : Nat} {gi : GI} (hg : Γ.G[g]? = some gi) {len : Nat}
    (hgrow : gi.len < len) (hl : len ≤ gi.cap) (hsize : w'.heap.size = w.heap.size) (hoth : ∀ b, b ≠ gi.blk → w'.heap[b]? = w.heap[b]?)
    (hin : ∃ c c' el, w.heap[gi.blk]? = some (.cells c el (0, 0)) ∧ w'.heap[gi.blk]? = some (.cells c' el (0, 0)) ∧ c'.size = c.size ∧ ∀ i, (i < gi.len * gi.E ∨ len * gi.E ≤ i) → c'[i]? = c[i]?) (hio : w'.os = w.os ∧ w'.output = w.output) :
    St { Γ with G := Γ.G.set g { gi with len := len } } { h with gl := h.gl.set g len } w' ∧
    Evo Γ w { Γ with G := Γ.G.set g { gi with len := len } } w' := by
  have hglt := (List.getElem?_eq_some_iff.1 hg).1
  obtain ⟨c, c', el, hb, hb', hcs, hcell⟩ := hin
  have hget : ∀ (g' : Nat) gi', (Γ.G.set g { gi with len := len })[g']? = some gi' → (g' = g ∧ gi' = { gi with len := len }) ∨ (g' ≠ g ∧ Γ.G[g']? = some gi') := by
    intro g' gi' h'
    by_cases e : g = g'
    · subst e
      simp only [List.getElem?_set_self hglt, Option.some.injEq] at h'
      exact .inl ⟨rfl, h'.symm⟩
    · rw [List.getElem?_set_ne e] at h'
      exact .inr ⟨fun x => e x.symm, h'⟩
  have hmul : gi.len * gi.E ≤ len * gi.E := Nat.mul_le_mul_right _ (Nat.le_of_lt hgrow)
  have hmul2 : len * gi.E ≤ gi.cap * gi.E := Nat.mul_le_mul_right _ hl
  have hU : ∀ b i, ({ Γ with G := Γ.G.set g { gi with len := len } } : Ctx).unst b i → Γ.unst b i := by
    intro b i hu
    rcases hu with hu | hu | ⟨g', gi', hg', hbb, h1, h2⟩
    · exact .inl hu
    · exact .inr (.inl hu)
    · rcases hget g' gi' hg' with ⟨_, h'⟩ | ⟨_, h'⟩
      · subst h'; exact .inr (.inr ⟨g, gi, hg, hbb, by simp at h1; omega, h2⟩)
      · exact .inr (.inr ⟨g', gi', h', hbb, h1, h2⟩)
  have he : Evo Γ w { Γ with G := Γ.G.set g { gi with len := len } } w' :=
    { size := by omega, o0 := rfl, rho := fun _ _ h => h,
      gs := fun g' gi' hg' => by
        by_cases e : g = g'
        · subst e
          rw [hg] at hg'; cases hg'
          exact ⟨_, by simp only [List.getElem?_set_self hglt]; rfl, Nat.le_of_lt hgrow, fun he => by simp at he; omega⟩
        · exact ⟨gi', by rw [List.getElem?_set_ne e]; exact hg', Nat.le_refl _, fun _ => rfl⟩,
      obj := fun b _ _ hne => hoth b (fun e => hne g gi hg e.symm),
      cell := fun b i v hc hu => by
        by_cases e : b = gi.blk
        · subst e
          have hi : i < gi.len * gi.E ∨ len * gi.E ≤ i := by
            rcases Nat.lt_or_ge i (gi.len * gi.E) with h1 | h1
            · exact .inl h1
            · rcases Nat.lt_or_ge i (gi.cap * gi.E) with h2 | h2
              · exact absurd (.inr (.inr ⟨g, gi, hg, rfl, h1, h2⟩)) hu
              · exact .inr (by omega)
          simp only [World.cell?, hb] at hc
          simp only [World.cell?, hb', hcell i hi]
          exact hc
        · unfold World.cell? at *
          simp only at *
          rw [hoth b e]; exact hc
      newU := fun b i _ hu => hU b i hu, newR := fun _ _ h => h,
      newG := fun g' gi' hg' _ => by
        rcases hget g' gi' hg' with ⟨_, h'⟩ | ⟨_, h'⟩
        · subst h'; exact ⟨g, gi, hg, rfl⟩
        · exact ⟨g', gi', h', rfl⟩,
      io := hio }
  refine ⟨{ len := hs.len, nodup := hs.nodup, objs := fun k o b ho hk => ?_, gl := by simp [hs.gl, List.map_set], gblk := ?_, gdis := ?_, gcell := ?_, o0r := hs.o0r, o0g := ?_, o0lt := fun b i h => by have := hs.o0lt b i h; omega, scope := hs.scope }, he⟩
  · refine (hs.objs k o b ho hk).evo he (hoth b (fun e => hs.gblk g gi hg ?_))
    subst e; exact List.mem_iff_getElem?.2 ⟨k, hk⟩
  · intro g' gi' hg' hm
    rcases hget g' gi' hg' with ⟨_, h'⟩ | ⟨_, h'⟩
    · subst h'; exact hs.gblk g gi hg hm
    · exact hs.gblk g' gi' h' hm
  · intro g1 g2 gi1 gi2 h1 h2 hbb
    rcases hget g1 gi1 h1 with ⟨e1, h1'⟩ | ⟨e1, h1'⟩ <;> rcases hget g2 gi2 h2 with ⟨e2, h2'⟩ | ⟨e2, h2'⟩
    · omega
    · subst h1'; exact e1.trans (hs.gdis g g2 gi gi2 hg h2' hbb)
    · subst h2'; exact (hs.gdis g1 g gi1 gi h1' hg hbb).trans e2.symm
    · exact hs.gdis g1 g2 gi1 gi2 h1' h2' hbb
  · intro g' gi' hg'
    rcases hget g' gi' hg' with ⟨_, h'⟩ | ⟨e', h'⟩
    · subst h'
      obtain ⟨c0, el0, h0, h1, _⟩ := hs.gcell g gi hg
      rw [hb] at h0; cases h0
      exact ⟨c', el, hb', by rw [hcs]; exact h1, hl⟩
    · have : gi'.blk ≠ gi.blk := fun e => e' (hs.gdis g' g gi' gi h' hg e)
      rw [hoth _ this]; exact hs.gcell g' gi' h'
  · intro b i g' gi' hbb hg'
    rcases hget g' gi' hg' with ⟨_, h'⟩ | ⟨_, h'⟩
    · subst h'; exact hs.o0g b i g gi hbb hg
    · exact hs.o0g b i g' gi' hbb h'

end Go.Proofs.YtgikapdeekepiaaGreatDoor
