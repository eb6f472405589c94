/- append, in the abstract evaluator. -/
import Derived.Test.YtgikapdeekepiaaGreatDoorEvF
set_option linter.unusedSimpArgs false
namespace Go.Proofs.YtgikapdeekepiaaGreatDoor
open Go

theorem setCells_blk {b : Nat} : ∀ (vs : List Value) (o : Nat) (w : World) (c : Array Value) (el : TypeId) (fz : Nat × Nat), w.heap[b]? = some (.cells c el fz) →
    ∃ c', (w.setCells b o vs).heap[b]? = some (.cells c' el fz) ∧ c'.size = c.size ∧ (∀ i, (i < o ∨ o + vs.length ≤ i) → c'[i]? = c[i]?) ∧
      (∀ (j : Nat) v, vs[j]? = some v → o + j < c.size → c'[o + j]? = some v)
  | [], o, w, c, el, fz, h => ⟨c, h, rfl, fun _ _ => rfl, fun j v hv => by simp at hv⟩
  | v :: vs, o, w, c, el, fz, h => by
    obtain ⟨c', h1, h2, h3, h4⟩ := setCells_blk vs (o + 1) (w.setCell ⟨b, o, none⟩ v) (c.setIfInBounds o v) el fz (setCell_self h)
    refine ⟨c', h1, by simpa using h2, fun i hi => ?_, fun j u hu hlt => ?_⟩
    · have hne : o ≠ i := by
        rcases hi with hi | hi
        · omega
        · simp at hi; omega
      rw [h3 i (by simp at hi; omega), Array.getElem?_setIfInBounds_ne hne]
    · cases j with
      | zero =>
        simp at hu hlt
        subst hu
        rw [Nat.add_zero, h3 o (.inl (by omega))]
        simp [hlt]
      | succ j =>
        simp at hu
        have := h4 j u hu (by simp; omega)
        rw [show o + (j + 1) = o + 1 + j from by omega]
        exact this

theorem setCells_other {b b' : Nat} (hne : b' ≠ b) : ∀ (vs : List Value) (o : Nat) (w : World), (w.setCells b o vs).heap[b']? = w.heap[b']?
  | [], _, _ => rfl
  | v :: vs, o, w => by
    simp only [World.setCells]
    rw [setCells_other hne vs (o + 1), setCell_other hne]

theorem setCells_size {b : Nat} : ∀ (vs : List Value) (o : Nat) (w : World), (w.setCells b o vs).heap.size = w.heap.size
  | [], _, _ => rfl
  | v :: vs, o, w => by
    simp only [World.setCells]
    rw [setCells_size vs (o + 1)]; simp

theorem setCells_io {b : Nat} : ∀ (vs : List Value) (o : Nat) (w : World), (w.setCells b o vs).os = w.os ∧ (w.setCells b o vs).output = w.output
  | [], _, _ => ⟨rfl, rfl⟩
  | v :: vs, o, w => by
    simp only [World.setCells]
    exact ⟨(setCells_io vs (o + 1) _).1, (setCells_io vs (o + 1) _).2⟩

/-- Elements, and their cells one behind the other. -/
def FlatR (Γ : Ctx) (w : World) (n : Nat) (es : List (List AV)) (vs : List Value) : Prop :=
  vs.length = es.length * n ∧ (∀ (i : Nat) (e : List AV), es[i]? = some e → e.length = n) ∧
  ∀ (i j : Nat) (e : List AV) (c : AV), es[i]? = some e → e[j]? = some c → ∃ v, vs[i * n + j]? = some v ∧ VR Γ w c v

theorem flat_lt {n i j len : Nat} (hi : i < len) (hj : j < n) : i * n + j < len * n := by
  have : (i + 1) * n ≤ len * n := Nat.mul_le_mul_right _ hi
  rw [Nat.succ_mul] at this
  omega

theorem FlatR.evo {Γ Γ' : Ctx} {w w' : World} (h : Evo Γ w Γ' w') {n : Nat} {es : List (List AV)} {vs : List Value} (hf : FlatR Γ w n es vs) : FlatR Γ' w' n es vs :=
  ⟨hf.1, hf.2.1, fun i j e c a b => by obtain ⟨v, h1, h2⟩ := hf.2.2 i j e c a b; exact ⟨v, h1, h2.evo h⟩⟩

theorem FlatR.append {Γ : Ctx} {w : World} {n : Nat} {es fs : List (List AV)} {vs us : List Value} (h : FlatR Γ w n es vs) (h' : FlatR Γ w n fs us) : FlatR Γ w n (es ++ fs) (vs ++ us) := by
  refine ⟨by simp [h.1, h'.1, Nat.add_mul], fun i e he => ?_, fun i j e c he hj => ?_⟩
  · rcases Nat.lt_or_ge i es.length with hlt | hge
    · rw [List.getElem?_append_left hlt] at he; exact h.2.1 i e he
    · rw [List.getElem?_append_right hge] at he; exact h'.2.1 _ e he
  · rcases Nat.lt_or_ge i es.length with hlt | hge
    · rw [List.getElem?_append_left hlt] at he
      obtain ⟨v, h1, h2⟩ := h.2.2 i j e c he hj
      refine ⟨v, ?_, h2⟩
      rw [List.getElem?_append_left (List.getElem?_eq_some_iff.1 h1).1]
      exact h1
    · rw [List.getElem?_append_right hge] at he
      obtain ⟨v, h1, h2⟩ := h'.2.2 (i - es.length) j e c he hj
      refine ⟨v, ?_, h2⟩
      have : vs.length ≤ i * n + j := by rw [h.1]; exact Nat.le_trans (Nat.mul_le_mul_right _ hge) (Nat.le_add_right _ _)
      rw [List.getElem?_append_right this, h.1]
      rw [show i * n + j - es.length * n = (i - es.length) * n + j from by rw [Nat.sub_mul]; have := Nat.mul_le_mul_right n hge; omega]
      exact h1

/-- The cells of a slice that lies in memory. -/
theorem flat_of_cells {Γ : Ctx} {w : World} {n : Nat} {es : List (List AV)} {b off : Nat} (h : CellsAt Γ w n es b off) :
    ∃ vs, FlatR Γ w n es vs ∧ ∀ (j : Nat) v, vs[j]? = some v → w.cell? ⟨b, off + j, none⟩ = some v := by
  refine ⟨(List.range (es.length * n)).map fun k => (w.cell? ⟨b, off + k, none⟩).getD undef, ⟨by simp, h.1, fun i j e c he hj => ?_⟩, fun k v hk => ?_⟩
  · obtain ⟨v, h1, _, h3⟩ := h.2 i j e c he hj
    have hi := (List.getElem?_eq_some_iff.1 he).1
    have hj' : j < n := by rw [← h.1 i e he]; exact (List.getElem?_eq_some_iff.1 hj).1
    refine ⟨v, ?_, h3⟩
    rw [List.getElem?_map, List.getElem?_range (flat_lt hi hj')]
    simp only [Option.map_some, Option.some.injEq]
    rw [← Nat.add_assoc, h1]; rfl
  · have hlt : k < es.length * n := by
      have := (List.getElem?_eq_some_iff.1 hk).1; simpa using this
    rw [List.getElem?_map, List.getElem?_range hlt] at hk
    simp only [Option.map_some, Option.some.injEq] at hk
    have hn : 0 < n := by
      rcases Nat.eq_zero_or_pos n with h0 | h0
      · rw [h0] at hlt; simp at hlt
      · exact h0
    have hi : k / n < es.length := Nat.div_lt_of_lt_mul (by rw [Nat.mul_comm]; exact hlt)
    have he : es[k / n]? = some es[k / n] := by simp
    have hm : k % n < (es[k / n]).length := by rw [h.1 _ _ he]; exact Nat.mod_lt _ hn
    obtain ⟨u, h1, _, _⟩ := h.2 (k / n) (k % n) _ _ he (List.getElem?_eq_getElem hm)
    have hk' : k / n * n + k % n = k := by rw [Nat.mul_comm]; exact Nat.div_add_mod k n
    rw [Nat.add_assoc, hk'] at h1
    rw [h1] at hk ⊢
    simp at hk; rw [hk]

theorem flat_one {Γ : Ctx} {w : World} {n : Nat} {es : List (List AV)} {vs : List Value} (h : FlatR Γ w n es vs) (hc : ∀ e ∈ es, e.all AV.cellable = true) : ∀ u ∈ vs, u.oneCell' = true := by
  intro u hu
  obtain ⟨k, hk⟩ := List.mem_iff_getElem?.1 hu
  have hlt : k < es.length * n := by rw [← h.1]; exact (List.getElem?_eq_some_iff.1 hk).1
  have hn : 0 < n := by
    rcases Nat.eq_zero_or_pos n with h0 | h0
    · rw [h0] at hlt; simp at hlt
    · exact h0
  have hi : k / n < es.length := Nat.div_lt_of_lt_mul (by rw [Nat.mul_comm]; exact hlt)
  have he : es[k / n]? = some es[k / n] := by simp
  have hm : k % n < (es[k / n]).length := by rw [h.2.1 _ _ he]; exact Nat.mod_lt _ hn
  obtain ⟨v, h1, h2⟩ := h.2.2 (k / n) (k % n) _ _ he (List.getElem?_eq_getElem hm)
  have hk' : k / n * n + k % n = k := by rw [Nat.mul_comm]; exact Nat.div_add_mod k n
  rw [hk', hk] at h1
  cases h1
  exact h2.oneCell (List.all_eq_true.1 (hc _ (List.getElem_mem hi)) _ (List.getElem_mem hm))

/-- What is appended. -/
def aelems (P : Program) (h : AH) (n : Nat) (tx : TypeId) (x : AV) : Option (List (List AV)) :=
  match P.underlying tx, x with
  | some (.slice _), .nils => some []
  | some (.slice _), .slc _ E es => match es with
    | [] => some []
    | e :: r => if E = n then some (e :: r) else none
  | some .string, .str s => if n = 1 then some (s.data.toList.map fun b => [.int .u8 b.toNat]) else none
  | some (.slice _), .sl k off m => match h.objs[k]? with
    | some (.cells cs) => if off + m * n ≤ cs.length then some (chunk n ((cs.drop off).take (m * n)) m) else none
    | _ => none
  | _, _ => none

theorem aelems_ok {P : Program} {Γ : Ctx} {h : AH} {w : World} (hs : St Γ h w) {n : Nat} {tx : TypeId} {x : AV} {v : Value} (hx : VR Γ w x v) {es : List (List AV)}
    (he : aelems P h n tx x = some es) (hc : ∀ e ∈ es, e.all AV.cellable = true) : ∃ vs, Src P n tx v es.length vs w ∧ FlatR Γ w n es vs := by
  unfold aelems at he
  split at he
  · rename_i e0 hu
    cases hx; cases he
    exact ⟨[], ⟨.inl ⟨_, hu⟩, fun _ => rfl, by simp [Builtin.firstCells], by simp [Builtin.firstCells], by simp, fun _ h => by cases h⟩, by simp, by simp, by simp⟩
  · rename_i e0 sk E es' hu
    obtain ⟨a, cap, rfl, hcap, _, hcase, hcn⟩ := slc_inv hx
    split at he
    · cases he
      refine ⟨[], ⟨.inl ⟨_, hu⟩, fun _ => rfl, ?_, ?_, by simp, fun _ h => by cases h⟩, by simp, by simp, by simp⟩
      · cases a <;> simp [Builtin.firstCells, loadCells, loadCellsFrom]
      · cases a <;> simp [Builtin.firstCells, loadCells, loadCellsFrom]
    · split at he
      · rename_i hE
        subst hE
        cases he
        rcases hcase with ⟨h1, _⟩ | ⟨b, off, rfl, hcell, _⟩
        · cases h1
        · clear hcn; obtain ⟨vs, hf, hv⟩ := flat_of_cells hcell
          exact ⟨vs, Src.ofSlice w hu _ _ _ vs hf.1 (fun j u hj => by rw [Addr.add_lit]; exact hv j u hj) (flat_one hf hc), hf⟩
      · cases he
  · rename_i s hu
    split at he
    · rename_i h1
      subst h1
      cases he
      cases hx
      have hl : (s.data.toList.map fun b => [AV.int .u8 b.toNat]).length = s.size := by simp
      refine ⟨byteCells s, by rw [hl]; exact Src.ofString w hu s, by rw [byteCells_length, hl, Nat.mul_one], fun i e hi => ?_, fun i j e c hi hj => ?_⟩
      · simp only [List.getElem?_map, Option.map_eq_some_iff] at hi
        obtain ⟨y, _, rfl⟩ := hi; rfl
      · simp only [List.getElem?_map, Option.map_eq_some_iff] at hi
        obtain ⟨y, hy, rfl⟩ := hi
        cases j with
        | succ j => simp at hj
        | zero =>
          simp at hj
          subst hj
          exact ⟨.int .u8 y.toNat, by simp only [byteCells, List.getElem?_map, Nat.mul_one, Nat.add_zero, hy, Option.map_some], .int _ _⟩
    · cases he
  · rename_i e0 k off m hu
    split at he
    · rename_i cs ho
      split at he
      · rename_i hle
        cases he
        cases hx with
        | sl hk hcap =>
          rename_i b cap
          have hlen : ((cs.drop off).take (m * n)).length = m * n := by simp; omega
          have hcl := chunk_len n m ((cs.drop off).take (m * n))
          have hex : ∀ k, k < m * n → ∃ u, w.cell? ⟨b, off + k, none⟩ = some u ∧ ∀ c, ((cs.drop off).take (m * n))[k]? = some c → VR Γ w c u := by
            intro k hk'
            have hlt : off + k < cs.length := by omega
            obtain ⟨u, h1, h2, _⟩ := own_read hs hk ho (List.getElem?_eq_getElem hlt)
            refine ⟨u, h1, fun c hcc => ?_⟩
            rw [List.getElem?_take_of_lt hk', List.getElem?_drop, List.getElem?_eq_getElem hlt] at hcc
            cases hcc; exact h2
          have hf : FlatR Γ w n (chunk n ((cs.drop off).take (m * n)) m) ((List.range (m * n)).map fun k => (w.cell? ⟨b, off + k, none⟩).getD undef) := by
            refine ⟨by simp [hcl], fun i e he => (chunk_get m _ i e hlen he).1, fun i j e c he hj => ?_⟩
            have h1 := (chunk_get m _ i e hlen he).2 j c hj
            have hlt : i * n + j < m * n := by rw [← hlen]; exact (List.getElem?_eq_some_iff.1 h1).1
            obtain ⟨u, h2, h3⟩ := hex _ hlt
            refine ⟨u, ?_, h3 c h1⟩
            rw [List.getElem?_map, List.getElem?_range hlt]
            simp [h2]
          refine ⟨_, ?_, hf⟩
          rw [hcl]
          refine Src.ofSlice w hu _ _ _ _ (by simp) (fun j u hj => ?_) (flat_one hf hc)
          have hlt : j < m * n := by have := (List.getElem?_eq_some_iff.1 hj).1; simpa using this
          rw [List.getElem?_map, List.getElem?_range hlt] at hj
          obtain ⟨u', h2, _⟩ := hex j hlt
          rw [Addr.add_lit, h2]
          simp [h2] at hj
          rw [hj]
      · cases he
    · cases he
  · cases he

def aappend (P : Program) (h : AH) (ts : Array TypeId) (s x : AV) : Option (AV × AH) :=
  match ts[0]?, ts[1]?, ts.size == 2 with
  | some t, some tx, true =>
    match P.underlying t with
    | some (.slice e) =>
      match P.info? e with
      | some i =>
        match i.zero, sview s, aelems P h i.size tx x with
        | some z, some (sk, E, es), some news =>
          if news.all (fun e => e.all AV.cellable) && z.cells.size == i.size then
            if news.length = 0 then some (s, h)
            else if (es.length + news.length) * i.bytes ≤ 140737488355328 ∧ 0 < i.bytes then
              match sk with
              | .x => if es.length = 0 ∨ E = i.size then some (.slc (.g h.gl.length) i.size (es ++ news), { h with gl := h.gl ++ [es.length + news.length] }) else none
              | .g g => if h.gl[g]? = some es.length ∧ E = i.size then some (.slc (.g g) i.size (es ++ news), { h with gl := h.gl.set g (es.length + news.length) }) else none
              | .r => none
            else none
          else none
        | _, _, _ => none
      | none => none
    | _ => none
  | _, _, _ => none

theorem array2 {α : Type} {a : Array α} {x y : α} (h0 : a[0]? = some x) (h1 : a[1]? = some y) (hs : (a.size == 2) = true) : a = #[x, y] := by
  simp at hs
  apply Array.ext_getElem?
  intro i
  match i with
  | 0 => simp [h0]
  | 1 => simp [h1]
  | i + 2 => simp [hs]

/-- The cells of a fresh block's head. -/
theorem flat_cells_new {Γ' : Ctx} {w' : World} {n : Nat} {es : List (List AV)} {vs rest : List Value} {blk : Nat} {c : Array Value} {el : TypeId} {fz : Nat × Nat} (hb : w'.heap[blk]? = some (.cells c el fz))
    (hc : ∀ (k : Nat) v, vs[k]? = some v → c[k]? = some v) (hf : FlatR Γ' w' n es vs) (hU : ∀ k, k < es.length * n → ¬ Γ'.unst blk k) (_ : rest = rest) : CellsAt Γ' w' n es blk 0 := by
  refine ⟨hf.2.1, fun i j e x he hj => ?_⟩
  obtain ⟨v, h1, h2⟩ := hf.2.2 i j e x he hj
  have hi := (List.getElem?_eq_some_iff.1 he).1
  have hj' : j < n := by rw [← hf.2.1 i e he]; exact (List.getElem?_eq_some_iff.1 hj).1
  refine ⟨v, ?_, hU _ (by rw [Nat.zero_add]; exact flat_lt hi hj'), h2⟩
  simp only [World.cell?, hb, Nat.zero_add]
  exact hc _ v h1

/-- The cells of the block that a growing slice moves to. -/
theorem new_block {Γ : Ctx} {h : AH} {w : World} (_ : St Γ h w) {n : Nat} {es news : List (List AV)} {olds vs : List Value} {z : Value} {el : TypeId} (hz : z.cells.size = n) (h1 : FlatR Γ w n es olds) (h2 : FlatR Γ w n news vs)
    {gc : Nat} (hgc : es.length + news.length ≤ gc) (_ : el = el := rfl) :
    ((olds ++ vs).toArray ++ Builtin.zeroCells z.cells (gc - (es.length + news.length))).size = gc * n ∧
    ∀ (k : Nat) u, (olds ++ vs)[k]? = some u → ((olds ++ vs).toArray ++ Builtin.zeroCells z.cells (gc - (es.length + news.length)))[k]? = some u := by
  have hl : (olds ++ vs).length = (es.length + news.length) * n := by rw [(h1.append h2).1]; simp
  refine ⟨?_, fun k u hk => ?_⟩
  · simp only [Array.size_append, List.size_toArray, hl, Builtin.zeroCells, Array.size_map, Array.size_range, hz]
    rw [← Nat.add_mul]
    congr 1
    omega
  · have hlt := (List.getElem?_eq_some_iff.1 hk).1
    rw [Array.getElem?_append_left (by simpa using hlt)]
    simpa using hk

theorem slc_mk' {Γ : Ctx} {w : World} {sk : SK} {E n : Nat} {es : List (List AV)} {b off cap : Nat} (hn : n = es.length) (hsk : SKok Γ n b off cap E sk) (hcap : n ≤ cap)
    (hc : CellsAt Γ w E es b off) : VR Γ w (.slc sk E es) (.slice (some ⟨b, off, none⟩) n cap) := by
  subst hn; exact slc_mk hsk hcap hc

theorem aappend_ok {P : Program} {Γ : Ctx} {h h' : AH} {w : World} (hs : St Γ h w) {ts : Array TypeId} {ty : TypeId} {s x y : AV} {u v : Value} (hu : VR Γ w s u) (hv : VR Γ w x v)
    (ha : aappend P h ts s x = some (y, h')) : ∃ Γ' w' z, (Builtin.append_ ts ty #[u, v]).run P w = .ok z w' ∧ VR Γ' w' y z ∧ St Γ' h' w' ∧ Evo Γ w Γ' w' := by
  unfold aappend at ha
  split at ha
  · rename_i t tx h0 h1 h2
    have hts := array2 h0 h1 h2
    subst hts
    split at ha
    · rename_i e hut
      split at ha
      · rename_i i hi
        split at ha
        · rename_i z sk E es news hz hsv hel
          split at ha
          · rename_i hcl
            simp only [Bool.and_eq_true, beq_iff_eq] at hcl
            obtain ⟨hcl, hzs⟩ := hcl
            have hcl' : ∀ e ∈ news, e.all AV.cellable = true := fun e he => List.all_eq_true.1 hcl e he
            obtain ⟨vs, hsrc, hflat⟩ := aelems_ok hs hv hel hcl'
            obtain ⟨a, cap, rfl, hcap, hx, hcase⟩ := sview_inv hsv hu
            have hi_size : ∀ m : Nat, m ≤ m * i.bytes ∨ i.bytes = 0 := fun m => by
              rcases Nat.eq_zero_or_pos i.bytes with h0 | h0
              · exact .inr h0
              · exact .inl (Nat.le_mul_of_pos_right _ h0)
            split at ha
            · rename_i hn0
              simp only [Option.some.injEq, Prod.mk.injEq] at ha
              obtain ⟨rfl, rfl⟩ := ha
              have hnil : news = [] := List.length_eq_zero_iff.1 hn0
              subst hnil
              have hvs : vs = [] := List.length_eq_zero_iff.1 (by rw [hflat.1]; simp)
              subst hvs
              have hcz : (Builtin.firstCells i.size 0 v).run P w = .ok #[] w := by simpa using hsrc.cells
              have hz' : (Builtin.append_ #[t, tx] ty #[.slice a es.length cap, v]).run P w = .ok (.slice a es.length cap) w := by
                rcases hsrc.kind with ⟨e', hk⟩ | hk <;>
                  (cases a <;> simp [Builtin.append_, run_underlying hut, run_underlying hk, sizeOf, typeInfo, hi, hsrc.len, hcap, hcz, storeCells])
              exact ⟨Γ, w, _, hz', hu, hs, Evo.refl _ _⟩
            · rename_i hn0
              split at ha
              · rename_i hbd
                obtain ⟨hbd, hb0⟩ := hbd
                have hle : es.length + news.length ≤ (es.length + news.length) * i.bytes := (hi_size _).resolve_right (by omega)
                split at ha
                · -- a slice whose capacity is its length: always a new block
                  split at ha
                  · rename_i hE
                    simp only [Option.some.injEq, Prod.mk.injEq] at ha
                    obtain ⟨rfl, rfl⟩ := ha
                    have hcapeq := hx rfl
                    subst hcapeq
                    have hold : ∃ olds, FlatR Γ w i.size es olds ∧ (Builtin.firstCells i.size es.length (.slice a es.length es.length)).run P w.drew = .ok olds.toArray w.drew := by
                      rcases hcase with ⟨rfl, _⟩ | ⟨b, off, rfl, hcell, _⟩
                      · exact ⟨[], ⟨by simp, by simp, by simp⟩, by cases a <;> simp [Builtin.firstCells, loadCells, loadCellsFrom]⟩
                      · by_cases he0 : es.length = 0
                        · have : es = [] := List.length_eq_zero_iff.1 he0
                          subst this
                          exact ⟨[], ⟨by simp, by simp, by simp⟩, by simp [Builtin.firstCells, loadCells, loadCellsFrom]⟩
                        · have hE' := hE.resolve_left he0
                          subst hE'
                          obtain ⟨olds, hf, hv'⟩ := flat_of_cells hcell
                          exact ⟨olds, hf, run_firstCells_some w.drew i.size _ _ _ _ olds hf.1 (fun j u hj => by rw [Addr.add_lit]; exact hv' j u hj)⟩
                    obtain ⟨olds, hof, hor⟩ := hold
                    have hrun := run_append_grow_src (P := P) w t tx ty e i _ hut hi hz a es.length es.length olds hor v news.length vs hsrc (by omega) (by omega)
                      (growslice_fits (by omega) hbd)
                    generalize hgc : grownCap w (es.length + news.length) es.length e = gc at hrun
                    have hgc' : es.length + news.length ≤ gc := by rw [← hgc]; exact Nat.le_add_right _ _
                    have hnew := new_block hs (z := z) (el := e) hzs hof hflat hgc'
                    obtain ⟨g1, g2⟩ := new_id (hs.same (w' := w.drew) rfl) (c := ((olds ++ vs).toArray ++ Builtin.zeroCells z.cells (gc - (es.length + news.length)))) (el := e) (cap := gc) (E := i.size) (len := es.length + news.length)
                      (by rw [hnew.1]; exact Nat.le_refl _) hgc'
                    have hev := (evo_same (Γ := Γ) (w := w) (w' := w.drew) rfl).trans g2
                    refine ⟨_, _, _, hrun, ?_, g1, hev⟩
                    have hlen : es.length + news.length = (es ++ news).length := by simp
                    refine slc_mk' hlen ⟨_, by rw [hs.gl, List.length_map]; simp; rfl, by simp, fun _ => ⟨rfl, rfl, rfl, rfl⟩⟩ hgc'
                      (flat_cells_new (rest := []) (Array.getElem?_push_size) (fun k v hk => hnew.2 k v hk) ((hof.append hflat).evo hev) (fun k hk hU => ?_) rfl)
                    rcases hU with hU | hU | ⟨g', gi', hg', hb', h3, h4⟩
                    · exact unst_fresh hs k (.inl hU)
                    · exact unst_fresh hs k (.inr (.inl hU))
                    · rcases getElem?_snoc hg' with h' | ⟨_, h'⟩
                      · have := glk_lt hs h'
                        rw [hb'] at this
                        exact absurd this (Nat.lt_irrefl _)
                      · subst h'
                        simp only [List.length_append] at hk h3
                        omega
                  · cases ha
                · -- a slice that may grow
                  rename_i g
                  split at ha
                  · rename_i hE
                    obtain ⟨hgl, hE⟩ := hE
                    subst hE
                    simp only [Option.some.injEq, Prod.mk.injEq] at ha
                    obtain ⟨rfl, rfl⟩ := ha
                    rcases hcase with ⟨_, h1⟩ | ⟨b, off, rfl, hcell, hsk⟩
                    · exact absurd rfl (h1 g)
                    · obtain ⟨gi, hg, hnl, hgeq⟩ := hsk
                      have hgil : gi.len = es.length := by
                        rw [hs.gl, List.getElem?_map, hg] at hgl
                        simpa using hgl
                      obtain ⟨rfl, rfl, rfl, hEE⟩ := hgeq hgil.symm
                      obtain ⟨olds, hof, hov⟩ := flat_of_cells hcell
                      obtain ⟨cc, cel, hblk, hcs, _⟩ := hs.gcell g gi hg
                      rw [hEE] at hcs
                      have hlen : es.length + news.length = (es ++ news).length := by simp
                      by_cases hroom : es.length + news.length ≤ gi.cap
                      · -- in place
                        have hmul : (es.length + news.length) * i.size ≤ gi.cap * i.size := Nat.mul_le_mul_right _ hroom
                        have hadd : (es.length + news.length) * i.size = es.length * i.size + news.length * i.size := Nat.add_mul _ _ _
                        have hcw : ∀ k, k < gi.cap * i.size → (w.cell? ⟨gi.blk, k, none⟩).isSome = true := by
                          intro k hk
                          have : k < cc.size := by omega
                          simp [World.cell?, hblk, this]
                        have hrun := run_append_room_src (P := P) w t tx ty e i hut hi gi.blk 0 es.length gi.cap v news.length vs hsrc hroom
                          (fun j hj => by rw [hflat.1] at hj; exact hcw _ (by omega)) (fun j hj => by simp [World.frozen?, hblk])
                        obtain ⟨c', k1, k2, k3, k4⟩ := setCells_blk vs (0 + es.length * i.size) w cc cel (0, 0) hblk
                        obtain ⟨g1, g2⟩ := grow_id hs hg (len := es.length + news.length) (w' := w.setCells gi.blk (0 + es.length * i.size) vs) (by omega) hroom (setCells_size _ _ _) (fun b hb => setCells_other hb _ _ _)
                          ⟨cc, c', cel, hblk, k1, k2, fun k hk => k3 k (by
                            rw [hEE, hgil] at hk
                            rw [hflat.1]
                            omega)⟩ (setCells_io _ _ _)
                        refine ⟨_, _, _, hrun, ?_, g1, g2⟩
                        have hglt := (List.getElem?_eq_some_iff.1 hg).1
                        refine slc_mk' hlen ⟨{ gi with len := es.length + news.length }, by simp only [List.getElem?_set_self hglt], by simp, fun _ => ⟨rfl, rfl, rfl, hEE⟩⟩ hroom
                          (flat_cells_new (rest := []) k1 (vs := olds ++ vs) (fun k u hk => ?_) ((hof.append hflat).evo g2) (fun k hk hU => ?_) rfl)
                        · rcases Nat.lt_or_ge k olds.length with hk1 | hk1
                          · rw [List.getElem?_append_left hk1] at hk
                            have h5 := hov k u hk
                            rw [hof.1] at hk1
                            rw [k3 k (.inl (by omega))]
                            simpa [World.cell?, hblk] using h5
                          · rw [List.getElem?_append_right hk1] at hk
                            have h5 := (List.getElem?_eq_some_iff.1 hk).1
                            have h6 := k4 (k - olds.length) u hk (by rw [hof.1, hflat.1] at *; omega)
                            rw [hof.1] at h6 hk1
                            rw [show 0 + es.length * i.size + (k - es.length * i.size) = k from by omega] at h6
                            exact h6
                        · rcases hU with hU | hU | ⟨g', gi', hg', hb', h3, h4⟩
                          · exact hs.o0g _ _ g gi hU hg rfl
                          · exact hs.gblk g gi hg hU
                          · by_cases e' : g = g'
                            · subst e'
                              simp only [List.getElem?_set_self hglt, Option.some.injEq] at hg'
                              subst hg'
                              simp only [hEE] at h3
                              rw [← hlen] at hk
                              omega
                            · rw [List.getElem?_set_ne e'] at hg'
                              exact e' (hs.gdis g g' gi gi' hg hg' hb'.symm)
                      · -- a new block
                        have hor := run_firstCells_some (P := P) w.drew i.size es.length ⟨gi.blk, 0, none⟩ es.length gi.cap olds hof.1 (fun j u hj => by rw [Addr.add_lit]; exact hov j u hj)
                        have hrun := run_append_grow_src (P := P) w t tx ty e i _ hut hi hz _ es.length gi.cap olds hor v news.length vs hsrc (by omega) (by omega)
                          (growslice_fits (by omega) hbd)
                        generalize hgc : grownCap w (es.length + news.length) gi.cap e = gc at hrun
                        have hgc' : es.length + news.length ≤ gc := by rw [← hgc]; exact Nat.le_add_right _ _
                        have hnew := new_block hs (z := z) (el := e) hzs hof hflat hgc'
                        obtain ⟨g1, g2⟩ := move_id (hs.same (w' := w.drew) rfl) hg (c := ((olds ++ vs).toArray ++ Builtin.zeroCells z.cells (gc - (es.length + news.length)))) (el := e) (cap := gc) (E := i.size) (len := es.length + news.length)
                          (by rw [hnew.1]; exact Nat.le_refl _) hgc' (by omega)
                        have hev := (evo_same (Γ := Γ) (w := w) (w' := w.drew) rfl).trans g2
                        refine ⟨_, _, _, hrun, ?_, g1, hev⟩
                        have hglt := (List.getElem?_eq_some_iff.1 hg).1
                        refine slc_mk' hlen ⟨_, by simp only [List.getElem?_set_self hglt]; rfl, by simp, fun _ => ⟨rfl, rfl, rfl, rfl⟩⟩ hgc'
                          (flat_cells_new (rest := []) (Array.getElem?_push_size) (fun k v hk => hnew.2 k v hk) ((hof.append hflat).evo hev) (fun k hk hU => ?_) rfl)
                        rcases hU with hU | hU | ⟨g', gi', hg', hb', h3, h4⟩
                        · exact unst_fresh hs k (.inl hU)
                        · exact unst_fresh hs k (.inr (.inl hU))
                        · by_cases e' : g = g'
                          · subst e'
                            simp only [List.getElem?_set_self hglt, Option.some.injEq] at hg'
                            subst hg'
                            rw [← hlen] at hk
                            simp only at h3
                            omega
                          · rw [List.getElem?_set_ne e'] at hg'
                            have := glk_lt hs hg'
                            rw [hb'] at this
                            exact absurd this (Nat.lt_irrefl _)
                  · cases ha
                · cases ha
              · cases ha
          · cases ha
        · cases ha
      · cases ha
    · cases ha
  · cases ha

end Go.Proofs.YtgikapdeekepiaaGreatDoor
