/- What a reading of the arguments says to the evaluator. -/
import Derived.Test.YtgikapdeekepiaaGreatDoorEvU
import Derived.Test.YtgikapdeekepiaaGreatDoorRows
import Derived.ProofKit
import Derived.OpenShut
import Derived.Deep.Slices
namespace Go.Proofs.YtgikapdeekepiaaGreatDoor
open Go Go.ChangeShapes Go.WideShapes Go.Deep
set_option linter.unusedVariables false

abbrev bulk {H : Type} (d : DataW H) : Nat := Go.Proofs.YtgikapdeekepiaaGreatDoor.Rows.uptoBulk d

abbrev bulkAll {H : Type} (d : List (DataW H)) : Nat := Go.Proofs.YtgikapdeekepiaaGreatDoor.Rows.uptoBulkAll d

theorem bulk_pos {H : Type} : ∀ d : DataW H, 0 < bulk d
  | .lit l => by cases l <;> simp [bulk, Go.Proofs.YtgikapdeekepiaaGreatDoor.Rows.uptoBulk]
  | .nil => by simp [bulk, Go.Proofs.YtgikapdeekepiaaGreatDoor.Rows.uptoBulk]
  | .ptr d => by simp [bulk, Go.Proofs.YtgikapdeekepiaaGreatDoor.Rows.uptoBulk]
  | .slice e s => by simp [bulk, Go.Proofs.YtgikapdeekepiaaGreatDoor.Rows.uptoBulk]
  | .agg p => by simp [bulk, Go.Proofs.YtgikapdeekepiaaGreatDoor.Rows.uptoBulk]
  | .iface _ d => by simp [bulk, Go.Proofs.YtgikapdeekepiaaGreatDoor.Rows.uptoBulk]
  | .map e => by simp [bulk, Go.Proofs.YtgikapdeekepiaaGreatDoor.Rows.uptoBulk]
  | .held _ => by simp [bulk, Go.Proofs.YtgikapdeekepiaaGreatDoor.Rows.uptoBulk]

theorem bulk_mem {H : Type} : ∀ {l : List (DataW H)} {d : DataW H}, d ∈ l → bulk d ≤ bulkAll l
  | a :: l, d, h => by
    simp only [bulk, bulkAll, Go.Proofs.YtgikapdeekepiaaGreatDoor.Rows.uptoBulkAll]
    rcases List.mem_cons.1 h with rfl | h
    · omega
    · have := bulk_mem h
      simp only [bulk, bulkAll] at this
      omega

theorem bulk_len {H : Type} : ∀ l : List (DataW H), l.length ≤ bulkAll l
  | [] => by simp
  | a :: l => by
    have h1 := bulk_len l
    have h2 := bulk_pos a
    simp only [bulk, bulkAll, Go.Proofs.YtgikapdeekepiaaGreatDoor.Rows.uptoBulkAll, List.length_cons] at *
    omega

theorem bulk_slice {H : Type} (l s : List (DataW H)) : bulk (.slice l s) = bulkAll l + bulkAll s + 1 := by
  simp only [bulk, bulkAll, Go.Proofs.YtgikapdeekepiaaGreatDoor.Rows.uptoBulk]

theorem bulk_agg {H : Type} (l : List (DataW H)) : bulk (.agg l) = bulkAll l + 1 := by
  simp only [bulk, bulkAll, Go.Proofs.YtgikapdeekepiaaGreatDoor.Rows.uptoBulk]

/-- The start: nothing is unstable. -/
abbrev Γs : Ctx := Ctx.start fun _ _ => False

theorem unst_start {b i : Nat} : ¬ Γs.unst b i := by
  rintro (h | h | ⟨g, gi, h, _⟩)
  · exact h
  · simp [Ctx.start] at h
  · simp [Ctx.start] at h

def VL (w : World) (xs : List AV) (cs : List Value) : Prop := xs.length = cs.length ∧ ∀ (i : Nat) (a : AV) (v : Value), xs[i]? = some a → cs[i]? = some v → VR Γs w a v

theorem VL.nil {w : World} : VL w [] [] := ⟨rfl, fun i a v h => by simp at h⟩

theorem VL.cons {w : World} {a : AV} {v : Value} {xs : List AV} {cs : List Value} (h : VR Γs w a v) (hs : VL w xs cs) : VL w (a :: xs) (v :: cs) :=
  ⟨by simp [hs.1], fun i x u hx hu => by
    cases i with
    | zero => simp at hx hu; subst hx; subst hu; exact h
    | succ i => exact hs.2 i x u (by simpa using hx) (by simpa using hu)⟩

theorem VL.append {w : World} {xs bs : List AV} {cs ds : List Value} (h : VL w xs cs) (hs : VL w bs ds) : VL w (xs ++ bs) (cs ++ ds) :=
  ⟨by simp [h.1, hs.1], fun i x u hx hu => by
    rcases Nat.lt_or_ge i xs.length with hi | hi
    · rw [List.getElem?_append_left hi] at hx
      rw [List.getElem?_append_left (by rw [← h.1]; exact hi)] at hu
      exact h.2 i x u hx hu
    · rw [List.getElem?_append_right hi] at hx
      rw [List.getElem?_append_right (by rw [← h.1]; exact hi)] at hu
      rw [← h.1] at hu
      exact hs.2 _ x u hx hu⟩

theorem list_lt {α : Type} {p : Nat → α → Prop} : ∀ {n : Nat}, (∀ i, i < n → ∃ x, p i x) → ∃ l : List α, l.length = n ∧ ∀ (i : Nat) a, l[i]? = some a → p i a
  | 0, _ => ⟨[], rfl, fun i a h => by simp at h⟩
  | n + 1, h => by
    obtain ⟨l, hl, hp⟩ := list_lt (n := n) fun i hi => h i (by omega)
    obtain ⟨x, hx⟩ := h n (by omega)
    refine ⟨l ++ [x], by simp [hl], fun i a ha => ?_⟩
    rcases Nat.lt_or_ge i n with hi | hi
    · rw [List.getElem?_append_left (by omega)] at ha
      exact hp i a ha
    · rw [List.getElem?_append_right (by omega)] at ha
      have hin : i = n := by
        by_cases hi' : i - l.length = 0
        · omega
        · rw [List.getElem?_eq_none (by simp; omega)] at ha; cases ha
      subst hin
      rw [hl, Nat.sub_self] at ha
      simp at ha
      subst ha
      exact hx

section
variable {H : Type} {enc : TypeId × Value → H} {P : Program} {w : World}

theorem rd_float {t : TypeId} {fuel : Nat} {k : FloatKind} {cs : List Value} {x : DataW H × List MemPlace} (ht : P.underlying t = some (.float k)) (h : DataW.trod enc P w 0 (fun _ => true) true fuel t cs = some x) : ∃ n, cs = [.float k n] := by
  cases fuel with
  | zero => simp [DataW.trod] at h
  | succ n =>
    unfold DataW.trod at h
    rw [ht] at h
    split at h <;> simp_all

/-- A slice, element by element. -/
theorem rd_slc {α : Type} (cell : α → List AV) (Q : α → Prop) {t e : TypeId} {fuel : Nat} {cs : List Value} {x : DataW H × List MemPlace} (ht : P.underlying t = some (.slice e)) (hp : 0 < P.cellsOf e)
    (h : DataW.trod enc P w 0 (fun _ => true) true fuel t cs = some x)
    (hel : ∀ n cs' y, DataW.trod enc P w 0 (fun _ => true) true n e cs' = some y → bulk y.1 < bulk x.1 → ∃ a, Q a ∧ VL w (cell a) cs') :
    ∃ (l : List α) (v : Value), cs = [v] ∧ (∀ a ∈ l, Q a) ∧ l.length < bulk x.1 ∧ VR Γs w (.slc .r (P.cellsOf e) (l.map cell)) v := by
  rcases open_slice ht h with ⟨rfl, rfl⟩ | ⟨a, len, cap, m, n, D, Pl, rfl, hb, hl, hm, hmm, rfl, hx⟩
  · exact ⟨[], _, rfl, (fun a ha => by cases ha), bulk_pos _, .slcR fun _ => rfl⟩
  have hlm : len ≤ m := by simp at hmm; omega
  have hbl : ∀ i, i < len → bulk (D i) < bulk (DataW.slice ((List.range len).map D) ((List.range (m - len)).map fun j => D (len + j))) := fun i hi => by
    have h1 := bulk_mem (l := (List.range len).map D) (d := D i) (List.mem_map.2 ⟨i, List.mem_range.2 hi, rfl⟩)
    rw [bulk_slice]
    omega
  have hlen : len < bulk (DataW.slice ((List.range len).map D) ((List.range (m - len)).map fun j => D (len + j))) := by
    have h1 := bulk_len ((List.range len).map D)
    rw [bulk_slice]
    simp at h1
    simp only [bulkAll] at *
    omega
  obtain ⟨l, hll, hlp⟩ := list_lt (p := fun i (b : α) => Q b ∧ ∃ cs', w.cells? 0 (a.add (i * P.cellsOf e)) (P.cellsOf e) = some cs' ∧ VL w (cell b) cs') (n := len) fun i hi => by
    obtain ⟨cs', h1, h2⟩ := hx i (by omega)
    obtain ⟨b, h3, h4⟩ := hel n cs' _ h2 (hbl i hi)
    exact ⟨b, h3, cs', h1, h4⟩
  refine ⟨l, _, rfl, fun b hb => ?_, by rw [hll]; exact hlen, ?_⟩
  · obtain ⟨i, hi⟩ := List.mem_iff_getElem?.1 hb
    exact (hlp i b hi).1
  by_cases h0 : len = 0
  · obtain rfl := h0
    obtain rfl : l = [] := List.eq_nil_of_length_eq_zero hll
    exact .slcR fun h => by cases h
  obtain ⟨b, off, spot⟩ := a
  obtain rfl : spot = none := by
    obtain ⟨cs', h1, _⟩ := hx 0 (by omega)
    obtain ⟨_, h2, h3⟩ := World.cells?_some h1
    have := h3 0 hp
    rw [List.getElem?_eq_getElem (by omega)] at this
    simpa [Addr.add] using World.cell?_spot this
  have key : ∀ (i j : Nat) (x : List AV) (c : AV), (l.map cell)[i]? = some x → x[j]? = some c → ∃ v, w.cell? ⟨b, off + i * P.cellsOf e + j, none⟩ = some v ∧ VR Γs w c v := by
    intro i j x c hi hj
    rw [List.getElem?_map, Option.map_eq_some_iff] at hi
    obtain ⟨y, hy, rfl⟩ := hi
    obtain ⟨_, cs', h1, h2⟩ := hlp i y hy
    obtain ⟨_, h3, h4⟩ := World.cells?_some h1
    have hjl : j < cs'.length := by rw [← h2.1]; exact (List.getElem?_eq_some_iff.1 hj).1
    have h5 := h4 j (by omega)
    rw [add_plain, add_plain, List.getElem?_eq_getElem hjl] at h5
    exact ⟨_, h5, h2.2 j c _ hj (List.getElem?_eq_getElem hjl)⟩
  have hle : len = (l.map cell).length := by simp [hll]
  rw [hle]
  refine .slc (fun i j => (w.cell? ⟨b, off + i * P.cellsOf e + j, none⟩).getD undef) trivial (by rw [← hle]; exact hl) (fun i x hi => ?_) (fun i j x c hi hj => ?_) (fun i j x c hi hj => unst_start) (fun i j x c hi hj => ?_)
  · rw [List.getElem?_map, Option.map_eq_some_iff] at hi
    obtain ⟨y, hy, rfl⟩ := hi
    obtain ⟨_, cs', h1, h2⟩ := hlp i y hy
    rw [h2.1]
    exact (World.cells?_some h1).2.1
  · obtain ⟨v, h1, _⟩ := key i j x c hi hj
    rw [h1]; rfl
  · obtain ⟨v, h1, h2⟩ := key i j x c hi hj
    rw [h1]; exact h2

end

/-- What the contract of a law gives. -/
theorem Fn.law {P : Program} {f : FuncId} {avs : List AV} (hf : Fn P f avs fun y => y = .bool true) {w : World} {vs : Array Value} (hv : VL w avs vs.toList) :
    Calls P f vs w fun e w' => e = .returned (.bool true) ∧ w'.os = w.os ∧ w'.output = w.output ∧ w.heap.size ≤ w'.heap.size ∧ ∀ b, b < w.heap.size → w'.heap[b]? = w.heap[b]? := by
  refine (hf.call Γs w vs (St.start fun _ _ h => h.elim) ⟨by simpa using hv.1.symm, fun i x v hx hu => hv.2 i x v hx (by simpa using hu)⟩).mono fun e w' hq => ?_
  obtain ⟨Γ', v, r, h', rfl, rfl, hr, _, he⟩ := hq
  cases hr
  exact ⟨rfl, he.io.1, he.io.2, he.size, fun b hb => he.obj b hb (by simp [Ctx.start]) (fun g gi hg => by simp [Ctx.start] at hg)⟩

/-- The arguments read behind the call as they did. -/
theorem law_post {H : Type} {enc : TypeId × Value → H} {P : Program} {f : Func} {s : ChangeSpec} {W W' : World} {args : Array Value} {ds gs : List (DataW H)} {before : List MemPlace} {t : TypeId}
    (hl : laidOutB P = true) (hr : f.params.toList.all (fun t => P.readableRec t && decide (t < P.types.size)) = true) (hvs : s.vars = [])
    (ht : P.underlying t = some .bool) (hrt : f.resultTypes = #[t])
    (hW : DataW.Whole enc P f.params.toList s.vars false W args.toList ds gs before)
    (hres : (s.fn H (ds ++ gs)).results = [.lit (.bool true)]) (hargs : (s.fn H (ds ++ gs)).args = ds) (hvars : (s.fn H (ds ++ gs)).vars = [])
    (hos : W'.os = W.os) (hout : W'.output = W.output) (hold : ∀ b, b < W.heap.size → W'.heap[b]? = W.heap[b]?) :
    s.post enc P f false true false false W args (.bool true) W' := by
  have hW' := hW
  obtain ⟨p, q, hA, hV, rfl, hz, hn⟩ := hW
  rw [hvs] at hV
  obtain ⟨rfl, rfl⟩ := trodVars_none hV
  have hlt : ∀ x ∈ p ++ [], x.block < W.heap.size := fun x hx => hW'.lt x hx
  refine ⟨ds, [], p ++ [], [], p, [], hW', ?_, ?_, ?_, ⟨hos, hout, fun i hi => ?_⟩, fun h => by cases h⟩
  · rw [hres, hrt]
    exact trodAll_mk1 (RowKit.shut_bool ht true)
  · rw [hargs]
    clear hres hargs hvars hrt hW' hz hn
    simp only [List.append_nil] at hlt
    revert hA hr hlt
    generalize f.params.toList = ts
    generalize args.toList = vs
    intro hr hA hlt
    induction ts generalizing vs ds p with
    | nil =>
      obtain ⟨rfl, rfl, rfl⟩ := trodAll_nil hA
      exact rfl
    | cons t ts ih =>
      obtain ⟨v, vs', d, ds', p1, q1, rfl, rfl, rfl, h1, h2⟩ := trodAll_cons hA
      simp only [List.all_cons, Bool.and_eq_true, decide_eq_true_eq] at hr
      refine trodAll_cons_mk (WideElems.Trod_stays hl hr.1.1 hr.1.2 h1 (fun x hx => ?_) (fun x hx => ?_)) (ih _ _ hr.2 h2 fun x hx => hlt x (by simp [hx]))
      · have := hold x.block (hlt x (by simp [hx]))
        cases x with
        | cell b o => exact World.cell?_of_block (w := W) this
        | map b => exact this
      · simpa using hlt x (by simp [hx])
  · rw [hvars, hvs]; rfl
  · rw [hold i hi]
    split <;> simp_all

end Go.Proofs.YtgikapdeekepiaaGreatDoor
