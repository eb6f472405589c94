/- The other plain operations of the abstract evaluator, and all of them together. -/
import Derived.Test.YtgikapdeekepiaaGreatDoorEvG
set_option linter.unusedSimpArgs false
namespace Go.Proofs.YtgikapdeekepiaaGreatDoor
open Go

/-! Maps. -/

def sameA : TypeDesc → AV → AV → Option Bool
  | .int _, .int k a, .int k' b => if k = k' then some (a == b) else none
  | .string, .str a, .str b => some (a.data.toList == b.data.toList)
  | .bool, .bool a, .bool b => some (a == b)
  | _, _, _ => none

theorem sameA_ok {Γ : Ctx} {w : World} {d : TypeDesc} {a b : AV} {u v : Value} (ha : VR Γ w a u) (hb : VR Γ w b v) {r : Bool} (h : sameA d a b = some r) : Instr.sameNow d u v = some r := by
  unfold sameA at h
  split at h
  · cases ha; cases hb
    split at h
    · rename_i hk; subst hk; cases h; simp [Instr.sameNow]
    · cases h
  · cases ha; cases hb; cases h; simp only [Instr.sameNow, beq_toListBytes, ByteArray.toList_eq]
  · cases ha; cases hb; cases h; simp [Instr.sameNow]
  · cases h

def findA (d : TypeDesc) (k : AV) : List (AV × AV) → Nat → Option (Option (Nat × AV))
  | [], _ => some none
  | e :: es, i =>
    match sameA d k e.1 with
    | some true => some (some (i, e.2))
    | some false => findA d k es (i + 1)
    | none => none

theorem findA_ok {Γ : Ctx} {w : World} {d : TypeDesc} {k : AV} {u : Value} (hk : VR Γ w k u) : ∀ (es : List (AV × AV)) (en : List MapEntry) (i : Nat) (r : Option (Nat × AV)), en.length = es.length →
    (∀ (j : Nat) p e, es[j]? = some p → en[j]? = some e → VR Γ w p.1 e.key ∧ VR Γ w p.2 e.val) → findA d k es i = some r →
    (r = none ∧ Instr.findNow d u en i = some none) ∨ ∃ j x v p e, r = some (i + j, x) ∧ Instr.findNow d u en i = some (some (i + j, v)) ∧ es[j]? = some p ∧ en[j]? = some e ∧ p.2 = x ∧ e.val = v ∧ sameA d k p.1 = some true
  | [], [], i, r, _, _, h => by simp [findA] at h; subst h; exact .inl ⟨rfl, rfl⟩
  | [], _ :: _, _, _, hl, _, _ => by simp at hl
  | _ :: _, [], _, _, hl, _, _ => by simp at hl
  | p :: es, e :: en, i, r, hl, hv, h => by
    have h0 := hv 0 p e (by simp) (by simp)
    simp only [findA] at h
    split at h
    · rename_i hs
      cases h
      refine .inr ⟨0, p.2, e.val, p, e, by simp, ?_, by simp, by simp, rfl, rfl, hs⟩
      simp only [Instr.findNow, sameA_ok hk h0.1 hs, Nat.add_zero]
    · rename_i hs
      rcases findA_ok hk es en (i + 1) r (by simpa using hl) (fun j p e hp he => hv (j + 1) p e (by simpa using hp) (by simpa using he)) h with ⟨h1, h2⟩ | ⟨j, x, v, p', e', h1, h2, h3, h4, h5, h6, h7⟩
      · exact .inl ⟨h1, by simp only [Instr.findNow, sameA_ok hk h0.1 hs]; exact h2⟩
      · refine .inr ⟨j + 1, x, v, p', e', by rw [h1]; congr 2; omega, ?_, by simpa using h3, by simpa using h4, h5, h6, h7⟩
        simp only [Instr.findNow, sameA_ok hk h0.1 hs]
        rw [h2]; congr 3; omega
    · cases h

def plainKey : TypeDesc → Bool
  | .int _ | .string | .bool => true
  | _ => false

theorem checkKey_ok {P : Program} {w : World} {t : TypeId} {d : TypeDesc} (hu : P.underlying t = some d) (hp : plainKey d = true) (b : Bool) (n : Nat) (v : Value) :
    (Instr.checkKey b (n + 1) t v).run P w = .ok () w := by
  cases d <;> simp [plainKey] at hp <;> simp [Instr.checkKey, run_underlying' hu]

theorem run_getObj_map {P : Program} {w : World} {r : Nat} {es : Array MapEntry} {c : Nat} (h : w.heap[r]? = some (.map es c)) : (getObj r).run P w = .ok (.map es c) w := by
  simp [getObj, Sem.run, h]

theorem run_setObj_map {P : Program} {w : World} {r : Nat} {es : Array MapEntry} {c : Nat} (h : w.heap[r]? = some (.map es c)) (o : Obj) : (setObj r o).run P w = .ok () { w with heap := w.heap.setIfInBounds r o } := by
  simp [setObj, Sem.run, h]

def amapEntries (h : AH) : AV → Option (List (AV × AV))
  | .nilm => some []
  | .map k => match h.objs[k]? with
    | some (.map es) => some es
    | _ => none
  | _ => none

def alookup (P : Program) (h : AH) (t : TypeId) (x k : AV) (ok : Bool) : Option AV :=
  match P.underlying t with
  | some (.map kt et) =>
    match P.underlying kt, amapEntries h x with
    | some d, some es =>
      if plainKey d then
        match findA d k es 0 with
        | some (some (_, v)) => some (if ok then .tuple [v, .bool true] else v)
        | some none => match (P.info? et).bind (·.zero) with
          | some z => match AV.ofV 3 z with
            | some v => some (if ok then .tuple [v, .bool false] else v)
            | none => none
          | none => none
        | none => none
      else none
    | _, _ => none
  | _ => none

theorem alookup_ok {P : Program} {Γ : Ctx} {h : AH} {w : World} (hs : St Γ h w) {t : TypeId} {x k y : AV} {u v : Value} {ok : Bool} (hx : VR Γ w x u) (hk : VR Γ w k v) (ha : alookup P h t x k ok = some y) :
    ∃ z, (Instr.lookup t u v ok).run P w = .ok z w ∧ VR Γ w y z := by
  have fin : ∀ {a : AV} {z : Value} {b : Bool}, VR Γ w a z → VR Γ w (if ok then .tuple [a, .bool b] else a) (if ok then .tuple #[z, .bool b] else z) := by
    intro a z b hz
    cases ok
    · exact hz
    · refine .tuple rfl (fun i c v hc hv => ?_)
      match i with
      | 0 => simp at hc hv; subst hc; subst hv; exact hz
      | 1 => simp at hc hv; subst hc; subst hv; exact .bool _
      | i + 2 => simp at hc
  unfold alookup at ha
  split at ha
  · rename_i kt et hu
    split at ha
    · rename_i d es hd hes
      split at ha
      · rename_i hpk
        obtain ⟨en, hen, hel, hev⟩ : ∃ en : Array MapEntry, ((u = .map none ∧ en = #[]) ∨ ∃ b cl, u = .map (some b) ∧ w.heap[b]? = some (.map en cl)) ∧ en.toList.length = es.length ∧
            (∀ (j : Nat) p e, es[j]? = some p → en.toList[j]? = some e → VR Γ w p.1 e.key ∧ VR Γ w p.2 e.val) := by
          cases hx <;> simp only [amapEntries] at hes
          case nilm => cases hes; exact ⟨#[], .inl ⟨rfl, rfl⟩, by simp, by simp⟩
          case map kk b hkk =>
            split at hes
            · rename_i es' ho
              cases hes
              have := hs.objs _ _ _ ho hkk
              cases this with
              | map hb hsz hv =>
                exact ⟨_, .inr ⟨_, _, rfl, hb⟩, by simpa using hsz, fun j p e hp he => hv j p e hp (by simpa using he)⟩
            · cases hes
          all_goals cases hes
        have hck : ∀ b, (Instr.checkKey b 10000 kt v).run P w = .ok () w := fun b => checkKey_ok hd hpk b 9999 v
        split at ha
        · rename_i n val hf
          cases ha
          rcases findA_ok hk es en.toList 0 _ hel hev hf with ⟨h1, _⟩ | ⟨j, x', v', p, e, h1, h2, h3, h4, h5, h6, _⟩
          · cases h1
          · simp only [Option.some.injEq, Prod.mk.injEq] at h1
            refine ⟨_, ?_, fin (z := v') ?_⟩
            · rcases hen with ⟨rfl, rfl⟩ | ⟨b, cl, rfl, hb⟩
              · simp only [Instr.lookup, pure_bind, Sem.run_bind, run_underlying' hu, Result.andThen_ok, hck, Instr.findKey, run_underlying' hd, h2, Sem.run_pure]
              · simp only [Instr.lookup, pure_bind, Sem.run_bind, run_underlying' hu, Result.andThen_ok, run_getObj_map hb, hck, Instr.findKey, run_underlying' hd, h2, Sem.run_pure]
            · rw [h1.2, ← h5, ← h6]; exact (hev j p e h3 h4).2
        · rename_i hf
          split at ha
          · rename_i z hz
            split at ha
            · rename_i zv hzv
              cases ha
              rcases findA_ok hk es en.toList 0 _ hel hev hf with ⟨_, h2⟩ | ⟨j, x', v', p, e, h1, _⟩
              · simp only [Option.bind_eq_some_iff] at hz
                obtain ⟨i, hi, hz⟩ := hz
                refine ⟨_, ?_, fin (z := z) (ofV_ok 3 z zv hzv)⟩
                rcases hen with ⟨rfl, rfl⟩ | ⟨b, cl, rfl, hb⟩
                · simp only [Instr.lookup, pure_bind, Sem.run_bind, run_underlying' hu, Result.andThen_ok, hck, Instr.findKey, run_underlying' hd, h2, Sem.run_pure, zeroValue, typeInfo, run_program, hi, hz]
                · simp only [Instr.lookup, pure_bind, Sem.run_bind, run_underlying' hu, Result.andThen_ok, run_getObj_map hb, hck, Instr.findKey, run_underlying' hd, h2, Sem.run_pure, zeroValue, typeInfo, run_program, hi, hz]
              · cases h1
            · cases ha
          · cases ha
        · cases ha
      · cases ha
    · cases ha
  · cases ha

def amapSet (P : Program) (h : AH) (t : TypeId) (x k v : AV) : Option AH :=
  match P.underlying t, x with
  | some (.map kt _), .map m =>
    match P.underlying kt, h.objs[m]? with
    | some d, some (.map es) =>
      if plainKey d then
        match findA d k es 0 with
        | some (some (i, _)) => some { h.mark m [k, v] with objs := h.objs.set m (.map (es.set i (k, v))) }
        | some none => some { h.mark m [k, v] with objs := h.objs.set m (.map (es ++ [(k, v)])) }
        | none => none
      else none
    | _, _ => none
  | _, _ => none

theorem same_bits {Γ : Ctx} {w : World} {d : TypeDesc} {a b : AV} {u v : Value} (ha : VR Γ w a u) (hb : VR Γ w b v) (h : sameA d a b = some true) (n : Nat) : Instr.sameBits (n + 1) v u = true := by
  unfold sameA at h
  split at h
  · cases ha; cases hb
    split at h
    · rename_i hk; subst hk
      simp only [Option.some.injEq, beq_iff_eq] at h
      subst h; simp [Instr.sameBits]
    · cases h
  · cases ha; cases hb
    rename_i s s'
    have : (s == s') = true := by rw [beq_toListBytes, ByteArray.toList_eq, ByteArray.toList_eq]; exact Option.some.inj h
    have : (s' == s) = true := by rw [beq_toListBytes, ByteArray.toList_eq, ByteArray.toList_eq] at this ⊢; simp at this ⊢; exact this.symm
    simp [Instr.sameBits, this]
  · cases ha; cases hb
    simp only [Option.some.injEq, beq_iff_eq] at h
    subst h; simp [Instr.sameBits]
  · cases h

theorem amapSet_ok {P : Program} {Γ : Ctx} {h h' : AH} {w : World} (hs : St Γ h w) {t : TypeId} {x k y : AV} {u kv v : Value} (hx : VR Γ w x u) (hk : VR Γ w k kv) (hy : VR Γ w y v)
    (ha : amapSet P h t x k y = some h') : ∃ w', (Instr.mapUpdate t u kv v).run P w = .ok () w' ∧ St Γ h' w' ∧ Evo Γ w Γ w' := by
  unfold amapSet at ha
  split at ha
  · rename_i kt et m hu
    split at ha
    · rename_i d es hd ho
      split at ha
      · rename_i hpk
        cases hx with
        | map hm =>
          rename_i b
          have hob := hs.objs _ _ _ ho hm
          cases hob with
          | map hb hsz hv =>
            rename_i en cl
            have hck : ∀ b, (Instr.checkKey b 10000 kt kv).run P w = .ok () w := fun b => checkKey_ok hd hpk b 9999 kv
            obtain ⟨hsm, hkv⟩ := hs.mark m [k, y]
            have hom : (h.mark m [k, y]).objs[m]? = some (.map es) := by rw [AH.mark_objs]; exact ho
            have hold : ∀ (q : AV × AV), m < (h.mark m [k, y]).esc → q ∈ es → Sc (m + 1) q.1 ∧ Sc (m + 1) q.2 := fun q hlt hq => by
              cases hsm.scope _ _ hom hlt with
              | map hcs => exact hcs q hq
            have hnew : m < (h.mark m [k, y]).esc → Sc (m + 1) k ∧ Sc (m + 1) y := fun hlt => ⟨hkv hlt k (by simp), hkv hlt y (by simp)⟩
            have hev : ∀ (j : Nat) p e, es[j]? = some p → en.toList[j]? = some e → VR Γ w p.1 e.key ∧ VR Γ w p.2 e.val := fun j p e hp he => hv j p e hp (by simpa using he)
            have hset : ∀ (o : Obj), ({ w with heap := w.heap.setIfInBounds b o } : World).heap.size = w.heap.size ∧ (∀ b', b' ≠ b → ({ w with heap := w.heap.setIfInBounds b o } : World).heap[b']? = w.heap[b']?) ∧
                ({ w with heap := w.heap.setIfInBounds b o } : World).heap[b]? = some o := by
              intro o
              refine ⟨by simp, fun b' hb' => by simp only; rw [Array.getElem?_setIfInBounds_ne (Ne.symm hb')], ?_⟩
              have := rho_lt hs hm
              simp [this]
            split at ha
            · rename_i i x0 hf
              cases ha
              rcases findA_ok hk es en.toList 0 _ (by simpa using hsz) hev hf with ⟨h1, _⟩ | ⟨j, x', v', p, e, h1, h2, h3, h4, h5, h6, h7⟩
              · cases h1
              · simp only [Option.some.injEq, Prod.mk.injEq, Nat.zero_add] at h1
                obtain ⟨rfl, rfl⟩ := h1
                have hej : en[i]? = some e := by simpa using h4
                have hsb : Instr.sameBits 10000 e.key kv = true := same_bits hk (hev i p e h3 h4).1 h7 9999
                obtain ⟨g1, g2, g3⟩ := hset (.map (en.modify i fun e => { e with key := kv, val := v }) cl)
                obtain ⟨q1, q2⟩ := own_set hsm hm (o := .map (es.set i (k, y))) g1 g2 (fun he => .map g3 (by simp [hsz]) (fun j p' e' hp' he' => by
                  by_cases hij : i = j
                  · subst hij
                    have hlt : i < es.length := (List.getElem?_eq_some_iff.1 h3).1
                    simp only [List.getElem?_set_self hlt, Option.some.injEq] at hp'
                    subst hp'
                    simp [Array.getElem?_modify, hej] at he'
                    subst he'
                    exact ⟨hk.evo he, hy.evo he⟩
                  · rw [List.getElem?_set_ne hij] at hp'
                    rw [Array.getElem?_modify, if_neg hij] at he'
                    exact ⟨(hv j p' e' hp' he').1.evo he, (hv j p' e' hp' he').2.evo he⟩))
                  (fun hlt => .map fun q hq => by
                    rcases List.mem_or_eq_of_mem_set hq with h1 | h1
                    · exact hold q hlt h1
                    · rw [h1]; exact hnew hlt)
                rw [AH.mark_objs] at q1
                refine ⟨_, ?_, q1, q2⟩
                simp only [Nat.zero_add] at h2
                simp only [Instr.mapUpdate, Sem.run_bind, run_underlying' hu, Result.andThen_ok, run_getObj_map hb, hck, Instr.findKey, run_underlying' hd, h2, Sem.run_pure, hej, Option.map_some, Option.getD_some,
                  Instr.keyThatStays, hsb, if_true, run_setObj_map hb]
            · rename_i hf
              cases ha
              rcases findA_ok hk es en.toList 0 _ (by simpa using hsz) hev hf with ⟨_, h2⟩ | ⟨j, x', v', p, e, h1, _⟩
              · obtain ⟨g1, g2, g3⟩ := hset (.map (en.push { key := kv, val := v, born := cl }) (cl + 1))
                obtain ⟨q1, q2⟩ := own_set hsm hm (o := .map (es ++ [(k, y)])) g1 g2 (fun he => .map g3 (by simp [hsz]) (fun j p' e' hp' he' => by
                  rw [Array.getElem?_push] at he'
                  rcases getElem?_snoc hp' with h' | ⟨hj, h'⟩
                  · have hlt := (List.getElem?_eq_some_iff.1 h').1
                    rw [if_neg (by omega)] at he'
                    exact ⟨(hv j p' e' h' he').1.evo he, (hv j p' e' h' he').2.evo he⟩
                  · subst h'
                    rw [if_pos (by omega)] at he'
                    simp at he'
                    subst he'
                    exact ⟨hk.evo he, hy.evo he⟩))
                  (fun hlt => .map fun q hq => by
                    rcases List.mem_append.1 hq with h1 | h1
                    · exact hold q hlt h1
                    · rw [List.mem_singleton.1 h1]; exact hnew hlt)
                rw [AH.mark_objs] at q1
                refine ⟨_, ?_, q1, q2⟩
                simp only [Instr.mapUpdate, Sem.run_bind, run_underlying' hu, Result.andThen_ok, run_getObj_map hb, hck, Instr.findKey, run_underlying' hd, h2, Sem.run_pure, run_setObj_map hb]
              · cases h1
            · cases ha
      · cases ha
    · cases ha
  · cases ha

theorem amakeMap_ok {P : Program} {Γ : Ctx} {h : AH} {w : World} (hs : St Γ h w) (t : TypeId) :
    ∃ Γ' w' u, (Instr.makeMap t none).run P w = .ok u w' ∧ VR Γ' w' (.map h.objs.length) u ∧ St Γ' (h.push (.map [])) w' ∧ Evo Γ w Γ' w' := by
  refine ⟨Γ.own w.heap.size, w.alloc (.map #[] 0), .map (some w.heap.size), by simp [Instr.makeMap], .map (by simp [Ctx.own, hs.len]), hs.own (.map (by unfold World.alloc; exact Array.getElem?_push_size) rfl (by simp)), evo_own _⟩

/-! Small ones. -/

def anilCheck : AV → Bool
  | .ptr _ _ | .rptr _ | .func (.func _) _ _ => true
  | _ => false

def alen (P : Program) (h : AH) (t : TypeId) (x : AV) : Option AV :=
  match P.underlying t, x with
  | some .string, .str s => some (.int .i64 s.size)
  | some (.array n _), _ => some (.int .i64 n)
  | some (.slice _), .nils => some (.int .i64 0)
  | some (.slice _), .slc _ _ es => some (.int .i64 es.length)
  | some (.slice _), .sl _ _ n => some (.int .i64 n)
  | some (.map _ _), .nilm => some (.int .i64 0)
  | some (.map _ _), .map k => match h.objs[k]? with
    | some (.map es) => some (.int .i64 es.length)
    | _ => none
  | _, _ => none

theorem alen_ok {P : Program} {Γ : Ctx} {h : AH} {w : World} (hs : St Γ h w) {t ty : TypeId} {x y : AV} {v : Value} (hx : VR Γ w x v) (ha : alen P h t x = some y) :
    ∃ z, (Builtin.len_ #[t] ty #[v]).run P w = .ok z w ∧ VR Γ w y z := by
  unfold alen at ha
  split at ha
  · rename_i s hu
    cases hx; cases ha
    exact ⟨_, by simp [Builtin.len_, run_underlying' hu, goInt], .int _ _⟩
  · rename_i n e x hu
    cases ha
    exact ⟨_, by simp [Builtin.len_, run_underlying' hu, goInt], .int _ _⟩
  · rename_i e hu
    cases hx; cases ha
    exact ⟨_, by simp [Builtin.len_, run_underlying' hu, goInt], .int _ _⟩
  · rename_i e sk E es hu
    cases ha
    obtain ⟨a, cap, rfl, _⟩ := slc_inv hx
    exact ⟨_, by simp [Builtin.len_, run_underlying' hu, goInt], .int _ _⟩
  · rename_i e k off n hu
    cases hx; cases ha
    exact ⟨_, by simp [Builtin.len_, run_underlying' hu, goInt], .int _ _⟩
  · rename_i k e hu
    cases hx; cases ha
    exact ⟨_, by simp [Builtin.len_, run_underlying' hu, goInt], .int _ _⟩
  · rename_i kt e k hu
    split at ha
    · rename_i es ho
      cases ha
      cases hx with
      | map hk =>
        have := hs.objs _ _ _ ho hk
        cases this with
        | map hb hsz hv =>
          exact ⟨_, by simp [Builtin.len_, run_underlying' hu, goInt, run_getObj_map hb, hsz], .int _ _⟩
    · cases ha
  · cases ha

def amax (mx : Bool) : List AV → Option AV
  | .int k a :: rest => go k a rest
  | _ => none
  where
  go (k : IntKind) (a : Int) : List AV → Option AV
    | [] => some (.int k a)
    | .int _ b :: rest => go k (if (if mx then b > a else b < a) then b else a) rest
    | _ => none

theorem amax_ok {P : Program} {Γ : Ctx} {w : World} {mx : Bool} {xs : List AV} {vs : List Value} (hl : vs.length = xs.length) (hv : ∀ (i : Nat) x v, xs[i]? = some x → vs[i]? = some v → VR Γ w x v) {y : AV}
    (h : amax mx xs = some y) (ts : Array TypeId) (ty : TypeId) : ∃ z, (if mx then Builtin.max_ ts ty vs.toArray else Builtin.min_ ts ty vs.toArray).run P w = .ok z w ∧ VR Γ w y z := by
  have key : ∀ (xs : List AV) (vs : List Value) (k : IntKind) (a : Int) (y : AV), vs.length = xs.length → (∀ (i : Nat) x v, xs[i]? = some x → vs[i]? = some v → VR Γ w x v) → amax.go mx k a xs = some y →
      ∃ z, (vs.foldlM (if mx then Builtin.max2 else Builtin.min2) (.int k a)).run P w = .ok z w ∧ VR Γ w y z := by
    intro xs
    induction xs with
    | nil =>
      intro vs k a y hl _ h
      have : vs = [] := List.length_eq_zero_iff.1 hl
      subst this
      simp [amax.go] at h
      subst h
      exact ⟨_, by simp, .int _ _⟩
    | cons x xs ih =>
      intro vs k a y hl hv h
      cases vs with
      | nil => simp at hl
      | cons v vs =>
        cases x <;> simp only [amax.go] at h
        case int k' b =>
          have h0 := hv 0 (.int k' b) v (by simp) (by simp)
          cases h0
          obtain ⟨z, h1, h2⟩ := ih vs k _ y (by simpa using hl) (fun i x u hx hu => hv (i + 1) x u (by simpa using hx) (by simpa using hu)) h
          refine ⟨z, ?_, h2⟩
          rw [List.foldlM_cons, Sem.run_bind]
          cases mx
          · simp only [Bool.false_eq_true, if_false, Builtin.min2, Sem.run_pure, Result.andThen_ok] at h1 ⊢
            exact h1
          · simp only [if_true, Builtin.max2, Sem.run_pure, Result.andThen_ok] at h1 ⊢
            exact h1
        all_goals cases h
  cases xs with
  | nil => simp [amax] at h
  | cons x xs =>
    cases vs with
    | nil => simp at hl
    | cons v vs =>
      cases x <;> simp only [amax] at h
      case int k a =>
        have h0 := hv 0 (.int k a) v (by simp) (by simp)
        cases h0
        obtain ⟨z, h1, h2⟩ := key xs vs k a y (by simpa using hl) (fun i x u hx hu => hv (i + 1) x u (by simpa using hx) (by simpa using hu)) h
        refine ⟨z, ?_, h2⟩
        cases mx
        · simp only [Bool.false_eq_true, if_false, Builtin.min_] at h1 ⊢; exact h1
        · simp only [if_true, Builtin.max_] at h1 ⊢; exact h1
      all_goals cases h

def aassert (P : Program) (x : AV) (t : TypeId) (ok : Bool) : Option AV :=
  match P.underlying t with
  | some (.interface _) => none
  | none => none
  | some _ =>
    match x with
    | .iface u v =>
      if u = t then some (if ok then .tuple [v, .bool true] else v)
      else if ok then match (P.info? t).bind (·.zero) with
        | some z => (AV.ofV 3 z).map fun y => .tuple [y, .bool false]
        | none => none
      else none
    | .nili =>
      if ok then match (P.info? t).bind (·.zero) with
        | some z => (AV.ofV 3 z).map fun y => .tuple [y, .bool false]
        | none => none
      else none
    | _ => none

theorem tuple2 {Γ : Ctx} {w : World} {a b : AV} {u v : Value} (ha : VR Γ w a u) (hb : VR Γ w b v) : VR Γ w (.tuple [a, b]) (.tuple #[u, v]) := by
  refine .tuple rfl (fun i c z hc hz => ?_)
  match i with
  | 0 => simp at hc hz; subst hc; subst hz; exact ha
  | 1 => simp at hc hz; subst hc; subst hz; exact hb
  | i + 2 => simp at hc

theorem aassert_ok {P : Program} {Γ : Ctx} {w : World} {x y : AV} {v : Value} {t xt : TypeId} {ok : Bool} (hx : VR Γ w x v) (h : aassert P x t ok = some y) :
    ∃ z, (Instr.typeAssert v xt t ok).run P w = .ok z w ∧ VR Γ w y z := by
  unfold aassert at h
  split at h
  · cases h
  · cases h
  · rename_i d hni hd
    have hz : ∀ y', (match (P.info? t).bind (·.zero) with
        | some z => (AV.ofV 3 z).map fun y => AV.tuple [y, .bool false]
        | none => none) = some y' → ∃ z, (zeroValue t).run P w = .ok z w ∧ VR Γ w y' (.tuple #[z, .bool false]) := by
      intro y' hy'
      split at hy'
      · rename_i z hz
        simp only [Option.bind_eq_some_iff] at hz
        obtain ⟨i, hi, hz⟩ := hz
        simp only [Option.map_eq_some_iff] at hy'
        obtain ⟨q, hq, rfl⟩ := hy'
        exact ⟨z, by simp [zeroValue, typeInfo, hi, hz], tuple2 (ofV_ok 3 z q hq) (.bool _)⟩
      · cases hy'
    split at h
    · rename_i u x'
      cases hx with
      | iface hx' =>
        split at h
        · rename_i he
          subst he
          cases h
          cases ok
          · refine ⟨_, ?_, hx'⟩
            cases d <;> first | (exfalso; exact hni _ rfl) | simp [Instr.typeAssert, run_underlying' hd]
          · refine ⟨_, ?_, tuple2 hx' (.bool _)⟩
            cases d <;> first | (exfalso; exact hni _ rfl) | simp [Instr.typeAssert, run_underlying' hd]
        · rename_i he
          split at h
          · rename_i hok
            subst hok
            obtain ⟨z, h1, h2⟩ := hz _ h
            refine ⟨_, ?_, h2⟩
            cases d <;> first | (exfalso; exact hni _ rfl) | simp [Instr.typeAssert, run_underlying' hd, he, h1]
          · cases h
    · cases hx
      split at h
      · rename_i hok
        subst hok
        obtain ⟨z, h1, h2⟩ := hz _ h
        refine ⟨_, ?_, h2⟩
        cases d <;> first | (exfalso; exact hni _ rfl) | simp [Instr.typeAssert, run_underlying' hd, h1]
      · cases h
    · cases h

def concreteT (P : Program) (t : TypeId) : Bool :=
  match P.underlying t with
  | some (.interface _) | none => false
  | _ => true

theorem amakeIface_ok {P : Program} {Γ : Ctx} {w : World} {x : AV} {v : Value} {t : TypeId} (hx : VR Γ w x v) (h : concreteT P t = true) :
    (Instr.makeInterface t v).run P w = .ok (.iface t v) w ∧ VR Γ w (.iface t x) (.iface t v) := by
  refine ⟨?_, .iface hx⟩
  unfold concreteT at h
  cases hd : P.underlying t with
  | none => simp [hd] at h
  | some d => cases d <;> first | (simp [hd] at h; done) | simp [Instr.makeInterface, run_underlying' hd]

def aevals (fr : FT) (os : Array Operand) : Option (List AV) := mapO (aeval fr) os.toList

theorem aevals_ok {Γ : Ctx} {w : World} {fr : FT} {a : Act} (hf : FR Γ w fr a.tmps) {os : Array Operand} {xs : List AV} (h : aevals fr os = some xs) :
    RelL Γ w xs (os.map a.eval) := by
  obtain ⟨hl, hg⟩ := mapO_get h
  refine ⟨by simpa using hl, fun i x v hx hv => ?_⟩
  simp only [Array.getElem?_map, Option.map_eq_some_iff] at hv
  obtain ⟨o, ho, rfl⟩ := hv
  exact aeval_ok hf (hg i o x (by simpa using ho) hx)

end Go.Proofs.YtgikapdeekepiaaGreatDoor
