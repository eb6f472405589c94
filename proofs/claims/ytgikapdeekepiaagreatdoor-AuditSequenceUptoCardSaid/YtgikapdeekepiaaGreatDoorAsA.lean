/- AuditSequence: what the evaluator needs to know of the program; the closed answers. -/
import Derived.Test.YtgikapdeekepiaaGreatDoorProg
import Derived.Test.YtgikapdeekepiaaGreatDoorEvQ
namespace Go.Proofs.YtgikapdeekepiaaGreatDoor
open Go
set_option maxRecDepth 100000

/-- Struct types that are compared, and functions of the outside. -/
def V0 : Env := ⟨[(50, [(3, 0), (3, 1)])], [(108, .cmpstr), (68, .f64bits), (55, .f64from)]⟩

theorem v0_mixed : Tryz.prog.follows .mixedOrders = true := by kernel_rfl

theorem v0_ng : Tryz.prog.funcs.toList.all (fun fn => !(fn.name == "runtime.NumGoroutine")) = true := by kernel_rfl

theorem v0_fields : (Tryz.prog.fieldsOf 50).toList.all (fun f => !(f.name == "_")) = true := by kernel_rfl

def extOk (f : FuncId) (e : Ext) : Prop := (match Tryz.prog.funcs[f]? with
    | some fn => fn.body.isNone && (Extern.findNext fn).isNone
    | none => false) = true ∧ (Tryz.prog.funcs[f]?.bind Extern.find) = some e.row

theorem v0_ext1 : extOk 108 .cmpstr := ⟨by kernel_rfl, by kernel_rfl⟩

theorem v0_ext2 : extOk 68 .f64bits := ⟨by kernel_rfl, by kernel_rfl⟩

theorem v0_ext3 : extOk 55 .f64from := ⟨by kernel_rfl, by kernel_rfl⟩

theorem ext_ok {f : FuncId} {e : Ext} (h : extOk f e) : ∃ fn, Tryz.prog.funcs[f]? = some fn ∧ fn.body.isNone = true ∧ Extern.findNext fn = none ∧ Extern.find fn = some e.row := by
  obtain ⟨h1, h2⟩ := h
  cases hf : Tryz.prog.funcs[f]? with
  | none => rw [hf] at h1; cases h1
  | some fn =>
    rw [hf] at h1 h2
    simp only [Bool.and_eq_true, Option.isNone_iff_eq_none] at h1
    exact ⟨fn, rfl, by simpa using h1.1, h1.2, h2⟩

theorem v0_ok : V0.ok Tryz.prog where
  mixed := v0_mixed
  noNG := fun f fn hf => by
    have hm : fn ∈ Tryz.prog.funcs.toList := List.mem_iff_getElem?.2 ⟨f, by simpa using hf⟩
    have := List.all_eq_true.1 v0_ng fn hm
    simpa using this
  eqs := fun t fs ht => by
    simp only [V0, List.mem_singleton, Prod.mk.injEq] at ht
    obtain ⟨rfl, rfl⟩ := ht
    refine ⟨by kernel_rfl, by kernel_rfl, by kernel_rfl, by kernel_rfl, fun f hf => ?_⟩
    have := List.all_eq_true.1 v0_fields f hf
    simpa using this
  exts := fun f e he => by
    simp only [V0, List.mem_cons, List.not_mem_nil, or_false, Prod.mk.injEq] at he
    rcases he with ⟨rfl, rfl⟩ | ⟨rfl, rfl⟩ | ⟨rfl, rfl⟩
    · exact ext_ok v0_ext1
    · exact ext_ok v0_ext2
    · exact ext_ok v0_ext3

end Go.Proofs.YtgikapdeekepiaaGreatDoor
