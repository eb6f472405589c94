/- AuditSequence: values as trees. -/
import Derived.Test.YtgikapdeekepiaaGreatDoorAsA
import Derived.Test.YtgikapdeekepiaaGreatDoorEvU
namespace Go.Proofs.YtgikapdeekepiaaGreatDoor
open Go
set_option linter.unusedVariables false

/-- A row of names. -/
abbrev strs (l : List ByteArray) : AV := .slc .r 1 (l.map fun s => [.str s])

inductive Val where
  | mk (k n : Int) (f : Nat) (s : ByteArray) (nm : List ByteArray) (it : List Val)

mutual
def Val.cells : Val → List AV
  | .mk k n f s nm it => [.int .i64 k, .int .i64 n, .float .f64 f, .str s, strs nm, .slc .r 6 (Val.cellsL it)]
def Val.cellsL : List Val → List (List AV)
  | [] => []
  | v :: l => v.cells :: Val.cellsL l
end

abbrev items (l : List Val) : AV := .slc .r 6 (Val.cellsL l)

theorem strs_get {l : List ByteArray} {i : Nat} {s : ByteArray} (h : l[i]? = some s) : (l.map fun s => [AV.str s])[i]? = some [.str s] := by
  rw [List.getElem?_map, h]; rfl

theorem cellsL_eq : ∀ l : List Val, Val.cellsL l = l.map Val.cells
  | [] => rfl
  | v :: l => by rw [Val.cellsL, cellsL_eq l]; rfl

theorem items_get {l : List Val} {i : Nat} {v : Val} (h : l[i]? = some v) : (Val.cellsL l)[i]? = some v.cells := by
  rw [cellsL_eq, List.getElem?_map, h]; rfl

theorem cellsL_len (l : List Val) : (Val.cellsL l).length = l.length := by rw [cellsL_eq, List.length_map]

theorem pure_strs (l : List ByteArray) : Pure (strs l) := by
  refine .slc fun e he c hc => ?_
  simp only [List.mem_map] at he
  obtain ⟨s, _, rfl⟩ := he
  simp only [List.mem_singleton] at hc
  subst hc
  exact .flat rfl

mutual
theorem Val.pureL : ∀ v : Val, PureL v.cells
  | .mk k n f s nm it => ⟨.flat rfl, .flat rfl, .flat rfl, .flat rfl, pure_strs nm, .slc fun e he c hc => Val.pureLL it e he c hc, trivial⟩
theorem Val.pureLL : ∀ (l : List Val), ∀ e ∈ Val.cellsL l, ∀ c ∈ e, Pure c
  | [], e, he, _, _ => by simp [Val.cellsL] at he
  | v :: l, e, he, c, hc => by
    rw [Val.cellsL] at he
    rcases List.mem_cons.1 he with rfl | he
    · exact (Val.pureL v).all c hc
    · exact Val.pureLL l e he c hc
end

theorem pure_items (l : List Val) : Pure (items l) := .slc (Val.pureLL l)

theorem pure_val (v : Val) : Pure (.agg v.cells) := .agg' v.pureL

theorem get_of_lt {α : Type} {l : List α} {i : Nat} (h : i < l.length) : ∃ x, l[i]? = some x ∧ x ∈ l := ⟨l[i], List.getElem?_eq_getElem h, List.getElem_mem h⟩

/-- All rows in it are of a length that may be counted. -/
def big : Nat := 1048576

mutual
def Val.fit : Val → Prop
  | .mk k n f s nm it => nm.length ≤ 1048576 ∧ it.length ≤ 1048576 ∧ Val.fitL it
def Val.fitL : List Val → Prop
  | [] => True
  | v :: l => v.fit ∧ Val.fitL l
end

theorem fitL_mem : ∀ {l : List Val}, Val.fitL l → ∀ v ∈ l, v.fit
  | [], _, _, h => by cases h
  | x :: l, hl, v, h => by
    rw [Val.fitL] at hl
    rcases List.mem_cons.1 h with rfl | h
    · exact hl.1
    · exact fitL_mem hl.2 v h

end Go.Proofs.YtgikapdeekepiaaGreatDoor
