/- Contracts of the given program, for the proofs of its statements: text Ends. No conditions beyond those in each theorem. -/
import Derived.Test.YtlheekiegfhkiaaSlc
import Derived.Laws.Rows
namespace Go.Croft
open Go Go.RowKit

/-! The ends of walks: results that lie in variables. -/
section
variable {P : Program} {fn : Func} {R : Ending → World → Prop} {a : Act} {w : World} {m : Mem} {F : HP}

def aggDesc : TypeDesc → Bool
  | .struct _ | .array _ _ => true
  | _ => false
theorem run_var_agg {T T' : TypeId} {g : Nat} {cs : Array Value} {fr : Nat × Nat} (hg : w.heap[g]? = some (.cells cs T' fr)) (hu : (P.underlying T).map aggDesc = some true) (hi : (P.info? T).map (·.size) = some cs.size) :
    (loadVar T ⟨g, 0, none⟩).run P w = .ok (.agg cs) w := by
  obtain ⟨d, hd, hq⟩ : ∃ d, P.underlying T = some d ∧ aggDesc d = true := by
    cases h : P.underlying T with
    | none => rw [h] at hu; cases hu
    | some d => rw [h] at hu; exact ⟨d, rfl, by simpa using hu⟩
  cases d <;> first | exact run_loadVar_row (P := P) w g T' T cs fr _ hg hd rfl hi | cases hq

theorem ret_cell {t : Tmp} {T T' : TypeId} {g : Nat} {cs : Array Value} {fr : Nat × Nat} (hr : fn.results = #[.cell t T]) (hp : a.tmps.getD t undef = .pointer (some ⟨g, 0, none⟩)) (hg : w.heap[g]? = some (.cells cs T' fr))
    (hu : (P.underlying T).map aggDesc = some true) (hi : (P.info? T).map (·.size) = some cs.size) (hd : a.defers = []) (hR : R (.returned (.agg cs)) w) : bodyPost P fn R .ret a w := by
  refine ⟨hd, .agg cs, ?_, hR⟩
  simp only [Array.getD_eq_getD_getElem?] at hp
  simp [results, hr, hp, asAddr, run_var_agg hg hu hi]
theorem ret_cell_tmp {t u : Tmp} {T T' : TypeId} {g : Nat} {cs : Array Value} {fr : Nat × Nat} {x : Value} (hr : fn.results = #[.cell t T, .tmp u]) (hp : a.tmps.getD t undef = .pointer (some ⟨g, 0, none⟩)) (hx : a.tmps.getD u undef = x) (hg : w.heap[g]? = some (.cells cs T' fr))
    (hu : (P.underlying T).map aggDesc = some true) (hi : (P.info? T).map (·.size) = some cs.size) (hd : a.defers = []) (hR : R (.returned (.tuple #[.agg cs, x])) w) : bodyPost P fn R .ret a w := by
  refine ⟨hd, .tuple #[.agg cs, x], ?_, hR⟩
  simp only [Array.getD_eq_getD_getElem?] at hp hx
  simp [results, hr, hp, hx, asAddr, run_var_agg hg hu hi]
theorem ret_int {k : IntKind} {a b : Int} (h : a = b) : Ending.returned (.int k a) = .returned (.int k b) := by rw [h]
theorem ret_bool {a b : Bool} (h : a = b) : Ending.returned (.bool a) = .returned (.bool b) := by rw [h]
theorem ret_val {a b : Value} (h : a = b) : Ending.returned a = .returned b := by rw [h]
end
end Go.Croft
