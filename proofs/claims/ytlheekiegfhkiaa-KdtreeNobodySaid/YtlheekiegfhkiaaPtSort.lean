/- Contracts of the given program, for the proofs of its statements: text PtSort. No conditions beyond those in each theorem. -/
import Derived.Test.YtlheekiegfhkiaaSlc2
import Derived.Test.YtlheekiegfhkiaaPoints
import Derived.Test.YtlheekiegfhkiaaSorts
import Derived.Lib.SliceRun
namespace Go.Proofs
open Go.Croft Go.RowKit

set_option maxRecDepth 100000 in
set_option maxHeartbeats 400000 in
/-- slices.Clone of points -/
theorem clonePt_c (m : Mem) (w : World) (F : HP) (A : Option Addr) (cap : Nat) (l : List Pnt) (hl : l.length ≤ 1000000000) (hR : SlR kPt m A cap l) (hS : St m w F) :
    Calls Try.prog 74 #[.slice A l.length cap] w fun e w' => ∃ A' cap', e = .returned (.slice A' l.length cap') ∧ (A = none → A' = none) ∧ St m w' (SlO kPt A' cap' l ∗∗ F) := by
  cases A with
  | none =>
    have e : l = [] ∧ cap = 0 := by
      rcases hR with ⟨_, h1, h2⟩ | ⟨b, off, h, _⟩
      · exact ⟨h1, h2⟩
      · cases h
    obtain ⟨rfl, rfl⟩ := e
    have hnil := fun w => Lib.run_eql_slice_nil (P := Try.prog) w 22 54 none 0 0 0 0 Try.underlying22
    go_enter Try.func74, Try.ntmps74
    go_wp2
    go_ret
    exact ⟨none, 0, rfl, fun _ => rfl, SlO.nil hS⟩
  | some ad =>
    have HR := Lib.hid hR
    clear hR
    have hnil := fun w => Lib.run_eql_slice_nil (P := Try.prog) w 22 54 (some ad) l.length cap 0 0 Try.underlying22
    have hS1 := SlO.fresh (k := kPt) ([] : List Pnt) hS #[] rfl (by simp)
    go_enter Try.func74, Try.ntmps74
    go_wp2_with (refine wpl_appendR kPt_ok rfl _ _ 22 rfl Try.underlying22 _ _ ([] : List Pnt) rfl hS1 _ _ l rfl HR.out (by simp [kPt]; omega) (by simp; omega) (fun A1 cap1 w1 S1 => ?_))
    go_ret
    exact ⟨A1, cap1, rfl, by simp, S1⟩

set_option maxRecDepth 100000 in
set_option maxHeartbeats 800000 in
/-- slices.SortStableFunc at one point, or none -/
theorem stableTiny (A : Option Addr) (n cap : Nat) (f : Value) (hn : n ≤ 1) (w : World) :
    Calls Try.prog 75 #[.slice A n cap, f] w fun e w' => e = .returned (.tuple #[]) ∧ w' = w := by
  have h1 : (n : Int) ≤ 1 := by omega
  have h2 : ¬ (1 : Int) < n := by omega
  have h3 : ¬ (20 : Int) ≤ n := by omega
  have h4 : ¬ (20 : Int) < n := by omega
  go_enter Try.func75, Try.ntmps75
  go_wp2_with fail
  go_in
  go_wp2_with fail
  refine wp_loop_once ?_
  go_wp2_with fail
  go_in
  go_wp2_with fail
  refine wp_loop_once ?_
  go_wp2_with fail
  go_end0
  go_wp2_with fail
  refine wp_loop_once ?_
  go_wp2_with fail
  trace_state
  go_end0
  go_wp2_with fail
  trace_state
  go_end0
  exact ⟨rfl, rfl⟩
end Go.Proofs
