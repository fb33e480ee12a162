/- Contracts of the given program, for the proofs of its statements: text SpanWalk1. No conditions beyond those in each theorem. -/
import Derived.Test.YtlheekiegfhkiaaSpanKinds
namespace Go.Proofs
open Go.Croft Go.RowKit

set_option maxHeartbeats 400000 in
theorem spanCompare_p (a b : SRoad) : Pure Try.prog 71 #[a.v, b.v] (.int .i64 (cmpR a b)) := by
  intro m w H hS
  unfold SRoad.v
  go_enter Try.func71, Try.ntmps71
  go_wp2
  obtain ⟨m1, l1, b1, S1⟩ := hS.allocf (.cells #[.int .i64 a.a, .int .i64 a.b, .int .u64 a.d.hi, .int .u64 a.d.lo] 78)
  obtain ⟨m2, l2, b2, S2⟩ := S1.allocf (.cells #[.int .i64 b.a, .int .i64 b.b, .int .u64 b.d.hi, .int .u64 b.d.lo] 78)
  replace b1 := l2.blk _ _ b1
  simp only [World.size_alloc] at b2
  generalize (w.alloc (.cells #[.int .i64 a.a, .int .i64 a.b, .int .u64 a.d.hi, .int .u64 a.d.lo] 78)).alloc (.cells #[.int .i64 b.a, .int .i64 b.b, .int .u64 b.d.hi, .int .u64 b.d.lo] 78) = W at *
  generalize w.heap.size = g at *
  have hold : ∀ W', St m2 W' H → St m2 W' H ∧ W'.cell? ⟨g, 0, none⟩ = some (.int .i64 a.a) ∧ W'.cell? ⟨g, 1, none⟩ = some (.int .i64 a.b) ∧ W'.cell? ⟨g, 2, none⟩ = some (.int .u64 a.d.hi) ∧ W'.cell? ⟨g, 3, none⟩ = some (.int .u64 a.d.lo) ∧ W'.cell? ⟨g + 1, 0, none⟩ = some (.int .i64 b.a) ∧ W'.cell? ⟨g + 1, 1, none⟩ = some (.int .i64 b.b) ∧ W'.cell? ⟨g + 1, 2, none⟩ = some (.int .u64 b.d.hi) ∧ W'.cell? ⟨g + 1, 3, none⟩ = some (.int .u64 b.d.lo) :=
    fun W' h => ⟨h, h.cellM b1 0, h.cellM b1 1, h.cellM b1 2, h.cellM b1 3, h.cellM b2 0, h.cellM b2 1, h.cellM b2 2, h.cellM b2 3⟩
  have HOLD := Lib.hid hold
  have HL := Lib.hid (l1.trans l2)
  clear b1 b2 l1 l2 S1 hS hold
  have hs0 := HOLD.out _ S2
  have HC : Hid (Pure Try.prog 106 #[.agg #[.int .u64 a.d.hi, .int .u64 a.d.lo], .agg #[.int .u64 b.d.hi, .int .u64 b.d.lo]] (.int .i64 (cmpD a.d b.d))) := wideCmp_p a.d b.d
  go_region_held3 (fun W' => St m2 W' H ∧ W'.cell? ⟨g, 0, none⟩ = some (.int .i64 a.a) ∧ W'.cell? ⟨g, 1, none⟩ = some (.int .i64 a.b) ∧ W'.cell? ⟨g, 2, none⟩ = some (.int .u64 a.d.hi) ∧ W'.cell? ⟨g, 3, none⟩ = some (.int .u64 a.d.lo) ∧ W'.cell? ⟨g + 1, 0, none⟩ = some (.int .i64 b.a) ∧ W'.cell? ⟨g + 1, 1, none⟩ = some (.int .i64 b.b) ∧ W'.cell? ⟨g + 1, 2, none⟩ = some (.int .u64 b.d.hi) ∧ W'.cell? ⟨g + 1, 3, none⟩ = some (.int .u64 b.d.lo)) (exact HOLD.out _ (by first | assumption | exact And.left (by assumption) | exact St.drew (by assumption) | exact St.drewN (by assumption) _ | exact (St.alloc (by assumption) _).drop | exact (St.alloc (And.left (by assumption)) _).drop))
    (first
      | (go_at_call 106; refine (HC.out.at (m := m2) (H := H) (by exact And.left (by assumption))).mono ?_; rintro e w' ⟨rfl, hS'⟩)
      | (go_at_call 77; refine ((compare_int _ _).at (m := m2) (H := H) (by exact And.left (by assumption))).mono ?_; rintro e w' ⟨rfl, hS'⟩)
      | (go_at_call 105; refine (or_fresh m2 _ H [cmpD a.d b.d, cmpI a.a b.a, cmpI a.b b.b] _ 3 rfl rfl (by simp [maxLen]) (by assumption)).mono ?_; rintro e w' ⟨rfl, hS'⟩))
  go_wp2
  go_ret
  exact ⟨rfl, St.weak (by first | assumption | exact And.left (by assumption)) HL.out⟩

end Go.Proofs
