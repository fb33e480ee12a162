/- Contracts of the given program, for the proofs of its statements: text KdBy. No conditions beyond those in each theorem. -/
import Derived.Test.YtlheekiegfhkiaaPtSort
import Derived.Test.YtlheekiegfhkiaaSpanSort
import Derived.Laws.BitsLemmas
namespace Go.Proofs
open Go.Croft Go.RowKit Go.Sort Go.Shelf

def partP (p : Pnt) (d : Nat) : Nat := if d % 2 = 1 then p.y else p.x
def cmpK (d : Nat) (a b : Pnt) : Int := orI [cmpI (partP a d) (partP b d), cmpI a.id b.id]

theorem i64_keep (z : Int) (h : -9223372036854775808 ≤ z) (k : z ≤ 9223372036854775807) : IntKind.i64.wrap z = z := by
  simp only [IntKind.wrap, IntKind.bits, IntKind.signed]; simp; split <;> omega
theorem and_one (d : Nat) (hd : d ≤ 1000000) : bits .and .i64 (d : Int) 1 = ((d % 2 : Nat) : Int) := by
  have h := bits_mask .i64 62 (by decide) (fun n h0 h1 => i64_keep n (by omega) (by omega)) 1 (by decide) (d : Int) (by omega) (by omega)
  simpa using h

set_option maxRecDepth 100000 in
theorem part_c (p : Pnt) (d : Nat) (hd : d ≤ 1000000) : Pure Try.prog 94 #[p.v, .int .i64 d] (.int .u32 (partP p d)) := by
  intro m w H hS
  unfold Pnt.v
  by_cases hp : d % 2 = 1
  · have h1 : bits .and .i64 (d : Int) 1 = 1 := by rw [and_one d hd, hp]; rfl
    clear hd
    go_enter Try.func94, Try.ntmps94
    go_wp2_with fail
    go_ret
    exact ⟨by simp [partP, hp], (hS.alloc _).drop⟩
  · have h1 : bits .and .i64 (d : Int) 1 = 0 := by rw [and_one d hd, show d % 2 = 0 by omega]; rfl
    clear hd
    go_enter Try.func94, Try.ntmps94
    go_wp2_with fail
    go_ret
    exact ⟨by simp [partP, hp], (hS.alloc _).drop⟩

theorem compare_u32 (a b : Nat) : Pure Try.prog 118 #[.int .u32 a, .int .u32 b] (.int .i64 (cmpI a b)) := .of_same fun w => by
  have hn : ∀ (x : Int) (w : World), Calls Try.prog 156 #[.int .u32 x] w fun e w' => e = .returned (.bool false) ∧ w' = w := fun x w => by
    go_enter Try.func156, Try.ntmps156
    go_wp2
    go_ret; exact ⟨rfl, rfl⟩
  go_enter Try.func118, Try.ntmps118
  go_wp2_with ((with_reducible refine (hn _ _).mono ?_); rintro e w' ⟨rfl, rfl⟩)
  all_goals (go_ret; exact ⟨by simp [cmpI]; omega, rfl⟩)

set_option maxRecDepth 100000 in
set_option maxHeartbeats 800000 in
/-- the closure that by makes -/
theorem by_c (d : Nat) (hd : d ≤ 1000000) (c : Nat) (fr : Nat × Nat) (a b : Pnt) (m : Mem) (w : World) (H : HP) (hb : m.blk c = some (.cells #[.int .i64 d] 3 fr)) (hS : St m w H) :
    Calls Try.prog 117 #[a.v, b.v, .pointer (some ⟨c, 0, none⟩)] w fun e w' => e = .returned (.int .i64 (cmpK d a b)) ∧ St m w' H := by
  unfold Pnt.v
  have hcm := Lib.hid hb
  obtain ⟨m1, l1, b1, S1⟩ := hS.allocf (.cells #[.int .i64 a.id, .int .u32 a.x, .int .u32 a.y, .string a.data] 54)
  obtain ⟨m2, l2, b2, S2⟩ := S1.allocf (.cells #[.int .i64 b.id, .int .u32 b.x, .int .u32 b.y, .string b.data] 54)
  replace b1 := l2.blk _ _ b1
  simp only [World.size_alloc] at b2
  have hc1 := S2.cellM ((l1.trans l2).blk _ _ hb) 0
  by_cases hp : d % 2 = 1
  · have h1 : bits .and .i64 (d : Int) 1 = 1 := by rw [and_one d hd, hp]; rfl
    clear hd hcm
    go_enter Try.func117, Try.ntmps117
    go_wp2_with fail
    generalize (w.alloc (.cells #[.int .i64 a.id, .int .u32 a.x, .int .u32 a.y, .string a.data] 54)).alloc (.cells #[.int .i64 b.id, .int .u32 b.x, .int .u32 b.y, .string b.data] 54) = W at *
    generalize w.heap.size = g at *
    have hold : ∀ W', St m2 W' H → St m2 W' H ∧ W'.cell? ⟨g, 0, none⟩ = some (.int .i64 a.id) ∧ W'.cell? ⟨g, 2, none⟩ = some (.int .u32 a.y) ∧ W'.cell? ⟨g + 1, 0, none⟩ = some (.int .i64 b.id) ∧ W'.cell? ⟨g + 1, 2, none⟩ = some (.int .u32 b.y) :=
      fun W' h => ⟨h, h.cellM b1 0, h.cellM b1 2, h.cellM b2 0, h.cellM b2 2⟩
    have HOLD := Lib.hid hold
    have HL := Lib.hid (l1.trans l2)
    clear b1 b2 l1 l2 S1 hS hold hc1 hb
    have hs0 := HOLD.out _ S2
    go_region_held3 (fun W' => St m2 W' H ∧ W'.cell? ⟨g, 0, none⟩ = some (.int .i64 a.id) ∧ W'.cell? ⟨g, 2, none⟩ = some (.int .u32 a.y) ∧ W'.cell? ⟨g + 1, 0, none⟩ = some (.int .i64 b.id) ∧ W'.cell? ⟨g + 1, 2, none⟩ = some (.int .u32 b.y)) (exact HOLD.out _ (by first | assumption | exact And.left (by assumption) | exact St.drew (by assumption) | exact St.drewN (by assumption) _ | exact (St.alloc (by assumption) _).drop | exact (St.alloc (And.left (by assumption)) _).drop))
      (first
        | (go_at_call 118; refine ((compare_u32 _ _).at (m := m2) (H := H) (by exact And.left (by assumption))).mono ?_; rintro e w' ⟨rfl, hS'⟩)
        | (go_at_call 77; refine ((compare_int _ _).at (m := m2) (H := H) (by exact And.left (by assumption))).mono ?_; rintro e w' ⟨rfl, hS'⟩)
        | (go_at_call 105; refine (or_fresh m2 _ H [cmpI a.y b.y, cmpI a.id b.id] _ 2 rfl rfl (by simp [maxLen]) (by assumption)).mono ?_; rintro e w' ⟨rfl, hS'⟩))
    go_wp2
    go_ret
    exact ⟨by simp [cmpK, partP, hp], St.weak (by first | assumption | exact And.left (by assumption)) HL.out⟩
  · have h1 : bits .and .i64 (d : Int) 1 = 0 := by rw [and_one d hd, show d % 2 = 0 by omega]; rfl
    have hp0 : d % 2 = 0 := by omega
    clear hd hcm hp
    go_enter Try.func117, Try.ntmps117
    go_wp2_with fail
    generalize (w.alloc (.cells #[.int .i64 a.id, .int .u32 a.x, .int .u32 a.y, .string a.data] 54)).alloc (.cells #[.int .i64 b.id, .int .u32 b.x, .int .u32 b.y, .string b.data] 54) = W at *
    generalize w.heap.size = g at *
    have hold : ∀ W', St m2 W' H → St m2 W' H ∧ W'.cell? ⟨g, 0, none⟩ = some (.int .i64 a.id) ∧ W'.cell? ⟨g, 1, none⟩ = some (.int .u32 a.x) ∧ W'.cell? ⟨g + 1, 0, none⟩ = some (.int .i64 b.id) ∧ W'.cell? ⟨g + 1, 1, none⟩ = some (.int .u32 b.x) :=
      fun W' h => ⟨h, h.cellM b1 0, h.cellM b1 1, h.cellM b2 0, h.cellM b2 1⟩
    have HOLD := Lib.hid hold
    have HL := Lib.hid (l1.trans l2)
    clear b1 b2 l1 l2 S1 hS hold hc1 hb
    have hs0 := HOLD.out _ S2
    go_region_held3 (fun W' => St m2 W' H ∧ W'.cell? ⟨g, 0, none⟩ = some (.int .i64 a.id) ∧ W'.cell? ⟨g, 1, none⟩ = some (.int .u32 a.x) ∧ W'.cell? ⟨g + 1, 0, none⟩ = some (.int .i64 b.id) ∧ W'.cell? ⟨g + 1, 1, none⟩ = some (.int .u32 b.x)) (exact HOLD.out _ (by first | assumption | exact And.left (by assumption) | exact St.drew (by assumption) | exact St.drewN (by assumption) _ | exact (St.alloc (by assumption) _).drop | exact (St.alloc (And.left (by assumption)) _).drop))
      (first
        | (go_at_call 118; refine ((compare_u32 _ _).at (m := m2) (H := H) (by exact And.left (by assumption))).mono ?_; rintro e w' ⟨rfl, hS'⟩)
        | (go_at_call 77; refine ((compare_int _ _).at (m := m2) (H := H) (by exact And.left (by assumption))).mono ?_; rintro e w' ⟨rfl, hS'⟩)
        | (go_at_call 105; refine (or_fresh m2 _ H [cmpI a.x b.x, cmpI a.id b.id] _ 2 rfl rfl (by simp [maxLen]) (by assumption)).mono ?_; rintro e w' ⟨rfl, hS'⟩))
    go_wp2
    go_ret
    exact ⟨by simp [cmpK, partP, hp0], St.weak (by first | assumption | exact And.left (by assumption)) HL.out⟩
end Go.Proofs
