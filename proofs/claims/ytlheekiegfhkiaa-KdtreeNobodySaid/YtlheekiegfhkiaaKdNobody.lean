/- Contracts of the given program, for the proofs of its statements: text KdNobody. No conditions beyond those in each theorem. -/
import Derived.Test.YtlheekiegfhkiaaKdAlive
namespace Go.Proofs
open Go.Croft Go.RowKit Go.Sort Go.Shelf

/-- *kdtree.Tree, as an element -/
def kTp : Croft.Kd (Option Addr) where
  K := 1
  ty := 45
  bytes := 8
  enc x := [.pointer x]
  len _ := rfl
  one := by intro x v h; simp at h; subst h; rfl
  pos := by decide

set_option maxRecDepth 100000 in
set_option maxHeartbeats 1600000 in
theorem kdNobody_main (m : Mem) (w : World) (F : HP) (x0 y0 x1 y1 k : Int) (hS : St m w F) :
    Calls Try.prog 6 #[.agg #[.int .u32 x0, .int .u32 y0, .int .u32 x1, .int .u32 y1], .int .i64 k] w fun e w' => e = .returned (.bool true) ∧ ∃ m', m.le m' ∧ St m' w' F := by
  obtain ⟨m1, l1, b1, S1⟩ := hS.allocf (.cells #[.int .u32 x0, .int .u32 y0, .int .u32 x1, .int .u32 y1] 43)
  obtain ⟨m2, l2, b2, S2⟩ := S1.allocf (.cells #[.bool false, .int .i64 0, .int .u32 0, .int .u32 0, .string ⟨#[]⟩, .pointer none, .pointer none] 56)
  simp only [World.size_alloc] at b2
  have b3 := l2.blk _ _ b1
  have HL := Lib.hid (l1.trans l2)
  have HS := Lib.hid S2
  clear l1 l2 S1 S2 b1 hS
  generalize hg : w.heap.size = g at *
  go_enter Try.func6, Try.ntmps6
  go_wp2_with fail
  have q := kdNew1_c m2 _ F none 0 [] (by simp) (SlR.nil _ _) HS.out
  (refine q.mono ?_; rintro e w2 ⟨m3, v, t, rfl, l3, K3, D3, S3⟩; obtain rfl := halved_nil D3; obtain rfl : v = none := K3; obtain ⟨m4, l4, S4, R4⟩ := SlR.fresh (k := kTp) [none, some ⟨g + 1, 0, none⟩, none] S3 _ rfl (by simp); (have B2 := (l3.trans l4).blk _ _ b2); (have B3 := (l3.trans l4).blk _ _ b3); clear D3)
  clear q b2 b3 HS
  simp only [kTp] at S4
  have HL4 := Lib.hid (HL.out.trans (l3.trans l4))
  have hv : ∀ j, j < 3 → ∃ (t : Kt) (v : Option Addr), KtR m4 t v ∧ t.is = false ∧ [none, some (Addr.mk (g + 1) 0 none), none][j]? = some v := by
    intro j hj
    match j, hj with
    | 0, _ => exact ⟨.nil, none, rfl, rfl, rfl⟩
    | 1, _ => exact ⟨.blank, _, ⟨g + 1, _, rfl, B2⟩, rfl, rfl⟩
    | 2, _ => exact ⟨.nil, none, rfl, rfl, rfl⟩
  have HV := Lib.hid hv
  have HB := Lib.hid B3
  have HR := Lib.hid R4
  clear hv B2 B3 R4 l3 l4 S3 HL
  go_wp2_with fail
  go_loopg [4, 7] 3 (fun r q t wr => ∃ j : Nat, j + r = 3 ∧ q = .bool false ∧ t = .int .i64 j ∧ St m4 wr F)
  case atStart => exact ⟨0, rfl, rfl, rfl, S4⟩
  case round =>
    obtain ⟨j, hj, rfl, rfl, hSr⟩ := hrel
    by_cases hlt : j < 3
    · obtain ⟨t, v, hT, hti, hjv⟩ := HV.out j hlt
      have HOLD := Lib.hid fun (W : World) (h : St m4 W F) => (⟨h, by
          obtain ⟨b', off', e', hc'⟩ := HR.out.at h (i := j) (by simpa using hlt)
          cases e'
          have c0 := hc' 0 _ rfl
          simp only [kTp, Nat.mul_one, Nat.add_zero, Nat.zero_add] at c0
          rw [c0]
          have : [none, some (Addr.mk (g + 1) 0 none), none][j]? = some ([none, some (Addr.mk (g + 1) 0 none), none][j]'(by simpa using hlt)) := List.getElem?_eq_getElem _
          rw [hjv] at this
          rw [← Option.some.inj this], h.cellM HB.out 0, h.cellM HB.out 1, h.cellM HB.out 2, h.cellM HB.out 3⟩ : St m4 W F ∧ W.cell? ⟨w2.heap.size, j, none⟩ = some (.pointer v) ∧ W.cell? ⟨g, 0, none⟩ = some (.int .u32 x0) ∧ W.cell? ⟨g, 1, none⟩ = some (.int .u32 y0) ∧ W.cell? ⟨g, 2, none⟩ = some (.int .u32 x1) ∧ W.cell? ⟨g, 3, none⟩ = some (.int .u32 y1))
      have hs0 := HOLD.out _ hSr
      have C1 := Lib.hid fun (W : World) (h : St m4 W F) => kdRange0_c m4 W F t v hT hti h x0 y0 x1 y1
      have C2 := Lib.hid fun (W : World) (h : St m4 W F) => kdNear0_c m4 W F t v hT hti h 1 2 k
      have C3 := Lib.hid fun (W : World) (h : St m4 W F) => kdOrder0_c m4 W F t v hT hti h
      have C4 := Lib.hid fun (W : World) (h : St m4 W F) => kdDepth_c t m4 W F v hT h (by cases t <;> simp_all [Kt.is, Kt.depth])
      have h4 : t.depth = 0 := by cases t <;> simp_all [Kt.is, Kt.depth]
      have j1 : (j : Int) < 3 := by omega
      have j0 : (0 : Int) ≤ j := by omega
      rw [h4] at C4
      clear hT hti hjv h4
      go_wp2_with fail
      go_region_held3 (fun W => St m4 W F ∧ W.cell? ⟨w2.heap.size, j, none⟩ = some (.pointer v) ∧ W.cell? ⟨g, 0, none⟩ = some (.int .u32 x0) ∧ W.cell? ⟨g, 1, none⟩ = some (.int .u32 y0) ∧ W.cell? ⟨g, 2, none⟩ = some (.int .u32 x1) ∧ W.cell? ⟨g, 3, none⟩ = some (.int .u32 y1)) (exact HOLD.out _ (by first | assumption | exact And.left (by assumption) | exact St.drew (by assumption) | exact St.drewN (by assumption) _ | exact (St.alloc (by assumption) _).drop | exact (St.alloc (And.left (by assumption)) _).drop))
        (first
          | (go_at_call 24; with_reducible refine (C1.out _ (by first | assumption | exact And.left (by assumption))).mono ?_; rintro e w' ⟨A1, cap1, rfl, hS1⟩)
          | (go_at_call 26; with_reducible refine (C2.out _ (by first | assumption | exact And.left (by assumption))).mono ?_; rintro e w' ⟨rfl, hS2⟩)
          | (go_at_call 28; with_reducible refine (C3.out _ (by first | assumption | exact And.left (by assumption))).mono ?_; rintro e w' ⟨rfl, rfl⟩)
          | (go_at_call 29; with_reducible refine (C4.out _ (by first | assumption | exact And.left (by assumption))).mono ?_; rintro e w' ⟨rfl, hS4⟩))
      have w0 : IntKind.i64.wrap 0 = 0 := by decide
      go_wp2
      go_roundg (gk - 1)
      case measure => omega
      case rel => exact ⟨j + 1, by omega, rfl, by go_num, hS4⟩
    · obtain rfl : j = 3 := by omega
      go_wp2_with (go_at_call 20; refine (kdAlive_c m4 _ F hSr).mono ?_; rintro e w5 ⟨rfl, m5, l5, S5⟩)
      go_ret
      exact ⟨rfl, m5, HL4.out.trans l5, S5⟩
end Go.Proofs
