/- Contracts of the given program, for the proofs of its statements: text KdOrder. No conditions beyond those in each theorem. -/
import Derived.Test.YtlheekiegfhkiaaConcat
namespace Go.Proofs
open Go.Croft Go.RowKit Go.Sort Go.Shelf

theorem orderTail_c (m : Mem) (W : World) (F : HP) (id : Int) (g g2 : Nat) (hg : g = W.heap.size) (hg2 : g2 = W.heap.size + 1) (hS : St m W F) :
    Calls Try.prog 65 #[.slice (some ⟨g2, 0, none⟩) 3 3] (((W.alloc (.cells #[.int .i64 id] 3)).alloc (.cells #[.slice (some ⟨g, 0, none⟩) 1 1, .slice none 0 0, .slice none 0 0] 26)).drew) fun e w' => ∃ A cap, e = .returned (.slice A ([id].length) cap) ∧ St m w' (SlO kInt A cap [id] ∗∗ F) := by
  subst hg hg2
  obtain ⟨m1, l1, S1, R1⟩ := SlR.fresh (k := kInt) [id] hS _ rfl (by simp)
  obtain ⟨m2, l2, S2, R2⟩ := SlR.fresh (k := kSli) [(some ⟨W.heap.size, 0, none⟩, 1, [id]), (none, 0, []), (none, 0, [])] S1 _ rfl (by simp)
  simp only [World.size_alloc] at R2
  refine (concat_c m2 _ F _ _ _ R2 ?_ (by simp [sumLen]) S2.drew).mono ?_
  · intro x hx
    simp at hx
    rcases hx with rfl | rfl
    · exact R1.mono l2
    · exact SlR.nil _ _
  · rintro e w' ⟨A, cap, rfl, S3⟩
    exact ⟨A, cap, rfl, S3.weak (l1.trans l2)⟩

set_option maxRecDepth 100000 in
set_option maxHeartbeats 800000 in
theorem kdOrder1_c (m : Mem) (w : World) (F : HP) (p : Pnt) (v : Option Addr) (hT : KtR m (.node p .nil .nil) v) (hS : St m w F) :
    Calls Try.prog 28 #[.pointer v] w fun e w' => ∃ A cap, e = .returned (.slice A ([p.id].length) cap) ∧ St m w' (SlO kInt A cap [p.id] ∗∗ F) := by
  have HI := Lib.hid fun w hS => kdIs_c m w F (.node p .nil .nil) v hT hS
  obtain ⟨b, vl, vr, fr, rfl, hb, hl, hr⟩ := hT
  obtain rfl : vl = none := hl
  obtain rfl : vr = none := hr
  have HO := Lib.hid fun w (h : St m w F) => kdOrder0_c m w F .nil none rfl rfl h
  have HOLD := Lib.hid fun (w : World) (h : St m w F) => (⟨h, h.cellM hb 1, h.cellM hb 5, h.cellM hb 6⟩ : St m w F ∧ w.cell? ⟨b, 1, none⟩ = some (.int .i64 p.id) ∧ w.cell? ⟨b, 5, none⟩ = some (.pointer none) ∧ w.cell? ⟨b, 6, none⟩ = some (.pointer none))
  have hs0 := HOLD.out _ hS
  have HT := Lib.hid fun W id g g2 => orderTail_c m W F id g g2
  clear hb
  go_enter Try.func28, Try.ntmps28
  go_wp2_with (go_at_call 64; refine (HI.out w hS).mono ?_; rintro e w1 ⟨rfl, rfl⟩; simp only [Kt.is])
  go_region_held3 (fun W' => St m W' F ∧ W'.cell? ⟨b, 1, none⟩ = some (.int .i64 p.id) ∧ W'.cell? ⟨b, 5, none⟩ = some (.pointer none) ∧ W'.cell? ⟨b, 6, none⟩ = some (.pointer none)) (exact HOLD.out _ (by first | assumption | exact St.drop (by assumption) | exact And.left (by assumption) | exact St.drew (by assumption) | exact (St.alloc (by assumption) _).drop | exact (St.alloc (And.left (by assumption)) _).drop))
    (first
      | (go_at_call 28; with_reducible refine (HO.out _ (by first | assumption | exact And.left (by assumption))).mono ?_; rintro e w' ⟨rfl, rfl⟩)
      | (go_at_call 65; with_reducible refine (HT.out _ p.id _ _ rfl rfl (by first | exact hS | exact hS.drew | exact hS.drewN _)).mono ?_; rintro e w' ⟨A1, cap1, rfl, S1⟩))
  all_goals (go_wp2; go_ret; exact ⟨A1, cap1, rfl, S1⟩)
end Go.Proofs
