/- Contracts of the given program, for the proofs of its statements: text KdAlive. No conditions beyond those in each theorem. -/
import Derived.Test.YtlheekiegfhkiaaKdOrder
import Derived.Test.YtlheekiegfhkiaaInts
namespace Go.Proofs
open Go.Croft Go.RowKit Go.Sort Go.Shelf

theorem halved_nil {d : Nat} {t : Kt} (h : Halved d [] t) : t = .nil := by
  cases h with
  | nil => rfl
  | node _ _ s1 s2 p L R hp => have := hp.length_eq; simp at this
theorem halved_one {d : Nat} {p : Pnt} {t : Kt} (h : Halved d [p] t) : t = .node p .nil .nil := by
  cases h with
  | node _ _ s1 s2 q L R hp h1 h2 hl hr =>
    have hlen := hp.length_eq
    simp at hlen
    obtain rfl : s1 = [] := List.eq_nil_of_length_eq_zero (by omega)
    obtain rfl : s2 = [] := List.eq_nil_of_length_eq_zero (by omega)
    have e : q = p := by simpa using hp.mem_iff.1 (List.mem_singleton.2 rfl)
    rw [e, halved_nil hl, halved_nil hr]

def p5 : Pnt := ⟨5, 0, 0, ⟨#[]⟩⟩
set_option maxRecDepth 100000 in
set_option maxHeartbeats 800000 in
theorem kdAlive_c (m : Mem) (w : World) (F : HP) (hS : St m w F) :
    Calls Try.prog 20 #[] w fun e w' => e = .returned (.bool true) ∧ ∃ m', m.le m' ∧ St m' w' F := by
  obtain ⟨m1, l1, S1, R1⟩ := SlR.fresh (k := kPt) [p5] hS _ rfl (by simp)
  have HL1 := Lib.hid l1
  have HR1 := Lib.hid R1
  have HS1 := Lib.hid S1
  clear l1 R1 S1
  go_enter Try.func20, Try.ntmps20
  go_wp2_with (first
    | (go_at_call 22; refine (kdNew1_c m1 _ F _ _ [p5] (by simp) HR1.out HS1.out).mono ?_; rintro e w2 ⟨m2, v, t, rfl, l2, K2, D2, S2⟩; obtain rfl := halved_one D2; (have HK := Lib.hid K2); (have HL2 := Lib.hid (HL1.out.trans l2)); clear D2 K2 l2)
    | (go_at_call 29; refine (kdDepth_c _ m2 _ F v HK.out S2 (by simp [Kt.depth])).mono ?_; rintro e w3 ⟨rfl, S3⟩; simp only [Kt.depth]; clear S2)
    | (go_at_call 28; refine (kdOrder1_c m2 _ F p5 v HK.out S3).mono ?_; rintro e w4 ⟨A4, cap4, rfl, S4⟩; obtain ⟨m5, l5, S5, R5⟩ := SlO.freeze S4; obtain ⟨m6, l6, S6, R6⟩ := SlR.fresh (k := kInt) [5] S5 _ rfl (by simp); (have HL6 := Lib.hid (HL2.out.trans (l5.trans l6))); (have HR5 := Lib.hid (R5.mono l6)); (have HR6 := Lib.hid R6); (have HS6 := Lib.hid S6); clear S3 S4 l5 l6 S5 R5 R6 S6)
    | (go_at_call 17; refine (ints_c m6 _ F A4 _ cap4 _ [p5.id] [5] HR5.out HR6.out HS6.out).mono ?_; rintro e w7 ⟨rfl, S7⟩))
  go_ret
  exact ⟨rfl, m6, HL6.out, S7⟩
end Go.Proofs
