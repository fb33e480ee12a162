/- Contracts of the given program, for the proofs of its statements: text SpanSort. No conditions beyond those in each theorem. -/
import Derived.Test.YtlheekiegfhkiaaSpanWalk1
import Derived.Test.YtlheekiegfhkiaaSorts
namespace Go.Proofs
open Go.Croft Go.RowKit Go.Sort Go.Shelf

instance : Inhabited SRoad := ⟨⟨0, 0, ⟨0, 0⟩⟩⟩
theorem cmpI_neg (a b : Int) : cmpI a b < 0 ↔ a < b := by unfold cmpI; split <;> (try split) <;> omega
theorem cmpI_zero (a b : Int) : cmpI a b = 0 ↔ a = b := by unfold cmpI; split <;> (try split) <;> omega
theorem orI_neg (x : Int) (l : List Int) : orI (x :: l) < 0 ↔ x < 0 ∨ (x = 0 ∧ orI l < 0) := by
  simp only [orI]; split <;> omega
theorem orI_zero (x : Int) (l : List Int) : orI (x :: l) = 0 ↔ x = 0 ∧ orI l = 0 := by
  simp only [orI]; split <;> omega
theorem cmpD_neg (a b : Dist) : cmpD a b < 0 ↔ a.hi < b.hi ∨ (a.hi = b.hi ∧ a.lo < b.lo) := by
  unfold cmpD; rw [orI_neg, orI_neg, cmpI_neg, cmpI_neg, cmpI_zero]; simp [orI]
theorem cmpD_zero (a b : Dist) : cmpD a b = 0 ↔ a.hi = b.hi ∧ a.lo = b.lo := by
  unfold cmpD; rw [orI_zero, orI_zero, cmpI_zero, cmpI_zero]; simp [orI]
theorem cmpR_neg (x y : SRoad) : cmpR x y < 0 ↔ (x.d.hi < y.d.hi ∨ (x.d.hi = y.d.hi ∧ x.d.lo < y.d.lo)) ∨ ((x.d.hi = y.d.hi ∧ x.d.lo = y.d.lo) ∧ (x.a < y.a ∨ (x.a = y.a ∧ x.b < y.b))) := by
  unfold cmpR; rw [orI_neg, orI_neg, orI_neg, cmpD_neg, cmpD_zero, cmpI_neg, cmpI_neg, cmpI_zero]; simp [orI]
theorem swoR : SWO (ltOf cmpR) where
  irrefl x := by simp only [ltOf, decide_eq_false_iff_not, cmpR_neg]; omega
  trans x y z h1 h2 := by simp only [ltOf, decide_eq_true_eq, cmpR_neg] at *; omega
  ntrans x y z h1 h2 := by simp only [ltOf, decide_eq_false_iff_not, cmpR_neg] at *; omega

theorem sortRoad_c (m : Mem) (w : World) (F : HP) (A : Option Addr) (cap : Nat) (l : List SRoad) (hS : St m w (SlO kRoad A cap l ∗∗ F)) (hl : l.length ≤ 1000000000) :
    Calls Try.prog 70 #[.slice A l.length cap, .func (.func 71) #[] #[]] w fun e w' => e = .returned (.tuple #[]) ∧ ∃ l', l'.Perm l ∧ St m w' (SlO kRoad A cap l' ∗∗ F) := by
  rcases SlO.open hS with ⟨rfl, rfl, rfl, hF⟩ | ⟨b, off, cs, rfl, h2, h3, h4, h5, h6⟩
  · have HL := fun w => @Try.bits_Len 0 w (by omega) (by omega)
    have HF := Lib.hid hF
    clear hS hF
    go_enter Try.func70, Try.ntmps70
    go_wp2_with ((with_reducible refine (HL _).mono ?_); rintro e w' ⟨rfl, rfl⟩)
    go_in
    go_wp2_with fail
    refine wp_loop_once ?_
    go_wp2_with fail
    go_in
    go_wp2_with fail
    refine wp_loop_once ?_
    go_wp2_with fail
    go_end0
    go_wp2_with fail
    refine bodyPost_ret (results_none rfl _ _ _) rfl ?_
    go_wp2_with fail
    go_end0
    exact ⟨rfl, [], .refl _, SlO.nil HF.out⟩
  · have eg : ∀ args w, (callFunc 71 args).run Try.prog w = .ok (.enter 71 args) w := enters_of Try.func71 (by kernel_rfl) rfl
    have hcon := AnyQ.slices_SortFunc Try.sortRoad kRoad.K Try.isAgg78 Try.sizeOf78 kRoad.enc kRoad.len kRoad.one cmpR swoR 71 #[] b off cap l.toArray w eg
      (CmpLays.of_pure (k := kRoad) (fun x y => spanCompare_p x y) b off _ w) (holdsK_of h6 h5) h6.lt (by simp; omega)
    change Calls Try.prog 70 _ _ _ at hcon
    simp only [List.size_toArray] at hcon
    refine hcon.mono ?_
    rintro e w' ⟨rfl, d, n, os, hp, _, rfl⟩
    have hp' := PermIn.perm (d := l.toArray) (by simpa using hp)
    simp only at hp'
    refine ⟨rfl, d.toList, hp', h6.sorted h2 h3 h4 n d ?_ os⟩
    have := hp'.length_eq; simpa using this
end Go.Proofs
