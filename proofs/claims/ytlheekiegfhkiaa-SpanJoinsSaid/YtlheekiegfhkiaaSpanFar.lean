/- Contracts of the given program, for the proofs of its statements: text SpanFar. No conditions beyond those in each theorem. -/
import Derived.Test.YtlheekiegfhkiaaSpanWalk
import Derived.Test.YtlheekiegfhkiaaIntSort
namespace Go.Proofs
open Go.Croft Go.RowKit

def bsd (n at_ : Int) (r : SRoad) : List Int :=
  if r.b = at_ then (if 0 ≤ r.a ∧ r.a < n then [r.a] else []) else if r.a = at_ ∧ 0 ≤ r.b ∧ r.b < n then [r.b] else []
theorem flat_snoc {α β : Type} (f : α → List β) (l : List α) (k : Nat) (h : k < l.length) : (l.take (k + 1)).flatMap f = (l.take k).flatMap f ++ f l[k] := by
  rw [List.take_succ_eq_append_getElem h, List.flatMap_append]; simp
/-- b is next to a -/
def nextTo (n : Int) (l : List SRoad) (a b : Int) : Prop := ∃ r ∈ l, b ∈ bsd n a r

set_option maxHeartbeats 400000 in
theorem beside_c (m : Mem) (w : World) (F : HP) (A : Option Addr) (cap : Nat) (l : List SRoad) (n at_ : Int) (hR : SlR kRoad m A cap l) (hS : St m w F) (hlen : l.length ≤ 1000000) :
    Calls Try.prog 40 #[.int .i64 n, .slice A l.length cap, .int .i64 at_] w fun e w' => ∃ A' cap' out, e = .returned (.slice A' out.length cap') ∧ (∀ x, x ∈ out ↔ nextTo n l at_ x) ∧ out.length ≤ l.length ∧ St m w' (SlO kInt A' cap' out ∗∗ F) := by
  have hlm := hR.len_max
  have HS := Lib.hid hS
  go_enter Try.func40, Try.ntmps40
  go_wp2
  go_loopw [7, 14] (fun v i wr => ∃ (k : Nat) (B : Option Addr) (c : Nat) (o : List Int), k ≤ l.length ∧ i = .int .i64 k ∧ v = .slice B o.length c ∧ o.length ≤ k ∧ Hid (o = (l.take k).flatMap (bsd n at_)) ∧ St m wr (SlO kInt B c o ∗∗ F)) (fun _ i _ => l.length - (intOf i).toNat)
  case atStart => exact ⟨0, none, 0, [], by omega, rfl, rfl, by simp, Lib.hid rfl, SlO.nil hS⟩
  case round =>
    obtain ⟨k, B, c, o, hk, rfl, rfl, hok, ho, hSr⟩ := hrel
    by_cases hlt : k < l.length
    · have hsn := Lib.hid (flat_snoc (bsd n at_) l k hlt)
      obtain ⟨b, off, rfl, hc⟩ := hR.at hSr hlt
      have h0 := hc 0 _ rfl
      have h1 := hc 1 _ rfl
      have h2 := hc 2 _ rfl
      have h3 := hc 3 _ rfl
      simp only [kRoad, Nat.add_zero] at h0 h1 h2 h3
      clear hc
      go_wp2_with fail
      go_quiet (fail)
      go_wp2_with (refine wpl_append1 kInt_ok rfl rfl 26 _ _ 41 rfl rfl rfl Try.underlying26 (by simp) _ _ rfl rfl _ _ _ (fun _ => rfl) (((hSr.alloc _).drewN _).drop) (by simp [kInt]; omega) (by omega) (fun g A' cap' w' hS' => ?_); clear hSr h0 h1 h2 h3)
      all_goals
        refine ⟨?_, by simp [intOf]; omega⟩
        first
          | exact ⟨k + 1, _, _, o ++ [_], by omega, by go_num, by simp, by simp; omega, Lib.hid (by rw [hsn.out, ← ho.out]; congr 1; unfold bsd; clear hsn ho HS hS hR; simp only [beq_iff_eq, beq_eq_false_iff_ne, ne_eq] at *; (split <;> (try split) <;> first | rfl | (exfalso; omega))), hS'⟩
          | exact ⟨k + 1, _, _, o, by omega, by go_num, rfl, by omega, Lib.hid (by rw [hsn.out, ← ho.out, List.self_eq_append_right]; unfold bsd; clear hsn ho HS hS hR; simp only [beq_iff_eq, beq_eq_false_iff_ne, ne_eq] at *; (split <;> (try split) <;> first | rfl | (exfalso; omega))), ((hSr.alloc _).drewN _).drop⟩
    · obtain rfl : k = l.length := by omega
      go_wp2_with fail
      refine (sortInt_c m _ F _ _ o hSr (by omega)).mono ?_
      rintro e w1 ⟨rfl, S1⟩
      have e1 := Lib.hid (List.length_mergeSort (le := fun x y : Int => decide (x ≤ y)) o)
      go_wp2_with fail
      rw [← e1.out]
      refine (compactInt_c m _ F _ _ _ S1).mono ?_
      rintro e w2 ⟨rfl, S2⟩
      go_wp2
      go_ret
      refine ⟨_, _, _, rfl, fun x => ?_, ?_, S2⟩
      · rw [mem_compact, List.mem_mergeSort, ho.out, List.take_length, List.mem_flatMap]; rfl
      · exact Nat.le_trans (compact_le _) (by rw [e1.out]; exact hok)
end Go.Proofs
