/- Contracts of the given program, for the proofs of its statements: text SpanWalk. No conditions beyond those in each theorem. -/
import Derived.Test.YtlheekiegfhkiaaSpanSort
namespace Go.Proofs
open Go.Croft Go.RowKit

instance : Inhabited Pnt := ⟨⟨0, 0, 0, ⟨#[]⟩⟩⟩
def road (l : List Pnt) (i k : Nat) : SRoad := ⟨i, k, Dist.of (distN (l.getD i default).x (l.getD i default).y (l.getD k default).x (l.getD k default).y)⟩
/-- the roads from place i on, up to k -/
def rowR (l : List Pnt) (i k : Nat) : List SRoad := (List.range' (i + 1) (k - (i + 1))).map (road l i)
def pairsTo (l : List Pnt) (i : Nat) : List SRoad := (List.range i).flatMap fun j => rowR l j l.length
theorem rowR_succ (l : List Pnt) (i k : Nat) (h : i + 1 ≤ k) : rowR l i (k + 1) = rowR l i k ++ [road l i k] := by
  unfold rowR
  rw [show k + 1 - (i + 1) = (k - (i + 1)) + 1 by omega, List.range'_concat]
  simp; congr 1; omega
theorem pairsTo_succ (l : List Pnt) (i : Nat) : pairsTo l (i + 1) = pairsTo l i ++ rowR l i l.length := by
  unfold pairsTo; rw [List.range_succ]; simp
theorem rowR_self (l : List Pnt) (i : Nat) : rowR l i (i + 1) = [] := by simp [rowR]
theorem rowR_length (l : List Pnt) (i k : Nat) : (rowR l i k).length = k - (i + 1) := by simp [rowR]
theorem pairsTo_length (l : List Pnt) (i : Nat) : (pairsTo l i).length ≤ i * l.length := by
  induction i with
  | zero => simp [pairsTo]
  | succ i ih => rw [pairsTo_succ, List.length_append, rowR_length, Nat.add_mul]; omega

set_option maxRecDepth 100000 in
set_option maxHeartbeats 1000000 in
theorem all_c (m : Mem) (w : World) (F : HP) (A : Option Addr) (cap : Nat) (l : List Pnt) (hl : l.length ≤ 1000) (hok : ∀ p ∈ l, p.ok) (hR : SlR kPt m A cap l) (hS : St m w F) :
    Calls Try.prog 38 #[.slice A l.length cap] w fun e w' => ∃ A' cap' out, e = .returned (.slice A' out.length cap') ∧ out.Perm (pairsTo l l.length) ∧ St m w' (SlO kRoad A' cap' out ∗∗ F) := by
  have HS := Lib.hid hS
  have HR := Lib.hid hR
  have HOK := Lib.hid hok
  clear hS hR hok
  go_enter Try.func38, Try.ntmps38
  go_wp2
  go_loopw [3, 9] (fun v i wr => ∃ (k : Nat) (B : Option Addr) (c : Nat) (o : List SRoad), k ≤ l.length ∧ i = .int .i64 k ∧ v = .slice B o.length c ∧ o.length ≤ k * 1000 ∧ Hid (o = pairsTo l k) ∧ St m wr (SlO kRoad B c o ∗∗ F)) (fun _ i _ => l.length - (intOf i).toNat)
  case atStart => exact ⟨0, none, 0, [], by omega, rfl, rfl, by simp, Lib.hid rfl, SlO.nil HS.out⟩
  case round =>
    obtain ⟨i, B, c, o, hi, rfl, rfl, hol, ho, hSr⟩ := hrel
    by_cases hlt : i < l.length
    · obtain ⟨b, off, rfl, hc⟩ := HR.out.at hSr hlt
      have h0 := hc 0 _ rfl
      have h1 := hc 1 _ rfl
      have h2 := hc 2 _ rfl
      have h3 := hc 3 _ rfl
      simp only [kPt, Nat.add_zero] at h0 h1 h2 h3
      clear hc
      have hi1 : (i : Int) < 1000 := by omega
      go_wp2_with fail
      obtain ⟨m1, l1, b1, S1⟩ := hSr.allocf (.cells #[.int .i64 l[i].id, .int .u32 l[i].x, .int .u32 l[i].y, .string l[i].data] 54)
      generalize wr.alloc (.cells #[.int .i64 l[i].id, .int .u32 l[i].x, .int .u32 l[i].y, .string l[i].data] 54) = wo at *
      generalize wr.heap.size = g at *
      have R1 := Lib.hid (HR.out.mono l1)
      have B1 := Lib.hid b1
      have L1 := Lib.hid l1
      clear hSr h0 h1 h2 h3 l1 b1
      go_loopw [3, 6] (fun v j w2 => ∃ (k : Nat) (B2 : Option Addr) (c2 : Nat) (o2 : List SRoad), i < k ∧ k ≤ l.length ∧ j = .int .i64 k ∧ v = .slice B2 o2.length c2 ∧ o2.length ≤ i * 1000 + k ∧ Hid (o2 = o ++ rowR l i k) ∧ St m1 w2 (SlO kRoad B2 c2 o2 ∗∗ F)) (fun _ j _ => l.length - (intOf j).toNat)
      case atStart => exact ⟨i + 1, B, c, o, by omega, by omega, by go_num, rfl, by omega, Lib.hid (by rw [rowR_self, List.append_nil]), S1⟩
      case round =>
        obtain ⟨k, B2, c2, o2, hik, hkl, rfl, rfl, hol2, ho2, hS2⟩ := hrel
        by_cases hlk : k < l.length
        · have hold : ∀ W' H', St m1 W' H' → W'.cell? ⟨g, 1, none⟩ = some (.int .u32 l[i].x) ∧ W'.cell? ⟨g, 2, none⟩ = some (.int .u32 l[i].y) ∧ W'.cell? ⟨b, off + k * 4 + 1, none⟩ = some (.int .u32 l[k].x) ∧ W'.cell? ⟨b, off + k * 4 + 2, none⟩ = some (.int .u32 l[k].y) := fun W' H' h => by
            obtain ⟨b', off', he, hc'⟩ := R1.out.at h hlk
            injection he with he; injection he with e1 e2 _
            subst e1 e2
            exact ⟨h.cellM B1.out 1, h.cellM B1.out 2, hc' 1 _ rfl, hc' 2 _ rfl⟩
          have HOLD := Lib.hid hold
          have hs0 := HOLD.out _ _ hS2
          clear hold
          have HB := Lib.hid (between_p l[i].x l[i].y l[k].x l[k].y (HOK.out _ (List.getElem_mem hlt)).x (HOK.out _ (List.getElem_mem hlt)).y (HOK.out _ (List.getElem_mem hlk)).x (HOK.out _ (List.getElem_mem hlk)).y)
          have HD : Hid (Dist.of (distN l[i].x l[i].y l[k].x l[k].y) = (road l i k).d) := by simp [road, Hid, List.getD_eq_getElem?_getD, hlt, hlk]
          rw [HD.out] at HB
          have hk0 : (0 : Int) ≤ k := by omega
          have hk1 : (k : Int) < l.length := by omega
          have hsn := Lib.hid (rowR_succ l i k (by omega))
          go_wp2_with fail
          go_region_held3 (fun W' => W'.cell? ⟨g, 1, none⟩ = some (.int .u32 l[i].x) ∧ W'.cell? ⟨g, 2, none⟩ = some (.int .u32 l[i].y) ∧ W'.cell? ⟨b, off + k * 4 + 1, none⟩ = some (.int .u32 l[k].x) ∧ W'.cell? ⟨b, off + k * 4 + 2, none⟩ = some (.int .u32 l[k].y)) (exact HOLD.out _ _ (by first | assumption | exact St.drew (by assumption) | exact (St.alloc (by assumption) _).drop))
            (first
              | (go_at_call 69; refine (HB.out.at (m := m1) (by first | assumption | exact St.drew (by assumption))).mono ?_; rintro e w' ⟨rfl, hS3⟩)
              | (refine step_append1 kRoad_ok rfl _ _ _ rfl Try.underlying24 _ _ o2 rfl (road l i k) _ rfl _ rfl hS3 _ rfl rfl (by simp [kRoad]; omega) (by omega) ?_; intro B3 c3 w4 hS4))
          clear hs0
          go_wp2
          go_roundw
          case rel => exact ⟨k + 1, B3, c3, o2 ++ [road l i k], by omega, by omega, by go_num, by simp, by simp; omega, Lib.hid (by rw [hsn.out, ho2.out, List.append_assoc]), hS4⟩
          case measure => simp [intOf]; omega
        · obtain rfl : k = l.length := by omega
          have hps := Lib.hid (pairsTo_succ l i)
          go_wp2
          go_roundw
          case rel => exact ⟨i + 1, B2, c2, o2, by omega, by go_num, rfl, by omega, Lib.hid (by rw [hps.out, ho2.out, ho.out]), hS2.weak L1.out⟩
          case measure => simp [intOf]; omega
    · obtain rfl : i = l.length := by omega
      go_wp2_with (go_at_call 70; refine (sortRoad_c m _ F _ _ o hSr (by omega)).mono ?_; rintro e w1 ⟨rfl, o', hp, hS5⟩)
      go_ret
      exact ⟨B, c, o', by rw [hp.length_eq]; rfl, ho.out ▸ hp, hS5⟩
end Go.Proofs
