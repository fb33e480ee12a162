/- Contracts of the given program, for the proofs of its statements: text SpanJoins. No conditions beyond those in each theorem. -/
import Derived.Test.YtlheekiegfhkiaaSpanLaw
namespace Go.Proofs
open Go.Croft Go.RowKit

theorem wrapSmall (z : Int) (h : -9223372036854775808 ≤ z) (k : z ≤ 9223372036854775807) : IntKind.i64.wrap z = z := by
  simp only [IntKind.wrap, IntKind.bits, IntKind.signed]; simp; split <;> omega
theorem modN (a : Int) (n : Nat) (h : 0 < n) (hn : n ≤ 1000) : ∃ x : Nat, x < n ∧ ((a.tmod n + n).tmod n) = x ∧ -1000 < a.tmod n ∧ a.tmod n < 1000 := by
  have h1 := Int.tmod_lt_of_pos a (by omega : (0 : Int) < n)
  have h2 : -(n : Int) < a.tmod n := by
    have h9 := Int.mul_tdiv_add_tmod a n; have h8 := Int.natAbs_tmod a n; rw [Int.natAbs_natCast] at h8; have := Nat.mod_lt a.natAbs h; omega
  have h3 : 0 ≤ (a.tmod n + n).tmod n := Int.tmod_nonneg _ (by omega)
  have h4 := Int.tmod_lt_of_pos (a.tmod n + n) (by omega : (0 : Int) < n)
  exact ⟨((a.tmod n + n).tmod n).toNat, by omega, by omega, by omega, by omega⟩


set_option maxRecDepth 100000 in
set_option maxHeartbeats 1000000 in
theorem spanJoins_main (m : Mem) (w : World) (F : HP) (A : Option Addr) (cap : Nat) (l : List Pnt) (a b : Int) (hok : ∀ p ∈ l, p.ok) (hR : SlR kPt m A cap l) (hS : St m w F) :
    Calls Try.prog 3 #[.slice A l.length cap, .int .i64 a, .int .i64 b] w fun e w' => e = .returned (.bool true) ∧ ∃ m', m.le m' ∧ St m' w' F := by
  have HR := Lib.hid hR
  have HOK := Lib.hid hok
  clear hR hok
  by_cases hl : l.length ≤ 14
  · go_enter Try.func3, Try.ntmps3
    have hl' : ((l.length : Int)) ≤ 14 := by omega
    go_wp2_with (go_at_call 9; refine (spanAlive_c m w F hS).mono ?_; rintro e w1 ⟨rfl, m1, l1, S1⟩; (have HS := Lib.hid S1); (have HL := Lib.hid l1); clear hS S1 l1)
    go_ways
    case _ =>
      go_ret; exact ⟨rfl, m1, HL.out, HS.out⟩
    case _ =>
      have hn : 0 < l.length := by
        have h : ((l.length : Int) == 0) = false := by assumption
        have h := beq_eq_false_iff_ne.1 h; omega
      obtain ⟨x, hx, ex, p1, p2⟩ := modN a l.length hn (by omega)
      obtain ⟨y, hy, ey, q1, q2⟩ := modN b l.length hn (by omega)
      have nz : (l.length : Int) ≠ 0 := by omega
      have e1 : IntKind.i64.wrap (a.tmod l.length + l.length) = a.tmod l.length + l.length := wrapSmall _ (by omega) (by omega)
      have e2 : IntKind.i64.wrap (b.tmod l.length + l.length) = b.tmod l.length + l.length := wrapSmall _ (by omega) (by omega)
      have hx2 : (x : Int) < 1000 := by omega
      have hy2 : (y : Int) < 1000 := by omega
      clear p1 p2 q1 q2
      go_quiet (fail)
      clear ex ey
      have HS := Lib.hid (HS.out.drewN nq)
      go_wp2_with (go_at_call 10; refine (roads_c m1 _ F A cap l (by omega) HOK.out (HR.out.mono HL.out) HS.out).mono ?_; rintro e w2 ⟨m2, A2, cap2, out, rfl, hconn, hmem, l2, R2, S2⟩; (have HS := Lib.hid S2); (have HL := Lib.hid (HL.out.trans l2)); (have HC := Lib.hid hconn); (have HR2 := Lib.hid R2); (have HM := Lib.hid hmem); clear S2 l2 R2 hconn hmem)
      have hlo : out.length ≤ 1000000 := by
        obtain ⟨rs, hp, hs⟩ := HM.out
        have h1 := hs.length_le
        have h2 := hp.length_eq
        have h3 := pairsTo_length l l.length
        have h4 := Nat.mul_le_mul hl hl
        omega
      clear HM
      refine (way_c m2 w2 F A2 cap2 out l.length x y HR2.out HS.out hlo (by omega) hx hy (HC.out y x hy hx)).mono ?_
      rintro e w3 ⟨A3, cap3, o, rfl, hw, S3⟩
      have h0 : 0 < o.length := by have := hw.last.1; omega
      have hz : ((o.length : Int) == 0) = false := beq_eq_false_iff_ne.2 (by omega)
      obtain ⟨m4, l4, S4, R4⟩ := SlO.freeze S3
      have HL4 := Lib.hid (HL.out.trans l4)
      have HR3 := Lib.hid (HR2.out.mono l4)
      have HS4 := Lib.hid S4
      have HR4 := Lib.hid R4
      have HW := Lib.hid hw
      have hom := R4.len_max
      clear S3 l4 HL HR2 S4 R4 hw HS
      obtain ⟨g, off, rfl, hc⟩ := HR4.out.at HS4.out h0
      have c0 := hc 0 _ rfl
      obtain ⟨g', off', eg, hc'⟩ := HR4.out.at HS4.out (i := o.length - 1) (by omega)
      cases eg
      have c1 := hc' 0 _ rfl
      have f1 : o[0] = (x : Int) := by have := HW.out.first; rw [List.getElem?_eq_getElem h0] at this; exact Option.some.inj this
      have f2 := HW.out.last.2
      rw [f2] at c1; rw [f1] at c0
      simp only [kInt, Nat.mul_one, Nat.add_zero, Nat.zero_mul] at c0 c1
      clear hc hc' f1 f2
      have c1' : w3.cell? ⟨g, off + (((o.length : Int) - 1)).toNat, none⟩ = some (.int .i64 y) := by rw [← c1]; congr 3; omega
      go_wp2
      clear c0 c1 c1'
      go_loopg [6, 11] (o.length - 1) (fun r q t wr => ∃ k : Nat, 1 ≤ k ∧ k ≤ o.length ∧ k + r = o.length ∧ q = .bool false ∧ t = .int .i64 k ∧ St m4 wr F)
      case atStart => exact ⟨1, Nat.le_refl _, by omega, by omega, rfl, rfl, HS4.out⟩
      case round =>
        obtain ⟨k, hk1, hk2, hk, rfl, rfl, hSr⟩ := hrel
        by_cases hlt : k < o.length
        · obtain ⟨u, v, hu, hv, hnx⟩ := HW.out.next (k - 1) (by omega)
          have hv2 : o[k] = (v : Int) := by rw [← hv]; congr 1; omega
          have HJ := Lib.hid (joinedB_of_next hnx)
          have hold : Hid (∀ W', St m4 W' F → St m4 W' F ∧ W'.cell? ⟨g, off + (k - 1), none⟩ = some (.int .i64 u) ∧ W'.cell? ⟨g, off + k, none⟩ = some (.int .i64 v)) := Lib.hid fun W' hS => by
            obtain ⟨g', off', eg, hc'⟩ := HR4.out.at hS (i := k - 1) (by omega)
            cases eg
            have h := hc' 0 _ rfl
            obtain ⟨g', off', eg, hc'⟩ := HR4.out.at hS (i := k) (by omega)
            cases eg
            have h' := hc' 0 _ rfl
            rw [hu] at h; rw [hv2] at h'
            simp only [kInt, Nat.mul_one, Nat.add_zero] at h h'
            exact ⟨hS, h, h'⟩
          clear hu hv hv2 hnx
          have hs0 := hold.out _ hSr
          have k9 : (1 : Int) ≤ k := by omega
          have k0 : (0 : Int) ≤ (k : Int) - 1 := by omega
          have k1 : (k : Int) - 1 < o.length := by omega
          have k2 : (0 : Int) ≤ k := by omega
          have k4 : IntKind.i64.wrap ((k : Int) - 1) = (k : Int) - 1 := wrapSmall _ (by omega) (by omega)
          have k3 : (k : Int) < o.length := by omega
          go_wp2_with fail
          go_region_held3 (fun W' => St m4 W' F ∧ W'.cell? ⟨g, off + (k - 1), none⟩ = some (.int .i64 u) ∧ W'.cell? ⟨g, off + k, none⟩ = some (.int .i64 v)) (exact hold.out _ (by first | assumption | exact And.left (by assumption) | exact St.drew (by assumption) | exact St.drewN (by assumption) _ | exact (St.alloc (by assumption) _).drop | exact (St.alloc (And.left (by assumption)) _).drop))
            (first | (go_at_call 12; refine (joined_c m4 _ F A2 cap2 out u v HR3.out (by first | assumption | exact And.left (by assumption) | exact St.drew (by assumption) | exact St.drewN (by assumption) _ | exact (St.alloc (by assumption) _).drop | exact (St.alloc (And.left (by assumption)) _).drop) HJ.out).mono ?_; rintro e w' ⟨rfl, rfl⟩))
          go_wp2
          go_roundg (gk - 1)
          case measure => omega
          case rel => exact ⟨k + 1, by omega, by omega, by omega, rfl, by go_num, by first | exact hSr.drewN _ | exact hSr.drew⟩
        · obtain rfl : k = o.length := by omega
          go_wp2
          go_ret; exact ⟨rfl, m4, HL4.out, hSr⟩
  · go_enter Try.func3, Try.ntmps3
    have hl' : (14 : Int) < (l.length : Int) := by omega
    have hR2 := HR.out.cut 0 14 (by omega) (by omega)
    have hok2 : ∀ p ∈ (l.take 14).drop 0, p.ok := fun p hp => HOK.out p (by rw [List.drop_zero] at hp; exact List.mem_of_mem_take hp)
    have hlen : ((l.take 14).drop 0).length = 14 := by simp; omega
    have hcap := HR.out.le_cap
    generalize (l.take 14).drop 0 = l2 at hR2 hok2 hlen
    rw [Nat.sub_zero] at hR2
    have hlk : l2.length ≤ l.length := by omega
    have hz : ((l2.length : Int) == 0) = false := beq_eq_false_iff_ne.2 (by omega)
    have HLEN := Lib.hid hlen
    clear hlen
    go_wp2_with (first
      | (go_at_call 9; refine (spanAlive_c m w F hS).mono ?_; rintro e w1 ⟨rfl, m1, l1, S1⟩; (have HS := Lib.hid S1); (have HL := Lib.hid l1); clear hS S1 l1)
      | (refine wpl_slice kPt_ok rfl _ _ _ _ rfl Try.underlying22 A l.length cap rfl 0 l2.length rfl ⟨.i64, by simp [Act.eval, HLEN.out]⟩ (Nat.zero_le _) hlk hcap ?_; generalize sliceAddr A cap 0 kPt.K = A2 at hR2 ⊢))
    have hl : l2.length ≤ 14 := Nat.le_of_eq HLEN.out
    have HR := Lib.hid hR2
    have HOK := Lib.hid hok2
    clear hR2 hok2 hlk hcap hl'
    generalize l2 = l at *
    generalize A2 = A at *
    have hn : 0 < l.length := by
      have h : ((l.length : Int) == 0) = false := by assumption
      have h := beq_eq_false_iff_ne.1 h; omega
    obtain ⟨x, hx, ex, p1, p2⟩ := modN a l.length hn (by omega)
    obtain ⟨y, hy, ey, q1, q2⟩ := modN b l.length hn (by omega)
    have nz : (l.length : Int) ≠ 0 := by omega
    have e1 : IntKind.i64.wrap (a.tmod l.length + l.length) = a.tmod l.length + l.length := wrapSmall _ (by omega) (by omega)
    have e2 : IntKind.i64.wrap (b.tmod l.length + l.length) = b.tmod l.length + l.length := wrapSmall _ (by omega) (by omega)
    have hx2 : (x : Int) < 1000 := by omega
    have hy2 : (y : Int) < 1000 := by omega
    clear p1 p2 q1 q2
    go_quiet (fail)
    clear ex ey
    have HS := Lib.hid (HS.out.drewN nq)
    go_wp2_with (go_at_call 10; refine (roads_c m1 _ F A cap l (by omega) HOK.out (HR.out.mono HL.out) HS.out).mono ?_; rintro e w2 ⟨m2, A2, cap2, out, rfl, hconn, hmem, l2, R2, S2⟩; (have HS := Lib.hid S2); (have HL := Lib.hid (HL.out.trans l2)); (have HC := Lib.hid hconn); (have HR2 := Lib.hid R2); (have HM := Lib.hid hmem); clear S2 l2 R2 hconn hmem)
    have hlo : out.length ≤ 1000000 := by
      obtain ⟨rs, hp, hs⟩ := HM.out
      have h1 := hs.length_le
      have h2 := hp.length_eq
      have h3 := pairsTo_length l l.length
      have h4 := Nat.mul_le_mul hl hl
      omega
    clear HM
    refine (way_c m2 w2 F A2 cap2 out l.length x y HR2.out HS.out hlo (by omega) hx hy (HC.out y x hy hx)).mono ?_
    rintro e w3 ⟨A3, cap3, o, rfl, hw, S3⟩
    have h0 : 0 < o.length := by have := hw.last.1; omega
    have hz : ((o.length : Int) == 0) = false := beq_eq_false_iff_ne.2 (by omega)
    obtain ⟨m4, l4, S4, R4⟩ := SlO.freeze S3
    have HL4 := Lib.hid (HL.out.trans l4)
    have HR3 := Lib.hid (HR2.out.mono l4)
    have HS4 := Lib.hid S4
    have HR4 := Lib.hid R4
    have HW := Lib.hid hw
    have hom := R4.len_max
    clear S3 l4 HL HR2 S4 R4 hw HS
    obtain ⟨g, off, rfl, hc⟩ := HR4.out.at HS4.out h0
    have c0 := hc 0 _ rfl
    obtain ⟨g', off', eg, hc'⟩ := HR4.out.at HS4.out (i := o.length - 1) (by omega)
    cases eg
    have c1 := hc' 0 _ rfl
    have f1 : o[0] = (x : Int) := by have := HW.out.first; rw [List.getElem?_eq_getElem h0] at this; exact Option.some.inj this
    have f2 := HW.out.last.2
    rw [f2] at c1; rw [f1] at c0
    simp only [kInt, Nat.mul_one, Nat.add_zero, Nat.zero_mul] at c0 c1
    clear hc hc' f1 f2
    have c1' : w3.cell? ⟨g, off + (((o.length : Int) - 1)).toNat, none⟩ = some (.int .i64 y) := by rw [← c1]; congr 3; omega
    go_wp2
    clear c0 c1 c1'
    go_loopg [6, 11] (o.length - 1) (fun r q t wr => ∃ k : Nat, 1 ≤ k ∧ k ≤ o.length ∧ k + r = o.length ∧ q = .bool false ∧ t = .int .i64 k ∧ St m4 wr F)
    case atStart => exact ⟨1, Nat.le_refl _, by omega, by omega, rfl, rfl, HS4.out⟩
    case round =>
      obtain ⟨k, hk1, hk2, hk, rfl, rfl, hSr⟩ := hrel
      by_cases hlt : k < o.length
      · obtain ⟨u, v, hu, hv, hnx⟩ := HW.out.next (k - 1) (by omega)
        have hv2 : o[k] = (v : Int) := by rw [← hv]; congr 1; omega
        have HJ := Lib.hid (joinedB_of_next hnx)
        have hold : Hid (∀ W', St m4 W' F → St m4 W' F ∧ W'.cell? ⟨g, off + (k - 1), none⟩ = some (.int .i64 u) ∧ W'.cell? ⟨g, off + k, none⟩ = some (.int .i64 v)) := Lib.hid fun W' hS => by
          obtain ⟨g', off', eg, hc'⟩ := HR4.out.at hS (i := k - 1) (by omega)
          cases eg
          have h := hc' 0 _ rfl
          obtain ⟨g', off', eg, hc'⟩ := HR4.out.at hS (i := k) (by omega)
          cases eg
          have h' := hc' 0 _ rfl
          rw [hu] at h; rw [hv2] at h'
          simp only [kInt, Nat.mul_one, Nat.add_zero] at h h'
          exact ⟨hS, h, h'⟩
        clear hu hv hv2 hnx
        have hs0 := hold.out _ hSr
        have k9 : (1 : Int) ≤ k := by omega
        have k0 : (0 : Int) ≤ (k : Int) - 1 := by omega
        have k1 : (k : Int) - 1 < o.length := by omega
        have k2 : (0 : Int) ≤ k := by omega
        have k4 : IntKind.i64.wrap ((k : Int) - 1) = (k : Int) - 1 := wrapSmall _ (by omega) (by omega)
        have k3 : (k : Int) < o.length := by omega
        go_wp2_with fail
        go_region_held3 (fun W' => St m4 W' F ∧ W'.cell? ⟨g, off + (k - 1), none⟩ = some (.int .i64 u) ∧ W'.cell? ⟨g, off + k, none⟩ = some (.int .i64 v)) (exact hold.out _ (by first | assumption | exact And.left (by assumption) | exact St.drew (by assumption) | exact St.drewN (by assumption) _ | exact (St.alloc (by assumption) _).drop | exact (St.alloc (And.left (by assumption)) _).drop))
          (first | (go_at_call 12; refine (joined_c m4 _ F A2 cap2 out u v HR3.out (by first | assumption | exact And.left (by assumption) | exact St.drew (by assumption) | exact St.drewN (by assumption) _ | exact (St.alloc (by assumption) _).drop | exact (St.alloc (And.left (by assumption)) _).drop) HJ.out).mono ?_; rintro e w' ⟨rfl, rfl⟩))
        go_wp2
        go_roundg (gk - 1)
        case measure => omega
        case rel => exact ⟨k + 1, by omega, by omega, by omega, rfl, by go_num, by first | exact hSr.drewN _ | exact hSr.drew⟩
      · obtain rfl : k = o.length := by omega
        go_wp2
        go_ret; exact ⟨rfl, m4, HL4.out, hSr⟩
end Go.Proofs
