/- Contracts of the given program, for the proofs of its statements: text Ints. No conditions beyond those in each theorem. -/
import Derived.Test.YtlheekiegfhkiaaSlc2
import Derived.Test.YtlheekiegfhkiaaKinds
namespace Go.Proofs
open Go.Croft Go.RowKit

set_option maxRecDepth 100000 in
set_option maxHeartbeats 800000 in
/-- croftplain.Ints: are two lists one? -/
theorem ints_c (m : Mem) (w : World) (F : HP) (A B : Option Addr) (ca cb : Nat) (la lb : List Int) (hA : SlR kInt m A ca la) (hB : SlR kInt m B cb lb) (hS : St m w F) :
    Calls Try.prog 17 #[.slice A la.length ca, .slice B lb.length cb] w fun e w' => e = .returned (.bool (decide (la = lb))) ∧ St m w' F := by
  have HA := Lib.hid hA
  have HB := Lib.hid hB
  have hlm := hA.len_max
  clear hA hB
  by_cases hl : la.length = lb.length
  · rw [← hl]
    have HLen := Lib.hid hl
    clear hl
    go_enter Try.func17, Try.ntmps17
    go_wp2
    go_loopg [4, 5] la.length (fun r q t wr => ∃ k : Nat, k + r = la.length ∧ q = .bool false ∧ t = .int .i64 k ∧ Hid (la.take k = lb.take k) ∧ St m wr F)
    case atStart => exact ⟨0, by omega, rfl, rfl, Lib.hid rfl, hS⟩
    case round =>
      obtain ⟨k, hk, rfl, rfl, ht, hSr⟩ := hrel
      by_cases hlt : k < la.length
      · have hltb : k < lb.length := by rw [← HLen.out]; exact hlt
        obtain ⟨g, off, rfl, hc⟩ := HA.out.at hSr hlt
        obtain ⟨g2, off2, rfl, hc2⟩ := HB.out.at hSr hltb
        have h0 := hc 0 _ rfl
        have h1 := hc2 0 _ rfl
        simp only [kInt, Nat.add_zero, Nat.mul_one] at h0 h1
        have hcap : la.length ≤ cb := by rw [HLen.out]; exact HB.out.le_cap
        clear hc hc2
        by_cases he : la[k] = lb[k]
        · have hne : (la[k] == lb[k]) = true := by simp [he]
          have hT : Hid (la.take (k + 1) = lb.take (k + 1)) := by
            show _ = _
            rw [List.take_succ_eq_append_getElem hlt, List.take_succ_eq_append_getElem hltb, ht.out, he]
          rw [← he] at h1
          clear he ht
          go_wp2_with fail
          go_quiet (fail)
          go_wp2_with fail
          go_roundg (gk - 1)
          case measure => omega
          case rel => exact ⟨k + 1, by omega, rfl, by go_num, hT, hSr.drewN _⟩
        · have hne : (la[k] == lb[k]) = false := by simp [he]
          have hF : la ≠ lb := fun e => he (by subst e; rfl)
          have HFn := Lib.hid hF
          clear he hF
          go_wp2_with fail
          go_quiet (fail)
          go_wp2_with fail
          go_ret
          exact ⟨by simp [HFn.out], hSr.drewN _⟩
      · obtain rfl : k = la.length := by omega
        have hE : la = lb := by
          have h := ht.out
          rw [List.take_length, HLen.out, List.take_length] at h; exact h
        have HE := Lib.hid hE
        clear hE
        go_wp2_with fail
        go_ret
        exact ⟨by simp [HE.out], hSr⟩
  · have hne : ((la.length : Int) == (lb.length : Int)) = false := beq_eq_false_iff_ne.2 (by omega)
    have hF : la ≠ lb := fun e => hl (by rw [e])
    have HFn := Lib.hid hF
    clear hF hl
    go_enter Try.func17, Try.ntmps17
    go_wp2
    go_ret
    exact ⟨by simp [HFn.out], hS⟩
end Go.Proofs
