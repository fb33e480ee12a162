/- Contracts of the given program, for the proofs of its statements: text Concat. No conditions beyond those in each theorem. -/
import Derived.Test.YtlheekiegfhkiaaKdNone
import Derived.Lib.AppendZerosOnto
namespace Go.Croft
open Go Go.RowKit
variable {α : Type} {P : Program} {k : Kd α} {m : Mem} {w : World} {F : HP}

/-- append(nil, make([]E, n)..) -/
theorem run_append_make_nil (hk : KdOk P k) (t tn : TypeId) (kn kq : IntKind) (ht : P.underlying t = some (.slice k.ty)) (htn : P.underlying tn = some (.int kn)) (hS : St m w F) (n : Nat) (h0 : 0 < n) (hb : n * k.bytes ≤ 140737488355328) (hn : n ≤ 4611686018427387904) :
    ∃ b cap' w', (∀ ty, (Builtin.append_ #[t, tn] ty #[.slice none 0 0, .int kq n]).run P w = .ok (.slice (some ⟨b, 0, none⟩) n cap') w') ∧ n ≤ cap' ∧ cap' ≤ 9223372036854775807 ∧ St m w' (SlO k (some ⟨b, 0, none⟩) cap' [] ∗∗ F) := by
  obtain ⟨⟨i, z, hi, hz, hsz, hby, hzs⟩, _⟩ := hk
  have hr := fun ty => Lib.run_append_grow_zeros (P := P) w t tn ty k.ty i z kq kn ht htn hi hz none 0 0 [] (run_firstCells_none w.drew i.size 0 0 0) n h0 (by rw [hsz]; exact k.pos) (by omega) (by omega)
    (by rw [hby]; omega) (by rw [hby, Nat.zero_add]; exact growslice_fits (by omega) (by omega))
  have hge : 0 + n ≤ grownCap w (0 + n) 0 k.ty := grownCap_ge w _ 0 k.ty
  have hlm : grownCap w (0 + n) 0 k.ty ≤ maxLen := grownCap_le_maxLen w _ 0 k.ty (by simp only [maxLen]; omega)
  simp only [Nat.zero_add] at hr hge hlm
  generalize grownCap w n 0 k.ty = c at hr hge hlm
  refine ⟨w.heap.size, c, _, hr, hge, by simp only [maxLen] at hlm; omega, SlO.mk (hS.drew.alloc _) (by simp) ?_ hlm (Holds.nil _ _ _)⟩
  simp only [Array.size_append, List.size_toArray, List.length_nil, Array.size_empty, size_zeroCells, hzs]
  have : n * k.K + (c - n) * k.K = c * k.K := by rw [← Nat.add_mul]; congr 1; omega
  omega
end Go.Croft
namespace Go.Proofs
open Go.Croft Go.RowKit

set_option maxRecDepth 100000 in
theorem growInt_c (m : Mem) (w : World) (F : HP) (n : Nat) (hn : n ≤ 1000000) (hS : St m w F) :
    Calls Try.prog 98 #[.slice none 0 0, .int .i64 n] w fun e w' => ∃ A' cap', e = .returned (.slice A' (([] : List Int).length) cap') ∧ St m w' (SlO kInt A' cap' [] ∗∗ F) := by
  by_cases h0 : n = 0
  · subst h0
    go_enter Try.func98, Try.ntmps98
    go_wp2
    go_ret
    exact ⟨none, 0, rfl, SlO.nil hS⟩
  · have hp : (0 : Int) < n := by omega
    have hw : IntKind.i64.wrap (n : Int) = n := i64_keep _ (by omega) (by omega)
    obtain ⟨b, c, w1, hr, h1, h2, S1⟩ := run_append_make_nil kInt_ok 26 3 .i64 .i64 Try.underlying26 Try.underlying3 hS n (by omega) (by simp [kInt]; omega) (by omega)
    have hs1 := fun w => run_slice_to (P := Try.prog) kInt_ok 26 Try.underlying26 none 0 0 0 .i64 (by omega) (by omega) w
    have hs2 := fun w => run_slice_to (P := Try.prog) kInt_ok 26 Try.underlying26 (some ⟨b, 0, none⟩) n c 0 .i64 (by omega) h1 w
    have e1 : sliceAddr none 0 0 kInt.K = none := rfl
    have e2 : sliceAddr (some ⟨b, 0, none⟩) c 0 kInt.K = some ⟨b, 0, none⟩ := by
      unfold sliceAddr; split
      · rfl
      · simp [Addr.add]
    rw [e1] at hs1
    rw [e2] at hs2
    simp only [Int.ofNat_zero, Int.natCast_zero, Int.cast_ofNat_Int] at hs1 hs2
    go_enter Try.func98, Try.ntmps98
    have HRZ := Lib.hid hr
    clear hr
    go_wp2_with (at_builtin; refine Lib.wpList_append_run _ rfl _ _ _ _ rfl _ _ rfl rfl _ _ (HRZ.out _) ?_)
    go_ret
    exact ⟨_, c, rfl, S1⟩

/-- slices of whole numbers, as elements -/
def kSli : Kd (Option Addr × Nat × List Int) where
  K := 1
  ty := 26
  bytes := 24
  enc x := [.slice x.1 x.2.2.length x.2.1]
  len _ := rfl
  one := by intro x v h; simp at h; subst h; rfl
  pos := by decide
theorem kSli_ok : KdOk Go.Proofs.Try.prog kSli := .of (by kernel_rfl) (by decide)

def sumLen (L : List (Option Addr × Nat × List Int)) : Nat := (L.map fun x => x.2.2.length).sum
theorem sumLen_take (L : List (Option Addr × Nat × List Int)) (k : Nat) (h : k < L.length) : sumLen (L.take (k + 1)) = sumLen (L.take k) + L[k].2.2.length := by
  unfold sumLen; rw [List.take_succ_eq_append_getElem h, List.map_append, List.sum_append, List.map_cons, List.map_nil, List.sum_cons, List.sum_nil, Nat.add_zero]
theorem sumLen_le (L : List (Option Addr × Nat × List Int)) (k : Nat) : sumLen (L.take k) ≤ sumLen L := by
  unfold sumLen
  conv => rhs; rw [← List.take_append_drop k L, List.map_append, List.sum_append]
  omega
def catI (L : List (Option Addr × Nat × List Int)) : List Int := L.flatMap fun x => x.2.2
theorem catI_take (L : List (Option Addr × Nat × List Int)) (k : Nat) (h : k < L.length) : catI (L.take (k + 1)) = catI (L.take k) ++ L[k].2.2 := by
  unfold catI; rw [List.take_succ_eq_append_getElem h, List.flatMap_append, List.flatMap_cons, List.flatMap_nil, List.append_nil]
theorem catI_length (L : List (Option Addr × Nat × List Int)) : (catI L).length = sumLen L := by
  unfold catI sumLen; simp [List.length_flatMap]

set_option maxRecDepth 100000 in
set_option maxHeartbeats 800000 in
/-- slices.Concat -/
theorem concat_c (m : Mem) (w : World) (F : HP) (A : Option Addr) (cap : Nat) (L : List (Option Addr × Nat × List Int)) (hL : SlR kSli m A cap L) (hx : ∀ x ∈ L, SlR kInt m x.1 x.2.1 x.2.2) (hn : sumLen L ≤ 1000000) (hS : St m w F) :
    Calls Try.prog 65 #[.slice A L.length cap] w fun e w' => ∃ A' cap', e = .returned (.slice A' (catI L).length cap') ∧ St m w' (SlO kInt A' cap' (catI L) ∗∗ F) := by
  have HL := Lib.hid hL
  have HX := Lib.hid hx
  have hlm := hL.len_max
  clear hL hx
  go_enter Try.func65, Try.ntmps65
  go_wp2
  go_loopg [3, 11] L.length (fun r q t wr => ∃ k : Nat, k ≤ L.length ∧ k + r = L.length ∧ q = .int .i64 (sumLen (L.take k)) ∧ t = .int .i64 k ∧ wr = w)
  case atStart => exact ⟨0, by omega, by omega, by simp [sumLen], rfl, rfl⟩
  case round =>
    obtain ⟨k, hk, hkr, rfl, rfl, rfl⟩ := hrel
    by_cases hlt : k < L.length
    · obtain ⟨g, off, rfl, hc⟩ := HL.out.at hS hlt
      have h0 := hc 0 _ rfl
      simp only [kSli, Nat.add_zero, Nat.mul_one] at h0
      have hs := sumLen_take L k hlt
      have hle := sumLen_le L (k + 1)
      have hq : ∃ q, q = sumLen (L.take k) := ⟨_, rfl⟩
      obtain ⟨q, hq⟩ := hq
      rw [← hq] at hs ⊢
      have hw : IntKind.i64.wrap ((q : Int) + (L[k].2.2.length : Int)) = (q : Int) + (L[k].2.2.length : Int) := i64_keep _ (by omega) (by omega)
      have hnn : ¬ ((q : Int) + (L[k].2.2.length : Int)) < 0 := by omega
      have HS2 := Lib.hid hs
      clear hc hs hq
      go_wp2
      go_roundg (gk - 1)
      case measure => omega
      case rel => exact ⟨k + 1, by omega, by omega, by rw [HS2.out]; simp, by go_num, rfl⟩
    · obtain rfl : k = L.length := by omega
      rw [List.take_length]
      obtain ⟨n, hn'⟩ : ∃ n, n = sumLen L := ⟨_, rfl⟩
      rw [← hn'] at hn ⊢
      have HN := Lib.hid hn'
      clear hn'
      go_wp2_with (go_at_call 98; refine (growInt_c m _ F n (by omega) hS).mono ?_; rintro e w2 ⟨A1, cap1, rfl, S1⟩; clear hS)
      go_loopg [6, 27] L.length (fun r q t wr => ∃ (k : Nat) (B : Option Addr) (c : Nat) (o : List Int), k ≤ L.length ∧ k + r = L.length ∧ q = .slice B o.length c ∧ t = .int .i64 k ∧ o.length ≤ n ∧ Hid (o = catI (L.take k)) ∧ St m wr (SlO kInt B c o ∗∗ F))
      case atStart => exact ⟨0, A1, cap1, [], by omega, by omega, rfl, rfl, by simp, Lib.hid (by simp [catI]), S1⟩
      case round =>
        obtain ⟨k, B, c, o, hk, hkr, rfl, rfl, hlo, ho, hSr⟩ := hrel
        by_cases hlt : k < L.length
        · obtain ⟨g, off, rfl, hc⟩ := HL.out.at hSr hlt
          have h0 := hc 0 _ rfl
          simp only [kSli, Nat.add_zero, Nat.mul_one] at h0
          have hs := catI_take L k hlt
          have hls : (catI (L.take (k + 1))).length ≤ n := by rw [catI_length, HN.out]; exact sumLen_le L (k + 1)
          rw [hs, ← ho.out, List.length_append] at hls
          have HX1 := Lib.hid (HX.out _ (List.getElem_mem hlt))
          have HS2 := Lib.hid hs
          clear hc hs
          go_wp2_with (refine wpl_appendR kInt_ok rfl _ _ 26 rfl Try.underlying26 B c o rfl hSr L[k].1 L[k].2.1 L[k].2.2 rfl HX1.out (by simp [kInt]; omega) (by omega) (fun B2 c2 w3 S2 => ?_))
          go_roundg (gk - 1)
          case measure => omega
          case rel => exact ⟨k + 1, B2, c2, o ++ L[k].2.2, by omega, by omega, by rw [List.length_append], by go_num, by simp; omega, Lib.hid (by rw [HS2.out, ho.out]), S2⟩
        · obtain rfl : k = L.length := by omega
          have ho' := ho.out
          rw [List.take_length] at ho'
          have HO := Lib.hid ho'
          clear ho ho'
          go_wp2
          go_ret
          exact ⟨B, c, by rw [← HO.out]; rfl, HO.out ▸ hSr⟩
end Go.Proofs
