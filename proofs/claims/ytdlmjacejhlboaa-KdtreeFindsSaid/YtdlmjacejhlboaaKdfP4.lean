/- Contracts of the given program, for the proofs of its statements: KdNone, Concat, Slc4, Slc5, CompP, Stab, Stable, Rotate, PtCmp, Merge. No conditions beyond those in each theorem. -/
import Derived.Test.YtdlmjacejhlboaaKdfP3
import Derived.Lib.AppendZerosOnto
import Derived.Lib.Overlaps
import Derived.Test.YtdlmjacejhlboaaKdfP2
import Derived.Sort.LotA
import Derived.Sort.WalkA
import Derived.Shelf.RegionOpenPlain
namespace Go.Proofs
open Go.Croft Go.RowKit Go.Sort Go.Shelf

set_option maxRecDepth 100000 in
/-- point.Sort of one point, or of none -/
theorem pointSort1_c (m : Mem) (w : World) (F : HP) (A : Option Addr) (cap : Nat) (l : List Pnt) (hl : l.length ≤ 1) (hR : SlR kPt m A cap l) (hS : St m w F) :
    Calls Try.prog 44 #[.slice A l.length cap] w fun e w' => ∃ A' cap', e = .returned (.slice A' l.length cap') ∧ (A = none → A' = none) ∧ St m w' (star (SlO kPt A' cap' l) F) := by
  go_enter Try.func44, Try.ntmps44
  go_wp2_with (first
    | (go_at_call 74; refine (clonePt_c m w F A cap l (by omega) hR hS).mono ?_; rintro e w1 ⟨A1, cap1, rfl, hn, S1⟩; clear hR hS)
    | (go_at_call 75; refine (stableTiny A1 l.length cap1 _ hl w1).mono ?_; rintro e w2 ⟨rfl, rfl⟩))
  go_ret
  exact ⟨A1, cap1, rfl, hn, S1⟩

set_option maxRecDepth 100000 in
/-- kdtree.New of one point, or of none -/
theorem kdNew1_c (m : Mem) (w : World) (F : HP) (A : Option Addr) (cap : Nat) (l : List Pnt) (hl : l.length ≤ 1) (hR : SlR kPt m A cap l) (hS : St m w F) :
    Calls Try.prog 22 #[.slice A l.length cap] w fun e w' => ∃ m' v t, e = .returned (.pointer v) ∧ m.le m' ∧ KtR m' t v ∧ Halved 0 l t ∧ St m' w' F := by
  have hc : ∀ (A : Option Addr) (cap : Nat) (f : Value) (w : World), Calls Try.prog 57 #[.slice A l.length cap, f] w fun e w' => e = .returned (.slice A l.length cap) ∧ w' = w := fun A cap f w => by
    have h1 : (l.length : Int) < 2 := by omega
    go_enter Try.func57, Try.ntmps57
    go_wp2
    go_ret
    exact ⟨rfl, rfl⟩
  have HC := Lib.hid hc
  clear hc
  go_enter Try.func22, Try.ntmps22
  go_wp2_with (first
    | (go_at_call 44; refine (pointSort1_c m w F A cap l hl hR hS).mono ?_; rintro e w1 ⟨A1, cap1, rfl, hn, S1⟩; obtain ⟨m2, l2, S2, R2⟩ := SlO.freeze S1; clear hR hS S1)
    | (go_at_call 57; refine (HC.out _ _ _ _).mono ?_; rintro e w2 ⟨rfl, rfl⟩)
    | (go_at_call 56; refine (kdGrow_c 1 m2 _ F A1 cap1 l 0 hl (by omega) R2 S2).mono ?_; rintro e w3 ⟨m3, v, t, rfl, l3, K, D, S3⟩))
  go_ret
  exact ⟨m3, v, t, rfl, l2.trans l3, K, D, S3⟩

set_option maxRecDepth 100000 in
set_option maxHeartbeats 800000 in
theorem kdDepth_c (t : Kt) : ∀ (m : Mem) (w : World) (F : HP) (v : Option Addr), KtR m t v → St m w F → t.depth ≤ 1000 →
    Calls Try.prog 29 #[.pointer v] w fun e w' => e = .returned (.int .i64 t.depth) ∧ St m w' F := by
  induction t with
  | nil =>
    intro m w F v hT hS hd
    go_enter Try.func29, Try.ntmps29
    go_wp2_with (go_at_call 64; refine (kdIs_c m w F .nil v hT hS).mono ?_; rintro e w1 ⟨rfl, rfl⟩; simp only [Kt.is])
    go_ret
    exact ⟨rfl, hS⟩
  | blank =>
    intro m w F v hT hS hd
    go_enter Try.func29, Try.ntmps29
    go_wp2_with (go_at_call 64; refine (kdIs_c m w F .blank v hT hS).mono ?_; rintro e w1 ⟨rfl, rfl⟩; simp only [Kt.is])
    go_ret
    exact ⟨rfl, hS⟩
  | node p l r ihl ihr =>
    intro m w F v hT hS hd
    have HI := Lib.hid fun w hS => kdIs_c m w F (.node p l r) v hT hS
    obtain ⟨b, vl, vr, fr, rfl, hb, hl, hr⟩ := hT
    have hd2 : 1 + max l.depth r.depth ≤ 1000 := hd
    have Q1 := Lib.hid fun w (h : St m w F) => ihl m w F vl hl h (by omega)
    have Q2 := Lib.hid fun w (h : St m w F) => ihr m w F vr hr h (by omega)
    have HOLD := Lib.hid fun (w : World) (h : St m w F) => (⟨h, h.cellM hb 5, h.cellM hb 6⟩ : St m w F ∧ w.cell? ⟨b, 5, none⟩ = some (.pointer vl) ∧ w.cell? ⟨b, 6, none⟩ = some (.pointer vr))
    have hs0 := HOLD.out _ hS
    have hdep : Hid (max (l.depth : Int) (r.depth : Int) = ((max l.depth r.depth : Nat) : Int)) := by simp only [Hid]; omega
    have hw : IntKind.i64.wrap (1 + max (l.depth : Int) (r.depth : Int)) = 1 + max (l.depth : Int) (r.depth : Int) := i64_keep _ (by omega) (by omega)
    clear ihl ihr hl hr hb hd
    go_enter Try.func29, Try.ntmps29
    go_wp2_with (go_at_call 64; refine (HI.out w hS).mono ?_; rintro e w1 ⟨rfl, rfl⟩; simp only [Kt.is])
    go_region_held3 (fun W' => St m W' F ∧ W'.cell? ⟨b, 5, none⟩ = some (.pointer vl) ∧ W'.cell? ⟨b, 6, none⟩ = some (.pointer vr)) (exact HOLD.out _ (by first | assumption | exact And.left (by assumption) | exact St.drew (by assumption) | exact St.drewN (by assumption) _ | exact (St.alloc (by assumption) _).drop | exact (St.alloc (And.left (by assumption)) _).drop))
      (first
        | (go_at_call 29; with_reducible refine (Q1.out _ (by exact And.left (by assumption))).mono ?_; rintro e w' ⟨rfl, hS1⟩)
        | (go_at_call 29; with_reducible refine (Q2.out _ (by first | assumption | exact And.left (by assumption))).mono ?_; rintro e w' ⟨rfl, hS2⟩))
    go_wp2
    go_ret
    exact ⟨by simp [Kt.depth]; omega, by first | assumption | exact And.left (by assumption)⟩

/-- what is no tree: nothing is told of it -/
theorem kdGather0_c (m : Mem) (w : World) (F : HP) (t : Kt) (v : Option Addr) (hT : KtR m t v) (ht : t.is = false) (hS : St m w F) (x0 y0 x1 y1 : Value) (d : Value) :
    Calls Try.prog 59 #[.pointer v, .agg #[x0, y0, x1, y1], d] w fun e w' => e = .returned (.slice none 0 0) ∧ St m w' F := by
  have hi := Lib.hid fun w hS => kdIs_c m w (F) t v hT hS
  go_enter Try.func59, Try.ntmps59
  go_wp2_with (go_at_call 64; refine (hi.out _ (hS.alloc _).drop).mono ?_; rintro e w1 ⟨rfl, rfl⟩)
  go_ret
  exact ⟨rfl, (hS.alloc _).drop⟩

set_option maxRecDepth 100000 in
theorem kdRange0_c (m : Mem) (w : World) (F : HP) (t : Kt) (v : Option Addr) (hT : KtR m t v) (ht : t.is = false) (hS : St m w F) (x0 y0 x1 y1 : Int) :
    Calls Try.prog 24 #[.pointer v, .agg #[.int .u32 x0, .int .u32 y0, .int .u32 x1, .int .u32 y1]] w fun e w' => ∃ A cap, e = .returned (.slice A (([] : List Pnt).length) cap) ∧ St m w' F := by
  go_enter Try.func24, Try.ntmps24
  go_wp2_with (first
    | (go_at_call 59; refine (kdGather0_c m _ F t v hT ht ((hS.alloc _).drop) _ _ _ _ _).mono ?_; rintro e w1 ⟨rfl, S1⟩)
    | (go_at_call 44; refine (pointSort1_c m _ F none 0 [] (by simp) (SlR.nil _ _) S1).mono ?_; rintro e w2 ⟨A1, cap1, rfl, hn, S2⟩; obtain rfl := hn rfl))
  go_ret
  exact ⟨none, cap1, rfl, S2.drop⟩

set_option maxRecDepth 100000 in
theorem kdVisit0_c (m : Mem) (w : World) (F : HP) (t : Kt) (v : Option Addr) (hT : KtR m t v) (ht : t.is = false) (hS : St m w F) (f d : Value) :
    Calls Try.prog 61 #[f, .pointer v, d] w fun e w' => e = .returned (.tuple #[]) ∧ w' = w := by
  go_enter Try.func61, Try.ntmps61
  go_wp2_with (go_at_call 64; refine (kdIs_c m w F t v hT hS).mono ?_; rintro e w1 ⟨rfl, rfl⟩; rw [ht])
  refine bodyPost_ret (results_none rfl _ _ _) rfl ?_
  exact ⟨rfl, rfl⟩

set_option maxRecDepth 100000 in
theorem kdNear0_c (m : Mem) (w : World) (F : HP) (t : Kt) (v : Option Addr) (hT : KtR m t v) (ht : t.is = false) (hS : St m w F) (x y : Int) (k : Int) :
    Calls Try.prog 26 #[.pointer v, .int .u32 x, .int .u32 y, .int .i64 k] w fun e w' => e = .returned (.slice none 0 0) ∧ St m w' F := by
  have HV := Lib.hid fun w (hS : St m w F) => kdVisit0_c m w F t v hT ht hS
  go_enter Try.func26, Try.ntmps26
  go_wp2_with (go_at_call 61; refine (HV.out _ (hS.alloc _).drop _ _).mono ?_; rintro e w1 ⟨rfl, rfl⟩)
  refine wp_loop_once ?_
  go_wp2_with fail
  go_ret
  exact ⟨rfl, (hS.alloc _).drop⟩

set_option maxRecDepth 100000 in
theorem kdOrder0_c (m : Mem) (w : World) (F : HP) (t : Kt) (v : Option Addr) (hT : KtR m t v) (ht : t.is = false) (hS : St m w F) :
    Calls Try.prog 28 #[.pointer v] w fun e w' => e = .returned (.slice none 0 0) ∧ w' = w := by
  go_enter Try.func28, Try.ntmps28
  go_wp2_with (go_at_call 64; refine (kdIs_c m w F t v hT hS).mono ?_; rintro e w1 ⟨rfl, rfl⟩; rw [ht])
  go_ret
  exact ⟨rfl, rfl⟩
end Go.Proofs

namespace Go.Croft
open Go Go.RowKit
variable {α : Type} {P : Program} {k : Kd α} {m : Mem} {w : World} {F : HP}

/-- append(nil, make([]E, n)..) -/
theorem run_append_make_nil (hk : KdOk P k) (t tn : TypeId) (kn kq : IntKind) (ht : P.underlying t = some (.slice k.ty)) (htn : P.underlying tn = some (.int kn)) (hS : St m w F) (n : Nat) (h0 : 0 < n) (hb : n * k.bytes ≤ 140737488355328) (hn : n ≤ 4611686018427387904) :
    ∃ b cap' w', (∀ ty, (Builtin.append_ #[t, tn] ty #[.slice none 0 0, .int kq n]).run P w = .ok (.slice (some ⟨b, 0, none⟩) n cap') w') ∧ n ≤ cap' ∧ cap' ≤ 9223372036854775807 ∧ St m w' (star (SlO k (some ⟨b, 0, none⟩) cap' []) F) := by
  obtain ⟨⟨i, z, hi, hz, hsz, hby, hzs⟩, _⟩ := hk
  have hr := fun ty => Lib.run_append_grow_zeros (P := P) w t tn ty k.ty i z kq kn ht htn hi hz none 0 0 [] (run_firstCells_none w.drew i.size 0 0 0) n h0 (by rw [hsz]; exact k.pos) (by omega) (by omega)
    (by rw [hby]; omega) (by rw [hby, Nat.zero_add]; exact growslice_fits (by omega) (by omega))
  have hge : 0 + n ≤ grownCap w (0 + n) 0 k.ty := grownCap_ge w _ 0 k.ty
  have hlm : grownCap w (0 + n) 0 k.ty ≤ maxLen := grownCap_le_maxLen w _ 0 k.ty (by simp only [maxLen]; omega)
  simp only [Nat.zero_add] at hr hge hlm
  generalize grownCap w n 0 k.ty = c at hr hge hlm
  refine ⟨w.heap.size, c, _, hr, hge, by simp only [maxLen] at hlm; omega, SlO.mk (hS.drew.alloc _) (by simp) ?_ hlm (Holds.nil _ _ _)⟩
  simp only [Array.size_append, List.size_toArray, List.length_nil, Array.size_empty, size_zeroCells, hzs]
  have : n * k.K + (c - n) * k.K = c * k.K := by rw [← Nat.add_mul]; congr 1; omega
  omega
end Go.Croft
namespace Go.Proofs
open Go.Croft Go.RowKit

set_option maxRecDepth 100000 in
theorem growInt_c (m : Mem) (w : World) (F : HP) (n : Nat) (hn : n ≤ 1000000) (hS : St m w F) :
    Calls Try.prog 98 #[.slice none 0 0, .int .i64 n] w fun e w' => ∃ A' cap', e = .returned (.slice A' (([] : List Int).length) cap') ∧ St m w' (star (SlO kInt A' cap' []) F) := by
  by_cases h0 : n = 0
  · subst h0
    go_enter Try.func98, Try.ntmps98
    go_wp2
    go_ret
    exact ⟨none, 0, rfl, SlO.nil hS⟩
  · have hp : (0 : Int) < n := by omega
    have hw : IntKind.i64.wrap (n : Int) = n := i64_keep _ (by omega) (by omega)
    obtain ⟨b, c, w1, hr, h1, h2, S1⟩ := run_append_make_nil kInt_ok 26 3 .i64 .i64 Try.underlying26 Try.underlying3 hS n (by omega) (by simp [kInt]; omega) (by omega)
    have hs1 := fun w => run_slice_to (P := Try.prog) kInt_ok 26 Try.underlying26 none 0 0 0 .i64 (by omega) (by omega) w
    have hs2 := fun w => run_slice_to (P := Try.prog) kInt_ok 26 Try.underlying26 (some ⟨b, 0, none⟩) n c 0 .i64 (by omega) h1 w
    have e1 : sliceAddr none 0 0 kInt.K = none := rfl
    have e2 : sliceAddr (some ⟨b, 0, none⟩) c 0 kInt.K = some ⟨b, 0, none⟩ := by
      unfold sliceAddr; split
      · rfl
      · simp [Addr.add]
    rw [e1] at hs1
    rw [e2] at hs2
    simp only [Int.ofNat_zero, Int.natCast_zero, Int.cast_ofNat_Int] at hs1 hs2
    go_enter Try.func98, Try.ntmps98
    have HRZ := Lib.hid hr
    clear hr
    go_wp2_with (at_builtin; refine Lib.wpList_append_run _ rfl _ _ _ _ rfl _ _ rfl rfl _ _ (HRZ.out _) ?_)
    go_ret
    exact ⟨_, c, rfl, S1⟩

/-- slices of whole numbers, as elements -/
def kSli : Kd (Option Addr × Nat × List Int) where
  K := 1
  ty := 26
  bytes := 24
  enc x := [.slice x.1 x.2.2.length x.2.1]
  len _ := rfl
  one := by intro x v h; simp at h; subst h; rfl
  pos := by decide
theorem kSli_ok : KdOk Go.Proofs.Try.prog kSli := .of (by kernel_rfl) (by decide)

def sumLen (L : List (Option Addr × Nat × List Int)) : Nat := (L.map fun x => x.2.2.length).sum
theorem sumLen_take (L : List (Option Addr × Nat × List Int)) (k : Nat) (h : k < L.length) : sumLen (L.take (k + 1)) = sumLen (L.take k) + L[k].2.2.length := by
  unfold sumLen; rw [List.take_succ_eq_append_getElem h, List.map_append, List.sum_append, List.map_cons, List.map_nil, List.sum_cons, List.sum_nil, Nat.add_zero]
theorem sumLen_le (L : List (Option Addr × Nat × List Int)) (k : Nat) : sumLen (L.take k) ≤ sumLen L := by
  unfold sumLen
  conv => rhs; rw [← List.take_append_drop k L, List.map_append, List.sum_append]
  omega
def catI (L : List (Option Addr × Nat × List Int)) : List Int := L.flatMap fun x => x.2.2
theorem catI_take (L : List (Option Addr × Nat × List Int)) (k : Nat) (h : k < L.length) : catI (L.take (k + 1)) = catI (L.take k) ++ L[k].2.2 := by
  unfold catI; rw [List.take_succ_eq_append_getElem h, List.flatMap_append, List.flatMap_cons, List.flatMap_nil, List.append_nil]
theorem catI_length (L : List (Option Addr × Nat × List Int)) : (catI L).length = sumLen L := by
  unfold catI sumLen; simp [List.length_flatMap]

set_option maxRecDepth 100000 in
set_option maxHeartbeats 800000 in
/-- slices.Concat -/
theorem concat_c (m : Mem) (w : World) (F : HP) (A : Option Addr) (cap : Nat) (L : List (Option Addr × Nat × List Int)) (hL : SlR kSli m A cap L) (hx : ∀ x ∈ L, SlR kInt m x.1 x.2.1 x.2.2) (hn : sumLen L ≤ 1000000) (hS : St m w F) :
    Calls Try.prog 65 #[.slice A L.length cap] w fun e w' => ∃ A' cap', e = .returned (.slice A' (catI L).length cap') ∧ St m w' (star (SlO kInt A' cap' (catI L)) F) := by
  have HL := Lib.hid hL
  have HX := Lib.hid hx
  have hlm := hL.len_max
  clear hL hx
  go_enter Try.func65, Try.ntmps65
  go_wp2
  go_loopg [3, 11] L.length (fun r q t wr => ∃ k : Nat, k ≤ L.length ∧ k + r = L.length ∧ q = .int .i64 (sumLen (L.take k)) ∧ t = .int .i64 k ∧ wr = w)
  case atStart => exact ⟨0, by omega, by omega, by simp [sumLen], rfl, rfl⟩
  case round =>
    obtain ⟨k, hk, hkr, rfl, rfl, rfl⟩ := hrel
    by_cases hlt : k < L.length
    · obtain ⟨g, off, rfl, hc⟩ := HL.out.at hS hlt
      have h0 := hc 0 _ rfl
      simp only [kSli, Nat.add_zero, Nat.mul_one] at h0
      have hs := sumLen_take L k hlt
      have hle := sumLen_le L (k + 1)
      have hq : ∃ q, q = sumLen (L.take k) := ⟨_, rfl⟩
      obtain ⟨q, hq⟩ := hq
      rw [← hq] at hs ⊢
      have hw : IntKind.i64.wrap ((q : Int) + (L[k].2.2.length : Int)) = (q : Int) + (L[k].2.2.length : Int) := i64_keep _ (by omega) (by omega)
      have hnn : ¬ ((q : Int) + (L[k].2.2.length : Int)) < 0 := by omega
      have HS2 := Lib.hid hs
      clear hc hs hq
      go_wp2
      go_roundg (gk - 1)
      case measure => omega
      case rel => exact ⟨k + 1, by omega, by omega, by rw [HS2.out]; simp, by go_num, rfl⟩
    · obtain rfl : k = L.length := by omega
      rw [List.take_length]
      obtain ⟨n, hn'⟩ : ∃ n, n = sumLen L := ⟨_, rfl⟩
      rw [← hn'] at hn ⊢
      have HN := Lib.hid hn'
      clear hn'
      go_wp2_with (go_at_call 98; refine (growInt_c m _ F n (by omega) hS).mono ?_; rintro e w2 ⟨A1, cap1, rfl, S1⟩; clear hS)
      go_loopg [6, 27] L.length (fun r q t wr => ∃ (k : Nat) (B : Option Addr) (c : Nat) (o : List Int), k ≤ L.length ∧ k + r = L.length ∧ q = .slice B o.length c ∧ t = .int .i64 k ∧ o.length ≤ n ∧ Hid (o = catI (L.take k)) ∧ St m wr (star (SlO kInt B c o) F))
      case atStart => exact ⟨0, A1, cap1, [], by omega, by omega, rfl, rfl, by simp, Lib.hid (by simp [catI]), S1⟩
      case round =>
        obtain ⟨k, B, c, o, hk, hkr, rfl, rfl, hlo, ho, hSr⟩ := hrel
        by_cases hlt : k < L.length
        · obtain ⟨g, off, rfl, hc⟩ := HL.out.at hSr hlt
          have h0 := hc 0 _ rfl
          simp only [kSli, Nat.add_zero, Nat.mul_one] at h0
          have hs := catI_take L k hlt
          have hls : (catI (L.take (k + 1))).length ≤ n := by rw [catI_length, HN.out]; exact sumLen_le L (k + 1)
          rw [hs, ← ho.out, List.length_append] at hls
          have HX1 := Lib.hid (HX.out _ (List.getElem_mem hlt))
          have HS2 := Lib.hid hs
          clear hc hs
          go_wp2_with (refine wpl_appendR kInt_ok rfl _ _ 26 rfl Try.underlying26 B c o rfl hSr L[k].1 L[k].2.1 L[k].2.2 rfl HX1.out (by simp [kInt]; omega) (by omega) (fun B2 c2 w3 S2 => ?_))
          go_roundg (gk - 1)
          case measure => omega
          case rel => exact ⟨k + 1, B2, c2, o ++ L[k].2.2, by omega, by omega, by rw [List.length_append], by go_num, by simp; omega, Lib.hid (by rw [HS2.out, ho.out]), S2⟩
        · obtain rfl : k = L.length := by omega
          have ho' := ho.out
          rw [List.take_length] at ho'
          have HO := Lib.hid ho'
          clear ho ho'
          go_wp2
          go_ret
          exact ⟨B, c, by rw [← HO.out]; rfl, HO.out ▸ hSr⟩
end Go.Proofs

namespace Go.Croft
open Go Go.RowKit
variable {α : Type} {P : Program} {k : Kd α} {m : Mem} {w : World} {F : HP} {ops : Array Oper} {rest : List Oper} {o : Oper} {a : Act} {Q : Exit → Act → World → Prop}

/-- append(s[:i], make([]E, n)..) where there is no room: a new row; what s had stands -/
theorem run_append_make_prefix (hk : KdOk P k) (t tn : TypeId) (kn kq : IntKind) (ht : P.underlying t = some (.slice k.ty)) (htn : P.underlying tn = some (.int kn)) (x0 : α) (hz0 : ((P.info? k.ty).bind (·.zero)).map (·.cells.toList) = some (k.enc x0))
    {A : Option Addr} {cap : Nat} {l : List α} (hS : St m w (star (SlO k A cap l) F)) (i n : Nat) (hi : i ≤ l.length) (h0 : 0 < n) (hg : cap < i + n) (hb : (i + n) * k.bytes ≤ 140737488355328) (hn : i + n ≤ 4611686018427387904) :
    ∃ b cap' w', (∀ ty, (Builtin.append_ #[t, tn] ty #[.slice A i cap, .int kq n]).run P w = .ok (.slice (some ⟨b, 0, none⟩) (i + n) cap') w') ∧ i + n ≤ cap' ∧ cap' ≤ 9223372036854775807 ∧ St m w' (star (SlO k (some ⟨b, 0, none⟩) cap' (l.take i ++ List.replicate n x0)) (star (SlO k A cap l) F)) := by
  have hcap := SlO.le_cap hS
  have hkk := hk
  obtain ⟨⟨ti, z, hi', hz, hsz, hby, hzs⟩, _⟩ := hk
  have hzc : z.cells.toList = k.enc x0 := by simpa [hi', hz] using hz0
  have hlen : (l.take i).length = i := by simp; omega
  have hold : (Builtin.firstCells ti.size i (.slice A i cap)).run P w.drew = .ok ((l.take i).flatMap k.enc).toArray w.drew := by
    rcases SlO.open hS with ⟨rfl, rfl, rfl, _⟩ | ⟨b, off, cs, rfl, _⟩
    · obtain rfl : i = 0 := by simpa using hi
      exact run_firstCells_none w.drew ti.size 0 0 0
    · have hc := SlO.cells hS.drew 0 (l.take i) (by simpa using List.take_prefix i l) (Nat.zero_le _)
      simp only [Nat.zero_mul, Nat.add_zero] at hc
      exact run_firstCells_some (P := P) w.drew ti.size i _ i cap ((l.take i).flatMap k.enc) (by rw [flatMap_length, hlen, hsz]) hc
  have hr := fun ty => Lib.run_append_grow_zeros (P := P) w t tn ty k.ty ti z kq kn ht htn hi' hz A i cap _ hold n h0 (by rw [hsz]; exact k.pos) hg (by omega)
    (by rw [hby]; have : n * k.bytes ≤ (i + n) * k.bytes := Nat.mul_le_mul_right _ (by omega); omega) (by rw [hby]; exact growslice_fits (by omega) (by omega))
  have hge : i + n ≤ grownCap w (i + n) cap k.ty := grownCap_ge w _ cap k.ty
  have hlm : grownCap w (i + n) cap k.ty ≤ maxLen := grownCap_le_maxLen w _ cap k.ty (by simp only [maxLen]; omega)
  generalize grownCap w (i + n) cap k.ty = c at hr hge hlm
  refine ⟨w.heap.size, c, _, hr, hge, by simp only [maxLen] at hlm; omega, SlO.mk (hS.drew.alloc _) (by simp; omega) ?_ hlm ?_⟩
  · simp only [Array.size_append, List.size_toArray, size_zeroCells, hzs, flatMap_length, hlen]
    have : i * k.K + n * k.K + (c - (i + n)) * k.K = c * k.K := by rw [← Nat.add_mul, ← Nat.add_mul]; congr 1; omega
    omega
  · unfold Holds
    have hl2 : (l.take i ++ List.replicate n x0).length = i + n := by simp; omega
    rw [hl2]
    simp only [List.drop_zero, Array.toList_append, zero_flat hzc, List.flatMap_append]
    have hll : ((l.take i).flatMap k.enc ++ (List.replicate n x0).flatMap k.enc).length = (i + n) * k.K := by
      rw [List.length_append, flatMap_length, flatMap_length, hlen, List.length_replicate, Nat.add_mul]
    rw [← hll]
    exact List.take_left

theorem wp_copy_sl {K : Act → World → Prop} (hk : KdOk P k) (dst src : Operand) (t t2 : TypeId) (ho : o.op = .call { callee := .builtin .copy, args := #[dst, src], argTypes := #[t, t2] }) (ht : P.underlying t = some (.slice k.ty))
    {b off cap : Nat} {l : List α} (hS : St m w (star (SlO k (some ⟨b, off, none⟩) cap l) F)) (i n1 c1 n2 c2 : Nat) (A1 A2 : Option Addr) (ys : List α) (hd : a.eval dst = .slice A1 n1 c1) (hs : a.eval src = .slice A2 n2 c2)
    (hn : ys.length = min n2 n1) (h1 : 0 < ys.length → A1 = some ⟨b, off + i * k.K, none⟩) (h2 : 0 < ys.length → ∃ ad, A2 = some ad ∧ ∀ j u, (ys.flatMap k.enc)[j]? = some u → w.cell? (ad.add j) = some u) (hi : i ≤ l.length) (hc : i + ys.length ≤ cap)
    (h : ∀ w', St m w' (star (SlO k (some ⟨b, off, none⟩) cap (l.take i ++ ys ++ l.drop (i + ys.length))) F) → K (a.put o.dst (.int .i64 ys.length)) w') : o.wp P a w K Q := by
  obtain ⟨w', hr, h3⟩ := run_copy_sl hk t t2 ht hS i n1 c1 n2 c2 A1 A2 ys hn h1 h2 hi hc
  unfold Oper.wp execOp
  simp only [ho, resolve, invoke, builtin, Sem.run_bind, Sem.run_pure, Result.andThen_ok, List.map_toArray, List.map_cons, List.map_nil, hd, hs, hr]
  exact h w' h3
theorem wpl_copy_sl (hk : KdOk P k) (hgd : o.guard = none) (dst src : Operand) (t t2 : TypeId) (ho : o.op = .call { callee := .builtin .copy, args := #[dst, src], argTypes := #[t, t2] }) (ht : P.underlying t = some (.slice k.ty))
    {b off cap : Nat} {l : List α} (hS : St m w (star (SlO k (some ⟨b, off, none⟩) cap l) F)) (i n1 c1 n2 c2 : Nat) (A1 A2 : Option Addr) (ys : List α) (hd : a.eval dst = .slice A1 n1 c1) (hs : a.eval src = .slice A2 n2 c2)
    (hn : ys.length = min n2 n1) (h1 : 0 < ys.length → A1 = some ⟨b, off + i * k.K, none⟩) (h2 : 0 < ys.length → ∃ ad, A2 = some ad ∧ ∀ j u, (ys.flatMap k.enc)[j]? = some u → w.cell? (ad.add j) = some u) (hi : i ≤ l.length) (hc : i + ys.length ≤ cap)
    (h : ∀ w', St m w' (star (SlO k (some ⟨b, off, none⟩) cap (l.take i ++ ys ++ l.drop (i + ys.length))) F) → wpList P ops Q rest (a.put o.dst (.int .i64 ys.length)) w') : wpList P ops Q (o :: rest) a w :=
  wpList_plain hgd fun K hK => wp_copy_sl hk dst src t t2 ho ht hS i n1 c1 n2 c2 A1 A2 ys hd hs hn h1 h2 hi hc fun w' h' => hK _ _ (h w' h')
theorem step_copy_sl {K : Act → World → Prop} {E : Prop} (hk : KdOk P k) (hgd : o.guard = none) (dst src : Operand) (t t2 : TypeId) (ho : o.op = .call { callee := .builtin .copy, args := #[dst, src], argTypes := #[t, t2] }) (ht : P.underlying t = some (.slice k.ty))
    {b off cap : Nat} {l : List α} (hS : St m w (star (SlO k (some ⟨b, off, none⟩) cap l) F)) (i n1 c1 n2 c2 : Nat) (A1 A2 : Option Addr) (ys : List α) (hd : a.eval dst = .slice A1 n1 c1) (hs : a.eval src = .slice A2 n2 c2)
    (hn : ys.length = min n2 n1) (h1 : 0 < ys.length → A1 = some ⟨b, off + i * k.K, none⟩) (h2 : 0 < ys.length → ∃ ad, A2 = some ad ∧ ∀ j u, (ys.flatMap k.enc)[j]? = some u → w.cell? (ad.add j) = some u) (hi : i ≤ l.length) (hc : i + ys.length ≤ cap)
    (h : ∀ w', St m w' (star (SlO k (some ⟨b, off, none⟩) cap (l.take i ++ ys ++ l.drop (i + ys.length))) F) → K (a.put o.dst (.int .i64 ys.length)) w') :
    if Region.wanted o (yielded ops a.tmps) = true then Oper.wp P o a w K Q else E :=
  step_of_wp hgd (wp_copy_sl hk dst src t t2 ho ht hS i n1 c1 n2 c2 A1 A2 ys hd hs hn h1 h2 hi hc h)
end Go.Croft

namespace Go.Croft
open Go Go.RowKit
variable {α : Type} {P : Program} {k : Kd α} {m : Mem} {w : World} {F : HP} {ops : Array Oper} {rest : List Oper} {o : Oper} {a : Act} {Q : Exit → Act → World → Prop}

/-- append(s, x..), x's cells being known where it has any -/
theorem wp_append_src {K : Act → World → Prop} (hk : KdOk P k) (s x : Operand) (t : TypeId) (ho : o.op = .call { callee := .builtin .append, args := #[s, x], argTypes := #[t, t] })
    (ht : P.underlying t = some (.slice k.ty)) (A : Option Addr) (cap : Nat) (l : List α) (hs : a.eval s = .slice A l.length cap) (hS : St m w (star (SlO k A cap l) F))
    (A2 : Option Addr) (n2 c : Nat) (ys : List α) (hn : n2 = ys.length) (hx : a.eval x = .slice A2 n2 c) (h2 : 0 < ys.length → ∃ ad, A2 = some ad ∧ ∀ j u, (ys.flatMap k.enc)[j]? = some u → w.cell? (ad.add j) = some u)
    (hb : (l.length + ys.length) * k.bytes ≤ 140737488355328) (h63 : l.length + ys.length ≤ 9223372036854775807)
    (h : ∀ A' cap' w', St m w' (star (SlO k A' cap' (l ++ ys)) F) → K (a.put o.dst (.slice A' (l ++ ys).length cap')) w') : o.wp P a w K Q := by
  subst hn
  by_cases h0 : 0 < ys.length
  · obtain ⟨ad, rfl, hys⟩ := h2 h0
    exact wp_append_sl hk s x t ho ht A cap l hs hS ad c ys hx hys h0 hb h63 h
  · have e : ys = [] := List.eq_nil_of_length_eq_zero (by omega)
    subst e
    have hr := run_append_empty hk t o.type ht (A := A) (A2 := A2) (c := c) (SlO.le_cap hS) w
    have h3 := h A cap w (by rw [List.append_nil]; exact hS)
    rw [List.append_nil] at h3
    simp only [List.length_nil] at hx
    unfold Oper.wp execOp
    simp only [ho, resolve, invoke, builtin, Sem.run_bind, Sem.run_pure, Result.andThen_ok, List.map_toArray, List.map_cons, List.map_nil, hs, hx, hr]
    exact h3
theorem step_append_src {K : Act → World → Prop} {E : Prop} (hk : KdOk P k) (hgd : o.guard = none) (s x : Operand) (t : TypeId) (ho : o.op = .call { callee := .builtin .append, args := #[s, x], argTypes := #[t, t] })
    (ht : P.underlying t = some (.slice k.ty)) (A : Option Addr) (cap : Nat) (l : List α) (hs : a.eval s = .slice A l.length cap) (hS : St m w (star (SlO k A cap l) F))
    (A2 : Option Addr) (n2 c : Nat) (ys : List α) (hn : n2 = ys.length) (hx : a.eval x = .slice A2 n2 c) (h2 : 0 < ys.length → ∃ ad, A2 = some ad ∧ ∀ j u, (ys.flatMap k.enc)[j]? = some u → w.cell? (ad.add j) = some u)
    (hb : (l.length + ys.length) * k.bytes ≤ 140737488355328) (h63 : l.length + ys.length ≤ 9223372036854775807)
    (h : ∀ A' cap' w', St m w' (star (SlO k A' cap' (l ++ ys)) F) → K (a.put o.dst (.slice A' (l ++ ys).length cap')) w') :
    if Region.wanted o (yielded ops a.tmps) = true then Oper.wp P o a w K Q else E :=
  step_of_wp hgd (wp_append_src hk s x t ho ht A cap l hs hS A2 n2 c ys hn hx h2 hb h63 h)

/-- the same, the lengths being told by numbers -/
theorem step_append_n {K : Act → World → Prop} {E : Prop} (hk : KdOk P k) (hgd : o.guard = none) (s x : Operand) (t : TypeId) (ho : o.op = .call { callee := .builtin .append, args := #[s, x], argTypes := #[t, t] })
    (ht : P.underlying t = some (.slice k.ty)) (A : Option Addr) (n1 cap : Nat) (l : List α) (hn1 : n1 = l.length) (hs : a.eval s = .slice A n1 cap) (hS : St m w (star (SlO k A cap l) F))
    (A2 : Option Addr) (n2 c : Nat) (ys : List α) (hn : n2 = ys.length) (hx : a.eval x = .slice A2 n2 c) (h2 : 0 < ys.length → ∃ ad, A2 = some ad ∧ ∀ j u, (ys.flatMap k.enc)[j]? = some u → w.cell? (ad.add j) = some u)
    (hb : (n1 + n2) * k.bytes ≤ 140737488355328) (h63 : n1 + n2 ≤ 9223372036854775807)
    (h : ∀ A' cap' w', St m w' (star (SlO k A' cap' (l ++ ys)) F) → K (a.put o.dst (.slice A' (n1 + n2) cap')) w') :
    if Region.wanted o (yielded ops a.tmps) = true then Oper.wp P o a w K Q else E := by
  subst hn1 hn
  refine step_append_src hk hgd s x t ho ht A cap l hs hS A2 _ c ys rfl hx h2 hb h63 fun A' cap' w' h' => ?_
  have := h A' cap' w' h'
  rwa [← List.length_append] at this

/-- the cells of s[i:] of a slice that is owned -/
theorem SlO.cellsAt {A : Option Addr} {cap : Nat} {l : List α} (hS : St m w (star (SlO k A cap l) F)) (i : Nat) (ys : List α) (hys : ys <+: l.drop i) (h0 : 0 < ys.length) :
    ∃ ad, sliceAddr A cap i k.K = some ad ∧ ∀ j u, (ys.flatMap k.enc)[j]? = some u → w.cell? (ad.add j) = some u := by
  have hlen := hys.length_le
  rw [List.length_drop] at hlen
  have hcap := SlO.le_cap hS
  obtain ⟨b, off, rfl, _⟩ := SlO.at hS (show i < l.length by omega)
  refine ⟨_, by rw [sliceAddr_of (by omega), if_neg (by omega)], SlO.cells hS i ys hys (by omega)⟩
/-- the cells of a block of one element -/
theorem St.oneAt {g : Nat} {cs : Array Value} {T : TypeId} {fr : Nat × Nat} (hS : St m w (star (pt g (.cells cs T fr)) F)) (x : α) (hcs : cs = (k.enc x).toArray) :
    ∃ ad, (some ⟨g, 0, none⟩ : Option Addr) = some ad ∧ ∀ j u, ([x].flatMap k.enc)[j]? = some u → w.cell? (ad.add j) = some u := by
  refine ⟨_, rfl, fun j u hu => ?_⟩
  rw [addr_at, hS.cell, hcs]
  simpa using hu
end Go.Croft

namespace Go.Croft
/-- points of which none has the Id of the one ahead of it -/
def compG : Option Int → List Pnt → List Pnt
  | _, [] => []
  | q, x :: l => if q = some x.id then compG (some x.id) l else x :: compG (some x.id) l
def compP (l : List Pnt) : List Pnt := compG none l
theorem compG_snoc (x y : Pnt) : ∀ (l : List Pnt) (q : Option Int), compG q (l ++ [y] ++ [x]) = compG q (l ++ [y]) ++ if y.id = x.id then [] else [x]
  | [], q => by
    simp only [List.nil_append, List.cons_append, compG]
    by_cases h : y.id = x.id <;> by_cases h2 : q = some y.id <;> simp [h, h2]
  | z :: l, q => by
    simp only [List.cons_append, compG]
    split
    · exact compG_snoc x y l _
    · rw [compG_snoc x y l _]; rfl
theorem compP_step {l : List Pnt} {k : Nat} (h0 : 0 < k) (hk : k < l.length) : compP (l.take (k + 1)) = compP (l.take k) ++ if (l[k - 1]'(by omega)).id = l[k].id then [] else [l[k]] := by
  obtain ⟨j, rfl⟩ : ∃ j, k = j + 1 := ⟨k - 1, by omega⟩
  rw [List.take_succ_eq_append_getElem hk, List.take_succ_eq_append_getElem (show j < l.length by omega)]
  exact compG_snoc _ _ _ _
theorem compP_one {l : List Pnt} (h : l.length ≤ 1) : compP l = l := by
  match l, h with
  | [], _ => rfl
  | [x], _ => rfl
theorem compG_length (q : Option Int) : ∀ l : List Pnt, (compG q l).length ≤ l.length
  | [] => by simp [compG]
  | x :: l => by unfold compG; have := compG_length (some x.id) l; split <;> simp <;> omega
theorem compP_length (l : List Pnt) : (compP l).length ≤ l.length := compG_length _ l
end Go.Croft

namespace Go.Croft
open Go.Sort
variable {α : Type} (key : α → Int)

/-- two lists with, for each key, the same elements in the same order -/
def Stab (l l' : List α) : Prop := ∀ v : Int, l'.filter (fun x => key x == v) = l.filter (fun x => key x == v)
variable {key}
theorem Stab.refl (l : List α) : Stab key l l := fun _ => rfl
theorem Stab.trans {a b c : List α} (h : Stab key a b) (k : Stab key b c) : Stab key a c := fun v => (k v).trans (h v)
theorem Stab.symm {a b : List α} (h : Stab key a b) : Stab key b a := fun v => (h v).symm
theorem Stab.append {a b c d : List α} (h : Stab key a b) (k : Stab key c d) : Stab key (a ++ c) (b ++ d) := fun v => by
  rw [List.filter_append, List.filter_append, h v, k v]
theorem Stab.rot {U V : List α} (h : ∀ u ∈ U, ∀ v ∈ V, key u ≠ key v) : Stab key (U ++ V) (V ++ U) := fun v => by
  rw [List.filter_append, List.filter_append]
  by_cases hu : ∃ u ∈ U, key u = v
  · obtain ⟨u, hu, rfl⟩ := hu
    have : V.filter (fun x => key x == key u) = [] := by
      rw [List.filter_eq_nil_iff]
      intro y hy hk
      exact h u hu y hy (by simpa using (beq_iff_eq.1 hk).symm)
    rw [this]; simp
  · have : U.filter (fun x => key x == v) = [] := by
      rw [List.filter_eq_nil_iff]
      intro y hy hk
      exact hu ⟨y, hy, beq_iff_eq.1 hk⟩
    rw [this]; simp
theorem Stab.swap {p q : List α} {x y : α} (h : key x ≠ key y) : Stab key (p ++ x :: y :: q) (p ++ y :: x :: q) := by
  refine Stab.append (.refl p) ?_
  have := Stab.append (Stab.rot (key := key) (U := [x]) (V := [y]) (by simpa using h)) (.refl q)
  simpa using this
theorem Stab.perm [DecidableEq α] {a b : List α} (h : Stab key a b) : b.Perm a := by
  rw [List.perm_iff_count]
  intro x
  have e : ∀ l : List α, l.count x = (l.filter (fun y => key y == key x)).count x := fun l => by
    rw [List.count_filter]; simp
  rw [e a, e b, h (key x)]
theorem Stab.mem {a b : List α} (h : Stab key a b) {x : α} : x ∈ b ↔ x ∈ a := by
  have e : ∀ l : List α, x ∈ l ↔ x ∈ l.filter (fun y => key y == key x) := fun l => by simp
  rw [e a, e b, h (key x)]
theorem Stab.length {a b : List α} (h : Stab key a b) : b.length = a.length := by
  have key2 : ∀ (n : Nat) (a b : List α), a.length ≤ n → Stab key a b → b.length = a.length := by
    intro n
    induction n with
    | zero =>
      intro a b ha h
      obtain rfl : a = [] := List.eq_nil_of_length_eq_zero (by omega)
      cases b with
      | nil => rfl
      | cons x b => have := h.mem.1 (List.mem_cons_self (a := x) (l := b)); simp at this
    | succ n ih =>
      intro a b ha h
      cases a with
      | nil =>
        cases b with
        | nil => rfl
        | cons x b => have := h.mem.1 (List.mem_cons_self (a := x) (l := b)); simp at this
      | cons x a =>
        have s : ∀ l : List α, l.length = (l.filter (fun y => key y == key x)).length + (l.filter (fun y => !(key y == key x))).length := fun l => by
          induction l with
          | nil => rfl
          | cons y l ihl => by_cases hy : key y = key x <;> simp [hy, ihl] <;> omega
        have hs : Stab key ((x :: a).filter (fun y => !(key y == key x))) (b.filter (fun y => !(key y == key x))) := fun v => by
          rw [List.filter_filter, List.filter_filter]
          by_cases hv : v = key x
          · subst hv
            have z : ∀ l : List α, l.filter (fun y => (key y == key x) && !(key y == key x)) = [] := fun l => by simp
            rw [z, z]
          · have z : ∀ l : List α, l.filter (fun y => (key y == v) && !(key y == key x)) = l.filter (fun y => key y == v) := fun l => by
              apply List.filter_congr
              intro y _
              by_cases hy : key y = v
              · simp [hy, hv]
              · simp [hy]
            rw [z, z, h v]
        have hl := ih _ _ (by simp; exact Nat.le_trans (List.length_filter_le _ _) (by simp at ha; omega)) hs
        rw [s b, s (x :: a), h (key x), hl]
  exact key2 _ _ _ (Nat.le_refl _) h

/-- sorted by key -/
def SortedBy (key : α → Int) (l : List α) : Prop := l.Pairwise fun a b => key a ≤ key b

theorem sorted_append {a b : List α} (ha : SortedBy key a) (hb : SortedBy key b) (h : ∀ x ∈ a, ∀ y ∈ b, key x ≤ key y) : SortedBy key (a ++ b) := List.pairwise_append.2 ⟨ha, hb, h⟩

/-- a sorted list is told by what it has of each key -/
theorem stab_unique : ∀ {a b : List α}, SortedBy key a → SortedBy key b → Stab key a b → a = b
  | [], b, _, _, h => by
    cases b with
    | nil => rfl
    | cons x b => have := h.mem.1 (List.mem_cons_self (a := x) (l := b)); simp at this
  | x :: a, [], _, _, h => by have := h.mem.2 (List.mem_cons_self (a := x) (l := a)); simp at this
  | x :: a, y :: b, ha, hb, h => by
    unfold SortedBy at ha hb
    rw [List.pairwise_cons] at ha hb
    have hxy : key x = key y := by
      have h1 : x ∈ y :: b := h.mem.2 List.mem_cons_self
      have h2 : y ∈ x :: a := h.mem.1 List.mem_cons_self
      rcases List.mem_cons.1 h1 with e | h1
      · rw [e]
      · rcases List.mem_cons.1 h2 with e | h2
        · rw [e]
        · have := hb.1 x h1; have := ha.1 y h2; omega
    have hv := h (key x)
    simp only [List.filter_cons, hxy, beq_self_eq_true, if_true] at hv
    rw [← hxy] at hv
    have e : y = x := (List.cons.inj (by simpa [hxy] using hv)).1
    subst e
    have ht : Stab key a b := fun v => by
      have := h v
      by_cases hk : key y = v
      · simp [List.filter_cons, hk] at this; exact this
      · simp [List.filter_cons, hk] at this; exact this
    rw [stab_unique ha.2 hb.2 ht]

/-! ### the insertion sort is stable -/
variable [Inhabited α]
theorem swp_split (d : Array α) (j : Nat) (h : j + 1 < d.size) : ∃ p q, p.length = j ∧ d.toList = p ++ d[j]! :: d[j + 1]! :: q ∧ (swp d (j + 1) j).toList = p ++ d[j + 1]! :: d[j]! :: q := by
  have e : d.toList = d.toList.take j ++ d[j]! :: d[j + 1]! :: d.toList.drop (j + 2) := by
    rw [getElem!_pos d j (by omega), getElem!_pos d (j + 1) h]
    have h1 : d.toList.drop j = d[j] :: d.toList.drop (j + 1) := by rw [List.drop_eq_getElem_cons (by simpa using Nat.lt_of_succ_lt h)]; simp
    have h2 : d.toList.drop (j + 1) = d[j + 1] :: d.toList.drop (j + 2) := by rw [List.drop_eq_getElem_cons (by simpa using h)]; simp
    rw [← h2, ← h1, List.take_append_drop]
  have hp : (d.toList.take j).length = j := by simp; omega
  refine ⟨_, _, hp, e, ?_⟩
  unfold swp
  rw [Array.toList_setIfInBounds, Array.toList_setIfInBounds]
  conv => lhs; rw [e]
  rw [List.set_append_right _ _ (by omega), List.set_append_right _ _ (by omega), hp]
  simp
theorem insInner_stab {lt : α → α → Bool} (hlt : ∀ x y, lt x y = true → key x ≠ key y) (a : Nat) : ∀ (j : Nat) (d : Array α), j < d.size → Stab key d.toList (insInner lt a j d).toList ∧ (insInner lt a j d).size = d.size := by
  intro j
  induction j with
  | zero => intro d _; rw [insInner]; exact ⟨.refl _, rfl⟩
  | succ j ih =>
    intro d hj
    rw [insInner]
    split
    · rename_i hc
      simp only [Bool.and_eq_true] at hc
      obtain ⟨p, q, hp, e1, e2⟩ := swp_split d j hj
      have hs : (swp d (j + 1) j).size = d.size := by simp [swp]
      have := ih (swp d (j + 1) j) (by omega)
      refine ⟨Stab.trans ?_ this.1, by rw [this.2, hs]⟩
      rw [e1, e2]
      exact Stab.swap (fun e => hlt _ _ hc.2 e.symm)
    · exact ⟨.refl _, rfl⟩
theorem insertionSort_stab {lt : α → α → Bool} (hlt : ∀ x y, lt x y = true → key x ≠ key y) (d : Array α) (a b : Nat) (hb : b ≤ d.size) : Stab key d.toList (insertionSort lt d a b).toList := by
  unfold insertionSort
  have : ∀ (n i : Nat) (d : Array α), b - i ≤ n → b ≤ d.size → Stab key d.toList (insOuter lt a b i d).toList := by
    intro n
    induction n with
    | zero => intro i d hn _; rw [insOuter, if_neg (by omega)]; exact .refl _
    | succ n ih =>
      intro i d hn hb
      rw [insOuter]
      split
      · have h1 := insInner_stab (key := key) hlt a i d (by omega)
        exact h1.1.trans (ih (i + 1) _ (by omega) (by omega))
      · exact .refl _
  exact this _ _ d (Nat.le_refl _) hb
end Go.Croft

namespace Go.Croft
open Go Go.RowKit
variable {α : Type} {P : Program} {k : Kd α} {m : Mem} {w : World} {F : HP}

/-- an element of four cells is stored -/
theorem SlO.put4 {b off cap i : Nat} {l : List α} {x : α} {v0 v1 v2 v3 : Value} (h : St m w (star (SlO k (some ⟨b, off, none⟩) cap l) F)) (hi : i < l.length) (hK : k.K = 4) (hx : k.enc x = [v0, v1, v2, v3]) :
    St m ((((w.setCell ⟨b, off + i * 4, none⟩ v0).setCell ⟨b, off + i * 4 + 1, none⟩ v1).setCell ⟨b, off + i * 4 + 2, none⟩ v2).setCell ⟨b, off + i * 4 + 3, none⟩ v3) (star (SlO k (some ⟨b, off, none⟩) cap (l.set i x)) F) := by
  rcases SlO.open h with ⟨h1, _⟩ | ⟨b', off', cs, h1, h2, h3, h4, h5, h6⟩
  · cases h1
  · injection h1 with h1; injection h1 with e1 e2 _; subst e1 e2
    refine SlO.mk ((((h6.setCell (i := off + i * 4) v0).setCell (i := off + i * 4 + 1) v1).setCell (i := off + i * 4 + 2) v2).setCell (i := off + i * 4 + 3) v3) (by simpa using h2) (by simpa using h3) h4 (Holds.of_get ?_ ?_)
    · have : l.length * k.K ≤ cap * k.K := Nat.mul_le_mul_right _ h2
      simp; omega
    · intro n j hn hj
      rw [hK] at hj ⊢
      have hn' : n < l.length := by simpa using hn
      have hsz := h5.size (by omega)
      rw [hK] at hsz
      have h0 := h5.get hn' (show j < k.K by omega)
      rw [hK] at h0
      simp only [Array.getElem?_setIfInBounds, Array.size_setIfInBounds]
      by_cases e : i = n
      · subst e
        have : off + i * 4 + 3 < cs.size := by omega
        rw [List.getElem_set_self, hx]
        match j, hj with
        | 0, _ => simp; omega
        | 1, _ => simp; omega
        | 2, _ => simp; omega
        | 3, _ => simp; omega
      · rw [if_neg (by omega), if_neg (by omega), if_neg (by omega), if_neg (by omega), h0, List.getElem_set_ne e]
theorem swap_mid {l u v z : List α} {x y : α} {s t : Nat} (e : l = u ++ x :: (v ++ y :: z)) (hs : s = u.length) (ht : t = u.length + 1 + v.length) (h1 : s < l.length) (h2 : t < l.length) :
    (l.set s l[t]).set t l[s] = u ++ y :: (v ++ x :: z) := by
  subst e hs ht
  have e1 : (u ++ x :: (v ++ y :: z))[u.length] = x := by simp
  have e2 : (u ++ x :: (v ++ y :: z))[u.length + 1 + v.length] = y := by
    rw [List.getElem_append_right (by omega)]
    have : u.length + 1 + v.length - u.length = v.length + 1 := by omega
    simp [this]
  rw [e1, e2, List.set_append_right _ _ (by omega)]
  simp only [Nat.sub_self, List.set_cons_zero]
  rw [List.set_append_right _ _ (by omega)]
  have : u.length + 1 + v.length - u.length = v.length + 1 := by omega
  rw [this, List.set_cons_succ, List.set_append_right _ _ (by omega)]
  simp
theorem swap_step {p X q Y r l : List α} {i a b : Nat} (hXY : X.length = Y.length) (hi : i < X.length) (ha : a = p.length) (hb : b = (p ++ X ++ q).length) (h : l = p ++ Y.take i ++ X.drop i ++ q ++ X.take i ++ Y.drop i ++ r) (h1 : a + i < l.length) (h2 : b + i < l.length) :
    (l.set (a + i) l[b + i]).set (b + i) l[a + i] = p ++ Y.take (i + 1) ++ X.drop (i + 1) ++ q ++ X.take (i + 1) ++ Y.drop (i + 1) ++ r := by
  have hY : i < Y.length := by omega
  have e : l = (p ++ Y.take i) ++ X[i] :: ((X.drop (i + 1) ++ q ++ X.take i) ++ Y[i] :: (Y.drop (i + 1) ++ r)) := by
    rw [h, List.drop_eq_getElem_cons hi, List.drop_eq_getElem_cons hY]; simp only [List.append_assoc, List.cons_append]
  rw [swap_mid e (by simp; omega) (by simp at hb ⊢; omega) h1 h2, List.take_succ_eq_append_getElem hi, List.take_succ_eq_append_getElem hY]
  simp only [List.append_assoc, List.cons_append, List.nil_append]
end Go.Croft
namespace Go.Proofs
open Go.Croft Go.RowKit

set_option maxRecDepth 100000 in
set_option maxHeartbeats 800000 in
theorem swapRange_c (m : Mem) (w : World) (F : HP) (A : Option Addr) (cap : Nat) (p X q Y r : List Pnt) (f : Value) (hXY : X.length = Y.length) (hS : St m w (star (SlO kPt A cap (p ++ X ++ q ++ Y ++ r)) F)) :
    Calls Try.prog 177 #[.slice A (p ++ X ++ q ++ Y ++ r).length cap, .int .i64 p.length, .int .i64 ((p ++ X ++ q).length), .int .i64 X.length, f] w fun e w' => e = .returned (.tuple #[]) ∧ St m w' (star (SlO kPt A cap (p ++ Y ++ q ++ X ++ r)) F) := by
  obtain ⟨l0, hl0⟩ : ∃ l, l = p ++ X ++ q ++ Y ++ r := ⟨_, rfl⟩
  obtain ⟨a, ha⟩ : ∃ a, a = p.length := ⟨_, rfl⟩
  obtain ⟨b, hb⟩ : ∃ b, b = (p ++ X ++ q).length := ⟨_, rfl⟩
  obtain ⟨n, hn⟩ : ∃ n, n = X.length := ⟨_, rfl⟩
  have hlm := SlO.len_max hS
  have hlen : a + n ≤ b ∧ b + n + r.length = l0.length := by subst hl0 ha hb hn; simp; omega
  rw [← ha, ← hb, ← hn, ← hl0] 
  rw [← hl0] at hS hlm
  have E := Lib.hid (And.intro hl0 (And.intro ha (And.intro hb (And.intro hn hXY))))
  clear hl0 ha hb hn hXY
  go_enter Try.func177, Try.ntmps177
  go_wp2
  go_loopg [10] n (fun g t wr => ∃ (i : Nat) (l : List Pnt), i + g = n ∧ t = .int .i64 i ∧ l.length = l0.length ∧ Hid (l = p ++ Y.take i ++ X.drop i ++ q ++ X.take i ++ Y.drop i ++ r) ∧ St m wr (star (SlO kPt A cap l) F))
  case atStart => exact ⟨0, l0, by omega, rfl, rfl, Lib.hid (by rw [E.out.1]; simp), hS⟩
  case round =>
    obtain ⟨i, l, hi, rfl, hll, hl, hSr⟩ := hrel
    by_cases hlt : i < n
    · have ha1 : a + i < l.length := by omega
      have hb1 : b + i < l.length := by omega
      obtain ⟨g, off, rfl, hc, hf⟩ := SlO.at hSr ha1
      obtain ⟨g', off', e', hc', _⟩ := SlO.at hSr hb1
      cases e'
      have c0 := hc 0 _ rfl
      have c1 := hc 1 _ rfl
      have c2 := hc 2 _ rfl
      have c3 := hc 3 _ rfl
      have d0 := hc' 0 _ rfl
      have d1 := hc' 1 _ rfl
      have d2 := hc' 2 _ rfl
      have d3 := hc' 3 _ rfl
      simp only [kPt, Nat.add_zero] at c0 c1 c2 c3 d0 d1 d2 d3
      have i0 : (0 : Int) ≤ (a : Int) + i := by omega
      have i1 : (a : Int) + i < l0.length := by omega
      have j0 : (0 : Int) ≤ (b : Int) + i := by omega
      have j1 : (b : Int) + i < l0.length := by omega
      have w1 : IntKind.i64.wrap ((a : Int) + i) = (a : Int) + i := i64_keep _ (by omega) (by omega)
      have w2 : IntKind.i64.wrap ((b : Int) + i) = (b : Int) + i := i64_keep _ (by omega) (by omega)
      have t1 : ((a : Int) + i).toNat = a + i := by omega
      have t2 : ((b : Int) + i).toNat = b + i := by omega
      have mixed : Try.prog.follows .mixedOrders = true := by kernel_rfl
      clear hc hc'
      go_wp2_with fail
      go_big_region_o
      have S1 := SlO.put4 (x := l[b + i]) hSr ha1 rfl rfl
      have S2 := SlO.put4 (x := l[a + i]) S1 (i := b + i) (by simpa using hb1) rfl rfl
      go_wp2
      go_roundg (gk - 1)
      case measure => omega
      case rel => exact ⟨i + 1, _, by omega, by go_num, by simp [hll], Lib.hid (swap_step E.out.2.2.2.2 (by rw [← E.out.2.2.2.1]; exact hlt) E.out.2.1 E.out.2.2.1 hl.out ha1 hb1), S2.drew⟩
    · obtain rfl : i = n := by omega
      go_wp2
      go_end0
      have e : l = p ++ Y ++ q ++ X ++ r := by
        obtain ⟨_, _, _, e4, e5⟩ := E.out
        rw [hl.out, e4, List.drop_length, List.take_length, e5, List.take_length, List.drop_length]; simp
      rw [← e]
      exact ⟨rfl, hSr⟩
end Go.Proofs

namespace Go.Proofs
open Go.Croft Go.RowKit

theorem swapRange_z (m : Mem) (w : World) (F : HP) (A : Option Addr) (cap len : Nat) (za zb zn : Int) (l p X q Y r : List Pnt) (f : Value) (hl : l = p ++ X ++ q ++ Y ++ r) (hlen : len = l.length) (ha : za = p.length) (hb : zb = (p ++ X ++ q).length) (hn : zn = X.length) (hXY : X.length = Y.length) (hS : St m w (star (SlO kPt A cap l) F)) :
    Calls Try.prog 177 #[.slice A len cap, .int .i64 za, .int .i64 zb, .int .i64 zn, f] w fun e w' => e = .returned (.tuple #[]) ∧ St m w' (star (SlO kPt A cap (p ++ Y ++ q ++ X ++ r)) F) := by
  subst hl hlen ha hb hn
  exact swapRange_c m w F A cap p X q Y r f hXY hS

set_option maxRecDepth 100000 in
set_option maxHeartbeats 800000 in
theorem rotate_c (m : Mem) (w : World) (F : HP) (A : Option Addr) (cap len : Nat) (za zm zb : Int) (l p U V r : List Pnt) (f : Value) (hl : l = p ++ U ++ V ++ r) (hlen : len = l.length) (ha : za = p.length) (hm : zm = (p ++ U).length) (hb : zb = (p ++ U ++ V).length) (hU : 0 < U.length) (hV : 0 < V.length) (hS : St m w (star (SlO kPt A cap l) F)) :
    Calls Try.prog 169 #[.slice A len cap, .int .i64 za, .int .i64 zm, .int .i64 zb, f] w fun e w' => e = .returned (.tuple #[]) ∧ St m w' (star (SlO kPt A cap (p ++ V ++ U ++ r)) F) := by
  have hlm := SlO.len_max hS
  obtain ⟨M, hM⟩ : ∃ M, M = (p ++ U).length := ⟨_, rfl⟩
  obtain ⟨u, hu⟩ : ∃ u, u = U.length := ⟨_, rfl⟩
  obtain ⟨v, hv⟩ : ∃ v, v = V.length := ⟨_, rfl⟩
  have hlen2 : M + v ≤ len ∧ u ≤ M := by subst hlen hl hM hu hv; simp; omega
  rw [← hlen] at hlm
  have e1 : IntKind.i64.wrap (zm - za) = u := by
    rw [show zm - za = u by subst hm ha hu; simp; omega]; exact i64_keep _ (by omega) (by omega)
  have e2 : IntKind.i64.wrap (zb - zm) = v := by
    rw [show zb - zm = v by subst hm hb hv; simp; omega]; exact i64_keep _ (by omega) (by omega)
  have hzm : zm = M := by rw [hm, hM]
  subst hzm
  have E := Lib.hid (And.intro hl (And.intro hlen (And.intro hM (And.intro hu hv))))
  have HU := Lib.hid hU
  have HV := Lib.hid hV
  clear hl hlen ha hm hb hU hV hM
  go_enter Try.func169, Try.ntmps169
  go_wp2
  go_loopg [10, 11] (u + v) (fun g q t wr => ∃ (p' U' V' r' l' : List Pnt), q = .int .i64 U'.length ∧ t = .int .i64 V'.length ∧ p'.length + U'.length = M ∧ 0 < U'.length ∧ 0 < V'.length ∧ U'.length + V'.length ≤ g ∧ M + V'.length ≤ len ∧ Hid (l' = p' ++ U' ++ V' ++ r') ∧ Hid (l'.length = len) ∧ Hid (p ++ V ++ U ++ r = p' ++ V' ++ U' ++ r') ∧ St m wr (star (SlO kPt A cap l') F))
  case atStart =>
    refine ⟨p, U, V, r, l, rfl, rfl, ?_, HU.out, HV.out, by omega, by omega, E.out.1, E.out.2.1.symm, rfl, hS⟩
    have := E.out.2.2.1; simp at this; omega
  case round =>
    obtain ⟨p', U', V', r', l', rfl, rfl, hpm, hU', hV', hg, hmv, hl', hll, ht, hSr⟩ := hrel
    clear hS
    by_cases heq : U'.length = V'.length
    · have hne : ((U'.length : Int) != (V'.length : Int)) = false := by simp [heq]
      have w1 : IntKind.i64.wrap ((M : Int) - U'.length) = p'.length := by
        rw [show (M : Int) - U'.length = p'.length by omega]; exact i64_keep _ (by omega) (by omega)
      have C := Lib.hid (swapRange_z m wr F A cap len p'.length M U'.length l' p' U' [] V' r' f (by rw [hl'.out]; simp) hll.out.symm rfl (by simp; omega) rfl heq hSr)
      clear heq hSr
      go_wp2_with (go_at_call 177; with_reducible refine C.out.mono ?_; rintro e w2 ⟨rfl, S2⟩)
      go_end0
      refine ⟨rfl, ?_⟩
      rw [ht.out]
      simpa using S2
    · have hne : ((U'.length : Int) != (V'.length : Int)) = true := by simp; omega
      by_cases hgt : V'.length < U'.length
      · have hgt' : (V'.length : Int) < U'.length := by omega
        obtain ⟨U1, U2, rfl, h1⟩ : ∃ U1 U2, U' = U1 ++ U2 ∧ U1.length = V'.length := ⟨U'.take V'.length, U'.drop V'.length, by simp, by simp; omega⟩
        simp only [List.length_append] at *
        have w1 : IntKind.i64.wrap ((M : Int) - ((U1.length : Int) + U2.length)) = p'.length := by
          rw [show (M : Int) - ((U1.length : Int) + U2.length) = p'.length by omega]; exact i64_keep _ (by omega) (by omega)
        have w2 : IntKind.i64.wrap ((U1.length : Int) + U2.length - V'.length) = U2.length := by
          rw [show (U1.length : Int) + U2.length - V'.length = U2.length by omega]; exact i64_keep _ (by omega) (by omega)
        have C := Lib.hid (swapRange_z m wr F A cap len p'.length M V'.length l' p' U1 U2 V' r' f (by rw [hl'.out]; simp) hll.out.symm rfl (by simp; omega) (by rw [h1]) h1 hSr)
        have H1 := Lib.hid h1
        have HEQ := Lib.hid heq
        clear heq hSr h1
        go_wp2_with (go_at_call 177; with_reducible refine C.out.mono ?_; rintro e w2 ⟨rfl, S2⟩)
        go_roundg (U1.length + U2.length)
        case measure => have := H1.out; omega
        case rel =>
          have h1 := H1.out
          refine ⟨p' ++ V', U2, U1, r', p' ++ V' ++ U2 ++ U1 ++ r', rfl, by rw [h1], by simp; omega, by omega, by omega, by omega, by omega, Lib.hid rfl, Lib.hid ?_, Lib.hid ?_, S2⟩
          · have := hll.out; rw [hl'.out] at this; simp at this ⊢; omega
          · rw [ht.out]; simp
      · have hgt' : ¬ (V'.length : Int) < U'.length := by omega
        obtain ⟨V1, V2, rfl, h1⟩ : ∃ V1 V2, V' = V1 ++ V2 ∧ V2.length = U'.length := ⟨V'.take (V'.length - U'.length), V'.drop (V'.length - U'.length), by simp, by simp; omega⟩
        simp only [List.length_append] at *
        have w1 : IntKind.i64.wrap ((M : Int) - U'.length) = p'.length := by
          rw [show (M : Int) - U'.length = p'.length by omega]; exact i64_keep _ (by omega) (by omega)
        have w2 : IntKind.i64.wrap ((V1.length : Int) + V2.length - U'.length) = V1.length := by
          rw [show (V1.length : Int) + V2.length - U'.length = V1.length by omega]; exact i64_keep _ (by omega) (by omega)
        have w3 : IntKind.i64.wrap ((M : Int) + ((V1.length : Int) + V2.length)) = (M : Int) + ((V1.length : Int) + V2.length) := i64_keep _ (by omega) (by omega)
        have w4 : IntKind.i64.wrap ((M : Int) + ((V1.length : Int) + V2.length) - U'.length) = (M : Int) + V1.length := by
          rw [show (M : Int) + ((V1.length : Int) + V2.length) - U'.length = (M : Int) + V1.length by omega]; exact i64_keep _ (by omega) (by omega)
        have C := Lib.hid (swapRange_z m wr F A cap len p'.length ((M : Int) + V1.length) U'.length l' p' U' V1 V2 r' f (by rw [hl'.out]; simp) hll.out.symm rfl (by simp; omega) rfl h1.symm hSr)
        have H1 := Lib.hid h1
        have HEQ := Lib.hid heq
        clear heq hSr h1
        go_wp2_with (go_at_call 177; with_reducible refine C.out.mono ?_; rintro e w2 ⟨rfl, S2⟩)
        go_roundg (V1.length + V2.length)
        case measure => have := H1.out; omega
        case rel =>
          have h1 := H1.out
          have h2 := HEQ.out
          refine ⟨p', V2, V1, U' ++ r', p' ++ V2 ++ V1 ++ U' ++ r', by rw [h1], rfl, by omega, by omega, by omega, by omega, by omega, Lib.hid (by simp), Lib.hid ?_, Lib.hid ?_, S2⟩
          · have := hll.out; rw [hl'.out] at this; simp at this ⊢; omega
          · rw [ht.out]; simp
end Go.Proofs

namespace Go.Proofs
open Go.Croft Go.RowKit

set_option maxRecDepth 100000 in
/-- the closure of point.Sort -/
theorem ptCmp_p (a b : Pnt) : Pure Try.prog 76 #[a.v, b.v] (.int .i64 (cmpI a.id b.id)) := by
  intro m w H hS
  unfold Pnt.v
  go_enter Try.func76, Try.ntmps76
  go_wp2_with (go_at_call 77; refine ((compare_int _ _).at (m := m) (H := H) ((((hS.alloc _).drop).alloc _).drop)).mono ?_; rintro e w' ⟨rfl, hS'⟩)
  go_ret
  exact ⟨rfl, hS'⟩
end Go.Proofs

namespace Go.Croft
variable {α : Type} {key : α → Int}

theorem merge_left {x : α} {Y1 Y2 : List α} (hs : SortedBy key (Y1 ++ Y2)) (h1 : ∀ y ∈ Y1, key y < key x) (h2 : ∀ y ∈ Y2, key x ≤ key y) : SortedBy key (Y1 ++ [x] ++ Y2) ∧ Stab key ([x] ++ (Y1 ++ Y2)) (Y1 ++ [x] ++ Y2) := by
  obtain ⟨s1, s2, s3⟩ := List.pairwise_append.1 hs
  constructor
  · refine sorted_append (sorted_append s1 (List.pairwise_singleton _ _) ?_) s2 ?_
    · intro a ha b hb; simp at hb; subst hb; have := h1 a ha; omega
    · intro a ha b hb
      rcases List.mem_append.1 ha with ha | ha
      · exact s3 a ha b hb
      · simp at ha; subst ha; exact h2 b hb
  · rw [← List.append_assoc]
    refine Stab.append (Stab.rot ?_) (.refl _)
    intro u hu v hv; simp at hu; subst hu; have := h1 v hv; omega
theorem merge_right {y : α} {X1 X2 : List α} (hs : SortedBy key (X1 ++ X2)) (h1 : ∀ x ∈ X1, key x ≤ key y) (h2 : ∀ x ∈ X2, key y < key x) : SortedBy key (X1 ++ [y] ++ X2) ∧ Stab key ((X1 ++ X2) ++ [y]) (X1 ++ [y] ++ X2) := by
  obtain ⟨s1, s2, s3⟩ := List.pairwise_append.1 hs
  constructor
  · refine sorted_append (sorted_append s1 (List.pairwise_singleton _ _) ?_) s2 ?_
    · intro a ha b hb; simp at hb; subst hb; exact h1 a ha
    · intro a ha b hb
      rcases List.mem_append.1 ha with ha | ha
      · exact s3 a ha b hb
      · simp at ha; subst ha; have := h2 b hb; omega
  · rw [List.append_assoc, List.append_assoc]
    refine Stab.append (.refl _) (Stab.rot ?_)
    intro u hu v hv; simp at hv; subst hv; have := h2 u hu; omega
theorem merge_rot {X1 U V Y2 C1 C2 : List α} (hX : SortedBy key (X1 ++ U)) (hY : SortedBy key (V ++ Y2)) (h1 : ∀ v ∈ V, ∀ u ∈ U, key v < key u) (h2 : ∀ x ∈ X1, ∀ y ∈ Y2, key x ≤ key y)
    (s1 : SortedBy key C1) (t1 : Stab key (X1 ++ V) C1) (s2 : SortedBy key C2) (t2 : Stab key (U ++ Y2) C2) : SortedBy key (C1 ++ C2) ∧ Stab key ((X1 ++ U) ++ (V ++ Y2)) (C1 ++ C2) := by
  obtain ⟨_, _, x3⟩ := List.pairwise_append.1 hX
  obtain ⟨_, _, y3⟩ := List.pairwise_append.1 hY
  constructor
  · refine sorted_append s1 s2 fun a ha b hb => ?_
    rcases List.mem_append.1 (t1.mem.1 ha) with ha | ha <;> rcases List.mem_append.1 (t2.mem.1 hb) with hb | hb
    · exact x3 a ha b hb
    · exact h2 a ha b hb
    · have := h1 a ha b hb; omega
    · exact y3 a ha b hb
  · have e : Stab key ((X1 ++ U) ++ (V ++ Y2)) ((X1 ++ V) ++ (U ++ Y2)) := by
      have : Stab key (X1 ++ ((U ++ V) ++ Y2)) (X1 ++ ((V ++ U) ++ Y2)) := Stab.append (.refl _) (Stab.append (Stab.rot fun u hu v hv => by have := h1 v hv u hu; omega) (.refl _))
      simpa using this
    exact e.trans (Stab.append t1 t2)

/-- what the search of symMerge has found: c0 is the least c with Y's (n - c) below X's c -/
theorem sym_split {X Y : List α} (hX : SortedBy key X) (hY : SortedBy key Y) {s q : Nat} (hs : s ≤ X.length) (hq : q ≤ Y.length)
    (h1 : ∀ (h : s < X.length), ∀ (_ : 0 < q), key (Y[q - 1]'(by omega)) < key X[s])
    (h2 : ∀ (_ : 0 < s), ∀ (h : q < Y.length), key (X[s - 1]'(by omega)) ≤ key Y[q]) :
    (∀ v ∈ Y.take q, ∀ u ∈ X.drop s, key v < key u) ∧ ∀ x ∈ X.take s, ∀ y ∈ Y.drop q, key x ≤ key y := by
  unfold SortedBy at hX hY
  rw [List.pairwise_iff_getElem] at hX hY
  constructor
  · intro v hv u hu
    obtain ⟨i, hi, rfl⟩ := List.getElem_of_mem hv
    obtain ⟨j, hj, rfl⟩ := List.getElem_of_mem hu
    simp at hi hj
    have h := h1 (by omega) (by omega)
    have a1 : key (Y.take q)[i] ≤ key (Y[q - 1]'(by omega)) := by
      rw [List.getElem_take]
      by_cases e : i = q - 1
      · subst e; exact Int.le_refl _
      · exact hY i (q - 1) (by omega) (by omega) (by omega)
    have a2 : key (X[s]'(by omega)) ≤ key (X.drop s)[j] := by
      rw [List.getElem_drop]
      by_cases e : j = 0
      · subst e; exact Int.le_refl _
      · exact hX s (s + j) (by omega) (by omega) (by omega)
    omega
  · intro x hx y hy
    obtain ⟨i, hi, rfl⟩ := List.getElem_of_mem hx
    obtain ⟨j, hj, rfl⟩ := List.getElem_of_mem hy
    simp at hi hj
    have h := h2 (by omega) (by omega)
    have a1 : key (X.take s)[i] ≤ key (X[s - 1]'(by omega)) := by
      rw [List.getElem_take]
      by_cases e : i = s - 1
      · subst e; exact Int.le_refl _
      · exact hX i (s - 1) (by omega) (by omega) (by omega)
    have a2 : key (Y[q]'(by omega)) ≤ key (Y.drop q)[j] := by
      rw [List.getElem_drop]
      by_cases e : j = 0
      · subst e; exact Int.le_refl _
      · exact hY q (q + j) (by omega) (by omega) (by omega)
    omega
end Go.Croft
