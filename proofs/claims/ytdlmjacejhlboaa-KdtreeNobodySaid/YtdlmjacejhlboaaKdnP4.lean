/- Contracts of the given program, for the proofs of its statements: Concat, KdOrder, Ints, KdAlive, KdNobody. No conditions beyond those in each theorem. -/
import Derived.Test.YtdlmjacejhlboaaKdnP3
import Derived.Lib.AppendZerosOnto
import Derived.Test.YtdlmjacejhlboaaKdnP1
namespace Go.Croft
open Go Go.RowKit
variable {α : Type} {P : Program} {k : Kd α} {m : Mem} {w : World} {F : HP}

/-- append(nil, make([]E, n)..) -/
theorem run_append_make_nil (hk : KdOk P k) (t tn : TypeId) (kn kq : IntKind) (ht : P.underlying t = some (.slice k.ty)) (htn : P.underlying tn = some (.int kn)) (hS : St m w F) (n : Nat) (h0 : 0 < n) (hb : n * k.bytes ≤ 140737488355328) (hn : n ≤ 4611686018427387904) :
    ∃ b cap' w', (∀ ty, (Builtin.append_ #[t, tn] ty #[.slice none 0 0, .int kq n]).run P w = .ok (.slice (some ⟨b, 0, none⟩) n cap') w') ∧ n ≤ cap' ∧ cap' ≤ 9223372036854775807 ∧ St m w' (star (SlO k (some ⟨b, 0, none⟩) cap' []) F) := by
  obtain ⟨⟨i, z, hi, hz, hsz, hby, hzs⟩, _⟩ := hk
  have hr := fun ty => Lib.run_append_grow_zeros (P := P) w t tn ty k.ty i z kq kn ht htn hi hz none 0 0 [] (run_firstCells_none w.drew i.size 0 0 0) n h0 (by rw [hsz]; exact k.pos) (by omega) (by omega)
    (by rw [hby]; omega) (by rw [hby, Nat.zero_add]; exact growslice_fits (by omega) (by omega))
  have hge : 0 + n ≤ grownCap w (0 + n) 0 k.ty := grownCap_ge w _ 0 k.ty
  have hlm : grownCap w (0 + n) 0 k.ty ≤ maxLen := grownCap_le_maxLen w _ 0 k.ty (by simp only [maxLen]; omega)
  simp only [Nat.zero_add] at hr hge hlm
  generalize grownCap w n 0 k.ty = c at hr hge hlm
  refine ⟨w.heap.size, c, _, hr, hge, by simp only [maxLen] at hlm; omega, SlO.mk (hS.drew.alloc _) (by simp) ?_ hlm (Holds.nil _ _ _)⟩
  simp only [Array.size_append, List.size_toArray, List.length_nil, Array.size_empty, size_zeroCells, hzs]
  have : n * k.K + (c - n) * k.K = c * k.K := by rw [← Nat.add_mul]; congr 1; omega
  omega
end Go.Croft
namespace Go.Proofs
open Go.Croft Go.RowKit

set_option maxRecDepth 100000 in
theorem growInt_c (m : Mem) (w : World) (F : HP) (n : Nat) (hn : n ≤ 1000000) (hS : St m w F) :
    Calls Try.prog 98 #[.slice none 0 0, .int .i64 n] w fun e w' => ∃ A' cap', e = .returned (.slice A' (([] : List Int).length) cap') ∧ St m w' (star (SlO kInt A' cap' []) F) := by
  by_cases h0 : n = 0
  · subst h0
    go_enter Try.func98, Try.ntmps98
    go_wp2
    go_ret
    exact ⟨none, 0, rfl, SlO.nil hS⟩
  · have hp : (0 : Int) < n := by omega
    have hw : IntKind.i64.wrap (n : Int) = n := i64_keep _ (by omega) (by omega)
    obtain ⟨b, c, w1, hr, h1, h2, S1⟩ := run_append_make_nil kInt_ok 26 3 .i64 .i64 Try.underlying26 Try.underlying3 hS n (by omega) (by simp [kInt]; omega) (by omega)
    have hs1 := fun w => run_slice_to (P := Try.prog) kInt_ok 26 Try.underlying26 none 0 0 0 .i64 (by omega) (by omega) w
    have hs2 := fun w => run_slice_to (P := Try.prog) kInt_ok 26 Try.underlying26 (some ⟨b, 0, none⟩) n c 0 .i64 (by omega) h1 w
    have e1 : sliceAddr none 0 0 kInt.K = none := rfl
    have e2 : sliceAddr (some ⟨b, 0, none⟩) c 0 kInt.K = some ⟨b, 0, none⟩ := by
      unfold sliceAddr; split
      · rfl
      · simp [Addr.add]
    rw [e1] at hs1
    rw [e2] at hs2
    simp only [Int.ofNat_zero, Int.natCast_zero, Int.cast_ofNat_Int] at hs1 hs2
    go_enter Try.func98, Try.ntmps98
    have HRZ := Lib.hid hr
    clear hr
    go_wp2_with (at_builtin; refine Lib.wpList_append_run _ rfl _ _ _ _ rfl _ _ rfl rfl _ _ (HRZ.out _) ?_)
    go_ret
    exact ⟨_, c, rfl, S1⟩

/-- slices of whole numbers, as elements -/
def kSli : Kd (Option Addr × Nat × List Int) where
  K := 1
  ty := 26
  bytes := 24
  enc x := [.slice x.1 x.2.2.length x.2.1]
  len _ := rfl
  one := by intro x v h; simp at h; subst h; rfl
  pos := by decide
theorem kSli_ok : KdOk Go.Proofs.Try.prog kSli := .of (by kernel_rfl) (by decide)

def sumLen (L : List (Option Addr × Nat × List Int)) : Nat := (L.map fun x => x.2.2.length).sum
theorem sumLen_take (L : List (Option Addr × Nat × List Int)) (k : Nat) (h : k < L.length) : sumLen (L.take (k + 1)) = sumLen (L.take k) + L[k].2.2.length := by
  unfold sumLen; rw [List.take_succ_eq_append_getElem h, List.map_append, List.sum_append, List.map_cons, List.map_nil, List.sum_cons, List.sum_nil, Nat.add_zero]
theorem sumLen_le (L : List (Option Addr × Nat × List Int)) (k : Nat) : sumLen (L.take k) ≤ sumLen L := by
  unfold sumLen
  conv => rhs; rw [← List.take_append_drop k L, List.map_append, List.sum_append]
  omega
def catI (L : List (Option Addr × Nat × List Int)) : List Int := L.flatMap fun x => x.2.2
theorem catI_take (L : List (Option Addr × Nat × List Int)) (k : Nat) (h : k < L.length) : catI (L.take (k + 1)) = catI (L.take k) ++ L[k].2.2 := by
  unfold catI; rw [List.take_succ_eq_append_getElem h, List.flatMap_append, List.flatMap_cons, List.flatMap_nil, List.append_nil]
theorem catI_length (L : List (Option Addr × Nat × List Int)) : (catI L).length = sumLen L := by
  unfold catI sumLen; simp [List.length_flatMap]

set_option maxRecDepth 100000 in
set_option maxHeartbeats 800000 in
/-- slices.Concat -/
theorem concat_c (m : Mem) (w : World) (F : HP) (A : Option Addr) (cap : Nat) (L : List (Option Addr × Nat × List Int)) (hL : SlR kSli m A cap L) (hx : ∀ x ∈ L, SlR kInt m x.1 x.2.1 x.2.2) (hn : sumLen L ≤ 1000000) (hS : St m w F) :
    Calls Try.prog 65 #[.slice A L.length cap] w fun e w' => ∃ A' cap', e = .returned (.slice A' (catI L).length cap') ∧ St m w' (star (SlO kInt A' cap' (catI L)) F) := by
  have HL := Lib.hid hL
  have HX := Lib.hid hx
  have hlm := hL.len_max
  clear hL hx
  go_enter Try.func65, Try.ntmps65
  go_wp2
  go_loopg [3, 11] L.length (fun r q t wr => ∃ k : Nat, k ≤ L.length ∧ k + r = L.length ∧ q = .int .i64 (sumLen (L.take k)) ∧ t = .int .i64 k ∧ wr = w)
  case atStart => exact ⟨0, by omega, by omega, by simp [sumLen], rfl, rfl⟩
  case round =>
    obtain ⟨k, hk, hkr, rfl, rfl, rfl⟩ := hrel
    by_cases hlt : k < L.length
    · obtain ⟨g, off, rfl, hc⟩ := HL.out.at hS hlt
      have h0 := hc 0 _ rfl
      simp only [kSli, Nat.add_zero, Nat.mul_one] at h0
      have hs := sumLen_take L k hlt
      have hle := sumLen_le L (k + 1)
      have hq : ∃ q, q = sumLen (L.take k) := ⟨_, rfl⟩
      obtain ⟨q, hq⟩ := hq
      rw [← hq] at hs ⊢
      have hw : IntKind.i64.wrap ((q : Int) + (L[k].2.2.length : Int)) = (q : Int) + (L[k].2.2.length : Int) := i64_keep _ (by omega) (by omega)
      have hnn : ¬ ((q : Int) + (L[k].2.2.length : Int)) < 0 := by omega
      have HS2 := Lib.hid hs
      clear hc hs hq
      go_wp2
      go_roundg (gk - 1)
      case measure => omega
      case rel => exact ⟨k + 1, by omega, by omega, by rw [HS2.out]; simp, by go_num, rfl⟩
    · obtain rfl : k = L.length := by omega
      rw [List.take_length]
      obtain ⟨n, hn'⟩ : ∃ n, n = sumLen L := ⟨_, rfl⟩
      rw [← hn'] at hn ⊢
      have HN := Lib.hid hn'
      clear hn'
      go_wp2_with (go_at_call 98; refine (growInt_c m _ F n (by omega) hS).mono ?_; rintro e w2 ⟨A1, cap1, rfl, S1⟩; clear hS)
      go_loopg [6, 27] L.length (fun r q t wr => ∃ (k : Nat) (B : Option Addr) (c : Nat) (o : List Int), k ≤ L.length ∧ k + r = L.length ∧ q = .slice B o.length c ∧ t = .int .i64 k ∧ o.length ≤ n ∧ Hid (o = catI (L.take k)) ∧ St m wr (star (SlO kInt B c o) F))
      case atStart => exact ⟨0, A1, cap1, [], by omega, by omega, rfl, rfl, by simp, Lib.hid (by simp [catI]), S1⟩
      case round =>
        obtain ⟨k, B, c, o, hk, hkr, rfl, rfl, hlo, ho, hSr⟩ := hrel
        by_cases hlt : k < L.length
        · obtain ⟨g, off, rfl, hc⟩ := HL.out.at hSr hlt
          have h0 := hc 0 _ rfl
          simp only [kSli, Nat.add_zero, Nat.mul_one] at h0
          have hs := catI_take L k hlt
          have hls : (catI (L.take (k + 1))).length ≤ n := by rw [catI_length, HN.out]; exact sumLen_le L (k + 1)
          rw [hs, ← ho.out, List.length_append] at hls
          have HX1 := Lib.hid (HX.out _ (List.getElem_mem hlt))
          have HS2 := Lib.hid hs
          clear hc hs
          go_wp2_with (refine wpl_appendR kInt_ok rfl _ _ 26 rfl Try.underlying26 B c o rfl hSr L[k].1 L[k].2.1 L[k].2.2 rfl HX1.out (by simp [kInt]; omega) (by omega) (fun B2 c2 w3 S2 => ?_))
          go_roundg (gk - 1)
          case measure => omega
          case rel => exact ⟨k + 1, B2, c2, o ++ L[k].2.2, by omega, by omega, by rw [List.length_append], by go_num, by simp; omega, Lib.hid (by rw [HS2.out, ho.out]), S2⟩
        · obtain rfl : k = L.length := by omega
          have ho' := ho.out
          rw [List.take_length] at ho'
          have HO := Lib.hid ho'
          clear ho ho'
          go_wp2
          go_ret
          exact ⟨B, c, by rw [← HO.out]; rfl, HO.out ▸ hSr⟩
end Go.Proofs

namespace Go.Proofs
open Go.Croft Go.RowKit Go.Sort Go.Shelf

theorem orderTail_c (m : Mem) (W : World) (F : HP) (id : Int) (g g2 : Nat) (hg : g = W.heap.size) (hg2 : g2 = W.heap.size + 1) (hS : St m W F) :
    Calls Try.prog 65 #[.slice (some ⟨g2, 0, none⟩) 3 3] (((W.alloc (.cells #[.int .i64 id] 3)).alloc (.cells #[.slice (some ⟨g, 0, none⟩) 1 1, .slice none 0 0, .slice none 0 0] 26)).drew) fun e w' => ∃ A cap, e = .returned (.slice A ([id].length) cap) ∧ St m w' (star (SlO kInt A cap [id]) F) := by
  subst hg hg2
  obtain ⟨m1, l1, S1, R1⟩ := SlR.fresh (k := kInt) [id] hS _ rfl (by simp)
  obtain ⟨m2, l2, S2, R2⟩ := SlR.fresh (k := kSli) [(some ⟨W.heap.size, 0, none⟩, 1, [id]), (none, 0, []), (none, 0, [])] S1 _ rfl (by simp)
  simp only [World.size_alloc] at R2
  refine (concat_c m2 _ F _ _ _ R2 ?_ (by simp [sumLen]) S2.drew).mono ?_
  · intro x hx
    simp at hx
    rcases hx with rfl | rfl
    · exact R1.mono l2
    · exact SlR.nil _ _
  · rintro e w' ⟨A, cap, rfl, S3⟩
    exact ⟨A, cap, rfl, S3.weak (l1.trans l2)⟩

set_option maxRecDepth 100000 in
set_option maxHeartbeats 800000 in
theorem kdOrder1_c (m : Mem) (w : World) (F : HP) (p : Pnt) (v : Option Addr) (hT : KtR m (.node p .nil .nil) v) (hS : St m w F) :
    Calls Try.prog 28 #[.pointer v] w fun e w' => ∃ A cap, e = .returned (.slice A ([p.id].length) cap) ∧ St m w' (star (SlO kInt A cap [p.id]) F) := by
  have HI := Lib.hid fun w hS => kdIs_c m w F (.node p .nil .nil) v hT hS
  obtain ⟨b, vl, vr, fr, rfl, hb, hl, hr⟩ := hT
  obtain rfl : vl = none := hl
  obtain rfl : vr = none := hr
  have HO := Lib.hid fun w (h : St m w F) => kdOrder0_c m w F .nil none rfl rfl h
  have HOLD := Lib.hid fun (w : World) (h : St m w F) => (⟨h, h.cellM hb 1, h.cellM hb 5, h.cellM hb 6⟩ : St m w F ∧ w.cell? ⟨b, 1, none⟩ = some (.int .i64 p.id) ∧ w.cell? ⟨b, 5, none⟩ = some (.pointer none) ∧ w.cell? ⟨b, 6, none⟩ = some (.pointer none))
  have hs0 := HOLD.out _ hS
  have HT := Lib.hid fun W id g g2 => orderTail_c m W F id g g2
  clear hb
  go_enter Try.func28, Try.ntmps28
  go_wp2_with (go_at_call 64; refine (HI.out w hS).mono ?_; rintro e w1 ⟨rfl, rfl⟩; simp only [Kt.is])
  go_region_held3 (fun W' => St m W' F ∧ W'.cell? ⟨b, 1, none⟩ = some (.int .i64 p.id) ∧ W'.cell? ⟨b, 5, none⟩ = some (.pointer none) ∧ W'.cell? ⟨b, 6, none⟩ = some (.pointer none)) (exact HOLD.out _ (by first | assumption | exact St.drop (by assumption) | exact And.left (by assumption) | exact St.drew (by assumption) | exact (St.alloc (by assumption) _).drop | exact (St.alloc (And.left (by assumption)) _).drop))
    (first
      | (go_at_call 28; with_reducible refine (HO.out _ (by first | assumption | exact And.left (by assumption))).mono ?_; rintro e w' ⟨rfl, rfl⟩)
      | (go_at_call 65; with_reducible refine (HT.out _ p.id _ _ rfl rfl (by first | exact hS | exact hS.drew | exact hS.drewN _)).mono ?_; rintro e w' ⟨A1, cap1, rfl, S1⟩))
  all_goals (go_wp2; go_ret; exact ⟨A1, cap1, rfl, S1⟩)
end Go.Proofs

namespace Go.Proofs
open Go.Croft Go.RowKit

set_option maxRecDepth 100000 in
set_option maxHeartbeats 800000 in
/-- croftplain.Ints: are two lists one? -/
theorem ints_c (m : Mem) (w : World) (F : HP) (A B : Option Addr) (ca cb : Nat) (la lb : List Int) (hA : SlR kInt m A ca la) (hB : SlR kInt m B cb lb) (hS : St m w F) :
    Calls Try.prog 17 #[.slice A la.length ca, .slice B lb.length cb] w fun e w' => e = .returned (.bool (decide (la = lb))) ∧ St m w' F := by
  have HA := Lib.hid hA
  have HB := Lib.hid hB
  have hlm := hA.len_max
  clear hA hB
  by_cases hl : la.length = lb.length
  · rw [← hl]
    have HLen := Lib.hid hl
    clear hl
    go_enter Try.func17, Try.ntmps17
    go_wp2
    go_loopg [4, 5] la.length (fun r q t wr => ∃ k : Nat, k + r = la.length ∧ q = .bool false ∧ t = .int .i64 k ∧ Hid (la.take k = lb.take k) ∧ St m wr F)
    case atStart => exact ⟨0, by omega, rfl, rfl, Lib.hid rfl, hS⟩
    case round =>
      obtain ⟨k, hk, rfl, rfl, ht, hSr⟩ := hrel
      by_cases hlt : k < la.length
      · have hltb : k < lb.length := by rw [← HLen.out]; exact hlt
        obtain ⟨g, off, rfl, hc⟩ := HA.out.at hSr hlt
        obtain ⟨g2, off2, rfl, hc2⟩ := HB.out.at hSr hltb
        have h0 := hc 0 _ rfl
        have h1 := hc2 0 _ rfl
        simp only [kInt, Nat.add_zero, Nat.mul_one] at h0 h1
        have hcap : la.length ≤ cb := by rw [HLen.out]; exact HB.out.le_cap
        clear hc hc2
        by_cases he : la[k] = lb[k]
        · have hne : (la[k] == lb[k]) = true := by simp [he]
          have hT : Hid (la.take (k + 1) = lb.take (k + 1)) := by
            show _ = _
            rw [List.take_succ_eq_append_getElem hlt, List.take_succ_eq_append_getElem hltb, ht.out, he]
          rw [← he] at h1
          clear he ht
          go_wp2_with fail
          go_quiet (fail)
          go_wp2_with fail
          go_roundg (gk - 1)
          case measure => omega
          case rel => exact ⟨k + 1, by omega, rfl, by go_num, hT, hSr.drewN _⟩
        · have hne : (la[k] == lb[k]) = false := by simp [he]
          have hF : la ≠ lb := fun e => he (by subst e; rfl)
          have HFn := Lib.hid hF
          clear he hF
          go_wp2_with fail
          go_quiet (fail)
          go_wp2_with fail
          go_ret
          exact ⟨by simp [HFn.out], hSr.drewN _⟩
      · obtain rfl : k = la.length := by omega
        have hE : la = lb := by
          have h := ht.out
          rw [List.take_length, HLen.out, List.take_length] at h; exact h
        have HE := Lib.hid hE
        clear hE
        go_wp2_with fail
        go_ret
        exact ⟨by simp [HE.out], hSr⟩
  · have hne : ((la.length : Int) == (lb.length : Int)) = false := beq_eq_false_iff_ne.2 (by omega)
    have hF : la ≠ lb := fun e => hl (by rw [e])
    have HFn := Lib.hid hF
    clear hF hl
    go_enter Try.func17, Try.ntmps17
    go_wp2
    go_ret
    exact ⟨by simp [HFn.out], hS⟩
end Go.Proofs

namespace Go.Proofs
open Go.Croft Go.RowKit Go.Sort Go.Shelf

theorem halved_nil {d : Nat} {t : Kt} (h : Halved d [] t) : t = .nil := by
  cases h with
  | nil => rfl
  | node _ _ s1 s2 p L R hp => have := hp.length_eq; simp at this
theorem halved_one {d : Nat} {p : Pnt} {t : Kt} (h : Halved d [p] t) : t = .node p .nil .nil := by
  cases h with
  | node _ _ s1 s2 q L R hp h1 h2 hl hr =>
    have hlen := hp.length_eq
    simp at hlen
    obtain rfl : s1 = [] := List.eq_nil_of_length_eq_zero (by omega)
    obtain rfl : s2 = [] := List.eq_nil_of_length_eq_zero (by omega)
    have e : q = p := by simpa using hp.mem_iff.1 (List.mem_singleton.2 rfl)
    rw [e, halved_nil hl, halved_nil hr]

def p5 : Pnt := ⟨5, 0, 0, ⟨#[]⟩⟩
set_option maxRecDepth 100000 in
set_option maxHeartbeats 800000 in
theorem kdAlive_c (m : Mem) (w : World) (F : HP) (hS : St m w F) :
    Calls Try.prog 20 #[] w fun e w' => e = .returned (.bool true) ∧ ∃ m', m.le m' ∧ St m' w' F := by
  obtain ⟨m1, l1, S1, R1⟩ := SlR.fresh (k := kPt) [p5] hS _ rfl (by simp)
  have HL1 := Lib.hid l1
  have HR1 := Lib.hid R1
  have HS1 := Lib.hid S1
  clear l1 R1 S1
  go_enter Try.func20, Try.ntmps20
  go_wp2_with (first
    | (go_at_call 22; refine (kdNew1_c m1 _ F _ _ [p5] (by simp) HR1.out HS1.out).mono ?_; rintro e w2 ⟨m2, v, t, rfl, l2, K2, D2, S2⟩; obtain rfl := halved_one D2; (have HK := Lib.hid K2); (have HL2 := Lib.hid (HL1.out.trans l2)); clear D2 K2 l2)
    | (go_at_call 29; refine (kdDepth_c _ m2 _ F v HK.out S2 (by simp [Kt.depth])).mono ?_; rintro e w3 ⟨rfl, S3⟩; simp only [Kt.depth]; clear S2)
    | (go_at_call 28; refine (kdOrder1_c m2 _ F p5 v HK.out S3).mono ?_; rintro e w4 ⟨A4, cap4, rfl, S4⟩; obtain ⟨m5, l5, S5, R5⟩ := SlO.freeze S4; obtain ⟨m6, l6, S6, R6⟩ := SlR.fresh (k := kInt) [5] S5 _ rfl (by simp); (have HL6 := Lib.hid (HL2.out.trans (l5.trans l6))); (have HR5 := Lib.hid (R5.mono l6)); (have HR6 := Lib.hid R6); (have HS6 := Lib.hid S6); clear S3 S4 l5 l6 S5 R5 R6 S6)
    | (go_at_call 17; refine (ints_c m6 _ F A4 _ cap4 _ [p5.id] [5] HR5.out HR6.out HS6.out).mono ?_; rintro e w7 ⟨rfl, S7⟩))
  go_ret
  exact ⟨rfl, m6, HL6.out, S7⟩
end Go.Proofs

namespace Go.Proofs
open Go.Croft Go.RowKit Go.Sort Go.Shelf

/-- *kdtree.Tree, as an element -/
def kTp : Croft.Kd (Option Addr) where
  K := 1
  ty := 45
  bytes := 8
  enc x := [.pointer x]
  len _ := rfl
  one := by intro x v h; simp at h; subst h; rfl
  pos := by decide

set_option maxRecDepth 100000 in
set_option maxHeartbeats 1600000 in
theorem kdNobody_main (m : Mem) (w : World) (F : HP) (x0 y0 x1 y1 k : Int) (hS : St m w F) :
    Calls Try.prog 6 #[.agg #[.int .u32 x0, .int .u32 y0, .int .u32 x1, .int .u32 y1], .int .i64 k] w fun e w' => e = .returned (.bool true) ∧ ∃ m', m.le m' ∧ St m' w' F := by
  obtain ⟨m1, l1, b1, S1⟩ := hS.allocf (.cells #[.int .u32 x0, .int .u32 y0, .int .u32 x1, .int .u32 y1] 43)
  obtain ⟨m2, l2, b2, S2⟩ := S1.allocf (.cells #[.bool false, .int .i64 0, .int .u32 0, .int .u32 0, .string ⟨#[]⟩, .pointer none, .pointer none] 56)
  simp only [World.size_alloc] at b2
  have b3 := l2.blk _ _ b1
  have HL := Lib.hid (l1.trans l2)
  have HS := Lib.hid S2
  clear l1 l2 S1 S2 b1 hS
  generalize hg : w.heap.size = g at *
  go_enter Try.func6, Try.ntmps6
  go_wp2_with fail
  have q := kdNew1_c m2 _ F none 0 [] (by simp) (SlR.nil _ _) HS.out
  (refine q.mono ?_; rintro e w2 ⟨m3, v, t, rfl, l3, K3, D3, S3⟩; obtain rfl := halved_nil D3; obtain rfl : v = none := K3; obtain ⟨m4, l4, S4, R4⟩ := SlR.fresh (k := kTp) [none, some ⟨g + 1, 0, none⟩, none] S3 _ rfl (by simp); (have B2 := (l3.trans l4).blk _ _ b2); (have B3 := (l3.trans l4).blk _ _ b3); clear D3)
  clear q b2 b3 HS
  simp only [kTp] at S4
  have HL4 := Lib.hid (HL.out.trans (l3.trans l4))
  have hv : ∀ j, j < 3 → ∃ (t : Kt) (v : Option Addr), KtR m4 t v ∧ t.is = false ∧ [none, some (Addr.mk (g + 1) 0 none), none][j]? = some v := by
    intro j hj
    match j, hj with
    | 0, _ => exact ⟨.nil, none, rfl, rfl, rfl⟩
    | 1, _ => exact ⟨.blank, _, ⟨g + 1, _, rfl, B2⟩, rfl, rfl⟩
    | 2, _ => exact ⟨.nil, none, rfl, rfl, rfl⟩
  have HV := Lib.hid hv
  have HB := Lib.hid B3
  have HR := Lib.hid R4
  clear hv B2 B3 R4 l3 l4 S3 HL
  go_wp2_with fail
  go_loopg [4, 7] 3 (fun r q t wr => ∃ j : Nat, j + r = 3 ∧ q = .bool false ∧ t = .int .i64 j ∧ St m4 wr F)
  case atStart => exact ⟨0, rfl, rfl, rfl, S4⟩
  case round =>
    obtain ⟨j, hj, rfl, rfl, hSr⟩ := hrel
    by_cases hlt : j < 3
    · obtain ⟨t, v, hT, hti, hjv⟩ := HV.out j hlt
      have HOLD := Lib.hid fun (W : World) (h : St m4 W F) => (⟨h, by
          obtain ⟨b', off', e', hc'⟩ := HR.out.at h (i := j) (by simpa using hlt)
          cases e'
          have c0 := hc' 0 _ rfl
          simp only [kTp, Nat.mul_one, Nat.add_zero, Nat.zero_add] at c0
          rw [c0]
          have : [none, some (Addr.mk (g + 1) 0 none), none][j]? = some ([none, some (Addr.mk (g + 1) 0 none), none][j]'(by simpa using hlt)) := List.getElem?_eq_getElem _
          rw [hjv] at this
          rw [← Option.some.inj this], h.cellM HB.out 0, h.cellM HB.out 1, h.cellM HB.out 2, h.cellM HB.out 3⟩ : St m4 W F ∧ W.cell? ⟨w2.heap.size, j, none⟩ = some (.pointer v) ∧ W.cell? ⟨g, 0, none⟩ = some (.int .u32 x0) ∧ W.cell? ⟨g, 1, none⟩ = some (.int .u32 y0) ∧ W.cell? ⟨g, 2, none⟩ = some (.int .u32 x1) ∧ W.cell? ⟨g, 3, none⟩ = some (.int .u32 y1))
      have hs0 := HOLD.out _ hSr
      have C1 := Lib.hid fun (W : World) (h : St m4 W F) => kdRange0_c m4 W F t v hT hti h x0 y0 x1 y1
      have C2 := Lib.hid fun (W : World) (h : St m4 W F) => kdNear0_c m4 W F t v hT hti h 1 2 k
      have C3 := Lib.hid fun (W : World) (h : St m4 W F) => kdOrder0_c m4 W F t v hT hti h
      have C4 := Lib.hid fun (W : World) (h : St m4 W F) => kdDepth_c t m4 W F v hT h (by cases t <;> simp_all [Kt.is, Kt.depth])
      have h4 : t.depth = 0 := by cases t <;> simp_all [Kt.is, Kt.depth]
      have j1 : (j : Int) < 3 := by omega
      have j0 : (0 : Int) ≤ j := by omega
      rw [h4] at C4
      clear hT hti hjv h4
      go_wp2_with fail
      go_region_held3 (fun W => St m4 W F ∧ W.cell? ⟨w2.heap.size, j, none⟩ = some (.pointer v) ∧ W.cell? ⟨g, 0, none⟩ = some (.int .u32 x0) ∧ W.cell? ⟨g, 1, none⟩ = some (.int .u32 y0) ∧ W.cell? ⟨g, 2, none⟩ = some (.int .u32 x1) ∧ W.cell? ⟨g, 3, none⟩ = some (.int .u32 y1)) (exact HOLD.out _ (by first | assumption | exact And.left (by assumption) | exact St.drew (by assumption) | exact St.drewN (by assumption) _ | exact (St.alloc (by assumption) _).drop | exact (St.alloc (And.left (by assumption)) _).drop))
        (first
          | (go_at_call 24; with_reducible refine (C1.out _ (by first | assumption | exact And.left (by assumption))).mono ?_; rintro e w' ⟨A1, cap1, rfl, hS1⟩)
          | (go_at_call 26; with_reducible refine (C2.out _ (by first | assumption | exact And.left (by assumption))).mono ?_; rintro e w' ⟨rfl, hS2⟩)
          | (go_at_call 28; with_reducible refine (C3.out _ (by first | assumption | exact And.left (by assumption))).mono ?_; rintro e w' ⟨rfl, rfl⟩)
          | (go_at_call 29; with_reducible refine (C4.out _ (by first | assumption | exact And.left (by assumption))).mono ?_; rintro e w' ⟨rfl, hS4⟩))
      have w0 : IntKind.i64.wrap 0 = 0 := by decide
      go_wp2
      go_roundg (gk - 1)
      case measure => omega
      case rel => exact ⟨j + 1, by omega, rfl, by go_num, hS4⟩
    · obtain rfl : j = 3 := by omega
      go_wp2_with (go_at_call 20; refine (kdAlive_c m4 _ F hSr).mono ?_; rintro e w5 ⟨rfl, m5, l5, S5⟩)
      go_ret
      exact ⟨rfl, m5, HL4.out.trans l5, S5⟩
end Go.Proofs
