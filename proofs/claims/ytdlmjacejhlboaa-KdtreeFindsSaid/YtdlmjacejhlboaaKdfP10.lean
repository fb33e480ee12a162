/- Contracts of the given program, for the proofs of its statements: RefNear, KdOrder, KdAlive, KdFinds. No conditions beyond those in each theorem. -/
import Derived.Test.YtdlmjacejhlboaaKdfP9
import Derived.Test.YtdlmjacejhlboaaKdfP7
import Derived.Test.YtdlmjacejhlboaaKdfP4
namespace Go.Proofs
open Go.Croft Go.RowKit

def RefNearPost (m : Mem) (F : HP) (x y kk : Nat) (l : List Pnt) (e : Ending) (w' : World) : Prop := ∃ (o : List Pnt) (A : Option Addr) (cap : Nat), o.Perm l ∧ SortedF (o.map (fnd x y)) ∧ e = .returned (.slice A (o.take kk).length cap) ∧ St m w' (star (SlO kPt A cap (o.take kk)) F)

theorem cmpF_trans' {a b c : Fnd} (h : cmpF a b < 0) (k : ¬ cmpF c b < 0) : cmpF a c < 0 := by
  simp only [cmpF_neg, cmpD_neg, cmpD_zero] at *; omega
theorem insF_sorted {x y : Nat} {p : Pnt} {X1 X2 : List Pnt} (hs : SortedF ((X1 ++ X2).map (fnd x y))) (h1 : ∀ a ∈ X1, ¬ cmpF (fnd x y p) (fnd x y a) < 0) (h2 : ∀ a ∈ X2, cmpF (fnd x y p) (fnd x y a) < 0) : SortedF ((X1 ++ [p] ++ X2).map (fnd x y)) := by
  unfold SortedF at *
  rw [List.map_append, List.pairwise_append] at hs
  rw [List.append_assoc, List.map_append, List.pairwise_append]
  simp only [List.singleton_append, List.map_cons, List.pairwise_cons]
  refine ⟨hs.1, ⟨fun b hb => ?_, hs.2.1⟩, fun a ha b hb => ?_⟩
  · obtain ⟨c, hc, rfl⟩ := List.mem_map.1 hb
    have := h2 c hc
    simp only [cmpF_neg, cmpD_neg, cmpD_zero] at *; omega
  · rcases List.mem_cons.1 hb with rfl | hb
    · obtain ⟨c, hc, rfl⟩ := List.mem_map.1 ha
      exact h1 c hc
    · exact hs.2.2 a ha b hb

set_option maxRecDepth 100000 in
set_option maxHeartbeats 6400000 in
theorem refNear_c (m : Mem) (w : World) (F : HP) (A0 : Option Addr) (cap0 : Nat) (l : List Pnt) (x y kk : Nat) (k : Int) (hl : l.length ≤ 1000000) (hx : x < 4294967296) (hy : y < 4294967296) (hok : ∀ p ∈ l, p.x < 4294967296 ∧ p.y < 4294967296) (hkk : min (max k 0) 64 = (kk : Int)) (hR : SlR kPt m A0 cap0 l) (hS : St m w F) :
    Calls Try.prog 27 #[.slice A0 l.length cap0, .int .u32 x, .int .u32 y, .int .i64 k] w (RefNearPost m F x y kk l) := by
  have HR := Lib.hid hR
  have HOK := Lib.hid hok
  clear hR hok
  go_enter Try.func27, Try.ntmps27
  go_wp2_with fail
  go_loopg [9, 10] l.length (fun gr v q wr => ∃ (i : Nat) (A : Option Addr) (cap n : Nat) (o : List Pnt), i ≤ l.length ∧ l.length - i ≤ gr ∧ q = .int .i64 i ∧ v = .slice A n cap ∧ n = i ∧ Hid (o.length = i ∧ SortedF (o.map (fnd x y)) ∧ o.Perm (l.take i)) ∧ St m wr (star (SlO kPt A cap o) F))
  case atStart => exact ⟨0, none, 0, 0, [], by omega, by omega, rfl, rfl, rfl, Lib.hid ⟨rfl, List.Pairwise.nil, .refl _⟩, SlO.nil hS⟩
  case round =>
    obtain ⟨i, A, cap, n, o, hi, hg, rfl, rfl, hni, ho, hSr⟩ := hrel
    subst hni
    clear hS
    by_cases hlt : n < l.length
    · have hlt' : (n : Int) < l.length := by omega
      obtain ⟨g, off, rfl, hc⟩ := ptsAtR HR.out hlt
      have HX := Lib.hid hc
      obtain ⟨xn, hxn⟩ : ∃ xn, xn = l[n] := ⟨_, rfl⟩
      rw [← hxn] at HX
      have HT := Lib.hid (show l.take (n + 1) = l.take n ++ [xn] by rw [hxn]; exact List.take_succ_eq_append_getElem hlt)
      have hxok := HOK.out xn (by rw [hxn]; exact List.getElem_mem hlt)
      have HOO : Hid (∀ p ∈ o, p.x < 4294967296 ∧ p.y < 4294967296) := fun p hp => HOK.out p (List.mem_of_mem_take (ho.out.2.2.mem_iff.1 hp))
      have PB := Lib.hid (refBetween_p x y xn.x xn.y hx hy hxok.1 hxok.2)
      have hol : o.length = n := ho.out.1
      have HOL := Lib.hid hol
      have hx0 := HX.out _ _ hSr
      have n0 : (0 : Int) ≤ n := by omega
      have HDN := Lib.hid (show (fnd x y xn).d = Dist.of (distN x y xn.x xn.y) from rfl)
      generalize Dist.of (distN x y xn.x xn.y) = dn at *
      clear hc hxn hol
      go_wp2_with fail
      go_region_held3 (fun W => W.cell? ⟨g, off + n * 4, none⟩ = some (.int .i64 (xn).id) ∧ W.cell? ⟨g, off + n * 4 + 1, none⟩ = some (.int .u32 (xn).x) ∧ W.cell? ⟨g, off + n * 4 + 2, none⟩ = some (.int .u32 (xn).y) ∧ W.cell? ⟨g, off + n * 4 + 3, none⟩ = some (.string (xn).data))
        (with_reducible first | exact HX.out _ _ S1 | exact HX.out _ _ hSr.drew | exact HX.out _ _ hSr)
        (first | ((go_at_call 62; with_reducible refine (PB.out.at (m := m) (by first | exact hSr.drew | exact hSr)).mono ?_); rintro e w1 ⟨rfl, S1⟩))
      clear hx0 hSr
      go_upto_block 2 with fail
      go_cut [13] (fun s5 wx => ∃ at_ : Nat, s5 = .int .i64 at_ ∧ at_ ≤ n ∧ Hid ((∀ a ∈ o.take at_, 0 ≤ cmpF (fnd x y xn) (fnd x y a)) ∧ ∀ a ∈ o.drop at_, cmpF (fnd x y xn) (fnd x y a) < 0) ∧ St m wx (star (SlO kPt A cap o) F))
      case first =>
        go_wp2_with fail
        obtain ⟨wo, rfl⟩ : ∃ wo : World, wo = wr := ⟨_, rfl⟩
        go_loopg [13] n (fun gr q wr => ∃ c : Nat, q = .int .i64 c ∧ c ≤ n ∧ c ≤ gr ∧ Hid (∀ a ∈ o.drop c, cmpF (fnd x y xn) (fnd x y a) < 0) ∧ St m wr (star (SlO kPt A cap o) F))
        case atStart => exact ⟨n, rfl, Nat.le_refl _, Nat.le_refl _, Lib.hid (by rw [List.drop_eq_nil_of_le (by rw [HOL.out]; exact Nat.le_refl _)]; simp), S1⟩
        case round =>
          clear S1
          obtain ⟨c, rfl, hcn, hcg, hdr, hSr⟩ := hrel
          by_cases hc0 : c = 0
          · subst hc0
            go_wp2
            go_meet
            exact ⟨0, by first | rfl | simp, by omega, Lib.hid ⟨by simp, hdr.out⟩, hSr⟩
          · obtain ⟨z, hz⟩ : ∃ z, z = c - 1 := ⟨_, rfl⟩
            have hzo : z < o.length := by rw [HOL.out]; omega
            obtain ⟨g2, off2, rfl⟩ := addrOf hSr (show 0 < o.length by omega)
            have w1 : IntKind.i64.wrap ((c : Int) - 1) = z := by
              rw [show (c : Int) - 1 = z by omega]; exact i64_keep _ (by omega) (by omega)
            have g3 : (0 : Int) < c := by omega
            have g4 : 0 < c := by omega
            have b1 : (0 : Int) ≤ z := by omega
            have b2 : (z : Int) < n := by omega
            have HOZ : Hid (o.drop z = o[z] :: o.drop c) := by
              have h := List.drop_eq_getElem_cons hzo
              rw [show z + 1 = c by omega] at h
              exact h
            have HTZ : Hid (o.take c = o.take z ++ [o[z]]) := by
              have h := List.take_succ_eq_append_getElem hzo
              rw [show z + 1 = c by omega] at h
              exact h
            have HZ := Lib.hid hz
            have hzok := HOO.out o[z] (List.getElem_mem hzo)
            have PC := Lib.hid (refBetween_p x y o[z].x o[z].y hx hy hzok.1 hzok.2)
            have HDZ := Lib.hid (show (fnd x y o[z]).d = Dist.of (distN x y o[z].x o[z].y) from rfl)
            generalize Dist.of (distN x y o[z].x o[z].y) = dz at *
            have HOLD := Lib.hid fun (W : World) (hW : St m W (star (SlO kPt (some ⟨g2, off2, none⟩) cap o) F)) => (⟨ptsAt hW hzo, HX.out _ _ hW⟩ : (W.cell? ⟨g2, off2 + z * 4, none⟩ = some (.int .i64 (o[z]).id) ∧ W.cell? ⟨g2, off2 + z * 4 + 1, none⟩ = some (.int .u32 (o[z]).x) ∧ W.cell? ⟨g2, off2 + z * 4 + 2, none⟩ = some (.int .u32 (o[z]).y) ∧ W.cell? ⟨g2, off2 + z * 4 + 3, none⟩ = some (.string (o[z]).data)) ∧ W.cell? ⟨g, off + n * 4, none⟩ = some (.int .i64 (xn).id) ∧ W.cell? ⟨g, off + n * 4 + 1, none⟩ = some (.int .u32 (xn).x) ∧ W.cell? ⟨g, off + n * 4 + 2, none⟩ = some (.int .u32 (xn).y) ∧ W.cell? ⟨g, off + n * 4 + 3, none⟩ = some (.string (xn).data))
            have hs0 := HOLD.out _ hSr
            have HCM : Hid (cmpF (fnd x y xn) (fnd x y o[z]) < 0 ↔ (cmpD dn dz < 0 ∨ ((dn.hi = dz.hi ∧ dn.lo = dz.lo) ∧ xn.id < o[z].id))) := by
              unfold Hid
              rw [cmpF_neg, HDN.out, HDZ.out, cmpD_zero]; rfl
            clear hz hc0 hzok
            go_wp2_with fail
            go_region_held3 (fun W => (W.cell? ⟨g2, off2 + z * 4, none⟩ = some (.int .i64 (o[z]).id) ∧ W.cell? ⟨g2, off2 + z * 4 + 1, none⟩ = some (.int .u32 (o[z]).x) ∧ W.cell? ⟨g2, off2 + z * 4 + 2, none⟩ = some (.int .u32 (o[z]).y) ∧ W.cell? ⟨g2, off2 + z * 4 + 3, none⟩ = some (.string (o[z]).data)) ∧ W.cell? ⟨g, off + n * 4, none⟩ = some (.int .i64 (xn).id) ∧ W.cell? ⟨g, off + n * 4 + 1, none⟩ = some (.int .u32 (xn).x) ∧ W.cell? ⟨g, off + n * 4 + 2, none⟩ = some (.int .u32 (xn).y) ∧ W.cell? ⟨g, off + n * 4 + 3, none⟩ = some (.string (xn).data))
              (with_reducible first | exact HOLD.out _ S2 | exact HOLD.out _ hSr.drew | exact HOLD.out _ hSr)
              (first | ((go_at_call 62; with_reducible refine (PC.out.at (m := m) (by first | exact hSr.drew | exact hSr)).mono ?_); rintro e w2 ⟨rfl, S2⟩))
            clear hs0 hSr
            have hs2 := HOLD.out _ S2
            by_cases cA : cmpD dn dz < 0
            · have PL1 := refLess_w dn.hi dn.lo dz.hi dz.lo
              rw [show decide (cmpD ⟨dn.hi, dn.lo⟩ ⟨dz.hi, dz.lo⟩ < 0) = true from decide_eq_true cA] at PL1
              replace PL1 := Lib.hid PL1
              have CA := Lib.hid cA
              clear cA
              have HIT := Lib.hid (HCM.out.2 (Or.inl CA.out))
              go_wp2_with fail
              go_quiet ((go_at_call 63; exact Calls.quiet_of_same (PL1.out _)))
              have S3 := S2.drewN nq
              clear hs2
              go_wp2
              go_roundg z
              case measure => have := HZ.out; omega
              case rel => exact ⟨z, rfl, by have := HZ.out; omega, Nat.le_refl _, Lib.hid (by rw [HOZ.out]; intro a ha; rcases List.mem_cons.1 ha with rfl | ha; exact HIT.out; exact hdr.out a ha), S3⟩
            · have PL1 := refLess_w dn.hi dn.lo dz.hi dz.lo
              rw [show decide (cmpD ⟨dn.hi, dn.lo⟩ ⟨dz.hi, dz.lo⟩ < 0) = false from decide_eq_false cA] at PL1
              replace PL1 := Lib.hid PL1
              have CA := Lib.hid cA
              clear cA
              by_cases cB : dn.hi = dz.hi
              · have hb : (dn.hi == dz.hi) = true := by simpa using cB
                have CB := Lib.hid cB
                clear cB
                by_cases cC : dn.lo = dz.lo
                · have hc2 : (dn.lo == dz.lo) = true := by simpa using cC
                  have CC := Lib.hid cC
                  clear cC
                  by_cases cD : xn.id < o[z].id
                  · have hd2 : decide (xn.id < o[z].id) = true := by simpa using cD
                    have CD := Lib.hid cD
                    have HIT := Lib.hid (HCM.out.2 (Or.inr ⟨⟨CB.out, CC.out⟩, CD.out⟩))
                    go_wp2_with fail
                    go_quiet ((go_at_call 63; exact Calls.quiet_of_same (PL1.out _)))
                    have S3 := S2.drewN nq
                    clear hs2
                    go_wp2
                    go_roundg z
                    case measure => have := HZ.out; omega
                    case rel => exact ⟨z, rfl, by have := HZ.out; omega, Nat.le_refl _, Lib.hid (by rw [HOZ.out]; intro a ha; rcases List.mem_cons.1 ha with rfl | ha; exact HIT.out; exact hdr.out a ha), S3⟩
                  · have hd2 : decide (xn.id < o[z].id) = false := by simpa using cD
                    have CE := Lib.hid (show ¬ (cmpD dn dz < 0 ∨ ((dn.hi = dz.hi ∧ dn.lo = dz.lo) ∧ xn.id < o[z].id)) from fun h => h.elim CA.out fun h => cD h.2)
                    have HIT := Lib.hid (fun h => CE.out (HCM.out.1 h))
                    go_wp2_with fail
                    go_quiet ((go_at_call 63; exact Calls.quiet_of_same (PL1.out _)))
                    have S3 := S2.drewN nq
                    clear hs2
                    go_wp2
                    go_meet
                    refine ⟨c, rfl, hcn, Lib.hid ⟨fun a ha => ?_, hdr.out⟩, S3⟩
                    rw [HTZ.out] at ha
                    have hG := HIT.out
                    rcases List.mem_append.1 ha with ha | ha
                    · obtain ⟨q, hq, rfl⟩ := List.getElem_of_mem ha
                      simp at hq
                      have hs := ho.out.2.1
                      unfold SortedF at hs
                      rw [List.pairwise_iff_getElem] at hs
                      have h5 := hs q z (by simp; omega) (by simpa using hzo) (by omega)
                      rw [List.getElem_map, List.getElem_map] at h5
                      rw [List.getElem_take]
                      have h7 : ¬ cmpF (fnd x y xn) (fnd x y o[q]) < 0 := fun h6 => hG (cmpF_trans' h6 h5)
                      omega
                    · simp at ha; subst ha
                      have h7 : ¬ cmpF (fnd x y xn) (fnd x y o[z]) < 0 := hG
                      omega
                · have hc2 : (dn.lo == dz.lo) = false := by simpa using cC
                  have CE := Lib.hid (show ¬ (cmpD dn dz < 0 ∨ ((dn.hi = dz.hi ∧ dn.lo = dz.lo) ∧ xn.id < o[z].id)) from fun h => h.elim CA.out fun h => cC h.1.2)
                  clear cC
                  have HIT := Lib.hid (fun h => CE.out (HCM.out.1 h))
                  go_wp2_with fail
                  go_quiet ((go_at_call 63; exact Calls.quiet_of_same (PL1.out _)))
                  have S3 := S2.drewN nq
                  clear hs2
                  go_wp2
                  go_meet
                  refine ⟨c, rfl, hcn, Lib.hid ⟨fun a ha => ?_, hdr.out⟩, S3⟩
                  rw [HTZ.out] at ha
                  have hG := HIT.out
                  rcases List.mem_append.1 ha with ha | ha
                  · obtain ⟨q, hq, rfl⟩ := List.getElem_of_mem ha
                    simp at hq
                    have hs := ho.out.2.1
                    unfold SortedF at hs
                    rw [List.pairwise_iff_getElem] at hs
                    have h5 := hs q z (by simp; omega) (by simpa using hzo) (by omega)
                    rw [List.getElem_map, List.getElem_map] at h5
                    rw [List.getElem_take]
                    have h7 : ¬ cmpF (fnd x y xn) (fnd x y o[q]) < 0 := fun h6 => hG (cmpF_trans' h6 h5)
                    omega
                  · simp at ha; subst ha
                    have h7 : ¬ cmpF (fnd x y xn) (fnd x y o[z]) < 0 := hG
                    omega
              · have hb : (dn.hi == dz.hi) = false := by simpa using cB
                have CE := Lib.hid (show ¬ (cmpD dn dz < 0 ∨ ((dn.hi = dz.hi ∧ dn.lo = dz.lo) ∧ xn.id < o[z].id)) from fun h => h.elim CA.out fun h => cB h.1.1)
                clear cB
                have HIT := Lib.hid (fun h => CE.out (HCM.out.1 h))
                go_wp2_with fail
                go_quiet ((go_at_call 63; exact Calls.quiet_of_same (PL1.out _)))
                have S3 := S2.drewN nq
                clear hs2
                go_wp2
                go_meet
                refine ⟨c, rfl, hcn, Lib.hid ⟨fun a ha => ?_, hdr.out⟩, S3⟩
                rw [HTZ.out] at ha
                have hG := HIT.out
                rcases List.mem_append.1 ha with ha | ha
                · obtain ⟨q, hq, rfl⟩ := List.getElem_of_mem ha
                  simp at hq
                  have hs := ho.out.2.1
                  unfold SortedF at hs
                  rw [List.pairwise_iff_getElem] at hs
                  have h5 := hs q z (by simp; omega) (by simpa using hzo) (by omega)
                  rw [List.getElem_map, List.getElem_map] at h5
                  rw [List.getElem_take]
                  have h7 : ¬ cmpF (fnd x y xn) (fnd x y o[q]) < 0 := fun h6 => hG (cmpF_trans' h6 h5)
                  omega
                · simp at ha; subst ha
                  have h7 : ¬ cmpF (fnd x y xn) (fnd x y o[z]) < 0 := hG
                  omega
      case rest =>
        clear S1
        obtain ⟨q, rfl, hqn, hsp, S⟩ := hcut
        have hcap : n ≤ cap := by have := SlO.le_cap S; rw [HOL.out] at this; exact this
        have h1 := fun w => run_slice_to (P := Try.prog) kPt_ok 22 Try.underlying22 A n cap q .i64 hqn hcap w
        have h2 := fun w => run_slice_from (P := Try.prog) kPt_ok 22 Try.underlying22 A n cap q (q : Int) rfl .i64 hqn hcap w
        have HC5 := Lib.hid fun W H (hW : St m W (star (SlO kPt A cap o) H)) (h0 : 0 < (o.take q).length) => SlO.cellsAt hW 0 (o.take q) (by simpa using List.take_prefix q o) h0
        have HC6 := Lib.hid fun W H (hW : St m W (star (SlO kPt A cap o) H)) (h0 : 0 < (o.drop q).length) => SlO.cellsAt hW q (o.drop q) (List.prefix_refl _) h0
        generalize sliceAddr A cap 0 kPt.K = A5 at *
        generalize sliceAddr A cap q kPt.K = A6 at *
        have HN0 : Hid (q = (o.take q).length) := Lib.hid (by have := HOL.out; simp; omega)
        have HN1 : Hid (q = ([] ++ o.take q).length) := Lib.hid (by have := HOL.out; simp; omega)
        have HN2 : Hid (q + 1 = ([] ++ o.take q ++ [xn]).length) := Lib.hid (by have := HOL.out; simp; omega)
        have HN3 : Hid (n - q = (o.drop q).length) := Lib.hid (by have := HOL.out; simp; omega)
        have hx0 := HX.out _ _ S
        have w2 : IntKind.i64.wrap ((n : Int) + 1) = (n : Int) + 1 := i64_keep _ (by omega) (by omega)
        clear HOO PB HDN hxok
        go_wp2_with fail
        have TA1 := (SlO.fresh (k := kPt) [] S #[] rfl (by simp)).drew
        have TA2 := ((SlO.fresh (k := kPt) [] S #[] rfl (by simp)).alloc (.cells #[.int .i64 (xn).id, .int .u32 (xn).x, .int .u32 (xn).y, .string (xn).data] 54)).swap.drew
        have TB := (SlO.fresh (k := kPt) [] (S.alloc (.cells #[.int .i64 (xn).id, .int .u32 (xn).x, .int .u32 (xn).y, .string (xn).data] 54)) #[] rfl (by simp)).drew
        simp only [World.size_alloc, List.length_nil] at TA1 TA2 TB
        go_region_held3 (fun W => W.cell? ⟨g, off + n * 4, none⟩ = some (.int .i64 (xn).id) ∧ W.cell? ⟨g, off + n * 4 + 1, none⟩ = some (.int .u32 (xn).x) ∧ W.cell? ⟨g, off + n * 4 + 2, none⟩ = some (.int .u32 (xn).y) ∧ W.cell? ⟨g, off + n * 4 + 3, none⟩ = some (.string (xn).data))
          (with_reducible first | exact HX.out _ _ S14 | exact HX.out _ _ S10 | exact HX.out _ _ (S4a.alloc _) | exact HX.out _ _ S4a | exact HX.out _ _ S4b | exact HX.out _ _ S.drew | exact HX.out _ _ ((S.alloc _).drew) | exact HX.out _ _ (((S.alloc _).alloc _).drew) | exact HX.out _ _ S)
          (first
            | (refine step_append_n kPt_ok rfl _ _ 22 rfl Try.underlying22 A10 (q + 1) c10 _ HN2.out rfl S10 A6 (n - q) _ (o.drop q) HN3.out rfl (fun h => HC6.out _ _ S10.rot3 h) (by simp [kPt]; omega) (by omega) ?_; intro A14 c14 w14 S14)
            | (refine step_append_n kPt_ok rfl _ _ 22 rfl Try.underlying22 A4 q c4 _ HN1.out rfl S4b _ 1 _ [xn] rfl rfl (fun h => St.oneAt S4b.swap xn rfl) (by simp [kPt]; omega) (by omega) ?_; intro A10 c10 w10 S10)
            | (refine step_append_n kPt_ok rfl _ _ 22 rfl Try.underlying22 _ 0 _ ([] : List Pnt) rfl rfl TA1 A5 q _ (o.take q) HN0.out rfl (fun h => HC5.out _ _ TA1.swap h) (by simp [kPt]; omega) (by omega) ?_; intro A4 c4 w4 S4a; rw [Nat.zero_add])
            | (refine step_append_n kPt_ok rfl _ _ 22 rfl Try.underlying22 _ 0 _ ([] : List Pnt) rfl rfl TA2 A5 q _ (o.take q) HN0.out rfl (fun h => HC5.out _ _ TA2.rot3 h) (by simp [kPt]; omega) (by omega) ?_; intro A4 c4 w4 S4b; rw [Nat.zero_add])
            | (refine step_append_n kPt_ok rfl _ _ 22 rfl Try.underlying22 _ 0 _ ([] : List Pnt) rfl rfl TB A5 q _ (o.take q) HN0.out rfl (fun h => HC5.out _ _ TB.rot3 h) (by simp [kPt]; omega) (by omega) ?_; intro A4 c4 w4 S4b; rw [Nat.zero_add])
            | (refine step_append_n kPt_ok rfl _ _ 22 rfl Try.underlying22 A4 q c4 _ HN1.out rfl ((S4a.alloc _).swap) _ 1 _ [xn] rfl rfl (fun h => St.oneAt (S4a.alloc _) xn rfl) (by simp [kPt]; omega) (by omega) ?_; intro A10 c10 w10 S10))
        all_goals
          rw [show q + 1 + (n - q) = n + 1 by omega]
          go_wp2
          go_roundg (l.length - (n + 1))
          case measure => omega
          case rel =>
            have hq2 : o.take q ++ o.drop q = o := by simp
            have hm := insF_sorted (x := x) (y := y) (p := xn) (X1 := o.take q) (X2 := o.drop q) (by rw [hq2]; exact ho.out.2.1) (fun a ha => by have := hsp.out.1 a ha; omega) hsp.out.2
            refine ⟨n + 1, A14, c14, n + 1, _, by omega, Nat.le_refl _, by go_num, rfl, rfl, Lib.hid ⟨?_, hm, ?_⟩, by simpa using S14.drop'.drop'⟩
            · have := HOL.out; simp; omega
            · rw [HT.out]
              have h5 : (o.take q ++ [xn] ++ o.drop q).Perm (o ++ [xn]) := by
                have h6 : (o.take q ++ ([xn] ++ o.drop q)).Perm (o.take q ++ (o.drop q ++ [xn])) := List.Perm.append_left _ List.perm_append_comm
                rw [← List.append_assoc, ← List.append_assoc, hq2] at h6
                exact h6
              exact h5.trans (ho.out.2.2.append (.refl _))
    · obtain rfl : n = l.length := by omega
      have hlt' : ¬ (l.length : Int) < l.length := by omega
      obtain ⟨n2, hn2⟩ : ∃ n2, n2 = min l.length kk := ⟨_, rfl⟩
      have hcap : l.length ≤ cap := by have := SlO.le_cap hSr; rw [ho.out.1] at this; exact this
      have h1 := fun w => run_slice_to (P := Try.prog) kPt_ok 22 Try.underlying22 A l.length cap n2 .i64 (by omega) hcap w
      have hmin : min (kk : Int) (l.length : Int) = (n2 : Int) := by omega
      have S5 := SlO.shrink hSr n2 (by have := ho.out.1; omega)
      have e2 : o.take n2 = o.take kk := take_minlen o n2 kk (by rw [ho.out.1]; exact hn2)
      have e3 : n2 = (o.take kk).length := by rw [List.length_take, ho.out.1, hn2, Nat.min_comm]
      rw [e2] at S5
      have HP : Hid (o.Perm l) := by have h := ho.out.2.2; rw [List.take_of_length_le (Nat.le_refl _)] at h; exact h
      have E3 := Lib.hid e3
      have HSA : Hid (St m wr (star (SlO kPt (sliceAddr A cap 0 kPt.K) cap (o.take kk)) F)) := by
        have h := SlO.cut S5 0 (o.take kk).length (Nat.zero_le _) (Nat.le_refl _)
        rw [Nat.sub_zero, List.drop_zero, List.take_length] at h
        exact h
      clear hn2 e2 e3 S5
      go_wp2
      go_ret
      exact ⟨o, _, cap, HP.out, ho.out.2.1, by rw [← E3.out]; rfl, HSA.out⟩
end Go.Proofs

namespace Go.Proofs
open Go.Croft Go.RowKit Go.Sort Go.Shelf

theorem orderTail_c (m : Mem) (W : World) (F : HP) (id : Int) (g g2 : Nat) (hg : g = W.heap.size) (hg2 : g2 = W.heap.size + 1) (hS : St m W F) :
    Calls Try.prog 65 #[.slice (some ⟨g2, 0, none⟩) 3 3] (((W.alloc (.cells #[.int .i64 id] 3)).alloc (.cells #[.slice (some ⟨g, 0, none⟩) 1 1, .slice none 0 0, .slice none 0 0] 26)).drew) fun e w' => ∃ A cap, e = .returned (.slice A ([id].length) cap) ∧ St m w' (star (SlO kInt A cap [id]) F) := by
  subst hg hg2
  obtain ⟨m1, l1, S1, R1⟩ := SlR.fresh (k := kInt) [id] hS _ rfl (by simp)
  obtain ⟨m2, l2, S2, R2⟩ := SlR.fresh (k := kSli) [(some ⟨W.heap.size, 0, none⟩, 1, [id]), (none, 0, []), (none, 0, [])] S1 _ rfl (by simp)
  simp only [World.size_alloc] at R2
  refine (concat_c m2 _ F _ _ _ R2 ?_ (by simp [sumLen]) S2.drew).mono ?_
  · intro x hx
    simp at hx
    rcases hx with rfl | rfl
    · exact R1.mono l2
    · exact SlR.nil _ _
  · rintro e w' ⟨A, cap, rfl, S3⟩
    exact ⟨A, cap, rfl, S3.weak (l1.trans l2)⟩

set_option maxRecDepth 100000 in
set_option maxHeartbeats 800000 in
theorem kdOrder1_c (m : Mem) (w : World) (F : HP) (p : Pnt) (v : Option Addr) (hT : KtR m (.node p .nil .nil) v) (hS : St m w F) :
    Calls Try.prog 28 #[.pointer v] w fun e w' => ∃ A cap, e = .returned (.slice A ([p.id].length) cap) ∧ St m w' (star (SlO kInt A cap [p.id]) F) := by
  have HI := Lib.hid fun w hS => kdIs_c m w F (.node p .nil .nil) v hT hS
  obtain ⟨b, vl, vr, fr, rfl, hb, hl, hr⟩ := hT
  obtain rfl : vl = none := hl
  obtain rfl : vr = none := hr
  have HO := Lib.hid fun w (h : St m w F) => kdOrder0_c m w F .nil none rfl rfl h
  have HOLD := Lib.hid fun (w : World) (h : St m w F) => (⟨h, h.cellM hb 1, h.cellM hb 5, h.cellM hb 6⟩ : St m w F ∧ w.cell? ⟨b, 1, none⟩ = some (.int .i64 p.id) ∧ w.cell? ⟨b, 5, none⟩ = some (.pointer none) ∧ w.cell? ⟨b, 6, none⟩ = some (.pointer none))
  have hs0 := HOLD.out _ hS
  have HT := Lib.hid fun W id g g2 => orderTail_c m W F id g g2
  clear hb
  go_enter Try.func28, Try.ntmps28
  go_wp2_with (go_at_call 64; refine (HI.out w hS).mono ?_; rintro e w1 ⟨rfl, rfl⟩; simp only [Kt.is])
  go_region_held3 (fun W' => St m W' F ∧ W'.cell? ⟨b, 1, none⟩ = some (.int .i64 p.id) ∧ W'.cell? ⟨b, 5, none⟩ = some (.pointer none) ∧ W'.cell? ⟨b, 6, none⟩ = some (.pointer none)) (exact HOLD.out _ (by first | assumption | exact St.drop (by assumption) | exact And.left (by assumption) | exact St.drew (by assumption) | exact (St.alloc (by assumption) _).drop | exact (St.alloc (And.left (by assumption)) _).drop))
    (first
      | (go_at_call 28; with_reducible refine (HO.out _ (by first | assumption | exact And.left (by assumption))).mono ?_; rintro e w' ⟨rfl, rfl⟩)
      | (go_at_call 65; with_reducible refine (HT.out _ p.id _ _ rfl rfl (by first | exact hS | exact hS.drew | exact hS.drewN _)).mono ?_; rintro e w' ⟨A1, cap1, rfl, S1⟩))
  all_goals (go_wp2; go_ret; exact ⟨A1, cap1, rfl, S1⟩)
end Go.Proofs

namespace Go.Proofs
open Go.Croft Go.RowKit Go.Sort Go.Shelf

theorem halved_nil {d : Nat} {t : Kt} (h : Halved d [] t) : t = .nil := by
  cases h with
  | nil => rfl
  | node _ _ s1 s2 p L R hp => have := hp.length_eq; simp at this
theorem halved_one {d : Nat} {p : Pnt} {t : Kt} (h : Halved d [p] t) : t = .node p .nil .nil := by
  cases h with
  | node _ _ s1 s2 q L R hp h1 h2 hl hr =>
    have hlen := hp.length_eq
    simp at hlen
    obtain rfl : s1 = [] := List.eq_nil_of_length_eq_zero (by omega)
    obtain rfl : s2 = [] := List.eq_nil_of_length_eq_zero (by omega)
    have e : q = p := by simpa using hp.mem_iff.1 (List.mem_singleton.2 rfl)
    rw [e, halved_nil hl, halved_nil hr]

def p5 : Pnt := ⟨5, 0, 0, ⟨#[]⟩⟩
set_option maxRecDepth 100000 in
set_option maxHeartbeats 800000 in
theorem kdAlive_c (m : Mem) (w : World) (F : HP) (hS : St m w F) :
    Calls Try.prog 20 #[] w fun e w' => e = .returned (.bool true) ∧ ∃ m', m.le m' ∧ St m' w' F := by
  obtain ⟨m1, l1, S1, R1⟩ := SlR.fresh (k := kPt) [p5] hS _ rfl (by simp)
  have HL1 := Lib.hid l1
  have HR1 := Lib.hid R1
  have HS1 := Lib.hid S1
  clear l1 R1 S1
  go_enter Try.func20, Try.ntmps20
  go_wp2_with (first
    | (go_at_call 22; refine (kdNew1_c m1 _ F _ _ [p5] (by simp) HR1.out HS1.out).mono ?_; rintro e w2 ⟨m2, v, t, rfl, l2, K2, D2, S2⟩; obtain rfl := halved_one D2; (have HK := Lib.hid K2); (have HL2 := Lib.hid (HL1.out.trans l2)); clear D2 K2 l2)
    | (go_at_call 29; refine (kdDepth_c _ m2 _ F v HK.out S2 (by simp [Kt.depth])).mono ?_; rintro e w3 ⟨rfl, S3⟩; simp only [Kt.depth]; clear S2)
    | (go_at_call 28; refine (kdOrder1_c m2 _ F p5 v HK.out S3).mono ?_; rintro e w4 ⟨A4, cap4, rfl, S4⟩; obtain ⟨m5, l5, S5, R5⟩ := SlO.freeze S4; obtain ⟨m6, l6, S6, R6⟩ := SlR.fresh (k := kInt) [5] S5 _ rfl (by simp); (have HL6 := Lib.hid (HL2.out.trans (l5.trans l6))); (have HR5 := Lib.hid (R5.mono l6)); (have HR6 := Lib.hid R6); (have HS6 := Lib.hid S6); clear S3 S4 l5 l6 S5 R5 R6 S6)
    | (go_at_call 17; refine (ints_c m6 _ F A4 _ cap4 _ [p5.id] [5] HR5.out HR6.out HS6.out).mono ?_; rintro e w7 ⟨rfl, S7⟩))
  go_ret
  exact ⟨rfl, m6, HL6.out, S7⟩
end Go.Proofs

namespace Go.Proofs
open Go.Croft Go.RowKit Go.Sort Go.Shelf

set_option maxRecDepth 100000 in
set_option maxHeartbeats 6400000 in
theorem kdFinds_main (m : Mem) (w : World) (F : HP) (A : Option Addr) (cap : Nat) (l : List Pnt) (r : Rct) (x y : Nat) (k : Int) (hx : x < 4294967296) (hy : y < 4294967296) (hok : ∀ p ∈ l, p.x < 4294967296 ∧ p.y < 4294967296) (hR : SlR kPt m A cap l) (hS : St m w F) :
    Calls Try.prog 5 #[.slice A l.length cap, r.v, .int .u32 x, .int .u32 y, .int .i64 k] w fun e w' => e = .returned (.bool true) ∧ ∃ m', m.le m' ∧ St m' w' F := by
  obtain ⟨m1, l1, b1, S1⟩ := hS.allocf (.cells #[.int .u32 r.x0, .int .u32 r.y0, .int .u32 r.x1, .int .u32 r.y1] 43)
  have HAL := Lib.hid (kdAlive_c m1 _ F S1)
  have hlm := hR.len_max
  have hcap := hR.le_cap
  have HL1 := Lib.hid l1
  have HR := Lib.hid (hR.mono l1)
  have HOK := Lib.hid hok
  clear l1 hR hok hS S1
  obtain ⟨kk, hkk⟩ : ∃ kk : Nat, min (max k 0) 64 = (kk : Int) := ⟨(min (max k 0) 64).toNat, by omega⟩
  have HKK := Lib.hid hkk
  clear hkk
  unfold Rct.v
  go_enter Try.func5, Try.ntmps5
  go_wp2_with fail
  generalize w.alloc (.cells #[.int .u32 r.x0, .int .u32 r.y0, .int .u32 r.x1, .int .u32 r.y1] 43) = W at *
  generalize w.heap.size = g at *
  have HG := Lib.hid b1
  clear b1
  refine HAL.out.mono ?_
  rintro e w2 ⟨rfl, m2, l2, S2⟩
  have HL2 := Lib.hid (HL1.out.trans l2)
  have HR2 := Lib.hid (HR.out.mono l2)
  have HG2 := Lib.hid (l2.blk _ _ HG.out)
  clear l2 HAL HL1 HR HG
  obtain ⟨n2, hn2⟩ : ∃ n2, n2 = (l.take 40).length := ⟨_, rfl⟩
  have hn40 : n2 ≤ 40 := by rw [hn2]; simp; omega
  go_upto_if 17 with (fail)
  go_cut [0] (fun s0 wx => ∃ A2 cap2, s0 = .slice A2 n2 cap2 ∧ Hid (SlR kPt m2 A2 cap2 (l.take 40)) ∧ St m2 wx F)
  case first =>
    by_cases h40 : 40 < l.length
    · have h40' : (40 : Int) < l.length := by omega
      have h1 := fun w => run_slice_to (P := Try.prog) kPt_ok 22 Try.underlying22 A l.length cap 40 .i64 (by omega) hcap w
      have e : n2 = 40 := by rw [hn2]; simp; omega
      have HN := Lib.hid e
      have RC := HR2.out.cut 0 40 (by omega) (by omega)
      rw [Nat.sub_zero, List.drop_zero] at RC
      have RC2 := Lib.hid RC
      clear hn2 e RC
      simp only [Int.cast_ofNat_Int] at h1
      go_wp2
      go_meet
      exact ⟨_, cap, by rw [HN.out], RC2.out, S2⟩
    · have h40' : ¬ (40 : Int) < l.length := by omega
      have e : l.take 40 = l := List.take_of_length_le (by omega)
      have HN := Lib.hid (show n2 = l.length by rw [hn2, e])
      have HE := Lib.hid e
      clear hn2 e
      go_wp2
      go_meet
      exact ⟨A, cap, by rw [HN.out], by rw [HE.out]; exact HR2.out, S2⟩
  case rest =>
    clear S2
    obtain ⟨A2, cap2, rfl, hR2, S2⟩ := hcut
    have HOK2 : Hid (∀ p ∈ l.take 40, p.x < 4294967296 ∧ p.y < 4294967296) := fun p hp => HOK.out p (List.mem_of_mem_take hp)
    generalize l.take 40 = L at *
    have QF := fix_c m2 wc F A2 cap2 L (by omega) hR2.out S2
    rw [← hn2] at QF
    replace QF := Lib.hid QF
    have HN := Lib.hid hn2
    clear hn2 S2
    go_wp2_with ((go_at_call 21; with_reducible refine QF.out.mono ?_); rintro e w3 ⟨A3, cap3, rfl, S3⟩; obtain ⟨m4, l4, S4, R4⟩ := SlO.freeze S3; have QN := kdNew_c m4 w3 F A2 cap2 L (by have := HN.out; omega) (hR2.out.mono l4) S4; rw [← HN.out] at QN; replace QN := Lib.hid QN)
    refine QN.out.mono ?_
    rintro e w5 ⟨m5, v, t, rfl, l5, K5, D5, S5⟩
    have hsz : t.size ≤ 40 := by
      have h1 := D5.pts.length_eq
      have h2 := compP_length (sortP L)
      have h3 := sortP_length L
      have h4 := HN.out
      rw [Kt.size_pts]; omega
    have hdp : t.depth ≤ 1000 := by have := Kt.depth_size t; omega
    have hown : ∀ p ∈ sortP (firsts L), p.x < 4294967296 ∧ p.y < 4294967296 := fun p hp => by
      rw [← comp_firsts] at hp
      exact HOK2.out p (sortP_mem.1 ((compG_sub _ _).subset hp))
    have htok : t.ok := Kt.ok_of t fun p hp => hown p (by rw [← comp_firsts]; exact D5.pts.mem_iff.1 hp)
    have hol : (sortP (firsts L)).length ≤ 40 := by have h1 := sortP_length (firsts L); have h2 := firsts_length L; have h3 := HN.out; omega
    have Q1 := fun m w (hm : m5.le m) (h : St m w F) => kdRange_c r t m w F v (K5.mono hm) h hdp (by omega)
    rw [range_law D5] at Q1
    have Q2 := fun m w (hm : m4.le m) (h : St m w F) => plainPick_c r m w F A3 cap3 (sortP (firsts L)) (by omega) (R4.mono hm) h
    rw [sortP_length] at Q2
    have Q3 := fun m w (hm : m5.le m) (h : St m w F) => kdNear_c m w F t v x y kk k (K5.mono hm) htok hdp hx hy HKK.out h
    have Q4 := fun m w (hm : m4.le m) (h : St m w F) => refNear_c m w F A3 cap3 (sortP (firsts L)) x y kk k (by omega) hx hy hown HKK.out (R4.mono hm) h
    rw [sortP_length] at Q4
    unfold Rct.v at Q1 Q2
    replace Q1 := Lib.hid Q1
    replace Q2 := Lib.hid Q2
    replace Q3 := Lib.hid Q3
    replace Q4 := Lib.hid Q4
    have HLL := Lib.hid (HL2.out.trans (l4.trans l5))
    have HG5 := Lib.hid (l5.blk _ _ (l4.blk _ _ HG2.out))
    have HD := Lib.hid D5
    have L45 := Lib.hid l5
    have HOLD := Lib.hid fun (W : World) (m : Mem) (hm : m5.le m) (hW : St m W F) => (⟨hW.cellM (hm.blk _ _ HG5.out) 0, hW.cellM (hm.blk _ _ HG5.out) 1, hW.cellM (hm.blk _ _ HG5.out) 2, hW.cellM (hm.blk _ _ HG5.out) 3⟩ : W.cell? ⟨g, 0, none⟩ = some (.int .u32 r.x0) ∧ W.cell? ⟨g, 1, none⟩ = some (.int .u32 r.y0) ∧ W.cell? ⟨g, 2, none⟩ = some (.int .u32 r.x1) ∧ W.cell? ⟨g, 3, none⟩ = some (.int .u32 r.y1))
    have hs0 := HOLD.out _ _ (.refl _) S5
    clear D5 K5 hsz hdp hown htok hol l4 l5 R4 S3 S4 QN QF
    go_wp2_with fail
    go_region_held3 (fun W => W.cell? ⟨g, 0, none⟩ = some (.int .u32 r.x0) ∧ W.cell? ⟨g, 1, none⟩ = some (.int .u32 r.y0) ∧ W.cell? ⟨g, 2, none⟩ = some (.int .u32 r.x1) ∧ W.cell? ⟨g, 3, none⟩ = some (.int .u32 r.y1))
      (with_reducible first | exact HOLD.out _ _ J12.out S12 | exact HOLD.out _ _ J11.out S11 | exact HOLD.out _ _ J10.out S10 | exact HOLD.out _ _ J8.out S9 | exact HOLD.out _ _ J8.out S8 | exact HOLD.out _ _ J6.out S6 | exact HOLD.out _ _ (.refl _) S5.drew | exact HOLD.out _ _ (.refl _) S5)
      (first
        | ((go_at_call 24; with_reducible refine (Q1.out m5 _ (.refl _) (by first | exact S5.drew | exact S5)).mono ?_); rintro e w6 ⟨A6, cap6, rfl, T6⟩; obtain ⟨m6, l6, S6, R6⟩ := SlO.freeze T6; have J6 := Lib.hid l6)
        | ((go_at_call 25; with_reducible refine (Q2.out m6 _ (L45.out.trans J6.out) S6).mono ?_); rintro e w8 ⟨A8, cap8, rfl, T8⟩; obtain ⟨m8, l8, S8, R8⟩ := SlO.freeze T8; have J8 := Lib.hid (J6.out.trans l8); have R6' := R6.mono l8)
        | ((go_at_call 23; with_reducible refine (plainPoints_c m8 _ F A6 A8 cap6 cap8 _ R6' R8 S8).mono ?_); rintro e w9 ⟨rfl, S9⟩)
        | ((go_at_call 26; with_reducible refine (Q3.out m8 _ J8.out S9).mono ?_); rintro e w10 ⟨ln, A10, cap10, hn, rfl, T10⟩; obtain ⟨m10, l10, S10, R10⟩ := SlO.freeze T10; have J10 := Lib.hid (J8.out.trans l10))
        | ((go_at_call 27; with_reducible refine (Q4.out m10 _ (L45.out.trans J10.out) S10).mono ?_); rintro e w11 ⟨o, A11, cap11, ho, hs, rfl, T11⟩; obtain ⟨m11, l11, S11, R11⟩ := SlO.freeze T11; have J11 := Lib.hid (J10.out.trans l11); have hnl := near_law HD.out hn ho hs; rw [← hnl] at R11 ⊢; have R10' := R10.mono l11; clear hnl)
        | ((go_at_call 23; have QP := fun w h => plainPoints_c m11 w F A10 A11 cap10 cap11 (ln.map Fnd.p) R10' R11 h; simp only [List.length_map] at QP; with_reducible refine (QP _ S11).mono ?_); rintro e w12 ⟨rfl, S12⟩; have J12 := J11))
    go_wp2
    go_ret
    exact ⟨rfl, _, HLL.out.trans J12.out, S12⟩
end Go.Proofs
