/- Contracts of the given program, for the proofs of its statements: PointSort, KdNew, KdGather, Ints, PlainPts, RefSort, RefFix, LawFirsts. No conditions beyond those in each theorem. -/
import Derived.Test.YtdlmjacejhlboaaKdfP5
import Derived.Test.YtdlmjacejhlboaaKdfP6
import Derived.Test.YtdlmjacejhlboaaKdfP4
import Derived.Test.YtdlmjacejhlboaaKdfP3
import Derived.Test.YtdlmjacejhlboaaKdfP1
import Derived.Deep.CutBlock
namespace Go.Proofs
open Go.Croft Go.RowKit

set_option maxRecDepth 100000 in
set_option maxHeartbeats 800000 in
theorem stablePt_c (m : Mem) (w : World) (F : HP) (A : Option Addr) (cap : Nat) (l : List Pnt) (h9 : l.length ≤ 1000000000) (hS : St m w (star (SlO kPt A cap l) F)) :
    Calls Try.prog 75 #[.slice A l.length cap, .func (.func 76) #[] #[]] w fun e w' => e = .returned (.tuple #[]) ∧ St m w' (star (SlO kPt A cap (sortP l)) F) := by
  by_cases h0 : l.length = 0
  · obtain rfl : l = [] := List.eq_nil_of_length_eq_zero h0
    refine (stableTiny A 0 cap _ (by omega) w).mono ?_
    rintro e w' ⟨rfl, rfl⟩
    exact ⟨rfl, hS⟩
  · have C := Lib.hid (stableCmp_c m w F A cap l.length l rfl (by omega) h9 hS)
    clear hS
    go_enter Try.func75, Try.ntmps75
    go_wp2_with ((go_at_call 108; with_reducible refine C.out.mono ?_); rintro e w' ⟨rfl, C, c1, c2, S⟩)
    go_end0
    rw [← sortP_of c1 c2]
    exact ⟨rfl, S⟩

set_option maxRecDepth 100000 in
theorem pointSort_c (m : Mem) (w : World) (F : HP) (A : Option Addr) (cap : Nat) (l : List Pnt) (hl : l.length ≤ 1000000000) (hR : SlR kPt m A cap l) (hS : St m w F) :
    Calls Try.prog 44 #[.slice A l.length cap] w fun e w' => ∃ A' cap', e = .returned (.slice A' l.length cap') ∧ (A = none → A' = none) ∧ St m w' (star (SlO kPt A' cap' (sortP l)) F) := by
  have HS := Lib.hid fun A1 cap1 w (h : St m w (star (SlO kPt A1 cap1 l) F)) => stablePt_c m w F A1 cap1 l hl h
  go_enter Try.func44, Try.ntmps44
  go_wp2_with (first
    | (go_at_call 74; refine (clonePt_c m w F A cap l (by omega) hR hS).mono ?_; rintro e w1 ⟨A1, cap1, rfl, hn, S1⟩; clear hR hS)
    | ((go_at_call 75; with_reducible refine (HS.out A1 cap1 w1 S1).mono ?_); rintro e w2 ⟨rfl, S2⟩))
  go_ret
  exact ⟨A1, cap1, rfl, hn, S2⟩
end Go.Proofs

namespace Go.Proofs
open Go.Croft Go.RowKit Go.Sort Go.Shelf

set_option maxRecDepth 100000 in
/-- kdtree.New -/
theorem kdNew_c (m : Mem) (w : World) (F : HP) (A : Option Addr) (cap : Nat) (l : List Pnt) (hl : l.length ≤ 1000) (hR : SlR kPt m A cap l) (hS : St m w F) :
    Calls Try.prog 22 #[.slice A l.length cap] w fun e w' => ∃ m' v t, e = .returned (.pointer v) ∧ m.le m' ∧ KtR m' t v ∧ Halved 0 (compP (sortP l)) t ∧ St m' w' F := by
  have hs := sortP_length l
  have hc := compP_length (sortP l)
  have Q1 := Lib.hid fun A cap w (h : St m w (star (SlO kPt A cap (sortP l)) F)) => compactPt_c m w F A cap l.length (sortP l) hs.symm (by omega) h
  have Q2 := Lib.hid fun m w A cap (hR : SlR kPt m A cap (compP (sortP l))) (h : St m w F) => kdGrow_c 1000 m w F A cap (compP (sortP l)) 0 (by omega) (by omega) hR h
  clear hs hc
  go_enter Try.func22, Try.ntmps22
  go_wp2_with (first
    | (go_at_call 44; refine (pointSort_c m w F A cap l (by omega) hR hS).mono ?_; rintro e w1 ⟨A1, cap1, rfl, hn, S1⟩; clear hR hS)
    | ((go_at_call 57; with_reducible refine (Q1.out _ _ _ S1).mono ?_); rintro e w2 ⟨A2, rfl, S2⟩; obtain ⟨m3, l3, S3, R3⟩ := SlO.freeze S2; clear S1 S2)
    | ((go_at_call 56; refine (Q2.out m3 _ _ _ R3 S3).mono ?_); rintro e w3 ⟨m4, v, t, rfl, l4, K, D, S4⟩))
  go_ret
  exact ⟨m4, v, t, rfl, l3.trans l4, K, D, S4⟩

structure Rct where
  x0 : Nat
  y0 : Nat
  x1 : Nat
  y1 : Nat
@[go_sem] def Rct.v (r : Rct) : Value := .agg #[.int .u32 r.x0, .int .u32 r.y0, .int .u32 r.x1, .int .u32 r.y1]
def hasR (r : Rct) (x y : Nat) : Bool := decide (r.x0 ≤ x ∧ x ≤ r.x1 ∧ r.y0 ≤ y ∧ y ≤ r.y1)

set_option maxRecDepth 100000 in
set_option maxHeartbeats 800000 in
theorem rectHas_p (r : Rct) (x y : Nat) : Pure Try.prog 93 #[r.v, .int .u32 x, .int .u32 y] (.bool (hasR r x y)) := by
  intro m w H hS
  unfold Rct.v
  have hS1 := (hS.alloc (.cells #[.int .u32 r.x0, .int .u32 r.y0, .int .u32 r.x1, .int .u32 r.y1] 43)).drop
  by_cases h0 : r.x0 ≤ x
  · have b0 : decide ((r.x0 : Int) ≤ x) = true := by simpa using h0
    by_cases h1 : x ≤ r.x1
    · have b1 : decide ((x : Int) ≤ r.x1) = true := by simpa using h1
      by_cases h2 : r.y0 ≤ y
      · have b2 : decide ((r.y0 : Int) ≤ y) = true := by simpa using h2
        by_cases h3 : y ≤ r.y1
        · have b3 : decide ((y : Int) ≤ r.y1) = true := by simpa using h3
          have R := Lib.hid (show hasR r x y = true by simp [hasR]; omega)
          go_enter Try.func93, Try.ntmps93
          go_wp2
          go_ret
          rw [R.out]; exact ⟨rfl, hS1⟩
        · have b3 : decide ((y : Int) ≤ r.y1) = false := by simpa using h3
          have R := Lib.hid (show hasR r x y = false by simp [hasR]; omega)
          go_enter Try.func93, Try.ntmps93
          go_wp2
          go_ret
          rw [R.out]; exact ⟨rfl, hS1⟩
      · have b2 : decide ((r.y0 : Int) ≤ y) = false := by simpa using h2
        have R := Lib.hid (show hasR r x y = false by simp [hasR]; omega)
        go_enter Try.func93, Try.ntmps93
        go_wp2
        go_ret
        rw [R.out]; exact ⟨rfl, hS1⟩
    · have b1 : decide ((x : Int) ≤ r.x1) = false := by simpa using h1
      have R := Lib.hid (show hasR r x y = false by simp [hasR]; omega)
      go_enter Try.func93, Try.ntmps93
      go_wp2
      go_ret
      rw [R.out]; exact ⟨rfl, hS1⟩
  · have b0 : decide ((r.x0 : Int) ≤ x) = false := by simpa using h0
    have R := Lib.hid (show hasR r x y = false by simp [hasR]; omega)
    go_enter Try.func93, Try.ntmps93
    go_wp2
    go_ret
    rw [R.out]; exact ⟨rfl, hS1⟩
end Go.Proofs

namespace Go.Proofs
open Go.Croft Go.RowKit Go.Sort Go.Shelf

def Kt.size : Kt → Nat | .node _ l r => 1 + l.size + r.size | _ => 0
def partXY (x y d : Nat) : Nat := if d % 2 = 1 then y else x
def Kt.gather (r : Rct) : Kt → Nat → List Pnt
  | .node p L R, d => ((if hasR r p.x p.y then [p] else []) ++ (if partXY r.x0 r.y0 d ≤ partP p d then L.gather r (d + 1) else [])) ++ (if partP p d ≤ partXY r.x1 r.y1 d then R.gather r (d + 1) else [])
  | _, _ => []
theorem Kt.gather_len (r : Rct) : ∀ (t : Kt) (d : Nat), (t.gather r d).length ≤ t.size
  | .nil, _ => by simp [Kt.gather, Kt.size]
  | .blank, _ => by simp [Kt.gather, Kt.size]
  | .node p L R, d => by
    have h1 := Kt.gather_len r L (d + 1)
    have h2 := Kt.gather_len r R (d + 1)
    simp only [Kt.gather, Kt.size, List.length_append]
    split <;> split <;> split <;> simp <;> omega
theorem partXY_p (x y d : Nat) (hd : d ≤ 1000000) : Pure Try.prog 94 #[.agg #[.int .i64 0, .int .u32 x, .int .u32 y, .string ⟨#[]⟩], .int .i64 d] (.int .u32 (partXY x y d)) := part_c ⟨0, x, y, ⟨#[]⟩⟩ d hd

set_option maxRecDepth 100000 in
set_option maxHeartbeats 1600000 in
theorem kdGather_c (r : Rct) (t : Kt) : ∀ (d : Nat) (m : Mem) (w : World) (F : HP) (v : Option Addr), KtR m t v → St m w F → d + t.depth ≤ 1000 → t.size ≤ 1000000 →
    Calls Try.prog 59 #[.pointer v, r.v, .int .i64 d] w fun e w' => ∃ A cap, e = .returned (.slice A (t.gather r d).length cap) ∧ St m w' (star (SlO kPt A cap (t.gather r d)) F) := by
  induction t with
  | nil =>
    intro d m w F v hT hS _ _
    refine (kdGather0_c m w F .nil v hT rfl hS _ _ _ _ _).mono ?_
    rintro e w1 ⟨rfl, S⟩
    exact ⟨none, 0, rfl, SlO.nil S⟩
  | blank =>
    intro d m w F v hT hS _ _
    refine (kdGather0_c m w F .blank v hT rfl hS _ _ _ _ _).mono ?_
    rintro e w1 ⟨rfl, S⟩
    exact ⟨none, 0, rfl, SlO.nil S⟩
  | node p L R ihl ihr =>
    intro d m w F v hT hS hd hz
    have HI := Lib.hid fun m w F hT hS => kdIs_c m w F (.node p L R) v hT hS
    have hT0 := Lib.hid hT
    obtain ⟨b, vl, vr, fr, rfl, hb, hl, hr⟩ := hT
    have hd2 : d + (1 + max L.depth R.depth) ≤ 1000 := hd
    have hz2 : 1 + L.size + R.size ≤ 1000000 := hz
    obtain ⟨m1, l1, b1, S1⟩ := hS.allocf (.cells #[.int .u32 r.x0, .int .u32 r.y0, .int .u32 r.x1, .int .u32 r.y1] 43)
    have dc : ((d + 1 : Nat) : Int) = (d : Int) + 1 := by simp
    have Q1 := fun w F (h : St m1 w F) => ihl (d + 1) m1 w F vl (hl.mono l1) h (by omega) (by omega)
    have Q2 := fun w F (h : St m1 w F) => ihr (d + 1) m1 w F vr (hr.mono l1) h (by omega) (by omega)
    simp only [Rct.v, dc] at Q1 Q2
    replace Q1 := Lib.hid Q1
    replace Q2 := Lib.hid Q2
    clear dc
    have HL := Lib.hid l1
    have HB := Lib.hid (l1.blk _ _ hb)
    have HI1 := Lib.hid fun w (h : St m1 w F) => HI.out m1 w F (hT0.out.mono l1) h
    have LL := Lib.hid (Kt.gather_len r L (d + 1))
    have LR := Lib.hid (Kt.gather_len r R (d + 1))
    have P1 := part_c p d (by omega)
    unfold Pnt.v at P1
    replace P1 := Lib.hid P1
    have P2 := Lib.hid (partXY_p r.x0 r.y0 d (by omega))
    have P3 := Lib.hid (partXY_p r.x1 r.y1 d (by omega))
    have PH := rectHas_p r p.x p.y
    unfold Rct.v at PH
    replace PH := Lib.hid PH
    have k3 : IntKind.i64.wrap ((d : Int) + 1) = (d : Int) + 1 := i64_keep _ (by omega) (by omega)
    obtain ⟨o1, ho1⟩ : ∃ o1, o1 = if hasR r p.x p.y then [p] else [] := ⟨_, rfl⟩
    obtain ⟨o2, ho2⟩ : ∃ o2, o2 = if partXY r.x0 r.y0 d ≤ partP p d then L.gather r (d + 1) else [] := ⟨_, rfl⟩
    obtain ⟨o3, ho3⟩ : ∃ o3, o3 = if partP p d ≤ partXY r.x1 r.y1 d then R.gather r (d + 1) else [] := ⟨_, rfl⟩
    obtain ⟨o12, ho12⟩ : ∃ o12, o12 = o1 ++ o2 := ⟨_, rfl⟩
    obtain ⟨o13, ho13⟩ : ∃ o13, o13 = o12 ++ o3 := ⟨_, rfl⟩
    have HO := Lib.hid (And.intro ho1 (And.intro ho2 ho3))
    have HO2 := Lib.hid (And.intro ho12 ho13)
    clear HI hT0 hl hr ihl ihr hd hz hb l1 hS ho1 ho2 ho3 ho12 ho13
    unfold Rct.v
    go_enter Try.func59, Try.ntmps59
    go_wp2_with ((go_at_call 64; refine (HI1.out _ S1).mono ?_); rintro e w1 ⟨rfl, rfl⟩; simp only [Kt.is])
    generalize w.alloc (.cells #[.int .u32 r.x0, .int .u32 r.y0, .int .u32 r.x1, .int .u32 r.y1] 43) = W at *
    generalize w.heap.size = g at *
    have HG := Lib.hid b1
    clear b1 HI1
    have HOLD := Lib.hid fun (W' : World) (H' : HP) (h : St m1 W' H') => (⟨h.cellM HB.out 1, h.cellM HB.out 2, h.cellM HB.out 3, h.cellM HB.out 4, h.cellM HB.out 5, h.cellM HB.out 6, h.cellM HG.out 0, h.cellM HG.out 1, h.cellM HG.out 2, h.cellM HG.out 3⟩ : W'.cell? ⟨b, 1, none⟩ = some (.int .i64 p.id) ∧ W'.cell? ⟨b, 2, none⟩ = some (.int .u32 p.x) ∧ W'.cell? ⟨b, 3, none⟩ = some (.int .u32 p.y) ∧ W'.cell? ⟨b, 4, none⟩ = some (.string p.data) ∧ W'.cell? ⟨b, 5, none⟩ = some (.pointer vl) ∧ W'.cell? ⟨b, 6, none⟩ = some (.pointer vr) ∧ W'.cell? ⟨g, 0, none⟩ = some (.int .u32 r.x0) ∧ W'.cell? ⟨g, 1, none⟩ = some (.int .u32 r.y0) ∧ W'.cell? ⟨g, 2, none⟩ = some (.int .u32 r.x1) ∧ W'.cell? ⟨g, 3, none⟩ = some (.int .u32 r.y1))
    have hs0 := HOLD.out _ _ S1
    go_region_held3 (fun W' => W'.cell? ⟨b, 1, none⟩ = some (.int .i64 p.id) ∧ W'.cell? ⟨b, 2, none⟩ = some (.int .u32 p.x) ∧ W'.cell? ⟨b, 3, none⟩ = some (.int .u32 p.y) ∧ W'.cell? ⟨b, 4, none⟩ = some (.string p.data) ∧ W'.cell? ⟨b, 5, none⟩ = some (.pointer vl) ∧ W'.cell? ⟨b, 6, none⟩ = some (.pointer vr) ∧ W'.cell? ⟨g, 0, none⟩ = some (.int .u32 r.x0) ∧ W'.cell? ⟨g, 1, none⟩ = some (.int .u32 r.y0) ∧ W'.cell? ⟨g, 2, none⟩ = some (.int .u32 r.x1) ∧ W'.cell? ⟨g, 3, none⟩ = some (.int .u32 r.y1)) (exact HOLD.out _ _ (by first | assumption | exact St.drew (by assumption) | exact (St.alloc (by assumption) _).drop))
      (first | ((go_at_call 93; with_reducible refine (PH.out.at (m := m1) (H := F) (by first | assumption | exact St.drew (by assumption))).mono ?_); rintro e w' ⟨rfl, hS'⟩))
    have hb1 : o1.length ≤ 1 := by rw [HO.out.1]; split <;> simp
    have hb2 : (Kt.gather r L (d + 1)).length ≤ 1000000 := by have := LL.out; omega
    have hb3 : (Kt.gather r R (d + 1)).length ≤ 1000000 := by have := LR.out; omega
    clear hs0
    go_upto_if 23 with (fail)
    go_cut [7] (fun s7 wx => ∃ A1 cap1, s7 = .slice A1 o1.length cap1 ∧ St m1 wx (star (SlO kPt A1 cap1 o1) F))
    case first =>
      by_cases hh : hasR r p.x p.y = true
      · have e1 := Lib.hid (show o1 = [p] by rw [HO.out.1, if_pos hh])
        rw [hh]
        go_wp2_with (refine wpl_append1 kPt_ok rfl rfl 22 _ _ 29 rfl rfl rfl Try.underlying22 (by simp) p _ rfl rfl none 0 ([] : List Pnt) (fun _ => rfl) (SlO.nil hS') (by simp [kPt]) (by simp) (fun g' A' cap' w2 S2 => ?_))
        go_meet
        exact ⟨A', cap', by rw [e1.out]; rfl, by rw [e1.out]; exact S2⟩
      · have e1 := Lib.hid (show o1 = [] by rw [HO.out.1, if_neg hh])
        replace hh : hasR r p.x p.y = false := by simpa using hh
        rw [hh]
        go_wp2
        go_meet
        exact ⟨none, 0, by rw [e1.out]; rfl, by rw [e1.out]; exact SlO.nil hS'⟩
    case rest =>
      clear hS'
      obtain ⟨A1, cap1, rfl, S2⟩ := hcut
      have hs0 := HOLD.out _ _ S2
      have S2' := S2
      go_upto_if 45 with (first
        | ((go_at_call 94; with_reducible refine (P1.out.at (m := m1) (by first | exact S2 | exact S2.drew | exact S2.drewN _)).mono ?_); rintro e w3 ⟨rfl, S3⟩; have hs1 := HOLD.out _ _ S3)
        | ((go_at_call 94; with_reducible refine (P2.out.at (m := m1) (by first | exact S3 | exact S3.drew | exact S3.drewN _)).mono ?_); rintro e w4 ⟨rfl, S4⟩; have hs2 := HOLD.out _ _ S4))
      clear S2 S2' S3 hs0 hs1
      go_cut [7] (fun s7 wx => ∃ A2 cap2, s7 = .slice A2 o12.length cap2 ∧ St m1 wx (star (SlO kPt A2 cap2 o12) F))
      case first =>
        by_cases hc : partXY r.x0 r.y0 d ≤ partP p d
        · have e2 := Lib.hid (show o2 = _ by rw [HO.out.2.1, if_pos hc])
          rw [decide_eq_true hc]
          clear hc
          go_wp2_with fail
          go_region_held3 (fun W' => W'.cell? ⟨b, 1, none⟩ = some (.int .i64 p.id) ∧ W'.cell? ⟨b, 2, none⟩ = some (.int .u32 p.x) ∧ W'.cell? ⟨b, 3, none⟩ = some (.int .u32 p.y) ∧ W'.cell? ⟨b, 4, none⟩ = some (.string p.data) ∧ W'.cell? ⟨b, 5, none⟩ = some (.pointer vl) ∧ W'.cell? ⟨b, 6, none⟩ = some (.pointer vr) ∧ W'.cell? ⟨g, 0, none⟩ = some (.int .u32 r.x0) ∧ W'.cell? ⟨g, 1, none⟩ = some (.int .u32 r.y0) ∧ W'.cell? ⟨g, 2, none⟩ = some (.int .u32 r.x1) ∧ W'.cell? ⟨g, 3, none⟩ = some (.int .u32 r.y1)) (exact HOLD.out _ _ (by first | assumption | exact St.drew (by assumption) | exact (St.alloc (by assumption) _).drop))
            (first
              | ((go_at_call 59; with_reducible refine (Q1.out _ _ (by first | exact S4 | exact S4.drew | exact S4.drewN _)).mono ?_); rintro e w5 ⟨A5, cap5, rfl, S5⟩; obtain ⟨m5, l5, S6, R5⟩ := SlO.freeze S5)
              | (refine step_appendR kPt_ok rfl _ _ 22 rfl Try.underlying22 A1 cap1 o1 rfl (by first | exact S6 | exact S6.drew | exact S6.drewN _) A5 cap5 (Kt.gather r L (d + 1)) rfl R5 (by simp [kPt]; omega) (by omega) ?_; intro A6 cap6 w6 S7; have S8 := S7.weak l5))
          all_goals
            go_wp2
            go_meet
            exact ⟨A6, cap6, by rw [HO2.out.1, e2.out, List.length_append], by rw [HO2.out.1, e2.out]; exact S8⟩
        · have e2 := Lib.hid (show o2 = [] by rw [HO.out.2.1, if_neg hc])
          rw [decide_eq_false hc]
          clear hc
          go_wp2
          go_meet
          exact ⟨A1, cap1, by rw [HO2.out.1, e2.out, List.append_nil], by rw [HO2.out.1, e2.out, List.append_nil]; exact S4⟩
      case rest =>
        have hb4 : o12.length ≤ 1000001 := by
          have h : o2.length ≤ 1000000 := by rw [HO.out.2.1]; split; exact hb2; simp
          rw [HO2.out.1]; simp; omega
        clear S4 hs2
        obtain ⟨A2, cap2, rfl, S2⟩ := hcut
        have hs0 := HOLD.out _ _ S2
        go_upto_if 64 with (first
          | ((go_at_call 94; with_reducible refine (P3.out.at (m := m1) (by first | exact S2 | exact S2.drew | exact S2.drewN _)).mono ?_); rintro e w4 ⟨rfl, S4⟩; have hs2 := HOLD.out _ _ S4))
        clear S2 hs0
        go_cut [7] (fun s7 wx => ∃ A2 cap2, s7 = .slice A2 o13.length cap2 ∧ St m1 wx (star (SlO kPt A2 cap2 o13) F))
        case first =>
          by_cases hc : partP p d ≤ partXY r.x1 r.y1 d
          · have e3 := Lib.hid (show o3 = _ by rw [HO.out.2.2, if_pos hc])
            rw [decide_eq_true hc]
            clear hc
            go_wp2_with fail
            go_region_held3 (fun W' => W'.cell? ⟨b, 1, none⟩ = some (.int .i64 p.id) ∧ W'.cell? ⟨b, 2, none⟩ = some (.int .u32 p.x) ∧ W'.cell? ⟨b, 3, none⟩ = some (.int .u32 p.y) ∧ W'.cell? ⟨b, 4, none⟩ = some (.string p.data) ∧ W'.cell? ⟨b, 5, none⟩ = some (.pointer vl) ∧ W'.cell? ⟨b, 6, none⟩ = some (.pointer vr) ∧ W'.cell? ⟨g, 0, none⟩ = some (.int .u32 r.x0) ∧ W'.cell? ⟨g, 1, none⟩ = some (.int .u32 r.y0) ∧ W'.cell? ⟨g, 2, none⟩ = some (.int .u32 r.x1) ∧ W'.cell? ⟨g, 3, none⟩ = some (.int .u32 r.y1)) (exact HOLD.out _ _ (by first | assumption | exact St.drew (by assumption) | exact (St.alloc (by assumption) _).drop))
              (first
                | ((go_at_call 59; with_reducible refine (Q2.out _ _ (by first | exact S4 | exact S4.drew | exact S4.drewN _)).mono ?_); rintro e w5 ⟨A5, cap5, rfl, S5⟩; obtain ⟨m5, l5, S6, R5⟩ := SlO.freeze S5)
                | (refine step_appendR kPt_ok rfl _ _ 22 rfl Try.underlying22 A2 cap2 o12 rfl (by first | exact S6 | exact S6.drew | exact S6.drewN _) A5 cap5 (Kt.gather r R (d + 1)) rfl R5 (by simp [kPt]; omega) (by omega) ?_; intro A6 cap6 w6 S7; have S8 := S7.weak l5))
            all_goals
              go_wp2
              go_meet
              exact ⟨A6, cap6, by rw [HO2.out.2, e3.out, List.length_append], by rw [HO2.out.2, e3.out]; exact S8⟩
          · have e3 := Lib.hid (show o3 = [] by rw [HO.out.2.2, if_neg hc])
            rw [decide_eq_false hc]
            clear hc
            go_wp2
            go_meet
            exact ⟨A2, cap2, by rw [HO2.out.2, e3.out, List.append_nil], by rw [HO2.out.2, e3.out, List.append_nil]; exact S4⟩
        case rest =>
          clear S4 hs2
          obtain ⟨A3, cap3, rfl, S3⟩ := hcut
          go_wp2
          go_ret
          have e : Kt.gather r (.node p L R) d = o13 := by rw [HO2.out.2, HO2.out.1, HO.out.1, HO.out.2.1, HO.out.2.2]; rfl
          rw [e]
          exact ⟨A3, cap3, rfl, S3.weak HL.out⟩
end Go.Proofs
namespace Go.Proofs
open Go.Croft Go.RowKit Go.Sort Go.Shelf
set_option maxRecDepth 100000 in
theorem kdRange_c (r : Rct) (t : Kt) (m : Mem) (w : World) (F : HP) (v : Option Addr) (hT : KtR m t v) (hS : St m w F) (hd : t.depth ≤ 1000) (hz : t.size ≤ 1000000) :
    Calls Try.prog 24 #[.pointer v, r.v] w fun e w' => ∃ A cap, e = .returned (.slice A (sortP (t.gather r 0)).length cap) ∧ St m w' (star (SlO kPt A cap (sortP (t.gather r 0))) F) := by
  have hl := Kt.gather_len r t 0
  have Q1 := fun w (h : St m w F) => kdGather_c r t 0 m w F v hT h (by omega) hz
  simp only [Rct.v] at Q1
  replace Q1 := Lib.hid Q1
  have Q2 := Lib.hid fun m w A cap (hR : SlR kPt m A cap (t.gather r 0)) (h : St m w F) => pointSort_c m w F A cap (t.gather r 0) (by omega) hR h
  have HN := Lib.hid (sortP_length (t.gather r 0))
  clear hl
  unfold Rct.v
  go_enter Try.func24, Try.ntmps24
  go_wp2_with (first
    | ((go_at_call 59; refine (Q1.out _ ((hS.alloc _).drop)).mono ?_); rintro e w1 ⟨A1, cap1, rfl, S1⟩; obtain ⟨m2, l2, S2, R2⟩ := SlO.freeze S1)
    | ((go_at_call 44; with_reducible refine (Q2.out m2 _ A1 cap1 R2 S2).mono ?_); rintro e w2 ⟨A3, cap3, rfl, hn, S3⟩))
  go_ret
  rw [HN.out]
  exact ⟨A3, cap3, rfl, S3.weak l2⟩
end Go.Proofs

namespace Go.Proofs
open Go.Croft Go.RowKit

set_option maxRecDepth 100000 in
set_option maxHeartbeats 800000 in
/-- croftplain.Ints: are two lists one? -/
theorem ints_c (m : Mem) (w : World) (F : HP) (A B : Option Addr) (ca cb : Nat) (la lb : List Int) (hA : SlR kInt m A ca la) (hB : SlR kInt m B cb lb) (hS : St m w F) :
    Calls Try.prog 17 #[.slice A la.length ca, .slice B lb.length cb] w fun e w' => e = .returned (.bool (decide (la = lb))) ∧ St m w' F := by
  have HA := Lib.hid hA
  have HB := Lib.hid hB
  have hlm := hA.len_max
  clear hA hB
  by_cases hl : la.length = lb.length
  · rw [← hl]
    have HLen := Lib.hid hl
    clear hl
    go_enter Try.func17, Try.ntmps17
    go_wp2
    go_loopg [4, 5] la.length (fun r q t wr => ∃ k : Nat, k + r = la.length ∧ q = .bool false ∧ t = .int .i64 k ∧ Hid (la.take k = lb.take k) ∧ St m wr F)
    case atStart => exact ⟨0, by omega, rfl, rfl, Lib.hid rfl, hS⟩
    case round =>
      obtain ⟨k, hk, rfl, rfl, ht, hSr⟩ := hrel
      by_cases hlt : k < la.length
      · have hltb : k < lb.length := by rw [← HLen.out]; exact hlt
        obtain ⟨g, off, rfl, hc⟩ := HA.out.at hSr hlt
        obtain ⟨g2, off2, rfl, hc2⟩ := HB.out.at hSr hltb
        have h0 := hc 0 _ rfl
        have h1 := hc2 0 _ rfl
        simp only [kInt, Nat.add_zero, Nat.mul_one] at h0 h1
        have hcap : la.length ≤ cb := by rw [HLen.out]; exact HB.out.le_cap
        clear hc hc2
        by_cases he : la[k] = lb[k]
        · have hne : (la[k] == lb[k]) = true := by simp [he]
          have hT : Hid (la.take (k + 1) = lb.take (k + 1)) := by
            show _ = _
            rw [List.take_succ_eq_append_getElem hlt, List.take_succ_eq_append_getElem hltb, ht.out, he]
          rw [← he] at h1
          clear he ht
          go_wp2_with fail
          go_quiet (fail)
          go_wp2_with fail
          go_roundg (gk - 1)
          case measure => omega
          case rel => exact ⟨k + 1, by omega, rfl, by go_num, hT, hSr.drewN _⟩
        · have hne : (la[k] == lb[k]) = false := by simp [he]
          have hF : la ≠ lb := fun e => he (by subst e; rfl)
          have HFn := Lib.hid hF
          clear he hF
          go_wp2_with fail
          go_quiet (fail)
          go_wp2_with fail
          go_ret
          exact ⟨by simp [HFn.out], hSr.drewN _⟩
      · obtain rfl : k = la.length := by omega
        have hE : la = lb := by
          have h := ht.out
          rw [List.take_length, HLen.out, List.take_length] at h; exact h
        have HE := Lib.hid hE
        clear hE
        go_wp2_with fail
        go_ret
        exact ⟨by simp [HE.out], hSr⟩
  · have hne : ((la.length : Int) == (lb.length : Int)) = false := beq_eq_false_iff_ne.2 (by omega)
    have hF : la ≠ lb := fun e => hl (by rw [e])
    have HFn := Lib.hid hF
    clear hF hl
    go_enter Try.func17, Try.ntmps17
    go_wp2
    go_ret
    exact ⟨by simp [HFn.out], hS⟩
end Go.Proofs

namespace Go.Proofs
open Go.Croft Go.RowKit

set_option maxRecDepth 100000 in
set_option maxHeartbeats 800000 in
/-- croftplain.Has -/
theorem plainHas_p (r : Rct) (p : Pnt) : Pure Try.prog 60 #[r.v, p.v] (.bool (hasR r p.x p.y)) := by
  intro m w H hS
  unfold Rct.v Pnt.v
  have hS1 := ((((hS.alloc (.cells #[.int .u32 r.x0, .int .u32 r.y0, .int .u32 r.x1, .int .u32 r.y1] 43)).drop).alloc (.cells #[.int .i64 p.id, .int .u32 p.x, .int .u32 p.y, .string p.data] 54))).drop
  obtain ⟨_, x, y, _⟩ := p
  by_cases h0 : r.x0 ≤ x
  · have b0 : decide ((r.x0 : Int) ≤ x) = true := by simpa using h0
    by_cases h1 : x ≤ r.x1
    · have b1 : decide ((x : Int) ≤ r.x1) = true := by simpa using h1
      by_cases h2 : r.y0 ≤ y
      · have b2 : decide ((r.y0 : Int) ≤ y) = true := by simpa using h2
        by_cases h3 : y ≤ r.y1
        · have b3 : decide ((y : Int) ≤ r.y1) = true := by simpa using h3
          have R := Lib.hid (show hasR r x y = true by simp [hasR]; omega)
          go_enter Try.func60, Try.ntmps60
          go_wp2
          go_ret
          rw [R.out]; exact ⟨rfl, hS1⟩
        · have b3 : decide ((y : Int) ≤ r.y1) = false := by simpa using h3
          have R := Lib.hid (show hasR r x y = false by simp [hasR]; omega)
          go_enter Try.func60, Try.ntmps60
          go_wp2
          go_ret
          rw [R.out]; exact ⟨rfl, hS1⟩
      · have b2 : decide ((r.y0 : Int) ≤ y) = false := by simpa using h2
        have R := Lib.hid (show hasR r x y = false by simp [hasR]; omega)
        go_enter Try.func60, Try.ntmps60
        go_wp2
        go_ret
        rw [R.out]; exact ⟨rfl, hS1⟩
    · have b1 : decide ((x : Int) ≤ r.x1) = false := by simpa using h1
      have R := Lib.hid (show hasR r x y = false by simp [hasR]; omega)
      go_enter Try.func60, Try.ntmps60
      go_wp2
      go_ret
      rw [R.out]; exact ⟨rfl, hS1⟩
  · have b0 : decide ((r.x0 : Int) ≤ x) = false := by simpa using h0
    have R := Lib.hid (show hasR r x y = false by simp [hasR]; omega)
    go_enter Try.func60, Try.ntmps60
    go_wp2
    go_ret
    rw [R.out]; exact ⟨rfl, hS1⟩

/-- the cells of one point that is read -/
theorem ptsAtR {m : Mem} {A : Option Addr} {cap c : Nat} {l : List Pnt} (hR : SlR kPt m A cap l) (h : c < l.length) : ∃ g off, A = some ⟨g, off, none⟩ ∧ ∀ (w : World) (F : HP), St m w F → w.cell? ⟨g, off + c * 4, none⟩ = some (.int .i64 (l[c]).id) ∧ w.cell? ⟨g, off + c * 4 + 1, none⟩ = some (.int .u32 (l[c]).x) ∧ w.cell? ⟨g, off + c * 4 + 2, none⟩ = some (.int .u32 (l[c]).y) ∧ w.cell? ⟨g, off + c * 4 + 3, none⟩ = some (.string (l[c]).data) := by
  rcases hR with ⟨_, rfl, _⟩ | ⟨g, off, rfl, h3, h5, h7⟩
  · simp at h
  · refine ⟨g, off, rfl, fun w F hS => ?_⟩
    obtain ⟨b, off', e, hc⟩ := (show SlR kPt m (some ⟨g, off, none⟩) cap l from .inr ⟨g, off, rfl, h3, h5, h7⟩).at hS h
    cases e
    have c0 := hc 0 _ rfl
    have c1 := hc 1 _ rfl
    have c2 := hc 2 _ rfl
    have c3 := hc 3 _ rfl
    simp only [kPt, Nat.add_zero] at c0 c1 c2 c3
    exact ⟨c0, c1, c2, c3⟩

set_option maxRecDepth 100000 in
set_option maxHeartbeats 800000 in
/-- croftplain.In -/
theorem plainIn_c (m : Mem) (w : World) (F : HP) (A : Option Addr) (cap : Nat) (l : List Int) (n : Int) (hR : SlR kInt m A cap l) (hS : St m w F) :
    Calls Try.prog 49 #[.slice A l.length cap, .int .i64 n] w fun e w' => e = .returned (.bool (decide (n ∈ l))) ∧ w' = w := by
  have hlm := hR.len_max
  have HR := Lib.hid hR
  clear hR
  go_enter Try.func49, Try.ntmps49
  go_wp2_with fail
  go_loopg [5] l.length (fun r q wr => ∃ k : Nat, k ≤ l.length ∧ l.length - k ≤ r ∧ q = .int .i64 k ∧ Hid (n ∉ l.take k) ∧ wr = w)
  case atStart => exact ⟨0, by omega, by omega, rfl, Lib.hid (by simp), rfl⟩
  case round =>
    obtain ⟨k, hk, hg, rfl, hn, rfl⟩ := hrel
    by_cases hlt : k < l.length
    · obtain ⟨g, off, rfl, hc⟩ := HR.out.at hS hlt
      have c0 := hc 0 _ rfl
      simp only [kInt, Nat.add_zero, Nat.mul_one] at c0
      clear hc
      have hlt' : (k : Int) < l.length := by omega
      have w2 : IntKind.i64.wrap ((k : Int) + 1) = (k : Int) + 1 := i64_keep _ (by omega) (by omega)
      by_cases he : l[k] = n
      · have hq : (l[k] == n) = true := by simp [he]
        have HE := Lib.hid (show decide (n ∈ l) = true by simp [← he])
        clear he
        go_wp2
        go_ret
        rw [HE.out]; exact ⟨rfl, rfl⟩
      · have hq : (l[k] == n) = false := by simp [he]
        have HE := Lib.hid he
        clear he
        go_wp2
        go_roundg (l.length - (k + 1))
        case measure => omega
        case rel =>
          refine ⟨k + 1, by omega, Nat.le_refl _, by go_num, Lib.hid ?_, rfl⟩
          rw [List.take_succ_eq_append_getElem hlt]
          simp only [List.mem_append, List.mem_singleton, not_or]
          exact ⟨hn.out, fun e => HE.out e.symm⟩
    · obtain rfl : k = l.length := by omega
      have HE := Lib.hid (show decide (n ∈ l) = false by have := hn.out; rw [List.take_of_length_le (Nat.le_refl _)] at this; simpa using this)
      have hlt' : ¬ (l.length : Int) < l.length := by omega
      go_wp2
      go_ret
      rw [HE.out]; exact ⟨rfl, rfl⟩

set_option maxRecDepth 100000 in
set_option maxHeartbeats 1600000 in
/-- croftplain.Pick -/
theorem plainPick_c (r : Rct) (m : Mem) (w : World) (F : HP) (A : Option Addr) (cap : Nat) (l : List Pnt) (hl : l.length ≤ 1000000) (hR : SlR kPt m A cap l) (hS : St m w F) :
    Calls Try.prog 25 #[.slice A l.length cap, r.v] w fun e w' => ∃ A' cap', e = .returned (.slice A' (l.filter fun p => hasR r p.x p.y).length cap') ∧ St m w' (star (SlO kPt A' cap' (l.filter fun p => hasR r p.x p.y)) F) := by
  obtain ⟨m1, l1, b1, S1⟩ := hS.allocf (.cells #[.int .u32 r.x0, .int .u32 r.y0, .int .u32 r.x1, .int .u32 r.y1] 43)
  have HL := Lib.hid l1
  have HR := Lib.hid (hR.mono l1)
  have PH := plainHas_p r
  unfold Rct.v Pnt.v at PH
  replace PH := Lib.hid PH
  clear l1 hR
  unfold Rct.v
  go_enter Try.func25, Try.ntmps25
  go_wp2_with fail
  generalize w.alloc (.cells #[.int .u32 r.x0, .int .u32 r.y0, .int .u32 r.x1, .int .u32 r.y1] 43) = W at *
  generalize w.heap.size = g2 at *
  have HG := Lib.hid b1
  clear b1 hS
  go_loopg [5, 6] l.length (fun gr v q wr => ∃ (k : Nat) (A1 : Option Addr) (cap1 : Nat) (o : List Pnt), k ≤ l.length ∧ l.length - k ≤ gr ∧ q = .int .i64 k ∧ v = .slice A1 o.length cap1 ∧ o.length ≤ k ∧ Hid (o = (l.take k).filter fun p => hasR r p.x p.y) ∧ St m1 wr (star (SlO kPt A1 cap1 o) F))
  case atStart => exact ⟨0, none, 0, [], by omega, by omega, rfl, rfl, by simp, Lib.hid rfl, SlO.nil S1⟩
  case round =>
    obtain ⟨k, A1, cap1, o, hk, hg, rfl, rfl, hol, ho, hSr⟩ := hrel
    clear S1
    by_cases hlt : k < l.length
    · obtain ⟨g, off, rfl, hc⟩ := ptsAtR HR.out hlt
      have HOLD := Lib.hid fun (W : World) (hW : St m1 W (star (SlO kPt A1 cap1 o) F)) => (⟨hW, hc W _ hW, hW.cellM HG.out 0, hW.cellM HG.out 1, hW.cellM HG.out 2, hW.cellM HG.out 3⟩ : St m1 W (star (SlO kPt A1 cap1 o) F) ∧ (W.cell? ⟨g, off + k * 4, none⟩ = some (.int .i64 (l[k]).id) ∧ W.cell? ⟨g, off + k * 4 + 1, none⟩ = some (.int .u32 (l[k]).x) ∧ W.cell? ⟨g, off + k * 4 + 2, none⟩ = some (.int .u32 (l[k]).y) ∧ W.cell? ⟨g, off + k * 4 + 3, none⟩ = some (.string (l[k]).data)) ∧ W.cell? ⟨g2, 0, none⟩ = some (.int .u32 r.x0) ∧ W.cell? ⟨g2, 1, none⟩ = some (.int .u32 r.y0) ∧ W.cell? ⟨g2, 2, none⟩ = some (.int .u32 r.x1) ∧ W.cell? ⟨g2, 3, none⟩ = some (.int .u32 r.y1))
      have hs0 := HOLD.out _ hSr
      have hlt' : (k : Int) < l.length := by omega
      have b1 : (0 : Int) ≤ k := by omega
      have w2 : IntKind.i64.wrap ((k : Int) + 1) = (k : Int) + 1 := i64_keep _ (by omega) (by omega)
      have HT := Lib.hid (List.take_succ_eq_append_getElem hlt)
      clear hc
      go_wp2_with fail
      go_region_held3 (fun W => St m1 W (star (SlO kPt A1 cap1 o) F) ∧ (W.cell? ⟨g, off + k * 4, none⟩ = some (.int .i64 (l[k]).id) ∧ W.cell? ⟨g, off + k * 4 + 1, none⟩ = some (.int .u32 (l[k]).x) ∧ W.cell? ⟨g, off + k * 4 + 2, none⟩ = some (.int .u32 (l[k]).y) ∧ W.cell? ⟨g, off + k * 4 + 3, none⟩ = some (.string (l[k]).data)) ∧ W.cell? ⟨g2, 0, none⟩ = some (.int .u32 r.x0) ∧ W.cell? ⟨g2, 1, none⟩ = some (.int .u32 r.y0) ∧ W.cell? ⟨g2, 2, none⟩ = some (.int .u32 r.x1) ∧ W.cell? ⟨g2, 3, none⟩ = some (.int .u32 r.y1)) (exact HOLD.out _ (by first | assumption | exact And.left (by assumption) | exact St.drew (by assumption) | exact St.drewN (by assumption) _ | exact (St.alloc (by assumption) _).drop | exact (St.alloc (And.left (by assumption)) _).drop))
        (first | ((go_at_call 60; with_reducible refine ((PH.out l[k]).at (m := m1) (by exact And.left (by assumption))).mono ?_); rintro e w' ⟨rfl, hS'⟩))
      clear hs0 hSr
      by_cases hh : hasR r l[k].x l[k].y = true
      · rw [hh]
        have HH := Lib.hid hh
        clear hh
        go_wp2_with (refine wpl_append1 kPt_ok rfl rfl 22 _ _ 24 rfl rfl rfl Try.underlying22 (by simp) l[k] _ rfl rfl A1 cap1 o (fun _ => rfl) hS' (by simp [kPt]; omega) (by omega) (fun g' A' cap' w2 S2 => ?_))
        go_roundg (l.length - (k + 1))
        case measure => omega
        case rel => exact ⟨k + 1, A', cap', o ++ [l[k]], by omega, Nat.le_refl _, by go_num, by simp, by simp; omega, Lib.hid (by rw [HT.out, List.filter_append, ← ho.out]; simp [HH.out]), S2⟩
      · replace hh : hasR r l[k].x l[k].y = false := by simpa using hh
        rw [hh]
        have HH := Lib.hid hh
        clear hh
        go_wp2
        go_roundg (l.length - (k + 1))
        case measure => omega
        case rel => exact ⟨k + 1, A1, cap1, o, by omega, Nat.le_refl _, by go_num, rfl, by omega, Lib.hid (by rw [HT.out, List.filter_append, ← ho.out]; simp [HH.out]), hS'⟩
    · obtain rfl : k = l.length := by omega
      have hlt' : ¬ (l.length : Int) < l.length := by omega
      have HE : Hid (o = l.filter fun p => hasR r p.x p.y) := by have := ho.out; rwa [List.take_of_length_le (Nat.le_refl _)] at this
      go_wp2
      go_ret
      rw [← HE.out]
      exact ⟨A1, cap1, rfl, hSr.weak HL.out⟩
end Go.Proofs

namespace Go.Proofs
open Go.Croft Go.RowKit

set_option maxRecDepth 100000 in
set_option maxHeartbeats 3200000 in
theorem refSort_c (m : Mem) (w : World) (F : HP) (A0 : Option Addr) (cap0 : Nat) (l : List Pnt) (hl : l.length ≤ 1000000) (hR : SlR kPt m A0 cap0 l) (hS : St m w F) :
    Calls Try.prog 55 #[.slice A0 l.length cap0] w fun e w' => ∃ A' cap', e = .returned (.slice A' l.length cap') ∧ St m w' (star (SlO kPt A' cap' (sortP l)) F) := by
  have HR := Lib.hid hR
  clear hR
  go_enter Try.func55, Try.ntmps55
  go_wp2_with fail
  go_loopg [3, 4] l.length (fun gr v q wr => ∃ (i : Nat) (A : Option Addr) (cap n : Nat) (o : List Pnt), i ≤ l.length ∧ l.length - i ≤ gr ∧ q = .int .i64 i ∧ v = .slice A n cap ∧ n = i ∧ Hid (o.length = i ∧ SortedBy Pnt.id o ∧ Stab Pnt.id (l.take i) o) ∧ St m wr (star (SlO kPt A cap o) F))
  case atStart => exact ⟨0, none, 0, 0, [], by omega, by omega, rfl, rfl, rfl, Lib.hid ⟨rfl, List.Pairwise.nil, .refl _⟩, SlO.nil hS⟩
  case round =>
    obtain ⟨i, A, cap, n, o, hi, hg, rfl, rfl, hni, ho, hSr⟩ := hrel
    subst hni
    clear hS
    by_cases hlt : n < l.length
    · have hlt' : (n : Int) < l.length := by omega
      obtain ⟨g, off, rfl, hc⟩ := ptsAtR HR.out hlt
      have HX := Lib.hid hc
      obtain ⟨x, hx⟩ : ∃ x, x = l[n] := ⟨_, rfl⟩
      rw [← hx] at HX
      have HT := Lib.hid (show l.take (n + 1) = l.take n ++ [x] by rw [hx]; exact List.take_succ_eq_append_getElem hlt)
      have hol : o.length = n := ho.out.1
      have HOL := Lib.hid hol
      clear hc hx hol
      go_upto_block 2 with fail
      go_cut [5] (fun s5 wx => ∃ at_ : Nat, s5 = .int .i64 at_ ∧ at_ ≤ n ∧ Hid ((∀ y ∈ o.take at_, y.id ≤ x.id) ∧ ∀ y ∈ o.drop at_, x.id < y.id) ∧ St m wx (star (SlO kPt A cap o) F))
      case first =>
        go_wp2_with fail
        obtain ⟨wo, rfl⟩ : ∃ wo : World, wo = wr := ⟨_, rfl⟩
        go_loopg [5] n (fun gr q wr => ∃ c : Nat, q = .int .i64 c ∧ c ≤ n ∧ c ≤ gr ∧ Hid (∀ y ∈ o.drop c, x.id < y.id) ∧ St m wr (star (SlO kPt A cap o) F))
        case atStart => exact ⟨n, rfl, Nat.le_refl _, Nat.le_refl _, Lib.hid (by rw [List.drop_eq_nil_of_le (by rw [HOL.out]; exact Nat.le_refl _)]; simp), hSr⟩
        case round =>
          clear hSr
          obtain ⟨c, rfl, hcn, hcg, hdr, hSr⟩ := hrel
          have hx0 := HX.out _ _ hSr
          have n0 : (0 : Int) ≤ n := by omega
          by_cases hc0 : c = 0
          · subst hc0
            go_wp2_with fail
            go_quiet (fail)
            go_wp2
            go_meet
            exact ⟨0, by first | rfl | simp, by omega, Lib.hid ⟨by simp, hdr.out⟩, hSr.drewN _⟩
          · obtain ⟨z, hz⟩ : ∃ z, z = c - 1 := ⟨_, rfl⟩
            have hzo : z < o.length := by rw [HOL.out]; omega
            obtain ⟨g2, off2, rfl⟩ := addrOf hSr (show 0 < o.length by omega)
            have hz0 := ptsAt hSr hzo
            have w1 : IntKind.i64.wrap ((c : Int) - 1) = z := by
              rw [show (c : Int) - 1 = z by omega]; exact i64_keep _ (by omega) (by omega)
            have g1 : decide ((0 : Int) < c) = true := by simp; omega
            have g2' : decide (0 < c) = true := by simp; omega
            have g3 : 0 < c := by omega
            have b1 : (0 : Int) ≤ z := by omega
            have b2 : (z : Int) < n := by omega
            have HOZ : Hid (o.drop z = o[z] :: o.drop c) := by
              have h := List.drop_eq_getElem_cons hzo
              rw [show z + 1 = c by omega] at h
              exact h
            have HTZ : Hid (o.take c = o.take z ++ [o[z]]) := by
              have h := List.take_succ_eq_append_getElem hzo
              rw [show z + 1 = c by omega] at h
              exact h
            have HZ := Lib.hid hz
            clear hz hc0
            by_cases hgt : x.id < o[z].id
            · have HGT := Lib.hid hgt
              have hgt' : decide (x.id < o[z].id) = true := by simpa using hgt
              go_wp2_with fail
              go_quiet (fail)
              go_wp2
              go_roundg z
              case measure => have := HZ.out; omega
              case rel => exact ⟨z, rfl, by have := HZ.out; omega, Nat.le_refl _, Lib.hid (by rw [HOZ.out]; intro y hy; rcases List.mem_cons.1 hy with rfl | hy; exact HGT.out; exact hdr.out y hy), hSr.drewN _⟩
            · have HGT := Lib.hid hgt
              have hgt' : decide (x.id < o[z].id) = false := by simpa using hgt
              go_wp2_with fail
              go_quiet (fail)
              go_wp2
              go_meet
              refine ⟨c, rfl, hcn, Lib.hid ⟨fun y hy => ?_, hdr.out⟩, hSr.drewN _⟩
              rw [HTZ.out] at hy
              have hG := HGT.out
              rcases List.mem_append.1 hy with hy | hy
              · obtain ⟨q, hq, rfl⟩ := List.getElem_of_mem hy
                simp at hq
                have hs := ho.out.2.1
                unfold SortedBy at hs
                rw [List.pairwise_iff_getElem] at hs
                have := hs q z (by omega) hzo (by omega)
                rw [List.getElem_take]; omega
              · simp at hy; subst hy; omega
      case rest =>
        clear hSr
        obtain ⟨q, rfl, hqn, hsp, S⟩ := hcut
        have hcap : n ≤ cap := by have := SlO.le_cap S; rw [HOL.out] at this; exact this
        have h1 := fun w => run_slice_to (P := Try.prog) kPt_ok 22 Try.underlying22 A n cap q .i64 hqn hcap w
        have h2 := fun w => run_slice_from (P := Try.prog) kPt_ok 22 Try.underlying22 A n cap q (q : Int) rfl .i64 hqn hcap w
        have HC5 := Lib.hid fun W H (hW : St m W (star (SlO kPt A cap o) H)) (h0 : 0 < (o.take q).length) => SlO.cellsAt hW 0 (o.take q) (by simpa using List.take_prefix q o) h0
        have HC6 := Lib.hid fun W H (hW : St m W (star (SlO kPt A cap o) H)) (h0 : 0 < (o.drop q).length) => SlO.cellsAt hW q (o.drop q) (List.prefix_refl _) h0
        generalize sliceAddr A cap 0 kPt.K = A5 at *
        generalize sliceAddr A cap q kPt.K = A6 at *
        have HN0 : Hid (q = (o.take q).length) := Lib.hid (by have := HOL.out; simp; omega)
        have HN1 : Hid (q = ([] ++ o.take q).length) := Lib.hid (by have := HOL.out; simp; omega)
        have HN2 : Hid (q + 1 = ([] ++ o.take q ++ [x]).length) := Lib.hid (by have := HOL.out; simp; omega)
        have HN3 : Hid (n - q = (o.drop q).length) := Lib.hid (by have := HOL.out; simp; omega)
        have hx0 := HX.out _ _ S
        have n0 : (0 : Int) ≤ n := by omega
        have w2 : IntKind.i64.wrap ((n : Int) + 1) = (n : Int) + 1 := i64_keep _ (by omega) (by omega)
        go_wp2_with fail
        have TA1 := (SlO.fresh (k := kPt) [] S #[] rfl (by simp)).drew
        have TA2 := ((SlO.fresh (k := kPt) [] S #[] rfl (by simp)).alloc (.cells #[.int .i64 (x).id, .int .u32 (x).x, .int .u32 (x).y, .string (x).data] 54)).swap.drew
        have TB := (SlO.fresh (k := kPt) [] (S.alloc (.cells #[.int .i64 (x).id, .int .u32 (x).x, .int .u32 (x).y, .string (x).data] 54)) #[] rfl (by simp)).drew
        simp only [World.size_alloc, List.length_nil] at TA1 TA2 TB
        go_region_held3 (fun W => W.cell? ⟨g, off + n * 4, none⟩ = some (.int .i64 (x).id) ∧ W.cell? ⟨g, off + n * 4 + 1, none⟩ = some (.int .u32 (x).x) ∧ W.cell? ⟨g, off + n * 4 + 2, none⟩ = some (.int .u32 (x).y) ∧ W.cell? ⟨g, off + n * 4 + 3, none⟩ = some (.string (x).data))
          (with_reducible first | exact HX.out _ _ S14 | exact HX.out _ _ S10 | exact HX.out _ _ (S4a.alloc _) | exact HX.out _ _ S4a | exact HX.out _ _ S4b | exact HX.out _ _ S.drew | exact HX.out _ _ ((S.alloc _).drew) | exact HX.out _ _ (((S.alloc _).alloc _).drew) | exact HX.out _ _ S)
          (first
            | (refine step_append_n kPt_ok rfl _ _ 22 rfl Try.underlying22 A10 (q + 1) c10 _ HN2.out rfl S10 A6 (n - q) _ (o.drop q) HN3.out rfl (fun h => HC6.out _ _ S10.rot3 h) (by simp [kPt]; omega) (by omega) ?_; intro A14 c14 w14 S14)
            | (refine step_append_n kPt_ok rfl _ _ 22 rfl Try.underlying22 A4 q c4 _ HN1.out rfl S4b _ 1 _ [x] rfl rfl (fun h => St.oneAt S4b.swap x rfl) (by simp [kPt]; omega) (by omega) ?_; intro A10 c10 w10 S10)
            | (refine step_append_n kPt_ok rfl _ _ 22 rfl Try.underlying22 _ 0 _ ([] : List Pnt) rfl rfl TA1 A5 q _ (o.take q) HN0.out rfl (fun h => HC5.out _ _ TA1.swap h) (by simp [kPt]; omega) (by omega) ?_; intro A4 c4 w4 S4a; rw [Nat.zero_add])
            | (refine step_append_n kPt_ok rfl _ _ 22 rfl Try.underlying22 _ 0 _ ([] : List Pnt) rfl rfl TA2 A5 q _ (o.take q) HN0.out rfl (fun h => HC5.out _ _ TA2.rot3 h) (by simp [kPt]; omega) (by omega) ?_; intro A4 c4 w4 S4b; rw [Nat.zero_add])
            | (refine step_append_n kPt_ok rfl _ _ 22 rfl Try.underlying22 _ 0 _ ([] : List Pnt) rfl rfl TB A5 q _ (o.take q) HN0.out rfl (fun h => HC5.out _ _ TB.rot3 h) (by simp [kPt]; omega) (by omega) ?_; intro A4 c4 w4 S4b; rw [Nat.zero_add])
            | (refine step_append_n kPt_ok rfl _ _ 22 rfl Try.underlying22 A4 q c4 _ HN1.out rfl ((S4a.alloc _).swap) _ 1 _ [x] rfl rfl (fun h => St.oneAt (S4a.alloc _) x rfl) (by simp [kPt]; omega) (by omega) ?_; intro A10 c10 w10 S10))
        all_goals
          rw [show q + 1 + (n - q) = n + 1 by omega]
          go_wp2
          go_roundg (l.length - (n + 1))
          case measure => omega
          case rel =>
            have hq2 : o.take q ++ o.drop q = o := by simp
            have hm := merge_right (key := Pnt.id) (y := x) (X1 := o.take q) (X2 := o.drop q) (by rw [hq2]; exact ho.out.2.1) hsp.out.1 hsp.out.2
            rw [hq2] at hm
            refine ⟨n + 1, A14, c14, n + 1, _, by omega, Nat.le_refl _, by go_num, rfl, rfl, Lib.hid ⟨?_, hm.1, ?_⟩, by simpa using S14.drop'.drop'⟩
            · have := HOL.out; simp; omega
            · rw [HT.out]; exact Stab.trans (Stab.append ho.out.2.2 (.refl [x])) hm.2
    · obtain rfl : n = l.length := by omega
      have hlt' : ¬ (l.length : Int) < l.length := by omega
      have HE : Hid (o = sortP l) := by have h := ho.out.2.2; rw [List.take_of_length_le (Nat.le_refl _)] at h; exact sortP_of ho.out.2.1 h
      go_wp2
      go_ret
      rw [← HE.out]
      exact ⟨A, cap, rfl, hSr⟩
end Go.Proofs

namespace Go.Croft
open Go Go.RowKit
theorem star_swap {A B C : HP} {h : PH} (hs : star A (star B C) h) : star B (star A C) h := star_assoc (star_imp (fun _ => star_comm) (fun _ x => x) (star_assoc' hs))
theorem star_rot3 {A B C D : HP} {h : PH} (hs : star A (star B (star C D)) h) : star C (star A (star B D)) h := star_swap (star_imp (fun _ x => x) (fun _ => star_swap) hs)
theorem St.tl {m : Mem} {w : World} {A B B' : HP} (h : St m w (star A B)) (f : ∀ h, B h → B' h) : St m w (star A B') := h.imp fun _ => star_imp (fun _ x => x) f
theorem St.rot4 {m : Mem} {w : World} {A B C D E : HP} (h : St m w (star A (star B (star C (star D E))))) : St m w (star D (star A (star B (star C E)))) := (h.tl fun _ => star_rot3).swap
/-- the first of each Id -/
def firstsG (o : List Pnt) : List Pnt → List Pnt
  | [] => o
  | p :: l => firstsG (if p.id ∈ o.map Pnt.id then o else o ++ [p]) l
def firsts (l : List Pnt) : List Pnt := firstsG [] l
theorem firstsG_snoc (p : Pnt) : ∀ (l o : List Pnt), firstsG o (l ++ [p]) = if p.id ∈ (firstsG o l).map Pnt.id then firstsG o l else firstsG o l ++ [p]
  | [], o => rfl
  | q :: l, o => by simp only [List.cons_append, firstsG]; exact firstsG_snoc p l _
theorem firsts_take {l : List Pnt} {i : Nat} (h : i < l.length) : firsts (l.take (i + 1)) = if l[i].id ∈ (firsts (l.take i)).map Pnt.id then firsts (l.take i) else firsts (l.take i) ++ [l[i]] := by
  rw [List.take_succ_eq_append_getElem h]; exact firstsG_snoc _ _ _
theorem firstsG_length : ∀ (l o : List Pnt), (firstsG o l).length ≤ o.length + l.length
  | [], o => by simp [firstsG]
  | p :: l, o => by
    unfold firstsG
    split
    · have := firstsG_length l o; simp; omega
    · have := firstsG_length l (o ++ [p]); simp at this ⊢; omega
theorem firsts_length (l : List Pnt) : (firsts l).length ≤ l.length := by have := firstsG_length l []; simpa [firsts] using this
end Go.Croft
namespace Go.Proofs
open Go.Croft Go.RowKit

set_option maxRecDepth 100000 in
set_option maxHeartbeats 3200000 in
theorem fix_c (m : Mem) (w : World) (F : HP) (A0 : Option Addr) (cap0 : Nat) (l : List Pnt) (hl : l.length ≤ 40) (hR : SlR kPt m A0 cap0 l) (hS : St m w F) :
    Calls Try.prog 21 #[.slice A0 l.length cap0] w fun e w' => ∃ A' cap', e = .returned (.slice A' (firsts l).length cap') ∧ St m w' (star (SlO kPt A' cap' (sortP (firsts l))) F) := by
  have HR := Lib.hid hR
  clear hR
  go_enter Try.func21, Try.ntmps21
  go_wp2_with fail
  go_loopg [3, 4, 5] l.length (fun gr v u q wr => ∃ (i : Nat) (A B : Option Addr) (cap capb n : Nat) (o : List Pnt), i ≤ l.length ∧ l.length - i ≤ gr ∧ q = .int .i64 i ∧ v = .slice A n cap ∧ u = .slice B n capb ∧ n ≤ i ∧ Hid (o.length = n ∧ o = firsts (l.take i)) ∧ St m wr (star (SlO kPt A cap o) (star (SlO kInt B capb (o.map Pnt.id)) F)))
  case atStart => exact ⟨0, none, none, 0, 0, 0, [], by omega, by omega, rfl, rfl, rfl, Nat.le_refl _, Lib.hid ⟨rfl, rfl⟩, SlO.nil (SlO.nil hS)⟩
  case round =>
    obtain ⟨i, A, B, cap, capb, n, o, hi, hg, rfl, rfl, rfl, hni, ho, hSr⟩ := hrel
    clear hS
    by_cases hlt : i < l.length
    · have hlt' : (i : Int) < l.length := by omega
      have hlt2 : decide ((i : Int) < l.length) = true := by simpa using hlt
      have hlt3 : decide (i < l.length) = true := by simpa using hlt
      have hi40 : (i : Int) < 40 := by omega
      obtain ⟨g, off, rfl, hc⟩ := ptsAtR HR.out hlt
      have HX := Lib.hid hc
      have HT := Lib.hid (firsts_take hlt)
      obtain ⟨x, hx⟩ : ∃ x, x = l[i] := ⟨_, rfl⟩
      rw [← hx] at HX HT
      have hx0 := HX.out _ _ hSr
      have i0 : (0 : Int) ≤ i := by omega
      have w2 : IntKind.i64.wrap ((i : Int) + 1) = (i : Int) + 1 := i64_keep _ (by omega) (by omega)
      have HOL := Lib.hid ho.out.1
      have HML : Hid (n = (o.map Pnt.id).length) := Lib.hid (by rw [List.length_map]; exact HOL.out.symm)
      have HIN : Hid (Calls Try.prog 49 #[.slice B n capb, .int .i64 x.id] wr fun e w' => e = .returned (.bool (decide (x.id ∈ o.map Pnt.id))) ∧ w' = wr) := by
        obtain ⟨m3, _, S3, R3⟩ := SlO.freeze hSr.swap
        have h := plainIn_c m3 wr _ B capb (o.map Pnt.id) x.id R3 S3
        rw [← HML.out] at h
        exact h
      clear hc hx
      by_cases hin : x.id ∈ o.map Pnt.id
      · have HI := Lib.hid hin
        have hq : decide (x.id ∈ o.map Pnt.id) = true := by simpa using hin
        rw [hq] at HIN
        clear hin hq
        go_wp2_with ((go_at_call 49; with_reducible refine HIN.out.mono ?_); rintro e w3 ⟨rfl, rfl⟩)
        go_roundg (l.length - (i + 1))
        case measure => omega
        case rel => exact ⟨i + 1, A, B, cap, capb, n, o, by omega, Nat.le_refl _, by go_num, rfl, rfl, by omega, Lib.hid ⟨HOL.out, by rw [HT.out, ← ho.out.2, if_pos HI.out]⟩, hSr⟩
      · have HI := Lib.hid hin
        have hq : decide (x.id ∈ o.map Pnt.id) = false := by simpa using hin
        rw [hq] at HIN
        clear hin hq
        go_wp2_with ((go_at_call 49; with_reducible refine HIN.out.mono ?_); rintro e w3 ⟨rfl, rfl⟩)
        have S := hSr
        clear hSr HIN
        have TA1 := (S.alloc (.cells #[.int .i64 (x).id, .int .u32 (x).x, .int .u32 (x).y, .string (x).data] 54)).swap.drew
        have UA1 := (S.alloc (.cells #[.int .i64 (x).id, .int .u32 (x).x, .int .u32 (x).y, .string (x).data] 54)).drew
        have TA2 := ((S.alloc (.cells #[.int .i64 (x).id, .int .u32 (x).x, .int .u32 (x).y, .string (x).data] 54)).alloc (.cells #[.int .i64 x.id] 3)).rot3.drew
        have UA2 := ((S.alloc (.cells #[.int .i64 (x).id, .int .u32 (x).x, .int .u32 (x).y, .string (x).data] 54)).alloc (.cells #[.int .i64 x.id] 3)).swap.drew
        have TB := ((S.alloc (.cells #[.int .i64 x.id] 3)).alloc (.cells #[.int .i64 (x).id, .int .u32 (x).x, .int .u32 (x).y, .string (x).data] 54)).rot3.drew
        have UB := ((S.alloc (.cells #[.int .i64 x.id] 3)).alloc (.cells #[.int .i64 (x).id, .int .u32 (x).x, .int .u32 (x).y, .string (x).data] 54)).drew
        simp only [World.size_alloc] at TA1 UA1 TA2 UA2 TB UB
        have hn9 : n ≤ 40 := by omega
        go_region_held3 (fun W => W.cell? ⟨g, off + i * 4, none⟩ = some (.int .i64 (x).id) ∧ W.cell? ⟨g, off + i * 4 + 1, none⟩ = some (.int .u32 (x).x) ∧ W.cell? ⟨g, off + i * 4 + 2, none⟩ = some (.int .u32 (x).y) ∧ W.cell? ⟨g, off + i * 4 + 3, none⟩ = some (.string (x).data))
          (with_reducible first | exact HX.out _ _ S14 | exact HX.out _ _ (S6a.alloc _) | exact HX.out _ _ S6a | exact HX.out _ _ S6b | exact HX.out _ _ S6c | exact HX.out _ _ S.drew | exact HX.out _ _ UA1 | exact HX.out _ _ UA2 | exact HX.out _ _ UB | exact HX.out _ _ ((S.alloc _).drew) | exact HX.out _ _ S)
          (first
            | (refine step_append_n kInt_ok rfl _ _ 26 rfl Try.underlying26 B n capb (o.map Pnt.id) HML.out rfl S6b.rot4 _ 1 _ [x.id] rfl rfl (fun h => St.oneAt S6b.swap x.id rfl) (by simp [kInt]; omega) (by omega) ?_; intro B14 c14 w14 S14)
            | (refine step_append_n kInt_ok rfl _ _ 26 rfl Try.underlying26 B n capb (o.map Pnt.id) HML.out rfl S6c.rot4 _ 1 _ [x.id] rfl rfl (fun h => St.oneAt S6c.rot3 x.id rfl) (by simp [kInt]; omega) (by omega) ?_; intro B14 c14 w14 S14)
            | (refine step_append_n kInt_ok rfl _ _ 26 rfl Try.underlying26 B n capb (o.map Pnt.id) HML.out rfl (S6a.alloc _).rot4 _ 1 _ [x.id] rfl rfl (fun h => St.oneAt (S6a.alloc _) x.id rfl) (by simp [kInt]; omega) (by omega) ?_; intro B14 c14 w14 S14)
            | (refine step_append_n kPt_ok rfl _ _ 22 rfl Try.underlying22 A n cap o HOL.out.symm rfl TA1 _ 1 _ [x] rfl rfl (fun h => St.oneAt UA1 x rfl) (by simp [kPt]; omega) (by omega) ?_; intro A6 c6 w6 S6a)
            | (refine step_append_n kPt_ok rfl _ _ 22 rfl Try.underlying22 A n cap o HOL.out.symm rfl TA2 _ 1 _ [x] rfl rfl (fun h => St.oneAt UA2 x rfl) (by simp [kPt]; omega) (by omega) ?_; intro A6 c6 w6 S6b)
            | (refine step_append_n kPt_ok rfl _ _ 22 rfl Try.underlying22 A n cap o HOL.out.symm rfl TB _ 1 _ [x] rfl rfl (fun h => St.oneAt UB x rfl) (by simp [kPt]; omega) (by omega) ?_; intro A6 c6 w6 S6c))
        all_goals
          clear TA1 UA1 TA2 UA2 TB UB
          go_wp2
          go_roundg (l.length - (i + 1))
          case measure => omega
          case rel =>
            have e : (o ++ [x]).map Pnt.id = o.map Pnt.id ++ [x.id] := by simp
            refine ⟨i + 1, A6, B14, c6, c14, n + 1, o ++ [x], by omega, Nat.le_refl _, by go_num, rfl, rfl, by omega, Lib.hid ⟨by have := HOL.out; simp; omega, by rw [HT.out, ← ho.out.2, if_neg HI.out]⟩, ?_⟩
            rw [e]
            first | exact S14.rot3.drop.rot3.drop.swap | exact S14.drop'.swap.rot3.drop
    · obtain rfl : i = l.length := by omega
      have hlt2 : decide ((l.length : Int) < l.length) = false := by simp
      have HE : Hid (o = firsts l) := by have h := ho.out.2; rw [List.take_of_length_le (Nat.le_refl _)] at h; exact h
      have HLN : Hid (n = (firsts l).length) := by rw [← HE.out]; exact ho.out.1.symm
      obtain ⟨m2, l2, S2, R2⟩ := SlO.freeze hSr
      have HRS := refSort_c m2 wr F A cap o (by have := ho.out.1; omega) R2 S2.drop
      rw [ho.out.1] at HRS
      replace HRS := Lib.hid HRS
      have HL2 := Lib.hid l2
      clear hSr S2 R2 l2
      go_wp2_with ((go_at_call 55; with_reducible refine HRS.out.mono ?_); rintro e w3 ⟨A', cap', rfl, S3⟩)
      go_ret
      rw [← HLN.out, ← HE.out]
      exact ⟨A', cap', rfl, S3.weak HL2.out⟩
end Go.Proofs

namespace Go.Croft
theorem firstsG_filter (v : Int) : ∀ (l o : List Pnt), (firstsG o l).filter (fun p => p.id == v) = if v ∈ o.map Pnt.id then o.filter (fun p => p.id == v) else o.filter (fun p => p.id == v) ++ (l.filter (fun p => p.id == v)).take 1
  | [], o => by simp [firstsG]
  | p :: l, o => by
    unfold firstsG
    by_cases hp : p.id ∈ o.map Pnt.id
    · rw [if_pos hp, firstsG_filter v l o]
      by_cases hv : v ∈ o.map Pnt.id
      · rw [if_pos hv, if_pos hv]
      · rw [if_neg hv, if_neg hv]
        have : ¬ p.id = v := fun e => hv (e ▸ hp)
        simp [this]
    · rw [if_neg hp, firstsG_filter v l (o ++ [p])]
      by_cases hpv : p.id = v
      · subst hpv
        rw [if_pos (by simp), if_neg hp]
        simp
      · by_cases hv : v ∈ o.map Pnt.id
        · rw [if_pos (by simp; exact .inl (by simpa using hv)), if_pos hv]
          simp [hpv]
        · rw [if_neg (by
            intro h
            simp only [List.map_append, List.map_cons, List.map_nil, List.mem_append, List.mem_singleton] at h
            rcases h with h | h
            · exact hv h
            · exact hpv h.symm), if_neg hv]
          simp [hpv]
theorem firsts_filter (v : Int) (l : List Pnt) : (firsts l).filter (fun p => p.id == v) = (l.filter (fun p => p.id == v)).take 1 := by
  have := firstsG_filter v l []; simpa [firsts] using this
theorem compG_filter (v : Int) : ∀ (l : List Pnt) (q : Option Int), SortedBy Pnt.id l → (∀ u, q = some u → ∀ y ∈ l, u ≤ y.id) → (compG q l).filter (fun p => p.id == v) = if q = some v then [] else (l.filter (fun p => p.id == v)).take 1
  | [], q, _, _ => by simp [compG]
  | x :: l, q, hs, hq => by
    unfold SortedBy at hs
    rw [List.pairwise_cons] at hs
    have ih := compG_filter v l (some x.id) hs.2 (fun u hu y hy => by cases hu; exact hs.1 y hy)
    unfold compG
    by_cases hx : q = some x.id
    · rw [if_pos hx, ih, hx]
      by_cases hv : x.id = v
      · simp [hv]
      · have : ¬ some x.id = some v := fun e => hv (Option.some.inj e)
        rw [if_neg this, if_neg this]; simp [hv]
    · rw [if_neg hx]
      by_cases hv : x.id = v
      · subst hv
        rw [if_neg hx]
        rw [if_pos rfl] at ih
        simp [ih]
      · have hne : ¬ some x.id = some v := fun e => hv (Option.some.inj e)
        rw [if_neg hne] at ih
        have hb : (x.id == v) = false := by simpa using hv
        simp only [List.filter_cons, hb, ih]
        by_cases hqv : q = some v
        · rw [if_pos hqv]
          have : l.filter (fun p => p.id == v) = [] := by
            rw [List.filter_eq_nil_iff]
            intro y hy
            have h1 := hq v hqv x (by simp)
            have h2 := hs.1 y hy
            simp; omega
          rw [this]; rfl
        · rw [if_neg hqv]; rfl
theorem compG_sub : ∀ (l : List Pnt) (q : Option Int), (compG q l).Sublist l
  | [], _ => by simp [compG]
  | x :: l, q => by
    unfold compG
    split
    · exact (compG_sub l _).trans (List.sublist_cons_self _ _)
    · exact (compG_sub l _).cons_cons x
theorem comp_firsts (l : List Pnt) : compP (sortP l) = sortP (firsts l) := by
  refine sortP_of (List.Pairwise.sublist (compG_sub _ _) (sortP_sorted l)) fun v => ?_
  rw [firsts_filter, ← sortP_stab l v]
  have := compG_filter v (sortP l) none (sortP_sorted l) (by simp)
  simpa [compP] using this
/-- each Id once -/
def Once (l : List Pnt) : Prop := ∀ v : Int, (l.filter (fun p => p.id == v)).length ≤ 1
theorem firsts_once (l : List Pnt) : Once (firsts l) := fun v => by rw [firsts_filter, List.length_take]; omega
theorem Once.perm {a b : List Pnt} (h : Once a) (hp : a.Perm b) : Once b := fun v => by rw [← (hp.filter _).length_eq]; exact h v
theorem len_le_one {α : Type} {l : List α} (h : l.length ≤ 1) : l = [] ∨ ∃ x, l = [x] := by
  rcases l with _ | ⟨x, _ | ⟨y, l⟩⟩
  · exact .inl rfl
  · exact .inr ⟨x, rfl⟩
  · simp at h
theorem Once.stab {a b : List Pnt} (h : Once b) (hp : a.Perm b) : Stab Pnt.id a b := fun v => by
  have h1 := hp.filter (fun p => p.id == v)
  rcases len_le_one (h v) with e | ⟨x, e⟩
  · rw [e] at h1 ⊢; exact (List.Perm.eq_nil h1).symm
  · rw [e] at h1 ⊢; exact (List.perm_singleton.1 h1).symm
theorem sortP_perm (l : List Pnt) : (sortP l).Perm l := Stab.perm (sortP_stab l)
theorem Once.filter {a : List Pnt} (h : Once a) (f : Pnt → Bool) : Once (a.filter f) := fun v => by
  have : ((a.filter f).filter (fun p => p.id == v)).length ≤ (a.filter (fun p => p.id == v)).length := by
    rw [List.filter_filter]
    have e : (fun p : Pnt => p.id == v && f p) = fun p => f p && (p.id == v) := by funext p; exact Bool.and_comm _ _
    have h2 := List.length_filter_le f (a.filter (fun p => p.id == v))
    rw [List.filter_filter] at h2
    rw [e]; exact h2
  exact Nat.le_trans this (h v)
theorem Once.inj {a : List Pnt} (h : Once a) {p q : Pnt} (hp : p ∈ a) (hq : q ∈ a) (e : p.id = q.id) : p = q := by
  have h1 := h p.id
  have m1 : p ∈ a.filter (fun x => x.id == p.id) := by simp [hp]
  have m2 : q ∈ a.filter (fun x => x.id == p.id) := by simp [hq, e]
  rcases len_le_one h1 with e2 | ⟨x, e2⟩
  · rw [e2] at m1; simp at m1
  · rw [e2] at m1 m2; simp at m1 m2; rw [m1, m2]
end Go.Croft
