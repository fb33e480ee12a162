/- Contracts of the given program, for the proofs of its statements: text KdNone. No conditions beyond those in each theorem. -/
import Derived.Test.YtlheekiegfhkiaaKd
namespace Go.Proofs
open Go.Croft Go.RowKit Go.Sort Go.Shelf

set_option maxRecDepth 100000 in
/-- point.Sort of one point, or of none -/
theorem pointSort1_c (m : Mem) (w : World) (F : HP) (A : Option Addr) (cap : Nat) (l : List Pnt) (hl : l.length ≤ 1) (hR : SlR kPt m A cap l) (hS : St m w F) :
    Calls Try.prog 44 #[.slice A l.length cap] w fun e w' => ∃ A' cap', e = .returned (.slice A' l.length cap') ∧ (A = none → A' = none) ∧ St m w' (SlO kPt A' cap' l ∗∗ F) := by
  go_enter Try.func44, Try.ntmps44
  go_wp2_with (first
    | (go_at_call 74; refine (clonePt_c m w F A cap l (by omega) hR hS).mono ?_; rintro e w1 ⟨A1, cap1, rfl, hn, S1⟩; clear hR hS)
    | (go_at_call 75; refine (stableTiny A1 l.length cap1 _ hl w1).mono ?_; rintro e w2 ⟨rfl, rfl⟩))
  go_ret
  exact ⟨A1, cap1, rfl, hn, S1⟩

set_option maxRecDepth 100000 in
/-- kdtree.New of one point, or of none -/
theorem kdNew1_c (m : Mem) (w : World) (F : HP) (A : Option Addr) (cap : Nat) (l : List Pnt) (hl : l.length ≤ 1) (hR : SlR kPt m A cap l) (hS : St m w F) :
    Calls Try.prog 22 #[.slice A l.length cap] w fun e w' => ∃ m' v t, e = .returned (.pointer v) ∧ m.le m' ∧ KtR m' t v ∧ Halved 0 l t ∧ St m' w' F := by
  have hc : ∀ (A : Option Addr) (cap : Nat) (f : Value) (w : World), Calls Try.prog 57 #[.slice A l.length cap, f] w fun e w' => e = .returned (.slice A l.length cap) ∧ w' = w := fun A cap f w => by
    have h1 : (l.length : Int) < 2 := by omega
    go_enter Try.func57, Try.ntmps57
    go_wp2
    go_ret
    exact ⟨rfl, rfl⟩
  have HC := Lib.hid hc
  clear hc
  go_enter Try.func22, Try.ntmps22
  go_wp2_with (first
    | (go_at_call 44; refine (pointSort1_c m w F A cap l hl hR hS).mono ?_; rintro e w1 ⟨A1, cap1, rfl, hn, S1⟩; obtain ⟨m2, l2, S2, R2⟩ := SlO.freeze S1; clear hR hS S1)
    | (go_at_call 57; refine (HC.out _ _ _ _).mono ?_; rintro e w2 ⟨rfl, rfl⟩)
    | (go_at_call 56; refine (kdGrow_c 1 m2 _ F A1 cap1 l 0 hl (by omega) R2 S2).mono ?_; rintro e w3 ⟨m3, v, t, rfl, l3, K, D, S3⟩))
  go_ret
  exact ⟨m3, v, t, rfl, l2.trans l3, K, D, S3⟩

set_option maxRecDepth 100000 in
set_option maxHeartbeats 800000 in
theorem kdDepth_c (t : Kt) : ∀ (m : Mem) (w : World) (F : HP) (v : Option Addr), KtR m t v → St m w F → t.depth ≤ 1000 →
    Calls Try.prog 29 #[.pointer v] w fun e w' => e = .returned (.int .i64 t.depth) ∧ St m w' F := by
  induction t with
  | nil =>
    intro m w F v hT hS hd
    go_enter Try.func29, Try.ntmps29
    go_wp2_with (go_at_call 64; refine (kdIs_c m w F .nil v hT hS).mono ?_; rintro e w1 ⟨rfl, rfl⟩; simp only [Kt.is])
    go_ret
    exact ⟨rfl, hS⟩
  | blank =>
    intro m w F v hT hS hd
    go_enter Try.func29, Try.ntmps29
    go_wp2_with (go_at_call 64; refine (kdIs_c m w F .blank v hT hS).mono ?_; rintro e w1 ⟨rfl, rfl⟩; simp only [Kt.is])
    go_ret
    exact ⟨rfl, hS⟩
  | node p l r ihl ihr =>
    intro m w F v hT hS hd
    have HI := Lib.hid fun w hS => kdIs_c m w F (.node p l r) v hT hS
    obtain ⟨b, vl, vr, fr, rfl, hb, hl, hr⟩ := hT
    have hd2 : 1 + max l.depth r.depth ≤ 1000 := hd
    have Q1 := Lib.hid fun w (h : St m w F) => ihl m w F vl hl h (by omega)
    have Q2 := Lib.hid fun w (h : St m w F) => ihr m w F vr hr h (by omega)
    have HOLD := Lib.hid fun (w : World) (h : St m w F) => (⟨h, h.cellM hb 5, h.cellM hb 6⟩ : St m w F ∧ w.cell? ⟨b, 5, none⟩ = some (.pointer vl) ∧ w.cell? ⟨b, 6, none⟩ = some (.pointer vr))
    have hs0 := HOLD.out _ hS
    have hdep : Hid (max (l.depth : Int) (r.depth : Int) = ((max l.depth r.depth : Nat) : Int)) := by simp only [Hid]; omega
    have hw : IntKind.i64.wrap (1 + max (l.depth : Int) (r.depth : Int)) = 1 + max (l.depth : Int) (r.depth : Int) := i64_keep _ (by omega) (by omega)
    clear ihl ihr hl hr hb hd
    go_enter Try.func29, Try.ntmps29
    go_wp2_with (go_at_call 64; refine (HI.out w hS).mono ?_; rintro e w1 ⟨rfl, rfl⟩; simp only [Kt.is])
    go_region_held3 (fun W' => St m W' F ∧ W'.cell? ⟨b, 5, none⟩ = some (.pointer vl) ∧ W'.cell? ⟨b, 6, none⟩ = some (.pointer vr)) (exact HOLD.out _ (by first | assumption | exact And.left (by assumption) | exact St.drew (by assumption) | exact St.drewN (by assumption) _ | exact (St.alloc (by assumption) _).drop | exact (St.alloc (And.left (by assumption)) _).drop))
      (first
        | (go_at_call 29; with_reducible refine (Q1.out _ (by exact And.left (by assumption))).mono ?_; rintro e w' ⟨rfl, hS1⟩)
        | (go_at_call 29; with_reducible refine (Q2.out _ (by first | assumption | exact And.left (by assumption))).mono ?_; rintro e w' ⟨rfl, hS2⟩))
    go_wp2
    go_ret
    exact ⟨by simp [Kt.depth]; omega, by first | assumption | exact And.left (by assumption)⟩

/-- what is no tree: nothing is told of it -/
theorem kdGather0_c (m : Mem) (w : World) (F : HP) (t : Kt) (v : Option Addr) (hT : KtR m t v) (ht : t.is = false) (hS : St m w F) (x0 y0 x1 y1 : Value) (d : Value) :
    Calls Try.prog 59 #[.pointer v, .agg #[x0, y0, x1, y1], d] w fun e w' => e = .returned (.slice none 0 0) ∧ St m w' F := by
  have hi := Lib.hid fun w hS => kdIs_c m w (F) t v hT hS
  go_enter Try.func59, Try.ntmps59
  go_wp2_with (go_at_call 64; refine (hi.out _ (hS.alloc _).drop).mono ?_; rintro e w1 ⟨rfl, rfl⟩)
  go_ret
  exact ⟨rfl, (hS.alloc _).drop⟩

set_option maxRecDepth 100000 in
theorem kdRange0_c (m : Mem) (w : World) (F : HP) (t : Kt) (v : Option Addr) (hT : KtR m t v) (ht : t.is = false) (hS : St m w F) (x0 y0 x1 y1 : Int) :
    Calls Try.prog 24 #[.pointer v, .agg #[.int .u32 x0, .int .u32 y0, .int .u32 x1, .int .u32 y1]] w fun e w' => ∃ A cap, e = .returned (.slice A (([] : List Pnt).length) cap) ∧ St m w' F := by
  go_enter Try.func24, Try.ntmps24
  go_wp2_with (first
    | (go_at_call 59; refine (kdGather0_c m _ F t v hT ht ((hS.alloc _).drop) _ _ _ _ _).mono ?_; rintro e w1 ⟨rfl, S1⟩)
    | (go_at_call 44; refine (pointSort1_c m _ F none 0 [] (by simp) (SlR.nil _ _) S1).mono ?_; rintro e w2 ⟨A1, cap1, rfl, hn, S2⟩; obtain rfl := hn rfl))
  go_ret
  exact ⟨none, cap1, rfl, S2.drop⟩

set_option maxRecDepth 100000 in
theorem kdVisit0_c (m : Mem) (w : World) (F : HP) (t : Kt) (v : Option Addr) (hT : KtR m t v) (ht : t.is = false) (hS : St m w F) (f d : Value) :
    Calls Try.prog 61 #[f, .pointer v, d] w fun e w' => e = .returned (.tuple #[]) ∧ w' = w := by
  go_enter Try.func61, Try.ntmps61
  go_wp2_with (go_at_call 64; refine (kdIs_c m w F t v hT hS).mono ?_; rintro e w1 ⟨rfl, rfl⟩; rw [ht])
  refine bodyPost_ret (results_none rfl _ _ _) rfl ?_
  exact ⟨rfl, rfl⟩

set_option maxRecDepth 100000 in
theorem kdNear0_c (m : Mem) (w : World) (F : HP) (t : Kt) (v : Option Addr) (hT : KtR m t v) (ht : t.is = false) (hS : St m w F) (x y : Int) (k : Int) :
    Calls Try.prog 26 #[.pointer v, .int .u32 x, .int .u32 y, .int .i64 k] w fun e w' => e = .returned (.slice none 0 0) ∧ St m w' F := by
  have HV := Lib.hid fun w (hS : St m w F) => kdVisit0_c m w F t v hT ht hS
  go_enter Try.func26, Try.ntmps26
  go_wp2_with (go_at_call 61; refine (HV.out _ (hS.alloc _).drop _ _).mono ?_; rintro e w1 ⟨rfl, rfl⟩)
  refine wp_loop_once ?_
  go_wp2_with fail
  go_ret
  exact ⟨rfl, (hS.alloc _).drop⟩

set_option maxRecDepth 100000 in
theorem kdOrder0_c (m : Mem) (w : World) (F : HP) (t : Kt) (v : Option Addr) (hT : KtR m t v) (ht : t.is = false) (hS : St m w F) :
    Calls Try.prog 28 #[.pointer v] w fun e w' => e = .returned (.slice none 0 0) ∧ w' = w := by
  go_enter Try.func28, Try.ntmps28
  go_wp2_with (go_at_call 64; refine (kdIs_c m w F t v hT hS).mono ?_; rintro e w1 ⟨rfl, rfl⟩; rw [ht])
  go_ret
  exact ⟨rfl, rfl⟩
end Go.Proofs
