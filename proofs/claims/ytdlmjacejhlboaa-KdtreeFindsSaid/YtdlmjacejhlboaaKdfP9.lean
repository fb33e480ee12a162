/- Contracts of the given program, for the proofs of its statements: NearVisit, PlainEq, NearNear, LawKd, RefDist. No conditions beyond those in each theorem. -/
import Derived.Test.YtdlmjacejhlboaaKdfP8
import Derived.Test.YtdlmjacejhlboaaKdfP7
import Derived.Laws.StructEq
namespace Go.Proofs
open Go.Croft Go.RowKit

def SortedF (l : List Fnd) : Prop := l.Pairwise fun a b => ¬ cmpF b a < 0
theorem cmpF_lt_of (a b c : Fnd) (h : ¬ cmpF b a < 0) (k : cmpF b c < 0) : cmpF a c < 0 := by
  simp only [cmpF_neg, cmpD_neg, cmpD_zero] at *; omega
theorem SortedF.mon {l : List Fnd} (h : SortedF l) (c : Fnd) : ∀ i j (hij : i < j) (hj : j < l.length), cmpF l[j] c < 0 → cmpF (l[i]'(by omega)) c < 0 := fun i j hij hj hc => by
  unfold SortedF at h
  rw [List.pairwise_iff_getElem] at h
  exact cmpF_lt_of _ _ _ (h i j (by omega) hj hij) hc
/-- a point is put in its place, and the k nearest are kept -/
def AddR (k : Nat) (c : Fnd) (l l' : List Fnd) : Prop := ∃ i, i ≤ l.length ∧ (∀ y ∈ l.take i, cmpF y c < 0) ∧ (∀ y ∈ l.drop i, 0 ≤ cmpF y c) ∧ l' = (l.take i ++ c :: l.drop i).take k
theorem AddR.sorted {k : Nat} {c : Fnd} {l l' : List Fnd} (h : AddR k c l l') (hs : SortedF l) : SortedF l' ∧ l'.length ≤ k := by
  obtain ⟨i, hi, h1, h2, rfl⟩ := h
  have hs' : SortedF (l.take i ++ c :: l.drop i) := by
    unfold SortedF at *
    have e : l = l.take i ++ l.drop i := by simp
    rw [e, List.pairwise_append] at hs
    rw [List.pairwise_append, List.pairwise_cons]
    refine ⟨hs.1, ⟨fun b hb => by have := h2 b hb; omega, hs.2.1⟩, fun a ha b hb => ?_⟩
    rcases List.mem_cons.1 hb with rfl | hb
    · have h := h1 a ha
      simp only [cmpF_neg, cmpD_neg, cmpD_zero] at *; omega
    · exact hs.2.2 a ha b hb
  exact ⟨List.Pairwise.sublist (List.take_sublist _ _) hs', by simp; omega⟩

/-- what visit does -/
inductive Vis (x y k : Nat) : Kt → Nat → List Fnd → List Fnd → Prop where
  | none (t : Kt) (d : Nat) (l : List Fnd) : t.is = false → Vis x y k t d l l
  | all (p : Pnt) (L R A B : Kt) (d : Nat) (l l1 l2 l3 : List Fnd) : (A, B) = (if partP p d < partXY x y d then (R, L) else (L, R)) → AddR k (fnd x y p) l l1 → Vis x y k A (d + 1) l1 l2 → Vis x y k B (d + 1) l2 l3 → Vis x y k (.node p L R) d l l3
  | cut (p : Pnt) (L R A B : Kt) (d : Nat) (l l1 l2 : List Fnd) : (A, B) = (if partP p d < partXY x y d then (R, L) else (L, R)) → AddR k (fnd x y p) l l1 → Vis x y k A (d + 1) l1 l2 → (∃ h : 0 < l2.length, l2.length = k ∧ 0 < cmpD (Dist.of (lineD x y p d)) (l2[l2.length - 1]).d) → Vis x y k (.node p L R) d l l2
def Kt.ok : Kt → Prop
  | .node p l r => (p.x < 4294967296 ∧ p.y < 4294967296) ∧ l.ok ∧ r.ok
  | _ => True
def VisPost (m : Mem) (F : HP) (f x y k d : Nat) (t : Kt) (l : List Fnd) (e : Ending) (w' : World) : Prop := e = .returned (.tuple #[]) ∧ ∃ (A : Option Addr) (cap : Nat) (l' : List Fnd), Vis x y k t d l l' ∧ SortedF l' ∧ l'.length ≤ k ∧ St m w' (star (pt f (.cells #[.int .u32 x, .int .u32 y, .int .i64 k, .slice A l'.length cap] 112 (0, 0))) (star (SlO kFnd A cap l') F))

set_option maxRecDepth 100000 in
set_option maxHeartbeats 3200000 in
theorem finderVisit_c (f x y k : Nat) (hx : x < 4294967296) (hy : y < 4294967296) (hk : k ≤ 64) (hk0 : 0 < k) (t : Kt) : ∀ (d : Nat) (m : Mem) (w : World) (F : HP) (v A : Option Addr) (cap : Nat) (l : List Fnd), KtR m t v → t.ok → d + t.depth ≤ 1000 → SortedF l → l.length ≤ k → St m w (star (pt f (.cells #[.int .u32 x, .int .u32 y, .int .i64 k, .slice A l.length cap] 112 (0, 0))) (star (SlO kFnd A cap l) F)) →
    Calls Try.prog 61 #[.pointer (some ⟨f, 0, none⟩), .pointer v, .int .i64 d] w (VisPost m F f x y k d t l) := by
  induction t with
  | nil =>
    intro d m w F v A cap l hT hok hd hs hl hS
    refine (kdVisit0_c m w _ .nil v hT rfl hS _ _).mono ?_
    rintro e w1 ⟨rfl, rfl⟩
    exact ⟨rfl, A, cap, l, .none _ _ _ rfl, hs, hl, hS⟩
  | blank =>
    intro d m w F v A cap l hT hok hd hs hl hS
    refine (kdVisit0_c m w _ .blank v hT rfl hS _ _).mono ?_
    rintro e w1 ⟨rfl, rfl⟩
    exact ⟨rfl, A, cap, l, .none _ _ _ rfl, hs, hl, hS⟩
  | node p L R ihl ihr =>
    intro d m w F v A cap l hT hok hd hs hl hS
    have HI := Lib.hid (kdIs_c m w _ (.node p L R) v hT hS)
    obtain ⟨b, vl, vr, fr, rfl, hb, hl', hr'⟩ := hT
    have hd2 : d + (1 + max L.depth R.depth) ≤ 1000 := hd
    have dc : ((d + 1 : Nat) : Int) = (d : Int) + 1 := by simp
    have Q1 := fun w A cap l h1 h2 h => ihl (d + 1) m w F vl A cap l hl' hok.2.1 (by omega) h1 h2 h
    have Q2 := fun w A cap l h1 h2 h => ihr (d + 1) m w F vr A cap l hr' hok.2.2 (by omega) h1 h2 h
    simp only [dc] at Q1 Q2
    replace Q1 := Lib.hid Q1
    replace Q2 := Lib.hid Q2
    have QA := finderAdd_c m w F f x y k A cap l p hx hy hok.1 hk (by omega) (hs.mon _) hS
    have QF := fun w A cap l (hl : l.length ≤ k) h => finderFar_c m w F f x y k d A cap l p hx hy hok.1 hk hk0 hl (by omega) h
    have P1 := part_c p d (by omega)
    have P2 := partXY_p x y d (by omega)
    unfold Pnt.v at QA QF P1
    replace QA := Lib.hid QA
    replace QF := Lib.hid QF
    replace P1 := Lib.hid P1
    replace P2 := Lib.hid P2
    have HS := Lib.hid hs
    have k3 : IntKind.i64.wrap ((d : Int) + 1) = (d : Int) + 1 := i64_keep _ (by omega) (by omega)
    have kq : ((k : Int) == 0) = false := by simp; omega
    have HC := Lib.hid fun (W : World) (H : HP) (hW : St m W H) => (⟨hW.cellM hb 1, hW.cellM hb 2, hW.cellM hb 3, hW.cellM hb 4, hW.cellM hb 5, hW.cellM hb 6⟩ : W.cell? ⟨b, 1, none⟩ = some (.int .i64 p.id) ∧ W.cell? ⟨b, 2, none⟩ = some (.int .u32 p.x) ∧ W.cell? ⟨b, 3, none⟩ = some (.int .u32 p.y) ∧ W.cell? ⟨b, 4, none⟩ = some (.string p.data) ∧ W.cell? ⟨b, 5, none⟩ = some (.pointer vl) ∧ W.cell? ⟨b, 6, none⟩ = some (.pointer vr))
    have hs0 := HC.out _ _ hS
    have c2 := hS.cell (i := 2)
    clear ihl ihr hl' hr' hb hd dc hs hok
    go_enter Try.func61, Try.ntmps61
    go_wp2_with (first
      | ((go_at_call 64; refine HI.out.mono ?_); rintro e w1 ⟨rfl, rfl⟩; simp only [Kt.is])
      | ((go_at_call 95; with_reducible refine QA.out.mono ?_); rintro e w1 ⟨rfl, i, A1, cap1, l1, hi, h1, h2, h3, S1⟩))
    have HA := Lib.hid (show AddR k (fnd x y p) l l1 from ⟨i, hi, h1, h2, h3⟩)
    clear hs0 c2 h1 h2 h3 hi HI
    have hs1 := HC.out _ _ S1
    go_quiet (fail)
    replace S1 := S1.drewN nq
    generalize w1.drewN nq = w2 at *
    clear hs1
    have HS1 := Lib.hid (HA.out.sorted HS.out)
    have HOLD := Lib.hid fun (W : World) (H : HP) (hW : St m W (star (pt f (.cells #[.int .u32 x, .int .u32 y, .int .i64 k, .slice (A1) (l1.length) (cap1)] 112 (0, 0))) H)) => (⟨HC.out _ _ hW, hW.cell (i := 0), hW.cell (i := 1)⟩ : (W.cell? ⟨b, 1, none⟩ = some (.int .i64 p.id) ∧ W.cell? ⟨b, 2, none⟩ = some (.int .u32 p.x) ∧ W.cell? ⟨b, 3, none⟩ = some (.int .u32 p.y) ∧ W.cell? ⟨b, 4, none⟩ = some (.string p.data) ∧ W.cell? ⟨b, 5, none⟩ = some (.pointer vl) ∧ W.cell? ⟨b, 6, none⟩ = some (.pointer vr)) ∧ W.cell? ⟨f, 0, none⟩ = some (.int .u32 x) ∧ W.cell? ⟨f, 1, none⟩ = some (.int .u32 y))
    have hs1 := HOLD.out _ _ S1
    go_wp2_with fail
    go_region_held3 (fun W => (W.cell? ⟨b, 1, none⟩ = some (.int .i64 p.id) ∧ W.cell? ⟨b, 2, none⟩ = some (.int .u32 p.x) ∧ W.cell? ⟨b, 3, none⟩ = some (.int .u32 p.y) ∧ W.cell? ⟨b, 4, none⟩ = some (.string p.data) ∧ W.cell? ⟨b, 5, none⟩ = some (.pointer vl) ∧ W.cell? ⟨b, 6, none⟩ = some (.pointer vr)) ∧ W.cell? ⟨f, 0, none⟩ = some (.int .u32 x) ∧ W.cell? ⟨f, 1, none⟩ = some (.int .u32 y))
      (with_reducible first | exact HOLD.out _ _ S3 | exact HOLD.out _ _ S2 | exact HOLD.out _ _ S1.drew | exact HOLD.out _ _ S1)
      (first
        | ((go_at_call 94; with_reducible refine (P2.out.at (m := m) (by first | exact S1.drew | exact S1)).mono ?_); rintro e w' ⟨rfl, S2⟩)
        | ((go_at_call 94; with_reducible refine (P1.out.at (m := m) (by exact S2)).mono ?_); rintro e w' ⟨rfl, S3⟩))
    clear hs1 S1 S2 HOLD
    have hs3 := HC.out _ _ S3
    by_cases hc : partP p d < partXY x y d
    · rw [decide_eq_true hc]
      have HCC := Lib.hid hc
      clear hc
      go_wp2_with (first
        | ((go_at_call 61; with_reducible refine (Q2.out _ _ _ _ HS1.out.1 HS1.out.2 S3).mono ?_); rintro e w4 ⟨rfl, A2, cap2, l2, hv2, hs2, hl2, S4⟩; have hs4 := HC.out _ _ S4))
      have HV2 := Lib.hid hv2
      have HS2 := Lib.hid hs2
      refine (QF.out _ A2 cap2 l2 hl2 S4).mono ?_
      rintro e w5 ⟨q, rfl, hq, S5⟩
      have HQ := Lib.hid hq
      clear hv2 hs2 hq hs4 S4 S3
      cases q with
      | true =>
        go_wp2
        all_goals
          (try go_end0)
          obtain ⟨h5, h6⟩ := HQ.out (by first | trivial | rfl)
          refine ⟨rfl, A2, cap2, l2, Vis.cut p L R R L d l l1 l2 (by first | rw [if_pos HCC.out] | rw [if_neg HCC.out]) HA.out HV2.out ⟨by omega, h5, ?_⟩, HS2.out, hl2, S5⟩
          have e : l2.length - 1 = k - 1 := by omega
          simp only [e]; exact h6
      | false =>
        go_wp2_with (first
          | ((go_at_call 61; with_reducible refine (Q1.out _ _ _ _ HS2.out hl2 S5).mono ?_); rintro e w6 ⟨rfl, A3, cap3, l3, hv3, hs3, hl3, S6⟩))
        all_goals
          (try go_end0)
          exact ⟨rfl, A3, cap3, l3, Vis.all p L R R L d l l1 l2 l3 (by first | rw [if_pos HCC.out] | rw [if_neg HCC.out]) HA.out HV2.out hv3, hs3, hl3, S6⟩
    · rw [decide_eq_false hc]
      have HCC := Lib.hid hc
      clear hc
      go_wp2_with (first
        | ((go_at_call 61; with_reducible refine (Q1.out _ _ _ _ HS1.out.1 HS1.out.2 S3).mono ?_); rintro e w4 ⟨rfl, A2, cap2, l2, hv2, hs2, hl2, S4⟩; have hs4 := HC.out _ _ S4))
      have HV2 := Lib.hid hv2
      have HS2 := Lib.hid hs2
      refine (QF.out _ A2 cap2 l2 hl2 S4).mono ?_
      rintro e w5 ⟨q, rfl, hq, S5⟩
      have HQ := Lib.hid hq
      clear hv2 hs2 hq hs4 S4 S3
      cases q with
      | true =>
        go_wp2
        all_goals
          (try go_end0)
          obtain ⟨h5, h6⟩ := HQ.out (by first | trivial | rfl)
          refine ⟨rfl, A2, cap2, l2, Vis.cut p L R L R d l l1 l2 (by first | rw [if_pos HCC.out] | rw [if_neg HCC.out]) HA.out HV2.out ⟨by omega, h5, ?_⟩, HS2.out, hl2, S5⟩
          have e : l2.length - 1 = k - 1 := by omega
          simp only [e]; exact h6
      | false =>
        go_wp2_with (first
          | ((go_at_call 61; with_reducible refine (Q2.out _ _ _ _ HS2.out hl2 S5).mono ?_); rintro e w6 ⟨rfl, A3, cap3, l3, hv3, hs3, hl3, S6⟩))
        all_goals
          (try go_end0)
          exact ⟨rfl, A3, cap3, l3, Vis.all p L R L R d l l1 l2 l3 (by first | rw [if_pos HCC.out] | rw [if_neg HCC.out]) HA.out HV2.out hv3, hs3, hl3, S6⟩
end Go.Proofs

namespace Go.Proofs
open Go.Croft Go.RowKit

set_option maxRecDepth 100000 in
set_option maxHeartbeats 1600000 in
/-- croftplain.Points of one list -/
theorem plainPoints_c (m : Mem) (w : World) (F : HP) (A B : Option Addr) (capA capB : Nat) (l : List Pnt) (hA : SlR kPt m A capA l) (hB : SlR kPt m B capB l) (hS : St m w F) :
    Calls Try.prog 23 #[.slice A l.length capA, .slice B l.length capB] w fun e w' => e = .returned (.bool true) ∧ St m w' F := by
  have hlm := hA.len_max
  have HA := Lib.hid hA
  have HB := Lib.hid hB
  clear hA hB
  have hne : ((l.length : Int) != (l.length : Int)) = false := by simp
  go_enter Try.func23, Try.ntmps23
  go_wp2_with fail
  go_loopg [5] l.length (fun r q wr => ∃ k : Nat, k ≤ l.length ∧ l.length - k ≤ r ∧ q = .int .i64 k ∧ St m wr F)
  case atStart => exact ⟨0, by omega, by omega, rfl, hS⟩
  case round =>
    obtain ⟨k, hk, hg, rfl, hSr⟩ := hrel
    by_cases hlt : k < l.length
    · obtain ⟨g, off, rfl, hc⟩ := ptsAtR HA.out hlt
      obtain ⟨g2, off2, rfl, hc2⟩ := ptsAtR HB.out hlt
      have h1 := hc _ _ hSr
      have h2 := hc2 _ _ hSr
      have hlt' : (k : Int) < l.length := by omega
      have b1 : (0 : Int) ≤ k := by omega
      have w2 : IntKind.i64.wrap ((k : Int) + 1) = (k : Int) + 1 := i64_keep _ (by omega) (by omega)
      clear hc hc2
      generalize l[k] = p at h1 h2
      go_wp2_with fail
      go_quiet (fail)
      go_wp2
      go_roundg (l.length - (k + 1))
      case measure => omega
      case rel => exact ⟨k + 1, by omega, Nat.le_refl _, by go_num, hSr.drewN _⟩
    · obtain rfl : k = l.length := by omega
      have hlt' : ¬ (l.length : Int) < l.length := by omega
      go_wp2
      go_ret
      exact ⟨rfl, hSr⟩
end Go.Proofs

namespace Go.Proofs
open Go.Croft Go.RowKit Go.Sort Go.Shelf

theorem fndAtR {m : Mem} {A : Option Addr} {cap c : Nat} {l : List Fnd} (hR : SlR kFnd m A cap l) (h : c < l.length) : ∃ g off, A = some ⟨g, off, none⟩ ∧ ∀ (w : World) (F : HP), St m w F → w.cell? ⟨g, off + c * 6, none⟩ = some (.int .i64 (l[c]).p.id) ∧ w.cell? ⟨g, off + c * 6 + 1, none⟩ = some (.int .u32 (l[c]).p.x) ∧ w.cell? ⟨g, off + c * 6 + 2, none⟩ = some (.int .u32 (l[c]).p.y) ∧ w.cell? ⟨g, off + c * 6 + 3, none⟩ = some (.string (l[c]).p.data) ∧ w.cell? ⟨g, off + c * 6 + 4, none⟩ = some (.int .u64 (l[c]).d.hi) ∧ w.cell? ⟨g, off + c * 6 + 5, none⟩ = some (.int .u64 (l[c]).d.lo) := by
  rcases hR with ⟨_, rfl, _⟩ | ⟨g, off, rfl, h3, h5, h7⟩
  · simp at h
  · refine ⟨g, off, rfl, fun w F hS => ?_⟩
    obtain ⟨b, off', e, hc⟩ := (show SlR kFnd m (some ⟨g, off, none⟩) cap l from .inr ⟨g, off, rfl, h3, h5, h7⟩).at hS h
    cases e
    have c0 := hc 0 _ rfl
    have c1 := hc 1 _ rfl
    have c2 := hc 2 _ rfl
    have c3 := hc 3 _ rfl
    have c4 := hc 4 _ rfl
    have c5 := hc 5 _ rfl
    simp only [kFnd, Nat.add_zero] at c0 c1 c2 c3 c4 c5
    exact ⟨c0, c1, c2, c3, c4, c5⟩

set_option maxRecDepth 100000 in
theorem kdVisitK0_c (m : Mem) (w : World) (F : HP) (t : Kt) (v : Option Addr) (f : Nat) (u0 u1 u3 d : Value) (hT : KtR m t v) (hS : St m w (star (pt f (.cells #[u0, u1, .int .i64 0, u3] 112 (0, 0))) F)) :
    Calls Try.prog 61 #[.pointer (some ⟨f, 0, none⟩), .pointer v, d] w fun e w' => e = .returned (.tuple #[]) ∧ w' = w := by
  cases ht : t.is with
  | false => exact kdVisit0_c m w _ t v hT ht hS _ _
  | true =>
    have HI := Lib.hid (kdIs_c m w _ t v hT hS)
    have c2 := hS.cell (i := 2)
    go_enter Try.func61, Try.ntmps61
    go_wp2_with (go_at_call 64; refine HI.out.mono ?_; rintro e w1 ⟨rfl, rfl⟩; rw [ht])
    refine bodyPost_ret (results_none rfl _ _ _) rfl ?_
    exact ⟨rfl, rfl⟩

def NearL (x y kk : Nat) (t : Kt) (l : List Fnd) : Prop := (kk = 0 ∧ l = []) ∨ (0 < kk ∧ Vis x y kk t 0 [] l ∧ SortedF l ∧ l.length ≤ kk)
def NearPost (m : Mem) (F : HP) (x y kk : Nat) (t : Kt) (e : Ending) (w' : World) : Prop := ∃ (l : List Fnd) (A : Option Addr) (cap : Nat), NearL x y kk t l ∧ e = .returned (.slice A (l.map Fnd.p).length cap) ∧ St m w' (star (SlO kPt A cap (l.map Fnd.p)) F)

set_option maxRecDepth 100000 in
set_option maxHeartbeats 1600000 in
theorem kdNear_c (m : Mem) (w : World) (F : HP) (t : Kt) (v : Option Addr) (x y kk : Nat) (k : Int) (hT : KtR m t v) (hok : t.ok) (hd : t.depth ≤ 1000) (hx : x < 4294967296) (hy : y < 4294967296) (hkk : min (max k 0) 64 = (kk : Int)) (hS : St m w F) :
    Calls Try.prog 26 #[.pointer v, .int .u32 x, .int .u32 y, .int .i64 k] w (NearPost m F x y kk t) := by
  have S1 := hS.alloc (.cells #[.int .u32 x, .int .u32 y, .int .i64 kk, .slice none 0 0] 112)
  have HV : Hid (Calls Try.prog 61 #[.pointer (some ⟨w.heap.size, 0, none⟩), .pointer v, .int .i64 0] (w.alloc (.cells #[.int .u32 x, .int .u32 y, .int .i64 kk, .slice none 0 0] 112)) fun e w' => e = .returned (.tuple #[]) ∧ ∃ (A : Option Addr) (cap : Nat) (l : List Fnd) (m2 : Mem), Hid (NearL x y kk t l) ∧ l.length ≤ 64 ∧ Hid (m.le m2) ∧ Hid (SlR kFnd m2 A cap l) ∧ m2.blk w.heap.size = some (.cells #[.int .u32 x, .int .u32 y, .int .i64 kk, .slice A l.length cap] 112 (0, 0)) ∧ St m2 w' F) := by
    by_cases h0 : kk = 0
    · subst h0
      refine Lib.hid ((kdVisitK0_c m _ F t v _ _ _ _ _ hT S1).mono ?_)
      rintro e w' ⟨rfl, rfl⟩
      obtain ⟨m2, l2, b2, S2⟩ := S1.freeze
      exact ⟨rfl, none, 0, [], m2, Lib.hid (.inl ⟨rfl, rfl⟩), by simp, Lib.hid l2, Lib.hid (SlR.nil _ _), b2, S2⟩
    · refine Lib.hid ((finderVisit_c w.heap.size x y kk hx hy (by omega) (by omega) t 0 m _ F v none 0 [] hT hok (by omega) List.Pairwise.nil (by simp) (SlO.nil S1).swap).mono ?_)
      rintro e w' ⟨rfl, A, cap, l, h1, h2, h3, S2⟩
      obtain ⟨m2, l2, b2, S3⟩ := S2.freeze
      obtain ⟨m3, l3, S4, R4⟩ := SlO.freeze S3
      exact ⟨rfl, A, cap, l, m3, Lib.hid (.inr ⟨by omega, h1, h2, h3⟩), by omega, Lib.hid (l2.trans l3), Lib.hid R4, l3.blk _ _ b2, S4⟩
  clear S1 hT hok hd hx hy
  go_enter Try.func26, Try.ntmps26
  go_wp2_with ((go_at_call 61; with_reducible refine HV.out.mono ?_); rintro e w2 ⟨rfl, A, cap, l, m2, hn, hl, hle, hR, b2, S2⟩; have c3 := S2.cellM b2 3)
  clear b2 HV c3
  have hlm : (l.length : Int) ≤ 64 := by omega
  go_loopg [10, 28] l.length (fun gr v q wr => ∃ (i : Nat) (A1 : Option Addr) (cap1 : Nat) (o : List Pnt), i ≤ l.length ∧ l.length - i ≤ gr ∧ q = .int .i64 i ∧ v = .slice A1 o.length cap1 ∧ o.length ≤ i ∧ Hid (o = (l.take i).map Fnd.p) ∧ St m2 wr (star (SlO kPt A1 cap1 o) F))
  case atStart => exact ⟨0, none, 0, [], by omega, by omega, rfl, rfl, by simp, Lib.hid rfl, SlO.nil S2⟩
  case round =>
    obtain ⟨i, A1, cap1, o, hi, hg, rfl, rfl, hol, ho, hSr⟩ := hrel
    clear S2
    by_cases hlt : i < l.length
    · obtain ⟨g, off, rfl, hc⟩ := fndAtR hR.out hlt
      have hs0 := hc _ _ hSr
      have hlt' : (i : Int) < l.length := by omega
      have b1 : (0 : Int) ≤ i := by omega
      have w2 : IntKind.i64.wrap ((i : Int) + 1) = (i : Int) + 1 := i64_keep _ (by omega) (by omega)
      have HT := Lib.hid (List.take_succ_eq_append_getElem hlt)
      clear hc
      go_wp2_with (refine wpl_append1 kPt_ok rfl rfl 22 _ _ 35 rfl rfl rfl Try.underlying22 (by simp) l[i].p _ rfl rfl A1 cap1 o (fun _ => rfl) ((hSr.alloc _).drop) (by simp [kPt]; omega) (by omega) (fun g' A' cap' w2 S3 => ?_))
      go_roundg (l.length - (i + 1))
      case measure => omega
      case rel => exact ⟨i + 1, A', cap', o ++ [l[i].p], by omega, Nat.le_refl _, by go_num, by simp, by simp; omega, Lib.hid (by rw [HT.out, List.map_append, ← ho.out]; rfl), S3⟩
    · obtain rfl : i = l.length := by omega
      have hlt' : ¬ (l.length : Int) < l.length := by omega
      have HE : Hid (o = l.map Fnd.p) := by have := ho.out; rwa [List.take_of_length_le (Nat.le_refl _)] at this
      go_wp2
      go_ret
      refine ⟨l, A1, cap1, hn.out, ?_, ?_⟩
      · rw [← HE.out]; rfl
      · rw [← HE.out]; exact hSr.weak hle.out
end Go.Proofs

namespace Go.Proofs
open Go.Croft Go.RowKit

def Kt.pts : Kt → List Pnt
  | .node p L R => L.pts ++ p :: R.pts
  | _ => []
theorem perm_mid {α : Type} {a b c d : List α} {x : α} (h1 : a.Perm b) (h2 : c.Perm d) : (a ++ x :: c).Perm (b ++ x :: d) := h1.append (h2.cons x)
theorem Halved.pts {d : Nat} {l : List Pnt} {t : Kt} (h : Halved d l t) : t.pts.Perm l := by
  induction h with
  | nil d => exact .refl _
  | node d l s1 s2 p L R hp h1 h2 hl hr ih1 ih2 => exact (perm_mid ih1 ih2).trans hp
theorem Kt.size_pts : ∀ t : Kt, t.size = t.pts.length
  | .nil => rfl
  | .blank => rfl
  | .node p L R => by simp only [Kt.size, Kt.pts, Kt.size_pts L, Kt.size_pts R, List.length_append, List.length_cons]; omega
theorem Kt.depth_size : ∀ t : Kt, t.depth ≤ t.size
  | .nil => Nat.le_refl _
  | .blank => Nat.le_refl _
  | .node p L R => by have h1 := Kt.depth_size L; have h2 := Kt.depth_size R; simp only [Kt.depth, Kt.size]; omega
theorem Kt.ok_of : ∀ t : Kt, (∀ p ∈ t.pts, p.x < 4294967296 ∧ p.y < 4294967296) → t.ok
  | .nil, _ => trivial
  | .blank, _ => trivial
  | .node p L R, h => ⟨h p (by simp [Kt.pts]), Kt.ok_of L fun q hq => h q (by simp [Kt.pts, hq]), Kt.ok_of R fun q hq => h q (by simp [Kt.pts, hq])⟩

theorem cmpK_le {d : Nat} {a p : Pnt} (h : ¬ cmpK d p a < 0) : partP a d ≤ partP p d := by rw [cmpK_neg] at h; omega

theorem has_lo {r : Rct} {p : Pnt} (d : Nat) (h : hasR r p.x p.y = true) : partXY r.x0 r.y0 d ≤ partP p d ∧ partP p d ≤ partXY r.x1 r.y1 d := by
  simp only [hasR, decide_eq_true_eq] at h
  unfold partXY partP
  split <;> omega

theorem Halved.gather {r : Rct} {d : Nat} {l : List Pnt} {t : Kt} (h : Halved d l t) : (t.gather r d).Perm (l.filter fun p => hasR r p.x p.y) := by
  induction h with
  | nil d => exact .refl _
  | node d l s1 s2 p L R hp h1 h2 hl hr ih1 ih2 =>
    refine List.Perm.trans ?_ (hp.filter _)
    rw [List.filter_append, List.filter_cons]
    have e1 : (if partXY r.x0 r.y0 d ≤ partP p d then L.gather r (d + 1) else []).Perm (s1.filter fun p => hasR r p.x p.y) := by
      by_cases c : partXY r.x0 r.y0 d ≤ partP p d
      · rw [if_pos c]; exact ih1
      · rw [if_neg c]
        have : s1.filter (fun p => hasR r p.x p.y) = [] := by
          rw [List.filter_eq_nil_iff]
          intro a ha hh
          have h5 := has_lo d hh
          have h6 := cmpK_le (h1 a ha)
          omega
        rw [this]
    have e2 : (if partP p d ≤ partXY r.x1 r.y1 d then R.gather r (d + 1) else []).Perm (s2.filter fun p => hasR r p.x p.y) := by
      by_cases c : partP p d ≤ partXY r.x1 r.y1 d
      · rw [if_pos c]; exact ih2
      · rw [if_neg c]
        have : s2.filter (fun p => hasR r p.x p.y) = [] := by
          rw [List.filter_eq_nil_iff]
          intro a ha hh
          have h5 := has_lo d hh
          have h6 := cmpK_le (h2 a ha)
          omega
        rw [this]
    show (((if hasR r p.x p.y then [p] else []) ++ (if partXY r.x0 r.y0 d ≤ partP p d then L.gather r (d + 1) else [])) ++ (if partP p d ≤ partXY r.x1 r.y1 d then R.gather r (d + 1) else [])).Perm _
    by_cases hh : hasR r p.x p.y = true
    · rw [if_pos hh, if_pos hh]
      refine (List.Perm.append (List.Perm.append_left _ e1) e2).trans ?_
      have h7 : ([p] ++ s1.filter (fun p => hasR r p.x p.y)).Perm (s1.filter (fun p => hasR r p.x p.y) ++ [p]) := List.perm_append_comm
      have := h7.append_right (s2.filter fun p => hasR r p.x p.y)
      simpa using this
    · rw [if_neg hh, if_neg hh]
      simpa using e1.append e2

/-- the points in a window: those of the list -/
theorem range_law {r : Rct} {l : List Pnt} {t : Kt} (h : Halved 0 (compP (sortP l)) t) : sortP (t.gather r 0) = (sortP (firsts l)).filter fun p => hasR r p.x p.y := by
  have hg := h.gather (r := r)
  rw [comp_firsts] at hg
  have ho : Once ((sortP (firsts l)).filter fun p => hasR r p.x p.y) := ((firsts_once l).perm (sortP_perm _).symm).filter _
  exact (sortP_of (List.Pairwise.sublist List.filter_sublist (sortP_sorted _)) (ho.stab hg)).symm

/-! ### the nearest ones -/
theorem cmpD_of (a b : Nat) : cmpD (Dist.of a) (Dist.of b) < 0 ↔ a < b := by
  rw [cmpD_neg]; simp only [Dist.of, two64]; omega
theorem cmpI_pos (a b : Int) : 0 < cmpI a b ↔ b < a := by unfold cmpI; split <;> (try split) <;> omega
theorem cmpD_pos (a b : Dist) : 0 < cmpD a b ↔ cmpD b a < 0 := by
  rw [cmpD_neg]
  unfold cmpD
  simp only [orI]
  by_cases h : cmpI a.hi b.hi = 0
  · rw [if_pos h]; rw [cmpI_zero] at h
    by_cases h2 : cmpI a.lo b.lo = 0
    · rw [if_pos h2]; rw [cmpI_zero] at h2; omega
    · rw [if_neg h2, cmpI_pos]; omega
  · rw [if_neg h, cmpI_pos]; rw [cmpI_zero] at h; omega

/-- the k best -/
def Best (x y k : Nat) (S : List Pnt) (l : List Fnd) : Prop := ∃ rest, (S.map (fnd x y)).Perm (l ++ rest) ∧ SortedF l ∧ (∀ a ∈ l, ∀ b ∈ rest, ¬ cmpF b a < 0) ∧ (rest = [] ∨ l.length = k) ∧ l.length ≤ k
theorem Best.perm {x y k : Nat} {S S' : List Pnt} {l : List Fnd} (h : Best x y k S l) (hp : S'.Perm S) : Best x y k S' l := by
  obtain ⟨rest, h1, h2⟩ := h
  exact ⟨rest, (hp.map _).trans h1, h2⟩
theorem cmpF_le_trans {a b c : Fnd} (h : ¬ cmpF b a < 0) (k : ¬ cmpF c b < 0) : ¬ cmpF c a < 0 := by
  simp only [cmpF_neg, cmpD_neg, cmpD_zero] at *; omega
theorem ins_sorted' {c : Fnd} {l : List Fnd} {i : Nat} (hs : SortedF l) (h1 : ∀ y ∈ l.take i, cmpF y c < 0) (h2 : ∀ y ∈ l.drop i, 0 ≤ cmpF y c) : SortedF (l.take i ++ c :: l.drop i) := by
  unfold SortedF at *
  have e : l = l.take i ++ l.drop i := by simp
  rw [e, List.pairwise_append] at hs
  rw [List.pairwise_append, List.pairwise_cons]
  refine ⟨hs.1, ⟨fun b hb => by have := h2 b hb; omega, hs.2.1⟩, fun a ha b hb => ?_⟩
  rcases List.mem_cons.1 hb with rfl | hb
  · have h := h1 a ha
    simp only [cmpF_neg, cmpD_neg, cmpD_zero] at *; omega
  · exact hs.2.2 a ha b hb
theorem Best.add {x y k : Nat} {S : List Pnt} {p : Pnt} {l l' : List Fnd} (h : Best x y k S l) (ha : AddR k (fnd x y p) l l') : Best x y k (p :: S) l' := by
  obtain ⟨rest, h1, h2, h3, h4, h5⟩ := h
  obtain ⟨i, hi, g1, g2, rfl⟩ := ha
  have hs := ins_sorted' h2 g1 g2
  have hlen : (l.take i ++ fnd x y p :: l.drop i).length = l.length + 1 := by simp; omega
  have hperm : (l.take i ++ fnd x y p :: l.drop i).Perm (fnd x y p :: l) := by
    have : (l.take i ++ fnd x y p :: l.drop i).Perm (fnd x y p :: (l.take i ++ l.drop i)) := List.perm_middle
    rwa [List.take_append_drop] at this
  obtain ⟨L, hL⟩ : ∃ L, L = l.take i ++ fnd x y p :: l.drop i := ⟨_, rfl⟩
  rw [← hL] at hs hlen hperm ⊢
  have e : L.take k ++ (L.drop k ++ rest) = L ++ rest := by rw [← List.append_assoc, List.take_append_drop]
  refine ⟨L.drop k ++ rest, ?_, List.Pairwise.sublist (List.take_sublist _ _) hs, ?_, ?_, by simp; omega⟩
  · rw [e]
    refine List.Perm.trans ?_ (hperm.symm.append_right rest)
    exact h1.cons (fnd x y p)
  · intro a ha b hb
    rcases List.mem_append.1 hb with hb | hb
    · have e2 : L = L.take k ++ L.drop k := by simp
      unfold SortedF at hs
      rw [e2, List.pairwise_append] at hs
      exact hs.2.2 a ha b hb
    · have hal : a ∈ L := List.mem_of_mem_take ha
      rcases List.mem_cons.1 (hperm.mem_iff.1 hal) with rfl | hal
      · -- the new one itself is kept: something of l stands behind it
        rcases h4 with h4 | h4
        · rw [h4] at hb; simp at hb
        · by_cases hik : i < l.length
          · have hm : l[i] ∈ l.drop i := by rw [List.drop_eq_getElem_cons hik]; exact List.mem_cons_self
            have g3 := g2 _ hm
            exact cmpF_le_trans (b := l[i]) (by omega) (h3 _ (List.getElem_mem hik) b hb)
          · have hil : i = l.length := by omega
            have : L.take k = l := by
              rw [hL, hil, List.take_of_length_le (Nat.le_refl _), ← h4, List.take_left]
            rw [this] at ha
            exact h3 _ ha b hb
      · exact h3 a hal b hb
  · rcases h4 with h4 | h4
    · by_cases hk : l.length < k
      · left; rw [h4, List.drop_eq_nil_of_le (by omega)]; rfl
      · right; simp; omega
    · right; simp; omega
theorem Best.more {x y k : Nat} {S T : List Pnt} {l : List Fnd} (h : Best x y k S l) (hk : l.length = k) (hT : ∀ b ∈ T, ∀ a ∈ l, ¬ cmpF (fnd x y b) a < 0) : Best x y k (T ++ S) l := by
  obtain ⟨rest, h1, h2, h3, h4, h5⟩ := h
  refine ⟨T.map (fnd x y) ++ rest, ?_, h2, fun a ha b hb => ?_, .inr hk, h5⟩
  · rw [List.map_append]
    refine (List.Perm.append_left _ h1).trans ?_
    rw [← List.append_assoc, ← List.append_assoc]
    exact List.Perm.append_right _ List.perm_append_comm
  · rcases List.mem_append.1 hb with hb | hb
    · obtain ⟨c, hc, rfl⟩ := List.mem_map.1 hb
      exact hT c hc a ha
    · exact h3 a ha b hb

theorem sq_le {a b : Nat} (h : a ≤ b) : a * a ≤ b * b := Nat.mul_le_mul h h
/-- what lies behind a line is no nearer than the line -/
theorem line_le {x y d : Nat} {p b : Pnt} (h : (partXY x y d ≤ partP p d ∧ partP p d ≤ partP b d) ∨ (partP p d ≤ partXY x y d ∧ partP b d ≤ partP p d)) : lineD x y p d ≤ distN x y b.x b.y := by
  unfold lineD distN partXY partP at *
  have g0 : gapN 0 0 = 0 := rfl
  split
  · rename_i hd
    simp only [hd, if_true] at h
    have : gapN y p.y ≤ gapN y b.y := by unfold gapN; omega
    have := sq_le this
    simp only [g0]; omega
  · rename_i hd
    simp only [hd, if_false] at h
    have : gapN x p.x ≤ gapN x b.x := by unfold gapN; omega
    have := sq_le this
    simp only [g0]; omega

theorem sorted_last {l : List Fnd} (hs : SortedF l) (h : 0 < l.length) : ∀ a ∈ l, ¬ cmpF (l[l.length - 1]'(by omega)) a < 0 := fun a ha => by
  obtain ⟨i, hi, rfl⟩ := List.getElem_of_mem ha
  by_cases e : i = l.length - 1
  · have : l[i] = l[l.length - 1]'(by omega) := by congr 1
    rw [this]; simp only [cmpF_neg, cmpD_neg, cmpD_zero]; omega
  · unfold SortedF at hs
    rw [List.pairwise_iff_getElem] at hs
    exact hs i (l.length - 1) hi (by omega) (by omega)
theorem fnd_d (x y : Nat) (b : Pnt) : (fnd x y b).d = Dist.of (distN x y b.x b.y) := rfl

theorem vis_best {x y k : Nat} {t : Kt} {d : Nat} {l l' : List Fnd} (hv : Vis x y k t d l l') : ∀ {s S : List Pnt}, Halved d s t → Best x y k S l → Best x y k (s ++ S) l' := by
  induction hv with
  | none t d l ht =>
    intro s S hh hb
    cases hh with
    | nil => simpa using hb
    | node => simp [Kt.is] at ht
  | all p L R A B d l l1 l2 l3 hab ha hv1 hv2 ih1 ih2 =>
    intro s S hh hb
    cases hh with
    | node _ _ s1 s2 _ _ _ hp h1 h2 hl hr =>
      have hb1 := hb.add ha
      by_cases c : partP p d < partXY x y d
      · rw [if_pos c] at hab
        obtain ⟨rfl, rfl⟩ := Prod.mk.inj hab
        have hb3 := ih2 hl (ih1 hr hb1)
        refine hb3.perm ?_
        refine (hp.symm.append_right S).trans ?_
        rw [List.append_assoc]
        refine List.Perm.append_left _ ?_
        exact List.perm_middle.symm
      · rw [if_neg c] at hab
        obtain ⟨rfl, rfl⟩ := Prod.mk.inj hab
        have hb3 := ih2 hr (ih1 hl hb1)
        refine hb3.perm ?_
        refine (hp.symm.append_right S).trans ?_
        have : (s1 ++ p :: s2).Perm (s2 ++ (s1 ++ [p])) := by
          have h5 : ((s1 ++ [p]) ++ s2).Perm (s2 ++ (s1 ++ [p])) := List.perm_append_comm
          simpa using h5
        have h6 := this.append_right S
        simpa using h6
  | cut p L R A B d l l1 l2 hab ha hv1 hcut ih1 =>
    intro s S hh hb
    cases hh with
    | node _ _ s1 s2 _ _ _ hp h1 h2 hl hr =>
      have hb1 := hb.add ha
      obtain ⟨h0, hk, hfar⟩ := hcut
      have far : ∀ {S2 : List Pnt}, Best x y k S2 l2 → ∀ b : Pnt, ((partXY x y d ≤ partP p d ∧ partP p d ≤ partP b d) ∨ (partP p d ≤ partXY x y d ∧ partP b d ≤ partP p d)) → ∀ a ∈ l2, ¬ cmpF (fnd x y b) a < 0 := by
        intro S2 hb2 b hb a ha2
        obtain ⟨_, _, hs, _⟩ := hb2
        have g1 := sorted_last hs h0 a ha2
        have g2 := line_le hb
        rw [cmpD_pos] at hfar
        obtain ⟨c, hc⟩ : ∃ c, c = l2[l2.length - 1] := ⟨_, rfl⟩
        rw [← hc] at g1 hfar
        have g3 : cmpD c.d (fnd x y b).d < 0 := by
          rw [fnd_d]
          have g4 : ¬ cmpD (Dist.of (distN x y b.x b.y)) (Dist.of (lineD x y p d)) < 0 := by rw [cmpD_of]; omega
          simp only [cmpD_neg] at *; omega
        simp only [cmpF_neg, cmpD_neg, cmpD_zero] at *; omega
      by_cases c : partP p d < partXY x y d
      · rw [if_pos c] at hab
        obtain ⟨rfl, rfl⟩ := Prod.mk.inj hab
        have hb2 := ih1 hr hb1
        have hb3 := hb2.more (T := s1) hk fun b hb a ha2 => far hb2 b (.inr ⟨by omega, cmpK_le (h1 b hb)⟩) a ha2
        refine hb3.perm ?_
        refine (hp.symm.append_right S).trans ?_
        rw [List.append_assoc]
        refine List.Perm.append_left _ ?_
        exact List.perm_middle.symm
      · rw [if_neg c] at hab
        obtain ⟨rfl, rfl⟩ := Prod.mk.inj hab
        have hb2 := ih1 hl hb1
        have hb3 := hb2.more (T := s2) hk fun b hb a ha2 => far hb2 b (.inl ⟨by omega, cmpK_le (h2 b hb)⟩) a ha2
        refine hb3.perm ?_
        refine (hp.symm.append_right S).trans ?_
        have : (s1 ++ p :: s2).Perm (s2 ++ (s1 ++ [p])) := by
          have h5 : ((s1 ++ [p]) ++ s2).Perm (s2 ++ (s1 ++ [p])) := List.perm_append_comm
          simpa using h5
        have h6 := this.append_right S
        simpa using h6

def leF (a b : Fnd) : Bool := !decide (cmpF b a < 0)
theorem leF_iff (a b : Fnd) : leF a b = true ↔ ¬ cmpF b a < 0 := by simp [leF]
theorem leF_sorted (l : List Fnd) : SortedF (l.mergeSort leF) := by
  have h := List.pairwise_mergeSort (le := leF) (fun a b c h1 h2 => by rw [leF_iff] at *; exact cmpF_le_trans h1 h2)
    (fun a b => by
      rw [Bool.or_eq_true, leF_iff, leF_iff]
      simp only [cmpF_neg, cmpD_neg, cmpD_zero]; omega) l
  unfold SortedF
  exact h.imp fun h => (leF_iff _ _).1 h

theorem best_unique {x y k : Nat} {S o : List Pnt} {l : List Fnd} (hon : Once S) (hb : Best x y k S l) (ho : o.Perm S) (hs : SortedF (o.map (fnd x y))) : l = (o.map (fnd x y)).take k := by
  obtain ⟨rest, h1, h2, h3, h4, h5⟩ := hb
  have hsr : SortedF (l ++ rest.mergeSort leF) := by
    unfold SortedF at *
    rw [List.pairwise_append]
    refine ⟨h2, leF_sorted rest, fun a ha b hb => h3 a ha b ((List.mergeSort_perm rest leF).mem_iff.1 hb)⟩
  have hp : (o.map (fnd x y)).Perm (l ++ rest.mergeSort leF) := ((ho.map _).trans h1).trans (List.Perm.append_left _ (List.mergeSort_perm rest leF).symm)
  have he : o.map (fnd x y) = l ++ rest.mergeSort leF := by
    refine List.Perm.eq_of_pairwise (fun a b ha hb hab hba => ?_) hs hsr hp
    obtain ⟨p, hpo, rfl⟩ := List.mem_map.1 ha
    obtain ⟨q, hqo, rfl⟩ := List.mem_map.1 (hp.mem_iff.2 hb)
    have hid : p.id = q.id := by
      simp only [cmpF_neg, cmpD_neg, cmpD_zero] at hab hba
      have e1 : (fnd x y p).p.id = p.id := rfl
      have e2 : (fnd x y q).p.id = q.id := rfl
      omega
    have hO := hon.perm ho.symm
    rw [hO.inj hpo hqo hid]
  rw [he]
  rcases h4 with h4 | h4
  · subst h4
    simp only [List.mergeSort_nil, List.append_nil]
    rw [List.take_of_length_le h5]
  · rw [← h4, List.take_left]

/-- the nearest ones: those of the list -/
theorem near_law {x y kk : Nat} {l : List Pnt} {t : Kt} {l' : List Fnd} {o : List Pnt} (h : Halved 0 (compP (sortP l)) t) (hn : NearL x y kk t l') (ho : o.Perm (sortP (firsts l))) (hs : SortedF (o.map (fnd x y))) : l'.map Fnd.p = o.take kk := by
  rcases hn with ⟨rfl, rfl⟩ | ⟨hk, hv, _, _⟩
  · simp
  · have hb := vis_best hv h (S := []) ⟨[], by simp, List.Pairwise.nil, by simp, .inl rfl, by simp⟩
    rw [List.append_nil, comp_firsts] at hb
    have hu := best_unique ((firsts_once l).perm (sortP_perm _).symm) hb ho hs
    rw [hu, ← List.map_take, List.map_map]
    have : (Fnd.p ∘ fnd x y) = id := rfl
    rw [this, List.map_id]
end Go.Proofs

namespace Go.Proofs
open Go.Croft Go.RowKit

theorem u64_keep (z : Int) (h : 0 ≤ z) (k : z < 18446744073709551616) : IntKind.u64.wrap z = z := by
  simp only [IntKind.wrap, IntKind.bits, IntKind.signed]; simp; omega
theorem u64_over (z : Int) (h : 18446744073709551616 ≤ z) (k : z < 36893488147419103232) : IntKind.u64.wrap z = z - 18446744073709551616 := by
  simp only [IntKind.wrap, IntKind.bits, IntKind.signed]; simp; omega
theorem u32_keep (z : Int) (h : 0 ≤ z) (k : z < 4294967296) : IntKind.u32.wrap z = z := by
  simp only [IntKind.wrap, IntKind.bits, IntKind.signed]; simp; omega

theorem refGap_p (a b : Nat) (ha : a < 4294967296) (hb : b < 4294967296) : Pure Try.prog 97 #[.int .u32 a, .int .u32 b] (.int .u64 (gapN a b)) := .of_same fun w => by
  by_cases h : b < a
  · have hg : (a : Int) - b = (gapN a b : Int) := by unfold gapN; omega
    have w1 : IntKind.u32.wrap ((a : Int) - b) = (gapN a b : Int) := by rw [hg]; exact u32_keep _ (by omega) (by have := gapN_lt ha hb; omega)
    have w2 : IntKind.u64.wrap (gapN a b : Int) = (gapN a b : Int) := u64_keep _ (by omega) (by have := gapN_lt ha hb; omega)
    have h' : (b : Int) < a := by omega
    clear hg
    go_enter Try.func97, Try.ntmps97
    go_wp2
    go_ret
    exact ⟨rfl, rfl⟩
  · have hg : (b : Int) - a = (gapN a b : Int) := by unfold gapN; omega
    have w1 : IntKind.u32.wrap ((b : Int) - a) = (gapN a b : Int) := by rw [hg]; exact u32_keep _ (by omega) (by have := gapN_lt ha hb; omega)
    have w2 : IntKind.u64.wrap (gapN a b : Int) = (gapN a b : Int) := u64_keep _ (by omega) (by have := gapN_lt ha hb; omega)
    have h' : ¬ (b : Int) < a := by omega
    clear hg
    go_enter Try.func97, Try.ntmps97
    go_wp2
    go_ret
    exact ⟨rfl, rfl⟩

theorem refLess_w (a b c d : Int) (w : World) : Calls Try.prog 63 #[.int .u64 a, .int .u64 b, .int .u64 c, .int .u64 d] w fun e w' => e = .returned (.bool (decide (cmpD ⟨a, b⟩ ⟨c, d⟩ < 0))) ∧ w' = w := by
  by_cases h1 : a < c
  · have R := Lib.hid (show decide (cmpD ⟨a, b⟩ ⟨c, d⟩ < 0) = true by simp [cmpD_neg, h1])
    have g1 : decide (a < c) = true := by simpa using h1
    go_enter Try.func63, Try.ntmps63
    go_wp2
    go_ret
    rw [R.out]; exact ⟨rfl, rfl⟩
  · have g1 : decide (a < c) = false := by simpa using h1
    by_cases h2 : a = c
    · have g2 : (a == c) = true := by simpa using h2
      by_cases h3 : b < d
      · have g3 : decide (b < d) = true := by simpa using h3
        have R := Lib.hid (show decide (cmpD ⟨a, b⟩ ⟨c, d⟩ < 0) = true by simp [cmpD_neg, h2, h3])
        clear h2
        go_enter Try.func63, Try.ntmps63
        go_wp2
        go_ret
        rw [R.out]; exact ⟨rfl, rfl⟩
      · have g3 : decide (b < d) = false := by simpa using h3
        have R := Lib.hid (show decide (cmpD ⟨a, b⟩ ⟨c, d⟩ < 0) = false by simp [cmpD_neg, h2]; omega)
        clear h2
        go_enter Try.func63, Try.ntmps63
        go_wp2
        go_ret
        rw [R.out]; exact ⟨rfl, rfl⟩
    · have g2 : (a == c) = false := by simpa using h2
      have R := Lib.hid (show decide (cmpD ⟨a, b⟩ ⟨c, d⟩ < 0) = false by simp [cmpD_neg, h2]; omega)
      clear h2
      go_enter Try.func63, Try.ntmps63
      go_wp2
      go_ret
      rw [R.out]; exact ⟨rfl, rfl⟩

set_option maxRecDepth 100000 in
theorem refBetween_p (x0 y0 x1 y1 : Nat) (h1 : x0 < 4294967296) (h2 : y0 < 4294967296) (h3 : x1 < 4294967296) (h4 : y1 < 4294967296) :
    Pure Try.prog 62 #[.int .u32 x0, .int .u32 y0, .int .u32 x1, .int .u32 y1] (.tuple #[.int .u64 (Dist.of (distN x0 y0 x1 y1)).hi, .int .u64 (Dist.of (distN x0 y0 x1 y1)).lo]) := by
  intro m w H hS
  have G1 := Lib.hid (refGap_p x0 x1 h1 h3)
  have G2 := Lib.hid (refGap_p y0 y1 h2 h4)
  have hgx := sq_lt (gapN_lt h1 h3)
  have hgy := sq_lt (gapN_lt h2 h4)
  have hD := Lib.hid (show distN x0 y0 x1 y1 = gapN x0 x1 * gapN x0 x1 + gapN y0 y1 * gapN y0 y1 from rfl)
  have mx : ((gapN x0 x1 : Int)) * (gapN x0 x1 : Int) = ((gapN x0 x1 * gapN x0 x1 : Nat) : Int) := by rw [Int.natCast_mul]
  have my : ((gapN y0 y1 : Int)) * (gapN y0 y1 : Int) = ((gapN y0 y1 * gapN y0 y1 : Nat) : Int) := by rw [Int.natCast_mul]
  generalize gapN x0 x1 * gapN x0 x1 = gx at *
  generalize gapN y0 y1 * gapN y0 y1 = gy at *
  generalize distN x0 y0 x1 y1 = dd at *
  have w1 : IntKind.u64.wrap ((gapN x0 x1 : Int) * (gapN x0 x1 : Int)) = (gx : Int) := by rw [mx]; exact u64_keep _ (by omega) (by omega)
  have w2 : IntKind.u64.wrap ((gapN y0 y1 : Int) * (gapN y0 y1 : Int)) = (gy : Int) := by rw [my]; exact u64_keep _ (by omega) (by omega)
  clear mx my
  by_cases ho : gx + gy < 18446744073709551616
  · obtain ⟨s, hs⟩ : ∃ s, s = gx + gy := ⟨_, rfl⟩
    have w3 : IntKind.u64.wrap ((gx : Int) + (gy : Int)) = (s : Int) := by
      rw [show (gx : Int) + (gy : Int) = (s : Int) by omega]; exact u64_keep _ (by omega) (by omega)
    have hlt : ¬ (s : Int) < gx := by omega
    have R1 := Lib.hid (show (Dist.of dd).hi = 0 by rw [hD.out]; simp only [Dist.of, two64]; omega)
    have R2 := Lib.hid (show (Dist.of dd).lo = (s : Int) by rw [hD.out]; simp only [Dist.of, two64]; omega)
    clear hs ho hgx hgy h1 h2 h3 h4
    go_enter Try.func62, Try.ntmps62
    go_wp2_with (first
      | ((go_at_call 97; with_reducible refine (G1.out.at hS).mono ?_); rintro e w1 ⟨rfl, S1⟩; clear hS; have hS := S1; clear S1)
      | ((go_at_call 97; with_reducible refine (G2.out.at hS).mono ?_); rintro e w1 ⟨rfl, S1⟩; clear hS; have hS := S1; clear S1))
    go_ret2
    rw [R1.out, R2.out]
    exact ⟨rfl, hS⟩
  · obtain ⟨s, hs⟩ : ∃ s, s + 18446744073709551616 = gx + gy := ⟨gx + gy - 18446744073709551616, by omega⟩
    have w3 : IntKind.u64.wrap ((gx : Int) + (gy : Int)) = (s : Int) := by
      rw [u64_over _ (by omega) (by omega)]; omega
    have hlt : (s : Int) < gx := by omega
    have R1 := Lib.hid (show (Dist.of dd).hi = 1 by rw [hD.out]; simp only [Dist.of, two64]; omega)
    have R2 := Lib.hid (show (Dist.of dd).lo = (s : Int) by rw [hD.out]; simp only [Dist.of, two64]; omega)
    clear hs ho hgx hgy h1 h2 h3 h4
    go_enter Try.func62, Try.ntmps62
    go_wp2_with (first
      | ((go_at_call 97; with_reducible refine (G1.out.at hS).mono ?_); rintro e w1 ⟨rfl, S1⟩; clear hS; have hS := S1; clear S1)
      | ((go_at_call 97; with_reducible refine (G2.out.at hS).mono ?_); rintro e w1 ⟨rfl, S1⟩; clear hS; have hS := S1; clear S1))
    go_ret2
    rw [R1.out, R2.out]
    exact ⟨rfl, hS⟩
end Go.Proofs
