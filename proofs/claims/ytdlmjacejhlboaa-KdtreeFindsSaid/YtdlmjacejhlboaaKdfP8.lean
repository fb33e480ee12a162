/- Contracts of the given program, for the proofs of its statements: NearKinds, NearBs, NearIns, NearAdd, NearFar. No conditions beyond those in each theorem. -/
import Derived.Test.YtdlmjacejhlboaaKdfP3
import Derived.Test.YtdlmjacejhlboaaKdfP4
import Derived.BigRegion
namespace Go.Croft
open Go Go.RowKit Go.Proofs
/-- kdtree.found -/
structure Fnd where
  p : Pnt
  d : Dist
deriving DecidableEq
def kFnd : Kd Fnd where
  K := 6
  ty := 115
  bytes := 48
  enc x := [.int .i64 x.p.id, .int .u32 x.p.x, .int .u32 x.p.y, .string x.p.data, .int .u64 x.d.hi, .int .u64 x.d.lo]
  len _ := rfl
  one := by intro x v h; simp at h; rcases h with rfl | rfl | rfl | rfl | rfl | rfl <;> rfl
  pos := by decide
theorem kFnd_ok : KdOk Go.Proofs.Try.prog kFnd := .of (by kernel_rfl) (by decide)
@[go_sem] def Fnd.v (r : Fnd) : Value := .agg #[.int .i64 r.p.id, .int .u32 r.p.x, .int .u32 r.p.y, .string r.p.data, .int .u64 r.d.hi, .int .u64 r.d.lo]
def cmpF (x y : Fnd) : Int := orI [cmpD x.d y.d, cmpI x.p.id y.p.id]
theorem cmpF_neg (a b : Fnd) : cmpF a b < 0 ↔ (cmpD a.d b.d < 0 ∨ (cmpD a.d b.d = 0 ∧ a.p.id < b.p.id)) := by
  unfold cmpF; rw [orI_neg, orI_neg, cmpI_neg]; simp [orI]
end Go.Croft
namespace Go.Proofs
open Go.Croft Go.RowKit

set_option maxRecDepth 100000 in
set_option maxHeartbeats 800000 in
/-- kdtree.ahead -/
theorem ahead_p (a b : Fnd) : Pure Try.prog 120 #[a.v, b.v] (.int .i64 (cmpF a b)) := by
  intro m w H hS
  unfold Fnd.v
  obtain ⟨m1, l1, b1, S1⟩ := hS.allocf (.cells #[.int .i64 a.p.id, .int .u32 a.p.x, .int .u32 a.p.y, .string a.p.data, .int .u64 a.d.hi, .int .u64 a.d.lo] 115)
  obtain ⟨m2, l2, b2, S2⟩ := S1.allocf (.cells #[.int .i64 b.p.id, .int .u32 b.p.x, .int .u32 b.p.y, .string b.p.data, .int .u64 b.d.hi, .int .u64 b.d.lo] 115)
  replace b1 := l2.blk _ _ b1
  simp only [World.size_alloc] at b2
  go_enter Try.func120, Try.ntmps120
  go_wp2_with fail
  generalize (w.alloc (.cells #[.int .i64 a.p.id, .int .u32 a.p.x, .int .u32 a.p.y, .string a.p.data, .int .u64 a.d.hi, .int .u64 a.d.lo] 115)).alloc (.cells #[.int .i64 b.p.id, .int .u32 b.p.x, .int .u32 b.p.y, .string b.p.data, .int .u64 b.d.hi, .int .u64 b.d.lo] 115) = W at *
  generalize w.heap.size = g at *
  have hold : ∀ W', St m2 W' H → St m2 W' H ∧ W'.cell? ⟨g, 0, none⟩ = some (.int .i64 a.p.id) ∧ W'.cell? ⟨g, 4, none⟩ = some (.int .u64 a.d.hi) ∧ W'.cell? ⟨g, 5, none⟩ = some (.int .u64 a.d.lo) ∧ W'.cell? ⟨g + 1, 0, none⟩ = some (.int .i64 b.p.id) ∧ W'.cell? ⟨g + 1, 4, none⟩ = some (.int .u64 b.d.hi) ∧ W'.cell? ⟨g + 1, 5, none⟩ = some (.int .u64 b.d.lo) :=
    fun W' h => ⟨h, h.cellM b1 0, h.cellM b1 4, h.cellM b1 5, h.cellM b2 0, h.cellM b2 4, h.cellM b2 5⟩
  have HOLD := Lib.hid hold
  have HL := Lib.hid (l1.trans l2)
  have PC := wideCmp_p a.d b.d
  unfold Dist.v at PC
  replace PC := Lib.hid PC
  clear b1 b2 l1 l2 S1 hS hold
  have hs0 := HOLD.out _ S2
  go_region_held3 (fun W' => St m2 W' H ∧ W'.cell? ⟨g, 0, none⟩ = some (.int .i64 a.p.id) ∧ W'.cell? ⟨g, 4, none⟩ = some (.int .u64 a.d.hi) ∧ W'.cell? ⟨g, 5, none⟩ = some (.int .u64 a.d.lo) ∧ W'.cell? ⟨g + 1, 0, none⟩ = some (.int .i64 b.p.id) ∧ W'.cell? ⟨g + 1, 4, none⟩ = some (.int .u64 b.d.hi) ∧ W'.cell? ⟨g + 1, 5, none⟩ = some (.int .u64 b.d.lo)) (exact HOLD.out _ (by first | assumption | exact And.left (by assumption) | exact St.drew (by assumption) | exact St.drewN (by assumption) _ | exact (St.alloc (by assumption) _).drop | exact (St.alloc (And.left (by assumption)) _).drop))
    (first
      | (go_at_call 106; refine (PC.out.at (m := m2) (H := H) (by exact And.left (by assumption))).mono ?_; rintro e w' ⟨rfl, hS'⟩)
      | (go_at_call 77; refine ((compare_int _ _).at (m := m2) (H := H) (by exact And.left (by assumption))).mono ?_; rintro e w' ⟨rfl, hS'⟩)
      | (go_at_call 105; refine (or_fresh m2 _ H [cmpD a.d b.d, cmpI a.p.id b.p.id] _ 2 rfl rfl (by simp [maxLen]) (by assumption)).mono ?_; rintro e w' ⟨rfl, hS'⟩))
  go_wp2
  go_ret
  exact ⟨rfl, St.weak (by first | assumption | exact And.left (by assumption)) HL.out⟩
end Go.Proofs

namespace Go.Proofs
open Go.Croft Go.RowKit

theorem fndAt {m : Mem} {w : World} {F : HP} {g off cap c : Nat} {l : List Fnd} (hS : St m w (star (SlO kFnd (some ⟨g, off, none⟩) cap l) F)) (h : c < l.length) : w.cell? ⟨g, off + c * 6, none⟩ = some (.int .i64 (l[c]).p.id) ∧ w.cell? ⟨g, off + c * 6 + 1, none⟩ = some (.int .u32 (l[c]).p.x) ∧ w.cell? ⟨g, off + c * 6 + 2, none⟩ = some (.int .u32 (l[c]).p.y) ∧ w.cell? ⟨g, off + c * 6 + 3, none⟩ = some (.string (l[c]).p.data) ∧ w.cell? ⟨g, off + c * 6 + 4, none⟩ = some (.int .u64 (l[c]).d.hi) ∧ w.cell? ⟨g, off + c * 6 + 5, none⟩ = some (.int .u64 (l[c]).d.lo) := by
  obtain ⟨b, off', e, hc, _⟩ := SlO.at hS h
  cases e
  have c0 := hc 0 _ rfl
  have c1 := hc 1 _ rfl
  have c2 := hc 2 _ rfl
  have c3 := hc 3 _ rfl
  have c4 := hc 4 _ rfl
  have c5 := hc 5 _ rfl
  simp only [kFnd, Nat.add_zero] at c0 c1 c2 c3 c4 c5
  exact ⟨c0, c1, c2, c3, c4, c5⟩

def BsPost (m : Mem) (F : HP) (A : Option Addr) (cap : Nat) (l : List Fnd) (x : Fnd) (e : Ending) (w' : World) : Prop := ∃ (i : Nat) (b : Bool), e = .returned (.tuple #[.int .i64 i, .bool b]) ∧ i ≤ l.length ∧ (∀ y ∈ l.take i, cmpF y x < 0) ∧ (∀ y ∈ l.drop i, 0 ≤ cmpF y x) ∧ St m w' (star (SlO kFnd A cap l) F)

set_option maxRecDepth 100000 in
set_option maxHeartbeats 1600000 in
theorem fndSearch_c (m : Mem) (w : World) (F : HP) (A : Option Addr) (cap len : Nat) (l : List Fnd) (x : Fnd) (hlen : len = l.length) (h9 : len ≤ 1000000) (hmon : ∀ i j (hij : i < j) (hj : j < l.length), cmpF l[j] x < 0 → cmpF (l[i]'(by omega)) x < 0) (hS : St m w (star (SlO kFnd A cap l) F)) :
    Calls Try.prog 119 #[.slice A len cap, x.v, .func (.func 120) #[] #[]] w (BsPost m F A cap l x) := by
  have hll := Lib.hid hlen.symm
  have MON := Lib.hid hmon
  clear hlen hmon
  obtain ⟨m1, l1, b1, S1⟩ := hS.allocf (.cells #[.int .i64 x.p.id, .int .u32 x.p.x, .int .u32 x.p.y, .string x.p.data, .int .u64 x.d.hi, .int .u64 x.d.lo] 115)
  have HL := Lib.hid l1
  have PA := fun a => ahead_p a x
  unfold Fnd.v at PA ⊢
  replace PA := Lib.hid PA
  clear l1
  go_enter Try.func119, Try.ntmps119
  go_wp2_with fail
  generalize w.alloc (.cells #[.int .i64 x.p.id, .int .u32 x.p.x, .int .u32 x.p.y, .string x.p.data, .int .u64 x.d.hi, .int .u64 x.d.lo] 115) = W at *
  generalize w.heap.size = g2 at *
  have HX := Lib.hid b1
  clear b1 hS
  go_loopg [9, 10] len (fun gr q t wr => ∃ i j : Nat, q = .int .i64 i ∧ t = .int .i64 j ∧ i ≤ j ∧ j ≤ len ∧ j - i ≤ gr ∧ Hid (∀ c (hc : c < l.length), c < i → cmpF l[c] x < 0) ∧ Hid (∀ c (hc : c < l.length), j ≤ c → 0 ≤ cmpF l[c] x) ∧ St m1 wr (star (SlO kFnd A cap l) F))
  case atStart => exact ⟨0, len, by go_num, rfl, by omega, Nat.le_refl _, by omega, Lib.hid (by intros; omega), Lib.hid (by intro c hc h; have := hll.out; omega), S1⟩
  case round =>
    obtain ⟨i, j, rfl, rfl, h2, h3, hg, hlo, hhi, hSr⟩ := hrel
    clear S1
    by_cases hlt : i < j
    · have hlt' : (i : Int) < j := by omega
      have w2 : IntKind.i64.wrap ((i : Int) + j) = (i : Int) + j := i64_keep _ (by omega) (by omega)
      have hmid2 : ((i : Int) + j) / 2 = ((i + j) / 2 : Nat) := by omega
      obtain ⟨h, hh⟩ : ∃ h, h = (i + j) / 2 := ⟨_, rfl⟩
      have hh1 : i ≤ h ∧ h < j := by omega
      rw [← hh] at hmid2
      clear hh
      have hhl : h < l.length := by have := hll.out; omega
      obtain ⟨g, off, rfl⟩ : ∃ g off, A = some ⟨g, off, none⟩ := by obtain ⟨g, off, e, _⟩ := SlO.at hSr hhl; exact ⟨g, off, e⟩
      have HOLD := Lib.hid fun (W : World) (hW : St m1 W (star (SlO kFnd (some ⟨g, off, none⟩) cap l) F)) => (⟨hW, fndAt hW hhl, hW.cellM HX.out 0, hW.cellM HX.out 1, hW.cellM HX.out 2, hW.cellM HX.out 3, hW.cellM HX.out 4, hW.cellM HX.out 5⟩ : St m1 W (star (SlO kFnd (some ⟨g, off, none⟩) cap l) F) ∧ (W.cell? ⟨g, off + h * 6, none⟩ = some (.int .i64 (l[h]).p.id) ∧ W.cell? ⟨g, off + h * 6 + 1, none⟩ = some (.int .u32 (l[h]).p.x) ∧ W.cell? ⟨g, off + h * 6 + 2, none⟩ = some (.int .u32 (l[h]).p.y) ∧ W.cell? ⟨g, off + h * 6 + 3, none⟩ = some (.string (l[h]).p.data) ∧ W.cell? ⟨g, off + h * 6 + 4, none⟩ = some (.int .u64 (l[h]).d.hi) ∧ W.cell? ⟨g, off + h * 6 + 5, none⟩ = some (.int .u64 (l[h]).d.lo)) ∧ W.cell? ⟨g2, 0, none⟩ = some (.int .i64 (x).p.id) ∧ W.cell? ⟨g2, 0 + 1, none⟩ = some (.int .u32 (x).p.x) ∧ W.cell? ⟨g2, 0 + 2, none⟩ = some (.int .u32 (x).p.y) ∧ W.cell? ⟨g2, 0 + 3, none⟩ = some (.string (x).p.data) ∧ W.cell? ⟨g2, 0 + 4, none⟩ = some (.int .u64 (x).d.hi) ∧ W.cell? ⟨g2, 0 + 5, none⟩ = some (.int .u64 (x).d.lo))
      have hs0 := HOLD.out _ hSr
      have b1 : (0 : Int) ≤ h := by omega
      have b2 : (h : Int) < len := by omega
      have w3 : IntKind.i64.wrap ((h : Int) + 1) = (h : Int) + 1 := i64_keep _ (by omega) (by omega)
      by_cases hc : cmpF l[h] x < 0
      · have HC := Lib.hid hc
        go_wp2_with fail
        go_region_held3 (fun W => St m1 W (star (SlO kFnd (some ⟨g, off, none⟩) cap l) F) ∧ (W.cell? ⟨g, off + h * 6, none⟩ = some (.int .i64 (l[h]).p.id) ∧ W.cell? ⟨g, off + h * 6 + 1, none⟩ = some (.int .u32 (l[h]).p.x) ∧ W.cell? ⟨g, off + h * 6 + 2, none⟩ = some (.int .u32 (l[h]).p.y) ∧ W.cell? ⟨g, off + h * 6 + 3, none⟩ = some (.string (l[h]).p.data) ∧ W.cell? ⟨g, off + h * 6 + 4, none⟩ = some (.int .u64 (l[h]).d.hi) ∧ W.cell? ⟨g, off + h * 6 + 5, none⟩ = some (.int .u64 (l[h]).d.lo)) ∧ W.cell? ⟨g2, 0, none⟩ = some (.int .i64 (x).p.id) ∧ W.cell? ⟨g2, 0 + 1, none⟩ = some (.int .u32 (x).p.x) ∧ W.cell? ⟨g2, 0 + 2, none⟩ = some (.int .u32 (x).p.y) ∧ W.cell? ⟨g2, 0 + 3, none⟩ = some (.string (x).p.data) ∧ W.cell? ⟨g2, 0 + 4, none⟩ = some (.int .u64 (x).d.hi) ∧ W.cell? ⟨g2, 0 + 5, none⟩ = some (.int .u64 (x).d.lo)) (exact HOLD.out _ (by first | assumption | exact And.left (by assumption) | exact St.drew (by assumption) | exact St.drewN (by assumption) _ | exact (St.alloc (by assumption) _).drop | exact (St.alloc (And.left (by assumption)) _).drop))
          (first | ((go_at_call 120; with_reducible refine ((PA.out l[h]).at (m := m1) (by exact And.left (by assumption))).mono ?_); rintro e w' ⟨rfl, hS'⟩))
        go_wp2
        go_roundg (j - (h + 1))
        case measure => omega
        case rel => exact ⟨h + 1, j, by go_num, rfl, by omega, h3, Nat.le_refl _, Lib.hid (fun c hcl hch => by
            by_cases e : c = h
            · subst e; exact HC.out
            · exact MON.out c h (by omega) hhl HC.out), hhi, hS'⟩
      · have HC := Lib.hid hc
        go_wp2_with fail
        go_region_held3 (fun W => St m1 W (star (SlO kFnd (some ⟨g, off, none⟩) cap l) F) ∧ (W.cell? ⟨g, off + h * 6, none⟩ = some (.int .i64 (l[h]).p.id) ∧ W.cell? ⟨g, off + h * 6 + 1, none⟩ = some (.int .u32 (l[h]).p.x) ∧ W.cell? ⟨g, off + h * 6 + 2, none⟩ = some (.int .u32 (l[h]).p.y) ∧ W.cell? ⟨g, off + h * 6 + 3, none⟩ = some (.string (l[h]).p.data) ∧ W.cell? ⟨g, off + h * 6 + 4, none⟩ = some (.int .u64 (l[h]).d.hi) ∧ W.cell? ⟨g, off + h * 6 + 5, none⟩ = some (.int .u64 (l[h]).d.lo)) ∧ W.cell? ⟨g2, 0, none⟩ = some (.int .i64 (x).p.id) ∧ W.cell? ⟨g2, 0 + 1, none⟩ = some (.int .u32 (x).p.x) ∧ W.cell? ⟨g2, 0 + 2, none⟩ = some (.int .u32 (x).p.y) ∧ W.cell? ⟨g2, 0 + 3, none⟩ = some (.string (x).p.data) ∧ W.cell? ⟨g2, 0 + 4, none⟩ = some (.int .u64 (x).d.hi) ∧ W.cell? ⟨g2, 0 + 5, none⟩ = some (.int .u64 (x).d.lo)) (exact HOLD.out _ (by first | assumption | exact And.left (by assumption) | exact St.drew (by assumption) | exact St.drewN (by assumption) _ | exact (St.alloc (by assumption) _).drop | exact (St.alloc (And.left (by assumption)) _).drop))
          (first | ((go_at_call 120; with_reducible refine ((PA.out l[h]).at (m := m1) (by exact And.left (by assumption))).mono ?_); rintro e w' ⟨rfl, hS'⟩))
        go_wp2
        go_roundg (h - i)
        case measure => omega
        case rel => exact ⟨i, h, rfl, rfl, by omega, by omega, Nat.le_refl _, hlo, Lib.hid (fun c hcl hch => by
            have hq := HC.out
            by_cases e : c = h
            · subst e; omega
            · have hm := MON.out h c (by omega) hcl
              omega), hS'⟩
    · obtain rfl : i = j := by omega
      have HFIN : Hid (i ≤ l.length ∧ (∀ y ∈ l.take i, cmpF y x < 0) ∧ (∀ y ∈ l.drop i, 0 ≤ cmpF y x)) := by
        refine Lib.hid ⟨by have := hll.out; omega, fun y hy => ?_, fun y hy => ?_⟩
        · obtain ⟨c, hc, rfl⟩ := List.getElem_of_mem hy
          simp at hc
          rw [List.getElem_take]; exact hlo.out c (by omega) (by omega)
        · obtain ⟨c, hc, rfl⟩ := List.getElem_of_mem hy
          simp at hc
          rw [List.getElem_drop]; exact hhi.out _ (by omega) (by omega)
      clear hlo hhi
      by_cases hn : i < len
      · have hn' : decide ((i : Int) < len) = true := by simpa using hn
        have hhl : i < l.length := by have := hll.out; omega
        obtain ⟨g, off, rfl⟩ : ∃ g off, A = some ⟨g, off, none⟩ := by obtain ⟨g, off, e, _⟩ := SlO.at hSr hhl; exact ⟨g, off, e⟩
        have HOLD := Lib.hid fun (W : World) (hW : St m1 W (star (SlO kFnd (some ⟨g, off, none⟩) cap l) F)) => (⟨hW, fndAt hW hhl, hW.cellM HX.out 0, hW.cellM HX.out 1, hW.cellM HX.out 2, hW.cellM HX.out 3, hW.cellM HX.out 4, hW.cellM HX.out 5⟩ : St m1 W (star (SlO kFnd (some ⟨g, off, none⟩) cap l) F) ∧ (W.cell? ⟨g, off + i * 6, none⟩ = some (.int .i64 (l[i]).p.id) ∧ W.cell? ⟨g, off + i * 6 + 1, none⟩ = some (.int .u32 (l[i]).p.x) ∧ W.cell? ⟨g, off + i * 6 + 2, none⟩ = some (.int .u32 (l[i]).p.y) ∧ W.cell? ⟨g, off + i * 6 + 3, none⟩ = some (.string (l[i]).p.data) ∧ W.cell? ⟨g, off + i * 6 + 4, none⟩ = some (.int .u64 (l[i]).d.hi) ∧ W.cell? ⟨g, off + i * 6 + 5, none⟩ = some (.int .u64 (l[i]).d.lo)) ∧ W.cell? ⟨g2, 0, none⟩ = some (.int .i64 (x).p.id) ∧ W.cell? ⟨g2, 0 + 1, none⟩ = some (.int .u32 (x).p.x) ∧ W.cell? ⟨g2, 0 + 2, none⟩ = some (.int .u32 (x).p.y) ∧ W.cell? ⟨g2, 0 + 3, none⟩ = some (.string (x).p.data) ∧ W.cell? ⟨g2, 0 + 4, none⟩ = some (.int .u64 (x).d.hi) ∧ W.cell? ⟨g2, 0 + 5, none⟩ = some (.int .u64 (x).d.lo))
        have hs0 := HOLD.out _ hSr
        have b1 : (0 : Int) ≤ i := by omega
        have b2 : (i : Int) < len := by omega
        have b3 : decide (i < len) = true := by simpa using hn
        go_wp2_with fail
        go_region_held3 (fun W => St m1 W (star (SlO kFnd (some ⟨g, off, none⟩) cap l) F) ∧ (W.cell? ⟨g, off + i * 6, none⟩ = some (.int .i64 (l[i]).p.id) ∧ W.cell? ⟨g, off + i * 6 + 1, none⟩ = some (.int .u32 (l[i]).p.x) ∧ W.cell? ⟨g, off + i * 6 + 2, none⟩ = some (.int .u32 (l[i]).p.y) ∧ W.cell? ⟨g, off + i * 6 + 3, none⟩ = some (.string (l[i]).p.data) ∧ W.cell? ⟨g, off + i * 6 + 4, none⟩ = some (.int .u64 (l[i]).d.hi) ∧ W.cell? ⟨g, off + i * 6 + 5, none⟩ = some (.int .u64 (l[i]).d.lo)) ∧ W.cell? ⟨g2, 0, none⟩ = some (.int .i64 (x).p.id) ∧ W.cell? ⟨g2, 0 + 1, none⟩ = some (.int .u32 (x).p.x) ∧ W.cell? ⟨g2, 0 + 2, none⟩ = some (.int .u32 (x).p.y) ∧ W.cell? ⟨g2, 0 + 3, none⟩ = some (.string (x).p.data) ∧ W.cell? ⟨g2, 0 + 4, none⟩ = some (.int .u64 (x).d.hi) ∧ W.cell? ⟨g2, 0 + 5, none⟩ = some (.int .u64 (x).d.lo)) (exact HOLD.out _ (by first | assumption | exact And.left (by assumption) | exact St.drew (by assumption) | exact St.drewN (by assumption) _ | exact (St.alloc (by assumption) _).drop | exact (St.alloc (And.left (by assumption)) _).drop))
          (first | ((go_at_call 120; with_reducible refine ((PA.out l[i]).at (m := m1) (by exact And.left (by assumption))).mono ?_); rintro e w' ⟨rfl, hS'⟩))
        go_wp2
        go_ret2
        exact ⟨i, _, rfl, HFIN.out.1, HFIN.out.2.1, HFIN.out.2.2, hS'.weak HL.out⟩
      · have hn' : decide ((i : Int) < len) = false := by simpa using hn
        have b3 : decide (i < len) = false := by simpa using hn
        go_wp2_with fail
        go_quiet (fail)
        go_wp2
        go_ret2
        exact ⟨i, _, rfl, HFIN.out.1, HFIN.out.2.1, HFIN.out.2.2, (hSr.drewN _).weak HL.out⟩
end Go.Proofs

namespace Go.Croft
open Go Go.RowKit
variable {α : Type} {P : Program} {k : Kd α} {m : Mem} {w : World} {F : HP}
/-- x[:hi], hi being no more than the capacity -/
theorem run_slice_upto (hk : KdOk P k) (t : TypeId) (ht : P.underlying t = some (.slice k.ty)) (A : Option Addr) (n cap hi : Nat) (kd : IntKind) (z : Int) (hz : z = hi) (hhi : hi ≤ cap) (w : World) :
    (Instr.sliceAt t (.slice A n cap) none (some (.int kd z)) none).run P w = .ok (.slice (sliceAddr A cap 0 k.K) hi cap) w := by
  subst hz
  obtain ⟨⟨i, z, hi', hz', hsz, hby, hzs⟩, _⟩ := hk
  have g2 : (0 : Int) ≤ hi ∧ (hi : Int) ≤ cap := by omega
  simp [Instr.sliceAt, run_underlying ht, Instr.slice, Instr.sliceBounds, Instr.sliceBound, asIntOf, sizeOf, typeInfo, hi', sliceAddr, hsz, g2]
  all_goals (intro h; omega)
theorem SlO.ne_blk {b off cap g : Nat} {l : List α} {o : Obj} (hS : St m w (star (SlO k (some ⟨b, off, none⟩) cap l) F)) (hg : m.blk g = some o) : g ≠ b ∧ ∃ n, w.shape? b = some (k.ty, n) ∧ off + cap * k.K ≤ n := by
  rcases SlO.open hS with ⟨h1, _⟩ | ⟨b', off', cs, h1, h2, h3, h4, h5, h6⟩
  · cases h1
  · injection h1 with h1; injection h1 with e1 e2 _; subst e1 e2
    refine ⟨fun e => ?_, cs.size, by simp [World.shape?, h6.at], h3⟩
    subst e
    obtain ⟨x, hx, h1, h2, hd, hu, ha, hb⟩ := h6.own
    have := (hx g _ (by rw [hu g, ha g]; simp; rfl)).2
    rw [hg] at this; cases this
end Go.Croft
namespace Go.Proofs
open Go.Croft Go.RowKit

theorem ins_len {α : Type} (l : List α) (i : Nat) (x : α) (hi : i ≤ l.length) : (l.take i ++ x :: l.drop i).length = l.length + 1 := by simp; omega

theorem ins_mid1 {α : Type} (l : List α) (i n : Nat) (x z : α) (hi : i ≤ l.length) (hn : 0 < n) : (l.take i ++ List.replicate n z).take i ++ [x] ++ (l.take i ++ List.replicate n z).drop (i + 1) = l.take i ++ [x] ++ List.replicate (n - 1) z := by
  have hp : (l.take i).length = i := by simp; omega
  generalize l.take i = p at *
  subst hp
  rw [List.take_left, List.drop_append, List.drop_eq_nil_of_le (by omega), List.nil_append, List.drop_replicate]
  congr 2; omega
theorem ins_mid2 {α : Type} (l : List α) (i n : Nat) (x z : α) (hi : i ≤ l.length) (hn : n = l.length - i) : (l.take i ++ [x] ++ List.replicate n z).take (i + 1) ++ l.drop i ++ (l.take i ++ [x] ++ List.replicate n z).drop (i + 1 + (l.drop i).length) = l.take i ++ x :: l.drop i := by
  have hp : (l.take i ++ [x]).length = i + 1 := by simp; omega
  have e : l.take i ++ x :: l.drop i = (l.take i ++ [x]) ++ l.drop i := by simp
  have hd : (l.drop i).length = n := by simp; omega
  rw [e]
  generalize l.take i ++ [x] = p at *
  generalize l.drop i = q at *
  rw [← hp, List.take_left, List.drop_eq_nil_of_le (by simp; omega), List.append_nil]

theorem ins_sh1 {α : Type} (l : List α) (i : Nat) (hi : i ≤ l.length) : l.take (i + 1) ++ l.drop i ++ l.drop (i + 1 + (l.drop i).length) = l.take (i + 1) ++ l.drop i := by
  have : l.drop (i + 1 + (l.drop i).length) = [] := List.drop_eq_nil_of_le (by rw [List.length_drop]; omega)
  rw [this, List.append_nil]
theorem ins_sh2 {α : Type} (l : List α) (i : Nat) (x : α) (hi : i < l.length) : (l.take (i + 1) ++ l.drop i).take i ++ [x] ++ (l.take (i + 1) ++ l.drop i).drop (i + 1) = l.take i ++ x :: l.drop i := by
  have hp : (l.take (i + 1)).length = i + 1 := by simp; omega
  have h1 : (l.take (i + 1) ++ l.drop i).take i = l.take i := by rw [List.take_append_of_le_length (by omega), List.take_take, Nat.min_eq_left (by omega)]
  have h2 : (l.take (i + 1) ++ l.drop i).drop (i + 1) = l.drop i := by rw [List.drop_append, List.drop_eq_nil_of_le (by omega), hp, Nat.sub_self, List.drop_zero, List.nil_append]
  rw [h1, h2]; simp

set_option maxRecDepth 100000 in
set_option maxHeartbeats 1600000 in
theorem fndInsEnd_c (m : Mem) (w : World) (F : HP) (A : Option Addr) (cap : Nat) (l : List Fnd) (x : Fnd) (g : Nat) (h9 : l.length ≤ 1000000) (hR : SlR kFnd m (some ⟨g, 0, none⟩) 1 [x]) (hS : St m w (star (SlO kFnd A cap l) F)) :
    Calls Try.prog 121 #[.slice A l.length cap, .int .i64 l.length, .slice (some ⟨g, 0, none⟩) 1 1] w fun e w' => ∃ A' cap', e = .returned (.slice A' (l.length + 1) cap') ∧ St m w' (star (SlO kFnd A' cap' (l ++ [x])) F) := by
  have hcap := SlO.le_cap hS
  have h1 := fun w => run_slice_from (P := Try.prog) kFnd_ok 110 Try.underlying110 A l.length cap l.length (l.length : Int) rfl .i64 (Nat.le_refl _) hcap w
  have HR := Lib.hid hR
  clear hR
  go_enter Try.func121, Try.ntmps121
  go_wp2_with (refine wpl_appendR kFnd_ok rfl _ _ 110 rfl Try.underlying110 A cap l rfl hS _ _ [x] rfl HR.out (by simp [kFnd]; omega) (by simp; omega) (fun A1 cap1 w1 S1 => ?_))
  go_ret
  exact ⟨A1, cap1, rfl, S1⟩

set_option maxRecDepth 100000 in
set_option maxHeartbeats 1600000 in
theorem fndInsGrow_c (m : Mem) (w : World) (F : HP) (A : Option Addr) (cap : Nat) (l : List Fnd) (i : Nat) (x : Fnd) (g : Nat) (h9 : l.length ≤ 1000000) (hi : i < l.length) (hc : cap < l.length + 1) (hR : SlR kFnd m (some ⟨g, 0, none⟩) 1 [x]) (hS : St m w (star (SlO kFnd A cap l) F)) :
    Calls Try.prog 121 #[.slice A l.length cap, .int .i64 i, .slice (some ⟨g, 0, none⟩) 1 1] w fun e w' => ∃ A' cap', e = .returned (.slice A' (l.length + 1) cap') ∧ St m w' (star (SlO kFnd A' cap' (l.take i ++ x :: l.drop i)) F) := by
  have hcap := SlO.le_cap hS
  obtain ⟨bo, off, rfl⟩ : ∃ g off, A = some ⟨g, off, none⟩ := by obtain ⟨g, off, e, _⟩ := SlO.at hS hi; exact ⟨g, off, e⟩
  have h1 := fun w => run_slice_from (P := Try.prog) kFnd_ok 110 Try.underlying110 (some ⟨bo, off, none⟩) l.length cap i (i : Int) rfl .i64 (by omega) hcap w
  have h2 := fun w => run_slice_to (P := Try.prog) kFnd_ok 110 Try.underlying110 (some ⟨bo, off, none⟩) l.length cap i .i64 (by omega) hcap w
  rw [sliceAddr_of (by omega), if_neg (by omega)] at h1
  rw [sliceAddr_of (by omega), Nat.zero_mul, Nat.add_zero, ite_self] at h2
  obtain ⟨n2, hn2⟩ : ∃ n2, n2 + i = l.length + 1 := ⟨l.length + 1 - i, by omega⟩
  obtain ⟨b, c2, w1, hr, c3, c4, S1⟩ := run_append_make_prefix kFnd_ok 110 3 .i64 .i64 Try.underlying110 Try.underlying3 (⟨⟨0, 0, 0, ⟨#[]⟩⟩, ⟨0, 0⟩⟩ : Fnd) (by kernel_rfl) hS i n2 (by omega) (by omega) (by omega) (by simp [kFnd]; omega) (by omega)
  have e1 : i + n2 = l.length + 1 := by omega
  rw [e1] at hr c3
  have hzl : (l.take i ++ List.replicate n2 (⟨⟨0, 0, 0, ⟨#[]⟩⟩, ⟨0, 0⟩⟩ : Fnd)).length = l.length + 1 := by simp; omega
  obtain ⟨w2, hcp, S2⟩ := run_copy_sl (P := Try.prog) kFnd_ok 110 110 Try.underlying110 S1 i (l.length + 1 - i) (c2 - i) 1 1 (some ⟨b, i * kFnd.K, none⟩) (some ⟨g, 0, none⟩) [x] (by simp; omega) (fun _ => by rw [Nat.zero_add]) (fun _ => hR.cells S1 (by simp)) (by omega) (by simp; omega)
  simp only [List.length_cons, List.length_nil, Nat.zero_add, Int.natCast_one, Int.cast_ofNat_Int] at hcp
  have eL := ins_mid1 l i n2 x (⟨⟨0, 0, 0, ⟨#[]⟩⟩, ⟨0, 0⟩⟩ : Fnd) (by omega) (by omega)
  simp only [List.length_cons, List.length_nil, Nat.zero_add] at S2
  rw [eL] at S2
  have eM := ins_mid2 l i (n2 - 1) x (⟨⟨0, 0, 0, ⟨#[]⟩⟩, ⟨0, 0⟩⟩ : Fnd) (by omega) (by omega)
  have h3 := fun w => run_slice_from (P := Try.prog) kFnd_ok 110 Try.underlying110 (some ⟨b, 0, none⟩) (l.length + 1) c2 i (i : Int) rfl .i64 (by omega) c3 w
  have h4 := fun w => run_slice_from (P := Try.prog) kFnd_ok 110 Try.underlying110 (some ⟨b, 0, none⟩) (l.length + 1) c2 (i + 1) ((i : Int) + 1) (by simp) .i64 (by omega) c3 w
  rw [sliceAddr_of (by omega), if_neg (by omega)] at h3 h4
  have w2 : IntKind.i64.wrap ((l.length : Int) + 1) = (l.length : Int) + 1 := i64_keep _ (by omega) (by omega)
  have w3 : IntKind.i64.wrap ((l.length : Int) + 1 - i) = n2 := by
    rw [show (l.length : Int) + 1 - i = n2 by omega]; exact i64_keep _ (by omega) (by omega)
  have w4 : IntKind.i64.wrap ((i : Int) + 1) = (i : Int) + 1 := i64_keep _ (by omega) (by omega)
  have hne : ((i : Int) == (l.length : Int)) = false := by simp; omega
  have hgt : (cap : Int) < (l.length : Int) + 1 := by omega
  have HR := Lib.hid hR
  have HA := Lib.hid hr
  have HM := Lib.hid eM
  have HS2 := Lib.hid S2
  have hdl : (l.drop i).length = l.length - i := by simp
  have HC := Lib.hid fun W (hW : St m W (star (SlO kFnd (some ⟨b, 0, none⟩) c2 (l.take i ++ [x] ++ List.replicate (n2 - 1) ⟨⟨0, 0, 0, ⟨#[]⟩⟩, ⟨0, 0⟩⟩)) (star (SlO kFnd (some ⟨bo, off, none⟩) cap l) F))) => SlO.cells hW.swap i (l.drop i) (List.prefix_refl _) (by omega)
  have HCP := hcp
  clear hcp eL eM S1 S2 hzl
  have HN := Lib.hid (And.intro hn2 (And.intro hi (And.intro hcap (And.intro h9 c3))))
  clear hR hr hn2 e1 hS
  go_enter Try.func121, Try.ntmps121
  have hcp := HCP
  clear HCP
  go_wp2_with (at_builtin; refine Lib.wpList_append_run _ rfl _ _ _ _ rfl _ _ rfl rfl _ _ (HA.out _) ?_)
  clear hcp
  have hN := HN.out
  go_region_held3 (fun _ => True) (exact trivial)
    (first | (refine step_copy_sl kFnd_ok rfl _ _ 110 110 rfl Try.underlying110 (by first | exact HS2.out | exact HS2.out.drew | exact HS2.out.drewN _) (i + 1) (l.length - i) (c2 - (i + 1)) (l.length - i) (cap - i) _ _ (l.drop i) rfl rfl (by rw [hdl]; omega) (fun _ => by rw [Nat.zero_add]) (fun _ => ⟨_, rfl, HC.out _ (by first | exact HS2.out | exact HS2.out.drew | exact HS2.out.drewN _)⟩) (by simp; omega) (by rw [hdl]; omega) ?_; intro w4 S4))
  all_goals
    go_wp2
    go_ret
    rw [HM.out] at S4
    exact ⟨_, c2, rfl, S4.drop'⟩

set_option maxRecDepth 100000 in
set_option maxHeartbeats 1600000 in
theorem fndInsShift_c (m : Mem) (w : World) (F : HP) (A : Option Addr) (cap : Nat) (l : List Fnd) (i : Nat) (x : Fnd) (g : Nat) (h9 : l.length ≤ 1000000) (hi : i < l.length) (hc : l.length + 1 ≤ cap) (hx : m.blk g = some (.cells #[.int .i64 x.p.id, .int .u32 x.p.x, .int .u32 x.p.y, .string x.p.data, .int .u64 x.d.hi, .int .u64 x.d.lo] 115 (0, 0))) (hR : SlR kFnd m (some ⟨g, 0, none⟩) 1 [x]) (hS : St m w (star (SlO kFnd A cap l) F)) :
    Calls Try.prog 121 #[.slice A l.length cap, .int .i64 i, .slice (some ⟨g, 0, none⟩) 1 1] w fun e w' => ∃ A' cap', e = .returned (.slice A' (l.length + 1) cap') ∧ St m w' (star (SlO kFnd A' cap' (l.take i ++ x :: l.drop i)) F) := by
  obtain ⟨bo, off, rfl⟩ : ∃ g off, A = some ⟨g, off, none⟩ := by obtain ⟨g, off, e, _⟩ := SlO.at hS hi; exact ⟨g, off, e⟩
  have h1 := fun w => run_slice_from (P := Try.prog) kFnd_ok 110 Try.underlying110 (some ⟨bo, off, none⟩) l.length cap i (i : Int) rfl .i64 (by omega) (by omega) w
  have h2 := fun w => run_slice_upto (P := Try.prog) kFnd_ok 110 Try.underlying110 (some ⟨bo, off, none⟩) l.length cap (l.length + 1) .i64 ((l.length : Int) + 1) (by simp) hc w
  have h3 := fun w => run_slice_from (P := Try.prog) kFnd_ok 110 Try.underlying110 (some ⟨bo, off, none⟩) (l.length + 1) cap i (i : Int) rfl .i64 (by omega) hc w
  have h4 := fun w => run_slice_from (P := Try.prog) kFnd_ok 110 Try.underlying110 (some ⟨bo, off, none⟩) (l.length + 1) cap (i + 1) ((i : Int) + 1) (by simp) .i64 (by omega) hc w
  rw [sliceAddr_of (by omega), if_neg (by omega)] at h1 h3 h4
  rw [sliceAddr_of (by omega), Nat.zero_mul, Nat.add_zero, ite_self] at h2
  obtain ⟨hnb, nb, hsh, hnl⟩ := SlO.ne_blk hS hx
  have hov : (callFunc 157 #[.slice (some ⟨g, 0, none⟩) 1 1, .slice (some ⟨bo, off + (i + 1) * kFnd.K, none⟩) (l.length + 1 - (i + 1)) (cap - (i + 1))]).run Try.prog w = .ok (.value (.bool false)) w := by
    rw [run_callFunc_extern Try.func157 (by kernel_rfl) (by kernel_rfl) (by kernel_rfl) (e := Extern.SlicesOverlaps.overlaps #[110, 110] #[4]) (by kernel_rfl),
      Lib.run_overlaps_apart w 110 4 115 Try.underlying110 6 Try.sizeOf115 ⟨g, 0, none⟩ ⟨bo, off + (i + 1) * kFnd.K, none⟩ 1 1 _ _ hnb 115 115 6 nb
        (by simp [World.shape?, hS.mem _ _ hx]) hsh (by simp [kFnd] at hnl; omega) (by simp [World.frozen?, hS.mem _ _ hx]) (by simp [World.frozen?, hS.mem _ _ hx])]
    rfl
  have w2 : IntKind.i64.wrap ((l.length : Int) + 1) = (l.length : Int) + 1 := i64_keep _ (by omega) (by omega)
  have w4 : IntKind.i64.wrap ((i : Int) + 1) = (i : Int) + 1 := i64_keep _ (by omega) (by omega)
  have hne : ((i : Int) == (l.length : Int)) = false := by simp; omega
  have hgt : ¬ (cap : Int) < (l.length : Int) + 1 := by omega
  have e5 : l.length + 1 - (i + 1) = l.length - i := by omega
  rw [e5] at h4 hov
  have hdl : (l.drop i).length = l.length - i := by simp
  have HR := Lib.hid hR
  have HS := Lib.hid hS
  have HC := Lib.hid fun W (hW : St m W (star (SlO kFnd (some ⟨bo, off, none⟩) cap l) F)) => SlO.cells hW i (l.drop i) (List.prefix_refl _) (by omega)
  have HX := Lib.hid fun W F (hW : St m W F) => hR.cells hW (by simp)
  have e1 := ins_sh1 l i (by omega)
  have e2 := ins_sh2 l i x hi
  have E := Lib.hid (And.intro e1 e2)
  clear hR hS hx hsh hnl hnb e1 e2 e5
  go_enter Try.func121, Try.ntmps121
  go_wp2_with fail
  clear hov
  go_region_held3 (fun _ => True) (exact trivial)
    (first | (refine step_copy_sl kFnd_ok rfl _ _ 110 110 rfl Try.underlying110 (by first | exact HS.out | exact HS.out.drew | exact HS.out.drewN _) (i + 1) (l.length - i) (cap - (i + 1)) (l.length + 1 - i) (cap - i) _ _ (l.drop i) rfl rfl (by rw [hdl]; omega) (fun _ => rfl) (fun _ => ⟨_, rfl, HC.out _ (by first | exact HS.out | exact HS.out.drew | exact HS.out.drewN _)⟩) (by omega) (by rw [hdl]; omega) ?_; intro w4 S4))
  all_goals
    rw [E.out.1] at S4
    obtain ⟨w5, hcp, S5⟩ := run_copy_sl (P := Try.prog) kFnd_ok 110 110 Try.underlying110 S4 i (l.length + 1 - i) (cap - i) 1 1 (some ⟨bo, off + i * kFnd.K, none⟩) (some ⟨g, 0, none⟩) [x] (by simp; omega) (fun _ => rfl) (fun _ => HX.out _ _ S4) (by simp; omega) (by simp; omega)
    simp only [List.length_cons, List.length_nil, Nat.zero_add, Int.natCast_one, Int.cast_ofNat_Int] at hcp S5
    rw [E.out.2] at S5
    clear S4
    go_wp2
    go_ret
    exact ⟨_, cap, rfl, S5⟩

/-- slices.Insert of one element -/
theorem fndInsert_c (m : Mem) (w : World) (F : HP) (A : Option Addr) (cap : Nat) (l : List Fnd) (i : Nat) (x : Fnd) (g : Nat) (h9 : l.length ≤ 1000000) (hi : i ≤ l.length) (hx : m.blk g = some (.cells #[.int .i64 x.p.id, .int .u32 x.p.x, .int .u32 x.p.y, .string x.p.data, .int .u64 x.d.hi, .int .u64 x.d.lo] 115 (0, 0))) (hS : St m w (star (SlO kFnd A cap l) F)) :
    Calls Try.prog 121 #[.slice A l.length cap, .int .i64 i, .slice (some ⟨g, 0, none⟩) 1 1] w fun e w' => ∃ A' cap', e = .returned (.slice A' (l.length + 1) cap') ∧ St m w' (star (SlO kFnd A' cap' (l.take i ++ x :: l.drop i)) F) := by
  have hR : SlR kFnd m (some ⟨g, 0, none⟩) 1 [x] := .inr ⟨g, 0, rfl, Nat.le_refl _, by simp [maxLen], fun _ => ⟨_, _, _, hx, by simp [kFnd], by simp [Holds, kFnd]⟩⟩
  by_cases h1 : i = l.length
  · subst h1
    have := fndInsEnd_c m w F A cap l x g h9 hR hS
    simpa using this
  · by_cases h2 : l.length + 1 ≤ cap
    · exact fndInsShift_c m w F A cap l i x g h9 (by omega) h2 hx hR hS
    · exact fndInsGrow_c m w F A cap l i x g h9 (by omega) (by omega) hR hS
end Go.Proofs

namespace Go.Proofs
open Go.Croft Go.RowKit

/-- a point and how far it is -/
def fnd (x y : Nat) (p : Pnt) : Fnd := ⟨p, Dist.of (distN x y p.x p.y)⟩

theorem sliceAddr_zero (b off cap K : Nat) : sliceAddr (some ⟨b, off, none⟩) cap 0 K = some ⟨b, off, none⟩ := by
  rw [sliceAddr_of (Nat.zero_le _), Nat.zero_mul, Nat.add_zero, ite_self]
theorem take_minlen {α : Type} (L : List α) (n k : Nat) (h : n = min L.length k) : L.take n = L.take k := by
  subst h
  by_cases hk : k ≤ L.length
  · rw [Nat.min_eq_right hk]
  · rw [Nat.min_eq_left (by omega), List.take_of_length_le (Nat.le_refl _), List.take_of_length_le (by omega)]
/-- what add leaves: the point in its place, the k nearest kept -/
def AddPost (m : Mem) (F : HP) (f x y k : Nat) (l : List Fnd) (p : Pnt) (e : Ending) (w' : World) : Prop := e = .returned (.tuple #[]) ∧ ∃ (i : Nat) (A : Option Addr) (cap : Nat) (l' : List Fnd), i ≤ l.length ∧ (∀ y' ∈ l.take i, cmpF y' (fnd x y p) < 0) ∧ (∀ y' ∈ l.drop i, 0 ≤ cmpF y' (fnd x y p)) ∧ l' = (l.take i ++ fnd x y p :: l.drop i).take k ∧ St m w' (star (pt f (.cells #[.int .u32 x, .int .u32 y, .int .i64 k, .slice A l'.length cap] 112 (0, 0))) (star (SlO kFnd A cap l') F))
theorem six {m : Mem} {w : World} {b : Nat} {v0 v1 v2 v3 v4 v5 : Value} {T : TypeId} {F : HP} (h : St m w (star (pt b (.cells #[v0, v1, v2, v3, v4, v5] T (0, 0))) F)) :
    w.cell? ⟨b, 0, none⟩ = some v0 ∧ w.cell? ⟨b, 1, none⟩ = some v1 ∧ w.cell? ⟨b, 2, none⟩ = some v2 ∧ w.cell? ⟨b, 3, none⟩ = some v3 ∧ w.cell? ⟨b, 4, none⟩ = some v4 ∧ w.cell? ⟨b, 5, none⟩ = some v5 := ⟨h.cell, h.cell, h.cell, h.cell, h.cell, h.cell⟩
theorem set6 {m : Mem} {w : World} {b : Nat} {z0 z1 z2 z3 z4 z5 v0 v1 v2 v3 v4 v5 : Value} {T : TypeId} {fr : Nat × Nat} {F : HP} (h : St m w (star (pt b (.cells #[z0, z1, z2, z3, z4, z5] T fr)) F)) :
    St m ((((((w.setCell ⟨b, 0, none⟩ v0).setCell ⟨b, 1, none⟩ v1).setCell ⟨b, 2, none⟩ v2).setCell ⟨b, 3, none⟩ v3).setCell ⟨b, 4, none⟩ v4).setCell ⟨b, 5, none⟩ v5) (star (pt b (.cells #[v0, v1, v2, v3, v4, v5] T fr)) F) :=
  (((((h.setCell (i := 0) v0).setCell (i := 1) v1).setCell (i := 2) v2).setCell (i := 3) v3).setCell (i := 4) v4).setCell (i := 5) v5
set_option maxRecDepth 100000 in
set_option maxHeartbeats 3200000 in
theorem finderAdd_c (m : Mem) (w : World) (F : HP) (f x y k : Nat) (A : Option Addr) (cap : Nat) (l : List Fnd) (p : Pnt) (hx : x < 4294967296) (hy : y < 4294967296) (hp : p.x < 4294967296 ∧ p.y < 4294967296) (hk : k ≤ 64) (hl : l.length ≤ 64)
    (hmon : ∀ i j (hij : i < j) (hj : j < l.length), cmpF l[j] (fnd x y p) < 0 → cmpF (l[i]'(by omega)) (fnd x y p) < 0) (hS : St m w (star (pt f (.cells #[.int .u32 x, .int .u32 y, .int .i64 k, .slice A l.length cap] 112 (0, 0))) (star (SlO kFnd A cap l) F))) :
    Calls Try.prog 95 #[.pointer (some ⟨f, 0, none⟩), p.v] w (AddPost m F f x y k l p) := by
  obtain ⟨m1, l1, b1, S1⟩ := hS.allocf (.cells #[.int .i64 p.id, .int .u32 p.x, .int .u32 p.y, .string p.data] 54)
  have HL := Lib.hid l1
  have PB := between_p x y p.x p.y hx hy hp.1 hp.2
  unfold Dist.v at PB
  replace PB := Lib.hid PB
  clear l1
  unfold Pnt.v
  go_enter Try.func95, Try.ntmps95
  go_wp2_with fail
  generalize w.alloc (.cells #[.int .i64 p.id, .int .u32 p.x, .int .u32 p.y, .string p.data] 54) = W at *
  generalize w.heap.size = g at *
  have HG := Lib.hid b1
  clear b1 hS
  have HOLD := Lib.hid fun (W : World) (H : HP) (hW : St m1 W (star (pt f (.cells #[.int .u32 x, .int .u32 y, .int .i64 k, .slice A l.length cap] 112 (0, 0))) H)) => (⟨hW.cellM HG.out 0, hW.cellM HG.out 1, hW.cellM HG.out 2, hW.cellM HG.out 3, hW.cell (i := 0), hW.cell (i := 1), hW.cell (i := 2), hW.cell (i := 3)⟩ : W.cell? ⟨g, 0, none⟩ = some (.int .i64 p.id) ∧ W.cell? ⟨g, 1, none⟩ = some (.int .u32 p.x) ∧ W.cell? ⟨g, 2, none⟩ = some (.int .u32 p.y) ∧ W.cell? ⟨g, 3, none⟩ = some (.string p.data) ∧ W.cell? ⟨f, 0, none⟩ = some (.int .u32 x) ∧ W.cell? ⟨f, 1, none⟩ = some (.int .u32 y) ∧ W.cell? ⟨f, 2, none⟩ = some (.int .i64 k) ∧ W.cell? ⟨f, 3, none⟩ = some (.slice A l.length cap))
  have hs0 := HOLD.out _ _ S1
  go_upto_region 1 with fail
  go_cut [4] (fun s4 wx => ∃ g4 m2, s4 = .pointer (some ⟨g4, 0, none⟩) ∧ m1.le m2 ∧ m2.blk g4 = some (.cells #[.int .i64 p.id, .int .u32 p.x, .int .u32 p.y, .string p.data, .int .u64 (Dist.of (distN x y p.x p.y)).hi, .int .u64 (Dist.of (distN x y p.x p.y)).lo] 115 (0, 0)) ∧ St m2 wx (star (pt f (.cells #[.int .u32 x, .int .u32 y, .int .i64 k, .slice A l.length cap] 112 (0, 0))) (star (SlO kFnd A cap l) F)))
  case first =>
    go_region_held3 (fun W => W.cell? ⟨g, 0, none⟩ = some (.int .i64 p.id) ∧ W.cell? ⟨g, 1, none⟩ = some (.int .u32 p.x) ∧ W.cell? ⟨g, 2, none⟩ = some (.int .u32 p.y) ∧ W.cell? ⟨g, 3, none⟩ = some (.string p.data) ∧ W.cell? ⟨f, 0, none⟩ = some (.int .u32 x) ∧ W.cell? ⟨f, 1, none⟩ = some (.int .u32 y) ∧ W.cell? ⟨f, 2, none⟩ = some (.int .i64 k) ∧ W.cell? ⟨f, 3, none⟩ = some (.slice A l.length cap))
      (with_reducible first | exact HOLD.out _ _ ((hS'.alloc _).drop) | exact HOLD.out _ _ (S1) | exact HOLD.out _ _ (S1.drew) | exact HOLD.out _ _ ((S1.alloc _).drop) | exact HOLD.out _ _ ((S1.alloc _).drop.drew) | exact HOLD.out _ _ (hS') | exact HOLD.out _ _ (hS'.swap) | exact HOLD.out _ _ ((set6 hS').swap))
      (first
        | ((go_at_call 69; with_reducible refine (PB.out.at (m := m1) (by first | exact S1 | exact S1.drew | exact S1.drewN _)).mono ?_); rintro e w' ⟨rfl, hS'⟩)
        | ((go_at_call 69; with_reducible refine (PB.out.at (m := m1) (by first | exact S1.alloc _ | exact S1.drew.alloc _ | exact (S1.alloc _).drew)).mono ?_); rintro e w' ⟨rfl, hS'⟩; obtain ⟨z0, z1, z2, z3, z4, z5⟩ := six hS'; have y0 := hS'.free (i := 0); have y1 := hS'.free (i := 1); have y2 := hS'.free (i := 2); have y3 := hS'.free (i := 3); have y4 := hS'.free (i := 4); have y5 := hS'.free (i := 5)))
    · go_wp2
      go_meet
      obtain ⟨m2, l2, b2, S2⟩ := hS'.allocf (.cells #[.int .i64 p.id, .int .u32 p.x, .int .u32 p.y, .string p.data, .int .u64 (Dist.of (distN x y p.x p.y)).hi, .int .u64 (Dist.of (distN x y p.x p.y)).lo] 115)
      exact ⟨_, m2, rfl, l2, b2, S2⟩
    · go_wp2
      go_meet
      obtain ⟨m2, l2, b2, S2⟩ := (set6 hS').freeze
      exact ⟨_, m2, rfl, l2, b2, S2⟩
  case rest =>
    obtain ⟨g4, m2, rfl, l2, b2, S2⟩ := hcut
    have HL2 := Lib.hid (HL.out.trans l2)
    have HB := Lib.hid b2
    have QS := fun w (h : St m2 w (star (SlO kFnd A cap l) (star (pt f (.cells #[.int .u32 x, .int .u32 y, .int .i64 k, .slice A l.length cap] 112 (0, 0))) F))) => fndSearch_c m2 w _ A cap l.length l (fnd x y p) rfl (by omega) hmon h
    unfold Fnd.v fnd at QS
    replace QS := Lib.hid QS
    clear HOLD hs0 S1 l2 b2 hmon PB
    have HOLD := Lib.hid fun (W : World) (H : HP) (hW : St m2 W (star (pt f (.cells #[.int .u32 x, .int .u32 y, .int .i64 k, .slice A l.length cap] 112 (0, 0))) H)) => (⟨hW.cellM HB.out 0, hW.cellM HB.out 1, hW.cellM HB.out 2, hW.cellM HB.out 3, hW.cellM HB.out 4, hW.cellM HB.out 5, hW.cell (i := 0), hW.cell (i := 1), hW.cell (i := 2), hW.cell (i := 3)⟩ : W.cell? ⟨g4, 0, none⟩ = some (.int .i64 p.id) ∧ W.cell? ⟨g4, 1, none⟩ = some (.int .u32 p.x) ∧ W.cell? ⟨g4, 2, none⟩ = some (.int .u32 p.y) ∧ W.cell? ⟨g4, 3, none⟩ = some (.string p.data) ∧ W.cell? ⟨g4, 4, none⟩ = some (.int .u64 (Dist.of (distN x y p.x p.y)).hi) ∧ W.cell? ⟨g4, 5, none⟩ = some (.int .u64 (Dist.of (distN x y p.x p.y)).lo) ∧ W.cell? ⟨f, 0, none⟩ = some (.int .u32 x) ∧ W.cell? ⟨f, 1, none⟩ = some (.int .u32 y) ∧ W.cell? ⟨f, 2, none⟩ = some (.int .i64 k) ∧ W.cell? ⟨f, 3, none⟩ = some (.slice A l.length cap))
    have hs0 := HOLD.out _ _ S2
    generalize hdd : (Dist.of (distN x y p.x p.y)) = dd at *
    have HDD := Lib.hid hdd
    clear hdd
    go_wp2_with fail
    go_region_held3 (fun W => W.cell? ⟨g4, 0, none⟩ = some (.int .i64 p.id) ∧ W.cell? ⟨g4, 1, none⟩ = some (.int .u32 p.x) ∧ W.cell? ⟨g4, 2, none⟩ = some (.int .u32 p.y) ∧ W.cell? ⟨g4, 3, none⟩ = some (.string p.data) ∧ W.cell? ⟨g4, 4, none⟩ = some (.int .u64 dd.hi) ∧ W.cell? ⟨g4, 5, none⟩ = some (.int .u64 dd.lo) ∧ W.cell? ⟨f, 0, none⟩ = some (.int .u32 x) ∧ W.cell? ⟨f, 1, none⟩ = some (.int .u32 y) ∧ W.cell? ⟨f, 2, none⟩ = some (.int .i64 k) ∧ W.cell? ⟨f, 3, none⟩ = some (.slice A l.length cap))
      (with_reducible first | exact HOLD.out _ _ (S3.swap) | exact HOLD.out _ _ S2.drew | exact HOLD.out _ _ S2)
      (first | ((go_at_call 119; refine (QS.out _ (by first | exact S2.drew.swap | exact S2.swap)).mono ?_); rintro e w3 ⟨i, b, rfl, hi, h1, h2, S3⟩))
    clear hs0
    have HI := Lib.hid (And.intro hi (And.intro h1 h2))
    have hs1 := HOLD.out _ _ S3.swap
    have hs2 := HOLD.out _ _ ((S3.swap.alloc (.cells #[.int .i64 p.id, .int .u32 p.x, .int .u32 p.y, .string p.data, .int .u64 dd.hi, .int .u64 dd.lo] 115)).drop.drew)
    clear h1 h2 S2
    go_wp2_with fail
    go_region_with (first
      | ((go_at_call 121; obtain ⟨m4, l4, b4, S4⟩ := St.allocf S3.drew (.cells #[.int .i64 p.id, .int .u32 p.x, .int .u32 p.y, .string p.data, .int .u64 dd.hi, .int .u64 dd.lo] 115); refine (fndInsert_c m4 _ _ A cap l i ⟨p, dd⟩ _ (by omega) (by omega) b4 (by first | exact S4 | exact S4.drew)).mono ?_); rintro e w5 ⟨A5, cap5, rfl, S5⟩; have c3 := St.cell (i := 3) S5.swap; have f3 := St.free (i := 3) S5.swap))
    all_goals
      have S6 : St m4 (w5.setCell ⟨f, 3, none⟩ (.slice A5 (l.length + 1) cap5)) (star (pt f (.cells #[.int .u32 x, .int .u32 y, .int .i64 k, .slice (A5) (l.length + 1) (cap5)] 112 (0, 0))) (star (SlO kFnd A5 cap5 (l.take i ++ (⟨p, dd⟩ : Fnd) :: l.drop i)) F)) := S5.swap.setCell (i := 3) _
      generalize w5.setCell ⟨f, 3, none⟩ (.slice A5 (l.length + 1) cap5) = w6 at *
      have hln : (l.take i ++ (⟨p, dd⟩ : Fnd) :: l.drop i).length = l.length + 1 := ins_len l i _ hi
      obtain ⟨n, hn⟩ : ∃ n, n = min (l.length + 1) k := ⟨_, rfl⟩
      obtain ⟨b5, off5, rfl⟩ : ∃ g off, A5 = some ⟨g, off, none⟩ := by obtain ⟨g, off, e, _⟩ := SlO.at S5 (i := 0) (by rw [hln]; omega); exact ⟨g, off, e⟩
      have hcap5 := SlO.le_cap S5
      rw [hln] at hcap5
      have h7 := fun w => run_slice_to (P := Try.prog) kFnd_ok 110 Try.underlying110 (some ⟨b5, off5, none⟩) (l.length + 1) cap5 n .i64 (by omega) hcap5 w
      rw [sliceAddr_zero] at h7
      have hmin : min ((l.length : Int) + 1) (k : Int) = (n : Int) := by omega
      have d0 := S6.cell (i := 0)
      have d1 := S6.cell (i := 1)
      have d2 := S6.cell (i := 2)
      have d3 := S6.cell (i := 3)
      have f3' := S6.free (i := 3)
      have HS6 := Lib.hid S6
      have HL4 := Lib.hid l4
      have HN := Lib.hid (And.intro hn hln)
      clear hs1 hs2 c3 f3 S5 S6 S4 b4 l4 hn hln HB QS HOLD S3
      have mixed : Try.prog.follows .mixedOrders = true := by kernel_rfl
      go_wp2_with fail
      go_big_region_o
      go_end0
      have e : fnd x y p = ⟨p, dd⟩ := by unfold fnd; rw [HDD.out]
      have S7 := (HS6.out.setCell (i := 3) (.slice (some ⟨b5, off5, none⟩) n cap5)).drew
      have hN := HN.out
      have S8 := SlO.shrink S7.swap n (by rw [hN.2]; omega)
      have e2 : (l.take i ++ (⟨p, dd⟩ : Fnd) :: l.drop i).take n = (l.take i ++ (⟨p, dd⟩ : Fnd) :: l.drop i).take k := by
        exact take_minlen _ n k (by rw [hN.1, hN.2])
      have e3 : n = ((l.take i ++ (⟨p, dd⟩ : Fnd) :: l.drop i).take k).length := by rw [List.length_take, hN.2, hN.1, Nat.min_comm]
      rw [e2] at S8
      refine ⟨rfl, i, some ⟨b5, off5, none⟩, cap5, _, hi, by rw [e]; exact HI.out.2.1, by rw [e]; exact HI.out.2.2, rfl, ?_⟩
      rw [e, ← e3]
      exact S8.swap.weak (HL2.out.trans (HL4.out))
end Go.Proofs

namespace Go.Proofs
open Go.Croft Go.RowKit

/-- how far a line is -/
def lineD (x y : Nat) (p : Pnt) (d : Nat) : Nat := if d % 2 = 1 then distN 0 y 0 p.y else distN x 0 p.x 0
theorem two {m : Mem} {w : World} {b : Nat} {v0 v1 : Value} {T : TypeId} {F : HP} (h : St m w (star (pt b (.cells #[v0, v1] T (0, 0))) F)) :
    w.cell? ⟨b, 0, none⟩ = some v0 ∧ w.cell? ⟨b, 1, none⟩ = some v1 := ⟨h.cell, h.cell⟩
theorem set2 {m : Mem} {w : World} {b : Nat} {z0 z1 v0 v1 : Value} {T : TypeId} {fr : Nat × Nat} {F : HP} (h : St m w (star (pt b (.cells #[z0, z1] T fr)) F)) :
    St m ((w.setCell ⟨b, 0, none⟩ v0).setCell ⟨b, 1, none⟩ v1) (star (pt b (.cells #[v0, v1] T fr)) F) :=
  (h.setCell (i := 0) v0).setCell (i := 1) v1

set_option maxRecDepth 100000 in
set_option maxHeartbeats 3200000 in
theorem finderFar_c (m : Mem) (w : World) (F : HP) (f x y k d : Nat) (A : Option Addr) (cap : Nat) (l : List Fnd) (p : Pnt) (hx : x < 4294967296) (hy : y < 4294967296) (hp : p.x < 4294967296 ∧ p.y < 4294967296) (hk : k ≤ 64) (hk0 : 0 < k) (hl : l.length ≤ k) (hd : d ≤ 1000000)
    (hS : St m w (star (pt f (.cells #[.int .u32 x, .int .u32 y, .int .i64 k, .slice A l.length cap] 112 (0, 0))) (star (SlO kFnd A cap l) F))) :
    Calls Try.prog 96 #[.pointer (some ⟨f, 0, none⟩), p.v, .int .i64 d] w fun e w' => ∃ q : Bool, e = .returned (.bool q) ∧ (q = true → ∃ h : l.length = k, 0 < cmpD (Dist.of (lineD x y p d)) (l[k - 1]'(by omega)).d) ∧ St m w' (star (pt f (.cells #[.int .u32 x, .int .u32 y, .int .i64 k, .slice A l.length cap] 112 (0, 0))) (star (SlO kFnd A cap l) F)) := by
  obtain ⟨m1, l1, b1, S1⟩ := hS.allocf (.cells #[.int .i64 p.id, .int .u32 p.x, .int .u32 p.y, .string p.data] 54)
  have HL := Lib.hid l1
  clear l1
  by_cases hlk : l.length < k
  · have hlk' : (l.length : Int) < k := by omega
    unfold Pnt.v
    go_enter Try.func96, Try.ntmps96
    go_wp2_with fail
    generalize w.alloc (.cells #[.int .i64 p.id, .int .u32 p.x, .int .u32 p.y, .string p.data] 54) = W at *
    have c2 := S1.cell (i := 2)
    have c3 := S1.cell (i := 3)
    go_quiet (fail)
    go_wp2
    go_ret
    exact ⟨false, rfl, by simp, (S1.drewN _).weak HL.out⟩
  · have hlk' : ¬ (l.length : Int) < k := by omega
    have PB1 := between_p x 0 p.x 0 hx (by omega) hp.1 (by omega)
    have PB2 := between_p 0 y 0 p.y (by omega) hy (by omega) hp.2
    unfold Dist.v at PB1 PB2
    simp only [Int.ofNat_zero, Int.natCast_zero, Int.cast_ofNat_Int] at PB1 PB2
    replace PB1 := Lib.hid PB1
    replace PB2 := Lib.hid PB2
    unfold Pnt.v
    go_enter Try.func96, Try.ntmps96
    go_wp2_with fail
    generalize w.alloc (.cells #[.int .i64 p.id, .int .u32 p.x, .int .u32 p.y, .string p.data] 54) = W at *
    generalize w.heap.size = g at *
    have HG := Lib.hid b1
    clear b1 hS
    have c2 := S1.cell (i := 2)
    have c3 := S1.cell (i := 3)
    go_quiet (fail)
    replace S1 := S1.drewN nq
    generalize W.drewN nq = W at *
    clear c2 c3
    have HOLD := Lib.hid fun (W : World) (H : HP) (hW : St m1 W (star (pt f (.cells #[.int .u32 x, .int .u32 y, .int .i64 k, .slice A l.length cap] 112 (0, 0))) H)) => (⟨⟨hW.cellM HG.out 0, hW.cellM HG.out 1, hW.cellM HG.out 2, hW.cellM HG.out 3⟩, hW.cell (i := 0), hW.cell (i := 1), hW.cell (i := 2), hW.cell (i := 3)⟩ : (W.cell? ⟨g, 0, none⟩ = some (.int .i64 p.id) ∧ W.cell? ⟨g, 1, none⟩ = some (.int .u32 p.x) ∧ W.cell? ⟨g, 2, none⟩ = some (.int .u32 p.y) ∧ W.cell? ⟨g, 3, none⟩ = some (.string p.data)) ∧ W.cell? ⟨f, 0, none⟩ = some (.int .u32 x) ∧ W.cell? ⟨f, 1, none⟩ = some (.int .u32 y) ∧ W.cell? ⟨f, 2, none⟩ = some (.int .i64 k) ∧ W.cell? ⟨f, 3, none⟩ = some (.slice A l.length cap))
    have hs0 := HOLD.out _ _ S1
    go_upto_region 3 with fail
    go_cut [7] (fun s7 wx => ∃ g7, s7 = .pointer (some ⟨g7, 0, none⟩) ∧ St m1 wx (star (pt g7 (.cells #[.int .u64 (Dist.of (distN x 0 p.x 0)).hi, .int .u64 (Dist.of (distN x 0 p.x 0)).lo] 76 (0, 0))) (star (pt f (.cells #[.int .u32 x, .int .u32 y, .int .i64 k, .slice A l.length cap] 112 (0, 0))) (star (SlO kFnd A cap l) F))))
    case first =>
      go_region_held3 (fun W => (W.cell? ⟨g, 0, none⟩ = some (.int .i64 p.id) ∧ W.cell? ⟨g, 1, none⟩ = some (.int .u32 p.x) ∧ W.cell? ⟨g, 2, none⟩ = some (.int .u32 p.y) ∧ W.cell? ⟨g, 3, none⟩ = some (.string p.data)) ∧ W.cell? ⟨f, 0, none⟩ = some (.int .u32 x) ∧ W.cell? ⟨f, 1, none⟩ = some (.int .u32 y) ∧ W.cell? ⟨f, 2, none⟩ = some (.int .i64 k) ∧ W.cell? ⟨f, 3, none⟩ = some (.slice A l.length cap))
        (with_reducible first | exact HOLD.out _ _ ((hS'.alloc _).drop) | exact HOLD.out _ _ S1 | exact HOLD.out _ _ S1.drew | exact HOLD.out _ _ ((S1.alloc _).drop) | exact HOLD.out _ _ ((S1.alloc _).drop.drew) | exact HOLD.out _ _ hS' | exact HOLD.out _ _ (hS'.swap) | exact HOLD.out _ _ ((set2 hS').swap))
        (first
          | ((go_at_call 69; with_reducible refine (PB1.out.at (m := m1) (by first | exact S1 | exact S1.drew | exact S1.drewN _)).mono ?_); rintro e w' ⟨rfl, hS'⟩)
          | ((go_at_call 69; with_reducible refine (PB1.out.at (m := m1) (by first | exact S1.alloc _ | exact S1.drew.alloc _ | exact (S1.alloc _).drew)).mono ?_); rintro e w' ⟨rfl, hS'⟩; obtain ⟨z0, z1⟩ := two hS'; have y0 := hS'.free (i := 0); have y1 := hS'.free (i := 1)))
      · go_wp2
        go_meet
        exact ⟨_, rfl, hS'.alloc _⟩
      · go_wp2
        go_meet
        exact ⟨_, rfl, set2 hS'⟩
    case rest =>
      clear hs0 S1
      obtain ⟨g7, rfl, S2⟩ := hcut
      by_cases hp2 : d % 2 = 1
      · have h1 : bits .and .i64 (d : Int) 1 = 1 := by rw [and_one d hd, hp2]; rfl
        have hln := Lib.hid (show lineD x y p d = distN 0 y 0 p.y by unfold lineD; rw [if_pos hp2])
        clear hp2
        have hs0 := HOLD.out _ _ S2.swap
        obtain ⟨z0, z1⟩ := two S2
        have y0 := S2.free (i := 0)
        have y1 := S2.free (i := 1)
        go_wp2_with fail
        clear z0 z1 y0 y1
        go_region_held3 (fun W => (W.cell? ⟨g, 0, none⟩ = some (.int .i64 p.id) ∧ W.cell? ⟨g, 1, none⟩ = some (.int .u32 p.x) ∧ W.cell? ⟨g, 2, none⟩ = some (.int .u32 p.y) ∧ W.cell? ⟨g, 3, none⟩ = some (.string p.data)) ∧ W.cell? ⟨f, 0, none⟩ = some (.int .u32 x) ∧ W.cell? ⟨f, 1, none⟩ = some (.int .u32 y) ∧ W.cell? ⟨f, 2, none⟩ = some (.int .i64 k) ∧ W.cell? ⟨f, 3, none⟩ = some (.slice A l.length cap))
          (with_reducible first | exact HOLD.out _ _ (hS'.swap) | exact HOLD.out _ _ ((set2 hS').swap) | exact HOLD.out _ _ (S2.drew.swap) | exact HOLD.out _ _ S2.swap)
          (first
            | ((go_at_call 69; with_reducible refine (PB2.out.at (m := m1) (by first | exact S2.drew | exact S2)).mono ?_); rintro e w' ⟨rfl, hS'⟩; obtain ⟨z0, z1⟩ := two hS'; have y0 := hS'.free (i := 0); have y1 := hS'.free (i := 1)))
        have S3 := set2 (v0 := .int .u64 (Dist.of (distN 0 y 0 p.y)).hi) (v1 := .int .u64 (Dist.of (distN 0 y 0 p.y)).lo) hS'
        clear z0 z1 y0 y1 hs0
        generalize (w'.setCell ⟨g7, 0, none⟩ (.int .u64 (Dist.of (distN 0 y 0 p.y)).hi)).setCell ⟨g7, 1, none⟩ (.int .u64 (Dist.of (distN 0 y 0 p.y)).lo) = w9 at *
        rw [← hln.out] at S3
        clear hS' S2
        have hkl : l.length = k := by omega
        have hkk : k - 1 < l.length := by omega
        obtain ⟨b, off, rfl⟩ : ∃ g off, A = some ⟨g, off, none⟩ := by obtain ⟨g, off, e, _⟩ := SlO.at S3.swap.drop.swap hkk; exact ⟨g, off, e⟩
        obtain ⟨z, hz⟩ : ∃ z, z = k - 1 := ⟨_, rfl⟩
        have hzl : z < l.length := by omega
        have w1 : IntKind.i64.wrap ((k : Int) - 1) = z := by
          rw [show (k : Int) - 1 = z by omega]; exact i64_keep _ (by omega) (by omega)
        have kq : ((k : Int) == 0) = false := by simp; omega
        have z0 : (0 : Int) ≤ z := by omega
        have z1 : (z : Int) < l.length := by omega
        have HKL := Lib.hid (And.intro hkl hz)
        have PC := wideCmp_p (Dist.of (lineD x y p d)) l[z].d
        unfold Dist.v at PC
        replace PC := Lib.hid PC
        clear HOLD hkl hz hlk hlk'
        have HOLD := Lib.hid fun (W : World) (hW : St m1 W (star (pt g7 (.cells #[.int .u64 (Dist.of (lineD x y p d)).hi, .int .u64 (Dist.of (lineD x y p d)).lo] 76 (0, 0))) (star (pt f (.cells #[.int .u32 x, .int .u32 y, .int .i64 k, .slice (some ⟨b, off, none⟩) l.length cap] 112 (0, 0))) (star (SlO kFnd (some ⟨b, off, none⟩) cap l) F)))) => (⟨hW, two hW, ⟨hW.swap.cell (i := 2), hW.swap.cell (i := 3)⟩, fndAt hW.rot3 hzl⟩ : St m1 W (star (pt g7 (.cells #[.int .u64 (Dist.of (lineD x y p d)).hi, .int .u64 (Dist.of (lineD x y p d)).lo] 76 (0, 0))) (star (pt f (.cells #[.int .u32 x, .int .u32 y, .int .i64 k, .slice (some ⟨b, off, none⟩) l.length cap] 112 (0, 0))) (star (SlO kFnd (some ⟨b, off, none⟩) cap l) F))) ∧ (W.cell? ⟨g7, 0, none⟩ = some (.int .u64 (Dist.of (lineD x y p d)).hi) ∧ W.cell? ⟨g7, 1, none⟩ = some (.int .u64 (Dist.of (lineD x y p d)).lo)) ∧ (W.cell? ⟨f, 2, none⟩ = some (.int .i64 k) ∧ W.cell? ⟨f, 3, none⟩ = some (.slice (some ⟨b, off, none⟩) l.length cap)) ∧ W.cell? ⟨b, off + z * 6, none⟩ = some (.int .i64 (l[z]).p.id) ∧ W.cell? ⟨b, off + z * 6 + 1, none⟩ = some (.int .u32 (l[z]).p.x) ∧ W.cell? ⟨b, off + z * 6 + 2, none⟩ = some (.int .u32 (l[z]).p.y) ∧ W.cell? ⟨b, off + z * 6 + 3, none⟩ = some (.string (l[z]).p.data) ∧ W.cell? ⟨b, off + z * 6 + 4, none⟩ = some (.int .u64 (l[z]).d.hi) ∧ W.cell? ⟨b, off + z * 6 + 5, none⟩ = some (.int .u64 (l[z]).d.lo))
        have hs0 := HOLD.out _ S3
        go_wp2_with fail
        go_region_held3 (fun W => St m1 W (star (pt g7 (.cells #[.int .u64 (Dist.of (lineD x y p d)).hi, .int .u64 (Dist.of (lineD x y p d)).lo] 76 (0, 0))) (star (pt f (.cells #[.int .u32 x, .int .u32 y, .int .i64 k, .slice (some ⟨b, off, none⟩) l.length cap] 112 (0, 0))) (star (SlO kFnd (some ⟨b, off, none⟩) cap l) F))) ∧ (W.cell? ⟨g7, 0, none⟩ = some (.int .u64 (Dist.of (lineD x y p d)).hi) ∧ W.cell? ⟨g7, 1, none⟩ = some (.int .u64 (Dist.of (lineD x y p d)).lo)) ∧ (W.cell? ⟨f, 2, none⟩ = some (.int .i64 k) ∧ W.cell? ⟨f, 3, none⟩ = some (.slice (some ⟨b, off, none⟩) l.length cap)) ∧ W.cell? ⟨b, off + z * 6, none⟩ = some (.int .i64 (l[z]).p.id) ∧ W.cell? ⟨b, off + z * 6 + 1, none⟩ = some (.int .u32 (l[z]).p.x) ∧ W.cell? ⟨b, off + z * 6 + 2, none⟩ = some (.int .u32 (l[z]).p.y) ∧ W.cell? ⟨b, off + z * 6 + 3, none⟩ = some (.string (l[z]).p.data) ∧ W.cell? ⟨b, off + z * 6 + 4, none⟩ = some (.int .u64 (l[z]).d.hi) ∧ W.cell? ⟨b, off + z * 6 + 5, none⟩ = some (.int .u64 (l[z]).d.lo))
          (with_reducible first | exact HOLD.out _ hS4 | exact HOLD.out _ S3.drew | exact HOLD.out _ S3)
          (first | ((go_at_call 106; with_reducible refine (PC.out.at (m := m1) (by first | exact S3.drew | exact S3)).mono ?_); rintro e w' ⟨rfl, hS4⟩))
        go_wp2
        go_ret
        refine ⟨decide (0 < cmpD (Dist.of (lineD x y p d)) l[z].d), rfl, fun hq => ⟨HKL.out.1, ?_⟩, (hS4.drop).weak HL.out⟩
        have h := of_decide_eq_true hq
        simpa only [HKL.out.2] using h
      · have h1 : bits .and .i64 (d : Int) 1 = 0 := by rw [and_one d hd, show d % 2 = 0 by omega]; rfl
        have hln := Lib.hid (show distN x 0 p.x 0 = lineD x y p d by unfold lineD; rw [if_neg hp2])
        clear hp2
        have S3 := S2
        rw [hln.out] at S3
        clear S2
        go_wp2_with fail
        have hkl : l.length = k := by omega
        have hkk : k - 1 < l.length := by omega
        obtain ⟨b, off, rfl⟩ : ∃ g off, A = some ⟨g, off, none⟩ := by obtain ⟨g, off, e, _⟩ := SlO.at S3.swap.drop.swap hkk; exact ⟨g, off, e⟩
        obtain ⟨z, hz⟩ : ∃ z, z = k - 1 := ⟨_, rfl⟩
        have hzl : z < l.length := by omega
        have w1 : IntKind.i64.wrap ((k : Int) - 1) = z := by
          rw [show (k : Int) - 1 = z by omega]; exact i64_keep _ (by omega) (by omega)
        have kq : ((k : Int) == 0) = false := by simp; omega
        have z0 : (0 : Int) ≤ z := by omega
        have z1 : (z : Int) < l.length := by omega
        have HKL := Lib.hid (And.intro hkl hz)
        have PC := wideCmp_p (Dist.of (lineD x y p d)) l[z].d
        unfold Dist.v at PC
        replace PC := Lib.hid PC
        clear HOLD hkl hz hlk hlk'
        have HOLD := Lib.hid fun (W : World) (hW : St m1 W (star (pt g7 (.cells #[.int .u64 (Dist.of (lineD x y p d)).hi, .int .u64 (Dist.of (lineD x y p d)).lo] 76 (0, 0))) (star (pt f (.cells #[.int .u32 x, .int .u32 y, .int .i64 k, .slice (some ⟨b, off, none⟩) l.length cap] 112 (0, 0))) (star (SlO kFnd (some ⟨b, off, none⟩) cap l) F)))) => (⟨hW, two hW, ⟨hW.swap.cell (i := 2), hW.swap.cell (i := 3)⟩, fndAt hW.rot3 hzl⟩ : St m1 W (star (pt g7 (.cells #[.int .u64 (Dist.of (lineD x y p d)).hi, .int .u64 (Dist.of (lineD x y p d)).lo] 76 (0, 0))) (star (pt f (.cells #[.int .u32 x, .int .u32 y, .int .i64 k, .slice (some ⟨b, off, none⟩) l.length cap] 112 (0, 0))) (star (SlO kFnd (some ⟨b, off, none⟩) cap l) F))) ∧ (W.cell? ⟨g7, 0, none⟩ = some (.int .u64 (Dist.of (lineD x y p d)).hi) ∧ W.cell? ⟨g7, 1, none⟩ = some (.int .u64 (Dist.of (lineD x y p d)).lo)) ∧ (W.cell? ⟨f, 2, none⟩ = some (.int .i64 k) ∧ W.cell? ⟨f, 3, none⟩ = some (.slice (some ⟨b, off, none⟩) l.length cap)) ∧ W.cell? ⟨b, off + z * 6, none⟩ = some (.int .i64 (l[z]).p.id) ∧ W.cell? ⟨b, off + z * 6 + 1, none⟩ = some (.int .u32 (l[z]).p.x) ∧ W.cell? ⟨b, off + z * 6 + 2, none⟩ = some (.int .u32 (l[z]).p.y) ∧ W.cell? ⟨b, off + z * 6 + 3, none⟩ = some (.string (l[z]).p.data) ∧ W.cell? ⟨b, off + z * 6 + 4, none⟩ = some (.int .u64 (l[z]).d.hi) ∧ W.cell? ⟨b, off + z * 6 + 5, none⟩ = some (.int .u64 (l[z]).d.lo))
        have hs0 := HOLD.out _ S3
        go_wp2_with fail
        go_region_held3 (fun W => St m1 W (star (pt g7 (.cells #[.int .u64 (Dist.of (lineD x y p d)).hi, .int .u64 (Dist.of (lineD x y p d)).lo] 76 (0, 0))) (star (pt f (.cells #[.int .u32 x, .int .u32 y, .int .i64 k, .slice (some ⟨b, off, none⟩) l.length cap] 112 (0, 0))) (star (SlO kFnd (some ⟨b, off, none⟩) cap l) F))) ∧ (W.cell? ⟨g7, 0, none⟩ = some (.int .u64 (Dist.of (lineD x y p d)).hi) ∧ W.cell? ⟨g7, 1, none⟩ = some (.int .u64 (Dist.of (lineD x y p d)).lo)) ∧ (W.cell? ⟨f, 2, none⟩ = some (.int .i64 k) ∧ W.cell? ⟨f, 3, none⟩ = some (.slice (some ⟨b, off, none⟩) l.length cap)) ∧ W.cell? ⟨b, off + z * 6, none⟩ = some (.int .i64 (l[z]).p.id) ∧ W.cell? ⟨b, off + z * 6 + 1, none⟩ = some (.int .u32 (l[z]).p.x) ∧ W.cell? ⟨b, off + z * 6 + 2, none⟩ = some (.int .u32 (l[z]).p.y) ∧ W.cell? ⟨b, off + z * 6 + 3, none⟩ = some (.string (l[z]).p.data) ∧ W.cell? ⟨b, off + z * 6 + 4, none⟩ = some (.int .u64 (l[z]).d.hi) ∧ W.cell? ⟨b, off + z * 6 + 5, none⟩ = some (.int .u64 (l[z]).d.lo))
          (with_reducible first | exact HOLD.out _ hS4 | exact HOLD.out _ S3.drew | exact HOLD.out _ S3)
          (first | ((go_at_call 106; with_reducible refine (PC.out.at (m := m1) (by first | exact S3.drew | exact S3)).mono ?_); rintro e w' ⟨rfl, hS4⟩))
        go_wp2
        go_ret
        refine ⟨decide (0 < cmpD (Dist.of (lineD x y p d)) l[z].d), rfl, fun hq => ⟨HKL.out.1, ?_⟩, (hS4.drop).weak HL.out⟩
        have h := of_decide_eq_true hq
        simpa only [HKL.out.2] using h
end Go.Proofs
