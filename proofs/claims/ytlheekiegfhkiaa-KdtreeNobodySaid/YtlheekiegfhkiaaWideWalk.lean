/- Contracts of the given program, for the proofs of its statements: text WideWalk. No conditions beyond those in each theorem. -/
import Derived.Test.YtlheekiegfhkiaaKinds
import Derived.Test.YtlheekiegfhkiaaLays
import Derived.Deep.RegionHeld3
import Derived.StillTailTactics
namespace Go.Proofs
open Go.Croft Go.RowKit

/-- cmp.Compare -/
def cmpI (a b : Int) : Int := if a < b then -1 else if b < a then 1 else 0

theorem isNaN_int (a : Int) (w : World) : Calls Try.prog 109 #[.int .i64 a] w fun e w' => e = .returned (.bool false) ∧ w' = w := by
  go_enter Try.func109, Try.ntmps109
  go_wp2
  go_ret
  exact ⟨rfl, rfl⟩
theorem isNaN_u64 (a : Int) (w : World) : Calls Try.prog 165 #[.int .u64 a] w fun e w' => e = .returned (.bool false) ∧ w' = w := by
  go_enter Try.func165, Try.ntmps165
  go_wp2
  go_ret
  exact ⟨rfl, rfl⟩
theorem compare_int (a b : Int) : Pure Try.prog 77 #[.int .i64 a, .int .i64 b] (.int .i64 (cmpI a b)) := .of_same fun w => by
  go_enter Try.func77, Try.ntmps77
  go_wp2_with ((with_reducible refine (isNaN_int _ _).mono ?_); rintro e w' ⟨rfl, rfl⟩)
  all_goals (go_ret; exact ⟨by simp [cmpI]; omega, rfl⟩)

theorem compare_u64 (a b : Int) : Pure Try.prog 136 #[.int .u64 a, .int .u64 b] (.int .i64 (cmpI a b)) := .of_same fun w => by
  go_enter Try.func136, Try.ntmps136
  go_wp2_with ((with_reducible refine (isNaN_u64 _ _).mono ?_); rintro e w' ⟨rfl, rfl⟩)
  all_goals (go_ret; exact ⟨by simp [cmpI]; omega, rfl⟩)

/-- cmp.Or -/
def orI : List Int → Int
  | [] => 0
  | x :: l => if x = 0 then orI l else x
theorem orI_drop (l : List Int) (k : Nat) (h : k < l.length) : orI (l.drop k) = if l[k] = 0 then orI (l.drop (k + 1)) else l[k] := by
  rw [List.drop_eq_getElem_cons h]; rfl
set_option maxHeartbeats 400000 in
theorem or_c (m : Mem) (w : World) (F : HP) (A : Option Addr) (cap : Nat) (l : List Int) (hR : SlR kInt m A cap l) (hS : St m w F) :
    Calls Try.prog 105 #[.slice A l.length cap] w fun e w' => e = .returned (.int .i64 (orI l)) ∧ w' = w := by
  have hlm := hR.len_max
  have HS := Lib.hid hS
  go_enter Try.func105, Try.ntmps105
  go_wp2
  go_loop [8] (fun i => ∃ k : Nat, k ≤ l.length ∧ i = .int .i64 k ∧ Hid (orI l = orI (l.drop k))) (fun i => l.length - (intOf i).toNat)
  case atStart => exact ⟨0, by omega, rfl, Lib.hid (by simp)⟩
  case round =>
    obtain ⟨k, hk, rfl, ho⟩ := hrel
    by_cases hlt : k < l.length
    · have hd := Lib.hid (orI_drop l k hlt)
      obtain ⟨b, off, rfl, hc⟩ := hR.at HS.out hlt
      have h0 := hc 0 _ rfl
      simp only [kInt, Nat.add_zero, Nat.mul_one] at h0
      clear hc
      by_cases hz : l[k] = 0
      · have hz' : (l[k] != 0) = false := by simp [hz]
        have hd' := Lib.hid (by rw [hd.out, if_pos hz] : orI (l.drop k) = orI (l.drop (k + 1)))
        clear hz hd
        go_wp2
        go_round
        case rel => exact ⟨k + 1, by omega, by go_num, Lib.hid (by rw [ho.out, hd'.out])⟩
        case measure => simp [intOf]; omega
      · have hz' : (l[k] != 0) = true := by simp [hz]
        have hd' := Lib.hid (by rw [hd.out, if_neg hz] : orI (l.drop k) = l[k])
        clear hz hd
        go_wp2
        go_ret
        exact ⟨(by rw [ho.out, hd'.out]; rfl), rfl⟩
    · go_wp2
      go_ret
      exact ⟨by rw [ho.out, List.drop_of_length_le (by omega)]; rfl, rfl⟩


theorem or_fresh (m : Mem) (w : World) (H : HP) (l : List Int) (cs : Array Value) (n : Nat) (hn : n = l.length) (hcs : cs = (l.map (Value.int .i64)).toArray) (hl : l.length ≤ maxLen) (hS : St m w H) :
    Calls Try.prog 105 #[.slice (some ⟨w.heap.size, 0, none⟩) n n] (w.alloc (.cells cs 3)) fun e w' => e = .returned (.int .i64 (orI l)) ∧ St m w' H := by
  subst hn hcs
  obtain ⟨m1, l1, b1, S1⟩ := hS.allocf (.cells (l.map (Value.int .i64)).toArray 3)
  refine (or_c m1 _ H _ l.length l (.inr ⟨_, 0, rfl, Nat.le_refl _, hl, fun hpos => ⟨_, _, _, b1, by simp [kInt], ?_⟩⟩) S1).mono ?_
  · unfold Holds
    simp only [kInt, List.drop_zero, Nat.mul_one]
    have : l.flatMap (fun x => [Value.int .i64 x]) = l.map (Value.int .i64) := by clear hS hl b1 S1 hpos; induction l <;> simp_all
    rw [this, List.take_of_length_le (by simp)]
  · rintro e w' ⟨rfl, rfl⟩; exact ⟨rfl, (hS.alloc _).drop⟩

structure Dist where
  hi : Int
  lo : Int
deriving DecidableEq
@[go_sem] def Dist.v (d : Dist) : Value := .agg #[.int .u64 d.hi, .int .u64 d.lo]
def cmpD (a b : Dist) : Int := orI [cmpI a.hi b.hi, cmpI a.lo b.lo]
set_option maxHeartbeats 400000 in
theorem wideCmp_p (a b : Dist) : Pure Try.prog 106 #[a.v, b.v] (.int .i64 (cmpD a b)) := by
  intro m w H hS
  unfold Dist.v
  go_enter Try.func106, Try.ntmps106
  go_wp2
  obtain ⟨m1, l1, b1, S1⟩ := hS.allocf (.cells #[.int .u64 a.hi, .int .u64 a.lo] 76)
  obtain ⟨m2, l2, b2, S2⟩ := S1.allocf (.cells #[.int .u64 b.hi, .int .u64 b.lo] 76)
  replace b1 := l2.blk _ _ b1
  simp only [World.size_alloc] at b2
  generalize (w.alloc (.cells #[.int .u64 a.hi, .int .u64 a.lo] 76)).alloc (.cells #[.int .u64 b.hi, .int .u64 b.lo] 76) = W at *
  generalize w.heap.size = g at *
  have hold : ∀ W', St m2 W' H → St m2 W' H ∧ W'.cell? ⟨g, 0, none⟩ = some (.int .u64 a.hi) ∧ W'.cell? ⟨g, 1, none⟩ = some (.int .u64 a.lo) ∧ W'.cell? ⟨g + 1, 0, none⟩ = some (.int .u64 b.hi) ∧ W'.cell? ⟨g + 1, 1, none⟩ = some (.int .u64 b.lo) :=
    fun W' h => ⟨h, h.cellM b1 0, h.cellM b1 1, h.cellM b2 0, h.cellM b2 1⟩
  have HOLD := Lib.hid hold
  have HL := Lib.hid (l1.trans l2)
  clear b1 b2 l1 l2 S1 hS hold
  have hs0 := HOLD.out _ S2
  go_region_held3 (fun W' => St m2 W' H ∧ W'.cell? ⟨g, 0, none⟩ = some (.int .u64 a.hi) ∧ W'.cell? ⟨g, 1, none⟩ = some (.int .u64 a.lo) ∧ W'.cell? ⟨g + 1, 0, none⟩ = some (.int .u64 b.hi) ∧ W'.cell? ⟨g + 1, 1, none⟩ = some (.int .u64 b.lo)) (exact HOLD.out _ (by first | assumption | exact And.left (by assumption) | exact St.drew (by assumption) | exact St.drewN (by assumption) _ | exact (St.alloc (by assumption) _).drop | exact (St.alloc (And.left (by assumption)) _).drop))
    (first
      | (go_at_call 136; refine (compare_u64 _ _ m2 _ H (by exact And.left (by assumption))).mono ?_; rintro e w' ⟨rfl, hS'⟩)
      | (go_at_call 105; refine (or_fresh m2 _ H [cmpI a.hi b.hi, cmpI a.lo b.lo] _ 2 rfl rfl (by simp [maxLen]) (by assumption)).mono ?_; rintro e w' ⟨rfl, hS'⟩))
  go_wp2
  go_ret
  exact ⟨rfl, St.weak (by first | assumption | exact And.left (by assumption)) HL.out⟩


theorem gap_p (a b : Int) (ha : 0 ≤ a ∧ a < 4294967296) (hb : 0 ≤ b ∧ b < 4294967296) : Pure Try.prog 102 #[.int .u32 a, .int .u32 b] (.int .u32 (max a b - min a b)) := .of_same fun w => by
  obtain ⟨h1, h2⟩ := ha
  obtain ⟨h3, h4⟩ := hb
  go_enter Try.func102, Try.ntmps102
  go_wp2
  all_goals (go_ret; exact ⟨ret_int (by omega), rfl⟩)

def two64 : Nat := 18446744073709551616
def Dist.of (n : Nat) : Dist := ⟨(n / two64 : Nat), (n % two64 : Nat)⟩
theorem square_p (n : Nat) (h : n < 4294967296) : Pure Try.prog 101 #[.int .u32 n] (Dist.of (n * n)).v := by
  intro m w H hS
  have HM := @Try.bits_Mul64 n n (by omega) (by omega)
  unfold Dist.of Dist.v two64
  go_enter Try.func101, Try.ntmps101
  go_wp2_with ((with_reducible refine (HM _).mono ?_); rintro e w' ⟨rfl, rfl⟩)
  exact bodyPost_ret (v := .agg #[.int .u64 ((n * n / 18446744073709551616 : Nat) : Int), .int .u64 ((n * n % 18446744073709551616 : Nat) : Int)]) (by simp [results, Try.results101, go_sem]) rfl ⟨rfl, (by first | assumption | exact And.left (by assumption) | exact St.drew (by assumption) | exact St.drewN (by assumption) _ | exact (St.alloc (by assumption) _).drop | exact (St.alloc (And.left (by assumption)) _).drop)⟩


theorem add64 (x y c : Int) (hx : 0 ≤ x) (hy : 0 ≤ y) (hc0 : 0 ≤ c) (hc : c ≤ 1) (w : World) : (callFunc 159 #[.int .u64 x, .int .u64 y, .int .u64 c]).run Try.prog w =
    .ok (.value (.tuple #[.int .u64 ((x + y + c) % 18446744073709551616), .int .u64 ((x + y + c) / 18446744073709551616)])) w := by
  rw [run_callFunc_extern Try.func159 (by kernel_rfl) (by kernel_rfl) (by kernel_rfl) (e := add64Entry) (by kernel_rfl), run_add64 x y c hx hy hc0 hc]
  rfl
theorem add64_0 (x y : Int) (hx : 0 ≤ x) (hy : 0 ≤ y) (w : World) : (callFunc 159 #[.int .u64 x, .int .u64 y, .int .u64 0]).run Try.prog w =
    .ok (.value (.tuple #[.int .u64 ((x + y) % 18446744073709551616), .int .u64 ((x + y) / 18446744073709551616)])) w := by
  simpa using add64 x y 0 hx hy (Int.le_refl 0) (by decide) w
def Dist.ok (d : Dist) : Prop := 0 ≤ d.hi ∧ d.hi < 18446744073709551616 ∧ 0 ≤ d.lo ∧ d.lo < 18446744073709551616
def addD (a b : Dist) : Dist := ⟨(a.hi + b.hi + (a.lo + b.lo) / 18446744073709551616) % 18446744073709551616, (a.lo + b.lo) % 18446744073709551616⟩
set_option maxRecDepth 100000 in
set_option maxHeartbeats 400000 in
theorem add_p (a b : Dist) (ha : a.ok) (hb : b.ok) : Pure Try.prog 124 #[a.v, b.v] (addD a b).v := by
  intro m w H hS
  obtain ⟨a1, a2, a3, a4⟩ := ha
  obtain ⟨b1, b2, b3, b4⟩ := hb
  have k0 : 0 ≤ (a.lo + b.lo) / 18446744073709551616 := by omega
  have k1 : (a.lo + b.lo) / 18446744073709551616 ≤ 1 := by omega
  have e1 := add64_0 a.lo b.lo a3 b3
  have e2 := add64 a.hi b.hi _ a1 b1 k0 k1
  clear k0 k1 a1 a2 a3 a4 b1 b2 b3 b4
  unfold Dist.v addD
  go_enter Try.func124, Try.ntmps124
  go_wp2_with (first | simp only [e1] | simp only [e2])
  simp [bodyPost, results, Try.results124, go_sem]
  exact (((hS.alloc _).drop.alloc _).drop.alloc _).drop

def kDist : Kd Dist where
  K := 2
  ty := 76
  bytes := 16
  enc x := [.int .u64 x.hi, .int .u64 x.lo]
  len _ := rfl
  one := by intro x v h; simp at h; rcases h with rfl | rfl <;> rfl
  pos := by decide
theorem kDist_ok : KdOk Try.prog kDist := .of (by kernel_rfl) (by decide)
theorem addD_ok (a b : Dist) : (addD a b).ok := ⟨Int.emod_nonneg _ (by decide), Int.emod_lt_of_pos _ (by decide), Int.emod_nonneg _ (by decide), Int.emod_lt_of_pos _ (by decide)⟩
def sumD (l : List Dist) : Dist := l.foldl addD ⟨0, 0⟩
theorem sumD_snoc (l : List Dist) (k : Nat) (h : k < l.length) : sumD (l.take (k + 1)) = addD (sumD (l.take k)) l[k] := by
  unfold sumD; rw [List.take_succ_eq_append_getElem h, List.foldl_append]; rfl
theorem sumD_ok (l : List Dist) : (sumD l).ok := by
  rcases List.eq_nil_or_concat l with rfl | ⟨l', x, rfl⟩
  · exact ⟨by decide, by decide, by decide, by decide⟩
  · unfold sumD; rw [List.concat_eq_append, List.foldl_append]; exact addD_ok _ _

set_option maxRecDepth 100000 in
set_option maxHeartbeats 400000 in
theorem sum_c (m : Mem) (w : World) (F : HP) (A : Option Addr) (cap : Nat) (l : List Dist) (hl : ∀ d ∈ l, d.ok) (hR : SlR kDist m A cap l) (hS : St m w F) :
    Calls Try.prog 100 #[.slice A l.length cap] w fun e w' => e = .returned (sumD l).v ∧ St m w' F := by
  have hlm := hR.len_max
  have HS := Lib.hid hS
  clear hS
  go_enter Try.func100, Try.ntmps100
  go_wp2
  have S1 := HS.out.alloc (.cells #[.int .u64 0, .int .u64 0] 76)
  have S2 := S1.alloc (.cells #[.int .u64 0, .int .u64 0] 76)
  simp only [World.size_alloc] at S2
  generalize (w.alloc (.cells #[.int .u64 0, .int .u64 0] 76)).alloc (.cells #[.int .u64 0, .int .u64 0] 76) = W at *
  generalize w.heap.size = g at *
  clear S1 HS
  go_loopw [8] (fun i wr => ∃ k : Nat, k ≤ l.length ∧ i = .int .i64 k ∧ St m wr (pt (g + 1) (.cells #[.int .u64 (sumD (l.take k)).hi, .int .u64 (sumD (l.take k)).lo] 76 (0, 0)) ∗∗ pt g (.cells #[.int .u64 0, .int .u64 0] 76 (0, 0)) ∗∗ F)) (fun i _ => l.length - (intOf i).toNat)
  case atStart => exact ⟨0, by omega, rfl, S2⟩
  case round =>
    obtain ⟨k, hk, rfl, hSr⟩ := hrel
    have c0 : wr.cell? ⟨g + 1, 0, none⟩ = some (.int .u64 (sumD (l.take k)).hi) := hSr.cell
    have c1 : wr.cell? ⟨g + 1, 1, none⟩ = some (.int .u64 (sumD (l.take k)).lo) := hSr.cell
    have f0 : ∀ j, wr.frozen? ⟨g + 1, j, none⟩ = false := fun j => hSr.free
    have hg1 : g + 1 < wr.heap.size := hSr.lt
    have hg0 : g < wr.heap.size := hSr.drop.lt
    by_cases hlt : k < l.length
    · have hsn := Lib.hid (sumD_snoc l k hlt)
      have hok := Lib.hid (sumD_ok (l.take k))
      have hok2 := Lib.hid (hl _ (List.getElem_mem hlt))
      obtain ⟨b, off, rfl, hc⟩ := hR.at hSr hlt
      have h0 := hc 0 _ rfl
      have h1 := hc 1 _ rfl
      simp only [kDist, Nat.add_zero] at h0 h1
      clear hc
      have hSb := Lib.hid hSr
      go_wp2_with (go_at_call 124; refine (add_p _ _ hok.out hok2.out _ _ _ (hSb.out.alloc _)).mono ?_; rintro e w1 ⟨rfl, hS1⟩; (have hS2 := hS1.drop); clear hS1 h0 h1 c0 c1 f0 hg1 hg0 hSr; (have f0 : ∀ j, w1.frozen? ⟨g + 1, j, none⟩ = false := fun j => hS2.free); (have c0 : w1.cell? ⟨g + 1, 0, none⟩ = some (.int .u64 (sumD (l.take k)).hi) := hS2.cell); (have c1 : w1.cell? ⟨g + 1, 1, none⟩ = some (.int .u64 (sumD (l.take k)).lo) := hS2.cell))
      refine ⟨⟨k + 1, by omega, by go_num, ?_⟩, by simp [intOf]; omega⟩
      have h3 := (hS2.setCell (i := 0) (.int .u64 (addD (sumD (l.take k)) l[k]).hi)).setCell (i := 1) (.int .u64 (addD (sumD (l.take k)) l[k]).lo)
      rw [hsn.out]
      simpa using h3
    · obtain rfl : k = l.length := by omega
      have hSb := Lib.hid hSr
      have d0 : wr.cell? ⟨g, 0, none⟩ = some (.int .u64 0) := hSr.drop.cell
      have d1 : wr.cell? ⟨g, 1, none⟩ = some (.int .u64 0) := hSr.drop.cell
      have f1 : ∀ j, wr.frozen? ⟨g, j, none⟩ = false := fun j => hSr.drop.free
      have h3 := Lib.hid ((hSr.drop.setCell (i := 0) (.int .u64 (sumD (l.take l.length)).hi)).setCell (i := 1) (.int .u64 (sumD (l.take l.length)).lo))
      clear hSr
      go_wp2_with fail
      rw [List.take_length] at h3
      exact ret_cell rfl rfl h3.out.at (by kernel_rfl) (by kernel_rfl) rfl ⟨rfl, h3.out.drop⟩

def gapN (a b : Nat) : Nat := max a b - min a b
def distN (x0 y0 x1 y1 : Nat) : Nat := gapN x0 x1 * gapN x0 x1 + gapN y0 y1 * gapN y0 y1
theorem sumD_two (a b : Nat) (ha : a < 18446744073709551616) (hb : b < 18446744073709551616) : sumD [Dist.of a, Dist.of b] = Dist.of (a + b) := by
  simp only [sumD, List.foldl_cons, List.foldl_nil, addD, Dist.of, two64, Dist.mk.injEq]
  omega
theorem Dist.of_ok (n : Nat) (h : n < 340282366920938463463374607431768211456) : (Dist.of n).ok := by
  simp only [Dist.ok, Dist.of, two64]; omega
theorem gapN_lt {a b : Nat} (ha : a < 4294967296) (hb : b < 4294967296) : gapN a b < 4294967296 := by unfold gapN; omega
theorem sq_lt {a : Nat} (ha : a < 4294967296) : a * a < 18446744073709551616 := by
  have : a * a ≤ 4294967295 * 4294967295 := Nat.mul_le_mul (by omega) (by omega)
  omega
theorem gap_pN (a b : Nat) (ha : a < 4294967296) (hb : b < 4294967296) : Pure Try.prog 102 #[.int .u32 a, .int .u32 b] (.int .u32 (gapN a b)) := by
  have h := gap_p a b (by omega) (by omega)
  rwa [show max (a : Int) b - min (a : Int) b = (gapN a b : Nat) by unfold gapN; omega] at h
set_option maxRecDepth 100000 in
set_option maxHeartbeats 400000 in
theorem between_p (x0 y0 x1 y1 : Nat) (h1 : x0 < 4294967296) (h2 : y0 < 4294967296) (h3 : x1 < 4294967296) (h4 : y1 < 4294967296) :
    Pure Try.prog 69 #[.int .u32 x0, .int .u32 y0, .int .u32 x1, .int .u32 y1] (Dist.of (distN x0 y0 x1 y1)).v := by
  intro m w H hS
  have g1 := gapN_lt h1 h3
  have g2 := gapN_lt h2 h4
  have G1 := Lib.hid (gap_pN x0 x1 h1 h3)
  have G2 := Lib.hid (gap_pN y0 y1 h2 h4)
  have Q1 := Lib.hid (square_p (gapN x0 x1) g1)
  have Q2 := Lib.hid (square_p (gapN y0 y1) g2)
  have hd := sumD_two _ _ (sq_lt g1) (sq_lt g2)
  have ho1 := Dist.of_ok (gapN x0 x1 * gapN x0 x1) (by have := sq_lt g1; omega)
  have ho2 := Dist.of_ok (gapN y0 y1 * gapN y0 y1) (by have := sq_lt g2; omega)
  unfold distN
  rw [← hd]
  generalize gapN x0 x1 = a at *
  generalize gapN y0 y1 = b at *
  have Q1' : Hid (Pure Try.prog 101 #[.int .u32 a] (.agg #[.int .u64 (Dist.of (a * a)).hi, .int .u64 (Dist.of (a * a)).lo])) := Q1.out
  have Q2' : Hid (Pure Try.prog 101 #[.int .u32 b] (.agg #[.int .u64 (Dist.of (b * b)).hi, .int .u64 (Dist.of (b * b)).lo])) := Q2.out
  generalize Dist.of (a * a) = da at *
  generalize Dist.of (b * b) = db at *
  clear g1 g2 hd Q1 Q2
  have HO1 := Lib.hid ho1
  have HO2 := Lib.hid ho2
  clear ho1 ho2 h1 h2 h3 h4
  go_enter Try.func69, Try.ntmps69
  go_wp2_with fail
  have S0 := hS.alloc (.cells #[.int .u64 0, .int .u64 0] 76)
  generalize w.alloc (.cells #[.int .u64 0, .int .u64 0] 76) = W at *
  generalize w.heap.size = g at *
  clear hS
  refine (G1.out.at S0).mono ?_; rintro e w1 ⟨rfl, S1⟩; clear S0
  go_wp2_with fail
  refine (Q1'.out.at S1).mono ?_; rintro e w2 ⟨rfl, S2⟩; clear S1
  go_wp2_with fail
  refine (G2.out.at S2).mono ?_; rintro e w3 ⟨rfl, S3⟩; clear S2
  go_wp2_with fail
  refine (Q2'.out.at S3).mono ?_; rintro e w4 ⟨rfl, S4⟩; clear S3
  go_wp2_with fail
  obtain ⟨m1, l1, S5, R5⟩ := SlR.fresh (k := kDist) [da, db] S4 _ rfl (by simp)
  refine (sum_c m1 _ _ _ _ [da, db] (by intro d hd; simp at hd; rcases hd with rfl | rfl; exact HO1.out; exact HO2.out) R5 S5).mono ?_; rintro e w5 ⟨rfl, S6⟩
  have L1 := Lib.hid l1
  clear S4 S5 R5 l1
  have c0 : w5.cell? ⟨g, 0, none⟩ = some (.int .u64 0) := S6.cell
  have c1 : w5.cell? ⟨g, 1, none⟩ = some (.int .u64 0) := S6.cell
  have f1 : ∀ j, w5.frozen? ⟨g, j, none⟩ = false := fun j => S6.free
  have h3 := Lib.hid ((S6.setCell (i := 0) (.int .u64 (sumD [da, db]).hi)).setCell (i := 1) (.int .u64 (sumD [da, db]).lo))
  clear S6
  go_wp2_with fail
  exact ret_cell rfl rfl h3.out.at (by kernel_rfl) (by kernel_rfl) rfl ⟨rfl, h3.out.drop.weak L1.out⟩
end Go.Proofs
