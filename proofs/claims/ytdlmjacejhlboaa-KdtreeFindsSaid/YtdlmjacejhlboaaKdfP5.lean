/- Contracts of the given program, for the proofs of its statements: SymMerge, Compact, SortP, Blocks, SymMerge2, SymMerge3. No conditions beyond those in each theorem. -/
import Derived.Test.YtdlmjacejhlboaaKdfP4
import Derived.Test.YtdlmjacejhlboaaKdfP3
import Derived.Test.YtdlmjacejhlboaaKdfP2
namespace Go.Proofs
open Go.Croft Go.RowKit

def lk (l : List Pnt) (c : Nat) : Int := (l.getD c ⟨0, 0, 0, ⟨#[]⟩⟩).id
theorem lk_eq {l : List Pnt} {c : Nat} (h : c < l.length) : lk l c = l[c].id := by
  unfold lk; rw [List.getD_eq_getElem?_getD, List.getElem?_eq_getElem h]; rfl
theorem lk_mid {p X q : List Pnt} {c : Nat} (h1 : p.length ≤ c) (h2 : c < p.length + X.length) : lk (p ++ X ++ q) c = lk X (c - p.length) := by
  unfold lk
  rw [List.getD_eq_getElem?_getD, List.getD_eq_getElem?_getD, List.getElem?_append_left (by simp; omega), List.getElem?_append_right h1]
theorem lk_sorted {X : List Pnt} (h : SortedBy Pnt.id X) {i j : Nat} (hij : i ≤ j) (hj : j < X.length) : lk X i ≤ lk X j := by
  rw [lk_eq (by omega), lk_eq hj]
  by_cases e : i = j
  · subst e; exact Int.le_refl _
  · unfold SortedBy at h; rw [List.pairwise_iff_getElem] at h
    exact h i j (by omega) hj (by omega)

/-- the cells of one point -/
theorem ptsAt {m : Mem} {w : World} {F : HP} {g off cap c : Nat} {l : List Pnt} (hS : St m w (star (SlO kPt (some ⟨g, off, none⟩) cap l) F)) (h : c < l.length) : w.cell? ⟨g, off + c * 4, none⟩ = some (.int .i64 (l[c]).id) ∧ w.cell? ⟨g, off + c * 4 + 1, none⟩ = some (.int .u32 (l[c]).x) ∧ w.cell? ⟨g, off + c * 4 + 2, none⟩ = some (.int .u32 (l[c]).y) ∧ w.cell? ⟨g, off + c * 4 + 3, none⟩ = some (.string (l[c]).data) := by
  obtain ⟨b, off', e, hc, _⟩ := SlO.at hS h
  cases e
  have c0 := hc 0 _ rfl
  have c1 := hc 1 _ rfl
  have c2 := hc 2 _ rfl
  have c3 := hc 3 _ rfl
  simp only [kPt, Nat.add_zero] at c0 c1 c2 c3
  exact ⟨c0, c1, c2, c3⟩
theorem addrOf {m : Mem} {w : World} {F : HP} {A : Option Addr} {cap : Nat} {l : List Pnt} (hS : St m w (star (SlO kPt A cap l) F)) (h : 0 < l.length) : ∃ g off, A = some ⟨g, off, none⟩ := by
  obtain ⟨g, off, e, _⟩ := SlO.at hS h
  exact ⟨g, off, e⟩

set_option maxRecDepth 100000 in
set_option maxHeartbeats 1600000 in
/-- symMerge where the left half is one element -/
theorem symMerge1_c (m : Mem) (w : World) (F : HP) (A : Option Addr) (cap len a M B : Nat) (l p Y r : List Pnt) (x : Pnt) (hl : l = p ++ [x] ++ Y ++ r) (hlen : len = l.length) (ha : a = p.length) (hM : M = a + 1) (hB : B = M + Y.length) (hY : 0 < Y.length)
    (hn : l.length ≤ 1000000000) (hs : SortedBy Pnt.id Y) (hS : St m w (star (SlO kPt A cap l) F)) :
    Calls Try.prog 147 #[.slice A len cap, .int .i64 a, .int .i64 M, .int .i64 B, .func (.func 76) #[] #[]] w fun e w' => e = .returned (.tuple #[]) ∧ ∃ C, SortedBy Pnt.id C ∧ Stab Pnt.id ([x] ++ Y) C ∧ St m w' (star (SlO kPt A cap (p ++ C ++ r)) F) := by
  have hB2 : B ≤ len := by subst hlen hl ha hM hB; simp; omega
  have hx : lk l a = x.id := by
    subst hl ha; rw [List.append_assoc, List.append_assoc, ← List.append_assoc, lk_mid (Nat.le_refl _) (by simp)]; simp [lk]
  have hy : ∀ c, M ≤ c → c < B → lk l c = lk Y (c - M) := fun c h1 h2 => by
    have e : l = (p ++ [x]) ++ Y ++ r := by rw [hl]
    have e2 : (p ++ [x]).length = M := by simp; omega
    rw [e, lk_mid (by omega) (by omega), e2]
  have hmono : ∀ i j, M ≤ i → i ≤ j → j < B → lk l i ≤ lk l j := fun i j h1 h2 h3 => by
    rw [hy i h1 (by omega), hy j (by omega) h3]; exact lk_sorted hs (by omega) (by omega)
  have HM := Lib.hid hmono
  have HX := Lib.hid hx
  have HY := Lib.hid hy
  have HS := Lib.hid hs
  have E := Lib.hid (And.intro hl (And.intro hlen ha))
  have hlen2 : len ≤ 1000000000 := by omega
  have w1 : IntKind.i64.wrap ((M : Int) - a) = (M : Int) - a := i64_keep _ (by omega) (by omega)
  have q1 : ((M : Int) - a == 1) = true := by simp; omega
  have EB := Lib.hid (And.intro hM (And.intro hB hY))
  have hMB : M ≤ B := by omega
  have haM : a < M := by omega
  obtain ⟨g, off, rfl⟩ := addrOf hS (show 0 < l.length by omega)
  have hll : l.length = len := hlen.symm
  clear hmono hx hy hs hl hlen ha hn hM hB hY
  go_enter Try.func147, Try.ntmps147
  go_wp2_with fail
  go_loopg [10, 11] (B - M) (fun gr q t wr => ∃ i j : Nat, q = .int .i64 i ∧ t = .int .i64 j ∧ M ≤ i ∧ i ≤ j ∧ j ≤ B ∧ j - i ≤ gr ∧ Hid (∀ c, M ≤ c → c < i → lk l c < lk l a) ∧ Hid (∀ c, j ≤ c → c < B → lk l a ≤ lk l c) ∧ St m wr (star (SlO kPt (some ⟨g, off, none⟩) cap l) F))
  case atStart => exact ⟨M, B, rfl, rfl, Nat.le_refl _, hMB, Nat.le_refl _, Nat.le_refl _, Lib.hid (by omega), Lib.hid (by omega), hS⟩
  case round =>
    obtain ⟨i, j, rfl, rfl, h1, h2, h3, hg, hlo, hhi, hSr⟩ := hrel
    clear hS
    by_cases hlt : i < j
    · have hlt' : (i : Int) < j := by omega
      have w2 : IntKind.i64.wrap ((i : Int) + j) = (i : Int) + j := i64_keep _ (by omega) (by omega)
      have hmid : ((i : Int) + j) / 2 = ((i + j) / 2 : Nat) := by omega
      obtain ⟨h, hh⟩ : ∃ h, h = (i + j) / 2 := ⟨_, rfl⟩
      have hh1 : i ≤ h ∧ h < j := by omega
      rw [← hh] at hmid
      clear hh
      have hhl : h < l.length := by omega
      have hal : a < l.length := by omega
      have HOLD := Lib.hid fun (W : World) (hW : St m W (star (SlO kPt (some ⟨g, off, none⟩) cap l) F)) => (⟨hW, ptsAt hW hhl, ptsAt hW hal⟩ : St m W (star (SlO kPt (some ⟨g, off, none⟩) cap l) F) ∧ (W.cell? ⟨g, off + h * 4, none⟩ = some (.int .i64 (l[h]).id) ∧ W.cell? ⟨g, off + h * 4 + 1, none⟩ = some (.int .u32 (l[h]).x) ∧ W.cell? ⟨g, off + h * 4 + 2, none⟩ = some (.int .u32 (l[h]).y) ∧ W.cell? ⟨g, off + h * 4 + 3, none⟩ = some (.string (l[h]).data)) ∧ W.cell? ⟨g, off + a * 4, none⟩ = some (.int .i64 (l[a]).id) ∧ W.cell? ⟨g, off + a * 4 + 1, none⟩ = some (.int .u32 (l[a]).x) ∧ W.cell? ⟨g, off + a * 4 + 2, none⟩ = some (.int .u32 (l[a]).y) ∧ W.cell? ⟨g, off + a * 4 + 3, none⟩ = some (.string (l[a]).data))
      have hs0 := HOLD.out _ hSr
      have b1 : (0 : Int) ≤ h := by omega
      have b2 : (h : Int) < len := by omega
      have b3 : (0 : Int) ≤ a := by omega
      have b4 : (a : Int) < len := by omega
      have w3 : IntKind.i64.wrap ((h : Int) + 1) = (h : Int) + 1 := i64_keep _ (by omega) (by omega)
      have HLL := Lib.hid hll
      have ek := Lib.hid (lk_eq hhl)
      have ea := Lib.hid (lk_eq hal)
      by_cases hc : l[h].id < l[a].id
      · have hcm : cmpI l[h].id l[a].id < 0 := (cmpI_neg _ _).2 hc
        have HC := Lib.hid hc
        clear hll hc
        go_wp2_with fail
        go_region_held3 (fun W => St m W (star (SlO kPt (some ⟨g, off, none⟩) cap l) F) ∧ (W.cell? ⟨g, off + h * 4, none⟩ = some (.int .i64 (l[h]).id) ∧ W.cell? ⟨g, off + h * 4 + 1, none⟩ = some (.int .u32 (l[h]).x) ∧ W.cell? ⟨g, off + h * 4 + 2, none⟩ = some (.int .u32 (l[h]).y) ∧ W.cell? ⟨g, off + h * 4 + 3, none⟩ = some (.string (l[h]).data)) ∧ W.cell? ⟨g, off + a * 4, none⟩ = some (.int .i64 (l[a]).id) ∧ W.cell? ⟨g, off + a * 4 + 1, none⟩ = some (.int .u32 (l[a]).x) ∧ W.cell? ⟨g, off + a * 4 + 2, none⟩ = some (.int .u32 (l[a]).y) ∧ W.cell? ⟨g, off + a * 4 + 3, none⟩ = some (.string (l[a]).data)) (exact HOLD.out _ (by first | assumption | exact And.left (by assumption) | exact St.drew (by assumption) | exact St.drewN (by assumption) _ | exact (St.alloc (by assumption) _).drop | exact (St.alloc (And.left (by assumption)) _).drop))
          (first | (go_at_call 76; refine ((ptCmp_p l[h] l[a]).at (m := m) (by exact And.left (by assumption))).mono ?_; rintro e w' ⟨rfl, hS'⟩))
        go_wp2
        go_roundg (j - (h + 1))
        case measure => omega
        case rel => exact ⟨h + 1, j, by go_num, rfl, by omega, by omega, h3, Nat.le_refl _, Lib.hid (fun c c1 c2 => by have := HM.out c h c1 (by omega) (by omega); rw [ek.out] at this; rw [ea.out]; have := HC.out; omega), hhi, hS'⟩
      · have hcm : ¬ cmpI l[h].id l[a].id < 0 := fun h => hc ((cmpI_neg _ _).1 h)
        have HC := Lib.hid hc
        clear hll hc
        go_wp2_with fail
        go_region_held3 (fun W => St m W (star (SlO kPt (some ⟨g, off, none⟩) cap l) F) ∧ (W.cell? ⟨g, off + h * 4, none⟩ = some (.int .i64 (l[h]).id) ∧ W.cell? ⟨g, off + h * 4 + 1, none⟩ = some (.int .u32 (l[h]).x) ∧ W.cell? ⟨g, off + h * 4 + 2, none⟩ = some (.int .u32 (l[h]).y) ∧ W.cell? ⟨g, off + h * 4 + 3, none⟩ = some (.string (l[h]).data)) ∧ W.cell? ⟨g, off + a * 4, none⟩ = some (.int .i64 (l[a]).id) ∧ W.cell? ⟨g, off + a * 4 + 1, none⟩ = some (.int .u32 (l[a]).x) ∧ W.cell? ⟨g, off + a * 4 + 2, none⟩ = some (.int .u32 (l[a]).y) ∧ W.cell? ⟨g, off + a * 4 + 3, none⟩ = some (.string (l[a]).data)) (exact HOLD.out _ (by first | assumption | exact And.left (by assumption) | exact St.drew (by assumption) | exact St.drewN (by assumption) _ | exact (St.alloc (by assumption) _).drop | exact (St.alloc (And.left (by assumption)) _).drop))
          (first | (go_at_call 76; refine ((ptCmp_p l[h] l[a]).at (m := m) (by exact And.left (by assumption))).mono ?_; rintro e w' ⟨rfl, hS'⟩))
        go_wp2
        go_roundg (h - i)
        case measure => omega
        case rel => exact ⟨i, h, rfl, rfl, h1, by omega, by omega, Nat.le_refl _, hlo, Lib.hid (fun c c1 c2 => by have := HM.out h c (by omega) c1 c2; rw [ek.out] at this; rw [ea.out]; have := HC.out; omega), hS'⟩
    · obtain rfl : i = j := by omega
      have w3 : IntKind.i64.wrap ((i : Int) - 1) = (i : Int) - 1 := i64_keep _ (by omega) (by omega)
      have HLL := Lib.hid hll
      have mixed : Try.prog.follows .mixedOrders = true := by kernel_rfl
      clear hll
      go_wp2_with fail
      go_loopg [13] (i - 1 - a) (fun gr q wr => ∃ (k : Nat) (l' : List Pnt), q = .int .i64 k ∧ a ≤ k ∧ k + gr + 1 = i ∧ Hid (l'.length = len) ∧ Hid (l' = (p ++ Y.take (k - a)) ++ x :: (Y.drop (k - a) ++ r)) ∧ St m wr (star (SlO kPt (some ⟨g, off, none⟩) cap l') F))
      case atStart => exact ⟨a, l, rfl, Nat.le_refl _, by omega, HLL, Lib.hid (by rw [E.out.1]; simp), hSr⟩
      case round =>
        obtain ⟨k, l', rfl, hk1, hk2, hll', hl', hSk⟩ := hrel
        by_cases hlt2 : k + 1 < i
        · have hlt3 : (k : Int) < (i : Int) - 1 := by omega
          have hk3 : k < l'.length := by have := hll'.out; omega
          have hk4 : k + 1 < l'.length := by have := hll'.out; omega
          obtain ⟨c0, c1, c2, c3⟩ := ptsAt hSk hk3
          obtain ⟨d0, d1, d2, d3⟩ := ptsAt hSk hk4
          obtain ⟨_, _, e', _, hf⟩ := SlO.at hSk hk3
          cases e'
          have b1 : (0 : Int) ≤ k := by omega
          have b2 : (k : Int) < len := by omega
          have b3 : (0 : Int) ≤ (k : Int) + 1 := by omega
          have b4 : (k : Int) + 1 < len := by omega
          have w4 : IntKind.i64.wrap ((k : Int) + 1) = (k : Int) + 1 := i64_keep _ (by omega) (by omega)
          have t1 : ((k : Int) + 1).toNat = k + 1 := by omega
          have S1 := SlO.put4 (x := l'[k + 1]) hSk hk3 rfl rfl
          have S2 := SlO.put4 (x := l'[k]) S1 (i := k + 1) (by simpa using hk4) rfl rfl
          have hty : k - a < Y.length := by have := EB.out; omega
          have key : (l'.set k l'[k + 1]).set (k + 1) l'[k] = (p ++ Y.take (k + 1 - a)) ++ x :: (Y.drop (k + 1 - a) ++ r) := by
            have e : l' = (p ++ Y.take (k - a)) ++ x :: ([] ++ Y[k - a] :: (Y.drop (k - a + 1) ++ r)) := by
              rw [hl'.out, List.drop_eq_getElem_cons hty]; simp only [List.cons_append, List.nil_append]
            have hpa := E.out.2.2
            rw [swap_mid e (by simp; omega) (by simp; omega) hk3 hk4, show k + 1 - a = k - a + 1 by omega, List.take_succ_eq_append_getElem hty]
            simp only [List.append_assoc, List.cons_append, List.nil_append]
          have KEY := Lib.hid key
          have S3 := Lib.hid S2
          clear S1 S2 key hSk hSr
          go_wp2_with fail
          go_big_region_o
          go_wp2
          go_roundg (gk - 1)
          case measure => omega
          case rel => exact ⟨k + 1, _, by go_num, by omega, by omega, Lib.hid (by simpa using hll'.out), KEY, S3.out.drew⟩
        · have hlt3 : ¬ (k : Int) < (i : Int) - 1 := by omega
          go_wp2
          refine bodyPost_ret (results_none rfl _ _ _) rfl ?_
          obtain rfl : i = k + 1 := by omega
          have e1 := EB.out
          have hE := E.out
          have hd : Y.take (k - a) ++ Y.drop (k - a) = Y := by simp
          have hY1 : ∀ y ∈ Y.take (k - a), y.id < x.id := fun y hy => by
            obtain ⟨c, hc, rfl⟩ := List.getElem_of_mem hy
            simp at hc
            have := hlo.out (M + c) (by omega) (by omega)
            rw [HX.out, HY.out (M + c) (by omega) (by omega), Nat.add_sub_cancel_left, lk_eq (by omega)] at this
            rw [List.getElem_take]; exact this
          have hY2 : ∀ y ∈ Y.drop (k - a), x.id ≤ y.id := fun y hy => by
            obtain ⟨c, hc, rfl⟩ := List.getElem_of_mem hy
            simp at hc
            have := hhi.out (M + (k - a + c)) (by omega) (by omega)
            rw [HX.out, HY.out _ (by omega) (by omega), Nat.add_sub_cancel_left, lk_eq (by omega)] at this
            rw [List.getElem_drop]; exact this
          have hm := merge_left (key := Pnt.id) (x := x) (Y1 := Y.take (k - a)) (Y2 := Y.drop (k - a)) (by rw [hd]; exact HS.out) hY1 hY2
          rw [hd] at hm
          refine ⟨rfl, _, hm.1, hm.2, ?_⟩
          have e2 : l' = p ++ (Y.take (k - a) ++ [x] ++ Y.drop (k - a)) ++ r := by rw [hl'.out]; simp
          rw [List.append_assoc] at e2
          rw [← e2]; exact hSk
end Go.Proofs

namespace Go.Proofs
open Go.Croft Go.RowKit

set_option maxRecDepth 100000 in
/-- the closure of kdtree.New -/
theorem sameId_p (a b : Pnt) : Pure Try.prog 58 #[a.v, b.v] (.bool (a.id == b.id)) := by
  intro m w H hS
  unfold Pnt.v
  go_enter Try.func58, Try.ntmps58
  go_wp2
  go_ret
  exact ⟨rfl, ((((hS.alloc _).drop).alloc _).drop)⟩

set_option maxRecDepth 100000 in
set_option maxHeartbeats 1600000 in
theorem compactPt_c (m : Mem) (w : World) (F : HP) (A : Option Addr) (cap len : Nat) (l : List Pnt) (hlen : len = l.length) (h9 : len ≤ 1000000000) (hS : St m w (star (SlO kPt A cap l) F)) :
    Calls Try.prog 57 #[.slice A len cap, .func (.func 58) #[] #[]] w fun e w' => ∃ A', e = .returned (.slice A' (compP l).length cap) ∧ St m w' (star (SlO kPt A' cap (compP l)) F) := by
  by_cases h2 : len < 2
  · have h3 : (len : Int) < 2 := by omega
    have H := Lib.hid (And.intro hlen (compP_one (l := l) (by omega)))
    clear hlen
    go_enter Try.func57, Try.ntmps57
    go_wp2
    go_ret
    rw [H.out.2, ← H.out.1]
    exact ⟨A, rfl, hS⟩
  · have h3 : ¬ (len : Int) < 2 := by omega
    obtain ⟨g, off, rfl⟩ := addrOf hS (show 0 < l.length by omega)
    have hcap : len ≤ cap := hlen ▸ SlO.le_cap hS
    have hcm := SlO.le_max hS
    have hll := Lib.hid hlen.symm
    clear hlen
    go_enter Try.func57, Try.ntmps57
    go_wp2_with fail
    go_loopg [5] len (fun gr q wr => ∃ k : Nat, q = .int .i64 k ∧ 1 ≤ k ∧ k ≤ len ∧ len - k ≤ gr ∧ Hid (compP (l.take k) = l.take k) ∧ St m wr (star (SlO kPt (some ⟨g, off, none⟩) cap l) F))
    case atStart => exact ⟨1, by go_num, Nat.le_refl _, by omega, by omega, Lib.hid (compP_one (by simp; omega)), hS⟩
    case round =>
      obtain ⟨k, rfl, hk1, hk2, hg, hcp, hSr⟩ := hrel
      clear hS
      by_cases hlt : k < len
      · have hlt' : (k : Int) < len := by omega
        obtain ⟨z, hz⟩ : ∃ z, z = k - 1 := ⟨_, rfl⟩
        have hkl : k < l.length := by rw [hll.out]; exact hlt
        have hzl : z < l.length := by omega
        have w1 : IntKind.i64.wrap ((k : Int) - 1) = z := by
          rw [show (k : Int) - 1 = z by omega]; exact i64_keep _ (by omega) (by omega)
        have w2 : IntKind.i64.wrap ((k : Int) + 1) = (k : Int) + 1 := i64_keep _ (by omega) (by omega)
        have b1 : (0 : Int) ≤ k := by omega
        have b3 : (0 : Int) ≤ z := by omega
        have b4 : (z : Int) < len := by omega
        have HOLD := Lib.hid fun (W : World) (hW : St m W (star (SlO kPt (some ⟨g, off, none⟩) cap l) F)) => (⟨hW, ptsAt hW hkl, ptsAt hW hzl⟩ : St m W (star (SlO kPt (some ⟨g, off, none⟩) cap l) F) ∧ (W.cell? ⟨g, off + k * 4, none⟩ = some (.int .i64 (l[k]).id) ∧ W.cell? ⟨g, off + k * 4 + 1, none⟩ = some (.int .u32 (l[k]).x) ∧ W.cell? ⟨g, off + k * 4 + 2, none⟩ = some (.int .u32 (l[k]).y) ∧ W.cell? ⟨g, off + k * 4 + 3, none⟩ = some (.string (l[k]).data)) ∧ W.cell? ⟨g, off + z * 4, none⟩ = some (.int .i64 (l[z]).id) ∧ W.cell? ⟨g, off + z * 4 + 1, none⟩ = some (.int .u32 (l[z]).x) ∧ W.cell? ⟨g, off + z * 4 + 2, none⟩ = some (.int .u32 (l[z]).y) ∧ W.cell? ⟨g, off + z * 4 + 3, none⟩ = some (.string (l[z]).data))
        have hs0 := HOLD.out _ hSr
        have hstep := compP_step (l := l) (k := k) (by omega) hkl
        have HSTEP : Hid (compP (l.take (k + 1)) = compP (l.take k) ++ if l[z].id = l[k].id then [] else [l[k]]) := by
          simp only [hz]; exact hstep
        have HZ := Lib.hid hz
        clear hstep hz
        by_cases hc : l[k].id = l[z].id
        · have hq : (l[k].id == l[z].id) = true := by simp [hc]
          have HC := Lib.hid hc
          have h5 := fun w => run_slice_from (P := Try.prog) kPt_ok 22 Try.underlying22 (some ⟨g, off, none⟩) len cap k (k : Int) rfl .i64 (by omega) hcap w
          rw [sliceAddr_of (by omega), if_neg (by omega)] at h5
          simp only [kPt] at h5
          obtain ⟨n2, hn2⟩ : ∃ n2, n2 = len - k := ⟨_, rfl⟩
          have hn2' : n2 + k = len := by omega
          have hn2m : n2 ≤ 1000000000 := by omega
          rw [← hn2] at h5
          clear hc hn2
          go_wp2_with fail
          go_region_held3 (fun W => St m W (star (SlO kPt (some ⟨g, off, none⟩) cap l) F) ∧ (W.cell? ⟨g, off + k * 4, none⟩ = some (.int .i64 (l[k]).id) ∧ W.cell? ⟨g, off + k * 4 + 1, none⟩ = some (.int .u32 (l[k]).x) ∧ W.cell? ⟨g, off + k * 4 + 2, none⟩ = some (.int .u32 (l[k]).y) ∧ W.cell? ⟨g, off + k * 4 + 3, none⟩ = some (.string (l[k]).data)) ∧ W.cell? ⟨g, off + z * 4, none⟩ = some (.int .i64 (l[z]).id) ∧ W.cell? ⟨g, off + z * 4 + 1, none⟩ = some (.int .u32 (l[z]).x) ∧ W.cell? ⟨g, off + z * 4 + 2, none⟩ = some (.int .u32 (l[z]).y) ∧ W.cell? ⟨g, off + z * 4 + 3, none⟩ = some (.string (l[z]).data)) (exact HOLD.out _ (by first | assumption | exact And.left (by assumption) | exact St.drew (by assumption) | exact St.drewN (by assumption) _ | exact (St.alloc (by assumption) _).drop | exact (St.alloc (And.left (by assumption)) _).drop))
            (first | (go_at_call 58; refine ((sameId_p l[k] l[z]).at (m := m) (by exact And.left (by assumption))).mono ?_; rintro e w' ⟨rfl, hS'⟩))
          go_wp2_with fail
          clear hs0 hSr
          have h0start : Hid (l.take k = compP (l.take (k + 1))) := Lib.hid (by rw [HSTEP.out, if_pos HC.out.symm, List.append_nil, hcp.out])
          obtain ⟨wo, rfl⟩ : ∃ wo : World, wo = wr := ⟨_, rfl⟩
          go_loopg [5, 7] n2 (fun gr q t wr => ∃ (k2 kk : Nat) (l' : List Pnt), q = .int .i64 kk ∧ t = .int .i64 k2 ∧ 1 ≤ k2 ∧ k2 ≤ n2 ∧ kk + 1 ≤ k + k2 ∧ k ≤ kk ∧ n2 - k2 ≤ gr ∧ Hid (l'.length = len) ∧ Hid (l'.take kk = compP (l.take (k + k2))) ∧ Hid (∀ i, k + k2 ≤ i + 1 → l'[i]? = l[i]?) ∧ St m wr (star (SlO kPt (some ⟨g, off, none⟩) cap l') F))
          case atStart => exact ⟨1, k, l, rfl, by go_num, Nat.le_refl _, by omega, Nat.le_refl _, Nat.le_refl _, by omega, hll, h0start, Lib.hid (fun _ _ => rfl), hS'⟩
          case round =>
            clear hS' HOLD HSTEP HC hq HZ h0start hcp
            obtain ⟨k2, kk, l', rfl, rfl, hk3, hk4, hk5, hk6, hg2, hl', htk, hsame, hSr⟩ := hrel
            by_cases hlt2 : k2 < n2
            · have hlt3 : (k2 : Int) < n2 := by omega
              obtain ⟨z2, hz2⟩ : ∃ z2, z2 = k2 - 1 := ⟨_, rfl⟩
              obtain ⟨i1, hi1⟩ : ∃ i1, i1 = k + k2 := ⟨_, rfl⟩
              obtain ⟨i0, hi0⟩ : ∃ i0, i0 = k + z2 := ⟨_, rfl⟩
              have h1l : i1 < l.length := by rw [hll.out]; omega
              have h0l : i0 < l.length := by rw [hll.out]; omega
              have h1l' : i1 < l'.length := by rw [hl'.out]; omega
              have h0l' : i0 < l'.length := by rw [hl'.out]; omega
              have hkl' : kk < l'.length := by rw [hl'.out]; omega
              have e1 : l'[i1] = l[i1] := by have := hsame.out i1 (by omega); rw [List.getElem?_eq_getElem h1l', List.getElem?_eq_getElem h1l] at this; exact Option.some.inj this
              have e0 : l'[i0] = l[i0] := by have := hsame.out i0 (by omega); rw [List.getElem?_eq_getElem h0l', List.getElem?_eq_getElem h0l] at this; exact Option.some.inj this
              have HSTEP : Hid (compP (l.take (k + (k2 + 1))) = compP (l.take (k + k2)) ++ if l[i0].id = l[i1].id then [] else [l[i1]]) := by
                have hs := compP_step (l := l) (k := k + k2) (by omega) (by rw [hll.out]; omega)
                have c0 : i0 = k + k2 - 1 := by omega
                simp only [hi1, c0]; exact hs
              have w3 : IntKind.i64.wrap ((k2 : Int) - 1) = z2 := by
                rw [show (k2 : Int) - 1 = z2 by omega]; exact i64_keep _ (by omega) (by omega)
              have w4 : IntKind.i64.wrap ((k2 : Int) + 1) = (k2 : Int) + 1 := i64_keep _ (by omega) (by omega)
              have w5 : IntKind.i64.wrap ((kk : Int) + 1) = (kk : Int) + 1 := i64_keep _ (by omega) (by omega)
              have b5 : (0 : Int) ≤ k2 := by omega
              have b6 : (0 : Int) ≤ z2 := by omega
              have b7 : (z2 : Int) < n2 := by omega
              have b8 : (0 : Int) ≤ kk := by omega
              have b9 : (kk : Int) < len := by omega
              have a1 : off + i1 * 4 = off + k * 4 + k2 * 4 := by omega
              have a0 : off + i0 * 4 = off + k * 4 + z2 * 4 := by omega
              have HOLD := Lib.hid fun (W : World) (hW : St m W (star (SlO kPt (some ⟨g, off, none⟩) cap l') F)) => (⟨hW, by have := ptsAt hW h1l'; rw [e1, a1] at this; exact this, by have := ptsAt hW h0l'; rw [e0, a0] at this; exact this⟩ : St m W (star (SlO kPt (some ⟨g, off, none⟩) cap l') F) ∧ (W.cell? ⟨g, off + k * 4 + k2 * 4, none⟩ = some (.int .i64 (l[i1]).id) ∧ W.cell? ⟨g, off + k * 4 + k2 * 4 + 1, none⟩ = some (.int .u32 (l[i1]).x) ∧ W.cell? ⟨g, off + k * 4 + k2 * 4 + 2, none⟩ = some (.int .u32 (l[i1]).y) ∧ W.cell? ⟨g, off + k * 4 + k2 * 4 + 3, none⟩ = some (.string (l[i1]).data)) ∧ W.cell? ⟨g, off + k * 4 + z2 * 4, none⟩ = some (.int .i64 (l[i0]).id) ∧ W.cell? ⟨g, off + k * 4 + z2 * 4 + 1, none⟩ = some (.int .u32 (l[i0]).x) ∧ W.cell? ⟨g, off + k * 4 + z2 * 4 + 2, none⟩ = some (.int .u32 (l[i0]).y) ∧ W.cell? ⟨g, off + k * 4 + z2 * 4 + 3, none⟩ = some (.string (l[i0]).data))
              have hs0 := HOLD.out _ hSr
              obtain ⟨kc0, kc1, kc2, kc3⟩ := ptsAt hSr hkl'
              obtain ⟨_, _, e', _, hf⟩ := SlO.at hSr hkl'
              cases e'
              have HI := Lib.hid (And.intro hi1 hi0)
              clear hi1 hi0 a1 a0 hz2 e1 e0 hf kc0 kc1 kc2 kc3
              by_cases hc : l[i1].id = l[i0].id
              · have hq : (l[i1].id == l[i0].id) = true := by simp [hc]
                have HC := Lib.hid hc
                clear hc
                go_wp2_with fail
                go_region_held3 (fun W => St m W (star (SlO kPt (some ⟨g, off, none⟩) cap l') F) ∧ (W.cell? ⟨g, off + k * 4 + k2 * 4, none⟩ = some (.int .i64 (l[i1]).id) ∧ W.cell? ⟨g, off + k * 4 + k2 * 4 + 1, none⟩ = some (.int .u32 (l[i1]).x) ∧ W.cell? ⟨g, off + k * 4 + k2 * 4 + 2, none⟩ = some (.int .u32 (l[i1]).y) ∧ W.cell? ⟨g, off + k * 4 + k2 * 4 + 3, none⟩ = some (.string (l[i1]).data)) ∧ W.cell? ⟨g, off + k * 4 + z2 * 4, none⟩ = some (.int .i64 (l[i0]).id) ∧ W.cell? ⟨g, off + k * 4 + z2 * 4 + 1, none⟩ = some (.int .u32 (l[i0]).x) ∧ W.cell? ⟨g, off + k * 4 + z2 * 4 + 2, none⟩ = some (.int .u32 (l[i0]).y) ∧ W.cell? ⟨g, off + k * 4 + z2 * 4 + 3, none⟩ = some (.string (l[i0]).data)) (exact HOLD.out _ (by first | assumption | exact And.left (by assumption) | exact St.drew (by assumption) | exact St.drewN (by assumption) _ | exact (St.alloc (by assumption) _).drop | exact (St.alloc (And.left (by assumption)) _).drop))
                  (first | (go_at_call 58; refine ((sameId_p l[i1] l[i0]).at (m := m) (by exact And.left (by assumption))).mono ?_; rintro e w' ⟨rfl, hS'⟩))
                go_wp2
                go_roundg (n2 - (k2 + 1))
                case measure => omega
                case rel => exact ⟨k2 + 1, kk, l', rfl, by go_num, by omega, by omega, by omega, hk6, Nat.le_refl _, hl', Lib.hid (by rw [HSTEP.out, if_pos HC.out.symm, List.append_nil]; exact htk.out), Lib.hid (fun i hi => hsame.out i (by omega)), hS'⟩
              · have hq : (l[i1].id == l[i0].id) = false := by simp [hc]
                have HC := Lib.hid hc
                have HP := Lib.hid fun (W : World) (hW : St m W (star (SlO kPt (some ⟨g, off, none⟩) cap l') F)) => SlO.put4 (x := l[i1]) hW hkl' rfl rfl
                have HKC := Lib.hid fun (W : World) (hW : St m W (star (SlO kPt (some ⟨g, off, none⟩) cap l') F)) => (⟨ptsAt hW hkl', by obtain ⟨_, _, e', _, hf⟩ := SlO.at hW hkl'; cases e'; exact hf⟩ : (W.cell? ⟨g, off + kk * 4, none⟩ = some (.int .i64 (l'[kk]).id) ∧ W.cell? ⟨g, off + kk * 4 + 1, none⟩ = some (.int .u32 (l'[kk]).x) ∧ W.cell? ⟨g, off + kk * 4 + 2, none⟩ = some (.int .u32 (l'[kk]).y) ∧ W.cell? ⟨g, off + kk * 4 + 3, none⟩ = some (.string (l'[kk]).data)) ∧ ∀ j, W.frozen? ⟨g, j, none⟩ = false)
                clear hc
                go_wp2_with fail
                go_region_held3 (fun W => St m W (star (SlO kPt (some ⟨g, off, none⟩) cap l') F) ∧ (W.cell? ⟨g, off + k * 4 + k2 * 4, none⟩ = some (.int .i64 (l[i1]).id) ∧ W.cell? ⟨g, off + k * 4 + k2 * 4 + 1, none⟩ = some (.int .u32 (l[i1]).x) ∧ W.cell? ⟨g, off + k * 4 + k2 * 4 + 2, none⟩ = some (.int .u32 (l[i1]).y) ∧ W.cell? ⟨g, off + k * 4 + k2 * 4 + 3, none⟩ = some (.string (l[i1]).data)) ∧ W.cell? ⟨g, off + k * 4 + z2 * 4, none⟩ = some (.int .i64 (l[i0]).id) ∧ W.cell? ⟨g, off + k * 4 + z2 * 4 + 1, none⟩ = some (.int .u32 (l[i0]).x) ∧ W.cell? ⟨g, off + k * 4 + z2 * 4 + 2, none⟩ = some (.int .u32 (l[i0]).y) ∧ W.cell? ⟨g, off + k * 4 + z2 * 4 + 3, none⟩ = some (.string (l[i0]).data)) (exact HOLD.out _ (by first | assumption | exact And.left (by assumption) | exact St.drew (by assumption) | exact St.drewN (by assumption) _ | exact (St.alloc (by assumption) _).drop | exact (St.alloc (And.left (by assumption)) _).drop))
                  (first | (go_at_call 58; refine ((sameId_p l[i1] l[i0]).at (m := m) (by exact And.left (by assumption))).mono ?_; rintro e w' ⟨rfl, hS'⟩))
                obtain ⟨⟨kc0, kc1, kc2, kc3⟩, hf⟩ := HKC.out _ hS'
                have S3 := Lib.hid (HP.out _ hS')
                clear HKC HP
                go_wp2
                go_roundg (n2 - (k2 + 1))
                case measure => omega
                case rel =>
                  refine ⟨k2 + 1, kk + 1, l'.set kk l[i1], by go_num, by go_num, by omega, by omega, by omega, by omega, Nat.le_refl _, Lib.hid (by simpa using hl'.out), Lib.hid ?_, Lib.hid (fun i hi => ?_), S3.out⟩
                  · rw [HSTEP.out, if_neg (fun e => HC.out e.symm), ← htk.out, List.take_succ_eq_append_getElem (by simpa using hkl'), List.getElem_set_self, List.take_set_of_le (Nat.le_refl _)]
                  · rw [List.getElem?_set_ne (by omega)]; exact hsame.out i (by omega)
            · obtain rfl : k2 = n2 := by omega
              have hlt3 : ¬ (k2 : Int) < k2 := by omega
              have h6 := fun w => run_slice_from (P := Try.prog) kPt_ok 22 Try.underlying22 (some ⟨g, off, none⟩) len cap kk (kk : Int) rfl .i64 (by omega) hcap w
              have h7 := fun w => run_slice_to (P := Try.prog) kPt_ok 22 Try.underlying22 (some ⟨g, off, none⟩) len cap kk .i64 (by omega) hcap w
              obtain ⟨w3, h8, S3⟩ := run_clear_sl (P := Try.prog) kPt_ok 22 Try.underlying22 ⟨0, 0, 0, ⟨#[]⟩⟩ (by kernel_rfl) hSr kk (by rw [hl'.out]; omega)
              rw [hl'.out] at h8
              rw [htk.out] at S3
              have hkl : Hid (kk = (compP l).length ∧ compP (l.take (k + k2)) = compP l) := by
                have h := htk.out
                rw [List.take_of_length_le (l := l) (by rw [hll.out]; omega)] at h ⊢
                refine Lib.hid ⟨?_, rfl⟩
                rw [← h, List.length_take, hl'.out]; omega
              have S4 : St m w3 (star (SlO kPt (some ⟨g, off, none⟩) cap (compP l)) F) := by rw [hkl.out.2] at S3; exact S3
              rw [sliceAddr_of (by omega), if_neg (by omega)] at h6 h8
              rw [sliceAddr_of (by omega), Nat.zero_mul, Nat.add_zero, ite_self] at h7
              clear S3 hSr
              go_wp2
              go_ret
              exact ⟨_, by rw [← hkl.out.1]; rfl, S4⟩
        · have hq : (l[k].id == l[z].id) = false := by simp [hc]
          have HC := Lib.hid hc
          clear hc
          go_wp2_with fail
          go_region_held3 (fun W => St m W (star (SlO kPt (some ⟨g, off, none⟩) cap l) F) ∧ (W.cell? ⟨g, off + k * 4, none⟩ = some (.int .i64 (l[k]).id) ∧ W.cell? ⟨g, off + k * 4 + 1, none⟩ = some (.int .u32 (l[k]).x) ∧ W.cell? ⟨g, off + k * 4 + 2, none⟩ = some (.int .u32 (l[k]).y) ∧ W.cell? ⟨g, off + k * 4 + 3, none⟩ = some (.string (l[k]).data)) ∧ W.cell? ⟨g, off + z * 4, none⟩ = some (.int .i64 (l[z]).id) ∧ W.cell? ⟨g, off + z * 4 + 1, none⟩ = some (.int .u32 (l[z]).x) ∧ W.cell? ⟨g, off + z * 4 + 2, none⟩ = some (.int .u32 (l[z]).y) ∧ W.cell? ⟨g, off + z * 4 + 3, none⟩ = some (.string (l[z]).data)) (exact HOLD.out _ (by first | assumption | exact And.left (by assumption) | exact St.drew (by assumption) | exact St.drewN (by assumption) _ | exact (St.alloc (by assumption) _).drop | exact (St.alloc (And.left (by assumption)) _).drop))
            (first | (go_at_call 58; refine ((sameId_p l[k] l[z]).at (m := m) (by exact And.left (by assumption))).mono ?_; rintro e w' ⟨rfl, hS'⟩))
          go_wp2
          go_roundg (len - (k + 1))
          case measure => omega
          case rel => exact ⟨k + 1, by go_num, by omega, by omega, Nat.le_refl _, Lib.hid (by rw [HSTEP.out, if_neg (fun e => HC.out e.symm), hcp.out, List.take_succ_eq_append_getElem hkl]), hS'⟩
      · obtain rfl : k = len := by omega
        have hlt' : ¬ (k : Int) < k := by omega
        have HC : Hid (compP l = l) := Lib.hid (by have := hcp.out; rwa [List.take_of_length_le (by rw [hll.out]; exact Nat.le_refl _)] at this)
        go_wp2
        go_ret
        rw [HC.out, hll.out]
        exact ⟨_, rfl, hSr⟩
end Go.Proofs

namespace Go.Croft
variable {α : Type} {key : α → Int}
/-- x ahead of the first that is not below it -/
def insK (key : α → Int) (x : α) : List α → List α
  | [] => [x]
  | y :: l => if key x ≤ key y then x :: y :: l else y :: insK key x l
/-- the stable sort -/
def sortK (key : α → Int) : List α → List α
  | [] => []
  | x :: l => insK key x (sortK key l)
theorem insK_mem {x y : α} : ∀ {l : List α}, y ∈ insK key x l ↔ y = x ∨ y ∈ l
  | [] => by simp [insK]
  | z :: l => by
    unfold insK
    split
    · simp
    · rw [List.mem_cons, insK_mem (l := l), List.mem_cons]
      constructor
      · rintro (h | h | h) <;> simp [h]
      · rintro (h | h | h) <;> simp [h]
theorem insK_sorted {x : α} : ∀ {l : List α}, SortedBy key l → SortedBy key (insK key x l)
  | [], _ => List.pairwise_singleton _ _
  | y :: l, h => by
    unfold SortedBy at *
    unfold insK
    rw [List.pairwise_cons] at h
    split
    · rename_i hc
      rw [List.pairwise_cons, List.pairwise_cons]
      exact ⟨fun z hz => by rcases List.mem_cons.1 hz with rfl | hz; exact hc; have := h.1 z hz; omega, h⟩
    · rename_i hc
      rw [List.pairwise_cons]
      exact ⟨fun z hz => by rcases insK_mem.1 hz with rfl | hz; omega; exact h.1 z hz, insK_sorted h.2⟩
theorem insK_stab {x : α} : ∀ {l : List α}, Stab key (x :: l) (insK key x l)
  | [] => .refl _
  | y :: l => by
    unfold insK
    split
    · exact .refl _
    · rename_i hc
      have h1 : Stab key ([] ++ x :: y :: l) ([] ++ y :: x :: l) := Stab.swap (by omega)
      exact Stab.trans h1 (Stab.append (.refl [y]) insK_stab)
theorem sortK_sorted : ∀ (l : List α), SortedBy key (sortK key l)
  | [] => List.Pairwise.nil
  | _ :: l => insK_sorted (sortK_sorted l)
theorem sortK_stab : ∀ (l : List α), Stab key l (sortK key l)
  | [] => .refl _
  | x :: l => Stab.trans (Stab.append (.refl [x]) (sortK_stab l)) insK_stab
theorem sortK_of {l C : List α} (h1 : SortedBy key C) (h2 : Stab key l C) : C = sortK key l := stab_unique h1 (sortK_sorted l) (h2.symm.trans (sortK_stab l))
theorem sortK_length (l : List α) : (sortK key l).length = l.length := (sortK_stab l).length
theorem sortK_mem {l : List α} {x : α} : x ∈ sortK key l ↔ x ∈ l := (sortK_stab l).mem
def sortP (l : List Pnt) : List Pnt := sortK Pnt.id l
theorem sortP_length (l : List Pnt) : (sortP l).length = l.length := sortK_length l
theorem sortP_mem {l : List Pnt} {x : Pnt} : x ∈ sortP l ↔ x ∈ l := sortK_mem
theorem sortP_sorted (l : List Pnt) : SortedBy Pnt.id (sortP l) := sortK_sorted l
theorem sortP_stab (l : List Pnt) : Stab Pnt.id l (sortP l) := sortK_stab l
theorem sortP_of {l C : List Pnt} (h1 : SortedBy Pnt.id C) (h2 : Stab Pnt.id l C) : C = sortP l := sortK_of h1 h2
end Go.Croft

namespace Go.Croft
variable {α : Type} {key : α → Int}

/-- blocks of b sorted elements each, the last one of at most b -/
def Blk (key : α → Int) (b : Nat) : List (List α) → Prop
  | [] => True
  | [X] => 0 < X.length ∧ X.length ≤ b ∧ SortedBy key X
  | X :: Y :: L => X.length = b ∧ SortedBy key X ∧ Blk key b (Y :: L)

/-- whole blocks -/
def Full (key : α → Int) (b : Nat) (D : List (List α)) : Prop := ∀ X ∈ D, X.length = b ∧ SortedBy key X
theorem Full.nil {b : Nat} : Full key b [] := fun _ h => nomatch h
theorem Full.snoc {b : Nat} {D : List (List α)} {C : List α} (h : Full key b D) (h1 : C.length = b) (h2 : SortedBy key C) : Full key b (D ++ [C]) := fun X hX => by
  rcases List.mem_append.1 hX with hX | hX
  · exact h X hX
  · simp at hX; subst hX; exact ⟨h1, h2⟩
theorem Full.flat {b : Nat} : ∀ {D : List (List α)}, Full key b D → D.flatten.length = D.length * b
  | [], _ => by simp
  | X :: D, h => by
    have h1 := (h X List.mem_cons_self).1
    have h2 := Full.flat (D := D) fun Y hY => h Y (List.mem_cons_of_mem _ hY)
    simp only [List.flatten_cons, List.length_append, List.length_cons, h1, h2, Nat.add_mul]; omega

theorem Blk.app {b : Nat} (hb : 0 < b) : ∀ {D T : List (List α)}, Full key b D → Blk key b T → Blk key b (D ++ T)
  | [], _, _, h => h
  | [X], [], hD, _ => by have := hD X List.mem_cons_self; exact ⟨by omega, by omega, this.2⟩
  | [X], Y :: T, hD, h => by have := hD X List.mem_cons_self; exact ⟨this.1, this.2, h⟩
  | X :: Y :: D, T, hD, h => by
    have := hD X List.mem_cons_self
    exact ⟨this.1, this.2, Blk.app hb (D := Y :: D) (fun Z hZ => hD Z (List.mem_cons_of_mem _ hZ)) h⟩
theorem Blk.pos {b : Nat} {X : List α} {T : List (List α)} (hb : 0 < b) (h : Blk key b (X :: T)) : 0 < X.length ∧ X.length ≤ b ∧ SortedBy key X := by
  cases T with
  | nil => exact h
  | cons Y T => exact ⟨by have := h.1; omega, by have := h.1; omega, h.2.1⟩
theorem Blk.tail {b : Nat} {X : List α} {T : List (List α)} (h : Blk key b (X :: T)) : Blk key b T := by
  cases T with
  | nil => trivial
  | cons Y T => exact h.2.2
theorem Blk.small {b : Nat} (hb : 0 < b) {L : List (List α)} (h : Blk key b L) (hl : L.flatten.length ≤ b) : L = [] ∨ ∃ X, L = [X] ∧ 0 < X.length ∧ X.length ≤ b ∧ SortedBy key X := by
  cases L with
  | nil => exact .inl rfl
  | cons X T =>
    cases T with
    | nil => exact .inr ⟨X, rfl, h⟩
    | cons Y T =>
      have h1 := h.1
      have h2 := Blk.pos hb h.2.2
      simp at hl; omega
theorem Blk.sorted {b : Nat} (hb : 0 < b) {L : List (List α)} (h : Blk key b L) (hl : L.flatten.length ≤ b) : SortedBy key L.flatten := by
  rcases h.small hb hl with rfl | ⟨X, rfl, _, _, h⟩
  · exact List.Pairwise.nil
  · simpa using h
theorem Blk.two {b : Nat} (hb : 0 < b) {L : List (List α)} (h : Blk key b L) (hl : b < L.flatten.length) :
    ∃ X Y T, L = X :: Y :: T ∧ X.length = b ∧ SortedBy key X ∧ 0 < Y.length ∧ Y.length ≤ b ∧ SortedBy key Y ∧ Blk key b T ∧ (2 * b ≤ L.flatten.length → Y.length = b) ∧ (L.flatten.length < 2 * b → T = []) := by
  cases L with
  | nil => simp at hl
  | cons X T =>
    cases T with
    | nil => have := h.2.1; simp at hl; omega
    | cons Y T =>
      have hp := Blk.pos hb h.2.2
      refine ⟨X, Y, T, rfl, h.1, h.2.1, hp.1, hp.2.1, hp.2.2, h.2.2.tail, fun h2 => ?_, fun h2 => ?_⟩
      · cases T with
        | nil => have := h.1; simp at h2; omega
        | cons Z T => exact h.2.2.1
      · cases T with
        | nil => rfl
        | cons Z T => have h3 := h.1; have h4 := h.2.2.1; have h5 := Blk.pos hb h.2.2.2.2; simp at h2; omega

/-- a part of a list that is sorted in place -/
theorem Stab.mid {p X C r : List α} (h : Stab key X C) : Stab key (p ++ X ++ r) (p ++ C ++ r) := Stab.append (Stab.append (.refl _) h) (.refl _)
end Go.Croft

namespace Go.Proofs
open Go.Croft Go.RowKit

set_option maxRecDepth 100000 in
set_option maxHeartbeats 1600000 in
/-- symMerge where the right half is one element -/
theorem symMerge2_c (m : Mem) (w : World) (F : HP) (A : Option Addr) (cap len a M B : Nat) (l p X r : List Pnt) (y : Pnt) (hl : l = p ++ X ++ [y] ++ r) (hlen : len = l.length) (ha : a = p.length) (hM : M = a + X.length) (hB : B = M + 1) (hX : 2 ≤ X.length)
    (hn : l.length ≤ 1000000000) (hs : SortedBy Pnt.id X) (hS : St m w (star (SlO kPt A cap l) F)) :
    Calls Try.prog 147 #[.slice A len cap, .int .i64 a, .int .i64 M, .int .i64 B, .func (.func 76) #[] #[]] w fun e w' => e = .returned (.tuple #[]) ∧ ∃ C, SortedBy Pnt.id C ∧ Stab Pnt.id (X ++ [y]) C ∧ St m w' (star (SlO kPt A cap (p ++ C ++ r)) F) := by
  have hB2 : B ≤ len := by subst hlen hl ha hM hB; simp; omega
  have hy : lk l M = y.id := by
    have e : l = (p ++ X) ++ [y] ++ r := by rw [hl]
    have e2 : (p ++ X).length = M := by simp; omega
    rw [e, lk_mid (by omega) (by simp; omega), e2]; simp [lk]
  have hx : ∀ c, a ≤ c → c < M → lk l c = lk X (c - a) := fun c h1 h2 => by
    have e : l = p ++ X ++ ([y] ++ r) := by rw [hl]; simp
    rw [e, lk_mid (by omega) (by omega), ha]
  have hmono : ∀ i j, a ≤ i → i ≤ j → j < M → lk l i ≤ lk l j := fun i j h1 h2 h3 => by
    rw [hx i h1 (by omega), hx j (by omega) h3]; exact lk_sorted hs (by omega) (by omega)
  have HM := Lib.hid hmono
  have HX := Lib.hid hx
  have HY := Lib.hid hy
  have HS := Lib.hid hs
  have E := Lib.hid (And.intro hl (And.intro hlen ha))
  have hlen2 : len ≤ 1000000000 := by omega
  have w0 : IntKind.i64.wrap ((M : Int) - a) = (M : Int) - a := i64_keep _ (by omega) (by omega)
  have q0 : ((M : Int) - a == 1) = false := by simp; omega
  have w1 : IntKind.i64.wrap ((B : Int) - M) = (B : Int) - M := i64_keep _ (by omega) (by omega)
  have q1 : ((B : Int) - M == 1) = true := by simp; omega
  have EB := Lib.hid (And.intro hM (And.intro hB hX))
  have hMB : M < B := by omega
  have haM : a + 2 ≤ M := by omega
  obtain ⟨g, off, rfl⟩ := addrOf hS (show 0 < l.length by omega)
  have hll : l.length = len := hlen.symm
  clear hmono hx hy hs hl hlen ha hn hM hB hX
  go_enter Try.func147, Try.ntmps147
  go_wp2_with fail
  go_loopg [14, 15] (M - a) (fun gr q t wr => ∃ i j : Nat, q = .int .i64 i ∧ t = .int .i64 j ∧ a ≤ i ∧ i ≤ j ∧ j ≤ M ∧ j - i ≤ gr ∧ Hid (∀ c, a ≤ c → c < i → lk l c ≤ lk l M) ∧ Hid (∀ c, j ≤ c → c < M → lk l M < lk l c) ∧ St m wr (star (SlO kPt (some ⟨g, off, none⟩) cap l) F))
  case atStart => exact ⟨a, M, rfl, rfl, Nat.le_refl _, by omega, Nat.le_refl _, Nat.le_refl _, Lib.hid (by omega), Lib.hid (by omega), hS⟩
  case round =>
    obtain ⟨i, j, rfl, rfl, h1, h2, h3, hg, hlo, hhi, hSr⟩ := hrel
    clear hS
    by_cases hlt : i < j
    · have hlt' : (i : Int) < j := by omega
      have w2 : IntKind.i64.wrap ((i : Int) + j) = (i : Int) + j := i64_keep _ (by omega) (by omega)
      have hmid : ((i : Int) + j) / 2 = ((i + j) / 2 : Nat) := by omega
      obtain ⟨h, hh⟩ : ∃ h, h = (i + j) / 2 := ⟨_, rfl⟩
      have hh1 : i ≤ h ∧ h < j := by omega
      rw [← hh] at hmid
      clear hh
      have hhl : h < l.length := by omega
      have hal : M < l.length := by omega
      have HOLD := Lib.hid fun (W : World) (hW : St m W (star (SlO kPt (some ⟨g, off, none⟩) cap l) F)) => (⟨hW, ptsAt hW hhl, ptsAt hW hal⟩ : St m W (star (SlO kPt (some ⟨g, off, none⟩) cap l) F) ∧ (W.cell? ⟨g, off + h * 4, none⟩ = some (.int .i64 (l[h]).id) ∧ W.cell? ⟨g, off + h * 4 + 1, none⟩ = some (.int .u32 (l[h]).x) ∧ W.cell? ⟨g, off + h * 4 + 2, none⟩ = some (.int .u32 (l[h]).y) ∧ W.cell? ⟨g, off + h * 4 + 3, none⟩ = some (.string (l[h]).data)) ∧ W.cell? ⟨g, off + M * 4, none⟩ = some (.int .i64 (l[M]).id) ∧ W.cell? ⟨g, off + M * 4 + 1, none⟩ = some (.int .u32 (l[M]).x) ∧ W.cell? ⟨g, off + M * 4 + 2, none⟩ = some (.int .u32 (l[M]).y) ∧ W.cell? ⟨g, off + M * 4 + 3, none⟩ = some (.string (l[M]).data))
      have hs0 := HOLD.out _ hSr
      have b1 : (0 : Int) ≤ h := by omega
      have b2 : (h : Int) < len := by omega
      have b3 : (0 : Int) ≤ M := by omega
      have b4 : (M : Int) < len := by omega
      have w3 : IntKind.i64.wrap ((h : Int) + 1) = (h : Int) + 1 := i64_keep _ (by omega) (by omega)
      have HLL := Lib.hid hll
      have ek := Lib.hid (lk_eq hhl)
      have ea := Lib.hid (lk_eq hal)
      by_cases hc : l[M].id < l[h].id
      · have hcm : cmpI l[M].id l[h].id < 0 := (cmpI_neg _ _).2 hc
        have HC := Lib.hid hc
        clear hll hc
        go_wp2_with fail
        go_region_held3 (fun W => St m W (star (SlO kPt (some ⟨g, off, none⟩) cap l) F) ∧ (W.cell? ⟨g, off + h * 4, none⟩ = some (.int .i64 (l[h]).id) ∧ W.cell? ⟨g, off + h * 4 + 1, none⟩ = some (.int .u32 (l[h]).x) ∧ W.cell? ⟨g, off + h * 4 + 2, none⟩ = some (.int .u32 (l[h]).y) ∧ W.cell? ⟨g, off + h * 4 + 3, none⟩ = some (.string (l[h]).data)) ∧ W.cell? ⟨g, off + M * 4, none⟩ = some (.int .i64 (l[M]).id) ∧ W.cell? ⟨g, off + M * 4 + 1, none⟩ = some (.int .u32 (l[M]).x) ∧ W.cell? ⟨g, off + M * 4 + 2, none⟩ = some (.int .u32 (l[M]).y) ∧ W.cell? ⟨g, off + M * 4 + 3, none⟩ = some (.string (l[M]).data)) (exact HOLD.out _ (by first | assumption | exact And.left (by assumption) | exact St.drew (by assumption) | exact St.drewN (by assumption) _ | exact (St.alloc (by assumption) _).drop | exact (St.alloc (And.left (by assumption)) _).drop))
          (first | (go_at_call 76; refine ((ptCmp_p l[M] l[h]).at (m := m) (by exact And.left (by assumption))).mono ?_; rintro e w' ⟨rfl, hS'⟩))
        go_wp2
        go_roundg (h - i)
        case measure => omega
        case rel => exact ⟨i, h, rfl, rfl, h1, by omega, by omega, Nat.le_refl _, hlo, Lib.hid (fun c c1 c2 => by have := HM.out h c (by omega) c1 c2; rw [ek.out] at this; rw [ea.out]; have := HC.out; omega), hS'⟩
      · have hcm : ¬ cmpI l[M].id l[h].id < 0 := fun h => hc ((cmpI_neg _ _).1 h)
        have hq : (!decide (cmpI l[M].id l[h].id < 0)) = true := by simp only [decide_eq_false hcm, Bool.not_false]
        have HC := Lib.hid hc
        clear hll hc
        go_wp2_with fail
        go_region_held3 (fun W => St m W (star (SlO kPt (some ⟨g, off, none⟩) cap l) F) ∧ (W.cell? ⟨g, off + h * 4, none⟩ = some (.int .i64 (l[h]).id) ∧ W.cell? ⟨g, off + h * 4 + 1, none⟩ = some (.int .u32 (l[h]).x) ∧ W.cell? ⟨g, off + h * 4 + 2, none⟩ = some (.int .u32 (l[h]).y) ∧ W.cell? ⟨g, off + h * 4 + 3, none⟩ = some (.string (l[h]).data)) ∧ W.cell? ⟨g, off + M * 4, none⟩ = some (.int .i64 (l[M]).id) ∧ W.cell? ⟨g, off + M * 4 + 1, none⟩ = some (.int .u32 (l[M]).x) ∧ W.cell? ⟨g, off + M * 4 + 2, none⟩ = some (.int .u32 (l[M]).y) ∧ W.cell? ⟨g, off + M * 4 + 3, none⟩ = some (.string (l[M]).data)) (exact HOLD.out _ (by first | assumption | exact And.left (by assumption) | exact St.drew (by assumption) | exact St.drewN (by assumption) _ | exact (St.alloc (by assumption) _).drop | exact (St.alloc (And.left (by assumption)) _).drop))
          (first | (go_at_call 76; refine ((ptCmp_p l[M] l[h]).at (m := m) (by exact And.left (by assumption))).mono ?_; rintro e w' ⟨rfl, hS'⟩))
        go_wp2
        go_roundg (j - (h + 1))
        case measure => omega
        case rel => exact ⟨h + 1, j, by go_num, rfl, by omega, by omega, h3, Nat.le_refl _, Lib.hid (fun c c1 c2 => by have := HM.out c h c1 (by omega) (by omega); rw [ek.out] at this; rw [ea.out]; have := HC.out; omega), hhi, hS'⟩
    · obtain rfl : i = j := by omega
      have HLL := Lib.hid hll
      have mixed : Try.prog.follows .mixedOrders = true := by kernel_rfl
      clear hll
      go_wp2_with fail
      go_loopg [17] (M - i) (fun gr q wr => ∃ (k : Nat) (l' : List Pnt), q = .int .i64 k ∧ k ≤ M ∧ i + gr = k ∧ Hid (l'.length = len) ∧ Hid (l' = (p ++ X.take (k - a)) ++ y :: (X.drop (k - a) ++ r)) ∧ St m wr (star (SlO kPt (some ⟨g, off, none⟩) cap l') F))
      case atStart => exact ⟨M, l, rfl, Nat.le_refl _, by omega, HLL, Lib.hid (by have := EB.out.1; rw [E.out.1, show M - a = X.length by omega]; simp), hSr⟩
      case round =>
        obtain ⟨k, l', rfl, hk1, hk2, hll', hl', hSk⟩ := hrel
        by_cases hlt2 : i < k
        · have hlt3 : (i : Int) < (k : Int) := by omega
          have hk3 : k < l'.length := by have := hll'.out; omega
          have hk4 : k - 1 < l'.length := by have := hll'.out; omega
          obtain ⟨c0, c1, c2, c3⟩ := ptsAt hSk hk3
          obtain ⟨d0, d1, d2, d3⟩ := ptsAt hSk hk4
          obtain ⟨_, _, e', _, hf⟩ := SlO.at hSk hk3
          cases e'
          have b1 : (0 : Int) ≤ k := by omega
          have b2 : (k : Int) < len := by omega
          have b3 : (0 : Int) ≤ (k : Int) - 1 := by omega
          have b4 : (k : Int) - 1 < len := by omega
          have b5 : (1 : Int) ≤ k := by omega
          have w4 : IntKind.i64.wrap ((k : Int) - 1) = (k : Int) - 1 := i64_keep _ (by omega) (by omega)
          have t1 : ((k : Int) - 1).toNat = k - 1 := by omega
          have S1 := SlO.put4 (x := l'[k - 1]) hSk hk3 rfl rfl
          have S2 := SlO.put4 (x := l'[k]) S1 (i := k - 1) (by simpa using hk4) rfl rfl
          have htx : k - 1 - a < X.length := by have := EB.out; omega
          have key : (l'.set k l'[k - 1]).set (k - 1) l'[k] = (p ++ X.take (k - 1 - a)) ++ y :: (X.drop (k - 1 - a) ++ r) := by
            have e : l' = (p ++ X.take (k - 1 - a)) ++ X[k - 1 - a] :: ([] ++ y :: (X.drop (k - a) ++ r)) := by
              rw [hl'.out, show k - a = k - 1 - a + 1 by omega, List.take_succ_eq_append_getElem htx]; simp only [List.append_assoc, List.cons_append, List.nil_append]
            have hpa := E.out.2.2
            rw [List.set_comm _ _ (by omega), swap_mid e (by simp; omega) (by simp; omega) hk4 hk3, List.drop_eq_getElem_cons htx, show k - 1 - a + 1 = k - a by omega]
            simp only [List.append_assoc, List.cons_append, List.nil_append]
          have KEY := Lib.hid key
          have S3 := Lib.hid S2
          clear S1 S2 key hSk hSr
          go_wp2_with fail
          go_big_region_o
          go_wp2
          go_roundg (gk - 1)
          case measure => omega
          case rel => exact ⟨k - 1, _, by go_num, by omega, by omega, Lib.hid (by simpa using hll'.out), KEY, S3.out.drew⟩
        · have hlt3 : ¬ (i : Int) < (k : Int) := by omega
          go_wp2
          refine bodyPost_ret (results_none rfl _ _ _) rfl ?_
          obtain rfl : k = i := by omega
          have e1 := EB.out
          have hE := E.out
          have hd : X.take (k - a) ++ X.drop (k - a) = X := by simp
          have hX1 : ∀ x ∈ X.take (k - a), x.id ≤ y.id := fun x hx => by
            obtain ⟨c, hc, rfl⟩ := List.getElem_of_mem hx
            simp at hc
            have := hlo.out (a + c) (by omega) (by omega)
            rw [HY.out, HX.out (a + c) (by omega) (by omega), Nat.add_sub_cancel_left, lk_eq (by omega)] at this
            rw [List.getElem_take]; exact this
          have hX2 : ∀ x ∈ X.drop (k - a), y.id < x.id := fun x hx => by
            obtain ⟨c, hc, rfl⟩ := List.getElem_of_mem hx
            simp at hc
            have := hhi.out (a + (k - a + c)) (by omega) (by omega)
            rw [HY.out, HX.out _ (by omega) (by omega), Nat.add_sub_cancel_left, lk_eq (by omega)] at this
            rw [List.getElem_drop]; exact this
          have hm := merge_right (key := Pnt.id) (y := y) (X1 := X.take (k - a)) (X2 := X.drop (k - a)) (by rw [hd]; exact HS.out) hX1 hX2
          rw [hd] at hm
          refine ⟨rfl, _, hm.1, hm.2, ?_⟩
          have e2 : l' = p ++ (X.take (k - a) ++ [y] ++ X.drop (k - a)) ++ r := by rw [hl'.out]; simp
          rw [List.append_assoc] at e2
          rw [← e2]; exact hSk
end Go.Proofs

namespace Go.Proofs
open Go.Croft Go.RowKit

/-- what symMerge's search finds -/
theorem sym_found {l : List Pnt} {p X Y r : List Pnt} {a M B mid s s0 r0 : Nat} (hl : l = p ++ X ++ Y ++ r) (ha : a = p.length) (hM : M = a + X.length) (hB : B = M + Y.length) (hmid : mid = (a + B) / 2) (h2 : 2 ≤ X.length) (h3 : 2 ≤ Y.length)
    (hr : (M > mid ∧ s0 = mid + M - B ∧ r0 = mid) ∨ (M ≤ mid ∧ s0 = a ∧ r0 = M)) (hs0 : s0 ≤ s) (hsr : s ≤ r0)
    (hlo : ∀ c, s0 ≤ c → c < s → lk l c ≤ lk l (mid + M - 1 - c)) (hhi : ∀ c, s ≤ c → c < r0 → lk l (mid + M - 1 - c) < lk l c) (hX : SortedBy Pnt.id X) (hY : SortedBy Pnt.id Y) :
    ∃ X1 U V Y2, X = X1 ++ U ∧ Y = V ++ Y2 ∧ X1.length = s - a ∧ V.length = mid - s ∧ a ≤ s ∧ s ≤ mid ∧ s ≤ M ∧ M ≤ mid + M - s ∧ mid + M - s ≤ B ∧ (∀ v ∈ V, ∀ u ∈ U, v.id < u.id) ∧ ∀ x ∈ X1, ∀ y ∈ Y2, x.id ≤ y.id := by
  have hx : ∀ c, a ≤ c → c < M → lk l c = lk X (c - a) := fun c h1 h2 => by
    have e : l = p ++ X ++ (Y ++ r) := by rw [hl]; simp
    rw [e, lk_mid (by omega) (by omega), ha]
  have hy : ∀ c, M ≤ c → c < B → lk l c = lk Y (c - M) := fun c h1 h2 => by
    have e : l = (p ++ X) ++ Y ++ r := by rw [hl]
    have e2 : (p ++ X).length = M := by simp; omega
    rw [e, lk_mid (by omega) (by omega), e2]
  have b1 : a ≤ s ∧ s ≤ mid ∧ s ≤ M ∧ mid + M - s ≤ B := by omega
  have hsp := sym_split hX hY (s := s - a) (q := mid - s) (by omega) (by omega)
    (fun h h0 => by
      have h4 := hhi s (Nat.le_refl _) (by omega)
      rw [hx s (by omega) (by omega), hy _ (by omega) (by omega), lk_eq h, lk_eq (by omega)] at h4
      have e : mid + M - 1 - s - M = mid - s - 1 := by omega
      simp only [e] at h4
      exact h4)
    (fun h0 h => by
      have h4 := hlo (s - 1) (by omega) (by omega)
      rw [hx (s - 1) (by omega) (by omega), hy _ (by omega) (by omega), lk_eq (by omega), lk_eq (by omega)] at h4
      have e : mid + M - 1 - (s - 1) - M = mid - s := by omega
      have e2 : s - 1 - a = s - a - 1 := by omega
      simp only [e, e2] at h4
      exact h4)
  refine ⟨X.take (s - a), X.drop (s - a), Y.take (mid - s), Y.drop (mid - s), by simp, by simp, by simp; omega, by simp; omega, b1.1, b1.2.1, b1.2.2.1, by omega, b1.2.2.2, hsp.1, hsp.2⟩
end Go.Proofs
