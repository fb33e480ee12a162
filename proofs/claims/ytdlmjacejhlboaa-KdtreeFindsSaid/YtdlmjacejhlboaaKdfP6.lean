/- Contracts of the given program, for the proofs of its statements: SymMerge4, SymSpec, InsPt, StableSort. No conditions beyond those in each theorem. -/
import Derived.Test.YtdlmjacejhlboaaKdfP5
import Derived.Test.YtdlmjacejhlboaaKdfP3
namespace Go.Proofs
open Go.Croft Go.RowKit

/-- symMerge at no more than n elements -/
def SymSpec (n : Nat) : Prop := ∀ (m : Mem) (w : World) (F : HP) (A : Option Addr) (cap len a M B : Nat) (l p X Y r : List Pnt), l = p ++ X ++ Y ++ r → len = l.length → a = p.length → M = a + X.length → B = M + Y.length → 0 < X.length → 0 < Y.length → X.length + Y.length ≤ n →
    l.length ≤ 1000000000 → SortedBy Pnt.id X → SortedBy Pnt.id Y → St m w (star (SlO kPt A cap l) F) →
    Calls Try.prog 147 #[.slice A len cap, .int .i64 a, .int .i64 M, .int .i64 B, .func (.func 76) #[] #[]] w fun e w' => e = .returned (.tuple #[]) ∧ ∃ C, SortedBy Pnt.id C ∧ Stab Pnt.id (X ++ Y) C ∧ St m w' (star (SlO kPt A cap (p ++ C ++ r)) F)

/-- two runs of which one may be empty -/
theorem symCall {n : Nat} (ih : SymSpec n) (m : Mem) (F : HP) (A : Option Addr) (cap len a M B : Nat) (p X Y r : List Pnt) (hlen : len = (p ++ X ++ Y ++ r).length) (ha : a = p.length) (hM : M = a + X.length) (hB : B = M + Y.length) (hn : X.length + Y.length ≤ n) (h9 : len ≤ 1000000000) (hX : SortedBy Pnt.id X) (hY : SortedBy Pnt.id Y) (h1 : 0 < X.length) (h2 : 0 < Y.length)
    (w : World) (hS : St m w (star (SlO kPt A cap (p ++ X ++ Y ++ r)) F)) :
    Calls Try.prog 147 #[.slice A len cap, .int .i64 a, .int .i64 M, .int .i64 B, .func (.func 76) #[] #[]] w fun e w' => e = .returned (.tuple #[]) ∧ ∃ C, SortedBy Pnt.id C ∧ Stab Pnt.id (X ++ Y) C ∧ St m w' (star (SlO kPt A cap (p ++ C ++ r)) F) :=
  ih m w F A cap len a M B _ p X Y r rfl hlen ha hM hB h1 h2 hn (by omega) hX hY hS

def SymPost (m : Mem) (F : HP) (A : Option Addr) (cap : Nat) (p X Y r : List Pnt) (e : Ending) (w' : World) : Prop := e = .returned (.tuple #[]) ∧ ∃ C, SortedBy Pnt.id C ∧ Stab Pnt.id (X ++ Y) C ∧ St m w' (star (SlO kPt A cap (p ++ C ++ r)) F)

set_option maxRecDepth 100000 in
set_option maxHeartbeats 3200000 in
theorem symGen_c (n0 : Nat) (ih : SymSpec n0) (m : Mem) (w : World) (F : HP) (A : Option Addr) (cap len a M B : Nat) (l p X Y r : List Pnt) (hl : l = p ++ X ++ Y ++ r) (hlen : len = l.length) (ha : a = p.length) (hM : M = a + X.length) (hB : B = M + Y.length) (h2X : 2 ≤ X.length) (h2Y : 2 ≤ Y.length) (hn0 : X.length + Y.length ≤ n0 + 1)
    (hn : l.length ≤ 1000000000) (hsX : SortedBy Pnt.id X) (hsY : SortedBy Pnt.id Y) (hS : St m w (star (SlO kPt A cap l) F)) :
    Calls Try.prog 147 #[.slice A len cap, .int .i64 a, .int .i64 M, .int .i64 B, .func (.func 76) #[] #[]] w fun e w' => e = .returned (.tuple #[]) ∧ ∃ C, SortedBy Pnt.id C ∧ Stab Pnt.id (X ++ Y) C ∧ St m w' (star (SlO kPt A cap (p ++ C ++ r)) F) := by
  have hB2 : B ≤ len := by subst hlen hl ha hM hB; simp; omega
  obtain ⟨mid, hmid⟩ : ∃ mid, mid = (a + B) / 2 := ⟨_, rfl⟩
  obtain ⟨P, hP⟩ : ∃ P, P = mid + M - 1 := ⟨_, rfl⟩
  have hx : ∀ c, a ≤ c → c < M → lk l c = lk X (c - a) := fun c h1 h2 => by
    have e : l = p ++ X ++ (Y ++ r) := by rw [hl]; simp
    rw [e, lk_mid (by omega) (by omega), ha]
  have hy : ∀ c, M ≤ c → c < B → lk l c = lk Y (c - M) := fun c h1 h2 => by
    have e : l = (p ++ X) ++ Y ++ r := by rw [hl]
    have e2 : (p ++ X).length = M := by simp; omega
    rw [e, lk_mid (by omega) (by omega), e2]
  have hmx : ∀ i j, a ≤ i → i ≤ j → j < M → lk l i ≤ lk l j := fun i j h1 h2 h3 => by
    rw [hx i h1 (by omega), hx j (by omega) h3]; exact lk_sorted hsX (by omega) (by omega)
  have hmy : ∀ i j, M ≤ i → i ≤ j → j < B → lk l i ≤ lk l j := fun i j h1 h2 h3 => by
    rw [hy i h1 (by omega), hy j (by omega) h3]; exact lk_sorted hsY (by omega) (by omega)
  have w0 : IntKind.i64.wrap ((M : Int) - a) = (M : Int) - a := i64_keep _ (by omega) (by omega)
  have q0 : ((M : Int) - a == 1) = false := by simp; omega
  have w1 : IntKind.i64.wrap ((B : Int) - M) = (B : Int) - M := i64_keep _ (by omega) (by omega)
  have q1 : ((B : Int) - M == 1) = false := by simp; omega
  have w5 : IntKind.i64.wrap ((a : Int) + B) = (a : Int) + B := i64_keep _ (by omega) (by omega)
  have w6 : IntKind.i64.wrap ((mid : Int) + M) = (mid : Int) + M := i64_keep _ (by omega) (by omega)
  have w8 : IntKind.i64.wrap ((mid : Int) + M - 1) = P := by
    rw [show (mid : Int) + M - 1 = P by omega]; exact i64_keep _ (by omega) (by omega)
  have hmi : ((a : Int) + B) / 2 = mid := by omega
  obtain ⟨g, off, rfl⟩ := addrOf hS (show 0 < l.length by omega)
  have hll : l.length = len := hlen.symm
  have HI := Lib.hid (And.intro ih hn0)
  clear ih hn0
  have HSX := Lib.hid hsX
  have HSY := Lib.hid hsY
  have E := Lib.hid (And.intro hl (And.intro hlen ha))
  have hlen2 : len ≤ 1000000000 := by omega
  have EB := Lib.hid (And.intro hM (And.intro hB (And.intro h2X h2Y)))
  have hMB : M + 2 ≤ B := by omega
  have haM : a + 2 ≤ M := by omega
  have HMD := Lib.hid hmid
  have HPP := Lib.hid hP
  have hmm : a < mid ∧ mid < B := by omega
  by_cases hgt : mid < M
  · show Calls _ _ _ _ (SymPost m F (some ⟨g, off, none⟩) cap p X Y r)
    obtain ⟨s0, hs0e⟩ : ∃ s0, s0 = mid + M - B := ⟨_, rfl⟩
    obtain ⟨r0, hr0e⟩ : ∃ r0, mid = r0 := ⟨_, rfl⟩
    have w7 : IntKind.i64.wrap ((mid : Int) + M - B) = s0 := by
      rw [show (mid : Int) + M - B = s0 by omega]; exact i64_keep _ (by omega) (by omega)
    have MON : Hid (∀ i j, s0 ≤ i → i ≤ j → j < r0 → lk l (P - j) ≤ lk l (P - i) ∧ lk l i ≤ lk l j) := fun i j c1 c2 c3 => ⟨hmy _ _ (by omega) (by omega) (by omega), hmx _ _ (by omega) (by omega) (by omega)⟩
    have hgt' : (mid : Int) < M := by omega
    have hb : s0 ≤ r0 ∧ r0 ≤ P ∧ P - s0 < len ∧ r0 ≤ len := by omega
    have HR : Hid ((M > mid ∧ s0 = mid + M - B ∧ r0 = mid) ∨ (M ≤ mid ∧ s0 = a ∧ r0 = M)) := Or.inl ⟨hgt, hs0e, hr0e.symm⟩
    clear hx hy hmx hmy hsX hsY hl hlen ha hM hB hn hmid hP h2X h2Y hs0e
    subst hr0e
    go_enter Try.func147, Try.ntmps147
    go_wp2_with fail
    go_loopg [20, 21] (mid - s0) (fun gr q t wr => ∃ i j : Nat, q = .int .i64 i ∧ t = .int .i64 j ∧ s0 ≤ i ∧ i ≤ j ∧ j ≤ mid ∧ j - i ≤ gr ∧ Hid (∀ c, s0 ≤ c → c < i → lk l c ≤ lk l (P - c)) ∧ Hid (∀ c, j ≤ c → c < mid → lk l (P - c) < lk l c) ∧ St m wr (star (SlO kPt (some ⟨g, off, none⟩) cap l) F))
    case atStart => exact ⟨s0, mid, rfl, rfl, Nat.le_refl _, by omega, Nat.le_refl _, Nat.le_refl _, Lib.hid (by omega), Lib.hid (by omega), hS⟩
    case round =>
      obtain ⟨i, j, rfl, rfl, h1, h2, h3, hg, hlo, hhi, hSr⟩ := hrel
      clear hS
      by_cases hlt : i < j
      · have hlt' : (i : Int) < j := by omega
        have w2 : IntKind.i64.wrap ((i : Int) + j) = (i : Int) + j := i64_keep _ (by omega) (by omega)
        have hmid2 : ((i : Int) + j) / 2 = ((i + j) / 2 : Nat) := by omega
        obtain ⟨h, hh⟩ : ∃ h, h = (i + j) / 2 := ⟨_, rfl⟩
        have hh1 : i ≤ h ∧ h < j := by omega
        rw [← hh] at hmid2
        clear hh
        have hhl : h < l.length := by omega
        have hpl : P - h < l.length := by omega
        obtain ⟨z, hz⟩ : ∃ z, z = P - h := ⟨_, rfl⟩
        rw [← hz] at hpl
        have HOLD := Lib.hid fun (W : World) (hW : St m W (star (SlO kPt (some ⟨g, off, none⟩) cap l) F)) => (⟨hW, ptsAt hW hpl, ptsAt hW hhl⟩ : St m W (star (SlO kPt (some ⟨g, off, none⟩) cap l) F) ∧ (W.cell? ⟨g, off + z * 4, none⟩ = some (.int .i64 (l[z]).id) ∧ W.cell? ⟨g, off + z * 4 + 1, none⟩ = some (.int .u32 (l[z]).x) ∧ W.cell? ⟨g, off + z * 4 + 2, none⟩ = some (.int .u32 (l[z]).y) ∧ W.cell? ⟨g, off + z * 4 + 3, none⟩ = some (.string (l[z]).data)) ∧ W.cell? ⟨g, off + h * 4, none⟩ = some (.int .i64 (l[h]).id) ∧ W.cell? ⟨g, off + h * 4 + 1, none⟩ = some (.int .u32 (l[h]).x) ∧ W.cell? ⟨g, off + h * 4 + 2, none⟩ = some (.int .u32 (l[h]).y) ∧ W.cell? ⟨g, off + h * 4 + 3, none⟩ = some (.string (l[h]).data))
        have hs0 := HOLD.out _ hSr
        have b1 : (0 : Int) ≤ h := by omega
        have b2 : (h : Int) < len := by omega
        have b3 : (0 : Int) ≤ z := by omega
        have b4 : (z : Int) < len := by omega
        have w3 : IntKind.i64.wrap ((h : Int) + 1) = (h : Int) + 1 := i64_keep _ (by omega) (by omega)
        have w4 : IntKind.i64.wrap ((P : Int) - h) = z := by
          rw [show (P : Int) - h = z by omega]; exact i64_keep _ (by omega) (by omega)
        have HLL := Lib.hid hll
        have HZ := Lib.hid hz
        have ek := Lib.hid (lk_eq hhl)
        have ea := Lib.hid (lk_eq hpl)
        have hmlo := MON.out
        by_cases hc : l[z].id < l[h].id
        · have hcm : cmpI l[z].id l[h].id < 0 := (cmpI_neg _ _).2 hc
          have HC := Lib.hid hc
          clear hll hc hz hmlo
          go_wp2_with fail
          go_region_held3 (fun W => St m W (star (SlO kPt (some ⟨g, off, none⟩) cap l) F) ∧ (W.cell? ⟨g, off + z * 4, none⟩ = some (.int .i64 (l[z]).id) ∧ W.cell? ⟨g, off + z * 4 + 1, none⟩ = some (.int .u32 (l[z]).x) ∧ W.cell? ⟨g, off + z * 4 + 2, none⟩ = some (.int .u32 (l[z]).y) ∧ W.cell? ⟨g, off + z * 4 + 3, none⟩ = some (.string (l[z]).data)) ∧ W.cell? ⟨g, off + h * 4, none⟩ = some (.int .i64 (l[h]).id) ∧ W.cell? ⟨g, off + h * 4 + 1, none⟩ = some (.int .u32 (l[h]).x) ∧ W.cell? ⟨g, off + h * 4 + 2, none⟩ = some (.int .u32 (l[h]).y) ∧ W.cell? ⟨g, off + h * 4 + 3, none⟩ = some (.string (l[h]).data)) (exact HOLD.out _ (by first | assumption | exact And.left (by assumption) | exact St.drew (by assumption) | exact St.drewN (by assumption) _ | exact (St.alloc (by assumption) _).drop | exact (St.alloc (And.left (by assumption)) _).drop))
            (first | (go_at_call 76; refine ((ptCmp_p l[z] l[h]).at (m := m) (by exact And.left (by assumption))).mono ?_; rintro e w' ⟨rfl, hS'⟩))
          go_wp2
          go_roundg (h - i)
          case measure => omega
          case rel => exact ⟨i, h, rfl, rfl, h1, by omega, by omega, Nat.le_refl _, hlo, Lib.hid (fun c c1 c2 => by have := MON.out h c (by omega) c1 c2; rw [← HZ.out, ea.out, ek.out] at this; have := HC.out; omega), hS'⟩
        · have hcm : ¬ cmpI l[z].id l[h].id < 0 := fun h => hc ((cmpI_neg _ _).1 h)
          have hq : (!decide (cmpI l[z].id l[h].id < 0)) = true := by simp only [decide_eq_false hcm, Bool.not_false]
          have HC := Lib.hid hc
          clear hll hc hz hmlo
          go_wp2_with fail
          go_region_held3 (fun W => St m W (star (SlO kPt (some ⟨g, off, none⟩) cap l) F) ∧ (W.cell? ⟨g, off + z * 4, none⟩ = some (.int .i64 (l[z]).id) ∧ W.cell? ⟨g, off + z * 4 + 1, none⟩ = some (.int .u32 (l[z]).x) ∧ W.cell? ⟨g, off + z * 4 + 2, none⟩ = some (.int .u32 (l[z]).y) ∧ W.cell? ⟨g, off + z * 4 + 3, none⟩ = some (.string (l[z]).data)) ∧ W.cell? ⟨g, off + h * 4, none⟩ = some (.int .i64 (l[h]).id) ∧ W.cell? ⟨g, off + h * 4 + 1, none⟩ = some (.int .u32 (l[h]).x) ∧ W.cell? ⟨g, off + h * 4 + 2, none⟩ = some (.int .u32 (l[h]).y) ∧ W.cell? ⟨g, off + h * 4 + 3, none⟩ = some (.string (l[h]).data)) (exact HOLD.out _ (by first | assumption | exact And.left (by assumption) | exact St.drew (by assumption) | exact St.drewN (by assumption) _ | exact (St.alloc (by assumption) _).drop | exact (St.alloc (And.left (by assumption)) _).drop))
            (first | (go_at_call 76; refine ((ptCmp_p l[z] l[h]).at (m := m) (by exact And.left (by assumption))).mono ?_; rintro e w' ⟨rfl, hS'⟩))
          go_wp2
          go_roundg (j - (h + 1))
          case measure => omega
          case rel => exact ⟨h + 1, j, by go_num, rfl, by omega, by omega, h3, Nat.le_refl _, Lib.hid (fun c c1 c2 => by have := MON.out c h c1 (by omega) (by omega); rw [← HZ.out, ea.out, ek.out] at this; have := HC.out; omega), hhi, hS'⟩
      · obtain rfl : i = j := by omega
        obtain ⟨X1, U, V, Y2, eX, eY, nX1, nV, f1, f2, f3, f4, f5, g1, g2⟩ := sym_found E.out.1 E.out.2.2 EB.out.1 EB.out.2.1 HMD.out EB.out.2.2.1 EB.out.2.2.2 (by simpa using HR.out) h1 h3 (by rw [← HPP.out]; exact hlo.out) (by rw [← HPP.out]; exact hhi.out) HSX.out HSY.out
        have w9 : IntKind.i64.wrap ((mid : Int) + M - i) = ((mid + M - i : Nat) : Int) := by
          rw [show (mid : Int) + M - i = ((mid + M - i : Nat) : Int) by omega]; exact i64_keep _ (by omega) (by omega)
        have nX : M = a + X1.length + U.length := by rw [EB.out.1, eX]; simp; omega
        have nY : B = M + V.length + Y2.length := by rw [EB.out.2.1, eY]; simp; omega
        obtain ⟨en, hen⟩ : ∃ en, en = mid + M - i := ⟨_, rfl⟩
        rw [← hen] at w9 f4 f5
        have N := Lib.hid (And.intro nX (And.intro nY (And.intro nX1 (And.intro nV hen))))
        have z1 : (i : Int) < M ↔ 0 < U.length := by omega
        have z2 : (M : Int) < en ↔ 0 < V.length := by omega
        have z3 : (a : Int) < i ↔ 0 < X1.length := by omega
        have z4 : (i : Int) < mid ↔ 0 < V.length := by omega
        have z5 : (mid : Int) < en ↔ 0 < U.length := by omega
        have z6 : (en : Int) < B ↔ 0 < Y2.length := by omega
        have Z := Lib.hid (And.intro z1 (And.intro z2 (And.intro z3 (And.intro z4 (And.intro z5 z6)))))
        clear hlo hhi MON nX nY nX1 nV hen z1 z2 z3 z4 z5 z6
        have hE := E.out
        have hN := N.out
        have ROT := Lib.hid fun (hU : 0 < U.length) (hV : 0 < V.length) => rotate_c m wr F (some ⟨g, off, none⟩) cap len i M en l (p ++ X1) U V (Y2 ++ r) (.func (.func 76) #[] #[]) (by rw [hE.1, eX, eY]; simp) hE.2.1 (by simp; omega) (by simp; omega) (by simp; omega) hU hV hSr
        have CA := Lib.hid fun W hX1 hV hW => symCall HI.out.1 m F (some ⟨g, off, none⟩) cap len a i mid p X1 V (U ++ Y2 ++ r) (by rw [hE.2.1, hE.1, eX, eY]; simp; omega) hE.2.2 (by omega) (by omega) (by have := HI.out.2; have := EB.out; rw [eX, eY] at *; simp at *; omega) hlen2 (List.pairwise_append.1 (eX ▸ HSX.out)).1 (List.pairwise_append.1 (eY ▸ HSY.out)).1 hX1 hV W hW
        have CB := Lib.hid fun (C1 : List Pnt) (hC : C1.length = mid - a) W hU hY2 hW => symCall HI.out.1 m F (some ⟨g, off, none⟩) cap len mid en B (p ++ C1) U Y2 r (by rw [hE.2.1, hE.1, eX, eY]; simp; omega) (by simp; omega) (by omega) (by omega) (by have := HI.out.2; have := EB.out; rw [eX, eY] at *; simp at *; omega) hlen2 (List.pairwise_append.1 (eX ▸ HSX.out)).2.1 (List.pairwise_append.1 (eY ▸ HSY.out)).2.1 hU hY2 W hW
        have HF := Lib.hid fun C1 C2 (s1 : SortedBy Pnt.id C1) (t1 : Stab Pnt.id (X1 ++ V) C1) (s2 : SortedBy Pnt.id C2) (t2 : Stab Pnt.id (U ++ Y2) C2) => merge_rot (X1 := X1) (U := U) (V := V) (Y2 := Y2) (eX ▸ HSX.out) (eY ▸ HSY.out) g1 g2 s1 t1 s2 t2
        have HC1 := Lib.hid (show (X1 ++ V).length = mid - a by simp; omega)
        have sX1 := (List.pairwise_append.1 (eX ▸ HSX.out)).1
        have sU := (List.pairwise_append.1 (eX ▸ HSX.out)).2.1
        have sV := (List.pairwise_append.1 (eY ▸ HSY.out)).1
        have sY2 := (List.pairwise_append.1 (eY ▸ HSY.out)).2.1
        have SS := Lib.hid (And.intro sX1 (And.intro sU (And.intro sV sY2)))
        have FIN := Lib.hid fun W C1 C2 (s1 : SortedBy Pnt.id C1) (t1 : Stab Pnt.id (X1 ++ V) C1) (s2 : SortedBy Pnt.id C2) (t2 : Stab Pnt.id (U ++ Y2) C2) (hW : St m W (star (SlO kPt (some ⟨g, off, none⟩) cap (p ++ C1 ++ C2 ++ r)) F)) => (⟨C1 ++ C2, (HF.out C1 C2 s1 t1 s2 t2).1, by rw [eX, eY]; exact (HF.out C1 C2 s1 t1 s2 t2).2, by simpa using hW⟩ : ∃ C, SortedBy Pnt.id C ∧ Stab Pnt.id (X ++ Y) C ∧ St m W (star (SlO kPt (some ⟨g, off, none⟩) cap (p ++ C ++ r)) F))
        have hS0 := Lib.hid (show St m wr (star (SlO kPt (some ⟨g, off, none⟩) cap (p ++ (X1 ++ U) ++ (V ++ Y2) ++ r)) F) by rw [← eX, ← eY, ← hE.1]; exact hSr)
        have LX : 2 ≤ X1.length + U.length := by have := EB.out.2.2.1; rw [eX] at this; simpa using this
        have LY : 2 ≤ V.length + Y2.length := by have := EB.out.2.2.2; rw [eY] at this; simpa using this
        clear hE hN sX1 sU sV sY2 g1 g2 w0 w1 w5 w6 w8 hmi q0 q1 hb hMB haM hmm h1 h2 h3 hg hlt hll eX eY hSr
        rcases Nat.eq_zero_or_pos U.length with hU | hU
        · obtain rfl : U = [] := List.eq_nil_of_length_eq_zero hU
          have k1 : ¬ (i : Int) < M := by have := Z.out; omega
          have k5 : ¬ (mid : Int) < en := by have := Z.out; omega
          have k3 : (a : Int) < i := by have := Z.out; simp at LX; omega
          have S1 : St m wr (star (SlO kPt (some ⟨g, off, none⟩) cap (p ++ X1 ++ V ++ ([] ++ Y2 ++ r))) F) := by simpa using hS0.out
          clear hS0
          rcases Nat.eq_zero_or_pos V.length with hV | hV
          · obtain rfl : V = [] := List.eq_nil_of_length_eq_zero hV
            have k4 : ¬ (i : Int) < mid := by have := Z.out; omega
            go_wp2
            go_end0
            exact ⟨rfl, FIN.out _ X1 Y2 SS.out.1 (by simpa using Stab.refl X1) SS.out.2.2.2 (by simpa using Stab.refl Y2) (by simpa using S1)⟩
          · have k4 : (i : Int) < mid := by have := Z.out; omega
            have hX1 : 0 < X1.length := by simp at LX; omega
            go_wp2_with ((go_at_call 147; with_reducible refine (CA.out _ hX1 hV S1).mono ?_); rintro e w2 ⟨rfl, C1, s1, t1, S2⟩)
            all_goals
              go_end0
              exact ⟨rfl, FIN.out _ C1 Y2 s1 t1 SS.out.2.2.2 (by simpa using Stab.refl Y2) (by simpa using S2)⟩
        · rcases Nat.eq_zero_or_pos V.length with hV | hV
          · obtain rfl : V = [] := List.eq_nil_of_length_eq_zero hV
            have k1 : (i : Int) < M := by have := Z.out; omega
            have k2 : ¬ (M : Int) < en := by have := Z.out; omega
            have k4 : ¬ (i : Int) < mid := by have := Z.out; omega
            have k5 : (mid : Int) < en := by have := Z.out; omega
            have k6 : (en : Int) < B := by have := Z.out; simp at LY; omega
            have hY2 : 0 < Y2.length := by simp at LY; omega
            have S2 : St m wr (star (SlO kPt (some ⟨g, off, none⟩) cap (p ++ X1 ++ U ++ Y2 ++ r)) F) := by simpa using hS0.out
            clear hS0
            by_cases hX1 : 0 < X1.length
            · have k3 : (a : Int) < i := by have := Z.out; omega
              go_wp2_with ((go_at_call 147; with_reducible refine (CB.out X1 (by simpa using HC1.out) _ hU hY2 S2).mono ?_); rintro e w3 ⟨rfl, C2, s2, t2, S3⟩)
              go_end0
              exact ⟨rfl, FIN.out _ X1 C2 SS.out.1 (by simpa using Stab.refl X1) s2 t2 (by simpa using S3)⟩
            · have k3 : ¬ (a : Int) < i := by have := Z.out; omega
              go_wp2_with ((go_at_call 147; with_reducible refine (CB.out X1 (by simpa using HC1.out) _ hU hY2 S2).mono ?_); rintro e w3 ⟨rfl, C2, s2, t2, S3⟩)
              go_end0
              exact ⟨rfl, FIN.out _ X1 C2 SS.out.1 (by simpa using Stab.refl X1) s2 t2 (by simpa using S3)⟩
          · have k1 : (i : Int) < M := by have := Z.out; omega
            have k2 : (M : Int) < en := by have := Z.out; omega
            have k4 : (i : Int) < mid := by have := Z.out; omega
            have k5 : (mid : Int) < en := by have := Z.out; omega
            have RC := Lib.hid (ROT.out hU hV)
            clear hS0
            by_cases hX1 : 0 < X1.length
            · have k3 : (a : Int) < i := by have := Z.out; omega
              by_cases hY2 : 0 < Y2.length
              · have k6 : (en : Int) < B := by have := Z.out; omega
                go_wp2_with ((go_at_call 169; with_reducible refine RC.out.mono ?_); rintro e w1 ⟨rfl, S1⟩; replace S1 := (show St m w1 (star (SlO kPt (some ⟨g, off, none⟩) cap (p ++ X1 ++ V ++ (U ++ Y2 ++ r))) F) by simpa using S1))
                go_wp2_with ((go_at_call 147; with_reducible refine (CA.out _ hX1 hV S1).mono ?_); rintro e w2 ⟨rfl, C1, s1, t1, S2⟩; replace S2 := (show St m w2 (star (SlO kPt (some ⟨g, off, none⟩) cap (p ++ C1 ++ U ++ Y2 ++ r)) F) by simpa using S2))
                clear S1
                go_wp2_with ((go_at_call 147; with_reducible refine (CB.out C1 (by rw [t1.length]; exact HC1.out) _ hU hY2 S2).mono ?_); rintro e w3 ⟨rfl, C2, s2, t2, S3⟩)
                go_end0
                exact ⟨rfl, FIN.out _ C1 C2 s1 t1 s2 t2 S3⟩
              · have k6 : ¬ (en : Int) < B := by have := Z.out; omega
                have eY2 := Lib.hid (show Y2 = [] from List.eq_nil_of_length_eq_zero (by omega))
                go_wp2_with ((go_at_call 169; with_reducible refine RC.out.mono ?_); rintro e w1 ⟨rfl, S1⟩; replace S1 := (show St m w1 (star (SlO kPt (some ⟨g, off, none⟩) cap (p ++ X1 ++ V ++ (U ++ Y2 ++ r))) F) by simpa using S1))
                go_wp2_with ((go_at_call 147; with_reducible refine (CA.out _ hX1 hV S1).mono ?_); rintro e w2 ⟨rfl, C1, s1, t1, S2⟩; replace S2 := (show St m w2 (star (SlO kPt (some ⟨g, off, none⟩) cap (p ++ C1 ++ U ++ Y2 ++ r)) F) by simpa using S2))
                go_end0
                exact ⟨rfl, FIN.out _ C1 U s1 t1 SS.out.2.1 (by rw [eY2.out]; simpa using Stab.refl U) (by rw [eY2.out] at S2; simpa using S2)⟩
            · have k3 : ¬ (a : Int) < i := by have := Z.out; omega
              have eX1 := Lib.hid (show X1 = [] from List.eq_nil_of_length_eq_zero (by omega))
              by_cases hY2 : 0 < Y2.length
              · have k6 : (en : Int) < B := by have := Z.out; omega
                go_wp2_with ((go_at_call 169; with_reducible refine RC.out.mono ?_); rintro e w1 ⟨rfl, S1⟩; replace S1 := (show St m w1 (star (SlO kPt (some ⟨g, off, none⟩) cap (p ++ X1 ++ V ++ (U ++ Y2 ++ r))) F) by simpa using S1))
                have S2 : St m w1 (star (SlO kPt (some ⟨g, off, none⟩) cap (p ++ V ++ U ++ Y2 ++ r)) F) := by rw [eX1.out] at S1; simpa using S1
                go_wp2_with ((go_at_call 147; with_reducible refine (CB.out V (by have := HC1.out; rw [eX1.out] at this; simpa using this) _ hU hY2 S2).mono ?_); rintro e w3 ⟨rfl, C2, s2, t2, S3⟩)
                go_end0
                exact ⟨rfl, FIN.out _ V C2 SS.out.2.2.1 (by rw [eX1.out]; simpa using Stab.refl V) s2 t2 S3⟩
              · have k6 : ¬ (en : Int) < B := by have := Z.out; omega
                have eY2 := Lib.hid (show Y2 = [] from List.eq_nil_of_length_eq_zero (by omega))
                go_wp2_with ((go_at_call 169; with_reducible refine RC.out.mono ?_); rintro e w1 ⟨rfl, S1⟩; replace S1 := (show St m w1 (star (SlO kPt (some ⟨g, off, none⟩) cap (p ++ X1 ++ V ++ (U ++ Y2 ++ r))) F) by simpa using S1))
                go_end0
                exact ⟨rfl, FIN.out _ V U SS.out.2.2.1 (by rw [eX1.out]; simpa using Stab.refl V) SS.out.2.1 (by rw [eY2.out]; simpa using Stab.refl U) (by rw [eX1.out, eY2.out] at S1; simpa using S1)⟩
  · show Calls _ _ _ _ (SymPost m F (some ⟨g, off, none⟩) cap p X Y r)
    obtain ⟨s0, hs0e⟩ : ∃ s0, a = s0 := ⟨_, rfl⟩
    obtain ⟨r0, hr0e⟩ : ∃ r0, M = r0 := ⟨_, rfl⟩
    have MON : Hid (∀ i j, s0 ≤ i → i ≤ j → j < r0 → lk l (P - j) ≤ lk l (P - i) ∧ lk l i ≤ lk l j) := fun i j c1 c2 c3 => ⟨hmy _ _ (by omega) (by omega) (by omega), hmx _ _ (by omega) (by omega) (by omega)⟩
    have hgt' : ¬ (mid : Int) < M := by omega
    have hb : s0 ≤ r0 ∧ r0 ≤ P ∧ P - s0 < len ∧ r0 ≤ len := by omega
    have HR : Hid ((M > mid ∧ s0 = mid + M - B ∧ r0 = mid) ∨ (M ≤ mid ∧ s0 = a ∧ r0 = M)) := Or.inr ⟨by omega, hs0e.symm, hr0e.symm⟩
    clear hx hy hmx hmy hsX hsY hl hlen ha hM hB hn hmid hP h2X h2Y
    subst hr0e hs0e
    go_enter Try.func147, Try.ntmps147
    go_wp2_with fail
    go_loopg [20, 21] (M - a) (fun gr q t wr => ∃ i j : Nat, q = .int .i64 i ∧ t = .int .i64 j ∧ a ≤ i ∧ i ≤ j ∧ j ≤ M ∧ j - i ≤ gr ∧ Hid (∀ c, a ≤ c → c < i → lk l c ≤ lk l (P - c)) ∧ Hid (∀ c, j ≤ c → c < M → lk l (P - c) < lk l c) ∧ St m wr (star (SlO kPt (some ⟨g, off, none⟩) cap l) F))
    case atStart => exact ⟨a, M, rfl, rfl, Nat.le_refl _, by omega, Nat.le_refl _, Nat.le_refl _, Lib.hid (by omega), Lib.hid (by omega), hS⟩
    case round =>
      obtain ⟨i, j, rfl, rfl, h1, h2, h3, hg, hlo, hhi, hSr⟩ := hrel
      clear hS
      by_cases hlt : i < j
      · have hlt' : (i : Int) < j := by omega
        have w2 : IntKind.i64.wrap ((i : Int) + j) = (i : Int) + j := i64_keep _ (by omega) (by omega)
        have hmid2 : ((i : Int) + j) / 2 = ((i + j) / 2 : Nat) := by omega
        obtain ⟨h, hh⟩ : ∃ h, h = (i + j) / 2 := ⟨_, rfl⟩
        have hh1 : i ≤ h ∧ h < j := by omega
        rw [← hh] at hmid2
        clear hh
        have hhl : h < l.length := by omega
        have hpl : P - h < l.length := by omega
        obtain ⟨z, hz⟩ : ∃ z, z = P - h := ⟨_, rfl⟩
        rw [← hz] at hpl
        have HOLD := Lib.hid fun (W : World) (hW : St m W (star (SlO kPt (some ⟨g, off, none⟩) cap l) F)) => (⟨hW, ptsAt hW hpl, ptsAt hW hhl⟩ : St m W (star (SlO kPt (some ⟨g, off, none⟩) cap l) F) ∧ (W.cell? ⟨g, off + z * 4, none⟩ = some (.int .i64 (l[z]).id) ∧ W.cell? ⟨g, off + z * 4 + 1, none⟩ = some (.int .u32 (l[z]).x) ∧ W.cell? ⟨g, off + z * 4 + 2, none⟩ = some (.int .u32 (l[z]).y) ∧ W.cell? ⟨g, off + z * 4 + 3, none⟩ = some (.string (l[z]).data)) ∧ W.cell? ⟨g, off + h * 4, none⟩ = some (.int .i64 (l[h]).id) ∧ W.cell? ⟨g, off + h * 4 + 1, none⟩ = some (.int .u32 (l[h]).x) ∧ W.cell? ⟨g, off + h * 4 + 2, none⟩ = some (.int .u32 (l[h]).y) ∧ W.cell? ⟨g, off + h * 4 + 3, none⟩ = some (.string (l[h]).data))
        have hs0 := HOLD.out _ hSr
        have b1 : (0 : Int) ≤ h := by omega
        have b2 : (h : Int) < len := by omega
        have b3 : (0 : Int) ≤ z := by omega
        have b4 : (z : Int) < len := by omega
        have w3 : IntKind.i64.wrap ((h : Int) + 1) = (h : Int) + 1 := i64_keep _ (by omega) (by omega)
        have w4 : IntKind.i64.wrap ((P : Int) - h) = z := by
          rw [show (P : Int) - h = z by omega]; exact i64_keep _ (by omega) (by omega)
        have HLL := Lib.hid hll
        have HZ := Lib.hid hz
        have ek := Lib.hid (lk_eq hhl)
        have ea := Lib.hid (lk_eq hpl)
        have hmlo := MON.out
        by_cases hc : l[z].id < l[h].id
        · have hcm : cmpI l[z].id l[h].id < 0 := (cmpI_neg _ _).2 hc
          have HC := Lib.hid hc
          clear hll hc hz hmlo
          go_wp2_with fail
          go_region_held3 (fun W => St m W (star (SlO kPt (some ⟨g, off, none⟩) cap l) F) ∧ (W.cell? ⟨g, off + z * 4, none⟩ = some (.int .i64 (l[z]).id) ∧ W.cell? ⟨g, off + z * 4 + 1, none⟩ = some (.int .u32 (l[z]).x) ∧ W.cell? ⟨g, off + z * 4 + 2, none⟩ = some (.int .u32 (l[z]).y) ∧ W.cell? ⟨g, off + z * 4 + 3, none⟩ = some (.string (l[z]).data)) ∧ W.cell? ⟨g, off + h * 4, none⟩ = some (.int .i64 (l[h]).id) ∧ W.cell? ⟨g, off + h * 4 + 1, none⟩ = some (.int .u32 (l[h]).x) ∧ W.cell? ⟨g, off + h * 4 + 2, none⟩ = some (.int .u32 (l[h]).y) ∧ W.cell? ⟨g, off + h * 4 + 3, none⟩ = some (.string (l[h]).data)) (exact HOLD.out _ (by first | assumption | exact And.left (by assumption) | exact St.drew (by assumption) | exact St.drewN (by assumption) _ | exact (St.alloc (by assumption) _).drop | exact (St.alloc (And.left (by assumption)) _).drop))
            (first | (go_at_call 76; refine ((ptCmp_p l[z] l[h]).at (m := m) (by exact And.left (by assumption))).mono ?_; rintro e w' ⟨rfl, hS'⟩))
          go_wp2
          go_roundg (h - i)
          case measure => omega
          case rel => exact ⟨i, h, rfl, rfl, h1, by omega, by omega, Nat.le_refl _, hlo, Lib.hid (fun c c1 c2 => by have := MON.out h c (by omega) c1 c2; rw [← HZ.out, ea.out, ek.out] at this; have := HC.out; omega), hS'⟩
        · have hcm : ¬ cmpI l[z].id l[h].id < 0 := fun h => hc ((cmpI_neg _ _).1 h)
          have hq : (!decide (cmpI l[z].id l[h].id < 0)) = true := by simp only [decide_eq_false hcm, Bool.not_false]
          have HC := Lib.hid hc
          clear hll hc hz hmlo
          go_wp2_with fail
          go_region_held3 (fun W => St m W (star (SlO kPt (some ⟨g, off, none⟩) cap l) F) ∧ (W.cell? ⟨g, off + z * 4, none⟩ = some (.int .i64 (l[z]).id) ∧ W.cell? ⟨g, off + z * 4 + 1, none⟩ = some (.int .u32 (l[z]).x) ∧ W.cell? ⟨g, off + z * 4 + 2, none⟩ = some (.int .u32 (l[z]).y) ∧ W.cell? ⟨g, off + z * 4 + 3, none⟩ = some (.string (l[z]).data)) ∧ W.cell? ⟨g, off + h * 4, none⟩ = some (.int .i64 (l[h]).id) ∧ W.cell? ⟨g, off + h * 4 + 1, none⟩ = some (.int .u32 (l[h]).x) ∧ W.cell? ⟨g, off + h * 4 + 2, none⟩ = some (.int .u32 (l[h]).y) ∧ W.cell? ⟨g, off + h * 4 + 3, none⟩ = some (.string (l[h]).data)) (exact HOLD.out _ (by first | assumption | exact And.left (by assumption) | exact St.drew (by assumption) | exact St.drewN (by assumption) _ | exact (St.alloc (by assumption) _).drop | exact (St.alloc (And.left (by assumption)) _).drop))
            (first | (go_at_call 76; refine ((ptCmp_p l[z] l[h]).at (m := m) (by exact And.left (by assumption))).mono ?_; rintro e w' ⟨rfl, hS'⟩))
          go_wp2
          go_roundg (j - (h + 1))
          case measure => omega
          case rel => exact ⟨h + 1, j, by go_num, rfl, by omega, by omega, h3, Nat.le_refl _, Lib.hid (fun c c1 c2 => by have := MON.out c h c1 (by omega) (by omega); rw [← HZ.out, ea.out, ek.out] at this; have := HC.out; omega), hhi, hS'⟩
      · obtain rfl : i = j := by omega
        obtain ⟨X1, U, V, Y2, eX, eY, nX1, nV, f1, f2, f3, f4, f5, g1, g2⟩ := sym_found E.out.1 E.out.2.2 EB.out.1 EB.out.2.1 HMD.out EB.out.2.2.1 EB.out.2.2.2 (by simpa using HR.out) h1 h3 (by rw [← HPP.out]; exact hlo.out) (by rw [← HPP.out]; exact hhi.out) HSX.out HSY.out
        have w9 : IntKind.i64.wrap ((mid : Int) + M - i) = ((mid + M - i : Nat) : Int) := by
          rw [show (mid : Int) + M - i = ((mid + M - i : Nat) : Int) by omega]; exact i64_keep _ (by omega) (by omega)
        have nX : M = a + X1.length + U.length := by rw [EB.out.1, eX]; simp; omega
        have nY : B = M + V.length + Y2.length := by rw [EB.out.2.1, eY]; simp; omega
        obtain ⟨en, hen⟩ : ∃ en, en = mid + M - i := ⟨_, rfl⟩
        rw [← hen] at w9 f4 f5
        have N := Lib.hid (And.intro nX (And.intro nY (And.intro nX1 (And.intro nV hen))))
        have z1 : (i : Int) < M ↔ 0 < U.length := by omega
        have z2 : (M : Int) < en ↔ 0 < V.length := by omega
        have z3 : (a : Int) < i ↔ 0 < X1.length := by omega
        have z4 : (i : Int) < mid ↔ 0 < V.length := by omega
        have z5 : (mid : Int) < en ↔ 0 < U.length := by omega
        have z6 : (en : Int) < B ↔ 0 < Y2.length := by omega
        have Z := Lib.hid (And.intro z1 (And.intro z2 (And.intro z3 (And.intro z4 (And.intro z5 z6)))))
        clear hlo hhi MON nX nY nX1 nV hen z1 z2 z3 z4 z5 z6
        have hE := E.out
        have hN := N.out
        have ROT := Lib.hid fun (hU : 0 < U.length) (hV : 0 < V.length) => rotate_c m wr F (some ⟨g, off, none⟩) cap len i M en l (p ++ X1) U V (Y2 ++ r) (.func (.func 76) #[] #[]) (by rw [hE.1, eX, eY]; simp) hE.2.1 (by simp; omega) (by simp; omega) (by simp; omega) hU hV hSr
        have CA := Lib.hid fun W hX1 hV hW => symCall HI.out.1 m F (some ⟨g, off, none⟩) cap len a i mid p X1 V (U ++ Y2 ++ r) (by rw [hE.2.1, hE.1, eX, eY]; simp; omega) hE.2.2 (by omega) (by omega) (by have := HI.out.2; have := EB.out; rw [eX, eY] at *; simp at *; omega) hlen2 (List.pairwise_append.1 (eX ▸ HSX.out)).1 (List.pairwise_append.1 (eY ▸ HSY.out)).1 hX1 hV W hW
        have CB := Lib.hid fun (C1 : List Pnt) (hC : C1.length = mid - a) W hU hY2 hW => symCall HI.out.1 m F (some ⟨g, off, none⟩) cap len mid en B (p ++ C1) U Y2 r (by rw [hE.2.1, hE.1, eX, eY]; simp; omega) (by simp; omega) (by omega) (by omega) (by have := HI.out.2; have := EB.out; rw [eX, eY] at *; simp at *; omega) hlen2 (List.pairwise_append.1 (eX ▸ HSX.out)).2.1 (List.pairwise_append.1 (eY ▸ HSY.out)).2.1 hU hY2 W hW
        have HF := Lib.hid fun C1 C2 (s1 : SortedBy Pnt.id C1) (t1 : Stab Pnt.id (X1 ++ V) C1) (s2 : SortedBy Pnt.id C2) (t2 : Stab Pnt.id (U ++ Y2) C2) => merge_rot (X1 := X1) (U := U) (V := V) (Y2 := Y2) (eX ▸ HSX.out) (eY ▸ HSY.out) g1 g2 s1 t1 s2 t2
        have HC1 := Lib.hid (show (X1 ++ V).length = mid - a by simp; omega)
        have sX1 := (List.pairwise_append.1 (eX ▸ HSX.out)).1
        have sU := (List.pairwise_append.1 (eX ▸ HSX.out)).2.1
        have sV := (List.pairwise_append.1 (eY ▸ HSY.out)).1
        have sY2 := (List.pairwise_append.1 (eY ▸ HSY.out)).2.1
        have SS := Lib.hid (And.intro sX1 (And.intro sU (And.intro sV sY2)))
        have FIN := Lib.hid fun W C1 C2 (s1 : SortedBy Pnt.id C1) (t1 : Stab Pnt.id (X1 ++ V) C1) (s2 : SortedBy Pnt.id C2) (t2 : Stab Pnt.id (U ++ Y2) C2) (hW : St m W (star (SlO kPt (some ⟨g, off, none⟩) cap (p ++ C1 ++ C2 ++ r)) F)) => (⟨C1 ++ C2, (HF.out C1 C2 s1 t1 s2 t2).1, by rw [eX, eY]; exact (HF.out C1 C2 s1 t1 s2 t2).2, by simpa using hW⟩ : ∃ C, SortedBy Pnt.id C ∧ Stab Pnt.id (X ++ Y) C ∧ St m W (star (SlO kPt (some ⟨g, off, none⟩) cap (p ++ C ++ r)) F))
        have hS0 := Lib.hid (show St m wr (star (SlO kPt (some ⟨g, off, none⟩) cap (p ++ (X1 ++ U) ++ (V ++ Y2) ++ r)) F) by rw [← eX, ← eY, ← hE.1]; exact hSr)
        have LX : 2 ≤ X1.length + U.length := by have := EB.out.2.2.1; rw [eX] at this; simpa using this
        have LY : 2 ≤ V.length + Y2.length := by have := EB.out.2.2.2; rw [eY] at this; simpa using this
        clear hE hN sX1 sU sV sY2 g1 g2 w0 w1 w5 w6 w8 hmi q0 q1 hb hMB haM hmm h1 h2 h3 hg hlt hll eX eY hSr
        rcases Nat.eq_zero_or_pos U.length with hU | hU
        · obtain rfl : U = [] := List.eq_nil_of_length_eq_zero hU
          have k1 : ¬ (i : Int) < M := by have := Z.out; omega
          have k5 : ¬ (mid : Int) < en := by have := Z.out; omega
          have k3 : (a : Int) < i := by have := Z.out; simp at LX; omega
          have S1 : St m wr (star (SlO kPt (some ⟨g, off, none⟩) cap (p ++ X1 ++ V ++ ([] ++ Y2 ++ r))) F) := by simpa using hS0.out
          clear hS0
          rcases Nat.eq_zero_or_pos V.length with hV | hV
          · obtain rfl : V = [] := List.eq_nil_of_length_eq_zero hV
            have k4 : ¬ (i : Int) < mid := by have := Z.out; omega
            go_wp2
            go_end0
            exact ⟨rfl, FIN.out _ X1 Y2 SS.out.1 (by simpa using Stab.refl X1) SS.out.2.2.2 (by simpa using Stab.refl Y2) (by simpa using S1)⟩
          · have k4 : (i : Int) < mid := by have := Z.out; omega
            have hX1 : 0 < X1.length := by simp at LX; omega
            go_wp2_with ((go_at_call 147; with_reducible refine (CA.out _ hX1 hV S1).mono ?_); rintro e w2 ⟨rfl, C1, s1, t1, S2⟩)
            all_goals
              go_end0
              exact ⟨rfl, FIN.out _ C1 Y2 s1 t1 SS.out.2.2.2 (by simpa using Stab.refl Y2) (by simpa using S2)⟩
        · rcases Nat.eq_zero_or_pos V.length with hV | hV
          · obtain rfl : V = [] := List.eq_nil_of_length_eq_zero hV
            have k1 : (i : Int) < M := by have := Z.out; omega
            have k2 : ¬ (M : Int) < en := by have := Z.out; omega
            have k4 : ¬ (i : Int) < mid := by have := Z.out; omega
            have k5 : (mid : Int) < en := by have := Z.out; omega
            have k6 : (en : Int) < B := by have := Z.out; simp at LY; omega
            have hY2 : 0 < Y2.length := by simp at LY; omega
            have S2 : St m wr (star (SlO kPt (some ⟨g, off, none⟩) cap (p ++ X1 ++ U ++ Y2 ++ r)) F) := by simpa using hS0.out
            clear hS0
            by_cases hX1 : 0 < X1.length
            · have k3 : (a : Int) < i := by have := Z.out; omega
              go_wp2_with ((go_at_call 147; with_reducible refine (CB.out X1 (by simpa using HC1.out) _ hU hY2 S2).mono ?_); rintro e w3 ⟨rfl, C2, s2, t2, S3⟩)
              go_end0
              exact ⟨rfl, FIN.out _ X1 C2 SS.out.1 (by simpa using Stab.refl X1) s2 t2 (by simpa using S3)⟩
            · have k3 : ¬ (a : Int) < i := by have := Z.out; omega
              go_wp2_with ((go_at_call 147; with_reducible refine (CB.out X1 (by simpa using HC1.out) _ hU hY2 S2).mono ?_); rintro e w3 ⟨rfl, C2, s2, t2, S3⟩)
              go_end0
              exact ⟨rfl, FIN.out _ X1 C2 SS.out.1 (by simpa using Stab.refl X1) s2 t2 (by simpa using S3)⟩
          · have k1 : (i : Int) < M := by have := Z.out; omega
            have k2 : (M : Int) < en := by have := Z.out; omega
            have k4 : (i : Int) < mid := by have := Z.out; omega
            have k5 : (mid : Int) < en := by have := Z.out; omega
            have RC := Lib.hid (ROT.out hU hV)
            clear hS0
            by_cases hX1 : 0 < X1.length
            · have k3 : (a : Int) < i := by have := Z.out; omega
              by_cases hY2 : 0 < Y2.length
              · have k6 : (en : Int) < B := by have := Z.out; omega
                go_wp2_with ((go_at_call 169; with_reducible refine RC.out.mono ?_); rintro e w1 ⟨rfl, S1⟩; replace S1 := (show St m w1 (star (SlO kPt (some ⟨g, off, none⟩) cap (p ++ X1 ++ V ++ (U ++ Y2 ++ r))) F) by simpa using S1))
                go_wp2_with ((go_at_call 147; with_reducible refine (CA.out _ hX1 hV S1).mono ?_); rintro e w2 ⟨rfl, C1, s1, t1, S2⟩; replace S2 := (show St m w2 (star (SlO kPt (some ⟨g, off, none⟩) cap (p ++ C1 ++ U ++ Y2 ++ r)) F) by simpa using S2))
                clear S1
                go_wp2_with ((go_at_call 147; with_reducible refine (CB.out C1 (by rw [t1.length]; exact HC1.out) _ hU hY2 S2).mono ?_); rintro e w3 ⟨rfl, C2, s2, t2, S3⟩)
                go_end0
                exact ⟨rfl, FIN.out _ C1 C2 s1 t1 s2 t2 S3⟩
              · have k6 : ¬ (en : Int) < B := by have := Z.out; omega
                have eY2 := Lib.hid (show Y2 = [] from List.eq_nil_of_length_eq_zero (by omega))
                go_wp2_with ((go_at_call 169; with_reducible refine RC.out.mono ?_); rintro e w1 ⟨rfl, S1⟩; replace S1 := (show St m w1 (star (SlO kPt (some ⟨g, off, none⟩) cap (p ++ X1 ++ V ++ (U ++ Y2 ++ r))) F) by simpa using S1))
                go_wp2_with ((go_at_call 147; with_reducible refine (CA.out _ hX1 hV S1).mono ?_); rintro e w2 ⟨rfl, C1, s1, t1, S2⟩; replace S2 := (show St m w2 (star (SlO kPt (some ⟨g, off, none⟩) cap (p ++ C1 ++ U ++ Y2 ++ r)) F) by simpa using S2))
                go_end0
                exact ⟨rfl, FIN.out _ C1 U s1 t1 SS.out.2.1 (by rw [eY2.out]; simpa using Stab.refl U) (by rw [eY2.out] at S2; simpa using S2)⟩
            · have k3 : ¬ (a : Int) < i := by have := Z.out; omega
              have eX1 := Lib.hid (show X1 = [] from List.eq_nil_of_length_eq_zero (by omega))
              by_cases hY2 : 0 < Y2.length
              · have k6 : (en : Int) < B := by have := Z.out; omega
                go_wp2_with ((go_at_call 169; with_reducible refine RC.out.mono ?_); rintro e w1 ⟨rfl, S1⟩; replace S1 := (show St m w1 (star (SlO kPt (some ⟨g, off, none⟩) cap (p ++ X1 ++ V ++ (U ++ Y2 ++ r))) F) by simpa using S1))
                have S2 : St m w1 (star (SlO kPt (some ⟨g, off, none⟩) cap (p ++ V ++ U ++ Y2 ++ r)) F) := by rw [eX1.out] at S1; simpa using S1
                go_wp2_with ((go_at_call 147; with_reducible refine (CB.out V (by have := HC1.out; rw [eX1.out] at this; simpa using this) _ hU hY2 S2).mono ?_); rintro e w3 ⟨rfl, C2, s2, t2, S3⟩)
                go_end0
                exact ⟨rfl, FIN.out _ V C2 SS.out.2.2.1 (by rw [eX1.out]; simpa using Stab.refl V) s2 t2 S3⟩
              · have k6 : ¬ (en : Int) < B := by have := Z.out; omega
                have eY2 := Lib.hid (show Y2 = [] from List.eq_nil_of_length_eq_zero (by omega))
                go_wp2_with ((go_at_call 169; with_reducible refine RC.out.mono ?_); rintro e w1 ⟨rfl, S1⟩; replace S1 := (show St m w1 (star (SlO kPt (some ⟨g, off, none⟩) cap (p ++ X1 ++ V ++ (U ++ Y2 ++ r))) F) by simpa using S1))
                go_end0
                exact ⟨rfl, FIN.out _ V U SS.out.2.2.1 (by rw [eX1.out]; simpa using Stab.refl V) SS.out.2.1 (by rw [eY2.out]; simpa using Stab.refl U) (by rw [eX1.out, eY2.out] at S1; simpa using S1)⟩
end Go.Proofs

namespace Go.Proofs
open Go.Croft Go.RowKit

/-- symMerge, at whatever length -/
theorem symSpec : ∀ n, SymSpec n
  | 0 => fun m w F A cap len a M B l p X Y r _ _ _ _ _ h1 _ h3 => by omega
  | n + 1 => fun m w F A cap len a M B l p X Y r hl hlen ha hM hB h1 h2 h3 h9 hX hY hS => by
    by_cases c1 : X.length = 1
    · obtain ⟨x, rfl⟩ := List.length_eq_one_iff.1 c1
      exact symMerge1_c m w F A cap len a M B l p Y r x hl hlen ha hM hB h2 h9 hY hS
    · by_cases c2 : Y.length = 1
      · obtain ⟨y, rfl⟩ := List.length_eq_one_iff.1 c2
        exact symMerge2_c m w F A cap len a M B l p X r y hl hlen ha hM (by rw [hB]; rfl) (by omega) h9 hX hS
      · exact symGen_c n (symSpec n) m w F A cap len a M B l p X Y r hl hlen ha hM hB (by omega) (by omega) h3 h9 hX hY hS
end Go.Proofs

namespace Go.Croft
open Go.Sort
variable {α : Type} {key : α → Int} [Inhabited α]
/-- a sort of a part, seen as lists -/
theorem part_sorted {lt : α → α → Bool} (hlt : ∀ x y, lt x y = false → key y ≤ key x) {p X r : List α} {d' : Array α} {a b : Nat} (ha : a = p.length) (hb : b = a + X.length)
    (hp : PermIn a b (p ++ X ++ r).toArray d') (hs : SortedIn lt a b d') (ht : Stab key (p ++ X ++ r) d'.toList) : ∃ C, d'.toList = p ++ C ++ r ∧ C.length = X.length ∧ SortedBy key C ∧ Stab key X C := by
  obtain ⟨h1, h2, _⟩ := hp
  have hsz : d'.size = p.length + X.length + r.length := by rw [h1]; simp; omega
  have get : ∀ i, i < a ∨ b ≤ i → d'.toList[i]? = (p ++ X ++ r)[i]? := fun i hi => by
    by_cases hlt : i < d'.size
    · have h := h2 i hi
      rw [getElem!_pos d' i hlt, getElem!_pos (p ++ X ++ r).toArray i (by simp; omega)] at h
      rw [List.getElem?_eq_getElem (by simpa using hlt), List.getElem?_eq_getElem (by simp; omega)]
      simpa using h
    · rw [List.getElem?_eq_none (by simp; omega), List.getElem?_eq_none (by simp; omega)]
  obtain ⟨C, hC⟩ : ∃ C, C = (d'.toList.drop a).take (b - a) := ⟨_, rfl⟩
  have hCl : C.length = X.length := by rw [hC]; simp; omega
  have e : d'.toList = p ++ C ++ r := by
    apply List.ext_getElem?
    intro i
    by_cases c1 : i < a
    · rw [get i (.inl c1), List.append_assoc, List.append_assoc, List.getElem?_append_left (by omega), List.getElem?_append_left (by omega)]
    · by_cases c2 : b ≤ i
      · rw [get i (.inr c2), List.getElem?_append_right (by simp; omega), List.getElem?_append_right (by simp; omega)]
        simp [hCl]
      · rw [List.append_assoc, List.getElem?_append_right (by omega), List.getElem?_append_left (by omega), hC, List.getElem?_take, if_pos (by omega), List.getElem?_drop]
        congr 1; omega
  refine ⟨C, e, hCl, ?_, fun v => ?_⟩
  · unfold SortedBy
    rw [List.pairwise_iff_getElem]
    intro i j hi hj hij
    have h := hs (a + i) (a + j) (by omega) (by omega) (by omega)
    have g : ∀ k (hk : k < C.length), d'[a + k]! = C[k] := fun k hk => by
      have hlt : a + k < d'.size := by omega
      rw [getElem!_pos d' _ hlt]
      have h5 : d'.toList[a + k]? = C[k]? := by
        rw [e, List.append_assoc, List.getElem?_append_right (by omega), List.getElem?_append_left (by omega)]
        congr 1; omega
      rw [List.getElem?_eq_getElem (by simpa using hlt), List.getElem?_eq_getElem hk] at h5
      simpa using h5
    rw [g i hi, g j hj] at h
    exact hlt _ _ h
  · have h := ht v
    rw [e, List.filter_append, List.filter_append, List.filter_append, List.filter_append] at h
    exact List.append_cancel_left (List.append_cancel_right h)
end Go.Croft
namespace Go.Proofs
open Go.Croft Go.RowKit Go.Sort Go.Shelf

theorem swoId : SWO (ltOf (fun a b : Pnt => cmpI a.id b.id)) where
  irrefl x := by simp only [ltOf, decide_eq_false_iff_not, cmpI_neg]; omega
  trans x y z h1 h2 := by simp only [ltOf, decide_eq_true_eq, cmpI_neg] at *; omega
  ntrans x y z h1 h2 := by simp only [ltOf, decide_eq_false_iff_not, cmpI_neg] at *; omega

theorem sortPt20 : SlLaysF0.n20 Try.prog Try.sortPt_ren := { Try.sortPt with }
set_option maxRecDepth 100000 in
set_option maxHeartbeats 1000000 in
theorem insPt_c (m : Mem) (w : World) (F : HP) (A : Option Addr) (cap len a b : Nat) (l p X r : List Pnt) (hl : l = p ++ X ++ r) (hlen : len = l.length) (ha : a = p.length) (hb : b = a + X.length) (h0 : 0 < len) (h9 : len ≤ 1000000000) (hS : St m w (star (SlO kPt A cap l) F)) :
    Calls Try.prog 146 #[.slice A len cap, .int .i64 a, .int .i64 b, .func (.func 76) #[] #[]] w fun e w' => e = .returned (.tuple #[]) ∧ ∃ C, C.length = X.length ∧ SortedBy Pnt.id C ∧ Stab Pnt.id X C ∧ St m w' (star (SlO kPt A cap (p ++ C ++ r)) F) := by
  subst hl hlen
  rcases SlO.open hS with ⟨_, h, _, _⟩ | ⟨g, off, cs, rfl, h2, h3, h4, h5, h6⟩
  · rw [h] at h0; simp at h0
  · have eg : ∀ args w, (callFunc 76 args).run Try.prog w = .ok (.enter 76 args) w := enters_of Try.func76 (by kernel_rfl) rfl
    have hcmp : CmpLays Try.prog 76 #[] kPt.enc kPt.K (fun a b : Pnt => cmpI a.id b.id) g off (p ++ X ++ r).toArray.size w := CmpLays.of_pure (k := kPt) (fun x y => ptCmp_p x y) g off _ w
    have hcon := AnyQ.insertionSortCmpFunc sortPt20 kPt.K Try.isAgg54 Try.sizeOf54 kPt.enc kPt.len kPt.one (fun a b : Pnt => cmpI a.id b.id) 76 #[] g off cap a b (p ++ X ++ r).toArray w eg
      hcmp (holdsK_of h6 h5) h6.lt (by omega) (by simp; omega) (by simp at h9 ⊢; omega)
    change Calls Try.prog 146 _ _ _ at hcon
    simp only [List.size_toArray] at hcon
    refine hcon.mono ?_
    rintro e w' ⟨rfl, n, os, rfl⟩
    obtain ⟨hp, hs⟩ := insertionSort_holds swoId (p ++ X ++ r).toArray a b (by omega) (by simp; omega)
    have ht := insertionSort_stab (key := Pnt.id) (lt := ltOf (fun a b : Pnt => cmpI a.id b.id)) (fun x y h => by simp only [ltOf, decide_eq_true_eq, cmpI_neg] at h; omega) (p ++ X ++ r).toArray a b (by simp; omega)
    obtain ⟨C, e1, e2, e3, e4⟩ := part_sorted (key := Pnt.id) (fun x y h => by simp only [ltOf, decide_eq_false_iff_not, cmpI_neg] at h; omega) ha hb hp hs ht
    have hS' := h6.sorted h2 h3 h4 n (insertionSort (ltOf (fun a b : Pnt => cmpI a.id b.id)) (p ++ X ++ r).toArray a b) (by rw [hp.1]; simp) os
    rw [e1] at hS'
    exact ⟨rfl, C, e2, e3, e4, hS'⟩
end Go.Proofs

namespace Go.Proofs
open Go.Croft Go.RowKit

theorem stabLen {l C : List Pnt} (h : Stab Pnt.id l C) : C.length = l.length := h.length

set_option maxRecDepth 100000 in
set_option maxHeartbeats 3200000 in
theorem stableCmp_c (m : Mem) (w : World) (F : HP) (A : Option Addr) (cap len : Nat) (l : List Pnt) (hlen : len = l.length) (h0 : 0 < len) (h9 : len ≤ 1000000000) (hS : St m w (star (SlO kPt A cap l) F)) :
    Calls Try.prog 108 #[.slice A len cap, .int .i64 len, .func (.func 76) #[] #[]] w fun e w' => e = .returned (.tuple #[]) ∧ ∃ C, SortedBy Pnt.id C ∧ Stab Pnt.id l C ∧ St m w' (star (SlO kPt A cap C) F) := by
  have HL := Lib.hid hlen
  clear hlen
  go_enter Try.func108, Try.ntmps108
  go_wp2_with fail
  go_loopg [7, 8] (len) (fun gr q t wr => ∃ (k : Nat) (D : List (List Pnt)) (R : List Pnt), q = .int .i64 k ∧ t = .int .i64 ((k : Int) + 20) ∧ k ≤ len ∧ len - k ≤ gr ∧ Hid (D.flatten.length = k) ∧ Hid (Full Pnt.id 20 D) ∧ Hid (Stab Pnt.id l (D.flatten ++ R)) ∧ St m wr (star (SlO kPt A cap (D.flatten ++ R)) F))
  case atStart => exact ⟨0, [], l, rfl, rfl, by omega, by omega, Lib.hid rfl, Lib.hid Full.nil, Lib.hid (.refl _), hS⟩
  case round =>
    obtain ⟨k, D, R, rfl, rfl, hk, hg, hDk, hD, hst, hSr⟩ := hrel
    clear hS
    have hR : k + R.length = len := by have h1 := stabLen hst.out; have h2 := hDk.out; have h3 := HL.out; simp only [List.length_append] at h1; omega
    have HR := Lib.hid hR
    clear hR
    by_cases hlt : k + 20 ≤ len
    · have hlt' : (k : Int) + 20 ≤ len := by omega
      have hx : (R.take 20).length = 20 := by have := HR.out; simp; omega
      have C1 := insPt_c m wr F A cap len k (k + 20) (D.flatten ++ R) D.flatten (R.take 20) (R.drop 20) (by simp) (by have := HR.out; have := hDk.out; simp only [List.length_append]; omega) hDk.out.symm (by rw [hx]) h0 h9 hSr
      rw [show ((k + 20 : Nat) : Int) = (k : Int) + 20 by omega] at C1
      replace C1 := Lib.hid C1
      have w1 : IntKind.i64.wrap ((k : Int) + 20 + 20) = (k : Int) + 20 + 20 := i64_keep _ (by omega) (by omega)
      have HX := Lib.hid hx
      clear hx
      go_wp2_with ((go_at_call 146; with_reducible refine C1.out.mono ?_); rintro e w1 ⟨rfl, C, c1, c2, c3, S1⟩)
      go_roundg (len - (k + 20))
      case measure => omega
      case rel =>
        refine ⟨k + 20, D ++ [C], R.drop 20, by go_num, by go_num, hlt, Nat.le_refl _, Lib.hid ?_, Lib.hid (hD.out.snoc (c1.trans HX.out) c2), Lib.hid (hst.out.trans ?_), by simpa using S1⟩
        · have := hDk.out; have := HX.out; simp only [List.flatten_append, List.flatten_cons, List.flatten_nil, List.length_append, List.append_nil, List.length_cons, List.length_nil]; omega
        · have := Stab.mid (p := D.flatten) (r := R.drop 20) c3
          simpa using this
    · have hlt' : ¬ (k : Int) + 20 ≤ len := by omega
      have C1 := Lib.hid (insPt_c m wr F A cap len k len (D.flatten ++ R) D.flatten R [] (by simp) (by have := HR.out; have := hDk.out; simp only [List.length_append]; omega) hDk.out.symm HR.out.symm h0 h9 hSr)
      clear hSr
      go_wp2_with ((go_at_call 146; with_reducible refine C1.out.mono ?_); rintro e w1 ⟨rfl, C, c1, c2, c3, S1⟩)
      have hblk : ∃ L : List (List Pnt), L.flatten = D.flatten ++ C ∧ Blk Pnt.id 20 L := by
        by_cases hc : 0 < C.length
        · refine ⟨D ++ [C], by simp, Blk.app (by omega) hD.out ⟨hc, ?_, c2⟩⟩
          have := HR.out; omega
        · obtain rfl : C = [] := List.eq_nil_of_length_eq_zero (by omega)
          exact ⟨D ++ [], by simp, Blk.app (by omega) hD.out trivial⟩
      obtain ⟨L, hL, hB⟩ := hblk
      have hst2 : Hid (Stab Pnt.id l L.flatten) := by rw [hL]; exact hst.out.trans (Stab.append (.refl _) c3)
      have HB := Lib.hid hB
      have S2 : St m w1 (star (SlO kPt A cap L.flatten) F) := by rw [hL]; simpa using S1
      clear C1 c1 c2 c3 S1 hB hL hst hD hDk HR hlt' hlt hk hg
      go_wp2_with fail
      go_loopg [6] (len) (fun gr q wr => ∃ (bs : Nat) (L : List (List Pnt)), q = .int .i64 bs ∧ 0 < bs ∧ bs ≤ 2000000000 ∧ len - bs ≤ gr ∧ Hid (Blk Pnt.id bs L) ∧ Hid (Stab Pnt.id l L.flatten) ∧ St m wr (star (SlO kPt A cap L.flatten) F))
      case atStart => exact ⟨20, L, rfl, by omega, by omega, by omega, HB, hst2, S2⟩
      case round =>
        clear HB hst2 S2
        obtain ⟨bs, L, rfl, hb0, hb9, hg, hB, hst, hSr⟩ := hrel
        by_cases hlt : bs < len
        · have hlt' : (bs : Int) < len := by omega
          have w1 : IntKind.i64.wrap (2 * (bs : Int)) = 2 * (bs : Int) := i64_keep _ (by omega) (by omega)
          have w2 : IntKind.i64.wrap ((bs : Int) * 2) = (bs : Int) * 2 := i64_keep _ (by omega) (by omega)
          go_wp2_with fail
          obtain ⟨wo, rfl⟩ : ∃ wo : World, wo = wr := ⟨_, rfl⟩
          go_loopg [7, 8] len (fun gr q t wr => ∃ (k : Nat) (D T : List (List Pnt)), q = .int .i64 k ∧ t = .int .i64 ((k : Int) + 2 * bs) ∧ k ≤ len ∧ len - k ≤ gr ∧ Hid (D.flatten.length = k) ∧ Hid (Full Pnt.id (2 * bs) D) ∧ Hid (Blk Pnt.id bs T) ∧ Hid (Stab Pnt.id l (D.flatten ++ T.flatten)) ∧ St m wr (star (SlO kPt A cap (D.flatten ++ T.flatten)) F))
          case atStart => exact ⟨0, [], L, rfl, by simp, by omega, by omega, Lib.hid rfl, Lib.hid Full.nil, hB, by simpa using hst, by simpa using hSr⟩
          case round =>
            clear hB hst hSr
            obtain ⟨k, D, T, rfl, rfl, hk, hg2, hDk, hD, hT, hst, hSr⟩ := hrel
            have HT : Hid (k + T.flatten.length = len) := Lib.hid (by have h1 := stabLen hst.out; have h2 := hDk.out; have h3 := HL.out; simp only [List.length_append] at h1; omega)
            by_cases hk2 : k + 2 * bs ≤ len
            · have hk3 : (k : Int) + 2 * bs ≤ len := by omega
              obtain ⟨X, Y, T', rfl, x1, x2, y0, y1, y2, hT', hfull, _⟩ := hT.out.two hb0 (by have := HT.out; omega)
              replace hfull := hfull (by have := HT.out; omega)
              have hc := HT.out
              simp only [List.flatten_cons, List.length_append] at hc
              have C1 := symSpec (2 * bs) m wr F A cap len k (k + bs) (k + 2 * bs) (D.flatten ++ (X :: Y :: T').flatten) D.flatten X Y T'.flatten (by simp) (by have := hDk.out; simp only [List.flatten_append, List.flatten_cons, List.flatten_nil, List.length_append, List.append_nil, List.length_cons, List.length_nil]; omega) hDk.out.symm (by rw [x1]) (by omega) (by omega) (by omega) (by omega) (by have := hDk.out; simp only [List.flatten_append, List.flatten_cons, List.flatten_nil, List.length_append, List.append_nil, List.length_cons, List.length_nil]; omega) x2 y2 hSr
              rw [show ((k + bs : Nat) : Int) = (k : Int) + bs by omega, show ((k + 2 * bs : Nat) : Int) = (k : Int) + 2 * bs by omega] at C1
              replace C1 := Lib.hid C1
              have w3 : IntKind.i64.wrap ((k : Int) + bs) = (k : Int) + bs := i64_keep _ (by omega) (by omega)
              have w4 : IntKind.i64.wrap ((k : Int) + 2 * bs + 2 * bs) = (k : Int) + 2 * bs + 2 * bs := i64_keep _ (by omega) (by omega)
              have HX := Lib.hid (And.intro x1 hfull)
              have HT' := Lib.hid hT'
              clear hSr hT hfull x1 x2 y0 y1 y2 hc hT'
              go_wp2_with ((go_at_call 147; with_reducible refine C1.out.mono ?_); rintro e w1 ⟨rfl, C, c2, c3, S1⟩)
              go_roundg (len - (k + 2 * bs))
              case measure => omega
              case rel =>
                have hCl := c3.length
                have hX := HX.out
                simp only [List.length_append] at hCl
                refine ⟨k + 2 * bs, D ++ [C], T', by go_num, by go_num, hk2, Nat.le_refl _, Lib.hid ?_, Lib.hid (hD.out.snoc (by omega) c2), HT', Lib.hid (hst.out.trans ?_), by simpa using S1⟩
                · have := hDk.out; simp only [List.flatten_append, List.flatten_cons, List.flatten_nil, List.length_append, List.append_nil, List.length_cons, List.length_nil]; omega
                · have := Stab.mid (p := D.flatten) (r := T'.flatten) c3
                  simpa using this
            · have hk3 : ¬ (k : Int) + 2 * bs ≤ len := by omega
              have w3 : IntKind.i64.wrap ((k : Int) + bs) = (k : Int) + bs := i64_keep _ (by omega) (by omega)
              by_cases hm : k + bs < len
              · have hm' : (k : Int) + bs < len := by omega
                obtain ⟨X, Y, T', rfl, x1, x2, y0, y1, y2, hT', _, hend⟩ := hT.out.two hb0 (by have := HT.out; omega)
                obtain rfl := hend (by have := HT.out; omega)
                have hc := HT.out
                simp only [List.flatten_cons, List.length_append, List.flatten_nil, List.length_nil] at hc
                have C1 := symSpec (2 * bs) m wr F A cap len k (k + bs) len (D.flatten ++ [X, Y].flatten) D.flatten X Y [] (by simp) (by have := hDk.out; simp only [List.flatten_append, List.flatten_cons, List.flatten_nil, List.length_append, List.append_nil, List.length_cons, List.length_nil]; omega) hDk.out.symm (by rw [x1]) (by omega) (by omega) (by omega) (by omega) (by have := hDk.out; simp only [List.flatten_append, List.flatten_cons, List.flatten_nil, List.length_append, List.append_nil, List.length_cons, List.length_nil]; omega) x2 y2 hSr
                rw [show ((k + bs : Nat) : Int) = (k : Int) + bs by omega] at C1
                replace C1 := Lib.hid C1
                have HX := Lib.hid (And.intro x1 (And.intro y0 y1))
                clear hSr hT x1 x2 y0 y1 y2 hc hT'
                go_wp2_with ((go_at_call 147; with_reducible refine C1.out.mono ?_); rintro e w1 ⟨rfl, C, c2, c3, S1⟩)
                go_roundg (len - 2 * bs)
                case measure => omega
                case rel =>
                  have hCl := c3.length
                  have hX := HX.out
                  simp only [List.length_append] at hCl
                  refine ⟨2 * bs, D ++ [C], by go_num, by omega, by omega, Nat.le_refl _, Lib.hid (Blk.app (by omega) hD.out ⟨by omega, by omega, c2⟩), Lib.hid (hst.out.trans ?_), by simpa using S1⟩
                  have := Stab.mid (p := D.flatten) (r := []) c3
                  simpa using this
              · have hm' : ¬ (k : Int) + bs < len := by omega
                have HB2 : Hid (Blk Pnt.id (2 * bs) (D ++ T)) := by
                  refine Lib.hid (Blk.app (by omega) hD.out ?_)
                  rcases hT.out.small hb0 (by have := HT.out; omega) with rfl | ⟨X, rfl, x0, x1, x2⟩
                  · trivial
                  · exact ⟨x0, by omega, x2⟩
                go_wp2_with fail
                go_roundg (len - 2 * bs)
                case measure => omega
                case rel => exact ⟨2 * bs, D ++ T, by go_num, by omega, by omega, Nat.le_refl _, HB2, by simpa using hst, by simpa using hSr⟩
        · have hlt' : ¬ (bs : Int) < len := by omega
          go_wp2_with fail
          go_end0
          exact ⟨rfl, L.flatten, hB.out.sorted hb0 (by have := stabLen hst.out; have := HL.out; omega), hst.out, hSr⟩
end Go.Proofs
