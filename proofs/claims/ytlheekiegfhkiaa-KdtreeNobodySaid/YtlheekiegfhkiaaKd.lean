/- Contracts of the given program, for the proofs of its statements: text Kd. No conditions beyond those in each theorem. -/
import Derived.Test.YtlheekiegfhkiaaKdSort
namespace Go.Proofs
open Go.Croft Go.RowKit Go.Sort Go.Shelf

/-- a tree as memory holds it: none; one that nobody made; a node -/
inductive Kt where
  | nil
  | blank
  | node (p : Pnt) (l r : Kt)
def Kt.is : Kt → Bool | .node .. => true | _ => false
def Kt.depth : Kt → Nat | .node _ l r => 1 + max l.depth r.depth | _ => 0
def KtR (m : Mem) : Kt → Option Addr → Prop
  | .nil, v => v = none
  | .blank, v => ∃ b fr, v = some ⟨b, 0, none⟩ ∧ m.blk b = some (.cells #[.bool false, .int .i64 0, .int .u32 0, .int .u32 0, .string ⟨#[]⟩, .pointer none, .pointer none] 56 fr)
  | .node p l r, v => ∃ b vl vr fr, v = some ⟨b, 0, none⟩ ∧ m.blk b = some (.cells #[.bool true, .int .i64 p.id, .int .u32 p.x, .int .u32 p.y, .string p.data, .pointer vl, .pointer vr] 56 fr) ∧ KtR m l vl ∧ KtR m r vr
theorem KtR.mono {m m' : Mem} (h : m.le m') : ∀ {t : Kt} {v : Option Addr}, KtR m t v → KtR m' t v
  | .nil, _, k => k
  | .blank, _, ⟨b, fr, e, k⟩ => ⟨b, fr, e, h.blk _ _ k⟩
  | .node _ _ _, _, ⟨b, vl, vr, fr, e, k, k1, k2⟩ => ⟨b, vl, vr, fr, e, h.blk _ _ k, k1.mono h, k2.mono h⟩

theorem kdIs_c (m : Mem) (w : World) (F : HP) (t : Kt) (v : Option Addr) (hT : KtR m t v) (hS : St m w F) :
    Calls Try.prog 64 #[.pointer v] w fun e w' => e = .returned (.bool t.is) ∧ w' = w := by
  match t, hT with
  | .nil, h =>
    subst h
    go_enter Try.func64, Try.ntmps64
    go_wp2
    go_ret; exact ⟨rfl, rfl⟩
  | .blank, ⟨b, fr, e, k⟩ =>
    subst e
    have c0 := hS.cellM k 0
    clear k
    go_enter Try.func64, Try.ntmps64
    go_wp2
    go_ret; exact ⟨rfl, rfl⟩
  | .node p l r, ⟨b, vl, vr, fr, e, k, _, _⟩ =>
    subst e
    have c0 := hS.cellM k 0
    clear k
    go_enter Try.func64, Try.ntmps64
    go_wp2
    go_ret; exact ⟨rfl, rfl⟩

/-- how the points of a list may stand in a tree -/
inductive Halved : Nat → List Pnt → Kt → Prop where
  | nil (d : Nat) : Halved d [] .nil
  | node (d : Nat) (l s1 s2 : List Pnt) (p : Pnt) (L R : Kt) : (s1 ++ p :: s2).Perm l → (∀ a ∈ s1, ¬ cmpK d p a < 0) → (∀ b ∈ s2, ¬ cmpK d b p < 0) → Halved (d + 1) s1 L → Halved (d + 1) s2 R → Halved d l (.node p L R)

theorem pw_split {α : Type} {R : α → α → Prop} {s : List α} (h : s.Pairwise R) {k : Nat} (hk : k < s.length) : (∀ a ∈ s.take k, R a s[k]) ∧ ∀ b ∈ s.drop (k + 1), R s[k] b := by
  have e : s.take k ++ s[k] :: s.drop (k + 1) = s := by simp
  have h' : (s.take k ++ s[k] :: s.drop (k + 1)).Pairwise R := by rw [e]; exact h
  rw [List.pairwise_append, List.pairwise_cons] at h'
  exact ⟨fun a ha => h'.2.2 a ha s[k] List.mem_cons_self, h'.2.1.1⟩
theorem kdMakeBy_c (m : Mem) (w : World) (F : HP) (d : Nat) (hS : St m w F) :
    Calls Try.prog 92 #[.int .i64 d] w fun e w' => ∃ c m' fr, e = .returned (.func (.func 117) #[] #[.pointer (some ⟨c, 0, none⟩)]) ∧ m.le m' ∧ m'.blk c = some (.cells #[.int .i64 d] 3 fr) ∧ St m' w' F := by
  obtain ⟨m1, l1, b1, S1⟩ := hS.allocf (.cells #[.int .i64 d] 3)
  go_enter Try.func92, Try.ntmps92
  go_wp2
  go_ret
  exact ⟨_, m1, _, rfl, l1, b1, S1⟩

set_option maxRecDepth 100000 in
set_option maxHeartbeats 1000000 in
theorem kdGrow_c (n : Nat) : ∀ (m : Mem) (w : World) (F : HP) (A : Option Addr) (cap : Nat) (l : List Pnt) (d : Nat), l.length ≤ n → d + l.length ≤ 1000 → SlR kPt m A cap l → St m w F →
    Calls Try.prog 56 #[.slice A l.length cap, .int .i64 d] w fun e w' => ∃ m' v t, e = .returned (.pointer v) ∧ m.le m' ∧ KtR m' t v ∧ Halved d l t ∧ St m' w' F := by
  induction n with
  | zero =>
    intro m w F A cap l d hl hd hR hS
    obtain rfl : l = [] := List.eq_nil_of_length_eq_zero (by omega)
    go_enter Try.func56, Try.ntmps56
    go_wp2
    go_ret
    exact ⟨m, _, .nil, rfl, .refl _, rfl, .nil _, hS⟩
  | succ n ih =>
    intro m w F A cap l d hl hd hR hS
    by_cases h0 : l.length = 0
    · obtain rfl : l = [] := List.eq_nil_of_length_eq_zero h0
      go_enter Try.func56, Try.ntmps56
      go_wp2
      go_ret
      exact ⟨m, _, .nil, rfl, .refl _, rfl, .nil _, hS⟩
    · have hz : ((l.length : Int) == 0) = false := beq_eq_false_iff_ne.2 (by omega)
      have HR := Lib.hid hR
      clear hR
      go_enter Try.func56, Try.ntmps56
      go_wp2_with (first
        | (go_at_call 74; refine (clonePt_c m w F A cap l (by omega) HR.out hS).mono ?_; rintro e w1 ⟨A1, cap1, rfl, _, S1⟩; clear hS)
        | (go_at_call 92; refine (kdMakeBy_c m w1 _ d S1).mono ?_; rintro e w2 ⟨c, m2, fr, rfl, l2, b2, S2⟩; clear S1)
        | (go_at_call 91; refine (sortKd_c m2 w2 F A1 cap1 l d c (by omega) fr b2 S2 (by omega) (by omega)).mono ?_; rintro e w3 ⟨rfl, s, hp, hs, S3⟩; clear S2 b2))
      have hln := hp.length_eq
      rw [← hln]
      rw [← hln] at hd hl h0
      have e : ((s.length : Int) / 2) = ((s.length / 2 : Nat) : Int) := by omega
      rw [e]
      have hk2 : s.length / 2 < s.length := by omega
      generalize s.length / 2 = k at hk2 ⊢
      obtain ⟨m3, l3, S4, R4⟩ := SlO.freeze S3
      have hcp := R4.le_cap
      have hcm := R4.le_max
      obtain ⟨b, off, rfl, hc⟩ := R4.at S4 hk2
      have hs1 := fun w => run_slice_to (P := Try.prog) kPt_ok 22 Try.underlying22 (some ⟨b, off, none⟩) s.length cap1 k .i64 (by omega) hcp w
      have hs2 := fun w => run_slice_from (P := Try.prog) kPt_ok 22 Try.underlying22 (some ⟨b, off, none⟩) s.length cap1 (k + 1) ((k : Int) + 1) (by simp) .i64 (by omega) hcp w
      have R5 := R4.cut 0 k (by omega) (by omega)
      have R6 := R4.cut (k + 1) s.length (by omega) (by omega)
      have g1 : (s.take k).drop 0 = s.take k := by simp
      have g2 : (s.take s.length).drop (k + 1) = s.drop (k + 1) := by simp
      rw [g1, Nat.sub_zero] at R5
      rw [g2] at R6
      have n1 : (s.take k).length = k := by simp; omega
      have n2 : (s.drop (k + 1)).length = s.length - (k + 1) := by simp
      have hsplit : s = s.take k ++ s[k] :: s.drop (k + 1) := by simp
      generalize sliceAddr (some ⟨b, off, none⟩) cap1 0 kPt.K = A5 at hs1 R5
      generalize sliceAddr (some ⟨b, off, none⟩) cap1 (k + 1) kPt.K = A6 at hs2 R6
      have HSP := Lib.hid hsplit
      clear hsplit
      have HS := Lib.hid hs
      have HR5 := Lib.hid R5
      have HR6 := Lib.hid R6
      have HL := Lib.hid (l2.trans l3)
      have HP := Lib.hid hp
      have hold : ∀ m' W' H', m3.le m' → St m' W' H' → W'.cell? ⟨b, off + k * 4, none⟩ = some (.int .i64 s[k].id) ∧ W'.cell? ⟨b, off + k * 4 + 1, none⟩ = some (.int .u32 s[k].x) ∧ W'.cell? ⟨b, off + k * 4 + 2, none⟩ = some (.int .u32 s[k].y) ∧ W'.cell? ⟨b, off + k * 4 + 3, none⟩ = some (.string s[k].data) := fun m' W' H' hm hS' => by
        obtain ⟨b', off', e', hc'⟩ := (R4.mono hm).at hS' hk2
        cases e'
        have c0 := hc' 0 _ rfl
        have c1 := hc' 1 _ rfl
        have c2 := hc' 2 _ rfl
        have c3 := hc' 3 _ rfl
        simp only [kPt, Nat.add_zero] at c0 c1 c2 c3
        exact ⟨c0, c1, c2, c3⟩
      have HOLD := Lib.hid hold
      have hs0 := HOLD.out _ _ _ (.refl _) S4
      have k0 : (0 : Int) ≤ k := by omega
      have k1 : (k : Int) < s.length := by omega
      have k2 : IntKind.i64.wrap ((k : Int) + 1) = (k : Int) + 1 := i64_keep _ (by omega) (by omega)
      have k3 : IntKind.i64.wrap ((d : Int) + 1) = (d : Int) + 1 := i64_keep _ (by omega) (by omega)
      have dc : ((d + 1 : Nat) : Int) = (d : Int) + 1 := by simp
      have Q1 := Lib.hid fun W' (hS' : St m3 W' F) => ih m3 W' F A5 cap1 (s.take k) (d + 1) (by omega) (by omega) R5 hS'
      have Q2 := Lib.hid fun m4 W' (hm : m3.le m4) (hS' : St m4 W' F) => ih m4 W' F A6 (cap1 - (k + 1)) (s.drop (k + 1)) (d + 1) (by omega) (by omega) (R6.mono hm) hS'
      simp only [n1, n2, dc] at Q1 Q2
      have L0 := Mem.le.refl m3
      clear ih hold hc R4 R5 R6 hs hp l2 l3 S3 hcm hln e g1 g2 dc n1 n2 HR5 HR6
      go_region_held3 (fun W' => W'.cell? ⟨b, off + k * 4, none⟩ = some (.int .i64 s[k].id) ∧ W'.cell? ⟨b, off + k * 4 + 1, none⟩ = some (.int .u32 s[k].x) ∧ W'.cell? ⟨b, off + k * 4 + 2, none⟩ = some (.int .u32 s[k].y) ∧ W'.cell? ⟨b, off + k * 4 + 3, none⟩ = some (.string s[k].data))
        (first | exact HOLD.out _ _ _ (by assumption) (by assumption) | exact HOLD.out _ _ _ (by assumption) (St.drew (by assumption)) | exact HOLD.out _ _ _ (by assumption) (St.alloc (by assumption) _).drop)
        (first
          | (go_at_call 56; with_reducible refine (Q1.out _ (by first | exact S4 | exact S4.drew | exact S4.drewN _)).mono ?_; rintro e w4 ⟨m4, v1, t1, rfl, l4, K1, D1, S5⟩)
          | (go_at_call 56; with_reducible refine (Q2.out m4 _ l4 (by first | exact S5 | exact S5.drew | exact S5.drewN _)).mono ?_; rintro e w5 ⟨m5, v2, t2, rfl, l5, K2, D2, S6⟩; have l6 := l4.trans l5))
      obtain ⟨m6, l7, b7, S7⟩ := S6.allocf (.cells #[.bool true, .int .i64 s[k].id, .int .u32 s[k].x, .int .u32 s[k].y, .string s[k].data, .pointer v1, .pointer v2] 56)
      go_wp2
      go_ret
      obtain ⟨hlr, hr⟩ := pw_split HS.out hk2
      refine ⟨m6, _, .node s[k] t1 t2, rfl, HL.out.trans (l6.trans l7), ⟨_, v1, v2, _, rfl, b7, K1.mono (l5.trans l7), K2.mono l7⟩, Halved.node d l (s.take k) (s.drop (k + 1)) s[k] t1 t2 ?_ ?_ ?_ D1 D2, S7⟩
      · rw [← HSP.out]; exact HP.out
      · intro a ha; have := hlr a ha; omega
      · intro b hb; have := hr b hb; omega
end Go.Proofs
