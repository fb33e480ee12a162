/- Contracts of the given program, for the proofs of its statements: text SpanLaw. No conditions beyond those in each theorem. -/
import Derived.Test.YtlheekiegfhkiaaSpanWay
namespace Go.Proofs
open Go.Croft Go.RowKit

def joinedB (l : List SRoad) (a b : Int) : Bool := l.any fun r => (r.a == a && r.b == b) || (r.a == b && r.b == a)
theorem joinedB_of_next {n : Int} {l : List SRoad} {a b : Int} (h : nextTo n l a b) : joinedB l a b = true := by
  obtain ⟨r, hr, hb⟩ := h
  refine List.any_eq_true.2 ⟨r, hr, ?_⟩
  unfold bsd at hb
  split at hb
  · split at hb
    · simp at hb; simp; omega
    · simp at hb
  · split at hb
    · simp at hb; simp; omega
    · simp at hb
theorem joinedB_snoc (l : List SRoad) (a b : Int) (k : Nat) (h : k < l.length) : joinedB (l.take (k + 1)) a b = (joinedB (l.take k) a b || ((l[k].a == a && l[k].b == b) || (l[k].a == b && l[k].b == a))) := by
  unfold joinedB; rw [List.take_succ_eq_append_getElem h, List.any_append]; simp

set_option maxHeartbeats 400000 in
theorem joined_c (m : Mem) (w : World) (F : HP) (A : Option Addr) (cap : Nat) (l : List SRoad) (a b : Int) (hR : SlR kRoad m A cap l) (hS : St m w F) (hj : joinedB l a b = true) :
    Calls Try.prog 12 #[.slice A l.length cap, .int .i64 a, .int .i64 b] w fun e w' => e = .returned (.bool true) ∧ w' = w := by
  have HR := Lib.hid hR
  have HS := Lib.hid hS
  have HJ := Lib.hid hj
  have hlm := hR.len_max
  clear hR hS hj
  go_enter Try.func12, Try.ntmps12
  go_wp2
  go_loopg [7] l.length (fun r t wr => ∃ k : Nat, k + r = l.length ∧ t = .int .i64 k ∧ Hid (joinedB (l.take k) a b = false) ∧ wr = w)
  case atStart => exact ⟨0, by omega, rfl, Lib.hid rfl, rfl⟩
  case round =>
    obtain ⟨k, hk, rfl, hn, rfl⟩ := hrel
    by_cases hlt : k < l.length
    · obtain ⟨g, off, rfl, hc⟩ := HR.out.at HS.out hlt
      have h0 := hc 0 _ rfl
      have h1 := hc 1 _ rfl
      simp only [kRoad, Nat.add_zero] at h0 h1
      have hs := Lib.hid (joinedB_snoc l a b k hlt)
      clear hc
      by_cases ha : l[k].a = a
      · have a1 : (l[k].a == a) = true := by simp [ha]
        by_cases hb : l[k].b = b
        · have b1 : (l[k].b == b) = true := by simp [hb]
          clear ha hb
          go_wp2
          go_ret; exact ⟨rfl, rfl⟩
        · have b1 : (l[k].b == b) = false := by simp [hb]
          by_cases hc : l[k].a = b
          · have c1 : (l[k].a == b) = true := by simp [hc]
            have d1 : (l[k].b == a) = false := by simp; omega
            clear ha hb hc
            go_wp2
            go_roundg (gk - 1)
            case measure => omega
            case rel => exact ⟨k + 1, by omega, by go_num, Lib.hid (by rw [hs.out, hn.out, a1, b1, c1, d1]; rfl), rfl⟩
          · have c1 : (l[k].a == b) = false := by simp [hc]
            clear ha hb hc
            go_wp2
            go_roundg (gk - 1)
            case measure => omega
            case rel => exact ⟨k + 1, by omega, by go_num, Lib.hid (by rw [hs.out, hn.out, a1, b1, c1]; rfl), rfl⟩
      · have a1 : (l[k].a == a) = false := by simp [ha]
        by_cases hc : l[k].a = b
        · have c1 : (l[k].a == b) = true := by simp [hc]
          by_cases hd : l[k].b = a
          · have d1 : (l[k].b == a) = true := by simp [hd]
            clear ha hc hd
            go_wp2
            go_ret; exact ⟨rfl, rfl⟩
          · have d1 : (l[k].b == a) = false := by simp [hd]
            clear ha hc hd
            go_wp2
            go_roundg (gk - 1)
            case measure => omega
            case rel => exact ⟨k + 1, by omega, by go_num, Lib.hid (by rw [hs.out, hn.out, a1, c1, d1]; rfl), rfl⟩
        · have c1 : (l[k].a == b) = false := by simp [hc]
          clear ha hc
          go_wp2
          go_roundg (gk - 1)
          case measure => omega
          case rel => exact ⟨k + 1, by omega, by go_num, Lib.hid (by rw [hs.out, hn.out, a1, c1]; rfl), rfl⟩
    · exfalso
      obtain rfl : k = l.length := by omega
      have := hn.out
      rw [List.take_length, HJ.out] at this
      cases this

def pz : Pnt := ⟨0, 0, 0, ⟨#[]⟩⟩
def p3 : Pnt := ⟨0, 3, 0, ⟨#[]⟩⟩
theorem pz_ok : pz.ok := by constructor <;> simp [pz, ByteArray.size]
theorem p3_ok : p3.ok := by constructor <;> simp [p3, ByteArray.size]
theorem aliveOut {out rs : List SRoad} (h : ∀ a b, a < 2 → b < 2 → Conn 2 out a b) (hp : rs.Perm (pairsTo [pz, p3] 2)) (hs : out.Sublist rs) : out = [⟨0, 1, ⟨0, 9⟩⟩] := by
  have e : pairsTo [pz, p3] 2 = [⟨0, 1, ⟨0, 9⟩⟩] := by decide +kernel
  rw [e, List.perm_singleton] at hp
  subst hp
  have hc := h 0 1 (by omega) (by omega)
  cases hs with
  | cons _ hs =>
    have := List.sublist_nil.1 hs
    subst this
    exfalso
    have key : ∀ b, Conn 2 [] 0 b → b = 0 := fun b hb => by
      cases hb with
      | refl => rfl
      | step _ hn => obtain ⟨r, hr, _⟩ := hn; simp at hr
    have := key 1 hc
    omega
  | cons_cons _ hs => rw [List.sublist_nil.1 hs]
theorem aliveOut1 {out rs : List SRoad} (hp : rs.Perm (pairsTo [pz] 1)) (hs : out.Sublist rs) : out = [] := by
  have e : pairsTo [pz] 1 = [] := by decide +kernel
  rw [e, List.perm_nil] at hp
  subst hp
  exact List.sublist_nil.1 hs

set_option maxRecDepth 100000 in
set_option maxHeartbeats 400000 in
theorem spanAlive_c (m : Mem) (w : World) (F : HP) (hS : St m w F) :
    Calls Try.prog 9 #[] w fun e w' => e = .returned (.bool true) ∧ ∃ m', m.le m' ∧ St m' w' F := by
  have HS := Lib.hid hS
  clear hS
  go_enter Try.func9, Try.ntmps9
  go_wp2_with fail
  obtain ⟨m1, l1, S1, R1⟩ := SlR.fresh (k := kPt) [pz, p3] HS.out _ rfl (by simp)
  refine (roads_c m1 _ _ _ _ [pz, p3] (by simp) (by intro p hp; simp at hp; rcases hp with rfl | rfl; exact pz_ok; exact p3_ok) R1 S1).mono ?_
  rintro e w1 ⟨m2, A2, c2, out, rfl, h1, ⟨rs, h2, h3⟩, l2, R2, S2⟩
  obtain rfl := aliveOut h1 h2 h3
  have L2 := Lib.hid (l1.trans l2)
  clear h1 h2 h3 S1 R1 l1 l2
  go_wp2_with fail
  obtain ⟨m3, l3, S3, R3⟩ := SlR.fresh (k := kPt) [pz] S2 _ rfl (by simp)
  refine (roads_c m3 _ _ _ _ [pz] (by simp) (by intro p hp; simp at hp; subst hp; exact pz_ok) R3 S3).mono ?_
  rintro e w2 ⟨m4, A4, c4, out, rfl, h1, ⟨rs, h2, h3⟩, l4, R4, S4⟩
  obtain rfl := aliveOut1 h2 h3
  have R2' := R2.mono (l3.trans l4)
  have L4 := Lib.hid (L2.out.trans (l3.trans l4))
  obtain ⟨b, off, rfl, hc⟩ := R2'.at S4 (i := 0) (by simp)
  have e0 := hc 0 _ rfl
  have e1 := hc 1 _ rfl
  have e2 := hc 2 _ rfl
  have e3 := hc 3 _ rfl
  simp only [kRoad, List.getElem_cons_zero, Nat.add_zero, Nat.mul_zero, Nat.zero_mul] at e0 e1 e2 e3
  have S4' := Lib.hid S4
  clear h1 h2 h3 S3 R3 l3 l4 hc S2 R2 R2' S4
  go_wp2_with fail
  go_ret
  exact ⟨rfl, m4, L4, S4'⟩
end Go.Proofs
