/- Contracts of the given program, for the proofs of its statements: text SpanWay. No conditions beyond those in each theorem. -/
import Derived.Test.YtlheekiegfhkiaaSpanRoads2
namespace Go.Proofs
open Go.Croft Go.RowKit

/-- a way: from place to place by roads -/
structure Wayed (n : Nat) (l : List SRoad) (a b : Nat) (o : List Int) : Prop where
  first : o[0]? = some (a : Int)
  last : ∃ h : o.length - 1 < o.length, o[o.length - 1] = b
  next : ∀ i (h : i + 1 < o.length), ∃ x y : Nat, o[i] = x ∧ o[i + 1] = y ∧ nextTo n l x y
theorem Wayed.start (n : Nat) (l : List SRoad) (a : Nat) : Wayed n l a a [(a : Int)] := ⟨rfl, ⟨by simp, rfl⟩, fun i h => by simp at h⟩
theorem Wayed.snoc {n : Nat} {l : List SRoad} {a b c : Nat} {o : List Int} (h : Wayed n l a b o) (hn : nextTo n l b c) : Wayed n l a c (o ++ [(c : Int)]) := by
  obtain ⟨h1, ⟨h2, h3⟩, h4⟩ := h
  refine ⟨by rw [List.getElem?_append_left (by omega)]; exact h1, ⟨by simp, by simp⟩, fun i hi => ?_⟩
  by_cases e : i + 1 < o.length
  · obtain ⟨x, y, a, b, c⟩ := h4 i e
    exact ⟨x, y, by rw [List.getElem_append_left (by omega)]; exact a, by rw [List.getElem_append_left e]; exact b, c⟩
  · have e2 : i + 1 = o.length := by simp at hi; omega
    refine ⟨b, c, ?_, ?_, hn⟩
    · rw [List.getElem_append_left (by omega)]; rw [← h3]; congr 1; omega
    · rw [List.getElem_append_right (by omega)]; simp [e2]

theorem FarOut.reach {n : Nat} {l : List SRoad} {tt : Nat} {d : List Int} (h : FarOut n l tt d) {a : Nat} (hc : Conn n l tt a) : ∃ h : a < d.length, 0 ≤ d[a] := by
  induction hc with
  | refl => obtain ⟨h1, h2⟩ := h.inv.to0; exact ⟨h1, by omega⟩
  | step _ hn ih => obtain ⟨h1, h2⟩ := ih; exact h.closed _ h1 h2 _ hn

set_option maxRecDepth 100000 in
set_option maxHeartbeats 1000000 in
theorem way_c (m : Mem) (w : World) (F : HP) (A : Option Addr) (cap : Nat) (l : List SRoad) (n a b : Nat) (hR : SlR kRoad m A cap l) (hS : St m w F) (hlen : l.length ≤ 1000000) (hn : n ≤ 1000) (ha : a < n) (hb : b < n) (hc : Conn n l b a) :
    Calls Try.prog 11 #[.int .i64 n, .slice A l.length cap, .int .i64 a, .int .i64 b] w fun e w' => ∃ A' cap' o, e = .returned (.tuple #[.slice A' o.length cap', .bool true]) ∧ Wayed n l a b o ∧ St m w' (SlO kInt A' cap' o ∗∗ F) := by
  have HR := Lib.hid hR
  have HS := Lib.hid hS
  have HC := Lib.hid hc
  have a1 : (a : Int) < n := by omega
  have b1 : (b : Int) < n := by omega
  have n1 : (n : Int) ≤ 1000 := by omega
  have n2 : min (n : Int) 4096 = n := by omega
  clear hR hS hc
  go_enter Try.func11, Try.ntmps11
  go_wp2_with fail
  go_step3
  go_wp2_with fail
  refine (far_c m _ _ A cap l n b HR.out HS.out hlen (by omega) hb).mono ?_
  rintro e w1 ⟨A1, c1, d, rfl, hF, S1⟩
  have hd := hF.inv.len
  obtain ⟨ha1, ha2⟩ := hF.reach HC.out
  have HF := Lib.hid hF
  obtain ⟨b1, off1, rfl, hc, hf⟩ := SlO.at S1 ha1
  have h0 := hc 0 _ rfl
  simp only [kInt, Nat.add_zero, Nat.mul_one] at h0
  have ha3 : ¬ d[a] < 0 := by omega
  have a0 : (0 : Int) ≤ a := by omega
  have a2 : (a : Int) < d.length := by omega
  clear hc hf hF
  go_wp2_with fail
  go_step3
  go_wp2_with fail
  have S2 := SlO.fresh (k := kInt) [(a : Int)] S1 _ rfl (by simp)
  simp only [kInt, List.flatMap_cons, List.flatMap_nil, List.append_nil, List.length_cons, List.length_nil] at S2
  generalize w1.alloc (.cells #[.int .i64 a] 3) = W at *
  generalize w1.heap.size = g at *
  have hl0 := lab_le d
  have hcn := HF.out.inv.cnt a ha1
  clear S1 h0 ha3 a2
  go_loopg [11, 12] d[a].toNat (fun r v c w2 => ∃ (x : Nat) (hx : x < d.length) (A2 : Option Addr) (c2 : Nat) (o : List Int), c = .int .i64 x ∧ v = .slice A2 o.length c2 ∧ d[x] = r ∧ o.length + r ≤ 2000 ∧ Hid (Wayed n l a x o) ∧ St m w2 (SlO kInt A2 c2 o ∗∗ SlO kInt (some ⟨b1, off1, none⟩) c1 d ∗∗ F))
  case atStart => exact ⟨a, ha1, _, _, [(a : Int)], rfl, rfl, by omega, by simp; omega, Lib.hid (Wayed.start n l a), S2⟩
  case round =>
    obtain ⟨x, hx, A2, c2, o, rfl, rfl, hdx, hol, hW, hSr⟩ := hrel
    clear S2 hcn hl0
    by_cases hxb : x = b
    · subst hxb
      have hne : ((x : Int) != x) = false := by simp
      go_wp2_with fail
      rw [Exit.noGoto_ret]
      go_ret2
      exact ⟨A2, c2, o, rfl, hW, hSr.drop' ⟩
    · have hne : ((x : Int) != b) = true := by simp; omega
      have hdz : d[x] ≠ 0 := fun e => hxb (HF.out.inv.zero x hx e)
      obtain ⟨y, hy, hyn, hyd⟩ := HF.out.inv.prev x hx (by omega)
      have hyx : nextTo n l x y := nextTo_symm hyn (by omega) (by omega)
      have x0 : (0 : Int) ≤ x := by omega
      have x1 : (x : Int) < n := by omega
      have hdp : 0 < d[x] := by omega
      clear hdz hyn
      go_wp2_with fail
      refine (beside_c m _ _ A cap l n x HR.out hSr hlen).mono ?_
      rintro e w3 ⟨A3, c3, bs, rfl, hbs, hbl, S3⟩
      obtain ⟨m3, l3, S4, R3⟩ := SlO.freeze S3
      have HB := Lib.hid hbs
      have L3 := Lib.hid l3
      clear S3 hSr hbs l3
      go_wp2_with fail
      go_loopg [11, 12, 54] bs.length (fun r2 v c j w4 => ∃ (jn : Nat), v = .slice A2 o.length c2 ∧ c = .int .i64 x ∧ j = .int .i64 jn ∧ jn + r2 = bs.length ∧ Hid (∀ z ∈ bs.take jn, z ≠ (y : Int)) ∧ St m3 w4 (SlO kInt A2 c2 o ∗∗ SlO kInt (some ⟨b1, off1, none⟩) c1 d ∗∗ F))
      case atStart => exact ⟨0, rfl, rfl, rfl, by omega, Lib.hid (by simp), S4⟩
      case round =>
        obtain ⟨jn, rfl, rfl, rfl, hj, hno, hS4⟩ := hrel
        clear S4
        by_cases hlt : jn < bs.length
        · obtain ⟨b3, off3, rfl, hc3⟩ := R3.at hS4 hlt
          have e1 := hc3 0 _ rfl
          have hnx := (HB.out bs[jn]).1 (List.getElem_mem hlt)
          obtain ⟨hb0, hb1⟩ := nextTo_range hnx
          obtain ⟨bn, hbn⟩ : ∃ bn : Nat, bs[jn] = bn := ⟨bs[jn].toNat, by omega⟩
          have hbl : bn < d.length := by omega
          obtain ⟨b', off', he, hc5, hf5⟩ := SlO.at hS4.swap hbl
          injection he with he; injection he with ea eb _
          subst ea eb
          have e3 := hc5 0 _ rfl
          obtain ⟨b', off', he, hc6, hf6⟩ := SlO.at hS4.swap hx
          injection he with he; injection he with ea eb _
          subst ea eb
          have e4 := hc6 0 _ rfl
          simp only [kInt, Nat.add_zero, Nat.mul_one, hbn] at e1 e3 e4
          have HN : Hid (nextTo n l x bn) := by rw [← hbn]; exact hnx
          have HBN := Lib.hid hbn
          have hbk0 : (0 : Int) ≤ bn := by omega
          have hbk1 : (bn : Int) < n := by omega
          have hdlo := HF.out.inv.lo x hx
          have hdhi : d[x] ≤ 2000 := by omega
          clear hc5 hf5 hc3 hc6 hf6 hbn hnx hb0 hb1
          by_cases heq : d[bn] = d[x] - 1
          · have heq' : (d[bn] == d[x] - 1) = true := by simp [heq]
            have HQ := Lib.hid heq
            clear heq
            go_wp2_with fail
            go_quiet (fail)
            go_wp2_with (refine wpl_append1 kInt_ok rfl rfl 26 _ _ 71 rfl rfl rfl Try.underlying26 (by simp) _ _ rfl rfl _ _ o (fun _ => rfl) (hS4.drewN _) (by simp [kInt]; omega) (by omega) (fun g' A' cap' w' hS' => ?_); clear hS4 e1 e3 e4 heq')
            have hd2 := HQ.out
            go_roundg (d[x] - 1).toNat
            case measure => omega
            case rel => exact ⟨bn, hbl, A', cap', o ++ [(bn : Int)], rfl, by simp, by omega, by simp; omega, Lib.hid (hW.out.snoc HN.out), hS'.weak L3.out⟩
          · have heq' : (d[bn] == d[x] - 1) = false := by simp [heq]
            have HNO : Hid (∀ z ∈ bs.take (jn + 1), z ≠ (y : Int)) := fun z hz => by
              rw [List.take_succ_eq_append_getElem hlt, List.mem_append] at hz
              rcases hz with hz | hz
              · exact hno.out z hz
              · simp at hz; subst hz
                intro e
                have := HBN.out
                obtain rfl : bn = y := by omega
                exact heq hyd
            clear heq
            go_wp2_with fail
            go_quiet (fail)
            go_wp2_with fail
            go_roundg (gk - 1)
            case measure => omega
            case rel => exact ⟨jn + 1, rfl, rfl, by go_num, by omega, HNO, hS4.drewN _⟩
        · exfalso
          obtain rfl : jn = bs.length := by omega
          exact hno.out y (by rw [List.take_length]; exact (HB.out y).2 hyx) rfl
end Go.Proofs
