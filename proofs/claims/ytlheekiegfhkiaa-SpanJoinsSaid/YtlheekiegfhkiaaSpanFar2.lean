/- Contracts of the given program, for the proofs of its statements: text SpanFar2. No conditions beyond those in each theorem. -/
import Derived.Test.YtlheekiegfhkiaaSpanBfs
namespace Go.Proofs
open Go.Croft Go.RowKit

/-- while places wait -/
structure FarMid (n : Nat) (l : List SRoad) (tt : Nat) (d Q : List Int) : Prop where
  inv : FarInv n l tt d
  q : ∀ x ∈ Q, ∃ y : Nat, x = y ∧ ∃ h : y < d.length, 0 ≤ d[y]
  closed : ∀ x (h : x < d.length), 0 ≤ d[x] → (x : Int) ∈ Q ∨ ∀ b : Nat, nextTo n l x b → ∃ h : b < d.length, 0 ≤ d[b]
/-- while the places next to q are gone through: the first j of bs are done -/
structure FarIn (n : Nat) (l : List SRoad) (tt : Nat) (d Q : List Int) (q : Nat) (bs : List Int) (j : Nat) : Prop where
  mid : FarMid n l tt d Q
  q : Q[0]? = some (q : Int)
  done : ∀ x ∈ bs.take j, ∃ y : Nat, x = y ∧ ∃ h : y < d.length, 0 ≤ d[y]
theorem FarIn.qlt {n : Nat} {l : List SRoad} {tt : Nat} {d Q : List Int} {q : Nat} {bs : List Int} {j : Nat} (h : FarIn n l tt d Q q bs j) : ∃ h : q < d.length, 0 ≤ d[q] := by
  obtain ⟨y, e, h⟩ := h.mid.q q (List.mem_of_getElem? h.q)
  obtain rfl : q = y := by omega
  exact h
theorem FarIn.skip {n : Nat} {l : List SRoad} {tt : Nat} {d Q : List Int} {q : Nat} {bs : List Int} {j : Nat} (h : FarIn n l tt d Q q bs j) (hj : j < bs.length) {b : Nat} (hb : bs[j] = b) (h1 : ∃ h : b < d.length, 0 ≤ d[b]) : FarIn n l tt d Q q bs (j + 1) :=
  ⟨h.mid, h.q, fun x hx => by
    rw [List.take_succ_eq_append_getElem hj, List.mem_append] at hx
    rcases hx with hx | hx
    · exact h.done x hx
    · simp at hx; exact ⟨b, by rw [hx, hb], h1⟩⟩
theorem FarIn.take {n : Nat} {l : List SRoad} {tt : Nat} {d Q : List Int} {q : Nat} {bs : List Int} {j : Nat} (h : FarIn n l tt d Q q bs j) (hj : j < bs.length) {b : Nat} (hb : bs[j] = b) (hbn : nextTo n l q b)
    (hbl : b < d.length) (h1 : d[b] < 0) (hq : q < d.length) : FarIn n l tt (d.set b (d[q] + 1)) (Q ++ [(b : Int)]) q bs (j + 1) := by
  obtain ⟨_, hq0⟩ := h.qlt
  have keep : ∀ y (hy : y < d.length), 0 ≤ d[y] → ∃ h : y < (d.set b (d[q] + 1)).length, 0 ≤ (d.set b (d[q] + 1))[y] := fun y hy h0 => by
    refine ⟨by simpa using hy, ?_⟩
    rw [List.getElem_set]; split <;> omega
  have new : ∃ h : b < (d.set b (d[q] + 1)).length, 0 ≤ (d.set b (d[q] + 1))[b] := ⟨by simpa using hbl, by rw [List.getElem_set_self]; omega⟩
  refine ⟨⟨h.mid.inv.step hq hbl hq0 h1 hbn, fun x hx => ?_, fun x hx h0 => ?_⟩, ?_, fun x hx => ?_⟩
  · rcases List.mem_append.1 hx with hx | hx
    · obtain ⟨y, e, hy, h0⟩ := h.mid.q x hx; exact ⟨y, e, keep y hy h0⟩
    · simp at hx; exact ⟨b, hx, new⟩
  · have hx' : x < d.length := by simpa using hx
    by_cases e : b = x
    · subst e; left; simp
    · rw [List.getElem_set_ne e] at h0
      rcases h.mid.closed x hx' h0 with h2 | h2
      · left; simp [h2]
      · right; intro c hc; obtain ⟨h3, h4⟩ := h2 c hc; exact keep c h3 h4
  · rw [List.getElem?_append_left]
    · exact h.q
    · exact (List.getElem?_eq_some_iff.1 h.q).1
  · rw [List.take_succ_eq_append_getElem hj, List.mem_append] at hx
    rcases hx with hx | hx
    · obtain ⟨y, e, hy, h0⟩ := h.done x hx; exact ⟨y, e, keep y hy h0⟩
    · simp at hx; exact ⟨b, by rw [hx, hb], new⟩
theorem FarIn.pop {n : Nat} {l : List SRoad} {tt : Nat} {d Q : List Int} {q : Nat} {bs : List Int} (h : FarIn n l tt d Q q bs bs.length) (hbs : ∀ x, x ∈ bs ↔ nextTo n l q x) : FarMid n l tt d (Q.drop 1) := by
  refine ⟨h.mid.inv, fun x hx => h.mid.q x (List.mem_of_mem_drop hx), fun x hx h0 => ?_⟩
  by_cases e : x = q
  · right; intro b hb
    subst e
    obtain ⟨y, e, hy⟩ := h.done b (by rw [List.take_length]; exact (hbs b).2 hb)
    obtain rfl : b = y := by omega
    exact hy
  · rcases h.mid.closed x hx h0 with h2 | h2
    · left
      cases Q with
      | nil => simp at h2
      | cons a Q =>
        have hq := h.q; simp at hq; subst hq
        simp at h2 ⊢; rcases h2 with h2 | h2
        · omega
        · exact h2
    · exact .inr h2
theorem FarMid.out {n : Nat} {l : List SRoad} {tt : Nat} {d : List Int} (h : FarMid n l tt d []) : FarOut n l tt d :=
  ⟨h.inv, fun x hx h0 => (h.closed x hx h0).resolve_left (by simp)⟩
theorem FarMid.start (n : Nat) (l : List SRoad) (tt : Nat) (ht : tt < n) : FarMid n l tt ((List.replicate n (-1 : Int)).set tt 0) [(tt : Int)] := by
  have hz : ∀ x (h : x < ((List.replicate n (-1 : Int)).set tt 0).length), ((List.replicate n (-1 : Int)).set tt 0)[x] = if tt = x then 0 else -1 := fun x h => by
    rw [List.getElem_set]; simp
  have hlab : lab ((List.replicate n (-1 : Int)).set tt 0) = 1 := by
    rw [lab_set (by simpa using ht) (by simp) (by omega)]
    simp [lab, List.countP_replicate]
  refine ⟨⟨by simp, fun i h => ?_, ⟨by simpa using ht, by rw [hz]; simp⟩, fun x h h0 => ?_, fun i h => ?_, fun i h h0 => ?_⟩, fun x hx => ?_, fun x h h0 => ?_⟩
  · rw [hz]; split <;> omega
  · rw [hz] at h0; split at h0 <;> omega
  · rw [hz, hlab]; split <;> omega
  · rw [hz] at h0; split at h0 <;> omega
  · simp at hx; exact ⟨tt, hx, by simpa using ht, by rw [hz]; simp⟩
  · left; rw [hz] at h0
    by_cases e : tt = x
    · simp [e]
    · rw [if_neg e] at h0; omega

set_option maxRecDepth 100000 in
set_option maxHeartbeats 1000000 in
theorem far_c (m : Mem) (w : World) (F : HP) (A : Option Addr) (cap : Nat) (l : List SRoad) (n tt : Nat) (hR : SlR kRoad m A cap l) (hS : St m w F) (hlen : l.length ≤ 1000000) (hn : n ≤ 4096) (ht : tt < n) :
    Calls Try.prog 39 #[.int .i64 n, .slice A l.length cap, .int .i64 tt] w fun e w' => ∃ A' cap' d, e = .returned (.slice A' d.length cap') ∧ FarOut n l tt d ∧ St m w' (SlO kInt A' cap' d ∗∗ F) := by
  have HR := Lib.hid hR
  have HS := Lib.hid hS
  clear hR hS
  go_enter Try.func39, Try.ntmps39
  go_wp2_with (refine wpl_make kInt_ok rfl _ _ 26 rfl Try.underlying26 0 (by kernel_rfl) n rfl rfl HS.out (by simp [kInt]; omega) (by omega) (fun A1 w1 S1 => ?_))
  go_loopg [16] n (fun r i wr => ∃ (k : Nat) (o : List Int), k ≤ n ∧ k + r = n ∧ i = .int .i64 k ∧ o.length = n ∧ Hid (o = List.replicate k (-1) ++ List.replicate (n - k) 0) ∧ St m wr (SlO kInt A1 n o ∗∗ F))
  case atStart => exact ⟨0, _, by omega, by omega, rfl, by simp, Lib.hid rfl, by simpa using S1⟩
  case round =>
    obtain ⟨k, o, hk, hkr, rfl, hll, ho, hSr⟩ := hrel
    by_cases hlt : k < n
    · obtain ⟨b, off, rfl, hc, hf⟩ := SlO.at hSr (i := k) (by omega)
      have h0 := hc 0 _ rfl
      have hf0 := hf (off + k)
      simp only [kInt, Nat.add_zero, Nat.mul_one] at h0
      have h1 := Lib.hid (SlO.set (x := -1) (v := .int .i64 (-1)) hSr (i := k) (by omega) rfl rfl)
      clear hc hf hSr S1
      go_wp2
      go_roundg (gk - 1)
      case measure => omega
      case rel =>
        refine ⟨k + 1, o.set k (-1), by omega, by omega, by go_num, by simpa using hll, Lib.hid ?_, h1.out⟩
        rw [ho.out]
        apply List.ext_getElem
        · simp; omega
        · intro i h2 h3
          simp only [List.getElem_set, List.getElem_append, List.length_replicate, List.getElem_replicate]
          repeat' split
          all_goals omega
    · obtain rfl : k = n := by omega
      have ho' : o = List.replicate k (-1) := by rw [ho.out]; simp
      clear ho
      subst ho'
      obtain ⟨b, off, rfl, hc, hf⟩ := SlO.at hSr (i := tt) (by simpa using ht)
      have h0 := hc 0 _ rfl
      have hf0 := hf (off + tt)
      simp only [kInt, Nat.add_zero, Nat.mul_one, List.getElem_replicate] at h0
      have h1 := Lib.hid (SlO.set (x := 0) (v := .int .i64 0) hSr (i := tt) (by simpa using ht) rfl rfl)
      have ht0 : (0 : Int) ≤ tt := by omega
      have ht1 : (tt : Int) < k := by omega
      clear hc hf hSr S1 hll
      go_wp2_with fail
      have S2 := SlO.fresh (k := kInt) [(tt : Int)] h1.out _ rfl (by simp)
      simp only [World.size_setCell, kInt, List.flatMap_cons, List.flatMap_nil, List.append_nil, List.length_cons, List.length_nil] at S2
      have HM := Lib.hid (FarMid.start k l tt ht)
      have hl0 : lab ((List.replicate k (-1 : Int)).set tt 0) ≤ k := by have := lab_le ((List.replicate k (-1 : Int)).set tt 0); simpa using this
      generalize ((wr.setCell ⟨b, off + tt, none⟩ (.int .i64 0)).alloc (.cells #[.int .i64 tt] 3)) = W at *
      generalize wr.heap.size = g at *
      generalize (List.replicate k (-1 : Int)).set tt 0 = d0 at *
      clear h0 hf0 h1 ht0 ht1 hlt
      go_loopg [9] (2 * k + 1) (fun r v w2 => ∃ (A2 : Option Addr) (c2 : Nat) (d Q : List Int), v = .slice A2 Q.length c2 ∧ d.length = k ∧ Hid (FarMid k l tt d Q) ∧ 2 * (k - lab d) + Q.length ≤ r ∧ r ≤ 10000 ∧ St m w2 (SlO kInt A2 c2 Q ∗∗ SlO kInt (some ⟨b, off, none⟩) k d ∗∗ F))
      case atStart => exact ⟨_, _, d0, [(tt : Int)], rfl, HM.out.inv.len, HM, by simp; omega, by omega, S2⟩
      case round =>
        obtain ⟨A2, c2, d, Q, rfl, hd, hM, hr, hrb, hSr⟩ := hrel
        clear S2 HM hl0
        cases Q with
        | nil =>
          go_wp2
          go_ret
          exact ⟨_, _, d, by rw [hd]; rfl, hM.out.out, hSr.drop⟩
        | cons q0 Q' =>
          obtain ⟨q, hq, hq1, hq2⟩ := hM.out.q q0 (by simp)
          subst hq
          obtain ⟨b2, off2, rfl, hc2, hf2⟩ := SlO.at hSr (i := 0) (by simp)
          have e0 := hc2 0 _ rfl
          simp only [kInt, Nat.add_zero, Nat.mul_one, List.getElem_cons_zero] at e0
          clear hc2 hf2
          go_wp2_with fail
          refine (beside_c m _ _ A cap l k q HR.out hSr hlen).mono ?_
          rintro e w3 ⟨A3, c3, bs, rfl, hbs, hbl, S3⟩
          obtain ⟨m3, l3, S4, R3⟩ := SlO.freeze S3
          have HB := Lib.hid hbs
          have L3 := Lib.hid l3
          clear S3 hSr e0 hbs l3
          have HI := Lib.hid (⟨hM.out, by simp, by simp⟩ : FarIn k l tt d ((q : Int) :: Q') q bs 0)
          go_wp2_with fail
          go_loopg [9, 40] bs.length (fun r2 v j w4 => ∃ (jn : Nat) (A4 : Option Addr) (c4 : Nat) (d4 Q4 : List Int), j = .int .i64 jn ∧ jn + r2 = bs.length ∧ v = .slice A4 Q4.length c4 ∧ d4.length = k ∧ Hid (FarIn k l tt d4 Q4 q bs jn) ∧ 2 * (k - lab d4) + Q4.length ≤ gk ∧ St m3 w4 (SlO kInt A4 c4 Q4 ∗∗ SlO kInt (some ⟨b, off, none⟩) k d4 ∗∗ F))
          case atStart => exact ⟨0, _, _, d, (q : Int) :: Q', by simp, by omega, by simp, hd, HI, hr, S4⟩
          case round =>
            obtain ⟨jn, A4, c4, d4, Q4, rfl, hj, rfl, hd4, hI, hr4, hS4⟩ := hrel
            obtain ⟨hq3, hq4⟩ := hI.out.qlt
            by_cases hlt : jn < bs.length
            · obtain ⟨b3, off3, rfl, hc3⟩ := R3.at hS4 hlt
              have e1 := hc3 0 _ rfl
              obtain ⟨b', off', he, hc', hf'⟩ := SlO.at hS4.swap hq3
              injection he with he; injection he with ea eb _
              subst ea eb
              have e2 := hc' 0 _ rfl
              have hnx := (HB.out bs[jn]).1 (List.getElem_mem hlt)
              obtain ⟨hb0, hb1⟩ := nextTo_range hnx
              obtain ⟨bn, hbn⟩ : ∃ bn : Nat, bs[jn] = bn := ⟨bs[jn].toNat, by omega⟩
              have hbl : bn < d4.length := by omega
              obtain ⟨b', off', he, hc5, hf5⟩ := SlO.at hS4.swap hbl
              injection he with he; injection he with ea eb _
              subst ea eb
              have e3 := hc5 0 _ rfl
              have f3 := hf5 (off + bn)
              obtain ⟨b6, off6, rfl, hc6, hf6⟩ := SlO.at hS4 (i := 0) (by have := (List.getElem?_eq_some_iff.1 hI.out.q).1; omega)
              have e4 := hc6 0 _ rfl
              have hQ40 : Q4[0]'(by have := (List.getElem?_eq_some_iff.1 hI.out.q).1; omega) = (q : Int) := (List.getElem?_eq_some_iff.1 hI.out.q).2
              simp only [kInt, Nat.add_zero, Nat.mul_one, hQ40, hbn] at e1 e2 e3 e4
              have hQ4l : 0 < Q4.length := (List.getElem?_eq_some_iff.1 hI.out.q).1
              have HN : Hid (nextTo k l q bn) := by rw [← hbn]; exact hnx
              have HBN := Lib.hid hbn
              have hbk0 : (0 : Int) ≤ bn := by omega
              have hbk1 : (bn : Int) < k := by omega
              have hqk1 : (q : Int) < k := by omega
              have hqk0 : (0 : Int) ≤ q := by omega
              have hcnt := hI.out.mid.inv.cnt q hq3
              have hll := lab_le d4
              have hdq : d4[q] < 10000 := by omega
              clear hc3 hc' hf' hc5 hf5 hc6 hf6 hbn hnx hb0 hb1 hQ40
              by_cases hneg : d4[bn] < 0
              · have HS5 := Lib.hid (SlO.set (x := d4[q] + 1) (v := .int .i64 (d4[q] + 1)) hS4.swap hbl rfl rfl)
                have HT := Lib.hid (hI.out.take hlt HBN.out HN.out hbl hneg hq3)
                have HL := Lib.hid (lab_set (v := d4[q] + 1) hbl hneg (by omega))
                clear hS4 hcnt
                go_wp2_with (refine wpl_append1 kInt_ok rfl rfl 26 _ _ 61 rfl rfl rfl Try.underlying26 (by simp) _ _ rfl rfl _ _ Q4 (fun _ => rfl) HS5.out.swap (by simp [kInt]; omega) (by omega) (fun g' A' cap' w' hS' => ?_))
                go_roundg (gk - 1)
                case measure => omega
                case rel =>
                  have hl2 := lab_le (d4.set bn (d4[q] + 1))
                  rw [HL.out, List.length_set] at hl2
                  exact ⟨jn + 1, A', cap', d4.set bn (d4[q] + 1), Q4 ++ [(bn : Int)], by go_num, by omega, by simp, by simpa using hd4, HT, by rw [HL.out]; simp; omega, hS'⟩
              · have HT := Lib.hid (hI.out.skip hlt HBN.out ⟨hbl, by omega⟩)
                go_wp2_with fail
                go_roundg (gk - 1)
                case measure => omega
                case rel => exact ⟨jn + 1, _, c4, d4, Q4, by go_num, by omega, rfl, hd4, HT, hr4, hS4⟩
            · obtain rfl : jn = bs.length := by omega
              have hQ4l : 0 < Q4.length := (List.getElem?_eq_some_iff.1 hI.out.q).1
              have hcp := SlO.le_cap hS4
              have HP := Lib.hid (hI.out.pop HB.out)
              have HC := Lib.hid (SlO.cut hS4 1 Q4.length (by omega) (Nat.le_refl _))
              clear hS4
              go_wp2_with (refine wpl_slice kInt_ok rfl 26 _ _ _ rfl Try.underlying26 _ _ _ rfl 1 Q4.length ⟨_, rfl⟩ rfl (by omega) (Nat.le_refl _) (by omega) ?_)
              go_roundg (2 * (k - lab d4) + (Q4.length - 1))
              case measure => omega
              case rel => exact ⟨_, _, d4, Q4.drop 1, by rw [List.length_drop], hd4, HP, by rw [List.length_drop]; omega, by omega, by have := HC.out.weak L3.out; rwa [List.take_length] at this⟩
end Go.Proofs
