/- Contracts of the given program, for the proofs of its statements: text SpanRoads2. No conditions beyond those in each theorem. -/
import Derived.Test.YtlheekiegfhkiaaSpanRoads
namespace Go.Proofs
open Go.Croft Go.RowKit

theorem mid_step {α : Type} (f : α → α) (g : List α) (x : Nat) (hx : x < g.length) : ((g.take x).map f ++ g.drop x).set x (f g[x]) = (g.take (x + 1)).map f ++ g.drop (x + 1) := by
  have hl : ((g.take x).map f).length = x := by simp; omega
  rw [List.drop_eq_getElem_cons hx, List.take_succ_eq_append_getElem hx, List.set_append_right _ _ (by omega), hl, Nat.sub_self]
  simp only [List.set_cons_zero, List.map_append, List.map_cons, List.map_nil, List.append_assoc, List.cons_append, List.nil_append]
theorem mid_same {α : Type} (f : α → α) (g : List α) (x : Nat) (hx : x < g.length) (h : f g[x] = g[x]) : (g.take x).map f ++ g.drop x = (g.take (x + 1)).map f ++ g.drop (x + 1) := by
  rw [List.drop_eq_getElem_cons hx, List.take_succ_eq_append_getElem hx]
  simp only [List.map_append, List.map_cons, List.map_nil, List.append_assoc, List.cons_append, List.nil_append, h]

set_option maxRecDepth 100000 in
set_option maxHeartbeats 1000000 in
theorem roads_c (m : Mem) (w : World) (F : HP) (A : Option Addr) (cap : Nat) (l : List Pnt) (hl : l.length ≤ 1000) (hok : ∀ p ∈ l, p.ok) (hR : SlR kPt m A cap l) (hS : St m w F) :
    Calls Try.prog 10 #[.slice A l.length cap] w fun e w' => ∃ m' A' cap' out, e = .returned (.slice A' out.length cap') ∧ (∀ a b, a < l.length → b < l.length → Conn l.length out a b) ∧ (∃ rs : List SRoad, rs.Perm (pairsTo l l.length) ∧ out.Sublist rs) ∧ m.le m' ∧ SlR kRoad m' A' cap' out ∧ St m' w' F := by
  have HR := Lib.hid hR
  have HS := Lib.hid hS
  have HOK := Lib.hid hok
  clear hR hS hok
  go_enter Try.func10, Try.ntmps10
  go_wp2_with (refine wpl_make kInt_ok rfl _ _ 26 rfl Try.underlying26 0 (by kernel_rfl) l.length rfl rfl HS.out (by simp [kInt]; omega) (by omega) (fun A1 w1 S1 => ?_))
  go_loopg [17] l.length (fun r i wr => ∃ (k : Nat) (o : List Int), k ≤ l.length ∧ k + r = l.length ∧ i = .int .i64 k ∧ o.length = l.length ∧ Hid (∀ i (h : i < o.length), i < k → o[i] = i) ∧ St m wr (SlO kInt A1 l.length o ∗∗ F))
  case atStart => exact ⟨0, _, by omega, by omega, rfl, by simp, Lib.hid (by omega), S1⟩
  case round =>
    obtain ⟨k, o, hk, hkr, rfl, hll, ho, hSr⟩ := hrel
    by_cases hlt : k < l.length
    · obtain ⟨b, off, rfl, hc, hf⟩ := SlO.at hSr (i := k) (by omega)
      have h0 := hc 0 _ rfl
      have hf0 := hf (off + k)
      simp only [kInt, Nat.add_zero, Nat.mul_one] at h0
      have h1 := Lib.hid (SlO.set (x := (k : Int)) (v := .int .i64 k) hSr (i := k) (by omega) rfl rfl)
      clear hc hf hSr S1
      go_wp2
      go_roundg (gk - 1)
      case measure => omega
      case rel =>
        refine ⟨k + 1, o.set k (k : Int), by omega, by omega, by go_num, by simpa using hll, Lib.hid fun i hi hik => ?_, h1.out⟩
        rw [List.getElem_set]; split
        · omega
        · exact ho.out i (by simpa using hi) (by omega)
    · obtain rfl : k = l.length := by omega
      clear S1
      go_wp2_with fail
      refine (all_c m _ _ A cap l hl HOK.out HR.out hSr).mono ?_
      rintro e w2 ⟨A2, c2, rs, rfl, hp, S2⟩
      obtain ⟨m3, l3, S3, R3⟩ := SlO.freeze S2
      have HK := Lib.hid (Krus.start l.length rs o (List.ext_getElem (by simpa using hll) fun i h1 h2 => by rw [ho.out i h1 (by omega)]; simp))
      have HP := Lib.hid hp
      have L3 := Lib.hid l3
      have hrl : rs.length ≤ 1000000 := by
        have h1 := hp.length_eq
        have h2 := pairsTo_length l l.length
        have h3 : l.length * l.length ≤ 1000 * 1000 := Nat.mul_le_mul hl hl
        omega
      clear S2 hSr hp l3 ho hkr hk hlt
      go_wp2_with fail
      go_loopg [5, 28] rs.length (fun r v j w4 => ∃ (jn : Nat) (A4 : Option Addr) (c4 : Nat) (g4 : List Int) (out : List SRoad), j = .int .i64 jn ∧ jn + r = rs.length ∧ v = .slice A4 out.length c4 ∧ out.length ≤ jn ∧ g4.length = l.length ∧ Hid (Krus l.length rs jn g4 out) ∧ St m3 w4 (SlO kRoad A4 c4 out ∗∗ SlO kInt A1 l.length g4 ∗∗ F))
      case atStart => exact ⟨0, none, 0, o, [], rfl, by omega, rfl, by simp, hll, HK, SlO.nil S3⟩
      case round =>
        obtain ⟨jn, A4, c4, g4, out, rfl, hj, rfl, hol, hgl, hK, hS4⟩ := hrel
        by_cases hlt : jn < rs.length
        · obtain ⟨a, b, hab, hab2, hbl, hre⟩ := mem_pairsTo ((HP.out.mem_iff).1 (List.getElem_mem hlt))
          have hra : rs[jn].a = a := by rw [hre]; rfl
          have hrb : rs[jn].b = b := by rw [hre]; rfl
          obtain ⟨b3, off3, rfl, hc3⟩ := R3.at hS4 hlt
          have e0 := hc3 0 _ rfl
          have e1 := hc3 1 _ rfl
          have e2 := hc3 2 _ rfl
          have e3 := hc3 3 _ rfl
          simp only [kRoad, Nat.add_zero, hra, hrb] at e0 e1 e2 e3
          have hag : a < g4.length := by omega
          have hbg : b < g4.length := by omega
          obtain ⟨bg, offg, rfl, hcg, hfg⟩ := SlO.at hS4.swap hag
          have eg := hcg 0 _ rfl
          obtain ⟨b', off', he, hc', hf'⟩ := SlO.at hS4.swap hbg
          injection he with he; injection he with ea eb _
          subst ea eb
          have eh := hc' 0 _ rfl
          simp only [kInt, Nat.add_zero, Nat.mul_one] at eg eh
          have hlg : bg < wr.heap.size := World.block_lt_of_cell? wr _ eg
          have hlr : b3 < wr.heap.size := World.block_lt_of_cell? wr _ e0
          have HE : Hid (rs[jn] = ⟨a, b, rs[jn].d⟩) := by show rs[jn] = _; rw [← hra, ← hrb]
          have a0 : (0 : Int) ≤ a := by omega
          have a1 : (a : Int) < l.length := by omega
          have b0 : (0 : Int) ≤ b := by omega
          have b1 : (b : Int) < l.length := by omega
          have HA := Lib.hid hra
          have HBB := Lib.hid hrb
          clear hc3 hcg hfg hc' hf' hre hra hrb
          go_wp2_with fail
          go_quiet (fail)
          by_cases heq : g4[a] = g4[b]
          · have heq' : (g4[a] == g4[b]) = true := by simp [heq]
            have HT := Lib.hid (hK.out.skip hlt hag hbg HA.out HBB.out heq)
            clear heq
            go_wp2
            go_roundg (gk - 1)
            case measure => omega
            case rel => exact ⟨jn + 1, A4, c4, g4, out, by go_num, by omega, rfl, by omega, hgl, HT, ((hS4.alloc _).drewN _).drop⟩
          · have heq' : (g4[a] == g4[b]) = false := by simp [heq]
            have HT := Lib.hid (hK.out.take hlt hag hbg HA.out HBB.out)
            have HY : Hid (kRoad.enc rs[jn] = [.int .i64 a, .int .i64 b, .int .u64 rs[jn].d.hi, .int .u64 rs[jn].d.lo]) := by show _ = _; simp [kRoad, HA.out, HBB.out]
            clear heq
            go_wp2_with (refine wpl_append1 kRoad_ok rfl rfl 24 _ _ 47 rfl rfl rfl Try.underlying24 (by simp) rs[jn] _ rfl (by rw [HY.out]; rfl) _ _ out (fun _ => rfl) ((hS4.alloc _).drewN _).drop (by simp [kRoad]; omega) (by omega) (fun g' A' cap' w' hS' => ?_); clear hS4 e0 e1 e2 e3 eg eh)
            go_loopg [51] l.length (fun r i w6 => ∃ (x : Nat) (o5 : List Int), i = .int .i64 x ∧ x + r = l.length ∧ o5.length = l.length ∧ Hid (o5 = (g4.take x).map (relab g4[a] g4[b]) ++ g4.drop x) ∧ St m3 w6 (SlO kRoad A' cap' (out ++ [rs[jn]]) ∗∗ SlO kInt (some ⟨bg, offg, none⟩) l.length o5 ∗∗ F))
            case atStart => exact ⟨0, g4, rfl, by omega, hgl, Lib.hid (by simp), hS'⟩
            case round =>
              obtain ⟨x, o5, rfl, hx, ho5, hO, hS6⟩ := hrel
              by_cases hlx : x < l.length
              · have hox : o5[x] = g4[x] := by
                  have := hO.out
                  subst this
                  rw [List.getElem_append_right (by simp; omega)]
                  simp; congr 1; omega
                obtain ⟨b', off', he, hc', hf'⟩ := SlO.at hS6.swap (i := x) (by omega)
                injection he with he; injection he with ea eb _
                subst ea eb
                have e9 := hc' 0 _ rfl
                have f9 := hf' (offg + x)
                simp only [kInt, Nat.add_zero, Nat.mul_one, hox] at e9
                clear hc' hf' hS'
                by_cases hvb : g4[x] = g4[b]
                · have hvb' : (g4[x] == g4[b]) = true := by simp [hvb]
                  have hT := Lib.hid (SlO.set (x := g4[a]) (v := .int .i64 g4[a]) hS6.swap (i := x) (by omega) rfl rfl).swap
                  have HN : Hid (o5.set x g4[a] = (g4.take (x + 1)).map (relab g4[a] g4[b]) ++ g4.drop (x + 1)) := by
                    have := mid_step (relab g4[a] g4[b]) g4 x (by omega)
                    rw [show relab g4[a] g4[b] g4[x] = g4[a] by simp [relab, hvb], ← hO.out] at this
                    exact this
                  clear hvb hS6 hox
                  go_wp2
                  go_roundg (gk - 1)
                  case measure => omega
                  case rel => exact ⟨x + 1, o5.set x g4[a], by go_num, by omega, by simpa using ho5, HN, hT.out⟩
                · have hvb' : (g4[x] == g4[b]) = false := by simp [hvb]
                  have HN : Hid (o5 = (g4.take (x + 1)).map (relab g4[a] g4[b]) ++ g4.drop (x + 1)) := by
                    have := mid_same (relab g4[a] g4[b]) g4 x (by omega) (by simp [relab, hvb])
                    rw [← hO.out] at this
                    exact this
                  clear hvb hox
                  go_wp2
                  go_roundg (gk - 1)
                  case measure => omega
                  case rel => exact ⟨x + 1, o5, by go_num, by omega, ho5, HN, hS6⟩
              · obtain rfl : x = l.length := by omega
                have HO : Hid (o5 = g4.map (relab g4[a] g4[b])) := by show _ = _; rw [hO.out, ← hgl]; simp
                go_wp2
                go_roundg (rs.length - jn - 1)
                case measure => omega
                case rel => exact ⟨jn + 1, A', cap', o5, out ++ [rs[jn]], by go_num, by omega, by simp, by simp; omega, ho5, by rw [HO.out]; exact HT, hS6⟩
        · obtain rfl : jn = rs.length := by omega
          go_wp2
          go_ret
          obtain ⟨m5, l5, S5, R5⟩ := SlO.freeze hS4
          exact ⟨m5, A4, c4, out, rfl, fun a b ha hb => hK.out.all HP.out a b ha hb, ⟨rs, HP.out, by have := hK.out.sub; rwa [List.take_length] at this⟩, L3.out.trans l5, R5, S5.drop⟩
end Go.Proofs
