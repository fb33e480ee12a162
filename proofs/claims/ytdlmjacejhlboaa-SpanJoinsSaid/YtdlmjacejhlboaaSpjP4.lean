/- Contracts of the given program, for the proofs of its statements: SpanRoads2, SpanWay, SpanLaw, SpanJoins. No conditions beyond those in each theorem. -/
import Derived.Test.YtdlmjacejhlboaaSpjP3
namespace Go.Proofs
open Go.Croft Go.RowKit

theorem mid_step {α : Type} (f : α → α) (g : List α) (x : Nat) (hx : x < g.length) : ((g.take x).map f ++ g.drop x).set x (f g[x]) = (g.take (x + 1)).map f ++ g.drop (x + 1) := by
  have hl : ((g.take x).map f).length = x := by simp; omega
  rw [List.drop_eq_getElem_cons hx, List.take_succ_eq_append_getElem hx, List.set_append_right _ _ (by omega), hl, Nat.sub_self]
  simp only [List.set_cons_zero, List.map_append, List.map_cons, List.map_nil, List.append_assoc, List.cons_append, List.nil_append]
theorem mid_same {α : Type} (f : α → α) (g : List α) (x : Nat) (hx : x < g.length) (h : f g[x] = g[x]) : (g.take x).map f ++ g.drop x = (g.take (x + 1)).map f ++ g.drop (x + 1) := by
  rw [List.drop_eq_getElem_cons hx, List.take_succ_eq_append_getElem hx]
  simp only [List.map_append, List.map_cons, List.map_nil, List.append_assoc, List.cons_append, List.nil_append, h]

set_option maxRecDepth 100000 in
set_option maxHeartbeats 1000000 in
theorem roads_c (m : Mem) (w : World) (F : HP) (A : Option Addr) (cap : Nat) (l : List Pnt) (hl : l.length ≤ 1000) (hok : ∀ p ∈ l, p.ok) (hR : SlR kPt m A cap l) (hS : St m w F) :
    Calls Try.prog 10 #[.slice A l.length cap] w fun e w' => ∃ m' A' cap' out, e = .returned (.slice A' out.length cap') ∧ (∀ a b, a < l.length → b < l.length → Conn l.length out a b) ∧ (∃ rs : List SRoad, rs.Perm (pairsTo l l.length) ∧ out.Sublist rs) ∧ m.le m' ∧ SlR kRoad m' A' cap' out ∧ St m' w' F := by
  have HR := Lib.hid hR
  have HS := Lib.hid hS
  have HOK := Lib.hid hok
  clear hR hS hok
  go_enter Try.func10, Try.ntmps10
  go_wp2_with (refine wpl_make kInt_ok rfl _ _ 26 rfl Try.underlying26 0 (by kernel_rfl) l.length rfl rfl HS.out (by simp [kInt]; omega) (by omega) (fun A1 w1 S1 => ?_))
  go_loopg [17] l.length (fun r i wr => ∃ (k : Nat) (o : List Int), k ≤ l.length ∧ k + r = l.length ∧ i = .int .i64 k ∧ o.length = l.length ∧ Hid (∀ i (h : i < o.length), i < k → o[i] = i) ∧ St m wr (star (SlO kInt A1 l.length o) F))
  case atStart => exact ⟨0, _, by omega, by omega, rfl, by simp, Lib.hid (by omega), S1⟩
  case round =>
    obtain ⟨k, o, hk, hkr, rfl, hll, ho, hSr⟩ := hrel
    by_cases hlt : k < l.length
    · obtain ⟨b, off, rfl, hc, hf⟩ := SlO.at hSr (i := k) (by omega)
      have h0 := hc 0 _ rfl
      have hf0 := hf (off + k)
      simp only [kInt, Nat.add_zero, Nat.mul_one] at h0
      have h1 := Lib.hid (SlO.set (x := (k : Int)) (v := .int .i64 k) hSr (i := k) (by omega) rfl rfl)
      clear hc hf hSr S1
      go_wp2
      go_roundg (gk - 1)
      case measure => omega
      case rel =>
        refine ⟨k + 1, o.set k (k : Int), by omega, by omega, by go_num, by simpa using hll, Lib.hid fun i hi hik => ?_, h1.out⟩
        rw [List.getElem_set]; split
        · omega
        · exact ho.out i (by simpa using hi) (by omega)
    · obtain rfl : k = l.length := by omega
      clear S1
      go_wp2_with fail
      refine (all_c m _ _ A cap l hl HOK.out HR.out hSr).mono ?_
      rintro e w2 ⟨A2, c2, rs, rfl, hp, S2⟩
      obtain ⟨m3, l3, S3, R3⟩ := SlO.freeze S2
      have HK := Lib.hid (Krus.start l.length rs o (List.ext_getElem (by simpa using hll) fun i h1 h2 => by rw [ho.out i h1 (by omega)]; simp))
      have HP := Lib.hid hp
      have L3 := Lib.hid l3
      have hrl : rs.length ≤ 1000000 := by
        have h1 := hp.length_eq
        have h2 := pairsTo_length l l.length
        have h3 : l.length * l.length ≤ 1000 * 1000 := Nat.mul_le_mul hl hl
        omega
      clear S2 hSr hp l3 ho hkr hk hlt
      go_wp2_with fail
      go_loopg [5, 28] rs.length (fun r v j w4 => ∃ (jn : Nat) (A4 : Option Addr) (c4 : Nat) (g4 : List Int) (out : List SRoad), j = .int .i64 jn ∧ jn + r = rs.length ∧ v = .slice A4 out.length c4 ∧ out.length ≤ jn ∧ g4.length = l.length ∧ Hid (Krus l.length rs jn g4 out) ∧ St m3 w4 (star (SlO kRoad A4 c4 out) (star (SlO kInt A1 l.length g4) F)))
      case atStart => exact ⟨0, none, 0, o, [], rfl, by omega, rfl, by simp, hll, HK, SlO.nil S3⟩
      case round =>
        obtain ⟨jn, A4, c4, g4, out, rfl, hj, rfl, hol, hgl, hK, hS4⟩ := hrel
        by_cases hlt : jn < rs.length
        · obtain ⟨a, b, hab, hab2, hbl, hre⟩ := mem_pairsTo ((HP.out.mem_iff).1 (List.getElem_mem hlt))
          have hra : rs[jn].a = a := by rw [hre]; rfl
          have hrb : rs[jn].b = b := by rw [hre]; rfl
          obtain ⟨b3, off3, rfl, hc3⟩ := R3.at hS4 hlt
          have e0 := hc3 0 _ rfl
          have e1 := hc3 1 _ rfl
          have e2 := hc3 2 _ rfl
          have e3 := hc3 3 _ rfl
          simp only [kRoad, Nat.add_zero, hra, hrb] at e0 e1 e2 e3
          have hag : a < g4.length := by omega
          have hbg : b < g4.length := by omega
          obtain ⟨bg, offg, rfl, hcg, hfg⟩ := SlO.at hS4.swap hag
          have eg := hcg 0 _ rfl
          obtain ⟨b', off', he, hc', hf'⟩ := SlO.at hS4.swap hbg
          injection he with he; injection he with ea eb _
          subst ea eb
          have eh := hc' 0 _ rfl
          simp only [kInt, Nat.add_zero, Nat.mul_one] at eg eh
          have hlg : bg < wr.heap.size := World.block_lt_of_cell? wr _ eg
          have hlr : b3 < wr.heap.size := World.block_lt_of_cell? wr _ e0
          have HE : Hid (rs[jn] = ⟨a, b, rs[jn].d⟩) := by show rs[jn] = _; rw [← hra, ← hrb]
          have a0 : (0 : Int) ≤ a := by omega
          have a1 : (a : Int) < l.length := by omega
          have b0 : (0 : Int) ≤ b := by omega
          have b1 : (b : Int) < l.length := by omega
          have HA := Lib.hid hra
          have HBB := Lib.hid hrb
          clear hc3 hcg hfg hc' hf' hre hra hrb
          go_wp2_with fail
          go_quiet (fail)
          by_cases heq : g4[a] = g4[b]
          · have heq' : (g4[a] == g4[b]) = true := by simp [heq]
            have HT := Lib.hid (hK.out.skip hlt hag hbg HA.out HBB.out heq)
            clear heq
            go_wp2
            go_roundg (gk - 1)
            case measure => omega
            case rel => exact ⟨jn + 1, A4, c4, g4, out, by go_num, by omega, rfl, by omega, hgl, HT, ((hS4.alloc _).drewN _).drop⟩
          · have heq' : (g4[a] == g4[b]) = false := by simp [heq]
            have HT := Lib.hid (hK.out.take hlt hag hbg HA.out HBB.out)
            have HY : Hid (kRoad.enc rs[jn] = [.int .i64 a, .int .i64 b, .int .u64 rs[jn].d.hi, .int .u64 rs[jn].d.lo]) := by show _ = _; simp [kRoad, HA.out, HBB.out]
            clear heq
            go_wp2_with (refine wpl_append1 kRoad_ok rfl rfl 24 _ _ 47 rfl rfl rfl Try.underlying24 (by simp) rs[jn] _ rfl (by rw [HY.out]; rfl) _ _ out (fun _ => rfl) ((hS4.alloc _).drewN _).drop (by simp [kRoad]; omega) (by omega) (fun g' A' cap' w' hS' => ?_); clear hS4 e0 e1 e2 e3 eg eh)
            go_loopg [51] l.length (fun r i w6 => ∃ (x : Nat) (o5 : List Int), i = .int .i64 x ∧ x + r = l.length ∧ o5.length = l.length ∧ Hid (o5 = (g4.take x).map (relab g4[a] g4[b]) ++ g4.drop x) ∧ St m3 w6 (star (SlO kRoad A' cap' (out ++ [rs[jn]])) (star (SlO kInt (some ⟨bg, offg, none⟩) l.length o5) F)))
            case atStart => exact ⟨0, g4, rfl, by omega, hgl, Lib.hid (by simp), hS'⟩
            case round =>
              obtain ⟨x, o5, rfl, hx, ho5, hO, hS6⟩ := hrel
              by_cases hlx : x < l.length
              · have hox : o5[x] = g4[x] := by
                  have := hO.out
                  subst this
                  rw [List.getElem_append_right (by simp; omega)]
                  simp; congr 1; omega
                obtain ⟨b', off', he, hc', hf'⟩ := SlO.at hS6.swap (i := x) (by omega)
                injection he with he; injection he with ea eb _
                subst ea eb
                have e9 := hc' 0 _ rfl
                have f9 := hf' (offg + x)
                simp only [kInt, Nat.add_zero, Nat.mul_one, hox] at e9
                clear hc' hf' hS'
                by_cases hvb : g4[x] = g4[b]
                · have hvb' : (g4[x] == g4[b]) = true := by simp [hvb]
                  have hT := Lib.hid (SlO.set (x := g4[a]) (v := .int .i64 g4[a]) hS6.swap (i := x) (by omega) rfl rfl).swap
                  have HN : Hid (o5.set x g4[a] = (g4.take (x + 1)).map (relab g4[a] g4[b]) ++ g4.drop (x + 1)) := by
                    have := mid_step (relab g4[a] g4[b]) g4 x (by omega)
                    rw [show relab g4[a] g4[b] g4[x] = g4[a] by simp [relab, hvb], ← hO.out] at this
                    exact this
                  clear hvb hS6 hox
                  go_wp2
                  go_roundg (gk - 1)
                  case measure => omega
                  case rel => exact ⟨x + 1, o5.set x g4[a], by go_num, by omega, by simpa using ho5, HN, hT.out⟩
                · have hvb' : (g4[x] == g4[b]) = false := by simp [hvb]
                  have HN : Hid (o5 = (g4.take (x + 1)).map (relab g4[a] g4[b]) ++ g4.drop (x + 1)) := by
                    have := mid_same (relab g4[a] g4[b]) g4 x (by omega) (by simp [relab, hvb])
                    rw [← hO.out] at this
                    exact this
                  clear hvb hox
                  go_wp2
                  go_roundg (gk - 1)
                  case measure => omega
                  case rel => exact ⟨x + 1, o5, by go_num, by omega, ho5, HN, hS6⟩
              · obtain rfl : x = l.length := by omega
                have HO : Hid (o5 = g4.map (relab g4[a] g4[b])) := by show _ = _; rw [hO.out, ← hgl]; simp
                go_wp2
                go_roundg (rs.length - jn - 1)
                case measure => omega
                case rel => exact ⟨jn + 1, A', cap', o5, out ++ [rs[jn]], by go_num, by omega, by simp, by simp; omega, ho5, by rw [HO.out]; exact HT, hS6⟩
        · obtain rfl : jn = rs.length := by omega
          go_wp2
          go_ret
          obtain ⟨m5, l5, S5, R5⟩ := SlO.freeze hS4
          exact ⟨m5, A4, c4, out, rfl, fun a b ha hb => hK.out.all HP.out a b ha hb, ⟨rs, HP.out, by have := hK.out.sub; rwa [List.take_length] at this⟩, L3.out.trans l5, R5, S5.drop⟩
end Go.Proofs

namespace Go.Proofs
open Go.Croft Go.RowKit

/-- a way: from place to place by roads -/
structure Wayed (n : Nat) (l : List SRoad) (a b : Nat) (o : List Int) : Prop where
  first : o[0]? = some (a : Int)
  last : ∃ h : o.length - 1 < o.length, o[o.length - 1] = b
  next : ∀ i (h : i + 1 < o.length), ∃ x y : Nat, o[i] = x ∧ o[i + 1] = y ∧ nextTo n l x y
theorem Wayed.start (n : Nat) (l : List SRoad) (a : Nat) : Wayed n l a a [(a : Int)] := ⟨rfl, ⟨by simp, rfl⟩, fun i h => by simp at h⟩
theorem Wayed.snoc {n : Nat} {l : List SRoad} {a b c : Nat} {o : List Int} (h : Wayed n l a b o) (hn : nextTo n l b c) : Wayed n l a c (o ++ [(c : Int)]) := by
  obtain ⟨h1, ⟨h2, h3⟩, h4⟩ := h
  refine ⟨by rw [List.getElem?_append_left (by omega)]; exact h1, ⟨by simp, by simp⟩, fun i hi => ?_⟩
  by_cases e : i + 1 < o.length
  · obtain ⟨x, y, a, b, c⟩ := h4 i e
    exact ⟨x, y, by rw [List.getElem_append_left (by omega)]; exact a, by rw [List.getElem_append_left e]; exact b, c⟩
  · have e2 : i + 1 = o.length := by simp at hi; omega
    refine ⟨b, c, ?_, ?_, hn⟩
    · rw [List.getElem_append_left (by omega)]; rw [← h3]; congr 1; omega
    · rw [List.getElem_append_right (by omega)]; simp [e2]

theorem FarOut.reach {n : Nat} {l : List SRoad} {tt : Nat} {d : List Int} (h : FarOut n l tt d) {a : Nat} (hc : Conn n l tt a) : ∃ h : a < d.length, 0 ≤ d[a] := by
  induction hc with
  | refl => obtain ⟨h1, h2⟩ := h.inv.to0; exact ⟨h1, by omega⟩
  | step _ hn ih => obtain ⟨h1, h2⟩ := ih; exact h.closed _ h1 h2 _ hn

set_option maxRecDepth 100000 in
set_option maxHeartbeats 1000000 in
theorem way_c (m : Mem) (w : World) (F : HP) (A : Option Addr) (cap : Nat) (l : List SRoad) (n a b : Nat) (hR : SlR kRoad m A cap l) (hS : St m w F) (hlen : l.length ≤ 1000000) (hn : n ≤ 1000) (ha : a < n) (hb : b < n) (hc : Conn n l b a) :
    Calls Try.prog 11 #[.int .i64 n, .slice A l.length cap, .int .i64 a, .int .i64 b] w fun e w' => ∃ A' cap' o, e = .returned (.tuple #[.slice A' o.length cap', .bool true]) ∧ Wayed n l a b o ∧ St m w' (star (SlO kInt A' cap' o) F) := by
  have HR := Lib.hid hR
  have HS := Lib.hid hS
  have HC := Lib.hid hc
  have a1 : (a : Int) < n := by omega
  have b1 : (b : Int) < n := by omega
  have n1 : (n : Int) ≤ 1000 := by omega
  have n2 : min (n : Int) 4096 = n := by omega
  clear hR hS hc
  go_enter Try.func11, Try.ntmps11
  go_wp2_with fail
  go_step3
  go_wp2_with fail
  refine (far_c m _ _ A cap l n b HR.out HS.out hlen (by omega) hb).mono ?_
  rintro e w1 ⟨A1, c1, d, rfl, hF, S1⟩
  have hd := hF.inv.len
  obtain ⟨ha1, ha2⟩ := hF.reach HC.out
  have HF := Lib.hid hF
  obtain ⟨b1, off1, rfl, hc, hf⟩ := SlO.at S1 ha1
  have h0 := hc 0 _ rfl
  simp only [kInt, Nat.add_zero, Nat.mul_one] at h0
  have ha3 : ¬ d[a] < 0 := by omega
  have a0 : (0 : Int) ≤ a := by omega
  have a2 : (a : Int) < d.length := by omega
  clear hc hf hF
  go_wp2_with fail
  go_step3
  go_wp2_with fail
  have S2 := SlO.fresh (k := kInt) [(a : Int)] S1 _ rfl (by simp)
  simp only [kInt, List.flatMap_cons, List.flatMap_nil, List.append_nil, List.length_cons, List.length_nil] at S2
  generalize w1.alloc (.cells #[.int .i64 a] 3) = W at *
  generalize w1.heap.size = g at *
  have hl0 := lab_le d
  have hcn := HF.out.inv.cnt a ha1
  clear S1 h0 ha3 a2
  go_loopg [11, 12] d[a].toNat (fun r v c w2 => ∃ (x : Nat) (hx : x < d.length) (A2 : Option Addr) (c2 : Nat) (o : List Int), c = .int .i64 x ∧ v = .slice A2 o.length c2 ∧ d[x] = r ∧ o.length + r ≤ 2000 ∧ Hid (Wayed n l a x o) ∧ St m w2 (star (SlO kInt A2 c2 o) (star (SlO kInt (some ⟨b1, off1, none⟩) c1 d) F)))
  case atStart => exact ⟨a, ha1, _, _, [(a : Int)], rfl, rfl, by omega, by simp; omega, Lib.hid (Wayed.start n l a), S2⟩
  case round =>
    obtain ⟨x, hx, A2, c2, o, rfl, rfl, hdx, hol, hW, hSr⟩ := hrel
    clear S2 hcn hl0
    by_cases hxb : x = b
    · subst hxb
      have hne : ((x : Int) != x) = false := by simp
      go_wp2_with fail
      rw [Exit.noGoto_ret]
      go_ret2
      exact ⟨A2, c2, o, rfl, hW, hSr.drop' ⟩
    · have hne : ((x : Int) != b) = true := by simp; omega
      have hdz : d[x] ≠ 0 := fun e => hxb (HF.out.inv.zero x hx e)
      obtain ⟨y, hy, hyn, hyd⟩ := HF.out.inv.prev x hx (by omega)
      have hyx : nextTo n l x y := nextTo_symm hyn (by omega) (by omega)
      have x0 : (0 : Int) ≤ x := by omega
      have x1 : (x : Int) < n := by omega
      have hdp : 0 < d[x] := by omega
      clear hdz hyn
      go_wp2_with fail
      refine (beside_c m _ _ A cap l n x HR.out hSr hlen).mono ?_
      rintro e w3 ⟨A3, c3, bs, rfl, hbs, hbl, S3⟩
      obtain ⟨m3, l3, S4, R3⟩ := SlO.freeze S3
      have HB := Lib.hid hbs
      have L3 := Lib.hid l3
      clear S3 hSr hbs l3
      go_wp2_with fail
      go_loopg [11, 12, 54] bs.length (fun r2 v c j w4 => ∃ (jn : Nat), v = .slice A2 o.length c2 ∧ c = .int .i64 x ∧ j = .int .i64 jn ∧ jn + r2 = bs.length ∧ Hid (∀ z ∈ bs.take jn, z ≠ (y : Int)) ∧ St m3 w4 (star (SlO kInt A2 c2 o) (star (SlO kInt (some ⟨b1, off1, none⟩) c1 d) F)))
      case atStart => exact ⟨0, rfl, rfl, rfl, by omega, Lib.hid (by simp), S4⟩
      case round =>
        obtain ⟨jn, rfl, rfl, rfl, hj, hno, hS4⟩ := hrel
        clear S4
        by_cases hlt : jn < bs.length
        · obtain ⟨b3, off3, rfl, hc3⟩ := R3.at hS4 hlt
          have e1 := hc3 0 _ rfl
          have hnx := (HB.out bs[jn]).1 (List.getElem_mem hlt)
          obtain ⟨hb0, hb1⟩ := nextTo_range hnx
          obtain ⟨bn, hbn⟩ : ∃ bn : Nat, bs[jn] = bn := ⟨bs[jn].toNat, by omega⟩
          have hbl : bn < d.length := by omega
          obtain ⟨b', off', he, hc5, hf5⟩ := SlO.at hS4.swap hbl
          injection he with he; injection he with ea eb _
          subst ea eb
          have e3 := hc5 0 _ rfl
          obtain ⟨b', off', he, hc6, hf6⟩ := SlO.at hS4.swap hx
          injection he with he; injection he with ea eb _
          subst ea eb
          have e4 := hc6 0 _ rfl
          simp only [kInt, Nat.add_zero, Nat.mul_one, hbn] at e1 e3 e4
          have HN : Hid (nextTo n l x bn) := by rw [← hbn]; exact hnx
          have HBN := Lib.hid hbn
          have hbk0 : (0 : Int) ≤ bn := by omega
          have hbk1 : (bn : Int) < n := by omega
          have hdlo := HF.out.inv.lo x hx
          have hdhi : d[x] ≤ 2000 := by omega
          clear hc5 hf5 hc3 hc6 hf6 hbn hnx hb0 hb1
          by_cases heq : d[bn] = d[x] - 1
          · have heq' : (d[bn] == d[x] - 1) = true := by simp [heq]
            have HQ := Lib.hid heq
            clear heq
            go_wp2_with fail
            go_quiet (fail)
            go_wp2_with (refine wpl_append1 kInt_ok rfl rfl 26 _ _ 71 rfl rfl rfl Try.underlying26 (by simp) _ _ rfl rfl _ _ o (fun _ => rfl) (hS4.drewN _) (by simp [kInt]; omega) (by omega) (fun g' A' cap' w' hS' => ?_); clear hS4 e1 e3 e4 heq')
            have hd2 := HQ.out
            go_roundg (d[x] - 1).toNat
            case measure => omega
            case rel => exact ⟨bn, hbl, A', cap', o ++ [(bn : Int)], rfl, by simp, by omega, by simp; omega, Lib.hid (hW.out.snoc HN.out), hS'.weak L3.out⟩
          · have heq' : (d[bn] == d[x] - 1) = false := by simp [heq]
            have HNO : Hid (∀ z ∈ bs.take (jn + 1), z ≠ (y : Int)) := fun z hz => by
              rw [List.take_succ_eq_append_getElem hlt, List.mem_append] at hz
              rcases hz with hz | hz
              · exact hno.out z hz
              · simp at hz; subst hz
                intro e
                have := HBN.out
                obtain rfl : bn = y := by omega
                exact heq hyd
            clear heq
            go_wp2_with fail
            go_quiet (fail)
            go_wp2_with fail
            go_roundg (gk - 1)
            case measure => omega
            case rel => exact ⟨jn + 1, rfl, rfl, by go_num, by omega, HNO, hS4.drewN _⟩
        · exfalso
          obtain rfl : jn = bs.length := by omega
          exact hno.out y (by rw [List.take_length]; exact (HB.out y).2 hyx) rfl
end Go.Proofs

namespace Go.Proofs
open Go.Croft Go.RowKit

def joinedB (l : List SRoad) (a b : Int) : Bool := l.any fun r => (r.a == a && r.b == b) || (r.a == b && r.b == a)
theorem joinedB_of_next {n : Int} {l : List SRoad} {a b : Int} (h : nextTo n l a b) : joinedB l a b = true := by
  obtain ⟨r, hr, hb⟩ := h
  refine List.any_eq_true.2 ⟨r, hr, ?_⟩
  unfold bsd at hb
  split at hb
  · split at hb
    · simp at hb; simp; omega
    · simp at hb
  · split at hb
    · simp at hb; simp; omega
    · simp at hb
theorem joinedB_snoc (l : List SRoad) (a b : Int) (k : Nat) (h : k < l.length) : joinedB (l.take (k + 1)) a b = (joinedB (l.take k) a b || ((l[k].a == a && l[k].b == b) || (l[k].a == b && l[k].b == a))) := by
  unfold joinedB; rw [List.take_succ_eq_append_getElem h, List.any_append]; simp

set_option maxHeartbeats 400000 in
theorem joined_c (m : Mem) (w : World) (F : HP) (A : Option Addr) (cap : Nat) (l : List SRoad) (a b : Int) (hR : SlR kRoad m A cap l) (hS : St m w F) (hj : joinedB l a b = true) :
    Calls Try.prog 12 #[.slice A l.length cap, .int .i64 a, .int .i64 b] w fun e w' => e = .returned (.bool true) ∧ w' = w := by
  have HR := Lib.hid hR
  have HS := Lib.hid hS
  have HJ := Lib.hid hj
  have hlm := hR.len_max
  clear hR hS hj
  go_enter Try.func12, Try.ntmps12
  go_wp2
  go_loopg [7] l.length (fun r t wr => ∃ k : Nat, k + r = l.length ∧ t = .int .i64 k ∧ Hid (joinedB (l.take k) a b = false) ∧ wr = w)
  case atStart => exact ⟨0, by omega, rfl, Lib.hid rfl, rfl⟩
  case round =>
    obtain ⟨k, hk, rfl, hn, rfl⟩ := hrel
    by_cases hlt : k < l.length
    · obtain ⟨g, off, rfl, hc⟩ := HR.out.at HS.out hlt
      have h0 := hc 0 _ rfl
      have h1 := hc 1 _ rfl
      simp only [kRoad, Nat.add_zero] at h0 h1
      have hs := Lib.hid (joinedB_snoc l a b k hlt)
      clear hc
      by_cases ha : l[k].a = a
      · have a1 : (l[k].a == a) = true := by simp [ha]
        by_cases hb : l[k].b = b
        · have b1 : (l[k].b == b) = true := by simp [hb]
          clear ha hb
          go_wp2
          go_ret; exact ⟨rfl, rfl⟩
        · have b1 : (l[k].b == b) = false := by simp [hb]
          by_cases hc : l[k].a = b
          · have c1 : (l[k].a == b) = true := by simp [hc]
            have d1 : (l[k].b == a) = false := by simp; omega
            clear ha hb hc
            go_wp2
            go_roundg (gk - 1)
            case measure => omega
            case rel => exact ⟨k + 1, by omega, by go_num, Lib.hid (by rw [hs.out, hn.out, a1, b1, c1, d1]; rfl), rfl⟩
          · have c1 : (l[k].a == b) = false := by simp [hc]
            clear ha hb hc
            go_wp2
            go_roundg (gk - 1)
            case measure => omega
            case rel => exact ⟨k + 1, by omega, by go_num, Lib.hid (by rw [hs.out, hn.out, a1, b1, c1]; rfl), rfl⟩
      · have a1 : (l[k].a == a) = false := by simp [ha]
        by_cases hc : l[k].a = b
        · have c1 : (l[k].a == b) = true := by simp [hc]
          by_cases hd : l[k].b = a
          · have d1 : (l[k].b == a) = true := by simp [hd]
            clear ha hc hd
            go_wp2
            go_ret; exact ⟨rfl, rfl⟩
          · have d1 : (l[k].b == a) = false := by simp [hd]
            clear ha hc hd
            go_wp2
            go_roundg (gk - 1)
            case measure => omega
            case rel => exact ⟨k + 1, by omega, by go_num, Lib.hid (by rw [hs.out, hn.out, a1, c1, d1]; rfl), rfl⟩
        · have c1 : (l[k].a == b) = false := by simp [hc]
          clear ha hc
          go_wp2
          go_roundg (gk - 1)
          case measure => omega
          case rel => exact ⟨k + 1, by omega, by go_num, Lib.hid (by rw [hs.out, hn.out, a1, c1]; rfl), rfl⟩
    · exfalso
      obtain rfl : k = l.length := by omega
      have := hn.out
      rw [List.take_length, HJ.out] at this
      cases this

def pz : Pnt := ⟨0, 0, 0, ⟨#[]⟩⟩
def p3 : Pnt := ⟨0, 3, 0, ⟨#[]⟩⟩
theorem pz_ok : pz.ok := by constructor <;> simp [pz, ByteArray.size]
theorem p3_ok : p3.ok := by constructor <;> simp [p3, ByteArray.size]
theorem aliveOut {out rs : List SRoad} (h : ∀ a b, a < 2 → b < 2 → Conn 2 out a b) (hp : rs.Perm (pairsTo [pz, p3] 2)) (hs : out.Sublist rs) : out = [⟨0, 1, ⟨0, 9⟩⟩] := by
  have e : pairsTo [pz, p3] 2 = [⟨0, 1, ⟨0, 9⟩⟩] := by decide +kernel
  rw [e, List.perm_singleton] at hp
  subst hp
  have hc := h 0 1 (by omega) (by omega)
  cases hs with
  | cons _ hs =>
    have := List.sublist_nil.1 hs
    subst this
    exfalso
    have key : ∀ b, Conn 2 [] 0 b → b = 0 := fun b hb => by
      cases hb with
      | refl => rfl
      | step _ hn => obtain ⟨r, hr, _⟩ := hn; simp at hr
    have := key 1 hc
    omega
  | cons_cons _ hs => rw [List.sublist_nil.1 hs]
theorem aliveOut1 {out rs : List SRoad} (hp : rs.Perm (pairsTo [pz] 1)) (hs : out.Sublist rs) : out = [] := by
  have e : pairsTo [pz] 1 = [] := by decide +kernel
  rw [e, List.perm_nil] at hp
  subst hp
  exact List.sublist_nil.1 hs

set_option maxRecDepth 100000 in
set_option maxHeartbeats 400000 in
theorem spanAlive_c (m : Mem) (w : World) (F : HP) (hS : St m w F) :
    Calls Try.prog 9 #[] w fun e w' => e = .returned (.bool true) ∧ ∃ m', m.le m' ∧ St m' w' F := by
  have HS := Lib.hid hS
  clear hS
  go_enter Try.func9, Try.ntmps9
  go_wp2_with fail
  obtain ⟨m1, l1, S1, R1⟩ := SlR.fresh (k := kPt) [pz, p3] HS.out _ rfl (by simp)
  refine (roads_c m1 _ _ _ _ [pz, p3] (by simp) (by intro p hp; simp at hp; rcases hp with rfl | rfl; exact pz_ok; exact p3_ok) R1 S1).mono ?_
  rintro e w1 ⟨m2, A2, c2, out, rfl, h1, ⟨rs, h2, h3⟩, l2, R2, S2⟩
  obtain rfl := aliveOut h1 h2 h3
  have L2 := Lib.hid (l1.trans l2)
  clear h1 h2 h3 S1 R1 l1 l2
  go_wp2_with fail
  obtain ⟨m3, l3, S3, R3⟩ := SlR.fresh (k := kPt) [pz] S2 _ rfl (by simp)
  refine (roads_c m3 _ _ _ _ [pz] (by simp) (by intro p hp; simp at hp; subst hp; exact pz_ok) R3 S3).mono ?_
  rintro e w2 ⟨m4, A4, c4, out, rfl, h1, ⟨rs, h2, h3⟩, l4, R4, S4⟩
  obtain rfl := aliveOut1 h2 h3
  have R2' := R2.mono (l3.trans l4)
  have L4 := Lib.hid (L2.out.trans (l3.trans l4))
  obtain ⟨b, off, rfl, hc⟩ := R2'.at S4 (i := 0) (by simp)
  have e0 := hc 0 _ rfl
  have e1 := hc 1 _ rfl
  have e2 := hc 2 _ rfl
  have e3 := hc 3 _ rfl
  simp only [kRoad, List.getElem_cons_zero, Nat.add_zero, Nat.mul_zero, Nat.zero_mul] at e0 e1 e2 e3
  have S4' := Lib.hid S4
  clear h1 h2 h3 S3 R3 l3 l4 hc S2 R2 R2' S4
  go_wp2_with fail
  go_ret
  exact ⟨rfl, m4, L4, S4'⟩
end Go.Proofs

namespace Go.Proofs
open Go.Croft Go.RowKit

theorem wrapSmall (z : Int) (h : -9223372036854775808 ≤ z) (k : z ≤ 9223372036854775807) : IntKind.i64.wrap z = z := by
  simp only [IntKind.wrap, IntKind.bits, IntKind.signed]; simp; split <;> omega
theorem modN (a : Int) (n : Nat) (h : 0 < n) (hn : n ≤ 1000) : ∃ x : Nat, x < n ∧ ((a.tmod n + n).tmod n) = x ∧ -1000 < a.tmod n ∧ a.tmod n < 1000 := by
  have h1 := Int.tmod_lt_of_pos a (by omega : (0 : Int) < n)
  have h2 : -(n : Int) < a.tmod n := by
    have h9 := Int.mul_tdiv_add_tmod a n; have h8 := Int.natAbs_tmod a n; rw [Int.natAbs_natCast] at h8; have := Nat.mod_lt a.natAbs h; omega
  have h3 : 0 ≤ (a.tmod n + n).tmod n := Int.tmod_nonneg _ (by omega)
  have h4 := Int.tmod_lt_of_pos (a.tmod n + n) (by omega : (0 : Int) < n)
  exact ⟨((a.tmod n + n).tmod n).toNat, by omega, by omega, by omega, by omega⟩


set_option maxRecDepth 100000 in
set_option maxHeartbeats 1000000 in
theorem spanJoins_main (m : Mem) (w : World) (F : HP) (A : Option Addr) (cap : Nat) (l : List Pnt) (a b : Int) (hok : ∀ p ∈ l, p.ok) (hR : SlR kPt m A cap l) (hS : St m w F) :
    Calls Try.prog 3 #[.slice A l.length cap, .int .i64 a, .int .i64 b] w fun e w' => e = .returned (.bool true) ∧ ∃ m', m.le m' ∧ St m' w' F := by
  have HR := Lib.hid hR
  have HOK := Lib.hid hok
  clear hR hok
  by_cases hl : l.length ≤ 14
  · go_enter Try.func3, Try.ntmps3
    have hl' : ((l.length : Int)) ≤ 14 := by omega
    go_wp2_with (go_at_call 9; refine (spanAlive_c m w F hS).mono ?_; rintro e w1 ⟨rfl, m1, l1, S1⟩; (have HS := Lib.hid S1); (have HL := Lib.hid l1); clear hS S1 l1)
    go_ways
    case _ =>
      go_ret; exact ⟨rfl, m1, HL.out, HS.out⟩
    case _ =>
      have hn : 0 < l.length := by
        have h : ((l.length : Int) == 0) = false := by assumption
        have h := beq_eq_false_iff_ne.1 h; omega
      obtain ⟨x, hx, ex, p1, p2⟩ := modN a l.length hn (by omega)
      obtain ⟨y, hy, ey, q1, q2⟩ := modN b l.length hn (by omega)
      have nz : (l.length : Int) ≠ 0 := by omega
      have e1 : IntKind.i64.wrap (a.tmod l.length + l.length) = a.tmod l.length + l.length := wrapSmall _ (by omega) (by omega)
      have e2 : IntKind.i64.wrap (b.tmod l.length + l.length) = b.tmod l.length + l.length := wrapSmall _ (by omega) (by omega)
      have hx2 : (x : Int) < 1000 := by omega
      have hy2 : (y : Int) < 1000 := by omega
      clear p1 p2 q1 q2
      go_quiet (fail)
      clear ex ey
      have HS := Lib.hid (HS.out.drewN nq)
      go_wp2_with (go_at_call 10; refine (roads_c m1 _ F A cap l (by omega) HOK.out (HR.out.mono HL.out) HS.out).mono ?_; rintro e w2 ⟨m2, A2, cap2, out, rfl, hconn, hmem, l2, R2, S2⟩; (have HS := Lib.hid S2); (have HL := Lib.hid (HL.out.trans l2)); (have HC := Lib.hid hconn); (have HR2 := Lib.hid R2); (have HM := Lib.hid hmem); clear S2 l2 R2 hconn hmem)
      have hlo : out.length ≤ 1000000 := by
        obtain ⟨rs, hp, hs⟩ := HM.out
        have h1 := hs.length_le
        have h2 := hp.length_eq
        have h3 := pairsTo_length l l.length
        have h4 := Nat.mul_le_mul hl hl
        omega
      clear HM
      refine (way_c m2 w2 F A2 cap2 out l.length x y HR2.out HS.out hlo (by omega) hx hy (HC.out y x hy hx)).mono ?_
      rintro e w3 ⟨A3, cap3, o, rfl, hw, S3⟩
      have h0 : 0 < o.length := by have := hw.last.1; omega
      have hz : ((o.length : Int) == 0) = false := beq_eq_false_iff_ne.2 (by omega)
      obtain ⟨m4, l4, S4, R4⟩ := SlO.freeze S3
      have HL4 := Lib.hid (HL.out.trans l4)
      have HR3 := Lib.hid (HR2.out.mono l4)
      have HS4 := Lib.hid S4
      have HR4 := Lib.hid R4
      have HW := Lib.hid hw
      have hom := R4.len_max
      clear S3 l4 HL HR2 S4 R4 hw HS
      obtain ⟨g, off, rfl, hc⟩ := HR4.out.at HS4.out h0
      have c0 := hc 0 _ rfl
      obtain ⟨g', off', eg, hc'⟩ := HR4.out.at HS4.out (i := o.length - 1) (by omega)
      cases eg
      have c1 := hc' 0 _ rfl
      have f1 : o[0] = (x : Int) := by have := HW.out.first; rw [List.getElem?_eq_getElem h0] at this; exact Option.some.inj this
      have f2 := HW.out.last.2
      rw [f2] at c1; rw [f1] at c0
      simp only [kInt, Nat.mul_one, Nat.add_zero, Nat.zero_mul] at c0 c1
      clear hc hc' f1 f2
      have c1' : w3.cell? ⟨g, off + (((o.length : Int) - 1)).toNat, none⟩ = some (.int .i64 y) := by rw [← c1]; congr 3; omega
      go_wp2
      clear c0 c1 c1'
      go_loopg [6, 11] (o.length - 1) (fun r q t wr => ∃ k : Nat, 1 ≤ k ∧ k ≤ o.length ∧ k + r = o.length ∧ q = .bool false ∧ t = .int .i64 k ∧ St m4 wr F)
      case atStart => exact ⟨1, Nat.le_refl _, by omega, by omega, rfl, rfl, HS4.out⟩
      case round =>
        obtain ⟨k, hk1, hk2, hk, rfl, rfl, hSr⟩ := hrel
        by_cases hlt : k < o.length
        · obtain ⟨u, v, hu, hv, hnx⟩ := HW.out.next (k - 1) (by omega)
          have hv2 : o[k] = (v : Int) := by rw [← hv]; congr 1; omega
          have HJ := Lib.hid (joinedB_of_next hnx)
          have hold : Hid (∀ W', St m4 W' F → St m4 W' F ∧ W'.cell? ⟨g, off + (k - 1), none⟩ = some (.int .i64 u) ∧ W'.cell? ⟨g, off + k, none⟩ = some (.int .i64 v)) := Lib.hid fun W' hS => by
            obtain ⟨g', off', eg, hc'⟩ := HR4.out.at hS (i := k - 1) (by omega)
            cases eg
            have h := hc' 0 _ rfl
            obtain ⟨g', off', eg, hc'⟩ := HR4.out.at hS (i := k) (by omega)
            cases eg
            have h' := hc' 0 _ rfl
            rw [hu] at h; rw [hv2] at h'
            simp only [kInt, Nat.mul_one, Nat.add_zero] at h h'
            exact ⟨hS, h, h'⟩
          clear hu hv hv2 hnx
          have hs0 := hold.out _ hSr
          have k9 : (1 : Int) ≤ k := by omega
          have k0 : (0 : Int) ≤ (k : Int) - 1 := by omega
          have k1 : (k : Int) - 1 < o.length := by omega
          have k2 : (0 : Int) ≤ k := by omega
          have k4 : IntKind.i64.wrap ((k : Int) - 1) = (k : Int) - 1 := wrapSmall _ (by omega) (by omega)
          have k3 : (k : Int) < o.length := by omega
          go_wp2_with fail
          go_region_held3 (fun W' => St m4 W' F ∧ W'.cell? ⟨g, off + (k - 1), none⟩ = some (.int .i64 u) ∧ W'.cell? ⟨g, off + k, none⟩ = some (.int .i64 v)) (exact hold.out _ (by first | assumption | exact And.left (by assumption) | exact St.drew (by assumption) | exact St.drewN (by assumption) _ | exact (St.alloc (by assumption) _).drop | exact (St.alloc (And.left (by assumption)) _).drop))
            (first | (go_at_call 12; refine (joined_c m4 _ F A2 cap2 out u v HR3.out (by first | assumption | exact And.left (by assumption) | exact St.drew (by assumption) | exact St.drewN (by assumption) _ | exact (St.alloc (by assumption) _).drop | exact (St.alloc (And.left (by assumption)) _).drop) HJ.out).mono ?_; rintro e w' ⟨rfl, rfl⟩))
          go_wp2
          go_roundg (gk - 1)
          case measure => omega
          case rel => exact ⟨k + 1, by omega, by omega, by omega, rfl, by go_num, by first | exact hSr.drewN _ | exact hSr.drew⟩
        · obtain rfl : k = o.length := by omega
          go_wp2
          go_ret; exact ⟨rfl, m4, HL4.out, hSr⟩
  · go_enter Try.func3, Try.ntmps3
    have hl' : (14 : Int) < (l.length : Int) := by omega
    have hR2 := HR.out.cut 0 14 (by omega) (by omega)
    have hok2 : ∀ p ∈ (l.take 14).drop 0, p.ok := fun p hp => HOK.out p (by rw [List.drop_zero] at hp; exact List.mem_of_mem_take hp)
    have hlen : ((l.take 14).drop 0).length = 14 := by simp; omega
    have hcap := HR.out.le_cap
    generalize (l.take 14).drop 0 = l2 at hR2 hok2 hlen
    rw [Nat.sub_zero] at hR2
    have hlk : l2.length ≤ l.length := by omega
    have hz : ((l2.length : Int) == 0) = false := beq_eq_false_iff_ne.2 (by omega)
    have HLEN := Lib.hid hlen
    clear hlen
    go_wp2_with (first
      | (go_at_call 9; refine (spanAlive_c m w F hS).mono ?_; rintro e w1 ⟨rfl, m1, l1, S1⟩; (have HS := Lib.hid S1); (have HL := Lib.hid l1); clear hS S1 l1)
      | (refine wpl_slice kPt_ok rfl _ _ _ _ rfl Try.underlying22 A l.length cap rfl 0 l2.length rfl ⟨.i64, by simp [Act.eval, HLEN.out]⟩ (Nat.zero_le _) hlk hcap ?_; generalize sliceAddr A cap 0 kPt.K = A2 at hR2 ⊢))
    have hl : l2.length ≤ 14 := Nat.le_of_eq HLEN.out
    have HR := Lib.hid hR2
    have HOK := Lib.hid hok2
    clear hR2 hok2 hlk hcap hl'
    generalize l2 = l at *
    generalize A2 = A at *
    have hn : 0 < l.length := by
      have h : ((l.length : Int) == 0) = false := by assumption
      have h := beq_eq_false_iff_ne.1 h; omega
    obtain ⟨x, hx, ex, p1, p2⟩ := modN a l.length hn (by omega)
    obtain ⟨y, hy, ey, q1, q2⟩ := modN b l.length hn (by omega)
    have nz : (l.length : Int) ≠ 0 := by omega
    have e1 : IntKind.i64.wrap (a.tmod l.length + l.length) = a.tmod l.length + l.length := wrapSmall _ (by omega) (by omega)
    have e2 : IntKind.i64.wrap (b.tmod l.length + l.length) = b.tmod l.length + l.length := wrapSmall _ (by omega) (by omega)
    have hx2 : (x : Int) < 1000 := by omega
    have hy2 : (y : Int) < 1000 := by omega
    clear p1 p2 q1 q2
    go_quiet (fail)
    clear ex ey
    have HS := Lib.hid (HS.out.drewN nq)
    go_wp2_with (go_at_call 10; refine (roads_c m1 _ F A cap l (by omega) HOK.out (HR.out.mono HL.out) HS.out).mono ?_; rintro e w2 ⟨m2, A2, cap2, out, rfl, hconn, hmem, l2, R2, S2⟩; (have HS := Lib.hid S2); (have HL := Lib.hid (HL.out.trans l2)); (have HC := Lib.hid hconn); (have HR2 := Lib.hid R2); (have HM := Lib.hid hmem); clear S2 l2 R2 hconn hmem)
    have hlo : out.length ≤ 1000000 := by
      obtain ⟨rs, hp, hs⟩ := HM.out
      have h1 := hs.length_le
      have h2 := hp.length_eq
      have h3 := pairsTo_length l l.length
      have h4 := Nat.mul_le_mul hl hl
      omega
    clear HM
    refine (way_c m2 w2 F A2 cap2 out l.length x y HR2.out HS.out hlo (by omega) hx hy (HC.out y x hy hx)).mono ?_
    rintro e w3 ⟨A3, cap3, o, rfl, hw, S3⟩
    have h0 : 0 < o.length := by have := hw.last.1; omega
    have hz : ((o.length : Int) == 0) = false := beq_eq_false_iff_ne.2 (by omega)
    obtain ⟨m4, l4, S4, R4⟩ := SlO.freeze S3
    have HL4 := Lib.hid (HL.out.trans l4)
    have HR3 := Lib.hid (HR2.out.mono l4)
    have HS4 := Lib.hid S4
    have HR4 := Lib.hid R4
    have HW := Lib.hid hw
    have hom := R4.len_max
    clear S3 l4 HL HR2 S4 R4 hw HS
    obtain ⟨g, off, rfl, hc⟩ := HR4.out.at HS4.out h0
    have c0 := hc 0 _ rfl
    obtain ⟨g', off', eg, hc'⟩ := HR4.out.at HS4.out (i := o.length - 1) (by omega)
    cases eg
    have c1 := hc' 0 _ rfl
    have f1 : o[0] = (x : Int) := by have := HW.out.first; rw [List.getElem?_eq_getElem h0] at this; exact Option.some.inj this
    have f2 := HW.out.last.2
    rw [f2] at c1; rw [f1] at c0
    simp only [kInt, Nat.mul_one, Nat.add_zero, Nat.zero_mul] at c0 c1
    clear hc hc' f1 f2
    have c1' : w3.cell? ⟨g, off + (((o.length : Int) - 1)).toNat, none⟩ = some (.int .i64 y) := by rw [← c1]; congr 3; omega
    go_wp2
    clear c0 c1 c1'
    go_loopg [6, 11] (o.length - 1) (fun r q t wr => ∃ k : Nat, 1 ≤ k ∧ k ≤ o.length ∧ k + r = o.length ∧ q = .bool false ∧ t = .int .i64 k ∧ St m4 wr F)
    case atStart => exact ⟨1, Nat.le_refl _, by omega, by omega, rfl, rfl, HS4.out⟩
    case round =>
      obtain ⟨k, hk1, hk2, hk, rfl, rfl, hSr⟩ := hrel
      by_cases hlt : k < o.length
      · obtain ⟨u, v, hu, hv, hnx⟩ := HW.out.next (k - 1) (by omega)
        have hv2 : o[k] = (v : Int) := by rw [← hv]; congr 1; omega
        have HJ := Lib.hid (joinedB_of_next hnx)
        have hold : Hid (∀ W', St m4 W' F → St m4 W' F ∧ W'.cell? ⟨g, off + (k - 1), none⟩ = some (.int .i64 u) ∧ W'.cell? ⟨g, off + k, none⟩ = some (.int .i64 v)) := Lib.hid fun W' hS => by
          obtain ⟨g', off', eg, hc'⟩ := HR4.out.at hS (i := k - 1) (by omega)
          cases eg
          have h := hc' 0 _ rfl
          obtain ⟨g', off', eg, hc'⟩ := HR4.out.at hS (i := k) (by omega)
          cases eg
          have h' := hc' 0 _ rfl
          rw [hu] at h; rw [hv2] at h'
          simp only [kInt, Nat.mul_one, Nat.add_zero] at h h'
          exact ⟨hS, h, h'⟩
        clear hu hv hv2 hnx
        have hs0 := hold.out _ hSr
        have k9 : (1 : Int) ≤ k := by omega
        have k0 : (0 : Int) ≤ (k : Int) - 1 := by omega
        have k1 : (k : Int) - 1 < o.length := by omega
        have k2 : (0 : Int) ≤ k := by omega
        have k4 : IntKind.i64.wrap ((k : Int) - 1) = (k : Int) - 1 := wrapSmall _ (by omega) (by omega)
        have k3 : (k : Int) < o.length := by omega
        go_wp2_with fail
        go_region_held3 (fun W' => St m4 W' F ∧ W'.cell? ⟨g, off + (k - 1), none⟩ = some (.int .i64 u) ∧ W'.cell? ⟨g, off + k, none⟩ = some (.int .i64 v)) (exact hold.out _ (by first | assumption | exact And.left (by assumption) | exact St.drew (by assumption) | exact St.drewN (by assumption) _ | exact (St.alloc (by assumption) _).drop | exact (St.alloc (And.left (by assumption)) _).drop))
          (first | (go_at_call 12; refine (joined_c m4 _ F A2 cap2 out u v HR3.out (by first | assumption | exact And.left (by assumption) | exact St.drew (by assumption) | exact St.drewN (by assumption) _ | exact (St.alloc (by assumption) _).drop | exact (St.alloc (And.left (by assumption)) _).drop) HJ.out).mono ?_; rintro e w' ⟨rfl, rfl⟩))
        go_wp2
        go_roundg (gk - 1)
        case measure => omega
        case rel => exact ⟨k + 1, by omega, by omega, by omega, rfl, by go_num, by first | exact hSr.drewN _ | exact hSr.drew⟩
      · obtain rfl : k = o.length := by omega
        go_wp2
        go_ret; exact ⟨rfl, m4, HL4.out, hSr⟩
end Go.Proofs
