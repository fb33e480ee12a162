/- Contracts of the given program, for the proofs of its statements: Sorts, SpanSort, SpanWalk, IntSort, SpanFar, SpanBfs, SpanFar2, SpanRoads. No conditions beyond those in each theorem. -/
import Derived.Test.YtdlmjacejhlboaaSpjP1
import Derived.Shelf.SlSortCmp.WholeK
import Derived.Test.YtdlmjacejhlboaaSpjP2
namespace Go.Croft
open Go Go.RowKit Go.Sort Go.Proofs
variable {α : Type} [Inhabited α] {k : Kd α} {m : Mem} {w : World} {F H : HP} {P : Program}

theorem St.grow {H : HP} (h : St m w H) (os : Array Obj) : St m (Go.Sort.grow w os) H := by
  have old : ∀ (b : Nat) (p : Obj), w.heap[b]? = some p → (Go.Sort.grow w os).heap[b]? = some p := fun b p e => by
    show (w.heap ++ os)[b]? = _
    rw [Array.getElem?_append_left (Array.getElem?_eq_some_iff.1 e).1]; exact e
  obtain ⟨x, hx, hh⟩ := h.own
  exact ⟨h.os, h.tape, h.output, h.lo, fun b o e => old b o (h.mem b o e), x, fun b o e => ⟨old b o (hx b o e).1, (hx b o e).2⟩, hh⟩

theorem get_putCells (F : Array Value) (off : Nat) (cs : Array Value) (t : Nat) (ht : t < F.size) (hs : off + F.size ≤ cs.size) : (putCells id off F cs)[off + t]? = some F[t]! := by
  have : off + t < cs.size := by omega
  simp only [putCells, Array.getElem?_mapIdx, Array.getElem?_eq_getElem this, Option.map_some, id]
  rw [if_pos ⟨by omega, by omega⟩]
  congr 2; omega

theorem holds_putCells (cs : Array Value) (off : Nat) (d : Array α) (hs : off + d.size * k.K ≤ cs.size) : Holds k (putCells id off (flatK k.enc k.K d) cs) off d.toList := by
  have hp := k.pos
  refine Holds.of_get (by simp [putCells]; omega) fun i j hi hj => ?_
  have hi' : i < d.size := by simpa using hi
  have hlt : i * k.K + j < d.size * k.K := by
    have : (i + 1) * k.K ≤ d.size * k.K := Nat.mul_le_mul_right _ hi'
    rw [Nat.add_mul] at this; omega
  rw [Nat.add_assoc, get_putCells _ _ _ _ (by simpa using hlt) (by simpa using hs), get_flatK _ _ _ _ hlt]
  have e1 : (i * k.K + j) / k.K = i := by rw [Nat.mul_comm, Nat.mul_add_div hp, Nat.div_eq_of_lt hj]; rfl
  have e2 : (i * k.K + j) % k.K = j := by rw [Nat.mul_comm, Nat.mul_add_mod, Nat.mod_eq_of_lt hj]
  rw [e1, e2]
  have hjl : j < (k.enc d[i]!).length := by rw [k.len]; exact hj
  have e3 : d[i]! = d.toList[i] := by rw [getElem!_pos d i hi']; simp
  rw [e3] at hjl ⊢
  rw [getElem!_pos _ j hjl, List.getElem?_eq_getElem hjl]

theorem holdsK_of {b off : Nat} {cs : Array Value} {l : List α} (hS : St m w (star (pt b (.cells cs k.ty (0, 0))) F)) (h : Holds k cs off l) : HoldsK k.enc k.K w b off l.toArray := by
  intro t ht
  have hp := k.pos
  have ht' : t < l.length * k.K := by simpa using ht
  have hi : t / k.K < l.length := (Nat.div_lt_iff_lt_mul hp).2 ht'
  have hj := Nat.mod_lt t hp
  refine ⟨?_, hS.free⟩
  rw [hS.cell, get_flatK _ _ _ _ (by simpa using ht')]
  have e : off + t = off + t / k.K * k.K + t % k.K := by have := Nat.div_add_mod t k.K; rw [Nat.mul_comm] at this; omega
  rw [e, h.get hi hj]
  have e3 : l.toArray[t / k.K]! = l[t / k.K] := by rw [getElem!_pos l.toArray _ (by simpa using hi)]; simp
  have hjl : t % k.K < (k.enc l[t / k.K]).length := by rw [k.len]; exact hj
  rw [e3, id, getElem!_pos (k.enc l[t / k.K]) (t % k.K) hjl, List.getElem?_eq_getElem hjl]

theorem St.sorted {b off cap : Nat} {cs : Array Value} {l : List α} (hS : St m w (star (pt b (.cells cs k.ty (0, 0))) F)) (hl : l.length ≤ cap) (hc : off + cap * k.K ≤ cs.size) (hm : cap ≤ maxLen)
    (n : Nat) (d : Array α) (hd : d.size = l.length) (os : Array Obj) : St m (sortWorldK k.enc k.K w b off n d os) (star (SlO k (some ⟨b, off, none⟩) cap d.toList) F) := by
  have hle : l.length * k.K ≤ cap * k.K := Nat.mul_le_mul_right _ hl
  unfold sortWorldK putRowK putRow
  refine St.grow (SlO.mk (cs := putCells id off (flatK k.enc k.K d) cs) ?_ (by simpa [hd] using hl) (by simpa [putCells] using hc) hm (holds_putCells cs off d (by rw [hd]; omega))) os
  refine hS.put rfl rfl rfl (Nat.le_add_right _ _) ?_ fun c hc _ => ?_
  · simp [mapBlock, Go.Sort.ahead, Array.getElem?_modify, hS.at, onCells]
  · simp only [mapBlock, Go.Sort.ahead, Array.getElem?_modify]
    rw [if_neg (fun e => hc e.symm)]

/-- A call that answers v leaves the world as it was, but for draws and new blocks. -/
theorem Pure.grown {f : FuncId} {args : Array Value} {v : Value} (h : Pure P f args v) (w : World) : Calls P f args w fun e w' => e = .returned v ∧ ∃ q os', w' = Go.Sort.grow (w.drewN q) os' := by
  have hS : St { os := w.os, tape := w.tape, output := w.output, lo := w.drawn, blk := fun b => w.heap[b]? } w emp :=
    ⟨rfl, rfl, rfl, Nat.le_refl _, fun _ _ e => e, ⟨fun _ => none, ⟨(fun _ _ e => nomatch e), fun _ => rfl⟩⟩⟩
  refine (h.at hS).mono fun e w' ⟨he, hS'⟩ => ⟨he, w'.drawn - w.drawn, (w'.heap.toList.drop w.heap.size).toArray, ?_⟩
  have h1 := hS'.os; have h2 := hS'.tape; have h3 := hS'.output; have h4 := hS'.lo; have h5 := hS'.mem
  simp only at h1 h2 h3 h4 h5
  cases w' with
  | mk heap tape drawn os output =>
    simp only [Go.Sort.grow, World.drewN] at *
    subst h1 h2 h3
    congr 1
    · apply Array.ext_getElem?
      intro i
      by_cases hi : i < w.heap.size
      · rw [Array.getElem?_append_left hi]
        exact h5 i _ (Array.getElem?_eq_getElem hi) |>.trans (Array.getElem?_eq_getElem hi).symm
      · rw [Array.getElem?_append_right (by omega)]
        simp only [List.getElem?_toArray, List.getElem?_drop, Array.getElem?_toList]
        congr 1; omega
    · omega

theorem PermIn.perm {d d' : Array α} (h : PermIn 0 d.size d d') : d'.toList.Perm d.toList := by
  obtain ⟨h1, _, h3⟩ := h
  have e1 : d'.extract 0 d.size = d' := by rw [← h1]; simp
  have e2 : d.extract 0 d.size = d := by simp
  rwa [e1, e2] at h3

theorem CmpLays.of_pure {g : Nat} {cf : α → α → Int} (h : ∀ x y, Pure P g #[.agg (k.enc x).toArray, .agg (k.enc y).toArray] (.int .i64 (cf x y))) (blk off size : Nat) (w : World) : Go.Proofs.CmpLays P g #[] k.enc k.K cf blk off size w := by
  intro n os dk _ x y
  exact (h x y).grown _
end Go.Croft

namespace Go.Proofs
open Go.Croft Go.RowKit Go.Sort Go.Shelf

instance : Inhabited SRoad := ⟨⟨0, 0, ⟨0, 0⟩⟩⟩
theorem cmpI_neg (a b : Int) : cmpI a b < 0 ↔ a < b := by unfold cmpI; split <;> (try split) <;> omega
theorem cmpI_zero (a b : Int) : cmpI a b = 0 ↔ a = b := by unfold cmpI; split <;> (try split) <;> omega
theorem orI_neg (x : Int) (l : List Int) : orI (x :: l) < 0 ↔ x < 0 ∨ (x = 0 ∧ orI l < 0) := by
  simp only [orI]; split <;> omega
theorem orI_zero (x : Int) (l : List Int) : orI (x :: l) = 0 ↔ x = 0 ∧ orI l = 0 := by
  simp only [orI]; split <;> omega
theorem cmpD_neg (a b : Dist) : cmpD a b < 0 ↔ a.hi < b.hi ∨ (a.hi = b.hi ∧ a.lo < b.lo) := by
  unfold cmpD; rw [orI_neg, orI_neg, cmpI_neg, cmpI_neg, cmpI_zero]; simp [orI]
theorem cmpD_zero (a b : Dist) : cmpD a b = 0 ↔ a.hi = b.hi ∧ a.lo = b.lo := by
  unfold cmpD; rw [orI_zero, orI_zero, cmpI_zero, cmpI_zero]; simp [orI]
theorem cmpR_neg (x y : SRoad) : cmpR x y < 0 ↔ (x.d.hi < y.d.hi ∨ (x.d.hi = y.d.hi ∧ x.d.lo < y.d.lo)) ∨ ((x.d.hi = y.d.hi ∧ x.d.lo = y.d.lo) ∧ (x.a < y.a ∨ (x.a = y.a ∧ x.b < y.b))) := by
  unfold cmpR; rw [orI_neg, orI_neg, orI_neg, cmpD_neg, cmpD_zero, cmpI_neg, cmpI_neg, cmpI_zero]; simp [orI]
theorem swoR : SWO (ltOf cmpR) where
  irrefl x := by simp only [ltOf, decide_eq_false_iff_not, cmpR_neg]; omega
  trans x y z h1 h2 := by simp only [ltOf, decide_eq_true_eq, cmpR_neg] at *; omega
  ntrans x y z h1 h2 := by simp only [ltOf, decide_eq_false_iff_not, cmpR_neg] at *; omega

theorem sortRoad_c (m : Mem) (w : World) (F : HP) (A : Option Addr) (cap : Nat) (l : List SRoad) (hS : St m w (star (SlO kRoad A cap l) F)) (hl : l.length ≤ 1000000000) :
    Calls Try.prog 70 #[.slice A l.length cap, .func (.func 71) #[] #[]] w fun e w' => e = .returned (.tuple #[]) ∧ ∃ l', l'.Perm l ∧ St m w' (star (SlO kRoad A cap l') F) := by
  rcases SlO.open hS with ⟨rfl, rfl, rfl, hF⟩ | ⟨b, off, cs, rfl, h2, h3, h4, h5, h6⟩
  · have HL := fun w => @Try.bits_Len 0 w (by omega) (by omega)
    have HF := Lib.hid hF
    clear hS hF
    go_enter Try.func70, Try.ntmps70
    go_wp2_with ((with_reducible refine (HL _).mono ?_); rintro e w' ⟨rfl, rfl⟩)
    go_in
    go_wp2_with fail
    refine wp_loop_once ?_
    go_wp2_with fail
    go_in
    go_wp2_with fail
    refine wp_loop_once ?_
    go_wp2_with fail
    go_end0
    go_wp2_with fail
    refine bodyPost_ret (results_none rfl _ _ _) rfl ?_
    go_wp2_with fail
    go_end0
    exact ⟨rfl, [], .refl _, SlO.nil HF.out⟩
  · have eg : ∀ args w, (callFunc 71 args).run Try.prog w = .ok (.enter 71 args) w := enters_of Try.func71 (by kernel_rfl) rfl
    have hcon := AnyQ.slices_SortFunc Try.sortRoad kRoad.K Try.isAgg78 Try.sizeOf78 kRoad.enc kRoad.len kRoad.one cmpR swoR 71 #[] b off cap l.toArray w eg
      (CmpLays.of_pure (k := kRoad) (fun x y => spanCompare_p x y) b off _ w) (holdsK_of h6 h5) h6.lt (by simp; omega)
    change Calls Try.prog 70 _ _ _ at hcon
    simp only [List.size_toArray] at hcon
    refine hcon.mono ?_
    rintro e w' ⟨rfl, d, n, os, hp, _, rfl⟩
    have hp' := PermIn.perm (d := l.toArray) (by simpa using hp)
    simp only at hp'
    refine ⟨rfl, d.toList, hp', h6.sorted h2 h3 h4 n d ?_ os⟩
    have := hp'.length_eq; simpa using this
end Go.Proofs

namespace Go.Proofs
open Go.Croft Go.RowKit

instance : Inhabited Pnt := ⟨⟨0, 0, 0, ⟨#[]⟩⟩⟩
def road (l : List Pnt) (i k : Nat) : SRoad := ⟨i, k, Dist.of (distN (l.getD i default).x (l.getD i default).y (l.getD k default).x (l.getD k default).y)⟩
/-- the roads from place i on, up to k -/
def rowR (l : List Pnt) (i k : Nat) : List SRoad := (List.range' (i + 1) (k - (i + 1))).map (road l i)
def pairsTo (l : List Pnt) (i : Nat) : List SRoad := (List.range i).flatMap fun j => rowR l j l.length
theorem rowR_succ (l : List Pnt) (i k : Nat) (h : i + 1 ≤ k) : rowR l i (k + 1) = rowR l i k ++ [road l i k] := by
  unfold rowR
  rw [show k + 1 - (i + 1) = (k - (i + 1)) + 1 by omega, List.range'_concat]
  simp; congr 1; omega
theorem pairsTo_succ (l : List Pnt) (i : Nat) : pairsTo l (i + 1) = pairsTo l i ++ rowR l i l.length := by
  unfold pairsTo; rw [List.range_succ]; simp
theorem rowR_self (l : List Pnt) (i : Nat) : rowR l i (i + 1) = [] := by simp [rowR]
theorem rowR_length (l : List Pnt) (i k : Nat) : (rowR l i k).length = k - (i + 1) := by simp [rowR]
theorem pairsTo_length (l : List Pnt) (i : Nat) : (pairsTo l i).length ≤ i * l.length := by
  induction i with
  | zero => simp [pairsTo]
  | succ i ih => rw [pairsTo_succ, List.length_append, rowR_length, Nat.add_mul]; omega

set_option maxRecDepth 100000 in
set_option maxHeartbeats 1000000 in
theorem all_c (m : Mem) (w : World) (F : HP) (A : Option Addr) (cap : Nat) (l : List Pnt) (hl : l.length ≤ 1000) (hok : ∀ p ∈ l, p.ok) (hR : SlR kPt m A cap l) (hS : St m w F) :
    Calls Try.prog 38 #[.slice A l.length cap] w fun e w' => ∃ A' cap' out, e = .returned (.slice A' out.length cap') ∧ out.Perm (pairsTo l l.length) ∧ St m w' (star (SlO kRoad A' cap' out) F) := by
  have HS := Lib.hid hS
  have HR := Lib.hid hR
  have HOK := Lib.hid hok
  clear hS hR hok
  go_enter Try.func38, Try.ntmps38
  go_wp2
  go_loopw [3, 9] (fun v i wr => ∃ (k : Nat) (B : Option Addr) (c : Nat) (o : List SRoad), k ≤ l.length ∧ i = .int .i64 k ∧ v = .slice B o.length c ∧ o.length ≤ k * 1000 ∧ Hid (o = pairsTo l k) ∧ St m wr (star (SlO kRoad B c o) F)) (fun _ i _ => l.length - (intOf i).toNat)
  case atStart => exact ⟨0, none, 0, [], by omega, rfl, rfl, by simp, Lib.hid rfl, SlO.nil HS.out⟩
  case round =>
    obtain ⟨i, B, c, o, hi, rfl, rfl, hol, ho, hSr⟩ := hrel
    by_cases hlt : i < l.length
    · obtain ⟨b, off, rfl, hc⟩ := HR.out.at hSr hlt
      have h0 := hc 0 _ rfl
      have h1 := hc 1 _ rfl
      have h2 := hc 2 _ rfl
      have h3 := hc 3 _ rfl
      simp only [kPt, Nat.add_zero] at h0 h1 h2 h3
      clear hc
      have hi1 : (i : Int) < 1000 := by omega
      go_wp2_with fail
      obtain ⟨m1, l1, b1, S1⟩ := hSr.allocf (.cells #[.int .i64 l[i].id, .int .u32 l[i].x, .int .u32 l[i].y, .string l[i].data] 54)
      generalize wr.alloc (.cells #[.int .i64 l[i].id, .int .u32 l[i].x, .int .u32 l[i].y, .string l[i].data] 54) = wo at *
      generalize wr.heap.size = g at *
      have R1 := Lib.hid (HR.out.mono l1)
      have B1 := Lib.hid b1
      have L1 := Lib.hid l1
      clear hSr h0 h1 h2 h3 l1 b1
      go_loopw [3, 6] (fun v j w2 => ∃ (k : Nat) (B2 : Option Addr) (c2 : Nat) (o2 : List SRoad), i < k ∧ k ≤ l.length ∧ j = .int .i64 k ∧ v = .slice B2 o2.length c2 ∧ o2.length ≤ i * 1000 + k ∧ Hid (o2 = o ++ rowR l i k) ∧ St m1 w2 (star (SlO kRoad B2 c2 o2) F)) (fun _ j _ => l.length - (intOf j).toNat)
      case atStart => exact ⟨i + 1, B, c, o, by omega, by omega, by go_num, rfl, by omega, Lib.hid (by rw [rowR_self, List.append_nil]), S1⟩
      case round =>
        obtain ⟨k, B2, c2, o2, hik, hkl, rfl, rfl, hol2, ho2, hS2⟩ := hrel
        by_cases hlk : k < l.length
        · have hold : ∀ W' H', St m1 W' H' → W'.cell? ⟨g, 1, none⟩ = some (.int .u32 l[i].x) ∧ W'.cell? ⟨g, 2, none⟩ = some (.int .u32 l[i].y) ∧ W'.cell? ⟨b, off + k * 4 + 1, none⟩ = some (.int .u32 l[k].x) ∧ W'.cell? ⟨b, off + k * 4 + 2, none⟩ = some (.int .u32 l[k].y) := fun W' H' h => by
            obtain ⟨b', off', he, hc'⟩ := R1.out.at h hlk
            injection he with he; injection he with e1 e2 _
            subst e1 e2
            exact ⟨h.cellM B1.out 1, h.cellM B1.out 2, hc' 1 _ rfl, hc' 2 _ rfl⟩
          have HOLD := Lib.hid hold
          have hs0 := HOLD.out _ _ hS2
          clear hold
          have HB := Lib.hid (between_p l[i].x l[i].y l[k].x l[k].y (HOK.out _ (List.getElem_mem hlt)).x (HOK.out _ (List.getElem_mem hlt)).y (HOK.out _ (List.getElem_mem hlk)).x (HOK.out _ (List.getElem_mem hlk)).y)
          have HD : Hid (Dist.of (distN l[i].x l[i].y l[k].x l[k].y) = (road l i k).d) := by simp [road, Hid, List.getD_eq_getElem?_getD, hlt, hlk]
          rw [HD.out] at HB
          have hk0 : (0 : Int) ≤ k := by omega
          have hk1 : (k : Int) < l.length := by omega
          have hsn := Lib.hid (rowR_succ l i k (by omega))
          go_wp2_with fail
          go_region_held3 (fun W' => W'.cell? ⟨g, 1, none⟩ = some (.int .u32 l[i].x) ∧ W'.cell? ⟨g, 2, none⟩ = some (.int .u32 l[i].y) ∧ W'.cell? ⟨b, off + k * 4 + 1, none⟩ = some (.int .u32 l[k].x) ∧ W'.cell? ⟨b, off + k * 4 + 2, none⟩ = some (.int .u32 l[k].y)) (exact HOLD.out _ _ (by first | assumption | exact St.drew (by assumption) | exact (St.alloc (by assumption) _).drop))
            (first
              | (go_at_call 69; refine (HB.out.at (m := m1) (by first | assumption | exact St.drew (by assumption))).mono ?_; rintro e w' ⟨rfl, hS3⟩)
              | (refine step_append1 kRoad_ok rfl _ _ _ rfl Try.underlying24 _ _ o2 rfl (road l i k) _ rfl _ rfl hS3 _ rfl rfl (by simp [kRoad]; omega) (by omega) ?_; intro B3 c3 w4 hS4))
          clear hs0
          go_wp2
          go_roundw
          case rel => exact ⟨k + 1, B3, c3, o2 ++ [road l i k], by omega, by omega, by go_num, by simp, by simp; omega, Lib.hid (by rw [hsn.out, ho2.out, List.append_assoc]), hS4⟩
          case measure => simp [intOf]; omega
        · obtain rfl : k = l.length := by omega
          have hps := Lib.hid (pairsTo_succ l i)
          go_wp2
          go_roundw
          case rel => exact ⟨i + 1, B2, c2, o2, by omega, by go_num, rfl, by omega, Lib.hid (by rw [hps.out, ho2.out, ho.out]), hS2.weak L1.out⟩
          case measure => simp [intOf]; omega
    · obtain rfl : i = l.length := by omega
      go_wp2_with (go_at_call 70; refine (sortRoad_c m _ F _ _ o hSr (by omega)).mono ?_; rintro e w1 ⟨rfl, o', hp, hS5⟩)
      go_ret
      exact ⟨B, c, o', by rw [hp.length_eq]; rfl, ho.out ▸ hp, hS5⟩
end Go.Proofs

namespace Go.Proofs
open Go.Croft Go.RowKit Go.Sort

theorem holds_putCells1 (cs : Array Value) (off : Nat) (d : List Int) (l : List Int) (hp : l <+: d) (hs : off + d.length ≤ cs.size) : Go.Croft.Holds kInt (putCells (Value.int .i64) off d.toArray cs) off l := by
  have hle := hp.length_le
  refine Holds.of_get (by simp [putCells, kInt]; omega) fun i j hi hj => ?_
  have hj0 : j = 0 := by simp [kInt] at hj; omega
  subst hj0
  have : off + i < cs.size := by omega
  simp only [kInt, Nat.mul_one, Nat.add_zero, putCells, Array.getElem?_mapIdx, Array.getElem?_eq_getElem this, Option.map_some]
  rw [if_pos ⟨by omega, by simp; omega⟩]
  have e : off + i - off = i := by omega
  have hd : i < d.length := by omega
  have : d.toArray[i]! = l[i] := by
    rw [getElem!_pos d.toArray i (by simpa using hd)]
    simp [hp.getElem hi]
  simp [e, this]

theorem St.put1 {m : Mem} {w : World} {F : HP} {b off cap : Nat} {cs : Array Value} (hS : St m w (star (pt b (.cells cs kInt.ty (0, 0))) F)) (hc : off + cap ≤ cs.size) (hm : cap ≤ maxLen)
    (d l : List Int) (hd : d.length ≤ cap) (hp : l <+: d) (n : Nat) (os : Array Obj) : St m (Go.Sort.grow (putRow (Value.int .i64) (Go.Sort.ahead w n) b off d.toArray) os) (star (SlO kInt (some ⟨b, off, none⟩) cap l) F) := by
  have hle := hp.length_le
  refine St.grow (SlO.mk (cs := putCells (Value.int .i64) off d.toArray cs) ?_ (by omega) (by simp [putCells, kInt]; omega) hm (holds_putCells1 cs off d l hp (by omega))) os
  refine St.put hS rfl rfl rfl (Nat.le_add_right _ _) ?_ fun c hc _ => ?_
  · simp [putRow, mapBlock, Go.Sort.ahead, Array.getElem?_modify, hS.at, onCells]
  · simp only [putRow, mapBlock, Go.Sort.ahead, Array.getElem?_modify]
    rw [if_neg (fun e => hc e.symm)]

theorem holds1_of {m : Mem} {w : World} {F : HP} {b off : Nat} {cs : Array Value} {l : List Int} (hS : St m w (star (pt b (.cells cs kInt.ty (0, 0))) F)) (h : Go.Croft.Holds kInt cs off l) : Go.Sort.Holds (Value.int .i64) w b off l.toArray := by
  intro j hj
  have hj' : j < l.length := by simpa using hj
  refine ⟨?_, St.free hS⟩
  have h1 := h.get hj' (j := 0) (by simp [kInt])
  simp only [kInt, Nat.mul_one, Nat.add_zero] at h1
  rw [St.cell hS, h1, getElem!_pos l.toArray j hj]; simp

theorem sortInt_c (m : Mem) (w : World) (F : HP) (A : Option Addr) (cap : Nat) (l : List Int) (hS : St m w (star (SlO kInt A cap l) F)) (hl : l.length < 4611686018427387904) :
    Calls Try.prog 72 #[.slice A l.length cap] w fun e w' => e = .returned (.tuple #[]) ∧ St m w' (star (SlO kInt A cap (l.mergeSort fun x y => decide (x ≤ y))) F) := by
  rcases SlO.open hS with ⟨rfl, rfl, rfl, hF⟩ | ⟨b, off, cs, rfl, h2, h3, h4, h5, h6⟩
  · refine (Try.slices_Sort_int_none none 0 w).mono ?_
    rintro e w' ⟨rfl, rfl⟩
    exact ⟨rfl, by simpa using SlO.nil hF⟩
  · refine (Try.slices_Sort_int b off cap l w (holds1_of h6 h5) h6.lt hl).mono ?_
    rintro e w' ⟨rfl, n, os, rfl⟩
    exact ⟨rfl, St.put1 h6 (by simpa [kInt] using h3) h4 _ _ (by simpa using h2) (List.prefix_refl _) n os⟩

theorem mem_compact (l : List Int) (x : Int) : x ∈ Lib.compact l ↔ x ∈ l := by
  unfold Lib.compact Lib.compactUpTo
  simp only [List.mem_map, List.mem_filter, List.mem_range]
  constructor
  · rintro ⟨i, ⟨hi, _⟩, rfl⟩
    rw [getElem!_pos l.toArray i (by simpa using hi)]; simp
  · intro hx
    obtain ⟨j, hj, rfl⟩ := List.getElem_of_mem hx
    clear hx
    induction j with
    | zero => exact ⟨0, ⟨hj, by simp [Lib.keeps]⟩, by rw [getElem!_pos l.toArray 0 (by simpa using hj)]; simp⟩
    | succ j ih =>
      by_cases hk : Lib.keeps l.toArray (j + 1) = true
      · exact ⟨j + 1, ⟨hj, hk⟩, by rw [getElem!_pos l.toArray (j + 1) (by simpa using hj)]; simp⟩
      · obtain ⟨i, h1, h2⟩ := ih (by omega)
        refine ⟨i, h1, h2.trans ?_⟩
        simp only [Lib.keeps] at hk
        rw [getElem!_pos l.toArray (j + 1) (by simpa using hj)] at hk
        simp at hk
        rw [List.getElem?_eq_getElem (by omega : j < l.length)] at hk
        simpa using hk.symm
theorem compact_le (l : List Int) : (Lib.compact l).length ≤ l.length := by
  unfold Lib.compact Lib.compactUpTo
  rw [List.length_map]
  exact Nat.le_trans (List.length_filter_le _ _) (by simp)
theorem compactInt_c (m : Mem) (w : World) (F : HP) (A : Option Addr) (cap : Nat) (l : List Int) (hS : St m w (star (SlO kInt A cap l) F)) :
    Calls Try.prog 73 #[.slice A l.length cap] w fun e w' => e = .returned (.slice A (Lib.compact l).length cap) ∧ St m w' (star (SlO kInt A cap (Lib.compact l)) F) := by
  have hlm := SlO.len_max hS
  rcases SlO.open hS with ⟨rfl, rfl, rfl, hF⟩ | ⟨b, off, cs, rfl, h2, h3, h4, h5, h6⟩
  · refine (Try.slices_Compact_int_empty none 0 w).mono ?_
    rintro e w' ⟨rfl, rfl⟩
    exact ⟨rfl, SlO.nil hF⟩
  · refine (Try.slices_Compact_int b off cap l w (holds1_of h6 h5) hlm h2).mono ?_
    rintro e w' ⟨rfl, q, rfl⟩
    have := compact_le l
    have h7 := St.put1 h6 (by simpa [kInt] using h3) h4 (Lib.compact l ++ List.replicate (l.length - (Lib.compact l).length) 0) (Lib.compact l) (by simp; omega) (List.prefix_append _ _) q #[]
    rw [grow_empty] at h7
    exact ⟨rfl, h7⟩
end Go.Proofs

namespace Go.Proofs
open Go.Croft Go.RowKit

def bsd (n at_ : Int) (r : SRoad) : List Int :=
  if r.b = at_ then (if 0 ≤ r.a ∧ r.a < n then [r.a] else []) else if r.a = at_ ∧ 0 ≤ r.b ∧ r.b < n then [r.b] else []
theorem flat_snoc {α β : Type} (f : α → List β) (l : List α) (k : Nat) (h : k < l.length) : (l.take (k + 1)).flatMap f = (l.take k).flatMap f ++ f l[k] := by
  rw [List.take_succ_eq_append_getElem h, List.flatMap_append]; simp
/-- b is next to a -/
def nextTo (n : Int) (l : List SRoad) (a b : Int) : Prop := ∃ r ∈ l, b ∈ bsd n a r

set_option maxHeartbeats 400000 in
theorem beside_c (m : Mem) (w : World) (F : HP) (A : Option Addr) (cap : Nat) (l : List SRoad) (n at_ : Int) (hR : SlR kRoad m A cap l) (hS : St m w F) (hlen : l.length ≤ 1000000) :
    Calls Try.prog 40 #[.int .i64 n, .slice A l.length cap, .int .i64 at_] w fun e w' => ∃ A' cap' out, e = .returned (.slice A' out.length cap') ∧ (∀ x, x ∈ out ↔ nextTo n l at_ x) ∧ out.length ≤ l.length ∧ St m w' (star (SlO kInt A' cap' out) F) := by
  have hlm := hR.len_max
  have HS := Lib.hid hS
  go_enter Try.func40, Try.ntmps40
  go_wp2
  go_loopw [7, 14] (fun v i wr => ∃ (k : Nat) (B : Option Addr) (c : Nat) (o : List Int), k ≤ l.length ∧ i = .int .i64 k ∧ v = .slice B o.length c ∧ o.length ≤ k ∧ Hid (o = (l.take k).flatMap (bsd n at_)) ∧ St m wr (star (SlO kInt B c o) F)) (fun _ i _ => l.length - (intOf i).toNat)
  case atStart => exact ⟨0, none, 0, [], by omega, rfl, rfl, by simp, Lib.hid rfl, SlO.nil hS⟩
  case round =>
    obtain ⟨k, B, c, o, hk, rfl, rfl, hok, ho, hSr⟩ := hrel
    by_cases hlt : k < l.length
    · have hsn := Lib.hid (flat_snoc (bsd n at_) l k hlt)
      obtain ⟨b, off, rfl, hc⟩ := hR.at hSr hlt
      have h0 := hc 0 _ rfl
      have h1 := hc 1 _ rfl
      have h2 := hc 2 _ rfl
      have h3 := hc 3 _ rfl
      simp only [kRoad, Nat.add_zero] at h0 h1 h2 h3
      clear hc
      go_wp2_with fail
      go_quiet (fail)
      go_wp2_with (refine wpl_append1 kInt_ok rfl rfl 26 _ _ 41 rfl rfl rfl Try.underlying26 (by simp) _ _ rfl rfl _ _ _ (fun _ => rfl) (((hSr.alloc _).drewN _).drop) (by simp [kInt]; omega) (by omega) (fun g A' cap' w' hS' => ?_); clear hSr h0 h1 h2 h3)
      all_goals
        refine ⟨?_, by simp [intOf]; omega⟩
        first
          | exact ⟨k + 1, _, _, o ++ [_], by omega, by go_num, by simp, by simp; omega, Lib.hid (by rw [hsn.out, ← ho.out]; congr 1; unfold bsd; clear hsn ho HS hS hR; simp only [beq_iff_eq, beq_eq_false_iff_ne, ne_eq] at *; (split <;> (try split) <;> first | rfl | (exfalso; omega))), hS'⟩
          | exact ⟨k + 1, _, _, o, by omega, by go_num, rfl, by omega, Lib.hid (by rw [hsn.out, ← ho.out, List.self_eq_append_right]; unfold bsd; clear hsn ho HS hS hR; simp only [beq_iff_eq, beq_eq_false_iff_ne, ne_eq] at *; (split <;> (try split) <;> first | rfl | (exfalso; omega))), ((hSr.alloc _).drewN _).drop⟩
    · obtain rfl : k = l.length := by omega
      go_wp2_with fail
      refine (sortInt_c m _ F _ _ o hSr (by omega)).mono ?_
      rintro e w1 ⟨rfl, S1⟩
      have e1 := Lib.hid (List.length_mergeSort (le := fun x y : Int => decide (x ≤ y)) o)
      go_wp2_with fail
      rw [← e1.out]
      refine (compactInt_c m _ F _ _ _ S1).mono ?_
      rintro e w2 ⟨rfl, S2⟩
      go_wp2
      go_ret
      refine ⟨_, _, _, rfl, fun x => ?_, ?_, S2⟩
      · rw [mem_compact, List.mem_mergeSort, ho.out, List.take_length, List.mem_flatMap]; rfl
      · exact Nat.le_trans (compact_le _) (by rw [e1.out]; exact hok)
end Go.Proofs

namespace Go.Proofs
open Go.Croft Go.RowKit

theorem nextTo_range {n : Int} {l : List SRoad} {a b : Int} (h : nextTo n l a b) : 0 ≤ b ∧ b < n := by
  obtain ⟨r, _, hb⟩ := h
  unfold bsd at hb
  split at hb
  · split at hb
    · simp at hb; omega
    · simp at hb
  · split at hb
    · simp at hb; omega
    · simp at hb
theorem nextTo_symm {n : Int} {l : List SRoad} {a b : Int} (h : nextTo n l a b) (h0 : 0 ≤ a) (h1 : a < n) : nextTo n l b a := by
  obtain ⟨r, hr, hb⟩ := h
  refine ⟨r, hr, ?_⟩
  unfold bsd at *
  split at hb
  · split at hb
    · simp at hb; subst hb; rename_i e1 e2; subst e1
      by_cases e : r.b = r.a
      · simp [e]; omega
      · rw [if_neg e, if_pos ⟨rfl, h0, h1⟩]; simp
    · simp at hb
  · split at hb
    · simp at hb; subst hb; rename_i e1 e2; obtain ⟨e3, _, _⟩ := e2; subst e3
      rw [if_pos rfl, if_pos ⟨h0, h1⟩]; simp
    · simp at hb

/-- how many places have a distance -/
def lab (d : List Int) : Nat := d.countP fun x => decide (0 ≤ x)
theorem lab_set {d : List Int} {b : Nat} {v : Int} (hb : b < d.length) (h1 : d[b] < 0) (h2 : 0 ≤ v) : lab (d.set b v) = lab d + 1 := by
  unfold lab
  have h3 := List.countP_set (p := fun x : Int => decide (0 ≤ x)) (l := d) (i := b) (a := v) hb
  have e1 : decide (0 ≤ d[b]) = false := by simpa using h1
  have e2 : decide (0 ≤ v) = true := by simpa using h2
  rw [h3, e1, e2]; simp
theorem lab_le (d : List Int) : lab d ≤ d.length := List.countP_le_length

structure FarInv (n : Nat) (l : List SRoad) (tt : Nat) (d : List Int) : Prop where
  len : d.length = n
  lo : ∀ i (h : i < d.length), -1 ≤ d[i]
  to0 : ∃ h : tt < d.length, d[tt] = 0
  prev : ∀ x (h : x < d.length), 0 < d[x] → ∃ y, ∃ h' : y < d.length, nextTo n l y x ∧ d[y] = d[x] - 1
  cnt : ∀ i (h : i < d.length), d[i] < lab d
  zero : ∀ i (h : i < d.length), d[i] = 0 → i = tt

theorem FarInv.step {n : Nat} {l : List SRoad} {tt : Nat} {d : List Int} (H : FarInv n l tt d) {q b : Nat} (hq : q < d.length) (hb : b < d.length) (hq0 : 0 ≤ d[q]) (hb0 : d[b] < 0) (hn : nextTo n l q b) : FarInv n l tt (d.set b (d[q] + 1)) := by
  have hlab := lab_set (v := d[q] + 1) hb hb0 (by omega)
  obtain ⟨ht, ht0⟩ := H.to0
  refine ⟨by simp [H.len], fun i hi => ?_, ⟨by simpa using ht, ?_⟩, fun x hx h0 => ?_, fun i hi => ?_, fun i hi h0 => ?_⟩
  · have hi' : i < d.length := by simpa using hi
    rw [List.getElem_set]; split
    · omega
    · exact H.lo i hi'
  · rw [List.getElem_set_ne (by intro e; subst e; omega)]; exact ht0
  · have hx' : x < d.length := by simpa using hx
    by_cases e : b = x
    · subst e
      refine ⟨q, by simpa using hq, hn, ?_⟩
      rw [List.getElem_set_ne (by intro e; subst e; omega), List.getElem_set_self]; omega
    · rw [List.getElem_set_ne e] at h0
      obtain ⟨y, hy, h1, h2⟩ := H.prev x hx' h0
      refine ⟨y, by simpa using hy, h1, ?_⟩
      have : b ≠ y := by intro e2; subst e2; omega
      rw [List.getElem_set_ne e, List.getElem_set_ne this]; exact h2
  · have hi' : i < d.length := by simpa using hi
    rw [hlab, List.getElem_set]; split
    · have := H.cnt q hq; omega
    · have := H.cnt i hi'; omega
  · have hi' : i < d.length := by simpa using hi
    rw [List.getElem_set] at h0; split at h0
    · omega
    · exact H.zero i hi' h0

/-- what is told at last -/
structure FarOut (n : Nat) (l : List SRoad) (tt : Nat) (d : List Int) : Prop where
  inv : FarInv n l tt d
  closed : ∀ x (h : x < d.length), 0 ≤ d[x] → ∀ b : Nat, nextTo n l x b → ∃ h : b < d.length, 0 ≤ d[b]
end Go.Proofs

namespace Go.Proofs
open Go.Croft Go.RowKit

/-- while places wait -/
structure FarMid (n : Nat) (l : List SRoad) (tt : Nat) (d Q : List Int) : Prop where
  inv : FarInv n l tt d
  q : ∀ x ∈ Q, ∃ y : Nat, x = y ∧ ∃ h : y < d.length, 0 ≤ d[y]
  closed : ∀ x (h : x < d.length), 0 ≤ d[x] → (x : Int) ∈ Q ∨ ∀ b : Nat, nextTo n l x b → ∃ h : b < d.length, 0 ≤ d[b]
/-- while the places next to q are gone through: the first j of bs are done -/
structure FarIn (n : Nat) (l : List SRoad) (tt : Nat) (d Q : List Int) (q : Nat) (bs : List Int) (j : Nat) : Prop where
  mid : FarMid n l tt d Q
  q : Q[0]? = some (q : Int)
  done : ∀ x ∈ bs.take j, ∃ y : Nat, x = y ∧ ∃ h : y < d.length, 0 ≤ d[y]
theorem FarIn.qlt {n : Nat} {l : List SRoad} {tt : Nat} {d Q : List Int} {q : Nat} {bs : List Int} {j : Nat} (h : FarIn n l tt d Q q bs j) : ∃ h : q < d.length, 0 ≤ d[q] := by
  obtain ⟨y, e, h⟩ := h.mid.q q (List.mem_of_getElem? h.q)
  obtain rfl : q = y := by omega
  exact h
theorem FarIn.skip {n : Nat} {l : List SRoad} {tt : Nat} {d Q : List Int} {q : Nat} {bs : List Int} {j : Nat} (h : FarIn n l tt d Q q bs j) (hj : j < bs.length) {b : Nat} (hb : bs[j] = b) (h1 : ∃ h : b < d.length, 0 ≤ d[b]) : FarIn n l tt d Q q bs (j + 1) :=
  ⟨h.mid, h.q, fun x hx => by
    rw [List.take_succ_eq_append_getElem hj, List.mem_append] at hx
    rcases hx with hx | hx
    · exact h.done x hx
    · simp at hx; exact ⟨b, by rw [hx, hb], h1⟩⟩
theorem FarIn.take {n : Nat} {l : List SRoad} {tt : Nat} {d Q : List Int} {q : Nat} {bs : List Int} {j : Nat} (h : FarIn n l tt d Q q bs j) (hj : j < bs.length) {b : Nat} (hb : bs[j] = b) (hbn : nextTo n l q b)
    (hbl : b < d.length) (h1 : d[b] < 0) (hq : q < d.length) : FarIn n l tt (d.set b (d[q] + 1)) (Q ++ [(b : Int)]) q bs (j + 1) := by
  obtain ⟨_, hq0⟩ := h.qlt
  have keep : ∀ y (hy : y < d.length), 0 ≤ d[y] → ∃ h : y < (d.set b (d[q] + 1)).length, 0 ≤ (d.set b (d[q] + 1))[y] := fun y hy h0 => by
    refine ⟨by simpa using hy, ?_⟩
    rw [List.getElem_set]; split <;> omega
  have new : ∃ h : b < (d.set b (d[q] + 1)).length, 0 ≤ (d.set b (d[q] + 1))[b] := ⟨by simpa using hbl, by rw [List.getElem_set_self]; omega⟩
  refine ⟨⟨h.mid.inv.step hq hbl hq0 h1 hbn, fun x hx => ?_, fun x hx h0 => ?_⟩, ?_, fun x hx => ?_⟩
  · rcases List.mem_append.1 hx with hx | hx
    · obtain ⟨y, e, hy, h0⟩ := h.mid.q x hx; exact ⟨y, e, keep y hy h0⟩
    · simp at hx; exact ⟨b, hx, new⟩
  · have hx' : x < d.length := by simpa using hx
    by_cases e : b = x
    · subst e; left; simp
    · rw [List.getElem_set_ne e] at h0
      rcases h.mid.closed x hx' h0 with h2 | h2
      · left; simp [h2]
      · right; intro c hc; obtain ⟨h3, h4⟩ := h2 c hc; exact keep c h3 h4
  · rw [List.getElem?_append_left]
    · exact h.q
    · exact (List.getElem?_eq_some_iff.1 h.q).1
  · rw [List.take_succ_eq_append_getElem hj, List.mem_append] at hx
    rcases hx with hx | hx
    · obtain ⟨y, e, hy, h0⟩ := h.done x hx; exact ⟨y, e, keep y hy h0⟩
    · simp at hx; exact ⟨b, by rw [hx, hb], new⟩
theorem FarIn.pop {n : Nat} {l : List SRoad} {tt : Nat} {d Q : List Int} {q : Nat} {bs : List Int} (h : FarIn n l tt d Q q bs bs.length) (hbs : ∀ x, x ∈ bs ↔ nextTo n l q x) : FarMid n l tt d (Q.drop 1) := by
  refine ⟨h.mid.inv, fun x hx => h.mid.q x (List.mem_of_mem_drop hx), fun x hx h0 => ?_⟩
  by_cases e : x = q
  · right; intro b hb
    subst e
    obtain ⟨y, e, hy⟩ := h.done b (by rw [List.take_length]; exact (hbs b).2 hb)
    obtain rfl : b = y := by omega
    exact hy
  · rcases h.mid.closed x hx h0 with h2 | h2
    · left
      cases Q with
      | nil => simp at h2
      | cons a Q =>
        have hq := h.q; simp at hq; subst hq
        simp at h2 ⊢; rcases h2 with h2 | h2
        · omega
        · exact h2
    · exact .inr h2
theorem FarMid.out {n : Nat} {l : List SRoad} {tt : Nat} {d : List Int} (h : FarMid n l tt d []) : FarOut n l tt d :=
  ⟨h.inv, fun x hx h0 => (h.closed x hx h0).resolve_left (by simp)⟩
theorem FarMid.start (n : Nat) (l : List SRoad) (tt : Nat) (ht : tt < n) : FarMid n l tt ((List.replicate n (-1 : Int)).set tt 0) [(tt : Int)] := by
  have hz : ∀ x (h : x < ((List.replicate n (-1 : Int)).set tt 0).length), ((List.replicate n (-1 : Int)).set tt 0)[x] = if tt = x then 0 else -1 := fun x h => by
    rw [List.getElem_set]; simp
  have hlab : lab ((List.replicate n (-1 : Int)).set tt 0) = 1 := by
    rw [lab_set (by simpa using ht) (by simp) (by omega)]
    simp [lab, List.countP_replicate]
  refine ⟨⟨by simp, fun i h => ?_, ⟨by simpa using ht, by rw [hz]; simp⟩, fun x h h0 => ?_, fun i h => ?_, fun i h h0 => ?_⟩, fun x hx => ?_, fun x h h0 => ?_⟩
  · rw [hz]; split <;> omega
  · rw [hz] at h0; split at h0 <;> omega
  · rw [hz, hlab]; split <;> omega
  · rw [hz] at h0; split at h0 <;> omega
  · simp at hx; exact ⟨tt, hx, by simpa using ht, by rw [hz]; simp⟩
  · left; rw [hz] at h0
    by_cases e : tt = x
    · simp [e]
    · rw [if_neg e] at h0; omega

set_option maxRecDepth 100000 in
set_option maxHeartbeats 1000000 in
theorem far_c (m : Mem) (w : World) (F : HP) (A : Option Addr) (cap : Nat) (l : List SRoad) (n tt : Nat) (hR : SlR kRoad m A cap l) (hS : St m w F) (hlen : l.length ≤ 1000000) (hn : n ≤ 4096) (ht : tt < n) :
    Calls Try.prog 39 #[.int .i64 n, .slice A l.length cap, .int .i64 tt] w fun e w' => ∃ A' cap' d, e = .returned (.slice A' d.length cap') ∧ FarOut n l tt d ∧ St m w' (star (SlO kInt A' cap' d) F) := by
  have HR := Lib.hid hR
  have HS := Lib.hid hS
  clear hR hS
  go_enter Try.func39, Try.ntmps39
  go_wp2_with (refine wpl_make kInt_ok rfl _ _ 26 rfl Try.underlying26 0 (by kernel_rfl) n rfl rfl HS.out (by simp [kInt]; omega) (by omega) (fun A1 w1 S1 => ?_))
  go_loopg [16] n (fun r i wr => ∃ (k : Nat) (o : List Int), k ≤ n ∧ k + r = n ∧ i = .int .i64 k ∧ o.length = n ∧ Hid (o = List.replicate k (-1) ++ List.replicate (n - k) 0) ∧ St m wr (star (SlO kInt A1 n o) F))
  case atStart => exact ⟨0, _, by omega, by omega, rfl, by simp, Lib.hid rfl, by simpa using S1⟩
  case round =>
    obtain ⟨k, o, hk, hkr, rfl, hll, ho, hSr⟩ := hrel
    by_cases hlt : k < n
    · obtain ⟨b, off, rfl, hc, hf⟩ := SlO.at hSr (i := k) (by omega)
      have h0 := hc 0 _ rfl
      have hf0 := hf (off + k)
      simp only [kInt, Nat.add_zero, Nat.mul_one] at h0
      have h1 := Lib.hid (SlO.set (x := -1) (v := .int .i64 (-1)) hSr (i := k) (by omega) rfl rfl)
      clear hc hf hSr S1
      go_wp2
      go_roundg (gk - 1)
      case measure => omega
      case rel =>
        refine ⟨k + 1, o.set k (-1), by omega, by omega, by go_num, by simpa using hll, Lib.hid ?_, h1.out⟩
        rw [ho.out]
        apply List.ext_getElem
        · simp; omega
        · intro i h2 h3
          simp only [List.getElem_set, List.getElem_append, List.length_replicate, List.getElem_replicate]
          repeat' split
          all_goals omega
    · obtain rfl : k = n := by omega
      have ho' : o = List.replicate k (-1) := by rw [ho.out]; simp
      clear ho
      subst ho'
      obtain ⟨b, off, rfl, hc, hf⟩ := SlO.at hSr (i := tt) (by simpa using ht)
      have h0 := hc 0 _ rfl
      have hf0 := hf (off + tt)
      simp only [kInt, Nat.add_zero, Nat.mul_one, List.getElem_replicate] at h0
      have h1 := Lib.hid (SlO.set (x := 0) (v := .int .i64 0) hSr (i := tt) (by simpa using ht) rfl rfl)
      have ht0 : (0 : Int) ≤ tt := by omega
      have ht1 : (tt : Int) < k := by omega
      clear hc hf hSr S1 hll
      go_wp2_with fail
      have S2 := SlO.fresh (k := kInt) [(tt : Int)] h1.out _ rfl (by simp)
      simp only [World.size_setCell, kInt, List.flatMap_cons, List.flatMap_nil, List.append_nil, List.length_cons, List.length_nil] at S2
      have HM := Lib.hid (FarMid.start k l tt ht)
      have hl0 : lab ((List.replicate k (-1 : Int)).set tt 0) ≤ k := by have := lab_le ((List.replicate k (-1 : Int)).set tt 0); simpa using this
      generalize ((wr.setCell ⟨b, off + tt, none⟩ (.int .i64 0)).alloc (.cells #[.int .i64 tt] 3)) = W at *
      generalize wr.heap.size = g at *
      generalize (List.replicate k (-1 : Int)).set tt 0 = d0 at *
      clear h0 hf0 h1 ht0 ht1 hlt
      go_loopg [9] (2 * k + 1) (fun r v w2 => ∃ (A2 : Option Addr) (c2 : Nat) (d Q : List Int), v = .slice A2 Q.length c2 ∧ d.length = k ∧ Hid (FarMid k l tt d Q) ∧ 2 * (k - lab d) + Q.length ≤ r ∧ r ≤ 10000 ∧ St m w2 (star (SlO kInt A2 c2 Q) (star (SlO kInt (some ⟨b, off, none⟩) k d) F)))
      case atStart => exact ⟨_, _, d0, [(tt : Int)], rfl, HM.out.inv.len, HM, by simp; omega, by omega, S2⟩
      case round =>
        obtain ⟨A2, c2, d, Q, rfl, hd, hM, hr, hrb, hSr⟩ := hrel
        clear S2 HM hl0
        cases Q with
        | nil =>
          go_wp2
          go_ret
          exact ⟨_, _, d, by rw [hd]; rfl, hM.out.out, hSr.drop⟩
        | cons q0 Q' =>
          obtain ⟨q, hq, hq1, hq2⟩ := hM.out.q q0 (by simp)
          subst hq
          obtain ⟨b2, off2, rfl, hc2, hf2⟩ := SlO.at hSr (i := 0) (by simp)
          have e0 := hc2 0 _ rfl
          simp only [kInt, Nat.add_zero, Nat.mul_one, List.getElem_cons_zero] at e0
          clear hc2 hf2
          go_wp2_with fail
          refine (beside_c m _ _ A cap l k q HR.out hSr hlen).mono ?_
          rintro e w3 ⟨A3, c3, bs, rfl, hbs, hbl, S3⟩
          obtain ⟨m3, l3, S4, R3⟩ := SlO.freeze S3
          have HB := Lib.hid hbs
          have L3 := Lib.hid l3
          clear S3 hSr e0 hbs l3
          have HI := Lib.hid (⟨hM.out, by simp, by simp⟩ : FarIn k l tt d ((q : Int) :: Q') q bs 0)
          go_wp2_with fail
          go_loopg [9, 40] bs.length (fun r2 v j w4 => ∃ (jn : Nat) (A4 : Option Addr) (c4 : Nat) (d4 Q4 : List Int), j = .int .i64 jn ∧ jn + r2 = bs.length ∧ v = .slice A4 Q4.length c4 ∧ d4.length = k ∧ Hid (FarIn k l tt d4 Q4 q bs jn) ∧ 2 * (k - lab d4) + Q4.length ≤ gk ∧ St m3 w4 (star (SlO kInt A4 c4 Q4) (star (SlO kInt (some ⟨b, off, none⟩) k d4) F)))
          case atStart => exact ⟨0, _, _, d, (q : Int) :: Q', by simp, by omega, by simp, hd, HI, hr, S4⟩
          case round =>
            obtain ⟨jn, A4, c4, d4, Q4, rfl, hj, rfl, hd4, hI, hr4, hS4⟩ := hrel
            obtain ⟨hq3, hq4⟩ := hI.out.qlt
            by_cases hlt : jn < bs.length
            · obtain ⟨b3, off3, rfl, hc3⟩ := R3.at hS4 hlt
              have e1 := hc3 0 _ rfl
              obtain ⟨b', off', he, hc', hf'⟩ := SlO.at hS4.swap hq3
              injection he with he; injection he with ea eb _
              subst ea eb
              have e2 := hc' 0 _ rfl
              have hnx := (HB.out bs[jn]).1 (List.getElem_mem hlt)
              obtain ⟨hb0, hb1⟩ := nextTo_range hnx
              obtain ⟨bn, hbn⟩ : ∃ bn : Nat, bs[jn] = bn := ⟨bs[jn].toNat, by omega⟩
              have hbl : bn < d4.length := by omega
              obtain ⟨b', off', he, hc5, hf5⟩ := SlO.at hS4.swap hbl
              injection he with he; injection he with ea eb _
              subst ea eb
              have e3 := hc5 0 _ rfl
              have f3 := hf5 (off + bn)
              obtain ⟨b6, off6, rfl, hc6, hf6⟩ := SlO.at hS4 (i := 0) (by have := (List.getElem?_eq_some_iff.1 hI.out.q).1; omega)
              have e4 := hc6 0 _ rfl
              have hQ40 : Q4[0]'(by have := (List.getElem?_eq_some_iff.1 hI.out.q).1; omega) = (q : Int) := (List.getElem?_eq_some_iff.1 hI.out.q).2
              simp only [kInt, Nat.add_zero, Nat.mul_one, hQ40, hbn] at e1 e2 e3 e4
              have hQ4l : 0 < Q4.length := (List.getElem?_eq_some_iff.1 hI.out.q).1
              have HN : Hid (nextTo k l q bn) := by rw [← hbn]; exact hnx
              have HBN := Lib.hid hbn
              have hbk0 : (0 : Int) ≤ bn := by omega
              have hbk1 : (bn : Int) < k := by omega
              have hqk1 : (q : Int) < k := by omega
              have hqk0 : (0 : Int) ≤ q := by omega
              have hcnt := hI.out.mid.inv.cnt q hq3
              have hll := lab_le d4
              have hdq : d4[q] < 10000 := by omega
              clear hc3 hc' hf' hc5 hf5 hc6 hf6 hbn hnx hb0 hb1 hQ40
              by_cases hneg : d4[bn] < 0
              · have HS5 := Lib.hid (SlO.set (x := d4[q] + 1) (v := .int .i64 (d4[q] + 1)) hS4.swap hbl rfl rfl)
                have HT := Lib.hid (hI.out.take hlt HBN.out HN.out hbl hneg hq3)
                have HL := Lib.hid (lab_set (v := d4[q] + 1) hbl hneg (by omega))
                clear hS4 hcnt
                go_wp2_with (refine wpl_append1 kInt_ok rfl rfl 26 _ _ 61 rfl rfl rfl Try.underlying26 (by simp) _ _ rfl rfl _ _ Q4 (fun _ => rfl) HS5.out.swap (by simp [kInt]; omega) (by omega) (fun g' A' cap' w' hS' => ?_))
                go_roundg (gk - 1)
                case measure => omega
                case rel =>
                  have hl2 := lab_le (d4.set bn (d4[q] + 1))
                  rw [HL.out, List.length_set] at hl2
                  exact ⟨jn + 1, A', cap', d4.set bn (d4[q] + 1), Q4 ++ [(bn : Int)], by go_num, by omega, by simp, by simpa using hd4, HT, by rw [HL.out]; simp; omega, hS'⟩
              · have HT := Lib.hid (hI.out.skip hlt HBN.out ⟨hbl, by omega⟩)
                go_wp2_with fail
                go_roundg (gk - 1)
                case measure => omega
                case rel => exact ⟨jn + 1, _, c4, d4, Q4, by go_num, by omega, rfl, hd4, HT, hr4, hS4⟩
            · obtain rfl : jn = bs.length := by omega
              have hQ4l : 0 < Q4.length := (List.getElem?_eq_some_iff.1 hI.out.q).1
              have hcp := SlO.le_cap hS4
              have HP := Lib.hid (hI.out.pop HB.out)
              have HC := Lib.hid (SlO.cut hS4 1 Q4.length (by omega) (Nat.le_refl _))
              clear hS4
              go_wp2_with (refine wpl_slice kInt_ok rfl 26 _ _ _ rfl Try.underlying26 _ _ _ rfl 1 Q4.length ⟨_, rfl⟩ rfl (by omega) (Nat.le_refl _) (by omega) ?_)
              go_roundg (2 * (k - lab d4) + (Q4.length - 1))
              case measure => omega
              case rel => exact ⟨_, _, d4, Q4.drop 1, by rw [List.length_drop], hd4, HP, by rw [List.length_drop]; omega, by omega, by have := HC.out.weak L3.out; rwa [List.take_length] at this⟩
end Go.Proofs

namespace Go.Proofs
open Go.Croft Go.RowKit

inductive Conn (n : Nat) (l : List SRoad) : Nat → Nat → Prop
  | refl (a : Nat) : Conn n l a a
  | step {a b c : Nat} : Conn n l a b → nextTo n l b c → Conn n l a c
theorem Conn.trans {n : Nat} {l : List SRoad} {a b c : Nat} (h : Conn n l a b) (k : Conn n l b c) : Conn n l a c := by
  induction k with
  | refl => exact h
  | step _ hn ih => exact .step ih hn
theorem Conn.symm {n : Nat} {l : List SRoad} {a b : Nat} (h : Conn n l a b) (ha : a < n) : Conn n l b a := by
  induction h with
  | refl => exact .refl a
  | step h hn ih =>
    rename_i b c
    have hb : b < n := by
      cases h with
      | refl => exact ha
      | step _ hn' => have := nextTo_range hn'; omega
    exact (Conn.step (.refl _) (nextTo_symm hn (by omega) (by omega))).trans ih
theorem nextTo_mono {n : Int} {l l' : List SRoad} (h : ∀ r ∈ l, r ∈ l') {a b : Int} (hn : nextTo n l a b) : nextTo n l' a b := by
  obtain ⟨r, hr, hb⟩ := hn; exact ⟨r, h r hr, hb⟩
theorem Conn.mono {n : Nat} {l l' : List SRoad} (h : ∀ r ∈ l, r ∈ l') {a b : Nat} (hc : Conn n l a b) : Conn n l' a b := by
  induction hc with
  | refl => exact .refl a
  | step _ hn ih => exact .step ih (nextTo_mono h hn)

/-- a road between two places -/
def RoadOk (n : Nat) (r : SRoad) : Prop := ∃ i j : Nat, r.a = i ∧ r.b = j ∧ i < n ∧ j < n
structure Krus (n : Nat) (rs : List SRoad) (k : Nat) (g : List Int) (out : List SRoad) : Prop where
  len : g.length = n
  conn : ∀ i j (hi : i < g.length) (hj : j < g.length), g[i] = g[j] → Conn n out i j
  done : ∀ r ∈ rs.take k, ∀ i j (hi : i < g.length) (hj : j < g.length), r.a = i → r.b = j → g[i] = g[j]
  sub : out.Sublist (rs.take k)
def relab (a b x : Int) : Int := if x = b then a else x
theorem Krus.skip {n : Nat} {rs : List SRoad} {k : Nat} {g : List Int} {out : List SRoad} (h : Krus n rs k g out) (hk : k < rs.length) {i j : Nat} (hi : i < g.length) (hj : j < g.length) (e1 : rs[k].a = i) (e2 : rs[k].b = j) (he : g[i] = g[j]) : Krus n rs (k + 1) g out := by
  refine ⟨h.len, h.conn, fun r hr i' j' hi' hj' a b => ?_, ?_⟩
  · rw [List.take_succ_eq_append_getElem hk, List.mem_append] at hr
    rcases hr with hr | hr
    · exact h.done r hr i' j' hi' hj' a b
    · simp at hr; subst hr
      obtain rfl : i = i' := by omega
      obtain rfl : j = j' := by omega
      exact he
  · rw [List.take_succ_eq_append_getElem hk]; exact h.sub.trans (List.sublist_append_left _ _)
theorem Krus.take {n : Nat} {rs : List SRoad} {k : Nat} {g : List Int} {out : List SRoad} (h : Krus n rs k g out) (hk : k < rs.length) {i j : Nat} (hi : i < g.length) (hj : j < g.length) (e1 : rs[k].a = i) (e2 : rs[k].b = j) : Krus n rs (k + 1) (g.map (relab g[i] g[j])) (out ++ [rs[k]]) := by
  have hn := h.len
  have sub : ∀ r ∈ out, r ∈ out ++ [rs[k]] := fun r hr => List.mem_append_left _ hr
  have hij : Conn n (out ++ [rs[k]]) i j := by
    refine .step (.refl _) ⟨rs[k], by simp, ?_⟩
    unfold bsd
    by_cases e : rs[k].b = i
    · rw [if_pos e, if_pos ⟨by omega, by omega⟩]; simp; omega
    · rw [if_neg e, if_pos ⟨by omega, by omega, by omega⟩]; simp; omega
  have hji := hij.symm (by omega)
  refine ⟨by simpa using hn, fun x y hx hy hxy => ?_, fun r hr x y hx hy a b => ?_, ?_⟩
  · have hx' : x < g.length := by simpa using hx
    have hy' : y < g.length := by simpa using hy
    simp only [List.getElem_map, relab] at hxy
    have C : ∀ p q (hp : p < g.length) (hq : q < g.length), g[p] = g[q] → Conn n (out ++ [rs[k]]) p q := fun p q hp hq e => (h.conn p q hp hq e).mono sub
    by_cases e3 : g[x] = g[j]
    · by_cases e4 : g[y] = g[j]
      · exact C x y hx' hy' (by omega)
      · rw [if_pos e3, if_neg e4] at hxy
        exact ((C x j hx' hj e3).trans hji).trans (C i y hi hy' hxy)
    · by_cases e4 : g[y] = g[j]
      · rw [if_neg e3, if_pos e4] at hxy
        exact ((C x i hx' hi hxy).trans hij).trans (C j y hj hy' e4.symm)
      · rw [if_neg e3, if_neg e4] at hxy; exact C x y hx' hy' hxy
  · have hx' : x < g.length := by simpa using hx
    have hy' : y < g.length := by simpa using hy
    simp only [List.getElem_map]
    rw [List.take_succ_eq_append_getElem hk, List.mem_append] at hr
    rcases hr with hr | hr
    · rw [h.done r hr x y hx' hy' a b]
    · simp at hr; subst hr
      obtain rfl : i = x := by omega
      obtain rfl : j = y := by omega
      simp only [relab]; split <;> simp
  · rw [List.take_succ_eq_append_getElem hk]
    exact h.sub.append (List.Sublist.refl _)
theorem Krus.start (n : Nat) (rs : List SRoad) (g : List Int) (hg : g = (List.range n).map Int.ofNat) : Krus n rs 0 g [] := by
  subst hg
  refine ⟨by simp, fun i j hi hj e => ?_, fun r hr => by simp at hr, by simp⟩
  simp at e; obtain rfl : i = j := by omega
  exact .refl _

theorem mem_pairsTo {l : List Pnt} {i : Nat} {r : SRoad} (h : r ∈ pairsTo l i) : ∃ a b : Nat, a < i ∧ a < b ∧ b < l.length ∧ r = road l a b := by
  unfold pairsTo at h
  simp only [List.mem_flatMap, List.mem_range, rowR, List.mem_map, List.mem_range'_1] at h
  obtain ⟨a, ha, b, hb, rfl⟩ := h
  exact ⟨a, b, ha, by omega, by omega, rfl⟩
theorem road_mem {l : List Pnt} {a b : Nat} (h : a < b) (hb : b < l.length) : road l a b ∈ pairsTo l l.length := by
  unfold pairsTo
  simp only [List.mem_flatMap, List.mem_range, rowR, List.mem_map, List.mem_range'_1]
  exact ⟨a, by omega, b, by omega, rfl⟩
theorem Krus.all {l : List Pnt} {rs : List SRoad} {g : List Int} {out : List SRoad} (h : Krus l.length rs rs.length g out) (hp : rs.Perm (pairsTo l l.length)) (a b : Nat) (ha : a < l.length) (hb : b < l.length) : Conn l.length out a b := by
  have hg := h.len
  have key : ∀ a b : Nat, a < b → (hb : b < l.length) → Conn l.length out a b := fun a b hab hb => by
    refine h.conn a b (by omega) (by omega) (h.done (road l a b) ?_ a b (by omega) (by omega) rfl rfl)
    rw [List.take_length]; exact hp.mem_iff.2 (road_mem hab hb)
  rcases Nat.lt_trichotomy a b with h1 | h1 | h1
  · exact key a b h1 hb
  · subst h1; exact .refl _
  · exact (key b a h1 ha).symm hb
end Go.Proofs
