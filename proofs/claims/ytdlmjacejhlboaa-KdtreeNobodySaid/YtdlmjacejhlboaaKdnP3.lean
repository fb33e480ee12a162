/- Contracts of the given program, for the proofs of its statements: Slc2, Sorts, PtSort, SpanKinds, SpanWalk1, SpanSort, KdBy, KdSort, Kd, KdNone. No conditions beyond those in each theorem. -/
import Derived.Test.YtdlmjacejhlboaaKdnP1
import Derived.Shelf.SlSortCmp.WholeK
import Derived.Test.YtdlmjacejhlboaaKdnP2
import Derived.Lib.SliceRun
import Derived.Laws.BitsLemmas
namespace Go.Croft
open Go Go.RowKit
theorem i64_keep (z : Int) (h : -9223372036854775808 ≤ z) (k : z ≤ 9223372036854775807) : IntKind.i64.wrap z = z := by
  simp only [IntKind.wrap, IntKind.bits, IntKind.signed]; simp; split <;> omega
variable {α : Type} {P : Program} {k : Kd α} {m : Mem} {w : World} {F : HP} {ops : Array Oper} {rest : List Oper} {o : Oper} {a : Act} {Q : Exit → Act → World → Prop}

theorem addr_at (b off n : Nat) : (Addr.mk b off none).add n = ⟨b, off + n, none⟩ := by
  unfold Addr.add; split <;> simp_all
theorem run_append_empty (hk : KdOk P k) (t ty : TypeId) (ht : P.underlying t = some (.slice k.ty)) {A A2 : Option Addr} {n cap c : Nat} (hn : n ≤ cap) (w : World) :
    (Builtin.append_ #[t, t] ty #[.slice A n cap, .slice A2 0 c]).run P w = .ok (.slice A n cap) w := by
  obtain ⟨⟨i, z, hi, hz, hsz, hby, hzs⟩, _⟩ := hk
  have hf : (Builtin.firstCells i.size 0 (.slice A2 0 c)).run P w = .ok #[] w := by
    cases A2 with
    | none => exact run_firstCells_none w i.size 0 0 c
    | some ad => exact run_firstCells_some (P := P) w i.size 0 ad 0 c [] (by simp) (by simp)
  cases A <;> simp [Builtin.append_, run_underlying ht, sizeOf, typeInfo, hi, Builtin.lenOf, hn, hf, storeCells]

/-- the cells of a slice that is read, in a row -/
theorem SlR.cells {A : Option Addr} {cap : Nat} {l : List α} (h : SlR k m A cap l) (hS : St m w F) (h0 : 0 < l.length) : ∃ ad, A = some ad ∧ ∀ j u, (l.flatMap k.enc)[j]? = some u → w.cell? (ad.add j) = some u := by
  obtain ⟨b, off, rfl, _⟩ := h.at hS h0
  refine ⟨_, rfl, fun j u hu => ?_⟩
  have hK := k.pos
  have hlt : j < l.length * k.K := by rw [← flatMap_length]; exact (List.getElem?_eq_some_iff.1 hu).1
  have hi : j / k.K < l.length := (Nat.div_lt_iff_lt_mul hK).2 hlt
  have hj := Nat.mod_lt j hK
  obtain ⟨b', off', e, hc⟩ := h.at hS hi
  cases e
  have e1 : j = j / k.K * k.K + j % k.K := by have := Nat.div_add_mod j k.K; rw [Nat.mul_comm] at this; omega
  have h2 := flatMap_get k l (j / k.K) (j % k.K) hi hj
  rw [← e1, hu] at h2
  rw [addr_at]
  have h3 := hc (j % k.K) u h2.symm
  have e2 : off + j = off + j / k.K * k.K + j % k.K := by omega
  rw [e2]; exact h3

/-- append(s, x..), x being read, of whatever length -/
theorem run_appendR (hk : KdOk P k) (t ty : TypeId) (ht : P.underlying t = some (.slice k.ty)) {A A2 : Option Addr} {cap c : Nat} {l ys : List α} (hS : St m w (star (SlO k A cap l) F)) (hR : SlR k m A2 c ys)
    (hb : (l.length + ys.length) * k.bytes ≤ 140737488355328) (h63 : l.length + ys.length ≤ 9223372036854775807) :
    ∃ A' cap' w', (Builtin.append_ #[t, t] ty #[.slice A l.length cap, .slice A2 ys.length c]).run P w = .ok (.slice A' (l ++ ys).length cap') w' ∧ St m w' (star (SlO k A' cap' (l ++ ys)) F) := by
  by_cases h0 : 0 < ys.length
  · obtain ⟨ad, rfl, hys⟩ := hR.cells hS.drop h0
    exact run_append_sl hk t ty ht hS ad c ys hys h0 hb h63
  · have e : ys = [] := List.eq_nil_of_length_eq_zero (by omega)
    subst e
    have hr := run_append_empty hk t ty ht (A := A) (A2 := A2) (c := c) (SlO.le_cap hS) w
    refine ⟨A, cap, w, ?_, by rw [List.append_nil]; exact hS⟩
    rw [List.append_nil]; exact hr
theorem wpl_appendR (hk : KdOk P k) (hgd : o.guard = none) (s x : Operand) (t : TypeId) (ho : o.op = .call { callee := .builtin .append, args := #[s, x], argTypes := #[t, t] })
    (ht : P.underlying t = some (.slice k.ty)) (A : Option Addr) (cap : Nat) (l : List α) (hs : a.eval s = .slice A l.length cap) (hS : St m w (star (SlO k A cap l) F))
    (A2 : Option Addr) (c : Nat) (ys : List α) (hx : a.eval x = .slice A2 ys.length c) (hR : SlR k m A2 c ys)
    (hb : (l.length + ys.length) * k.bytes ≤ 140737488355328) (h63 : l.length + ys.length ≤ 9223372036854775807)
    (h : ∀ A' cap' w', St m w' (star (SlO k A' cap' (l ++ ys)) F) → wpList P ops Q rest (a.put o.dst (.slice A' (l ++ ys).length cap')) w') : wpList P ops Q (o :: rest) a w := by
  obtain ⟨A', cap', w', hr, h2⟩ := run_appendR hk t o.type ht hS hR hb h63
  refine wpList_plain hgd fun K hK => ?_
  unfold Oper.wp execOp
  simp only [ho, resolve, invoke, builtin, Sem.run_bind, Sem.run_pure, Result.andThen_ok, List.map_toArray, List.map_cons, List.map_nil, hs, hx, hr]
  exact hK _ _ (h A' cap' w' h2)
/-- the same at a step of a region that draws its order -/
theorem step_appendR {K : Act → World → Prop} {E : Prop} (hk : KdOk P k) (hgd : o.guard = none) (s x : Operand) (t : TypeId) (ho : o.op = .call { callee := .builtin .append, args := #[s, x], argTypes := #[t, t] })
    (ht : P.underlying t = some (.slice k.ty)) (A : Option Addr) (cap : Nat) (l : List α) (hs : a.eval s = .slice A l.length cap) (hS : St m w (star (SlO k A cap l) F))
    (A2 : Option Addr) (c : Nat) (ys : List α) (hx : a.eval x = .slice A2 ys.length c) (hR : SlR k m A2 c ys)
    (hb : (l.length + ys.length) * k.bytes ≤ 140737488355328) (h63 : l.length + ys.length ≤ 9223372036854775807)
    (h : ∀ A' cap' w', St m w' (star (SlO k A' cap' (l ++ ys)) F) → K (a.put o.dst (.slice A' (l ++ ys).length cap')) w') :
    if Region.wanted o (yielded ops a.tmps) = true then Oper.wp P o a w K Q else E := by
  obtain ⟨A', cap', w', hr, h2⟩ := run_appendR hk t o.type ht hS hR hb h63
  refine step_of_wp hgd ?_
  unfold Oper.wp execOp
  simp only [ho, resolve, invoke, builtin, Sem.run_bind, Sem.run_pure, Result.andThen_ok, List.map_toArray, List.map_cons, List.map_nil, hs, hx, hr]
  exact h A' cap' w' h2
/-- x[:hi], x[lo:], as the walk takes them: equations -/
theorem run_slice_to (hk : KdOk P k) (t : TypeId) (ht : P.underlying t = some (.slice k.ty)) (A : Option Addr) (n cap hi : Nat) (kd : IntKind) (hhi : hi ≤ n) (hn : n ≤ cap) (w : World) :
    (Instr.sliceAt t (.slice A n cap) none (some (.int kd hi)) none).run P w = .ok (.slice (sliceAddr A cap 0 k.K) hi cap) w := by
  simpa [Act.eval] using run_slice_sl (a := ⟨#[], []⟩) hk t ht A n cap none (some (.const (.int kd hi))) 0 hi rfl ⟨kd, by simp [Act.eval]⟩ (Nat.zero_le _) hhi hn w
theorem run_slice_from (hk : KdOk P k) (t : TypeId) (ht : P.underlying t = some (.slice k.ty)) (A : Option Addr) (n cap lo : Nat) (z : Int) (hz : z = lo) (kd : IntKind) (hlo : lo ≤ n) (hn : n ≤ cap) (w : World) :
    (Instr.sliceAt t (.slice A n cap) (some (.int kd z)) none none).run P w = .ok (.slice (sliceAddr A cap lo k.K) (n - lo) (cap - lo)) w := by
  subst hz
  simpa [Act.eval] using run_slice_sl (a := ⟨#[], []⟩) hk t ht A n cap (some (.const (.int kd lo))) none lo n ⟨kd, by simp [Act.eval]⟩ rfl hlo (Nat.le_refl _) hn w
end Go.Croft

namespace Go.Croft
open Go Go.RowKit Go.Sort Go.Proofs
variable {α : Type} [Inhabited α] {k : Kd α} {m : Mem} {w : World} {F H : HP} {P : Program}

theorem St.grow {H : HP} (h : St m w H) (os : Array Obj) : St m (Go.Sort.grow w os) H := by
  have old : ∀ (b : Nat) (p : Obj), w.heap[b]? = some p → (Go.Sort.grow w os).heap[b]? = some p := fun b p e => by
    show (w.heap ++ os)[b]? = _
    rw [Array.getElem?_append_left (Array.getElem?_eq_some_iff.1 e).1]; exact e
  obtain ⟨x, hx, hh⟩ := h.own
  exact ⟨h.os, h.tape, h.output, h.lo, fun b o e => old b o (h.mem b o e), x, fun b o e => ⟨old b o (hx b o e).1, (hx b o e).2⟩, hh⟩

theorem get_putCells (F : Array Value) (off : Nat) (cs : Array Value) (t : Nat) (ht : t < F.size) (hs : off + F.size ≤ cs.size) : (putCells id off F cs)[off + t]? = some F[t]! := by
  have : off + t < cs.size := by omega
  simp only [putCells, Array.getElem?_mapIdx, Array.getElem?_eq_getElem this, Option.map_some, id]
  rw [if_pos ⟨by omega, by omega⟩]
  congr 2; omega

theorem holds_putCells (cs : Array Value) (off : Nat) (d : Array α) (hs : off + d.size * k.K ≤ cs.size) : Holds k (putCells id off (flatK k.enc k.K d) cs) off d.toList := by
  have hp := k.pos
  refine Holds.of_get (by simp [putCells]; omega) fun i j hi hj => ?_
  have hi' : i < d.size := by simpa using hi
  have hlt : i * k.K + j < d.size * k.K := by
    have : (i + 1) * k.K ≤ d.size * k.K := Nat.mul_le_mul_right _ hi'
    rw [Nat.add_mul] at this; omega
  rw [Nat.add_assoc, get_putCells _ _ _ _ (by simpa using hlt) (by simpa using hs), get_flatK _ _ _ _ hlt]
  have e1 : (i * k.K + j) / k.K = i := by rw [Nat.mul_comm, Nat.mul_add_div hp, Nat.div_eq_of_lt hj]; rfl
  have e2 : (i * k.K + j) % k.K = j := by rw [Nat.mul_comm, Nat.mul_add_mod, Nat.mod_eq_of_lt hj]
  rw [e1, e2]
  have hjl : j < (k.enc d[i]!).length := by rw [k.len]; exact hj
  have e3 : d[i]! = d.toList[i] := by rw [getElem!_pos d i hi']; simp
  rw [e3] at hjl ⊢
  rw [getElem!_pos _ j hjl, List.getElem?_eq_getElem hjl]

theorem holdsK_of {b off : Nat} {cs : Array Value} {l : List α} (hS : St m w (star (pt b (.cells cs k.ty (0, 0))) F)) (h : Holds k cs off l) : HoldsK k.enc k.K w b off l.toArray := by
  intro t ht
  have hp := k.pos
  have ht' : t < l.length * k.K := by simpa using ht
  have hi : t / k.K < l.length := (Nat.div_lt_iff_lt_mul hp).2 ht'
  have hj := Nat.mod_lt t hp
  refine ⟨?_, hS.free⟩
  rw [hS.cell, get_flatK _ _ _ _ (by simpa using ht')]
  have e : off + t = off + t / k.K * k.K + t % k.K := by have := Nat.div_add_mod t k.K; rw [Nat.mul_comm] at this; omega
  rw [e, h.get hi hj]
  have e3 : l.toArray[t / k.K]! = l[t / k.K] := by rw [getElem!_pos l.toArray _ (by simpa using hi)]; simp
  have hjl : t % k.K < (k.enc l[t / k.K]).length := by rw [k.len]; exact hj
  rw [e3, id, getElem!_pos (k.enc l[t / k.K]) (t % k.K) hjl, List.getElem?_eq_getElem hjl]

theorem St.sorted {b off cap : Nat} {cs : Array Value} {l : List α} (hS : St m w (star (pt b (.cells cs k.ty (0, 0))) F)) (hl : l.length ≤ cap) (hc : off + cap * k.K ≤ cs.size) (hm : cap ≤ maxLen)
    (n : Nat) (d : Array α) (hd : d.size = l.length) (os : Array Obj) : St m (sortWorldK k.enc k.K w b off n d os) (star (SlO k (some ⟨b, off, none⟩) cap d.toList) F) := by
  have hle : l.length * k.K ≤ cap * k.K := Nat.mul_le_mul_right _ hl
  unfold sortWorldK putRowK putRow
  refine St.grow (SlO.mk (cs := putCells id off (flatK k.enc k.K d) cs) ?_ (by simpa [hd] using hl) (by simpa [putCells] using hc) hm (holds_putCells cs off d (by rw [hd]; omega))) os
  refine hS.put rfl rfl rfl (Nat.le_add_right _ _) ?_ fun c hc _ => ?_
  · simp [mapBlock, Go.Sort.ahead, Array.getElem?_modify, hS.at, onCells]
  · simp only [mapBlock, Go.Sort.ahead, Array.getElem?_modify]
    rw [if_neg (fun e => hc e.symm)]

/-- A call that answers v leaves the world as it was, but for draws and new blocks. -/
theorem Pure.grown {f : FuncId} {args : Array Value} {v : Value} (h : Pure P f args v) (w : World) : Calls P f args w fun e w' => e = .returned v ∧ ∃ q os', w' = Go.Sort.grow (w.drewN q) os' := by
  have hS : St { os := w.os, tape := w.tape, output := w.output, lo := w.drawn, blk := fun b => w.heap[b]? } w emp :=
    ⟨rfl, rfl, rfl, Nat.le_refl _, fun _ _ e => e, ⟨fun _ => none, ⟨(fun _ _ e => nomatch e), fun _ => rfl⟩⟩⟩
  refine (h.at hS).mono fun e w' ⟨he, hS'⟩ => ⟨he, w'.drawn - w.drawn, (w'.heap.toList.drop w.heap.size).toArray, ?_⟩
  have h1 := hS'.os; have h2 := hS'.tape; have h3 := hS'.output; have h4 := hS'.lo; have h5 := hS'.mem
  simp only at h1 h2 h3 h4 h5
  cases w' with
  | mk heap tape drawn os output =>
    simp only [Go.Sort.grow, World.drewN] at *
    subst h1 h2 h3
    congr 1
    · apply Array.ext_getElem?
      intro i
      by_cases hi : i < w.heap.size
      · rw [Array.getElem?_append_left hi]
        exact h5 i _ (Array.getElem?_eq_getElem hi) |>.trans (Array.getElem?_eq_getElem hi).symm
      · rw [Array.getElem?_append_right (by omega)]
        simp only [List.getElem?_toArray, List.getElem?_drop, Array.getElem?_toList]
        congr 1; omega
    · omega

theorem PermIn.perm {d d' : Array α} (h : PermIn 0 d.size d d') : d'.toList.Perm d.toList := by
  obtain ⟨h1, _, h3⟩ := h
  have e1 : d'.extract 0 d.size = d' := by rw [← h1]; simp
  have e2 : d.extract 0 d.size = d := by simp
  rwa [e1, e2] at h3

theorem CmpLays.of_pure {g : Nat} {cf : α → α → Int} (h : ∀ x y, Pure P g #[.agg (k.enc x).toArray, .agg (k.enc y).toArray] (.int .i64 (cf x y))) (blk off size : Nat) (w : World) : Go.Proofs.CmpLays P g #[] k.enc k.K cf blk off size w := by
  intro n os dk _ x y
  exact (h x y).grown _
end Go.Croft

namespace Go.Proofs
open Go.Croft Go.RowKit

set_option maxRecDepth 100000 in
set_option maxHeartbeats 400000 in
/-- slices.Clone of points -/
theorem clonePt_c (m : Mem) (w : World) (F : HP) (A : Option Addr) (cap : Nat) (l : List Pnt) (hl : l.length ≤ 1000000000) (hR : SlR kPt m A cap l) (hS : St m w F) :
    Calls Try.prog 74 #[.slice A l.length cap] w fun e w' => ∃ A' cap', e = .returned (.slice A' l.length cap') ∧ (A = none → A' = none) ∧ St m w' (star (SlO kPt A' cap' l) F) := by
  cases A with
  | none =>
    have e : l = [] ∧ cap = 0 := by
      rcases hR with ⟨_, h1, h2⟩ | ⟨b, off, h, _⟩
      · exact ⟨h1, h2⟩
      · cases h
    obtain ⟨rfl, rfl⟩ := e
    have hnil := fun w => Lib.run_eql_slice_nil (P := Try.prog) w 22 54 none 0 0 0 0 Try.underlying22
    go_enter Try.func74, Try.ntmps74
    go_wp2
    go_ret
    exact ⟨none, 0, rfl, fun _ => rfl, SlO.nil hS⟩
  | some ad =>
    have HR := Lib.hid hR
    clear hR
    have hnil := fun w => Lib.run_eql_slice_nil (P := Try.prog) w 22 54 (some ad) l.length cap 0 0 Try.underlying22
    have hS1 := SlO.fresh (k := kPt) ([] : List Pnt) hS #[] rfl (by simp)
    go_enter Try.func74, Try.ntmps74
    go_wp2_with (refine wpl_appendR kPt_ok rfl _ _ 22 rfl Try.underlying22 _ _ ([] : List Pnt) rfl hS1 _ _ l rfl HR.out (by simp [kPt]; omega) (by simp; omega) (fun A1 cap1 w1 S1 => ?_))
    go_ret
    exact ⟨A1, cap1, rfl, by simp, S1⟩

set_option maxRecDepth 100000 in
set_option maxHeartbeats 800000 in
/-- slices.SortStableFunc at one point, or none -/
theorem stableTiny (A : Option Addr) (n cap : Nat) (f : Value) (hn : n ≤ 1) (w : World) :
    Calls Try.prog 75 #[.slice A n cap, f] w fun e w' => e = .returned (.tuple #[]) ∧ w' = w := by
  have h1 : (n : Int) ≤ 1 := by omega
  have h2 : ¬ (1 : Int) < n := by omega
  have h3 : ¬ (20 : Int) ≤ n := by omega
  have h4 : ¬ (20 : Int) < n := by omega
  go_enter Try.func75, Try.ntmps75
  go_wp2_with fail
  go_in
  go_wp2_with fail
  refine wp_loop_once ?_
  go_wp2_with fail
  go_in
  go_wp2_with fail
  refine wp_loop_once ?_
  go_wp2_with fail
  go_end0
  go_wp2_with fail
  refine wp_loop_once ?_
  go_wp2_with fail
  trace_state
  go_end0
  go_wp2_with fail
  trace_state
  go_end0
  exact ⟨rfl, rfl⟩
end Go.Proofs

namespace Go.Croft
open Go Go.RowKit Go.Proofs

structure SRoad where
  a : Int
  b : Int
  d : Dist
deriving DecidableEq
def kRoad : Kd SRoad where
  K := 4
  ty := 78
  bytes := 32
  enc x := [.int .i64 x.a, .int .i64 x.b, .int .u64 x.d.hi, .int .u64 x.d.lo]
  len _ := rfl
  one := by intro x v h; simp at h; rcases h with rfl | rfl | rfl | rfl <;> rfl
  pos := by decide
theorem kRoad_ok : KdOk Go.Proofs.Try.prog kRoad := .of (by kernel_rfl) (by decide)
@[go_sem] def SRoad.v (r : SRoad) : Value := .agg #[.int .i64 r.a, .int .i64 r.b, .int .u64 r.d.hi, .int .u64 r.d.lo]
def cmpR (x y : SRoad) : Int := orI [cmpD x.d y.d, cmpI x.a y.a, cmpI x.b y.b]
end Go.Croft

namespace Go.Proofs
open Go.Croft Go.RowKit

set_option maxHeartbeats 400000 in
theorem spanCompare_p (a b : SRoad) : Pure Try.prog 71 #[a.v, b.v] (.int .i64 (cmpR a b)) := by
  intro m w H hS
  unfold SRoad.v
  go_enter Try.func71, Try.ntmps71
  go_wp2
  obtain ⟨m1, l1, b1, S1⟩ := hS.allocf (.cells #[.int .i64 a.a, .int .i64 a.b, .int .u64 a.d.hi, .int .u64 a.d.lo] 78)
  obtain ⟨m2, l2, b2, S2⟩ := S1.allocf (.cells #[.int .i64 b.a, .int .i64 b.b, .int .u64 b.d.hi, .int .u64 b.d.lo] 78)
  replace b1 := l2.blk _ _ b1
  simp only [World.size_alloc] at b2
  generalize (w.alloc (.cells #[.int .i64 a.a, .int .i64 a.b, .int .u64 a.d.hi, .int .u64 a.d.lo] 78)).alloc (.cells #[.int .i64 b.a, .int .i64 b.b, .int .u64 b.d.hi, .int .u64 b.d.lo] 78) = W at *
  generalize w.heap.size = g at *
  have hold : ∀ W', St m2 W' H → St m2 W' H ∧ W'.cell? ⟨g, 0, none⟩ = some (.int .i64 a.a) ∧ W'.cell? ⟨g, 1, none⟩ = some (.int .i64 a.b) ∧ W'.cell? ⟨g, 2, none⟩ = some (.int .u64 a.d.hi) ∧ W'.cell? ⟨g, 3, none⟩ = some (.int .u64 a.d.lo) ∧ W'.cell? ⟨g + 1, 0, none⟩ = some (.int .i64 b.a) ∧ W'.cell? ⟨g + 1, 1, none⟩ = some (.int .i64 b.b) ∧ W'.cell? ⟨g + 1, 2, none⟩ = some (.int .u64 b.d.hi) ∧ W'.cell? ⟨g + 1, 3, none⟩ = some (.int .u64 b.d.lo) :=
    fun W' h => ⟨h, h.cellM b1 0, h.cellM b1 1, h.cellM b1 2, h.cellM b1 3, h.cellM b2 0, h.cellM b2 1, h.cellM b2 2, h.cellM b2 3⟩
  have HOLD := Lib.hid hold
  have HL := Lib.hid (l1.trans l2)
  clear b1 b2 l1 l2 S1 hS hold
  have hs0 := HOLD.out _ S2
  have HC : Hid (Pure Try.prog 106 #[.agg #[.int .u64 a.d.hi, .int .u64 a.d.lo], .agg #[.int .u64 b.d.hi, .int .u64 b.d.lo]] (.int .i64 (cmpD a.d b.d))) := wideCmp_p a.d b.d
  go_region_held3 (fun W' => St m2 W' H ∧ W'.cell? ⟨g, 0, none⟩ = some (.int .i64 a.a) ∧ W'.cell? ⟨g, 1, none⟩ = some (.int .i64 a.b) ∧ W'.cell? ⟨g, 2, none⟩ = some (.int .u64 a.d.hi) ∧ W'.cell? ⟨g, 3, none⟩ = some (.int .u64 a.d.lo) ∧ W'.cell? ⟨g + 1, 0, none⟩ = some (.int .i64 b.a) ∧ W'.cell? ⟨g + 1, 1, none⟩ = some (.int .i64 b.b) ∧ W'.cell? ⟨g + 1, 2, none⟩ = some (.int .u64 b.d.hi) ∧ W'.cell? ⟨g + 1, 3, none⟩ = some (.int .u64 b.d.lo)) (exact HOLD.out _ (by first | assumption | exact And.left (by assumption) | exact St.drew (by assumption) | exact St.drewN (by assumption) _ | exact (St.alloc (by assumption) _).drop | exact (St.alloc (And.left (by assumption)) _).drop))
    (first
      | (go_at_call 106; refine (HC.out.at (m := m2) (H := H) (by exact And.left (by assumption))).mono ?_; rintro e w' ⟨rfl, hS'⟩)
      | (go_at_call 77; refine ((compare_int _ _).at (m := m2) (H := H) (by exact And.left (by assumption))).mono ?_; rintro e w' ⟨rfl, hS'⟩)
      | (go_at_call 105; refine (or_fresh m2 _ H [cmpD a.d b.d, cmpI a.a b.a, cmpI a.b b.b] _ 3 rfl rfl (by simp [maxLen]) (by assumption)).mono ?_; rintro e w' ⟨rfl, hS'⟩))
  go_wp2
  go_ret
  exact ⟨rfl, St.weak (by first | assumption | exact And.left (by assumption)) HL.out⟩

end Go.Proofs

namespace Go.Proofs
open Go.Croft Go.RowKit Go.Sort Go.Shelf

instance : Inhabited SRoad := ⟨⟨0, 0, ⟨0, 0⟩⟩⟩
theorem cmpI_neg (a b : Int) : cmpI a b < 0 ↔ a < b := by unfold cmpI; split <;> (try split) <;> omega
theorem cmpI_zero (a b : Int) : cmpI a b = 0 ↔ a = b := by unfold cmpI; split <;> (try split) <;> omega
theorem orI_neg (x : Int) (l : List Int) : orI (x :: l) < 0 ↔ x < 0 ∨ (x = 0 ∧ orI l < 0) := by
  simp only [orI]; split <;> omega
theorem orI_zero (x : Int) (l : List Int) : orI (x :: l) = 0 ↔ x = 0 ∧ orI l = 0 := by
  simp only [orI]; split <;> omega
theorem cmpD_neg (a b : Dist) : cmpD a b < 0 ↔ a.hi < b.hi ∨ (a.hi = b.hi ∧ a.lo < b.lo) := by
  unfold cmpD; rw [orI_neg, orI_neg, cmpI_neg, cmpI_neg, cmpI_zero]; simp [orI]
theorem cmpD_zero (a b : Dist) : cmpD a b = 0 ↔ a.hi = b.hi ∧ a.lo = b.lo := by
  unfold cmpD; rw [orI_zero, orI_zero, cmpI_zero, cmpI_zero]; simp [orI]
theorem cmpR_neg (x y : SRoad) : cmpR x y < 0 ↔ (x.d.hi < y.d.hi ∨ (x.d.hi = y.d.hi ∧ x.d.lo < y.d.lo)) ∨ ((x.d.hi = y.d.hi ∧ x.d.lo = y.d.lo) ∧ (x.a < y.a ∨ (x.a = y.a ∧ x.b < y.b))) := by
  unfold cmpR; rw [orI_neg, orI_neg, orI_neg, cmpD_neg, cmpD_zero, cmpI_neg, cmpI_neg, cmpI_zero]; simp [orI]
theorem swoR : SWO (ltOf cmpR) where
  irrefl x := by simp only [ltOf, decide_eq_false_iff_not, cmpR_neg]; omega
  trans x y z h1 h2 := by simp only [ltOf, decide_eq_true_eq, cmpR_neg] at *; omega
  ntrans x y z h1 h2 := by simp only [ltOf, decide_eq_false_iff_not, cmpR_neg] at *; omega

theorem sortRoad_c (m : Mem) (w : World) (F : HP) (A : Option Addr) (cap : Nat) (l : List SRoad) (hS : St m w (star (SlO kRoad A cap l) F)) (hl : l.length ≤ 1000000000) :
    Calls Try.prog 70 #[.slice A l.length cap, .func (.func 71) #[] #[]] w fun e w' => e = .returned (.tuple #[]) ∧ ∃ l', l'.Perm l ∧ St m w' (star (SlO kRoad A cap l') F) := by
  rcases SlO.open hS with ⟨rfl, rfl, rfl, hF⟩ | ⟨b, off, cs, rfl, h2, h3, h4, h5, h6⟩
  · have HL := fun w => @Try.bits_Len 0 w (by omega) (by omega)
    have HF := Lib.hid hF
    clear hS hF
    go_enter Try.func70, Try.ntmps70
    go_wp2_with ((with_reducible refine (HL _).mono ?_); rintro e w' ⟨rfl, rfl⟩)
    go_in
    go_wp2_with fail
    refine wp_loop_once ?_
    go_wp2_with fail
    go_in
    go_wp2_with fail
    refine wp_loop_once ?_
    go_wp2_with fail
    go_end0
    go_wp2_with fail
    refine bodyPost_ret (results_none rfl _ _ _) rfl ?_
    go_wp2_with fail
    go_end0
    exact ⟨rfl, [], .refl _, SlO.nil HF.out⟩
  · have eg : ∀ args w, (callFunc 71 args).run Try.prog w = .ok (.enter 71 args) w := enters_of Try.func71 (by kernel_rfl) rfl
    have hcon := AnyQ.slices_SortFunc Try.sortRoad kRoad.K Try.isAgg78 Try.sizeOf78 kRoad.enc kRoad.len kRoad.one cmpR swoR 71 #[] b off cap l.toArray w eg
      (CmpLays.of_pure (k := kRoad) (fun x y => spanCompare_p x y) b off _ w) (holdsK_of h6 h5) h6.lt (by simp; omega)
    change Calls Try.prog 70 _ _ _ at hcon
    simp only [List.size_toArray] at hcon
    refine hcon.mono ?_
    rintro e w' ⟨rfl, d, n, os, hp, _, rfl⟩
    have hp' := PermIn.perm (d := l.toArray) (by simpa using hp)
    simp only at hp'
    refine ⟨rfl, d.toList, hp', h6.sorted h2 h3 h4 n d ?_ os⟩
    have := hp'.length_eq; simpa using this
end Go.Proofs

namespace Go.Proofs
open Go.Croft Go.RowKit Go.Sort Go.Shelf

def partP (p : Pnt) (d : Nat) : Nat := if d % 2 = 1 then p.y else p.x
def cmpK (d : Nat) (a b : Pnt) : Int := orI [cmpI (partP a d) (partP b d), cmpI a.id b.id]

theorem and_one (d : Nat) (hd : d ≤ 1000000) : bits .and .i64 (d : Int) 1 = ((d % 2 : Nat) : Int) := by
  have h := bits_mask .i64 62 (by decide) (fun n h0 h1 => i64_keep n (by omega) (by omega)) 1 (by decide) (d : Int) (by omega) (by omega)
  simpa using h

set_option maxRecDepth 100000 in
theorem part_c (p : Pnt) (d : Nat) (hd : d ≤ 1000000) : Pure Try.prog 94 #[p.v, .int .i64 d] (.int .u32 (partP p d)) := by
  intro m w H hS
  unfold Pnt.v
  by_cases hp : d % 2 = 1
  · have h1 : bits .and .i64 (d : Int) 1 = 1 := by rw [and_one d hd, hp]; rfl
    clear hd
    go_enter Try.func94, Try.ntmps94
    go_wp2_with fail
    go_ret
    exact ⟨by simp [partP, hp], (hS.alloc _).drop⟩
  · have h1 : bits .and .i64 (d : Int) 1 = 0 := by rw [and_one d hd, show d % 2 = 0 by omega]; rfl
    clear hd
    go_enter Try.func94, Try.ntmps94
    go_wp2_with fail
    go_ret
    exact ⟨by simp [partP, hp], (hS.alloc _).drop⟩

theorem compare_u32 (a b : Nat) : Pure Try.prog 118 #[.int .u32 a, .int .u32 b] (.int .i64 (cmpI a b)) := .of_same fun w => by
  have hn : ∀ (x : Int) (w : World), Calls Try.prog 156 #[.int .u32 x] w fun e w' => e = .returned (.bool false) ∧ w' = w := fun x w => by
    go_enter Try.func156, Try.ntmps156
    go_wp2
    go_ret; exact ⟨rfl, rfl⟩
  go_enter Try.func118, Try.ntmps118
  go_wp2_with ((with_reducible refine (hn _ _).mono ?_); rintro e w' ⟨rfl, rfl⟩)
  all_goals (go_ret; exact ⟨by simp [cmpI]; omega, rfl⟩)

set_option maxRecDepth 100000 in
set_option maxHeartbeats 800000 in
/-- the closure that by makes -/
theorem by_c (d : Nat) (hd : d ≤ 1000000) (c : Nat) (fr : Nat × Nat) (a b : Pnt) (m : Mem) (w : World) (H : HP) (hb : m.blk c = some (.cells #[.int .i64 d] 3 fr)) (hS : St m w H) :
    Calls Try.prog 117 #[a.v, b.v, .pointer (some ⟨c, 0, none⟩)] w fun e w' => e = .returned (.int .i64 (cmpK d a b)) ∧ St m w' H := by
  unfold Pnt.v
  have hcm := Lib.hid hb
  obtain ⟨m1, l1, b1, S1⟩ := hS.allocf (.cells #[.int .i64 a.id, .int .u32 a.x, .int .u32 a.y, .string a.data] 54)
  obtain ⟨m2, l2, b2, S2⟩ := S1.allocf (.cells #[.int .i64 b.id, .int .u32 b.x, .int .u32 b.y, .string b.data] 54)
  replace b1 := l2.blk _ _ b1
  simp only [World.size_alloc] at b2
  have hc1 := S2.cellM ((l1.trans l2).blk _ _ hb) 0
  by_cases hp : d % 2 = 1
  · have h1 : bits .and .i64 (d : Int) 1 = 1 := by rw [and_one d hd, hp]; rfl
    clear hd hcm
    go_enter Try.func117, Try.ntmps117
    go_wp2_with fail
    generalize (w.alloc (.cells #[.int .i64 a.id, .int .u32 a.x, .int .u32 a.y, .string a.data] 54)).alloc (.cells #[.int .i64 b.id, .int .u32 b.x, .int .u32 b.y, .string b.data] 54) = W at *
    generalize w.heap.size = g at *
    have hold : ∀ W', St m2 W' H → St m2 W' H ∧ W'.cell? ⟨g, 0, none⟩ = some (.int .i64 a.id) ∧ W'.cell? ⟨g, 2, none⟩ = some (.int .u32 a.y) ∧ W'.cell? ⟨g + 1, 0, none⟩ = some (.int .i64 b.id) ∧ W'.cell? ⟨g + 1, 2, none⟩ = some (.int .u32 b.y) :=
      fun W' h => ⟨h, h.cellM b1 0, h.cellM b1 2, h.cellM b2 0, h.cellM b2 2⟩
    have HOLD := Lib.hid hold
    have HL := Lib.hid (l1.trans l2)
    clear b1 b2 l1 l2 S1 hS hold hc1 hb
    have hs0 := HOLD.out _ S2
    go_region_held3 (fun W' => St m2 W' H ∧ W'.cell? ⟨g, 0, none⟩ = some (.int .i64 a.id) ∧ W'.cell? ⟨g, 2, none⟩ = some (.int .u32 a.y) ∧ W'.cell? ⟨g + 1, 0, none⟩ = some (.int .i64 b.id) ∧ W'.cell? ⟨g + 1, 2, none⟩ = some (.int .u32 b.y)) (exact HOLD.out _ (by first | assumption | exact And.left (by assumption) | exact St.drew (by assumption) | exact St.drewN (by assumption) _ | exact (St.alloc (by assumption) _).drop | exact (St.alloc (And.left (by assumption)) _).drop))
      (first
        | (go_at_call 118; refine ((compare_u32 _ _).at (m := m2) (H := H) (by exact And.left (by assumption))).mono ?_; rintro e w' ⟨rfl, hS'⟩)
        | (go_at_call 77; refine ((compare_int _ _).at (m := m2) (H := H) (by exact And.left (by assumption))).mono ?_; rintro e w' ⟨rfl, hS'⟩)
        | (go_at_call 105; refine (or_fresh m2 _ H [cmpI a.y b.y, cmpI a.id b.id] _ 2 rfl rfl (by simp [maxLen]) (by assumption)).mono ?_; rintro e w' ⟨rfl, hS'⟩))
    go_wp2
    go_ret
    exact ⟨by simp [cmpK, partP, hp], St.weak (by first | assumption | exact And.left (by assumption)) HL.out⟩
  · have h1 : bits .and .i64 (d : Int) 1 = 0 := by rw [and_one d hd, show d % 2 = 0 by omega]; rfl
    have hp0 : d % 2 = 0 := by omega
    clear hd hcm hp
    go_enter Try.func117, Try.ntmps117
    go_wp2_with fail
    generalize (w.alloc (.cells #[.int .i64 a.id, .int .u32 a.x, .int .u32 a.y, .string a.data] 54)).alloc (.cells #[.int .i64 b.id, .int .u32 b.x, .int .u32 b.y, .string b.data] 54) = W at *
    generalize w.heap.size = g at *
    have hold : ∀ W', St m2 W' H → St m2 W' H ∧ W'.cell? ⟨g, 0, none⟩ = some (.int .i64 a.id) ∧ W'.cell? ⟨g, 1, none⟩ = some (.int .u32 a.x) ∧ W'.cell? ⟨g + 1, 0, none⟩ = some (.int .i64 b.id) ∧ W'.cell? ⟨g + 1, 1, none⟩ = some (.int .u32 b.x) :=
      fun W' h => ⟨h, h.cellM b1 0, h.cellM b1 1, h.cellM b2 0, h.cellM b2 1⟩
    have HOLD := Lib.hid hold
    have HL := Lib.hid (l1.trans l2)
    clear b1 b2 l1 l2 S1 hS hold hc1 hb
    have hs0 := HOLD.out _ S2
    go_region_held3 (fun W' => St m2 W' H ∧ W'.cell? ⟨g, 0, none⟩ = some (.int .i64 a.id) ∧ W'.cell? ⟨g, 1, none⟩ = some (.int .u32 a.x) ∧ W'.cell? ⟨g + 1, 0, none⟩ = some (.int .i64 b.id) ∧ W'.cell? ⟨g + 1, 1, none⟩ = some (.int .u32 b.x)) (exact HOLD.out _ (by first | assumption | exact And.left (by assumption) | exact St.drew (by assumption) | exact St.drewN (by assumption) _ | exact (St.alloc (by assumption) _).drop | exact (St.alloc (And.left (by assumption)) _).drop))
      (first
        | (go_at_call 118; refine ((compare_u32 _ _).at (m := m2) (H := H) (by exact And.left (by assumption))).mono ?_; rintro e w' ⟨rfl, hS'⟩)
        | (go_at_call 77; refine ((compare_int _ _).at (m := m2) (H := H) (by exact And.left (by assumption))).mono ?_; rintro e w' ⟨rfl, hS'⟩)
        | (go_at_call 105; refine (or_fresh m2 _ H [cmpI a.x b.x, cmpI a.id b.id] _ 2 rfl rfl (by simp [maxLen]) (by assumption)).mono ?_; rintro e w' ⟨rfl, hS'⟩))
    go_wp2
    go_ret
    exact ⟨by simp [cmpK, partP, hp0], St.weak (by first | assumption | exact And.left (by assumption)) HL.out⟩
end Go.Proofs

namespace Go.Croft
open Go Go.RowKit Go.Sort Go.Proofs
variable {P : Program}

/-- A call that answers v in the memory of its world leaves the world as it was, but for draws and new blocks. -/
theorem grown_at {f : FuncId} {args : Array Value} {v : Value} (w : World) (h : ∀ m, (∀ b, m.blk b = w.heap[b]?) → St m w emp → Calls P f args w fun e w' => e = .returned v ∧ St m w' emp) :
    Calls P f args w fun e w' => e = .returned v ∧ ∃ q os', w' = Go.Sort.grow (w.drewN q) os' := by
  have hS : St { os := w.os, tape := w.tape, output := w.output, lo := w.drawn, blk := fun b => w.heap[b]? } w emp :=
    ⟨rfl, rfl, rfl, Nat.le_refl _, fun _ _ e => e, ⟨fun _ => none, ⟨(fun _ _ e => nomatch e), fun _ => rfl⟩⟩⟩
  refine (h _ (fun _ => rfl) hS).mono fun e w' ⟨he, hS'⟩ => ⟨he, w'.drawn - w.drawn, (w'.heap.toList.drop w.heap.size).toArray, ?_⟩
  have h1 := hS'.os; have h2 := hS'.tape; have h3 := hS'.output; have h4 := hS'.lo; have h5 := hS'.mem
  simp only at h1 h2 h3 h4 h5
  cases w' with
  | mk heap tape drawn os output =>
    simp only [Go.Sort.grow, World.drewN] at *
    subst h1 h2 h3
    congr 1
    · apply Array.ext_getElem?
      intro i
      by_cases hi : i < w.heap.size
      · rw [Array.getElem?_append_left hi]
        exact h5 i _ (Array.getElem?_eq_getElem hi) |>.trans (Array.getElem?_eq_getElem hi).symm
      · rw [Array.getElem?_append_right (by omega)]
        simp only [List.getElem?_toArray, List.getElem?_drop, Array.getElem?_toList]
        congr 1; omega
    · omega

theorem sortedIn_pairwise {α : Type} [Inhabited α] {lt : α → α → Bool} {d : Array α} (h : SortedIn lt 0 d.size d) : d.toList.Pairwise fun x y => lt y x = false := by
  rw [List.pairwise_iff_getElem]
  intro i j hi hj hij
  have hi' : i < d.size := by simpa using hi
  have hj' : j < d.size := by simpa using hj
  have := h i j (Nat.zero_le _) hij hj'
  rw [getElem!_pos d j hj', getElem!_pos d i hi'] at this
  simpa using this
end Go.Croft
namespace Go.Proofs
open Go.Croft Go.RowKit Go.Sort Go.Shelf
theorem cmpK_neg (d : Nat) (x y : Pnt) : cmpK d x y < 0 ↔ (partP x d < partP y d ∨ (partP x d = partP y d ∧ x.id < y.id)) := by
  unfold cmpK; rw [orI_neg, orI_neg, cmpI_neg, cmpI_zero, cmpI_neg]; simp [orI]; omega
theorem swoK (d : Nat) : SWO (ltOf (cmpK d)) where
  irrefl x := by simp only [ltOf, decide_eq_false_iff_not, cmpK_neg]; omega
  trans x y z h1 h2 := by simp only [ltOf, decide_eq_true_eq, cmpK_neg] at *; omega
  ntrans x y z h1 h2 := by simp only [ltOf, decide_eq_false_iff_not, cmpK_neg] at *; omega

set_option maxRecDepth 100000 in
theorem sortKd_c (m : Mem) (w : World) (F : HP) (A : Option Addr) (cap : Nat) (l : List Pnt) (d c : Nat) (hd : d ≤ 1000000) (fr : Nat × Nat) (hb : m.blk c = some (.cells #[.int .i64 d] 3 fr)) (hS : St m w (star (SlO kPt A cap l) F)) (h0 : 0 < l.length) (hl : l.length ≤ 1000000000) :
    Calls Try.prog 91 #[.slice A l.length cap, .func (.func 117) #[] #[.pointer (some ⟨c, 0, none⟩)]] w fun e w' => e = .returned (.tuple #[]) ∧ ∃ l', l'.Perm l ∧ l'.Pairwise (fun x y => ¬ cmpK d y x < 0) ∧ St m w' (star (SlO kPt A cap l') F) := by
  rcases SlO.open hS with ⟨rfl, rfl, rfl, hF⟩ | ⟨b, off, cs, rfl, h2, h3, h4, h5, h6⟩
  · simp at h0
  · have eg : ∀ args w, (callFunc 117 args).run Try.prog w = .ok (.enter 117 args) w := enters_of Try.func117 (by kernel_rfl) rfl
    have hcmp : CmpLays Try.prog 117 #[.pointer (some ⟨c, 0, none⟩)] kPt.enc kPt.K (cmpK d) b off l.toArray.size w := by
      intro n os dk hdk x y
      have hW := h6.sorted h2 h3 h4 n dk (by simpa using hdk) os
      refine grown_at _ fun m' hm' hS' => ?_
      refine (by_c d hd c fr x y m' _ emp ?_ hS').mono fun e w' h => h
      rw [hm']; exact hW.mem _ _ hb
    have hcon := AnyQ.slices_SortFunc Try.sortPt kPt.K Try.isAgg54 Try.sizeOf54 kPt.enc kPt.len kPt.one (cmpK d) (swoK d) 117 #[.pointer (some ⟨c, 0, none⟩)] b off cap l.toArray w eg
      hcmp (holdsK_of h6 h5) h6.lt (by simp; omega)
    change Calls Try.prog 91 _ _ _ at hcon
    simp only [List.size_toArray] at hcon
    refine hcon.mono ?_
    rintro e w' ⟨rfl, d', n, os, hp, hs, rfl⟩
    have hp' := PermIn.perm (d := l.toArray) (by simpa using hp)
    simp only at hp'
    have hsz : d'.size = l.length := by have := hp'.length_eq; simpa using this
    refine ⟨rfl, d'.toList, hp', ?_, h6.sorted h2 h3 h4 n d' hsz os⟩
    rw [← hsz] at hs
    refine (sortedIn_pairwise hs).imp fun h => ?_
    simpa [ltOf] using h
end Go.Proofs

namespace Go.Proofs
open Go.Croft Go.RowKit Go.Sort Go.Shelf

/-- a tree as memory holds it: none; one that nobody made; a node -/
inductive Kt where
  | nil
  | blank
  | node (p : Pnt) (l r : Kt)
def Kt.is : Kt → Bool | .node .. => true | _ => false
def Kt.depth : Kt → Nat | .node _ l r => 1 + max l.depth r.depth | _ => 0
def KtR (m : Mem) : Kt → Option Addr → Prop
  | .nil, v => v = none
  | .blank, v => ∃ b fr, v = some ⟨b, 0, none⟩ ∧ m.blk b = some (.cells #[.bool false, .int .i64 0, .int .u32 0, .int .u32 0, .string ⟨#[]⟩, .pointer none, .pointer none] 56 fr)
  | .node p l r, v => ∃ b vl vr fr, v = some ⟨b, 0, none⟩ ∧ m.blk b = some (.cells #[.bool true, .int .i64 p.id, .int .u32 p.x, .int .u32 p.y, .string p.data, .pointer vl, .pointer vr] 56 fr) ∧ KtR m l vl ∧ KtR m r vr
theorem KtR.mono {m m' : Mem} (h : m.le m') : ∀ {t : Kt} {v : Option Addr}, KtR m t v → KtR m' t v
  | .nil, _, k => k
  | .blank, _, ⟨b, fr, e, k⟩ => ⟨b, fr, e, h.blk _ _ k⟩
  | .node _ _ _, _, ⟨b, vl, vr, fr, e, k, k1, k2⟩ => ⟨b, vl, vr, fr, e, h.blk _ _ k, k1.mono h, k2.mono h⟩

theorem kdIs_c (m : Mem) (w : World) (F : HP) (t : Kt) (v : Option Addr) (hT : KtR m t v) (hS : St m w F) :
    Calls Try.prog 64 #[.pointer v] w fun e w' => e = .returned (.bool t.is) ∧ w' = w := by
  match t, hT with
  | .nil, h =>
    subst h
    go_enter Try.func64, Try.ntmps64
    go_wp2
    go_ret; exact ⟨rfl, rfl⟩
  | .blank, ⟨b, fr, e, k⟩ =>
    subst e
    have c0 := hS.cellM k 0
    clear k
    go_enter Try.func64, Try.ntmps64
    go_wp2
    go_ret; exact ⟨rfl, rfl⟩
  | .node p l r, ⟨b, vl, vr, fr, e, k, _, _⟩ =>
    subst e
    have c0 := hS.cellM k 0
    clear k
    go_enter Try.func64, Try.ntmps64
    go_wp2
    go_ret; exact ⟨rfl, rfl⟩

/-- how the points of a list may stand in a tree -/
inductive Halved : Nat → List Pnt → Kt → Prop where
  | nil (d : Nat) : Halved d [] .nil
  | node (d : Nat) (l s1 s2 : List Pnt) (p : Pnt) (L R : Kt) : (s1 ++ p :: s2).Perm l → (∀ a ∈ s1, ¬ cmpK d p a < 0) → (∀ b ∈ s2, ¬ cmpK d b p < 0) → Halved (d + 1) s1 L → Halved (d + 1) s2 R → Halved d l (.node p L R)

theorem pw_split {α : Type} {R : α → α → Prop} {s : List α} (h : s.Pairwise R) {k : Nat} (hk : k < s.length) : (∀ a ∈ s.take k, R a s[k]) ∧ ∀ b ∈ s.drop (k + 1), R s[k] b := by
  have e : s.take k ++ s[k] :: s.drop (k + 1) = s := by simp
  have h' : (s.take k ++ s[k] :: s.drop (k + 1)).Pairwise R := by rw [e]; exact h
  rw [List.pairwise_append, List.pairwise_cons] at h'
  exact ⟨fun a ha => h'.2.2 a ha s[k] List.mem_cons_self, h'.2.1.1⟩
theorem kdMakeBy_c (m : Mem) (w : World) (F : HP) (d : Nat) (hS : St m w F) :
    Calls Try.prog 92 #[.int .i64 d] w fun e w' => ∃ c m' fr, e = .returned (.func (.func 117) #[] #[.pointer (some ⟨c, 0, none⟩)]) ∧ m.le m' ∧ m'.blk c = some (.cells #[.int .i64 d] 3 fr) ∧ St m' w' F := by
  obtain ⟨m1, l1, b1, S1⟩ := hS.allocf (.cells #[.int .i64 d] 3)
  go_enter Try.func92, Try.ntmps92
  go_wp2
  go_ret
  exact ⟨_, m1, _, rfl, l1, b1, S1⟩

set_option maxRecDepth 100000 in
set_option maxHeartbeats 1000000 in
theorem kdGrow_c (n : Nat) : ∀ (m : Mem) (w : World) (F : HP) (A : Option Addr) (cap : Nat) (l : List Pnt) (d : Nat), l.length ≤ n → d + l.length ≤ 1000 → SlR kPt m A cap l → St m w F →
    Calls Try.prog 56 #[.slice A l.length cap, .int .i64 d] w fun e w' => ∃ m' v t, e = .returned (.pointer v) ∧ m.le m' ∧ KtR m' t v ∧ Halved d l t ∧ St m' w' F := by
  induction n with
  | zero =>
    intro m w F A cap l d hl hd hR hS
    obtain rfl : l = [] := List.eq_nil_of_length_eq_zero (by omega)
    go_enter Try.func56, Try.ntmps56
    go_wp2
    go_ret
    exact ⟨m, _, .nil, rfl, .refl _, rfl, .nil _, hS⟩
  | succ n ih =>
    intro m w F A cap l d hl hd hR hS
    by_cases h0 : l.length = 0
    · obtain rfl : l = [] := List.eq_nil_of_length_eq_zero h0
      go_enter Try.func56, Try.ntmps56
      go_wp2
      go_ret
      exact ⟨m, _, .nil, rfl, .refl _, rfl, .nil _, hS⟩
    · have hz : ((l.length : Int) == 0) = false := beq_eq_false_iff_ne.2 (by omega)
      have HR := Lib.hid hR
      clear hR
      go_enter Try.func56, Try.ntmps56
      go_wp2_with (first
        | (go_at_call 74; refine (clonePt_c m w F A cap l (by omega) HR.out hS).mono ?_; rintro e w1 ⟨A1, cap1, rfl, _, S1⟩; clear hS)
        | (go_at_call 92; refine (kdMakeBy_c m w1 _ d S1).mono ?_; rintro e w2 ⟨c, m2, fr, rfl, l2, b2, S2⟩; clear S1)
        | (go_at_call 91; refine (sortKd_c m2 w2 F A1 cap1 l d c (by omega) fr b2 S2 (by omega) (by omega)).mono ?_; rintro e w3 ⟨rfl, s, hp, hs, S3⟩; clear S2 b2))
      have hln := hp.length_eq
      rw [← hln]
      rw [← hln] at hd hl h0
      have e : ((s.length : Int) / 2) = ((s.length / 2 : Nat) : Int) := by omega
      rw [e]
      have hk2 : s.length / 2 < s.length := by omega
      generalize s.length / 2 = k at hk2 ⊢
      obtain ⟨m3, l3, S4, R4⟩ := SlO.freeze S3
      have hcp := R4.le_cap
      have hcm := R4.le_max
      obtain ⟨b, off, rfl, hc⟩ := R4.at S4 hk2
      have hs1 := fun w => run_slice_to (P := Try.prog) kPt_ok 22 Try.underlying22 (some ⟨b, off, none⟩) s.length cap1 k .i64 (by omega) hcp w
      have hs2 := fun w => run_slice_from (P := Try.prog) kPt_ok 22 Try.underlying22 (some ⟨b, off, none⟩) s.length cap1 (k + 1) ((k : Int) + 1) (by simp) .i64 (by omega) hcp w
      have R5 := R4.cut 0 k (by omega) (by omega)
      have R6 := R4.cut (k + 1) s.length (by omega) (by omega)
      have g1 : (s.take k).drop 0 = s.take k := by simp
      have g2 : (s.take s.length).drop (k + 1) = s.drop (k + 1) := by simp
      rw [g1, Nat.sub_zero] at R5
      rw [g2] at R6
      have n1 : (s.take k).length = k := by simp; omega
      have n2 : (s.drop (k + 1)).length = s.length - (k + 1) := by simp
      have hsplit : s = s.take k ++ s[k] :: s.drop (k + 1) := by simp
      generalize sliceAddr (some ⟨b, off, none⟩) cap1 0 kPt.K = A5 at hs1 R5
      generalize sliceAddr (some ⟨b, off, none⟩) cap1 (k + 1) kPt.K = A6 at hs2 R6
      have HSP := Lib.hid hsplit
      clear hsplit
      have HS := Lib.hid hs
      have HR5 := Lib.hid R5
      have HR6 := Lib.hid R6
      have HL := Lib.hid (l2.trans l3)
      have HP := Lib.hid hp
      have hold : ∀ m' W' H', m3.le m' → St m' W' H' → W'.cell? ⟨b, off + k * 4, none⟩ = some (.int .i64 s[k].id) ∧ W'.cell? ⟨b, off + k * 4 + 1, none⟩ = some (.int .u32 s[k].x) ∧ W'.cell? ⟨b, off + k * 4 + 2, none⟩ = some (.int .u32 s[k].y) ∧ W'.cell? ⟨b, off + k * 4 + 3, none⟩ = some (.string s[k].data) := fun m' W' H' hm hS' => by
        obtain ⟨b', off', e', hc'⟩ := (R4.mono hm).at hS' hk2
        cases e'
        have c0 := hc' 0 _ rfl
        have c1 := hc' 1 _ rfl
        have c2 := hc' 2 _ rfl
        have c3 := hc' 3 _ rfl
        simp only [kPt, Nat.add_zero] at c0 c1 c2 c3
        exact ⟨c0, c1, c2, c3⟩
      have HOLD := Lib.hid hold
      have hs0 := HOLD.out _ _ _ (.refl _) S4
      have k0 : (0 : Int) ≤ k := by omega
      have k1 : (k : Int) < s.length := by omega
      have k2 : IntKind.i64.wrap ((k : Int) + 1) = (k : Int) + 1 := i64_keep _ (by omega) (by omega)
      have k3 : IntKind.i64.wrap ((d : Int) + 1) = (d : Int) + 1 := i64_keep _ (by omega) (by omega)
      have dc : ((d + 1 : Nat) : Int) = (d : Int) + 1 := by simp
      have Q1 := Lib.hid fun W' (hS' : St m3 W' F) => ih m3 W' F A5 cap1 (s.take k) (d + 1) (by omega) (by omega) R5 hS'
      have Q2 := Lib.hid fun m4 W' (hm : m3.le m4) (hS' : St m4 W' F) => ih m4 W' F A6 (cap1 - (k + 1)) (s.drop (k + 1)) (d + 1) (by omega) (by omega) (R6.mono hm) hS'
      simp only [n1, n2, dc] at Q1 Q2
      have L0 := Mem.le.refl m3
      clear ih hold hc R4 R5 R6 hs hp l2 l3 S3 hcm hln e g1 g2 dc n1 n2 HR5 HR6
      go_region_held3 (fun W' => W'.cell? ⟨b, off + k * 4, none⟩ = some (.int .i64 s[k].id) ∧ W'.cell? ⟨b, off + k * 4 + 1, none⟩ = some (.int .u32 s[k].x) ∧ W'.cell? ⟨b, off + k * 4 + 2, none⟩ = some (.int .u32 s[k].y) ∧ W'.cell? ⟨b, off + k * 4 + 3, none⟩ = some (.string s[k].data))
        (first | exact HOLD.out _ _ _ (by assumption) (by assumption) | exact HOLD.out _ _ _ (by assumption) (St.drew (by assumption)) | exact HOLD.out _ _ _ (by assumption) (St.alloc (by assumption) _).drop)
        (first
          | (go_at_call 56; with_reducible refine (Q1.out _ (by first | exact S4 | exact S4.drew | exact S4.drewN _)).mono ?_; rintro e w4 ⟨m4, v1, t1, rfl, l4, K1, D1, S5⟩)
          | (go_at_call 56; with_reducible refine (Q2.out m4 _ l4 (by first | exact S5 | exact S5.drew | exact S5.drewN _)).mono ?_; rintro e w5 ⟨m5, v2, t2, rfl, l5, K2, D2, S6⟩; have l6 := l4.trans l5))
      obtain ⟨m6, l7, b7, S7⟩ := S6.allocf (.cells #[.bool true, .int .i64 s[k].id, .int .u32 s[k].x, .int .u32 s[k].y, .string s[k].data, .pointer v1, .pointer v2] 56)
      go_wp2
      go_ret
      obtain ⟨hlr, hr⟩ := pw_split HS.out hk2
      refine ⟨m6, _, .node s[k] t1 t2, rfl, HL.out.trans (l6.trans l7), ⟨_, v1, v2, _, rfl, b7, K1.mono (l5.trans l7), K2.mono l7⟩, Halved.node d l (s.take k) (s.drop (k + 1)) s[k] t1 t2 ?_ ?_ ?_ D1 D2, S7⟩
      · rw [← HSP.out]; exact HP.out
      · intro a ha; have := hlr a ha; omega
      · intro b hb; have := hr b hb; omega
end Go.Proofs

namespace Go.Proofs
open Go.Croft Go.RowKit Go.Sort Go.Shelf

set_option maxRecDepth 100000 in
/-- point.Sort of one point, or of none -/
theorem pointSort1_c (m : Mem) (w : World) (F : HP) (A : Option Addr) (cap : Nat) (l : List Pnt) (hl : l.length ≤ 1) (hR : SlR kPt m A cap l) (hS : St m w F) :
    Calls Try.prog 44 #[.slice A l.length cap] w fun e w' => ∃ A' cap', e = .returned (.slice A' l.length cap') ∧ (A = none → A' = none) ∧ St m w' (star (SlO kPt A' cap' l) F) := by
  go_enter Try.func44, Try.ntmps44
  go_wp2_with (first
    | (go_at_call 74; refine (clonePt_c m w F A cap l (by omega) hR hS).mono ?_; rintro e w1 ⟨A1, cap1, rfl, hn, S1⟩; clear hR hS)
    | (go_at_call 75; refine (stableTiny A1 l.length cap1 _ hl w1).mono ?_; rintro e w2 ⟨rfl, rfl⟩))
  go_ret
  exact ⟨A1, cap1, rfl, hn, S1⟩

set_option maxRecDepth 100000 in
/-- kdtree.New of one point, or of none -/
theorem kdNew1_c (m : Mem) (w : World) (F : HP) (A : Option Addr) (cap : Nat) (l : List Pnt) (hl : l.length ≤ 1) (hR : SlR kPt m A cap l) (hS : St m w F) :
    Calls Try.prog 22 #[.slice A l.length cap] w fun e w' => ∃ m' v t, e = .returned (.pointer v) ∧ m.le m' ∧ KtR m' t v ∧ Halved 0 l t ∧ St m' w' F := by
  have hc : ∀ (A : Option Addr) (cap : Nat) (f : Value) (w : World), Calls Try.prog 57 #[.slice A l.length cap, f] w fun e w' => e = .returned (.slice A l.length cap) ∧ w' = w := fun A cap f w => by
    have h1 : (l.length : Int) < 2 := by omega
    go_enter Try.func57, Try.ntmps57
    go_wp2
    go_ret
    exact ⟨rfl, rfl⟩
  have HC := Lib.hid hc
  clear hc
  go_enter Try.func22, Try.ntmps22
  go_wp2_with (first
    | (go_at_call 44; refine (pointSort1_c m w F A cap l hl hR hS).mono ?_; rintro e w1 ⟨A1, cap1, rfl, hn, S1⟩; obtain ⟨m2, l2, S2, R2⟩ := SlO.freeze S1; clear hR hS S1)
    | (go_at_call 57; refine (HC.out _ _ _ _).mono ?_; rintro e w2 ⟨rfl, rfl⟩)
    | (go_at_call 56; refine (kdGrow_c 1 m2 _ F A1 cap1 l 0 hl (by omega) R2 S2).mono ?_; rintro e w3 ⟨m3, v, t, rfl, l3, K, D, S3⟩))
  go_ret
  exact ⟨m3, v, t, rfl, l2.trans l3, K, D, S3⟩

set_option maxRecDepth 100000 in
set_option maxHeartbeats 800000 in
theorem kdDepth_c (t : Kt) : ∀ (m : Mem) (w : World) (F : HP) (v : Option Addr), KtR m t v → St m w F → t.depth ≤ 1000 →
    Calls Try.prog 29 #[.pointer v] w fun e w' => e = .returned (.int .i64 t.depth) ∧ St m w' F := by
  induction t with
  | nil =>
    intro m w F v hT hS hd
    go_enter Try.func29, Try.ntmps29
    go_wp2_with (go_at_call 64; refine (kdIs_c m w F .nil v hT hS).mono ?_; rintro e w1 ⟨rfl, rfl⟩; simp only [Kt.is])
    go_ret
    exact ⟨rfl, hS⟩
  | blank =>
    intro m w F v hT hS hd
    go_enter Try.func29, Try.ntmps29
    go_wp2_with (go_at_call 64; refine (kdIs_c m w F .blank v hT hS).mono ?_; rintro e w1 ⟨rfl, rfl⟩; simp only [Kt.is])
    go_ret
    exact ⟨rfl, hS⟩
  | node p l r ihl ihr =>
    intro m w F v hT hS hd
    have HI := Lib.hid fun w hS => kdIs_c m w F (.node p l r) v hT hS
    obtain ⟨b, vl, vr, fr, rfl, hb, hl, hr⟩ := hT
    have hd2 : 1 + max l.depth r.depth ≤ 1000 := hd
    have Q1 := Lib.hid fun w (h : St m w F) => ihl m w F vl hl h (by omega)
    have Q2 := Lib.hid fun w (h : St m w F) => ihr m w F vr hr h (by omega)
    have HOLD := Lib.hid fun (w : World) (h : St m w F) => (⟨h, h.cellM hb 5, h.cellM hb 6⟩ : St m w F ∧ w.cell? ⟨b, 5, none⟩ = some (.pointer vl) ∧ w.cell? ⟨b, 6, none⟩ = some (.pointer vr))
    have hs0 := HOLD.out _ hS
    have hdep : Hid (max (l.depth : Int) (r.depth : Int) = ((max l.depth r.depth : Nat) : Int)) := by simp only [Hid]; omega
    have hw : IntKind.i64.wrap (1 + max (l.depth : Int) (r.depth : Int)) = 1 + max (l.depth : Int) (r.depth : Int) := i64_keep _ (by omega) (by omega)
    clear ihl ihr hl hr hb hd
    go_enter Try.func29, Try.ntmps29
    go_wp2_with (go_at_call 64; refine (HI.out w hS).mono ?_; rintro e w1 ⟨rfl, rfl⟩; simp only [Kt.is])
    go_region_held3 (fun W' => St m W' F ∧ W'.cell? ⟨b, 5, none⟩ = some (.pointer vl) ∧ W'.cell? ⟨b, 6, none⟩ = some (.pointer vr)) (exact HOLD.out _ (by first | assumption | exact And.left (by assumption) | exact St.drew (by assumption) | exact St.drewN (by assumption) _ | exact (St.alloc (by assumption) _).drop | exact (St.alloc (And.left (by assumption)) _).drop))
      (first
        | (go_at_call 29; with_reducible refine (Q1.out _ (by exact And.left (by assumption))).mono ?_; rintro e w' ⟨rfl, hS1⟩)
        | (go_at_call 29; with_reducible refine (Q2.out _ (by first | assumption | exact And.left (by assumption))).mono ?_; rintro e w' ⟨rfl, hS2⟩))
    go_wp2
    go_ret
    exact ⟨by simp [Kt.depth]; omega, by first | assumption | exact And.left (by assumption)⟩

/-- what is no tree: nothing is told of it -/
theorem kdGather0_c (m : Mem) (w : World) (F : HP) (t : Kt) (v : Option Addr) (hT : KtR m t v) (ht : t.is = false) (hS : St m w F) (x0 y0 x1 y1 : Value) (d : Value) :
    Calls Try.prog 59 #[.pointer v, .agg #[x0, y0, x1, y1], d] w fun e w' => e = .returned (.slice none 0 0) ∧ St m w' F := by
  have hi := Lib.hid fun w hS => kdIs_c m w (F) t v hT hS
  go_enter Try.func59, Try.ntmps59
  go_wp2_with (go_at_call 64; refine (hi.out _ (hS.alloc _).drop).mono ?_; rintro e w1 ⟨rfl, rfl⟩)
  go_ret
  exact ⟨rfl, (hS.alloc _).drop⟩

set_option maxRecDepth 100000 in
theorem kdRange0_c (m : Mem) (w : World) (F : HP) (t : Kt) (v : Option Addr) (hT : KtR m t v) (ht : t.is = false) (hS : St m w F) (x0 y0 x1 y1 : Int) :
    Calls Try.prog 24 #[.pointer v, .agg #[.int .u32 x0, .int .u32 y0, .int .u32 x1, .int .u32 y1]] w fun e w' => ∃ A cap, e = .returned (.slice A (([] : List Pnt).length) cap) ∧ St m w' F := by
  go_enter Try.func24, Try.ntmps24
  go_wp2_with (first
    | (go_at_call 59; refine (kdGather0_c m _ F t v hT ht ((hS.alloc _).drop) _ _ _ _ _).mono ?_; rintro e w1 ⟨rfl, S1⟩)
    | (go_at_call 44; refine (pointSort1_c m _ F none 0 [] (by simp) (SlR.nil _ _) S1).mono ?_; rintro e w2 ⟨A1, cap1, rfl, hn, S2⟩; obtain rfl := hn rfl))
  go_ret
  exact ⟨none, cap1, rfl, S2.drop⟩

set_option maxRecDepth 100000 in
theorem kdVisit0_c (m : Mem) (w : World) (F : HP) (t : Kt) (v : Option Addr) (hT : KtR m t v) (ht : t.is = false) (hS : St m w F) (f d : Value) :
    Calls Try.prog 61 #[f, .pointer v, d] w fun e w' => e = .returned (.tuple #[]) ∧ w' = w := by
  go_enter Try.func61, Try.ntmps61
  go_wp2_with (go_at_call 64; refine (kdIs_c m w F t v hT hS).mono ?_; rintro e w1 ⟨rfl, rfl⟩; rw [ht])
  refine bodyPost_ret (results_none rfl _ _ _) rfl ?_
  exact ⟨rfl, rfl⟩

set_option maxRecDepth 100000 in
theorem kdNear0_c (m : Mem) (w : World) (F : HP) (t : Kt) (v : Option Addr) (hT : KtR m t v) (ht : t.is = false) (hS : St m w F) (x y : Int) (k : Int) :
    Calls Try.prog 26 #[.pointer v, .int .u32 x, .int .u32 y, .int .i64 k] w fun e w' => e = .returned (.slice none 0 0) ∧ St m w' F := by
  have HV := Lib.hid fun w (hS : St m w F) => kdVisit0_c m w F t v hT ht hS
  go_enter Try.func26, Try.ntmps26
  go_wp2_with (go_at_call 61; refine (HV.out _ (hS.alloc _).drop _ _).mono ?_; rintro e w1 ⟨rfl, rfl⟩)
  refine wp_loop_once ?_
  go_wp2_with fail
  go_ret
  exact ⟨rfl, (hS.alloc _).drop⟩

set_option maxRecDepth 100000 in
theorem kdOrder0_c (m : Mem) (w : World) (F : HP) (t : Kt) (v : Option Addr) (hT : KtR m t v) (ht : t.is = false) (hS : St m w F) :
    Calls Try.prog 28 #[.pointer v] w fun e w' => e = .returned (.slice none 0 0) ∧ w' = w := by
  go_enter Try.func28, Try.ntmps28
  go_wp2_with (go_at_call 64; refine (kdIs_c m w F t v hT hS).mono ?_; rintro e w1 ⟨rfl, rfl⟩; rw [ht])
  go_ret
  exact ⟨rfl, rfl⟩
end Go.Proofs
