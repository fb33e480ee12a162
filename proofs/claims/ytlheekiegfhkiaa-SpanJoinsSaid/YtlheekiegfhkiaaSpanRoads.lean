/- Contracts of the given program, for the proofs of its statements: text SpanRoads. No conditions beyond those in each theorem. -/
import Derived.Test.YtlheekiegfhkiaaSpanFar2
namespace Go.Proofs
open Go.Croft Go.RowKit

inductive Conn (n : Nat) (l : List SRoad) : Nat → Nat → Prop
  | refl (a : Nat) : Conn n l a a
  | step {a b c : Nat} : Conn n l a b → nextTo n l b c → Conn n l a c
theorem Conn.trans {n : Nat} {l : List SRoad} {a b c : Nat} (h : Conn n l a b) (k : Conn n l b c) : Conn n l a c := by
  induction k with
  | refl => exact h
  | step _ hn ih => exact .step ih hn
theorem Conn.symm {n : Nat} {l : List SRoad} {a b : Nat} (h : Conn n l a b) (ha : a < n) : Conn n l b a := by
  induction h with
  | refl => exact .refl a
  | step h hn ih =>
    rename_i b c
    have hb : b < n := by
      cases h with
      | refl => exact ha
      | step _ hn' => have := nextTo_range hn'; omega
    exact (Conn.step (.refl _) (nextTo_symm hn (by omega) (by omega))).trans ih
theorem nextTo_mono {n : Int} {l l' : List SRoad} (h : ∀ r ∈ l, r ∈ l') {a b : Int} (hn : nextTo n l a b) : nextTo n l' a b := by
  obtain ⟨r, hr, hb⟩ := hn; exact ⟨r, h r hr, hb⟩
theorem Conn.mono {n : Nat} {l l' : List SRoad} (h : ∀ r ∈ l, r ∈ l') {a b : Nat} (hc : Conn n l a b) : Conn n l' a b := by
  induction hc with
  | refl => exact .refl a
  | step _ hn ih => exact .step ih (nextTo_mono h hn)

/-- a road between two places -/
def RoadOk (n : Nat) (r : SRoad) : Prop := ∃ i j : Nat, r.a = i ∧ r.b = j ∧ i < n ∧ j < n
structure Krus (n : Nat) (rs : List SRoad) (k : Nat) (g : List Int) (out : List SRoad) : Prop where
  len : g.length = n
  conn : ∀ i j (hi : i < g.length) (hj : j < g.length), g[i] = g[j] → Conn n out i j
  done : ∀ r ∈ rs.take k, ∀ i j (hi : i < g.length) (hj : j < g.length), r.a = i → r.b = j → g[i] = g[j]
  sub : out.Sublist (rs.take k)
def relab (a b x : Int) : Int := if x = b then a else x
theorem Krus.skip {n : Nat} {rs : List SRoad} {k : Nat} {g : List Int} {out : List SRoad} (h : Krus n rs k g out) (hk : k < rs.length) {i j : Nat} (hi : i < g.length) (hj : j < g.length) (e1 : rs[k].a = i) (e2 : rs[k].b = j) (he : g[i] = g[j]) : Krus n rs (k + 1) g out := by
  refine ⟨h.len, h.conn, fun r hr i' j' hi' hj' a b => ?_, ?_⟩
  · rw [List.take_succ_eq_append_getElem hk, List.mem_append] at hr
    rcases hr with hr | hr
    · exact h.done r hr i' j' hi' hj' a b
    · simp at hr; subst hr
      obtain rfl : i = i' := by omega
      obtain rfl : j = j' := by omega
      exact he
  · rw [List.take_succ_eq_append_getElem hk]; exact h.sub.trans (List.sublist_append_left _ _)
theorem Krus.take {n : Nat} {rs : List SRoad} {k : Nat} {g : List Int} {out : List SRoad} (h : Krus n rs k g out) (hk : k < rs.length) {i j : Nat} (hi : i < g.length) (hj : j < g.length) (e1 : rs[k].a = i) (e2 : rs[k].b = j) : Krus n rs (k + 1) (g.map (relab g[i] g[j])) (out ++ [rs[k]]) := by
  have hn := h.len
  have sub : ∀ r ∈ out, r ∈ out ++ [rs[k]] := fun r hr => List.mem_append_left _ hr
  have hij : Conn n (out ++ [rs[k]]) i j := by
    refine .step (.refl _) ⟨rs[k], by simp, ?_⟩
    unfold bsd
    by_cases e : rs[k].b = i
    · rw [if_pos e, if_pos ⟨by omega, by omega⟩]; simp; omega
    · rw [if_neg e, if_pos ⟨by omega, by omega, by omega⟩]; simp; omega
  have hji := hij.symm (by omega)
  refine ⟨by simpa using hn, fun x y hx hy hxy => ?_, fun r hr x y hx hy a b => ?_, ?_⟩
  · have hx' : x < g.length := by simpa using hx
    have hy' : y < g.length := by simpa using hy
    simp only [List.getElem_map, relab] at hxy
    have C : ∀ p q (hp : p < g.length) (hq : q < g.length), g[p] = g[q] → Conn n (out ++ [rs[k]]) p q := fun p q hp hq e => (h.conn p q hp hq e).mono sub
    by_cases e3 : g[x] = g[j]
    · by_cases e4 : g[y] = g[j]
      · exact C x y hx' hy' (by omega)
      · rw [if_pos e3, if_neg e4] at hxy
        exact ((C x j hx' hj e3).trans hji).trans (C i y hi hy' hxy)
    · by_cases e4 : g[y] = g[j]
      · rw [if_neg e3, if_pos e4] at hxy
        exact ((C x i hx' hi hxy).trans hij).trans (C j y hj hy' e4.symm)
      · rw [if_neg e3, if_neg e4] at hxy; exact C x y hx' hy' hxy
  · have hx' : x < g.length := by simpa using hx
    have hy' : y < g.length := by simpa using hy
    simp only [List.getElem_map]
    rw [List.take_succ_eq_append_getElem hk, List.mem_append] at hr
    rcases hr with hr | hr
    · rw [h.done r hr x y hx' hy' a b]
    · simp at hr; subst hr
      obtain rfl : i = x := by omega
      obtain rfl : j = y := by omega
      simp only [relab]; split <;> simp
  · rw [List.take_succ_eq_append_getElem hk]
    exact h.sub.append (List.Sublist.refl _)
theorem Krus.start (n : Nat) (rs : List SRoad) (g : List Int) (hg : g = (List.range n).map Int.ofNat) : Krus n rs 0 g [] := by
  subst hg
  refine ⟨by simp, fun i j hi hj e => ?_, fun r hr => by simp at hr, by simp⟩
  simp at e; obtain rfl : i = j := by omega
  exact .refl _

theorem mem_pairsTo {l : List Pnt} {i : Nat} {r : SRoad} (h : r ∈ pairsTo l i) : ∃ a b : Nat, a < i ∧ a < b ∧ b < l.length ∧ r = road l a b := by
  unfold pairsTo at h
  simp only [List.mem_flatMap, List.mem_range, rowR, List.mem_map, List.mem_range'_1] at h
  obtain ⟨a, ha, b, hb, rfl⟩ := h
  exact ⟨a, b, ha, by omega, by omega, rfl⟩
theorem road_mem {l : List Pnt} {a b : Nat} (h : a < b) (hb : b < l.length) : road l a b ∈ pairsTo l l.length := by
  unfold pairsTo
  simp only [List.mem_flatMap, List.mem_range, rowR, List.mem_map, List.mem_range'_1]
  exact ⟨a, by omega, b, by omega, rfl⟩
theorem Krus.all {l : List Pnt} {rs : List SRoad} {g : List Int} {out : List SRoad} (h : Krus l.length rs rs.length g out) (hp : rs.Perm (pairsTo l l.length)) (a b : Nat) (ha : a < l.length) (hb : b < l.length) : Conn l.length out a b := by
  have hg := h.len
  have key : ∀ a b : Nat, a < b → (hb : b < l.length) → Conn l.length out a b := fun a b hab hb => by
    refine h.conn a b (by omega) (by omega) (h.done (road l a b) ?_ a b (by omega) (by omega) rfl rfl)
    rw [List.take_length]; exact hp.mem_iff.2 (road_mem hab hb)
  rcases Nat.lt_trichotomy a b with h1 | h1 | h1
  · exact key a b h1 hb
  · subst h1; exact .refl _
  · exact (key b a h1 ha).symm hb
end Go.Proofs
