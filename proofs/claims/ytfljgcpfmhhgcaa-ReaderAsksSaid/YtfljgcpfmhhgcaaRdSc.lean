/- Contracts of the library at ints, on a row of one's own: slices.Compact and slices.Sort (the laying of Compact was printed by the kit's lay-plain; its numbers are this seat's). -/
import Derived.Ground.Names2Prog
import Derived.Shelf.Slices.CompactI
import Derived.Test.YtfljgcpfmhhgcaaRdVa
namespace Go.Proofs.Ytfljgcpfmhhgcaa
open Go.RowKit Go.Lab Go.Maps Go.Sort Go.Shelf
attribute [local go_sem] Oper.semAt_some
def shCompact_ren : Go.Shelf.Ren := ⟨fun | 20 => 77 | n => n, fun | 22 => 22 | 3 => 3 | 4 => 4 | 0 => 0 | n => n, fun | n => n⟩
theorem shCompact : Go.Proofs.Lays2.n20 Try.prog shCompact_ren := {
  mixed := by kernel_rfl
  f20 := Try.func77.trans (congrArg some (by kernel_rfl))
  t0 := Try.underlying0
  a0 := Try.isAgg0
  z0 := Try.sizeOf0
  v0 := Try.zeroValue0
  t3 := Try.underlying3
  a3 := Try.isAgg3
  z3 := Try.sizeOf3
  v3 := Try.zeroValue3
  t4 := Try.underlying4
  a4 := Try.isAgg4
  z4 := Try.sizeOf4
  v4 := Try.zeroValue4
  t22 := Try.underlying22
  a22 := Try.isAgg22
  z22 := Try.sizeOf22
  v22 := Try.zeroValue22
  i3 := by kernel_rfl }
/-- Distinct numbers out of a list in order. -/
def compZ (l : List Int) : List Int := Lib.compact l
theorem compZ_len (l : List Int) : (compZ l).length ≤ l.length := by
  unfold compZ Lib.compact Lib.compactUpTo
  rw [List.length_map]
  exact Nat.le_trans (List.length_filter_le _ _) (by simp)
theorem row_put {w : World} {base g cap n : Nat} {e : TypeId} {cur : Array Value} {ts : List Int} {k : Nat} (hbase : base ≤ g) (hb : w.heap[g]? = some (.cells cur e (0, 0)))
    (h1 : k ≤ ts.length) (h1' : ts.length ≤ cap) (h2 : cap ≤ maxLen) (h3 : cur.size = cap * 1) :
    (putRow encZ (Sort.ahead w n) g 0 ts.toArray).ownsRow base e 1 (.slice (some ⟨g, 0, none⟩) k cap) k ((ts.take k).map encZ) := by
  have hh := heap_sorted_i (n := n) (os := #[]) ts.toArray hb
  rw [grow_empty] at hh
  refine ⟨by simp; omega, .inr ⟨g, cap, _, rfl, hbase, hh, by omega, h2, by simp [putCells, h3], ?_⟩⟩
  have h := take_putCells_i cur ts (by omega)
  have h4 : (List.take ts.length (putCells encZ 0 ts.toArray cur).toList).take k = (ts.map encZ).take k := by rw [h]
  rw [List.take_take, Nat.min_eq_left h1, ← List.map_take] at h4
  rw [Nat.mul_one]
  exact h4
set_option maxHeartbeats 1000000 in
theorem compact_any (base : Nat) (a : List Int) (v : Value) (w : World) (h : w.ownsRow base 3 1 v a.length (intsC a)) (hb : base ≤ w.heap.size) (hN : a.length ≤ 1048576) :
    Calls Try.prog 77 #[v] w fun e w' => ∃ u, e = .returned u ∧ w'.ownsRow base 3 1 u (compZ a).length (intsC (compZ a)) ∧ Below base w w' := by
  by_cases hz : a.length = 0
  · have hnil : a = [] := List.eq_nil_of_length_eq_zero hz
    subst hnil
    obtain ⟨q, c, rfl, _, _⟩ := (Rd.of_own h).form
    refine (show Calls Try.prog 77 #[.slice q 0 c] w _ from Any.slices_Compact_int_empty shCompact q c w).mono ?_
    rintro e w' ⟨rfl, rfl⟩
    exact ⟨_, rfl, h, ⟨rfl, rfl, rfl, Nat.le_refl _, fun _ _ => rfl⟩⟩
  · rcases h.2 with ⟨rfl, hz2⟩ | ⟨gb, cap, cur, rfl, hbase, hgb, r1, r2, r3, r4⟩
    · exact absurd hz2 hz
    · have hH : Holds encZ w gb 0 a.toArray := holds_of_block_i hgb (by simpa [intsC, encZ] using r4)
      refine (show Calls Try.prog 77 #[.slice (some ⟨gb, 0, none⟩) a.length cap] w _ from Any.slices_Compact_int shCompact gb 0 cap a w hH (by omega) r1).mono ?_
      rintro e w' ⟨rfl, q, rfl⟩
      have hl := compZ_len a
      have h1 := row_put (n := q) (k := (compZ a).length) (ts := compZ a ++ List.replicate (a.length - (compZ a).length) 0) hbase hgb (by simp) (by simp; omega) r2 r3
      rw [List.take_left] at h1
      refine ⟨_, rfl, h1, ?_⟩
      have hg := grownBy_sorted_i (w := w) (g := gb) (n := q) (os := #[]) (compZ a ++ List.replicate (a.length - (compZ a).length) 0).toArray
      rw [grow_empty] at hg
      exact (show Below base w w from ⟨rfl, rfl, rfl, Nat.le_refl _, fun _ _ => rfl⟩).grown hg hb (fun j hj => by cases hj; exact hbase)
set_option maxHeartbeats 1000000 in
theorem sort_own (base : Nat) (a : List Int) (v : Value) (w : World) (h : w.ownsRow base 3 1 v a.length (intsC a)) (hb : base ≤ w.heap.size) (hN : a.length ≤ 1048576) :
    Calls Try.prog 63 #[v] w fun e w' => (∃ x, e = .returned x) ∧ w'.ownsRow base 3 1 v a.length (intsC (sortZ a)) ∧ Below base w w' := by
  rcases h.2 with ⟨rfl, hz⟩ | ⟨gb, cap, cur, rfl, hbase, hgb, r1, r2, r3, r4⟩
  · have hnil : a = [] := List.eq_nil_of_length_eq_zero hz
    subst hnil
    refine (show Calls Try.prog 63 #[.slice none 0 0] w _ from (callsIn_wide (n := 6)).1 ((sorts_in 6).2 none 0 w)).mono ?_
    rintro e w' ⟨rfl, rfl⟩
    exact ⟨⟨_, rfl⟩, by simpa [sortZ] using h, ⟨rfl, rfl, rfl, Nat.le_refl _, fun _ _ => rfl⟩⟩
  · have hH : Holds encZ w gb 0 a.toArray := holds_of_block_i hgb (by simpa [intsC, encZ] using r4)
    have hgl : gb < w.heap.size := (Array.getElem?_eq_some_iff.1 hgb).1
    refine (show Calls Try.prog 63 #[.slice (some ⟨gb, 0, none⟩) a.length cap] w _ from (callsIn_wide (n := 6)).1 ((sorts_in 6).1 gb 0 cap a w hH hgl (by omega))).mono ?_
    rintro e w' ⟨rfl, nn, os, rfl⟩
    exact ⟨⟨_, rfl⟩, ownsRow_sorted_i (by simp) hbase hgb r1 r2 r3, (show Below base w w from ⟨rfl, rfl, rfl, Nat.le_refl _, fun _ _ => rfl⟩).grown (grownBy_sorted_i _) hb (fun j hj => by cases hj; exact hbase)⟩
end Go.Proofs.Ytfljgcpfmhhgcaa
