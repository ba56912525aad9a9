/- Plain words on memory: a row that begins with given cells and may be written. -/
import Derived.Test.YtcfjepcflanjbaaGreatBr01
import Derived.Maps.OwnSet
import Derived.Deep.MidRow
namespace Go.Lab
open Go Go.RowKit
def RowAt (w : World) (g : Nat) (t : TypeId) (cs : List Value) : Prop := ∃ cur, w.heap[g]? = some (.cells cur t (0, 0)) /\ ∀ (j : Nat) (u : Value), cs[j]? = some u -> cur[j]? = some u
section
variable {w w' : World} {g : Nat} {t : TypeId} {cs : List Value}
theorem RowAt.lt (h : RowAt w g t cs) : g < w.heap.size := by
  obtain ⟨cur, hb, _⟩ := h
  exact Go.lt_of_block hb
theorem RowAt.cell (h : RowAt w g t cs) {j : Nat} {u : Value} (hu : cs[j]? = some u) : w.cell? ⟨g, j, none⟩ = some u := by
  obtain ⟨cur, hb, hc⟩ := h
  simp only [World.cell?, hb]
  simpa using hc j u hu
theorem RowAt.free (h : RowAt w g t cs) (j : Nat) : w.frozen? ⟨g, j, none⟩ = false := by
  obtain ⟨cur, hb, hc⟩ := h
  simp [World.frozen?, hb]
theorem RowAt.of_block (h : RowAt w g t cs) (hb : w'.heap[g]? = w.heap[g]?) : RowAt w' g t cs := by
  obtain ⟨cur, h1, hc⟩ := h
  exact ⟨cur, hb.trans h1, hc⟩
theorem RowAt.setCell (h : RowAt w g t cs) {o : Nat} (_ho : o < cs.length) (v : Value) : RowAt (w.setCell ⟨g, o, none⟩ v) g t (cs.set o v) := by
  obtain ⟨cur, h1, hc⟩ := h
  refine ⟨cur.setIfInBounds o v, heap_setCell_same w g o cur t v h1, fun j u hu => ?_⟩
  have ho : o < cur.size := by
    have := hc o _ (List.getElem?_eq_getElem _ho)
    exact (Array.getElem?_eq_some_iff.1 this).1
  rw [List.getElem?_set] at hu
  rw [Array.getElem?_setIfInBounds]
  split at hu
  · rename_i e
    subst e
    rw [if_pos rfl, if_pos ho]
    exact hu
  · rename_i e
    rw [if_neg e]
    exact hc j u hu
theorem RowAt.other (h : RowAt w g t cs) {a : Addr} (hne : g ≠ a.block) (v : Value) : RowAt (w.setCell a v) g t cs := h.of_block (Below.heap_setCell _ _ _ g hne)
def spl : List Value -> Nat -> List Value -> List Value
  | cs, _, [] => cs
  | cs, o, v :: r => spl (cs.set o v) (o + 1) r
theorem RowAt.setCells : ∀ (vs cs : List Value) (o : Nat) (w : World), RowAt w g t cs -> o + vs.length <= cs.length -> RowAt (w.setCells g o vs) g t (spl cs o vs)
  | [], _, _, _, h, _ => h
  | v :: r, cs, o, w, h, hl => by
    rw [World.setCells, spl]
    simp only [List.length_cons] at hl
    exact RowAt.setCells r _ (o + 1) _ (h.setCell (by omega) v) (by simp; omega)
theorem RowAt.range (h : RowAt w g t cs) (o n : Nat) : w.rangeAt g o ((cs.drop o).take n) := fun j v hv => by
  refine h.cell ?_
  rw [List.getElem?_take] at hv
  split at hv
  · rwa [List.getElem?_drop] at hv
  · cases hv
theorem RowAt.there (h : RowAt w g t cs) {o n : Nat} (hl : o + n <= cs.length) : w.there g o n := fun j hj =>
  ⟨by rw [h.cell (List.getElem?_eq_getElem (by omega : o + j < cs.length))]; rfl, h.free _⟩
theorem RowAt.of_own {base k n : Nat} {e : TypeId} {v : Value} {xs : List Value} (h : w.ownsRow base e k v n xs) (hn : 0 < n) : ∃ g c, v = .slice (some ⟨g, 0, none⟩) n c /\ base <= g /\ n <= c /\ c <= maxLen /\ RowAt w g e xs := by
  rcases h.2 with ⟨_, rfl⟩ | ⟨g, cap, cur, rfl, hb, hg, hnc, hc, hs, ht⟩
  · omega
  · refine ⟨g, cap, rfl, hb, hnc, hc, cur, hg, fun j u hu => ?_⟩
    rw [<- ht, List.getElem?_take] at hu
    split at hu
    · simpa using hu
    · cases hu
end
end Go.Lab
