/- Plain words for regions whose allocations come in any order: the world behind an allocation as a variable with what is known of it; joining the orders. -/
import Derived.Test.YtfljgcpfmhhgcaaRdBe
namespace Go.Proofs.Ytfljgcpfmhhgcaa
open Go.RowKit Go.Lab
theorem wp_join {P : Program} {c : Code} {K : Act → World → Prop} {Q : Exit → Act → World → Prop} {a : Act} {w : World} (M : Act → World → Prop) (h1 : ∀ K' : Act → World → Prop, (∀ a w, M a w → K' a w) → c.wp P (Exit.then K' Q) a w) (h2 : ∀ a w, M a w → K a w) : c.wp P (Exit.then K Q) a w := h1 K h2
theorem intro_alloc {K : Act → World → Prop} {a : Act} {W : World} {o : Obj} (h : ∀ X, Below W.heap.size W X → X.heap[W.heap.size]? = some o → K a X) : K a (W.alloc o) :=
  h _ ((Below.refl _ _).alloc (Nat.le_refl _) o) (heap_alloc_new _ _)
theorem intro_alloc_drew {K : Act → World → Prop} {a : Act} {W : World} {o : Obj} (h : ∀ X, Below W.heap.size W X → X.heap[W.heap.size]? = some o → K a X) : K a (W.alloc o).drew :=
  h _ (((Below.refl _ _).alloc (Nat.le_refl _) o).drew) (heap_alloc_new _ _)
theorem lit_own {X : World} {B g : Nat} {e : TypeId} {k : Nat} (hX : X.heap[g]? = some (.cells #[] e)) (hB : B ≤ g) : X.ownsRow B e k (.slice (some ⟨g, 0, none⟩) 0 0) 0 [] :=
  ⟨by simp, .inr ⟨g, 0, #[], rfl, hB, hX, Nat.le_refl _, by decide, by simp, by simp⟩⟩
theorem grown_other {W W' : World} {base : Nat} {e : TypeId} {k n : Nat} {v : Value} {xs : List Value} (hown : W.ownsRow base e k v n xs) (hg : W.grownBy W' v.ownBlock) {p : Nat} {cur : Array Value} {t : TypeId} {fz : Nat × Nat} (hP : W.heap[p]? = some (.cells cur t fz)) (hne : t ≠ e) :
    W'.heap[p]? = some (.cells cur t fz) := (Keeps.grown (T := fun x => x = t) hown hg (fun _ h => h ▸ hne)).2 _ _ _ _ rfl hP
theorem below_push {W W' : World} {p : Nat} {o : Obj} (hb : Below W.heap.size W W') (hP : W.heap[p]? = some o) : W'.heap[p]? = some o := (hb.block _ (lt_of_block hP)).trans hP
theorem box_frozen {W : World} {p : Nat} {cur : Array Value} {t : TypeId} (hP : W.heap[p]? = some (.cells cur t)) (j : Nat) : W.frozen? ⟨p, j, none⟩ = false := by simp [World.frozen?, hP]
/-- A row that is not nil has a block. -/
theorem own_block {W : World} {base : Nat} {e : TypeId} {k n : Nat} {v : Value} {xs : List Value} (h : W.ownsRow base e k v n xs) (hn : v ≠ .slice none 0 0) : ∃ g c, v = .slice (some ⟨g, 0, none⟩) n c ∧ base ≤ g ∧ g < W.heap.size := by
  rcases h.2 with ⟨rfl, _⟩ | ⟨g, c, cur, rfl, hb, _⟩
  · exact absurd rfl hn
  · exact ⟨g, c, rfl, hb, (h.lt g rfl).2⟩
/-- The cells of the needed place j. -/
theorem need_place {w0 : World} {pl : List Pl} {need : List Int} {a b : Option Addr} {c d : Nat} (hp : PlacesAt w0 (.slice a pl.length c) pl) (hn : IntsAt w0 (.slice b need.length d) need) (hneed : NeedOk pl need) {j : Nat} (hj : j < need.length) :
    ∃ (nb no pb po pi : Nat), b = some ⟨nb, no, none⟩ ∧ a = some ⟨pb, po, none⟩ ∧ pi < pl.length ∧ ∀ X, Below w0.heap.size w0 X → X.cell? ⟨nb, no + j, none⟩ = some (.int .i64 (pi : Nat)) ∧ X.cell? ⟨pb, po + pi * 6, none⟩ = some (.int .i64 (lp (needL pl need) j).item) ∧ X.cell? ⟨pb, po + pi * 6 + 1, none⟩ = some (.int .i64 (lp (needL pl need) j).fact) ∧
      X.cell? ⟨pb, po + pi * 6 + 2, none⟩ = some (.int .i64 (lp (needL pl need) j).start) ∧ X.cell? ⟨pb, po + pi * 6 + 3, none⟩ = some (.int .i64 (lp (needL pl need) j).len) ∧ X.cell? ⟨pb, po + pi * 6 + 4, none⟩ = some (.int .i64 (lp (needL pl need) j).page) ∧ X.cell? ⟨pb, po + pi * 6 + 5, none⟩ = some (.int .i64 (lp (needL pl need) j).line) := by
  obtain ⟨pi, hpi, hni, hli⟩ := needL_get hneed hj
  obtain ⟨nb, no, rfl, hnbl, hnc⟩ := ints_get hn hj
  obtain ⟨pb, po, rfl, hpbl, p0, p1, p2, p3, p4, p5⟩ := PlacesAt.at hp hpi
  rw [hni] at hnc
  rw [hli]
  exact ⟨nb, no, pb, po, pi, rfl, rfl, hpi, fun X hX => ⟨(hX.cell hnbl).trans hnc, (hX.cell hpbl).trans p0, (hX.cell hpbl).trans p1, (hX.cell hpbl).trans p2, (hX.cell hpbl).trans p3, (hX.cell hpbl).trans p4, (hX.cell hpbl).trans p5⟩⟩
end Go.Proofs.Ytfljgcpfmhhgcaa
