/- Plain words on walks, gathered from the texts of the Reader seat: what turned, joins, abstractions. No program in sight. -/
import Derived.Test.YtcfjepcflanjbaaBf04
import Derived.Laws.IdiomStrings
namespace Go.Proofs.Ytcfjepcflanjbaa
open Go.RowKit Go.Lab
/-- All blocks of before but those of T are as they were. -/
structure Turned (T : Nat → Prop) (w w' : World) : Prop where
  os : w'.os = w.os
  tape : w'.tape = w.tape
  output : w'.output = w.output
  size : w.heap.size ≤ w'.heap.size
  block : ∀ b, b < w.heap.size → ¬ T b → w'.heap[b]? = w.heap[b]?
theorem Turned.refl (T : Nat → Prop) (w : World) : Turned T w w := ⟨rfl, rfl, rfl, Nat.le_refl _, fun _ _ _ => rfl⟩
theorem Turned.trans {T : Nat → Prop} {a b c : World} (h : Turned T a b) (k : Turned T b c) : Turned T a c :=
  ⟨k.os.trans h.os, k.tape.trans h.tape, k.output.trans h.output, Nat.le_trans h.size k.size, fun x hx hT => (k.block x (Nat.lt_of_lt_of_le hx h.size) hT).trans (h.block x hx hT)⟩
theorem Turned.mono {T T' : Nat → Prop} {a b : World} (h : Turned T a b) (hT : ∀ x, x < a.heap.size → T x → T' x) : Turned T' a b :=
  ⟨h.os, h.tape, h.output, h.size, fun x hx hn => h.block x hx (fun ht => hn (hT x hx ht))⟩
theorem Turned.of_below {T : Nat → Prop} {w w' : World} (h : Below w.heap.size w w') : Turned T w w' := ⟨h.os, h.tape, h.output, h.size, fun b hb _ => h.block b hb⟩
theorem Turned.of_grown {T : Nat → Prop} {w w' : World} {x : Nat} (h : w.grownBy w' (some x)) (hx : T x) : Turned T w w' :=
  ⟨h.os, h.tape, h.output, h.size, fun b hb hT => h.block b hb (fun e => by injection e with e; subst e; exact hT hx)⟩
theorem Turned.grown {T : Nat → Prop} {w w' : World} {x : Nat} (h : Turned T w w') (hT : ∀ b, b < w.heap.size → T b → b = x) : w.grownBy w' (some x) :=
  ⟨h.os, h.tape, h.output, h.size, fun b hb hn => h.block b hb (fun ht => hn (by rw [hT b hb ht]))⟩
theorem Turned.cells {T : Nat → Prop} {w w' : World} (h : Turned T w w') {b : Nat} {o : Obj} (hb : w.heap[b]? = some o) (hT : ¬ T b) : w'.heap[b]? = some o := (h.block b (lt_of_block hb) hT).trans hb
theorem Turned.keeps {T : Nat → Prop} {w w' : World} (h : Turned T w w') (hT : ∀ b, T b → ∀ cur t fz, w.heap[b]? ≠ some (.cells cur t fz)) : Keeps (fun _ => True) w w' :=
  ⟨h.size, fun b cur t fz _ hb => h.cells hb (fun ht => hT b ht cur t fz hb)⟩
theorem Turned.drew {T : Nat → Prop} {w w' : World} (h : Turned T w w') : Turned T w w'.drew := ⟨h.os, h.tape, h.output, h.size, h.block⟩
theorem Turned.alloc {T : Nat → Prop} {w w' : World} (h : Turned T w w') (o : Obj) : Turned T w (w'.alloc o) := h.trans (Turned.of_below ((Below.refl _ _).alloc (Nat.le_refl _) o))
theorem Turned.below {T : Nat → Prop} {w w' w'' : World} (h : Turned T w w') (hb : Below w'.heap.size w' w'') : Turned T w w'' := h.trans (Turned.of_below hb)
theorem Turned.setCell {T : Nat → Prop} {w w' : World} (h : Turned T w w') (a : Addr) (v : Value) (ha : w.heap.size ≤ a.block ∨ T a.block) : Turned T w (w'.setCell a v) :=
  ⟨h.os, h.tape, h.output, by simp [World.setCell]; exact h.size, fun b hb hT => (Below.heap_setCell w' a v b (fun e => by subst e; rcases ha with h1 | h1; exact absurd hb (Nat.not_lt.2 h1); exact hT h1)).trans (h.block b hb hT)⟩
theorem Turned.own {T : Nat → Prop} {w W W' : World} {row : Option Nat} (h : Turned T w W) (hg : W.grownBy W' row) (hr : ∀ r, row = some r → w.heap.size ≤ r) : Turned T w W' :=
  ⟨hg.os.trans h.os, hg.tape.trans h.tape, hg.output.trans h.output, Nat.le_trans h.size hg.size, fun b hb hT => (hg.block b (Nat.lt_of_lt_of_le hb h.size) (fun e => absurd hb (Nat.not_lt.2 (hr b e.symm)))).trans (h.block b hb hT)⟩
theorem Turned.from {T : Nat → Prop} {w w' : World} (h : Turned T w w') {B : Nat} (hT : ∀ b, B ≤ b → ¬ T b) : KeepsFrom B w w' := ⟨h.size, fun k _ hk ho _ => h.cells ho (hT k hk)⟩
theorem Turned.cell {T : Nat → Prop} {w w' : World} (h : Turned T w w') {b o : Nat} {v : Value} (hc : w.cell? ⟨b, o, none⟩ = some v) (hT : ¬ T b) : w'.cell? ⟨b, o, none⟩ = some v := by
  have hb : b < w.heap.size := World.block_lt_of_cell? w ⟨b, o, none⟩ hc
  simp only [World.cell?, h.block b hb hT] at hc ⊢
  exact hc
theorem wp_abs {P : Program} {c : Code} {Q : Exit → Act → World → Prop} {a : Act} {w : World} (Pw : World → Prop) (h : Pw w) (k : ∀ w', Pw w' → c.wp P Q a w') : c.wp P Q a w := k w h
theorem wp_cutA {P : Program} {c : Code} {Q : Exit → Act → World → Prop} {a : Act} {w : World} (N : Nat) (R : Array Value → List Deferred → Prop) (hs : a.tmps.size = N) (hR : R a.tmps a.defers) (k : ∀ t ds, t.size = N → R t ds → c.wp P Q { tmps := t, defers := ds } w) : c.wp P Q a w := k _ _ hs hR
theorem Turned.toBelow {w w' : World} (h : Turned (fun _ => False) w w') : Below w.heap.size w w' := ⟨h.os, h.tape, h.output, h.size, fun b hb => h.block b hb id⟩
theorem Turned.lower {T : Nat → Prop} {W0 W w' : World} (h : Turned T W0 W) (hb : Below W0.heap.size W w') : Turned T W0 w' := ⟨hb.os.trans h.os, hb.tape.trans h.tape, hb.output.trans h.output, Nat.le_trans h.size hb.size, fun b h1 h2 => (hb.block b h1).trans (h.block b h1 h2)⟩
theorem grownBy_setC (W : World) (b o : Nat) (v : Value) : W.grownBy (W.setCell ⟨b, o, none⟩ v) (some b) := ⟨rfl, rfl, rfl, by simp [World.setCell], fun k _ hk => Below.heap_setCell W ⟨b, o, none⟩ v k (fun e => hk (by rw [e]))⟩
theorem wpIn_join {F : Fence} {n : Nat} {P : Program} {c : Code} {K : Act → World → Prop} {Q : Exit → Act → World → Prop} {a : Act} {w : World} (M : Act → World → Prop) (h1 : ∀ K' : Act → World → Prop, (∀ a w, M a w → K' a w) → c.wpIn F n P (Exit.then K' Q) a w) (h2 : ∀ a w, M a w → K a w) : c.wpIn F n P (Exit.then K Q) a w := h1 K h2
theorem wpIn_cutA {F : Fence} {n : Nat} {P : Program} {c : Code} {Q : Exit → Act → World → Prop} {a : Act} {w : World} (N : Nat) (R : Array Value → List Deferred → Prop) (hs : a.tmps.size = N) (hR : R a.tmps a.defers) (k : ∀ t ds, t.size = N → R t ds → c.wpIn F n P Q { tmps := t, defers := ds } w) : c.wpIn F n P Q a w := k _ _ hs hR
theorem heap_set {W : World} {b : Nat} {cur : Array Value} {t : TypeId} {f : Nat × Nat} (h : W.heap[b]? = some (.cells cur t f)) (j : Nat) (v : Value) : (W.setCell ⟨b, j, none⟩ v).heap[b]? = some (.cells (cur.setIfInBounds j v) t f) := by
  simp [World.setCell, Array.getElem?_modify, h]
theorem intsC_snoc' (pre : List Int) (x : Int) : intsC (pre ++ [x]) = intsC pre ++ [.int .i64 x] := by simp [intsC]
theorem ownsRow_turned {T : Nat → Prop} {W X : World} {base : Nat} {e : TypeId} {k n : Nat} {v : Value} {xs : List Value} (h : W.ownsRow base e k v n xs) (hT : Turned T W X) (hne : ∀ g, v.ownBlock = some g → ¬ T g) : X.ownsRow base e k v n xs := by
  refine ⟨h.1, ?_⟩
  rcases h.2 with h2 | ⟨g, cap, cur, rfl, hg, hb, r⟩
  · exact .inl h2
  · exact .inr ⟨g, cap, cur, rfl, hg, hT.cells hb (hne g rfl), r⟩
theorem ownsRow_cells {W : World} {base : Nat} {e : TypeId} {k n : Nat} {v : Value} {xs : List Value} (h : W.ownsRow base e k v n xs) {g : Nat} (hg : v.ownBlock = some g) : ∃ cur, W.heap[g]? = some (.cells cur e (0, 0)) := by
  rcases h.2 with ⟨rfl, _⟩ | ⟨g', cap, cur, rfl, _, hb, _⟩
  · cases hg
  · injection hg with hg
    subst hg
    exact ⟨cur, hb⟩
theorem wp_join {P : Program} {c : Code} {K : Act → World → Prop} {Q : Exit → Act → World → Prop} {a : Act} {w : World} (M : Act → World → Prop) (h1 : ∀ K' : Act → World → Prop, (∀ a w, M a w → K' a w) → c.wp P (Exit.then K' Q) a w) (h2 : ∀ a w, M a w → K a w) : c.wp P (Exit.then K Q) a w := h1 K h2
theorem intro_alloc {K : Act → World → Prop} {a : Act} {W : World} {o : Obj} (h : ∀ X, Below W.heap.size W X → X.heap[W.heap.size]? = some o → K a X) : K a (W.alloc o) :=
  h _ ((Below.refl _ _).alloc (Nat.le_refl _) o) (heap_alloc_new _ _)
theorem intro_alloc_drew {K : Act → World → Prop} {a : Act} {W : World} {o : Obj} (h : ∀ X, Below W.heap.size W X → X.heap[W.heap.size]? = some o → K a X) : K a (W.alloc o).drew :=
  h _ (((Below.refl _ _).alloc (Nat.le_refl _) o).drew) (heap_alloc_new _ _)
theorem lit_own {X : World} {B g : Nat} {e : TypeId} {k : Nat} (hX : X.heap[g]? = some (.cells #[] e)) (hB : B ≤ g) : X.ownsRow B e k (.slice (some ⟨g, 0, none⟩) 0 0) 0 [] :=
  ⟨by simp, .inr ⟨g, 0, #[], rfl, hB, hX, Nat.le_refl _, by decide, by simp, by simp⟩⟩
theorem grown_other {W W' : World} {base : Nat} {e : TypeId} {k n : Nat} {v : Value} {xs : List Value} (hown : W.ownsRow base e k v n xs) (hg : W.grownBy W' v.ownBlock) {p : Nat} {cur : Array Value} {t : TypeId} {fz : Nat × Nat} (hP : W.heap[p]? = some (.cells cur t fz)) (hne : t ≠ e) :
    W'.heap[p]? = some (.cells cur t fz) := (Keeps.grown (T := fun x => x = t) hown hg (fun _ h => h ▸ hne)).2 _ _ _ _ rfl hP
theorem below_push {W W' : World} {p : Nat} {o : Obj} (hb : Below W.heap.size W W') (hP : W.heap[p]? = some o) : W'.heap[p]? = some o := (hb.block _ (lt_of_block hP)).trans hP
theorem box_frozen {W : World} {p : Nat} {cur : Array Value} {t : TypeId} (hP : W.heap[p]? = some (.cells cur t)) (j : Nat) : W.frozen? ⟨p, j, none⟩ = false := by simp [World.frozen?, hP]
/-- A row that is not nil has a block. -/
theorem own_block {W : World} {base : Nat} {e : TypeId} {k n : Nat} {v : Value} {xs : List Value} (h : W.ownsRow base e k v n xs) (hn : v ≠ .slice none 0 0) : ∃ g c, v = .slice (some ⟨g, 0, none⟩) n c ∧ base ≤ g ∧ g < W.heap.size := by
  rcases h.2 with ⟨rfl, _⟩ | ⟨g, c, cur, rfl, hb, _⟩
  · exact absurd rfl hn
  · exact ⟨g, c, rfl, hb, (h.lt g rfl).2⟩
theorem box1_cell {w : World} {b : Nat} {x : Value} {t : TypeId} {fz : Nat × Nat} (h : w.heap[b]? = some (.cells #[x] t fz)) : w.cell? ⟨b, 0, none⟩ = some x := by simp [World.cell?, h]
theorem results_cell1 {fn : Func} {p : Tmp} {t1 : TypeId} (h : fn.results = #[.cell p t1]) (tmps : Array Value) (P : Program) (w : World) {b1 : Addr} {v1 : Value}
    (e1 : tmps.getD p undef = .pointer (some b1)) (l1 : (loadVar t1 b1).run P w = .ok v1 w) : (results fn tmps).run P w = .ok v1 w := by
  have e1' : tmps[p]?.getD undef = .pointer (some b1) := by simpa using e1
  simp only [results, h]
  simp [e1', l1, asAddr]
end Go.Proofs.Ytcfjepcflanjbaa
/- Contract: the reference's Valid of tables. -/
namespace Go.Proofs.Ytcfjepcflanjbaa
open Go.RowKit Go.Lab Go.Shelf
set_option maxRecDepth 100000
theorem range_map136 (f : Nat → Value) : (List.range 136).map f = [f 0, f 1, f 2, f 3, f 4, f 5, f 6, f 7, f 8, f 9, f 10, f 11, f 12, f 13, f 14, f 15, f 16, f 17, f 18, f 19, f 20, f 21, f 22, f 23, f 24, f 25, f 26, f 27, f 28, f 29, f 30, f 31, f 32, f 33, f 34, f 35, f 36, f 37, f 38, f 39, f 40, f 41, f 42, f 43, f 44, f 45, f 46, f 47, f 48, f 49, f 50, f 51, f 52, f 53, f 54, f 55, f 56, f 57, f 58, f 59, f 60, f 61, f 62, f 63, f 64, f 65, f 66, f 67, f 68, f 69, f 70, f 71, f 72, f 73, f 74, f 75, f 76, f 77, f 78, f 79, f 80, f 81, f 82, f 83, f 84, f 85, f 86, f 87, f 88, f 89, f 90, f 91, f 92, f 93, f 94, f 95, f 96, f 97, f 98, f 99, f 100, f 101, f 102, f 103, f 104, f 105, f 106, f 107, f 108, f 109, f 110, f 111, f 112, f 113, f 114, f 115, f 116, f 117, f 118, f 119, f 120, f 121, f 122, f 123, f 124, f 125, f 126, f 127, f 128, f 129, f 130, f 131, f 132, f 133, f 134, f 135] := rfl
theorem frame136 (t : Array Value) (ds : List Deferred) (h : t.size = 136) : ({ tmps := t, defers := ds } : Act) = { tmps := #[slot t 0, slot t 1, slot t 2, slot t 3, slot t 4, slot t 5, slot t 6, slot t 7, slot t 8, slot t 9, slot t 10, slot t 11, slot t 12, slot t 13, slot t 14, slot t 15, slot t 16, slot t 17, slot t 18, slot t 19, slot t 20, slot t 21, slot t 22, slot t 23, slot t 24, slot t 25, slot t 26, slot t 27, slot t 28, slot t 29, slot t 30, slot t 31, slot t 32, slot t 33, slot t 34, slot t 35, slot t 36, slot t 37, slot t 38, slot t 39, slot t 40, slot t 41, slot t 42, slot t 43, slot t 44, slot t 45, slot t 46, slot t 47, slot t 48, slot t 49, slot t 50, slot t 51, slot t 52, slot t 53, slot t 54, slot t 55, slot t 56, slot t 57, slot t 58, slot t 59, slot t 60, slot t 61, slot t 62, slot t 63, slot t 64, slot t 65, slot t 66, slot t 67, slot t 68, slot t 69, slot t 70, slot t 71, slot t 72, slot t 73, slot t 74, slot t 75, slot t 76, slot t 77, slot t 78, slot t 79, slot t 80, slot t 81, slot t 82, slot t 83, slot t 84, slot t 85, slot t 86, slot t 87, slot t 88, slot t 89, slot t 90, slot t 91, slot t 92, slot t 93, slot t 94, slot t 95, slot t 96, slot t 97, slot t 98, slot t 99, slot t 100, slot t 101, slot t 102, slot t 103, slot t 104, slot t 105, slot t 106, slot t 107, slot t 108, slot t 109, slot t 110, slot t 111, slot t 112, slot t 113, slot t 114, slot t 115, slot t 116, slot t 117, slot t 118, slot t 119, slot t 120, slot t 121, slot t 122, slot t 123, slot t 124, slot t 125, slot t 126, slot t 127, slot t 128, slot t 129, slot t 130, slot t 131, slot t 132, slot t 133, slot t 134, slot t 135], defers := ds } := by
  have e : t = ((List.range 136).map (slot t)).toArray := by
    apply Array.ext
    · simp [h]
    · intro i h1 h2
      simp [slot, Array.getD, h1]
  rw [range_map136] at e
  exact congrArg (fun x => ({ tmps := x, defers := ds } : Act)) e
def natI : Value → Nat
  | .int _ n => n.toNat
  | _ => 0
/-- Tables that can be reckoned with. -/
structure TabOk (T : TabZ) : Prop where
  r0 : ∀ r ∈ T.l0, RuleOk r
  r1 : ∀ r ∈ T.l1, RuleOk r
  n0 : T.l0.length ≤ 100000
  n1 : T.l1.length ≤ 100000
def TabZ.at (T : TabZ) (k : Nat) : List RuleZ := if k = 0 then T.l0 else T.l1
/-- The box of tables, and the tables. -/
def TbX (w0 : World) (V : TabV) (Bx : Nat) (X : World) : Prop := Below w0.heap.size w0 X ∧ X.heap[Bx]? = some (.cells #[V.a, V.b, V.d, V.c, V.n, V.e, V.s] 29)
theorem TbX.below {w0 X X' : World} {V : TabV} {Bx : Nat} (h : TbX w0 V Bx X) (hb : Below X.heap.size X X') : TbX w0 V Bx X' := ⟨h.1.trans (hb.mono h.1.size), below_push hb h.2⟩
theorem TbX.at {w0 X : World} {V : TabV} {T : TabZ} {Bx : Nat} (h : TbX w0 V Bx X) (hT : TabIn w0 V T) {k : Nat} (hk : k < 2) : ∃ a c, X.cell? ⟨Bx, k, none⟩ = some (.slice a (T.at k).length c) ∧ RulesAt X (.slice a (T.at k).length c) (T.at k) ∧ (T.at k).length ≤ c ∧ c ≤ maxLen := by
  have hT' := hT.below h.1
  rcases (by omega : k = 0 ∨ k = 1) with rfl | rfl
  · obtain ⟨a, c, ha, h1, h2⟩ := hT'.r0.form
    refine ⟨a, c, ?_, ?_, h1, h2⟩
    · rw [show (T.at 0).length = T.l0.length from rfl, ← ha]
      simp [World.cell?, h.2]
    · show RulesAt X (.slice a T.l0.length c) T.l0
      rw [← ha]
      exact hT'.r0
  · obtain ⟨a, c, ha, h1, h2⟩ := hT'.r1.form
    refine ⟨a, c, ?_, ?_, h1, h2⟩
    · rw [show (T.at 1).length = T.l1.length from rfl, ← ha]
      simp [World.cell?, h.2]
    · show RulesAt X (.slice a T.l1.length c) T.l1
      rw [← ha]
      exact hT'.r1
theorem TbX.at2 {w0 : World} {V : TabV} {T : TabZ} (Bx : Nat) (hT : TabIn w0 V T) {k : Nat} (hk : k < 2) : ∃ a c, (∀ X, TbX w0 V Bx X → X.cell? ⟨Bx, k, none⟩ = some (.slice a (T.at k).length c) ∧ RulesAt X (.slice a (T.at k).length c) (T.at k)) ∧ (T.at k).length ≤ c ∧ c ≤ maxLen := by
  rcases (by omega : k = 0 ∨ k = 1) with rfl | rfl
  · obtain ⟨a, c, ha, h1, h2⟩ := hT.r0.form
    refine ⟨a, c, fun X h => ⟨?_, ?_⟩, h1, h2⟩
    · rw [show (T.at 0).length = T.l0.length from rfl, ← ha]
      simp [World.cell?, h.2]
    · show RulesAt X (.slice a T.l0.length c) T.l0
      rw [← ha]
      exact (hT.below h.1).r0
  · obtain ⟨a, c, ha, h1, h2⟩ := hT.r1.form
    refine ⟨a, c, fun X h => ⟨?_, ?_⟩, h1, h2⟩
    · rw [show (T.at 1).length = T.l1.length from rfl, ← ha]
      simp [World.cell?, h.2]
    · show RulesAt X (.slice a T.l1.length c) T.l1
      rw [← ha]
      exact (hT.below h.1).r1
theorem TabOk.at {T : TabZ} (h : TabOk T) (k : Nat) : (∀ r ∈ T.at k, RuleOk r) ∧ (T.at k).length ≤ 100000 := by
  unfold TabZ.at
  split
  · exact ⟨h.r0, h.n0⟩
  · exact ⟨h.r1, h.n1⟩
def VL1 (T : TabZ) (w0 : World) (V : TabV) (Bx : Nat) (kv : Value) (wr : World) : Prop := ∃ k : Nat, k ≤ 2 ∧ kv = .int .i64 (k : Nat) ∧ (∀ j, j < k → (T.at j).length ≤ 96) ∧ TbX w0 V Bx wr
def VL2 (T : TabZ) (w0 : World) (V : TabV) (Bx : Nat) (kv : Value) (wr : World) : Prop := ∃ k : Nat, k ≤ 2 ∧ kv = .int .i64 (k : Nat) ∧ (∀ j, j < k → (T.at j).all rightB = true) ∧ TbX w0 V Bx wr
def VL2i (L : List RuleZ) (w0 : World) (V : TabV) (Bx : Nat) (iv : Value) (wr : World) : Prop := ∃ i : Nat, i ≤ L.length ∧ iv = .int .i64 (i : Nat) ∧ (L.take i).all rightB = true ∧ TbX w0 V Bx wr
def VL3 (T : TabZ) (w0 : World) (V : TabV) (Bx : Nat) (kv : Value) (wr : World) : Prop := ∃ k : Nat, k ≤ 2 ∧ kv = .int .i64 (k : Nat) ∧ (∀ j, j < k → twiceB (T.at j) = false) ∧ TbX w0 V Bx wr
def VL4 (T : TabZ) (w0 : World) (V : TabV) (Bx : Nat) (kv : Value) (wr : World) : Prop := ∃ k : Nat, k ≤ 2 ∧ kv = .int .i64 (k : Nat) ∧ (∀ j, j < k → lettersZ.all (ownB (T.at j)) = true) ∧ TbX w0 V Bx wr
def VL4c (L : List RuleZ) (cv : Value) : Prop := ∃ m : Nat, m ≤ 26 ∧ cv = .int .i64 (97 + (m : Nat)) ∧ ∀ m', m' < m → ownB L (97 + (m' : Int)) = true
theorem bytes_toList {a b : ByteArray} (h : a.toList = b.toList) : a = b := by
  rw [ByteArray.toList_eq, ByteArray.toList_eq] at h
  exact ByteArray.ext (Array.toList_inj.1 h)
/-- Rule i is not one of those before. -/
def NoTw (L : List RuleZ) (i : Nat) : Prop := ∀ j, j < i → sameR (L.getD i rule0) (L.getD j rule0) = false
def VL3i (L : List RuleZ) (iv : Value) : Prop := ∃ i : Nat, i ≤ L.length ∧ iv = .int .i64 (i : Nat) ∧ ∀ i', i' < i → NoTw L i'
def VL3j (L : List RuleZ) (i : Nat) (jv : Value) : Prop := ∃ j : Nat, j ≤ i ∧ jv = .int .i64 (j : Nat) ∧ ∀ j', j' < j → sameR (L.getD i rule0) (L.getD j' rule0) = false
theorem any_take {L : List RuleZ} {i : Nat} (p : RuleZ → Bool) (hi : i ≤ L.length) : (L.take i).any p = true ↔ ∃ j, j < i ∧ p (L.getD j rule0) = true := by
  rw [List.any_eq_true]
  constructor
  · rintro ⟨x, hx, hp⟩
    obtain ⟨j, hj, rfl⟩ := List.getElem_of_mem hx
    rw [List.length_take] at hj
    refine ⟨j, by omega, ?_⟩
    rw [List.getElem_take] at hp
    rw [List.getD_eq_getElem?_getD, List.getElem?_eq_getElem (by omega)]
    exact hp
  · rintro ⟨j, hj, hp⟩
    rw [List.getD_eq_getElem?_getD, List.getElem?_eq_getElem (by omega)] at hp
    exact ⟨L[j], List.mem_take_iff_getElem.2 ⟨j, by omega, rfl⟩, hp⟩
theorem twice_true {L : List RuleZ} {i j : Nat} (hi : i < L.length) (hj : j < i) (h : sameR (L.getD i rule0) (L.getD j rule0) = true) : twiceB L = true := by
  unfold twiceB
  rw [List.any_eq_true]
  exact ⟨i, List.mem_range.2 hi, (any_take _ (by omega)).2 ⟨j, hj, h⟩⟩
theorem twice_false {L : List RuleZ} (h : ∀ i, i < L.length → NoTw L i) : twiceB L = false := by
  unfold twiceB
  rw [List.any_eq_false]
  intro i hi ha
  have hi := List.mem_range.1 hi
  obtain ⟨j, hj, hp⟩ := (any_take _ (by omega)).1 ha
  rw [h i hi j hj] at hp
  cases hp
end Go.Proofs.Ytcfjepcflanjbaa
