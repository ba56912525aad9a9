/- The maker of examinations: what its methods leave alone; Take, Phrase, Decimal. -/
import Derived.Test.YtfljgcpfmhhgcaaRdAx
namespace Go.Proofs.Ytfljgcpfmhhgcaa
open Go.RowKit Go.Lab
attribute [local go_sem] Oper.semAt_some
set_option maxRecDepth 100000
/-- The maker in block P, with its list of numbers. -/
def Mk (P : Nat) (la : Option Addr) (lc : Nat) (l : List Int) (w : World) : Prop := (∃ j : Int, w.heap[P]? = some (.cells #[.slice la l.length lc, .int .i64 j] 82)) ∧ ∀ X, Turned (fun b => b = P) w X → IntsAt X (.slice la l.length lc) l
section
variable {P : Nat} {la : Option Addr} {lc : Nat} {l : List Int} {w X : World}
theorem Mk.lt (h : Mk P la lc l w) : P < w.heap.size := by
  obtain ⟨⟨j, hj⟩, _⟩ := h
  exact lt_of_block hj
/-- What a method leaves alone: all that lay, but the maker's own block, which is a maker still. -/
def MkR (P : Nat) (la : Option Addr) (lc : Nat) (l : List Int) (w w' : World) : Prop := (∃ j : Int, w'.heap[P]? = some (.cells #[.slice la l.length lc, .int .i64 j] 82)) ∧ Turned (fun b => b = P) w w'
theorem MkR.refl (h : Mk P la lc l w) : MkR P la lc l w w := ⟨h.1, Turned.refl _ _⟩
theorem MkR.trans {Y : World} (h : MkR P la lc l w X) (k : MkR P la lc l X Y) : MkR P la lc l w Y := ⟨k.1, h.2.trans k.2⟩
theorem MkR.mk (r : MkR P la lc l w X) (h : Mk P la lc l w) : Mk P la lc l X := ⟨r.1, fun Y hY => h.2 Y (r.2.trans hY)⟩
theorem MkR.below {Y : World} (r : MkR P la lc l w X) (hb : Below X.heap.size X Y) : MkR P la lc l w Y := by
  obtain ⟨⟨j, hj⟩, h2⟩ := r
  exact ⟨⟨j, (hb.block P (lt_of_block hj)).trans hj⟩, h2.below hb⟩
theorem MkR.alloc (r : MkR P la lc l w X) (o : Obj) : MkR P la lc l w (X.alloc o) := r.below ((Below.refl _ _).alloc (Nat.le_refl _) o)
theorem MkR.drew (r : MkR P la lc l w X) : MkR P la lc l w X.drew := r.below (Below.refl _ _).drew
theorem MkR.own {Y : World} {row : Option Nat} (r : MkR P la lc l w X) (h : Mk P la lc l w) (hg : X.grownBy Y row) (hr : ∀ g, row = some g → w.heap.size ≤ g) : MkR P la lc l w Y := by
  obtain ⟨⟨j, hj⟩, h2⟩ := r
  refine ⟨⟨j, (hg.block P (lt_of_block hj) (fun e => ?_)).trans hj⟩, h2.own hg hr⟩
  have := hr P e.symm
  have := h.lt
  omega
theorem MkR.set {b o : Nat} {v : Value} (r : MkR P la lc l w X) (h : Mk P la lc l w) (hb : w.heap.size ≤ b) : MkR P la lc l w (X.setCell ⟨b, o, none⟩ v) := by
  obtain ⟨⟨j, hj⟩, h2⟩ := r
  refine ⟨⟨j, (Below.heap_setCell X ⟨b, o, none⟩ v P (fun e => ?_)).trans hj⟩, h2.setCell _ _ (.inl hb)⟩
  have := h.lt
  simp only at e
  omega
theorem MkR.size (r : MkR P la lc l w X) : w.heap.size ≤ X.heap.size := r.2.size
theorem MkR.row {base k n : Nat} {e : TypeId} {v : Value} {xs : List Value} (r : MkR P la lc l w X) (ho : w.ownsRow base e k v n xs) (hP : P < base) : X.ownsRow base e k v n xs :=
  ownsRow_turned ho r.2 (fun g hg => by have := (ho.lt g hg).1; omega)
theorem MkR.box {b : Nat} {o : Obj} (r : MkR P la lc l w X) (hb : w.heap[b]? = some o) (hP : b ≠ P) : X.heap[b]? = some o := r.2.cells hb hP
end
/-- A literal list: a place of it. -/
theorem lit_get {X : World} {b : Nat} {cs : Array Value} {t : TypeId} {p : Value → Prop} (h : X.heap[b]? = some (.cells cs t)) (hp : ∀ v ∈ cs.toList, p v) {z : Nat} (hz : z < cs.size) : ∃ v, X.cell? ⟨b, z, none⟩ = some v ∧ p v :=
  ⟨cs[z], by simp [World.cell?, h, hz], hp _ (by simp)⟩
set_option maxHeartbeats 2000000 in
theorem takeM_any {P : Nat} {la : Option Addr} {lc : Nat} {l : List Int} (n : Int) (w : World) (h : Mk P la lc l w) :
    Calls Try.prog 52 #[.pointer (some ⟨P, 0, none⟩), .int .i64 n] w fun e w' => (∃ z : Int, e = .returned (.int .i64 z) ∧ 0 ≤ z ∧ (1 ≤ n → z < n) ∧ (n < 1 → z = 0)) ∧ MkR P la lc l w w' := by
  have HM := hidep h
  obtain ⟨⟨j, hj⟩, h2⟩ := h
  have y0 : w.cell? ⟨P, 0, none⟩ = some (.slice la l.length lc) := by simp [World.cell?, hj]
  have y1 : w.cell? ⟨P, 1, none⟩ = some (.int .i64 j) := by simp [World.cell?, hj]
  have g1 := box_frozen hj 1
  have H2 := hidep h2
  clear h2
  go_enter Try.func52, Try.ntmps52
  go_upto_region 2 with (fail)
  refine wp_abs (fun X => (∃ j, X.heap[P]? = some (.cells #[.slice la l.length lc, .int .i64 j] 82)) ∧ Turned (fun b => b = P) w X) ⟨⟨_, heap_set hj 1 _⟩, (Turned.refl (fun b => b = P) w).setCell ⟨P, 1, none⟩ _ (.inr rfl)⟩ ?_
  clear hj y0 y1 g1
  rintro X ⟨⟨j, hj⟩, hT⟩
  have y0 : X.cell? ⟨P, 0, none⟩ = some (.slice la l.length lc) := by simp [World.cell?, hj]
  have y1 : X.cell? ⟨P, 1, none⟩ = some (.int .i64 j) := by simp [World.cell?, hj]
  obtain ⟨i, hi⟩ : ∃ i, i = IntKind.i64.wrap (j - 1) := ⟨_, rfl⟩
  have hiw : IntKind.i64.wrap (j - 1) = i := hi.symm
  have HA := hidep (fun Y (hY : Turned (fun b => b = P) w Y) => at_any (.slice la l.length lc) l i n Y (H2.out Y hY))
  have HZ : Hid (0 ≤ atZ l i n ∧ (1 ≤ n → atZ l i n < n) ∧ (n < 1 → atZ l i n = 0)) := hidep (by
    by_cases hn : 1 ≤ n
    · have := atZ_rng l i n hn
      exact ⟨this.1, fun _ => this.2, fun h => by omega⟩
    · have : atZ l i n = 0 := by
        unfold atZ
        split
        · rfl
        · exact (aroundZ_low (by omega)).symm
      exact ⟨by omega, fun h => absurd h hn, fun _ => this⟩)
  obtain ⟨z, hz⟩ : ∃ z, z = atZ l i n := ⟨_, rfl⟩
  rw [← hz] at HA HZ
  have HR := hidep (show MkR P la lc l w X from ⟨⟨j, hj⟩, hT⟩)
  have HT := hidep hT
  have hPX := lt_of_block hj
  clear hi hz hj hT
  have HB := hidep (show ∀ Y, Below X.heap.size X Y → Y.cell? ⟨P, 0, none⟩ = some (.slice la l.length lc) ∧ Y.cell? ⟨P, 1, none⟩ = some (.int .i64 j) from fun Y hY => ⟨(hY.cell (p := ⟨P, 0, none⟩) hPX).trans y0, (hY.cell (p := ⟨P, 1, none⟩) hPX).trans y1⟩)
  refine wp_region_noPanic (wp_region_held_drew (S := (fun Y => Below X.heap.size X Y)) (by kernel_rfl) ?hS52r2n0 (fun hHeld => ?hR52r2n0))
  case hS52r2n0 => ((try dsimp only); (exact (Below.refl _ _).drew))
  refine wpAnyH_take (i := 0) (v := ?v52r2n0q1) rfl (by kernel_rfl) (by kernel_rfl) (by kernel_rfl) (fun _ _ _ h => h) (Or.inl ⟨by kernel_rfl, ?hy52r2n0q1⟩) (by assumption) ?hr52r2n0q1
  case hy52r2n0q1 => (intro w hSw; (try dsimp only at hSw); (obtain ⟨c0, c1⟩ := HB.out w hSw); first | (go_simp; done) | (go_simp; with_reducible rfl))
  refine wpAnyH_take (i := 1) (v := ?v52r2n0q2) rfl (by kernel_rfl) (by kernel_rfl) (by kernel_rfl) (fun _ _ _ h => h) (Or.inl ⟨by kernel_rfl, ?hy52r2n0q2⟩) (by assumption) ?hr52r2n0q2
  case hy52r2n0q2 => (intro w hSw; (try dsimp only at hSw); (obtain ⟨c0, c1⟩ := HB.out w hSw); first | (go_simp; done) | (go_simp; with_reducible rfl))
  refine wpAnyH_take (i := 2) (v := ?v52r2n0q3) rfl (by kernel_rfl) (by kernel_rfl) (by kernel_rfl) (fun _ _ _ h => h) (Or.inl ⟨by kernel_rfl, ?hy52r2n0q3⟩) (by assumption) ?hr52r2n0q3
  case hy52r2n0q3 => (intro w hSw; (try dsimp only at hSw); (obtain ⟨c0, c1⟩ := HB.out w hSw); first | (go_simp; done) | (go_simp; with_reducible rfl))
  refine wpAnyH_take (i := 3) (v := ?v52r2n0q4) rfl (by kernel_rfl) (by kernel_rfl) (by kernel_rfl) (fun _ _ _ h => h) (Or.inl ⟨by kernel_rfl, ?hy52r2n0q4⟩) (by assumption) ?hr52r2n0q4
  case hy52r2n0q4 => (intro w hSw; (try dsimp only at hSw); (obtain ⟨c0, c1⟩ := HB.out w hSw); first | (go_simp; done) | (go_simp; with_reducible rfl))
  refine wpAnyH_take (i := 4) (v := ?v52r2n0q5) rfl (by kernel_rfl) (by kernel_rfl) (by kernel_rfl) (fun _ _ _ h => h) (Or.inl ⟨by kernel_rfl, ?hy52r2n0q5⟩) (by assumption) ?hr52r2n0q5
  case hy52r2n0q5 => (intro w hSw; (try dsimp only at hSw); (obtain ⟨c0, c1⟩ := HB.out w hSw); first | (go_simp; done) | (go_simp; with_reducible rfl))
  refine wpAnyH_take (i := 5) (v := ?v52r2n0q6) rfl (by kernel_rfl) (by kernel_rfl) (by kernel_rfl) (fun _ _ _ h => h) (Or.inl ⟨by kernel_rfl, ?hy52r2n0q6⟩) (by assumption) ?hr52r2n0q6
  case hy52r2n0q6 => (intro w hSw; (try dsimp only at hSw); (obtain ⟨c0, c1⟩ := HB.out w hSw); first | (go_simp; done) | (go_simp; with_reducible rfl))
  refine wpAnyH_take (i := 6) (v := ?v52r2n0q7) rfl (by kernel_rfl) (by kernel_rfl) (by kernel_rfl) (fun _ _ _ h => h) (Or.inl ⟨by kernel_rfl, ?hy52r2n0q7⟩) (by assumption) ?hr52r2n0q7
  case hy52r2n0q7 => (intro w hSw; (try dsimp only at hSw); (obtain ⟨c0, c1⟩ := HB.out w hSw); first | (go_simp; done) | (go_simp; with_reducible rfl))
  refine wpAnyH_take (i := 7) (v := ?v52r2n0q8) rfl (by kernel_rfl) (by kernel_rfl) (by kernel_rfl) (fun _ _ _ h => h) (Or.inl ⟨by kernel_rfl, ?hy52r2n0q8⟩) (by assumption) ?hr52r2n0q8
  case hy52r2n0q8 => (intro w hSw; (try dsimp only at hSw); (obtain ⟨c0, c1⟩ := HB.out w hSw); first | (go_simp; done) | (go_simp; with_reducible rfl))
  refine wpAnyH_take (i := 8) (v := ?v52r2n0q9) rfl (by kernel_rfl) (by kernel_rfl) (by kernel_rfl) (fun _ _ _ h => h) (Or.inl ⟨by kernel_rfl, ?hy52r2n0q9⟩) (by assumption) ?hr52r2n0q9
  case hy52r2n0q9 => (intro w hSw; (try dsimp only at hSw); (obtain ⟨c0, c1⟩ := HB.out w hSw); first | (go_simp; done) | (go_simp; with_reducible rfl))
  refine wpAnyH_take (i := 9) (v := ?v52r2n0q10) rfl (by kernel_rfl) (by kernel_rfl) (by kernel_rfl) (fun _ _ _ h => h) (Or.inl ⟨by kernel_rfl, ?hy52r2n0q10⟩) (by assumption) ?hr52r2n0q10
  case hy52r2n0q10 => (intro w hSw; (try dsimp only at hSw); (obtain ⟨c0, c1⟩ := HB.out w hSw); first | (go_simp; done) | (go_simp; with_reducible rfl))
  refine wpAnyH_ready (rs := [10]) (by kernel_rfl) (by simp) (AllReadyH.cons rfl (fun K hK => ?hc52r2n0q11) AllReadyH.nil)
  go_simp
  (go_at_call 27; refine (HA.out _ (HT.out.below hHeld)).mono ?_; rintro e' w7 ⟨rfl, rfl⟩; (try dsimp only))
  refine hK.out _ _ ?hs52r2n0q11 (fun hHeld52r2n0q11 => ?ht52r2n0q11)
  case hs52r2n0q11 => ((try dsimp only); (first | (with_reducible exact hHeld)))
  clear hHeld hK
  have hHeld := hHeld52r2n0q11
  clear hHeld52r2n0q11
  refine wpAnyH_take (i := 11) (v := ?v52r2n0q12) rfl (by kernel_rfl) (by kernel_rfl) (by kernel_rfl) (fun _ _ _ h => h) (Or.inl ⟨by kernel_rfl, ?hy52r2n0q12⟩) (by assumption) ?hr52r2n0q12
  case hy52r2n0q12 => (intro w hSw; (try dsimp only at hSw); (obtain ⟨c0, c1⟩ := HB.out w hSw); first | (go_simp; done) | (go_simp; with_reducible rfl))
  refine wpAnyH_done (by kernel_rfl) ?_ _
  clear hHeld
  refine NoPanic.normal ?_
  go_wp2
  go_ret
  exact ⟨⟨z, rfl, HZ.out⟩, HR.out.drew⟩
set_option maxHeartbeats 2000000 in
theorem phrase_any {P : Nat} {la : Option Addr} {lc : Nat} {l : List Int} (w : World) (h : Mk P la lc l w) :
    Calls Try.prog 75 #[.pointer (some ⟨P, 0, none⟩)] w fun e w' => (∃ s : ByteArray, e = .returned (.string s)) ∧ MkR P la lc l w w' := by
  have HM := hidep h
  clear h
  go_enter Try.func75, Try.ntmps75
  go_upto_region 2 with (fail)
  refine wp_abs (fun X => Below w.heap.size w X ∧ ∃ cs t, X.heap[w.heap.size]? = some (.cells cs t) ∧ cs.size = 12 ∧ ∀ v ∈ cs.toList, ∃ s, v = .string s) ⟨(Below.refl _ _).alloc (Nat.le_refl _) _, _, _, heap_alloc_new _ _, rfl, by simp⟩ ?_
  rintro X ⟨hX, cs, t, hq, hcs, hall⟩
  have hR := (MkR.refl HM.out).below hX
  have HT := hidep (takeM_any 12 X (hR.mk HM.out))
  obtain ⟨B, hB⟩ : ∃ B, B = w.heap.size := ⟨_, rfl⟩
  rw [← hB] at hq ⊢
  have hBP : B ≠ P := by have := HM.out.lt; omega
  have HR := hidep hR
  clear hB hX hR
  go_wp2_with (first
    | (go_at_call 52; refine HT.out.mono ?_; rintro e w1 ⟨⟨z, rfl, hz0, hz1, _⟩, hr1⟩; obtain ⟨zn, rfl⟩ : ∃ zn : Nat, z = (zn : Int) := ⟨z.toNat, by omega⟩; have hz12 : (zn : Int) < 12 := hz1 (by decide); obtain ⟨v, hc, s, rfl⟩ := lit_get (hr1.box hq hBP) hall (z := zn) (by omega))
    | fail)
  go_ret
  exact ⟨⟨_, rfl⟩, HR.out.trans hr1⟩
end Go.Proofs.Ytfljgcpfmhhgcaa
