/- Contracts: the code's bounds of a word (package table). -/
import Derived.Test.YtcfjepcflanjbaaBf06
namespace Go.Proofs.Ytcfjepcflanjbaa
open Go.RowKit Go.Lab Go.Shelf
set_option maxRecDepth 100000
/-- Is x a letter of the language at i? -/
def runB (l : List Sym) (i : Nat) (x : Int) : Bool :=
  decide (0 ≤ x) && (decide (x < l.length) && (decide ((symAt l x.toNat).lang = (symAt l i).lang) && letB (symAt l x.toNat).c))
set_option maxHeartbeats 1000000 in
theorem bounds1_any (v : Value) (l : List Sym) (i P1 P2 : Nat) (x : Int) (w : World) (h : SymsAt w v l) (hr : SymOk l) (_hl : l.length ≤ 1000000) (hi : i < l.length) (hp1 : w.cell? ⟨P1, 0, none⟩ = some v) (hp2 : w.cell? ⟨P2, 0, none⟩ = some (.int .i64 (i : Nat))) :
    Calls Try.prog 92 #[.int .i64 x, .pointer (some ⟨P1, 0, none⟩), .pointer (some ⟨P2, 0, none⟩)] w fun e w' => e = .returned (.bool (runB l i x)) ∧ ∃ n, w' = w.drewN n := by
  obtain ⟨a, cap, rfl, h2, h3⟩ := h.form
  unfold maxLen at h3
  by_cases h0 : 0 ≤ x
  case neg =>
    have g1 : ¬ x ≥ 0 := by omega
    have HF := hidep (show runB l i x = false from by unfold runB; rw [decide_eq_false h0, Bool.false_and])
    clear h hr h0
    go_enter Try.func92, Try.ntmps92
    go_upto_region 1 with (fail)
    go_quiet (fail)
    (try dsimp only [Exit.inBlock, Exit.then])
    (try apply_assumption)
    go_wp2
    go_ret
    exact ⟨by rw [HF.out]; rfl, _, rfl⟩
  obtain ⟨j, rfl⟩ : ∃ j : Nat, x = (j : Int) := ⟨x.toNat, by omega⟩
  by_cases hj : j < l.length
  case neg =>
    have g2 : ¬ (j : Int) < (l.length : Int) := by omega
    have HF := hidep (show runB l i (j : Int) = false from by unfold runB; rw [decide_eq_false g2, Bool.false_and, Bool.and_false])
    clear h hr
    go_enter Try.func92, Try.ntmps92
    go_upto_region 1 with (fail)
    go_quiet (fail)
    (try dsimp only [Exit.inBlock, Exit.then])
    (try apply_assumption)
    go_wp2
    go_ret
    exact ⟨by rw [HF.out]; rfl, _, rfl⟩
  obtain ⟨b, off, rfl, hb, hx0, hx1⟩ := h.at hj
  obtain ⟨b', off', hra, _, hz0, hz1⟩ := h.at hi
  injection hra with hra
  injection hra with hbb hoo
  subst hbb hoo
  have hxr := hr _ (List.getElem_mem hj)
  have HB := hidep (show runB l i (j : Int) = (decide (l[j].lang = l[i].lang) && letB l[j].c) from by
    unfold runB
    rw [decide_eq_true h0, decide_eq_true (by omega : (j : Int) < (l.length : Int)), Int.toNat_natCast, symAt_get hj, symAt_get hi]
    rfl)
  obtain ⟨x, hxd⟩ : ∃ x, x = l[j] := ⟨_, rfl⟩
  obtain ⟨z, hzd⟩ : ∃ z, z = l[i] := ⟨_, rfl⟩
  rw [← hxd] at hx0 hx1 hxr HB
  rw [← hzd] at hz0 hz1 HB
  clear hxd hzd
  obtain ⟨xl, xc⟩ := x
  obtain ⟨zl, zc⟩ := z
  simp only at hx0 hx1 hz0 hz1 hxr HB
  have HX := hidep (fun W => isLetter_any xc W ⟨hxr.1, hxr.2.1⟩)
  have hjl : (j : Int) < (l.length : Int) := by omega
  have hil : (i : Int) < (l.length : Int) := by omega
  have hi0 : (0 : Int) ≤ (i : Int) := by omega
  obtain ⟨n, hn⟩ : ∃ n, n = l.length := ⟨_, rfl⟩
  rw [← hn] at hjl hil hp1
  generalize letB xc = bx at HX HB
  clear h hr hxr hb
  by_cases c1 : xl = zl
  · have HF := hidep (HB.out.trans (by rw [decide_eq_true c1, Bool.true_and] : _ = bx))
    clear HB
    go_enter Try.func92, Try.ntmps92
    go_upto_region 1 with (fail)
    go_quiet ((go_at_call 57; refine (HX.out _).mono ?_; rintro e w' ⟨rfl, rfl⟩; exact ⟨rfl, _, rfl⟩))
    (try dsimp only [Exit.inBlock, Exit.then])
    (try apply_assumption)
    go_wp2
    go_ret
    exact ⟨by rw [HF.out]; rfl, _, rfl⟩
  · have HF := hidep (HB.out.trans (by rw [decide_eq_false c1, Bool.false_and] : _ = false))
    clear HB
    go_enter Try.func92, Try.ntmps92
    go_upto_region 1 with (fail)
    go_quiet (fail)
    (try dsimp only [Exit.inBlock, Exit.then])
    (try apply_assumption)
    go_wp2
    go_ret
    exact ⟨by rw [HF.out]; rfl, _, rfl⟩
theorem runB_rng {l : List Sym} {i : Nat} {x : Int} (h : runB l i x = true) : 0 ≤ x ∧ x < l.length := by
  unfold runB at h
  simp only [Bool.and_eq_true, decide_eq_true_eq] at h
  exact ⟨h.1, h.2.1⟩
/-- The boxes of bounds. -/
def BdX (w0 : World) (v : Value) (i : Nat) (Bx : Nat) (X : World) : Prop := Below w0.heap.size w0 X ∧ X.cell? ⟨Bx, 0, none⟩ = some v ∧ X.cell? ⟨Bx + 1, 0, none⟩ = some (.int .i64 (i : Nat))
theorem BdX.drewN {w0 : World} {v : Value} {i : Nat} {Bx : Nat} {X : World} (h : BdX w0 v i Bx X) (n : Nat) : BdX w0 v i Bx (X.drewN n) := ⟨below_drewN h.1 n, h.2.1, h.2.2⟩
set_option maxHeartbeats 1000000 in
theorem bounds_any (v : Value) (l : List Sym) (i : Nat) (w : World) (h : SymsAt w v l) (hr : SymOk l) (hl : l.length ≤ 1000000) (hi : i < l.length) :
    Calls Try.prog 78 #[v, .int .i64 (i : Nat)] w fun e w' => (∃ lo hh : Int, e = .returned (.tuple #[.int .i64 lo, .int .i64 hh]) ∧ Hid (lo ≤ i ∧ (lo < i ↔ runB l i ((i : Int) - 1) = true) ∧ (i : Int) ≤ hh ∧ (∀ x : Int, i ≤ x → x < hh → runB l i x = true) ∧ runB l i hh = false)) ∧ Below w.heap.size w w' := by
  obtain ⟨a, cap, rfl, h2, h3⟩ := h.form
  have HC := hidep (fun (X : World) (x : Int) Bx (hX : BdX w (.slice a l.length cap) i Bx X) => bounds1_any _ l i Bx (Bx + 1) x X (h.below hX.1) hr hl hi hX.2.1 hX.2.2)
  have HI := hidep hi
  have HL := hidep hl
  clear h hr
  go_enter Try.func78, Try.ntmps78
  go_upto_region 1 with (fail)
  obtain ⟨Bx, hBx⟩ : ∃ B, B = w.heap.size := ⟨_, rfl⟩
  have hB1 := (Below.refl w.heap.size w).alloc (Nat.le_refl _) (.cells #[.slice a l.length cap] 33)
  refine wp_abs (fun X => BdX w (.slice a l.length cap) i Bx X) ⟨hB1.alloc hB1.size _, ?_, ?_⟩ ?_
  · rw [hBx]; go_simp
  · rw [hBx]; go_simp
  have hsz : (w.alloc (.cells #[.slice a l.length cap] 33)).heap.size = Bx + 1 := by rw [hBx]; exact World.size_alloc ..
  try rw [hsz]
  rw [← hBx]
  clear hBx hsz hB1
  rintro X1 hX1
  have hp1 := hX1.2.1
  have hp2 := hX1.2.2
  go_quiet (fail)
  (try dsimp only [Exit.inBlock, Exit.then])
  (try apply_assumption)
  go_upto_region 3 with (fail)
  have HG := hidep (fun n => hX1.drewN n)
  clear hX1 hp1 hp2
  go_loopw [6] (fun iv wr => ∃ lo : Int, iv = .int .i64 lo ∧ Hid (0 ≤ lo ∧ lo ≤ i ∧ (∀ x : Int, lo ≤ x → x < i → runB l i x = true)) ∧ BdX w (.slice a l.length cap) i Bx wr) (fun iv _ => (intOf iv).toNat)
  case atStart => exact ⟨(i : Int), rfl, hidep ⟨by omega, by omega, fun x h1 h2 => by omega⟩, HG.out _⟩
  case round =>
    obtain ⟨lo, rfl, hlo, hX⟩ := hrel
    have HC1 := hidep (HC.out _ (lo - 1) Bx hX)
    have hw : IntKind.i64.wrap (lo - 1) = lo - 1 := IntWalk.i64_in _ (by have := hlo.out; have := HI.out; have := HL.out; omega)
    have hp1 := hX.2.1
    have hp2 := hX.2.2
    obtain ⟨rb, hrb⟩ : ∃ rb, rb = runB l i (lo - 1) := ⟨_, rfl⟩
    rw [← hrb] at HC1
    have HX := hidep hX
    have HRB := hidep hrb
    clear hX hrb
    cases rb with
    | true =>
      have hrg := runB_rng HRB.out.symm
      have hl0 := hlo.out
      have HL2 := hidep (show 0 ≤ lo - 1 ∧ lo - 1 ≤ i ∧ (∀ x : Int, lo - 1 ≤ x → x < i → runB l i x = true) from ⟨hrg.1, by omega, fun x h1 h2 => by
        by_cases hx : x = lo - 1
        · subst hx; exact HRB.out.symm
        · exact hl0.2.2 x (by omega) h2⟩)
      clear hl0
      go_wp2_with (go_at_call 92; refine HC1.out.mono ?_; rintro e w1 ⟨rfl, n1, hw1⟩; rw [hw1]; clear hw1)
      go_roundw
      case rel => exact ⟨lo - 1, rfl, HL2, HX.out.drewN _⟩
      case measure => simp [intOf]; omega
    | false =>
      have hl0 := hlo.out
      have HLO := hidep (show lo ≤ i ∧ (lo < i ↔ runB l i ((i : Int) - 1) = true) from ⟨hl0.2.1, by
        constructor
        · intro h; exact hl0.2.2 _ (by omega) (by omega)
        · intro h
          rcases (by omega : lo < i ∨ lo = i) with h3 | h3
          · exact h3
          · rw [← h3] at h; rw [h] at HRB; exact absurd HRB.out (by simp)⟩)
      clear hl0 hlo HRB
      go_upto_region 5 with (go_at_call 92; refine HC1.out.mono ?_; rintro e w1 ⟨rfl, n1, hw1⟩; rw [hw1]; clear hw1)
      have HG2 := hidep (HX.out.drewN n1)
      clear HX HC1 hp1 hp2 hw
      go_loopw [7] (fun iv wr => ∃ hh : Int, iv = .int .i64 hh ∧ Hid (i ≤ hh ∧ hh ≤ l.length ∧ (∀ x : Int, i ≤ x → x < hh → runB l i x = true)) ∧ BdX w (.slice a l.length cap) i Bx wr) (fun iv _ => l.length - (intOf iv).toNat)
      case atStart => exact ⟨(i : Int), rfl, hidep ⟨by omega, by have := HI.out; omega, fun x h1 h2 => by omega⟩, HG2.out⟩
      case round =>
        obtain ⟨hh, rfl, hlo, hX⟩ := hrel
        have HC1 := hidep (HC.out _ hh Bx hX)
        have hw : IntKind.i64.wrap (hh + 1) = hh + 1 := IntWalk.i64_in _ (by have := hlo.out; have := HI.out; have := HL.out; omega)
        have hp1 := hX.2.1
        have hp2 := hX.2.2
        obtain ⟨rb, hrb⟩ : ∃ rb, rb = runB l i hh := ⟨_, rfl⟩
        rw [← hrb] at HC1
        have HX := hidep hX
        have HRB := hidep hrb
        clear hX hrb
        have hl0 := hlo.out
        cases rb with
        | true =>
          have hrg := runB_rng HRB.out.symm
          have HL2 := hidep (show i ≤ hh + 1 ∧ hh + 1 ≤ l.length ∧ (∀ x : Int, i ≤ x → x < hh + 1 → runB l i x = true) from ⟨by omega, by omega, fun x h1 h2 => by
            by_cases hx : x = hh
            · subst hx; exact HRB.out.symm
            · exact hl0.2.2 x h1 (by omega)⟩)
          clear hl0
          go_wp2_with (go_at_call 92; refine HC1.out.mono ?_; rintro e w1 ⟨rfl, n1, hw1⟩; rw [hw1]; clear hw1)
          go_roundw
          case rel => exact ⟨hh + 1, rfl, HL2, HX.out.drewN _⟩
          case measure => simp [intOf]; omega
        | false =>
          have HR := hidep (And.intro HLO.out.1 (And.intro HLO.out.2 (And.intro hl0.1 (And.intro hl0.2.2 HRB.out.symm))))
          clear hl0
          go_wp2_with (go_at_call 92; refine HC1.out.mono ?_; rintro e w1 ⟨rfl, n1, hw1⟩; rw [hw1]; clear hw1)
          go_ret2
          exact ⟨⟨_, _, rfl, HR⟩, (HX.out.drewN _).1⟩
end Go.Proofs.Ytcfjepcflanjbaa
