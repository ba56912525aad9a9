/- Contract: a rule fits at a place (dactylref06.Fits). -/
import Derived.Test.YtcfjepcflanjbaaBf05
namespace Go.Proofs.Ytcfjepcflanjbaa
open Go.RowKit Go.Lab Go.Shelf
set_option maxRecDepth 100000
theorem range_map101 (f : Nat → Value) : (List.range 101).map f = [f 0, f 1, f 2, f 3, f 4, f 5, f 6, f 7, f 8, f 9, f 10, f 11, f 12, f 13, f 14, f 15, f 16, f 17, f 18, f 19, f 20, f 21, f 22, f 23, f 24, f 25, f 26, f 27, f 28, f 29, f 30, f 31, f 32, f 33, f 34, f 35, f 36, f 37, f 38, f 39, f 40, f 41, f 42, f 43, f 44, f 45, f 46, f 47, f 48, f 49, f 50, f 51, f 52, f 53, f 54, f 55, f 56, f 57, f 58, f 59, f 60, f 61, f 62, f 63, f 64, f 65, f 66, f 67, f 68, f 69, f 70, f 71, f 72, f 73, f 74, f 75, f 76, f 77, f 78, f 79, f 80, f 81, f 82, f 83, f 84, f 85, f 86, f 87, f 88, f 89, f 90, f 91, f 92, f 93, f 94, f 95, f 96, f 97, f 98, f 99, f 100] := rfl
theorem frame101 (t : Array Value) (ds : List Deferred) (h : t.size = 101) : ({ tmps := t, defers := ds } : Act) = { tmps := #[slot t 0, slot t 1, slot t 2, slot t 3, slot t 4, slot t 5, slot t 6, slot t 7, slot t 8, slot t 9, slot t 10, slot t 11, slot t 12, slot t 13, slot t 14, slot t 15, slot t 16, slot t 17, slot t 18, slot t 19, slot t 20, slot t 21, slot t 22, slot t 23, slot t 24, slot t 25, slot t 26, slot t 27, slot t 28, slot t 29, slot t 30, slot t 31, slot t 32, slot t 33, slot t 34, slot t 35, slot t 36, slot t 37, slot t 38, slot t 39, slot t 40, slot t 41, slot t 42, slot t 43, slot t 44, slot t 45, slot t 46, slot t 47, slot t 48, slot t 49, slot t 50, slot t 51, slot t 52, slot t 53, slot t 54, slot t 55, slot t 56, slot t 57, slot t 58, slot t 59, slot t 60, slot t 61, slot t 62, slot t 63, slot t 64, slot t 65, slot t 66, slot t 67, slot t 68, slot t 69, slot t 70, slot t 71, slot t 72, slot t 73, slot t 74, slot t 75, slot t 76, slot t 77, slot t 78, slot t 79, slot t 80, slot t 81, slot t 82, slot t 83, slot t 84, slot t 85, slot t 86, slot t 87, slot t 88, slot t 89, slot t 90, slot t 91, slot t 92, slot t 93, slot t 94, slot t 95, slot t 96, slot t 97, slot t 98, slot t 99, slot t 100], defers := ds } := by
  have e : t = ((List.range 101).map (slot t)).toArray := by
    apply Array.ext
    · simp [h]
    · intro i h1 h2
      simp [slot, Array.getD, h1]
  rw [range_map101] at e
  exact congrArg (fun x => ({ tmps := x, defers := ds } : Act)) e
def symAt (l : List Sym) (i : Nat) : Sym := l.getD i ⟨0, 0⟩
theorem symAt_get {l : List Sym} {i : Nat} (h : i < l.length) : symAt l i = l[i] := by
  unfold symAt
  rw [List.getD_eq_getElem?_getD, List.getElem?_eq_getElem h]
  rfl
/-- Characters as bytes, languages as integers. -/
def SymOk (l : List Sym) : Prop := ∀ x ∈ l, 0 ≤ x.c ∧ x.c < 256 ∧ -9223372036854775808 ≤ x.lang ∧ x.lang ≤ 9223372036854775807
def inWordB (l : List Sym) (i : Nat) : Bool := decide (1 ≤ i) && (decide (i < l.length) && (letB (symAt l (i - 1)).c && (letB (symAt l i).c && decide ((symAt l (i - 1)).lang = (symAt l i).lang))))
set_option maxHeartbeats 1000000 in
theorem inWord_any (v : Value) (l : List Sym) (i : Nat) (w : World) (h : SymsAt w v l) (hr : SymOk l) (_hl : l.length ≤ 1000000) (hi : i ≤ 1000000) :
    Calls Try.prog 67 #[v, .int .i64 (i : Nat)] w fun e w' => e = .returned (.bool (inWordB l i)) ∧ ∃ n, w' = w.drewN n := by
  obtain ⟨a, cap, rfl, h2, h3⟩ := h.form
  unfold maxLen at h3
  by_cases h1 : 1 ≤ i
  case neg =>
    have g1 : (i : Int) < 1 := by omega
    have HF := hidep (show inWordB l i = false from by unfold inWordB; rw [decide_eq_false h1, Bool.false_and])
    go_enter Try.func67, Try.ntmps67
    go_wp2
    go_ret
    exact ⟨by rw [HF.out]; rfl, 0, rfl⟩
  have g1 : ¬ (i : Int) < 1 := by omega
  by_cases hil : i < l.length
  case neg =>
    have g2 : (i : Int) ≥ (l.length : Int) := by omega
    have HF := hidep (show inWordB l i = false from by unfold inWordB; rw [decide_eq_false hil, Bool.false_and, Bool.and_false])
    go_enter Try.func67, Try.ntmps67
    go_wp2
    go_ret
    exact ⟨by rw [HF.out]; rfl, 0, rfl⟩
  have g2 : ¬ (i : Int) ≥ (l.length : Int) := by omega
  obtain ⟨m, rfl⟩ : ∃ m, i = m + 1 := ⟨i - 1, by omega⟩
  have hml : m < l.length := by omega
  obtain ⟨b, off, rfl, hb, hc0, hc1⟩ := h.at hil
  obtain ⟨b', off', hra, _, hd0, hd1⟩ := h.at hml
  injection hra with hra
  injection hra with hbb hoo
  subst hbb hoo
  have hx := hr _ (List.getElem_mem hil)
  have hy := hr _ (List.getElem_mem hml)
  obtain ⟨x, hxd⟩ : ∃ x, x = l[m + 1] := ⟨_, rfl⟩
  obtain ⟨y, hyd⟩ : ∃ y, y = l[m] := ⟨_, rfl⟩
  have HB := hidep (show inWordB l (m + 1) = (letB y.c && (letB x.c && decide (y.lang = x.lang))) from by
    unfold inWordB
    rw [decide_eq_true h1, decide_eq_true hil, symAt_get hil, Nat.add_sub_cancel, symAt_get hml, ← hxd, ← hyd]
    rfl)
  rw [← hxd] at hc0 hc1 hx
  rw [← hyd] at hd0 hd1 hy
  obtain ⟨xl, xc⟩ := x
  obtain ⟨yl, yc⟩ := y
  simp only at hc0 hc1 hd0 hd1 hx hy HB
  have hw : IntKind.i64.wrap (((m + 1 : Nat) : Int) - 1) = (m : Int) := by rw [show ((m + 1 : Nat) : Int) - 1 = (m : Int) from by omega]; exact IntWalk.i64_in _ (by omega)
  have hw2 : IntKind.i64.wrap (m : Int) = (m : Int) := IntWalk.i64_in _ (by omega)
  have HX := hidep (fun W => isR_any xc W ⟨hx.1, hx.2.1⟩)
  have HY := hidep (fun W => isR_any yc W ⟨hy.1, hy.2.1⟩)
  obtain ⟨bx, hbx⟩ : ∃ b, b = letB xc := ⟨_, rfl⟩
  obtain ⟨by_, hby⟩ : ∃ b, b = letB yc := ⟨_, rfl⟩
  rw [← hbx] at HX HB
  rw [← hby] at HY HB
  have hlen : (m : Int) + 1 < (l.length : Int) := by omega
  have hlen2 : (m : Int) < (l.length : Int) := by omega
  have hp1 : (0 : Int) ≤ (m : Int) := by omega
  have hp2 : (0 : Int) ≤ (m : Int) + 1 := by omega
  obtain ⟨im, him⟩ : ∃ im : Int, im = ((m + 1 : Nat) : Int) := ⟨_, rfl⟩
  obtain ⟨n, hn⟩ : ∃ n, n = l.length := ⟨_, rfl⟩
  clear hxd hyd hx hy hr hb hbx hby
  cases by_ with
  | false =>
    have HF := hidep (HB.out.trans (by rw [Bool.false_and] : _ = false))
    clear HB
    go_enter Try.func67, Try.ntmps67
    go_upto_region 3 with (fail)
    go_quiet ((go_at_call 79; refine (HY.out _).mono ?_; rintro e w' ⟨rfl, rfl⟩; exact ⟨rfl, _, rfl⟩))
    (try dsimp only [Exit.inBlock, Exit.then])
    (try apply_assumption)
    go_wp2
    go_ret
    exact ⟨by rw [HF.out]; rfl, _, rfl⟩
  | true =>
    cases bx with
    | false =>
      have HF := hidep (HB.out.trans (by rw [Bool.true_and, Bool.false_and] : _ = false))
      clear HB
      go_enter Try.func67, Try.ntmps67
      go_upto_region 3 with (fail)
      go_quiet ((go_at_call 79; first | ((with_reducible refine (HY.out _).mono ?_); rintro e w' ⟨rfl, rfl⟩; exact ⟨rfl, _, rfl⟩) | ((with_reducible refine (HX.out _).mono ?_); rintro e w' ⟨rfl, rfl⟩; exact ⟨rfl, _, rfl⟩)))
      (try dsimp only [Exit.inBlock, Exit.then])
      (try apply_assumption)
      go_wp2
      go_ret
      exact ⟨by rw [HF.out]; rfl, _, rfl⟩
    | true =>
      have HF := hidep (HB.out.trans (by rw [Bool.true_and, Bool.true_and] : _ = decide (yl = xl)))
      clear HB
      go_enter Try.func67, Try.ntmps67
      go_upto_region 3 with (fail)
      go_quiet ((go_at_call 79; first | ((with_reducible refine (HY.out _).mono ?_); rintro e w' ⟨rfl, rfl⟩; exact ⟨rfl, _, rfl⟩) | ((with_reducible refine (HX.out _).mono ?_); rintro e w' ⟨rfl, rfl⟩; exact ⟨rfl, _, rfl⟩)))
      (try dsimp only [Exit.inBlock, Exit.then])
      (try apply_assumption)
      go_wp2
      go_ret
      exact ⟨by rw [HF.out]; rfl, _, rfl⟩
end Go.Proofs.Ytcfjepcflanjbaa
/- Contract: a rule fits at a place (dactylref06.Fits). -/
namespace Go.Proofs.Ytcfjepcflanjbaa
open Go.RowKit Go.Lab Go.Shelf
set_option maxRecDepth 100000
/-- The rule's k-th character stands at its place. -/
def stepB (l : List Sym) (i : Nat) (s : ByteArray) (k : Nat) : Bool :=
  decide (lowZ (symAt l (i + k)).c = (byts s).getD k 0) && (decide ((symAt l (i + k)).lang = (symAt l i).lang) && !(decide (0 < k) && capB (symAt l (i + k)).c))
def litB (l : List Sym) (i : Nat) (s : ByteArray) : Bool := (List.range s.size).all (stepB l i s)
def ctxV (a b : Bool) (wh : Int) : Bool := if wh = 1 then !a && !b else if wh = 2 then !a && b else if wh = 3 then a else true
def fitsB (r : RuleZ) (l : List Sym) (i : Nat) : Bool :=
  decide (i + r.text.size ≤ l.length) && (litB l i r.text && (!lowsB r.text || ctxV (inWordB l i) (inWordB l (i + r.text.size)) r.wh))
/-- The box of a rule. -/
def FtX (w0 : World) (s : ByteArray) (wh : Int) (u : Value) (Bx : Nat) (X : World) : Prop := Below w0.heap.size w0 X ∧ X.heap[Bx]? = some (.cells #[.string s, .int .i64 wh, u] 51)
theorem FtX.below {w0 X X' : World} {s : ByteArray} {wh : Int} {u : Value} {Bx : Nat} (h : FtX w0 s wh u Bx X) (hb : Below X.heap.size X X') : FtX w0 s wh u Bx X' := ⟨h.1.trans (hb.mono h.1.size), below_push hb h.2⟩
theorem FtX.c0 {w0 X : World} {s : ByteArray} {wh : Int} {u : Value} {Bx : Nat} (h : FtX w0 s wh u Bx X) : X.cell? ⟨Bx, 0, none⟩ = some (.string s) := by simp [World.cell?, h.2]
theorem FtX.c1 {w0 X : World} {s : ByteArray} {wh : Int} {u : Value} {Bx : Nat} (h : FtX w0 s wh u Bx X) : X.cell? ⟨Bx, 1, none⟩ = some (.int .i64 wh) := by simp [World.cell?, h.2]
def VF (l : List Sym) (i : Nat) (s : ByteArray) (w0 : World) (wh : Int) (u : Value) (Bx : Nat) (kv : Value) (wr : World) : Prop :=
  ∃ k : Nat, k ≤ s.size ∧ kv = .int .i64 (k : Nat) ∧ (∀ j, j < k → stepB l i s j = true) ∧ FtX w0 s wh u Bx wr
theorem litB_true {l : List Sym} {i : Nat} {s : ByteArray} (h : ∀ j, j < s.size → stepB l i s j = true) : litB l i s = true := by
  unfold litB
  rw [List.all_eq_true]
  intro x hx
  exact h x (List.mem_range.1 hx)
theorem litB_false {l : List Sym} {i : Nat} {s : ByteArray} {k : Nat} (hk : k < s.size) (h : stepB l i s k = false) : litB l i s = false := by
  unfold litB
  rw [List.all_eq_false]
  exact ⟨k, List.mem_range.2 hk, by simp [h]⟩
set_option maxHeartbeats 4000000 in
theorem fitsR_any (r : RuleZ) (ua : Option Addr) (un uc : Nat) (v : Value) (l : List Sym) (i : Nat) (w : World) (hs : r.text.size ≤ 100000) (h : SymsAt w v l) (hr : SymOk l) (hl : l.length ≤ 1000000) (hi : i ≤ 1000000) :
    Calls Try.prog 41 #[.agg #[.string r.text, .int .i64 r.wh, .slice ua un uc], v, .int .i64 (i : Nat)] w fun e w' => e = .returned (.bool (fitsB r l i)) ∧ Below w.heap.size w w' := by
  obtain ⟨a, cap, rfl, h2, h3⟩ := h.form
  unfold maxLen at h3
  obtain ⟨s, wh, cl⟩ := r
  simp only at hs ⊢
  obtain ⟨n, hn⟩ : ∃ n, n = l.length := ⟨_, rfl⟩
  rw [← hn]
  by_cases hfit : i + s.size ≤ n
  case neg =>
    have g1 : (i : Int) + (s.size : Int) > (n : Int) := by omega
    have hw1 : IntKind.i64.wrap ((i : Int) + (s.size : Int)) = (i : Int) + (s.size : Int) := IntWalk.i64_in _ (by omega)
    have HF := hidep (show fitsB ⟨s, wh, cl⟩ l i = false from by unfold fitsB; simp only; rw [← hn, decide_eq_false hfit, Bool.false_and])
    have HBX := hidep ((Below.refl w.heap.size w).alloc (Nat.le_refl _) (.cells #[.string s, .int .i64 wh, .slice ua un uc] 51))
    clear hn h hr hfit
    go_enter Try.func41, Try.ntmps41
    go_wp2
    go_ret
    exact ⟨by rw [HF.out]; rfl, HBX.out⟩
  have g1 : ¬ (i : Int) + (s.size : Int) > (n : Int) := by omega
  have hw1 : IntKind.i64.wrap ((i : Int) + (s.size : Int)) = (i : Int) + (s.size : Int) := IntWalk.i64_in _ (by omega)
  obtain ⟨lw, hlw⟩ : ∃ lw, lw = lowsB s := ⟨_, rfl⟩
  obtain ⟨ia, hia⟩ : ∃ ia, ia = inWordB l i := ⟨_, rfl⟩
  obtain ⟨ib, hib⟩ : ∃ ib, ib = inWordB l (i + s.size) := ⟨_, rfl⟩
  have HLT := hidep (show litB l i s = true → fitsB ⟨s, wh, cl⟩ l i = (!lw || ctxV ia ib wh) from by
    intro hx; unfold fitsB; simp only; rw [← hn, decide_eq_true hfit, hx, ← hlw, ← hia, ← hib]; rfl)
  have HLF := hidep (show litB l i s = false → fitsB ⟨s, wh, cl⟩ l i = false from by
    intro hx; unfold fitsB; simp only; rw [hx, Bool.false_and, Bool.and_false])
  have HSM := hidep (fun W => smallR_any s W hs)
  rw [← hlw] at HSM
  have HIA := hidep (fun W (hW : Below w.heap.size w W) => inWord_any _ l i W (h.below hW) hr hl (by omega))
  have HIB := hidep (fun W (hW : Below w.heap.size w W) => inWord_any _ l (i + s.size) W (h.below hW) hr hl (by omega))
  rw [← hia, ← hn] at HIA
  rw [← hib, ← hn] at HIB
  have HN := hidep hn
  have HH := hidep h
  have HR := hidep hr
  have HFIT := hidep hfit
  clear hn h hr hfit hlw hia hib
  go_enter Try.func41, Try.ntmps41
  go_upto_region 1 with (fail)
  obtain ⟨Bx, hBx⟩ : ∃ B, B = w.heap.size := ⟨_, rfl⟩
  refine wp_abs (fun X => FtX w s wh (.slice ua un uc) Bx X) ⟨(Below.refl _ _).alloc (Nat.le_refl _) _, by rw [hBx]; exact heap_alloc_new _ _⟩ ?_
  rw [← hBx]
  clear hBx
  rintro X1 hX1
  have hc0 := hX1.c0
  have HG := hidep (show VF l i s w wh (.slice ua un uc) Bx (.int .i64 0) X1 from ⟨0, Nat.zero_le _, rfl, fun j hj => by omega, hX1⟩)
  clear hX1
  go_upto_region 5 with (fail)
  clear hc0 g1 hw1
  refine wp_loop (LoopI 101 (fun tm ds wr => (slot tm 1) = .slice a n cap ∧ (slot tm 2) = .int .i64 (i : Nat) ∧ (slot tm 3) = .pointer (some ⟨Bx, 0, none⟩) ∧ (slot tm 7) = .int .i64 (s.size : Nat) ∧ ds = [] ∧ VF l i s w wh (.slice ua un uc) Bx (slot tm 8) wr)) (fun a' wr => s.size - natI (a'.tmps.getD 8 undef)) ?flStart ?flRound
  case' flStart => refine LoopI.mk rfl ?_
  case' flRound => (rintro ⟨t, ds⟩ wr ⟨hts, hrel⟩; dsimp only at hts hrel; rw [frame101 t ds hts])
  case flStart => exact ⟨rfl, rfl, rfl, rfl, rfl, HG.out⟩
  clear HG
  obtain ⟨e1, e2, e3, e7, hds, k, hk, e8, hall, hX⟩ := hrel
  subst hds
  rw [e1, e2, e3, e7, e8]
  clear e1 e2 e3 e7 e8 hts
  have hc0 := hX.c0
  have hc1 := hX.c1
  by_cases hks : k < s.size
  · have hki : (k : Int) < (s.size : Int) := by omega
    have hk0 : (0 : Int) ≤ (k : Int) := by omega
    have hat := byts_at s k hks (by rw [byts_len]; exact hks)
    obtain ⟨y, hy⟩ : ∃ y, y = (byts s)[k]'(by rw [byts_len]; exact hks) := ⟨_, rfl⟩
    have hyd : (byts s).getD k 0 = y := by rw [List.getD_eq_getElem?_getD, List.getElem?_eq_getElem (by rw [byts_len]; exact hks), hy]; rfl
    rw [← hy] at hat
    clear hy
    have hjl : i + k < l.length := by have := HFIT.out; have := HN.out; omega
    have hil : i < l.length := by omega
    have hrw := HH.out.below hX.1
    obtain ⟨b, off, rfl, hb, hx0, hx1⟩ := hrw.at hjl
    obtain ⟨b', off', hra, _, hz0, hz1⟩ := hrw.at hil
    injection hra with hra
    injection hra with hbb hoo
    subst hbb hoo
    have hxr := HR.out _ (List.getElem_mem hjl)
    have HSY := hidep (show symAt l (i + k) = l[i + k] ∧ symAt l i = l[i] from ⟨symAt_get hjl, symAt_get hil⟩)
    obtain ⟨x, hxd⟩ : ∃ x, x = l[i + k] := ⟨_, rfl⟩
    obtain ⟨z, hzd⟩ : ∃ z, z = l[i] := ⟨_, rfl⟩
    rw [← hxd] at hx0 hx1 hxr HSY
    rw [← hzd] at hz0 hz1 HSY
    clear hxd hzd
    obtain ⟨xl, xc⟩ := x
    obtain ⟨zl, zc⟩ := z
    simp only at hx0 hx1 hz0 hz1 hxr
    have HST := hidep (show stepB l i s k = (decide (lowZ xc = y) && (decide (xl = zl) && !(decide (0 < k) && capB xc))) from by
      unfold stepB; rw [HSY.out.1, HSY.out.2, hyd])
    have HT := hidep (show stepB l i s k = true → ∀ j, j < k + 1 → stepB l i s j = true from fun hh j hj => by
      rcases (by omega : j < k ∨ j = k) with h | rfl
      · exact hall j h
      · exact hh)
    have HF := hidep (show stepB l i s k = false → fitsB ⟨s, wh, cl⟩ l i = false from fun hh => HLF.out (litB_false hks hh))
    have HLE := hidep (fun W => letterR_any xc W ⟨hxr.1, hxr.2.1⟩)
    obtain ⟨lz, hlz⟩ : ∃ lz, lz = lowZ xc := ⟨_, rfl⟩
    obtain ⟨cb, hcb⟩ : ∃ cb, cb = capB xc := ⟨_, rfl⟩
    rw [← hlz, ← hcb] at HLE HST
    generalize letB xc = tb at HLE
    obtain ⟨j, hj⟩ : ∃ j, j = i + k := ⟨_, rfl⟩
    rw [← hj] at hx0 hx1
    have hjn : (j : Int) < (n : Int) := by have := HN.out; omega
    have hin : (i : Int) < (n : Int) := by have := HN.out; omega
    have hj0 : (0 : Int) ≤ (j : Int) := by omega
    have hi0 : (0 : Int) ≤ (i : Int) := by omega
    have hij : (i : Int) + (k : Int) = (j : Int) := by omega
    have hwj : IntKind.i64.wrap (j : Int) = (j : Int) := IntWalk.i64_in _ (by omega)
    have hwk : IntKind.i64.wrap ((k : Int) + 1) = (k : Int) + 1 := IntWalk.i64_in _ (by omega)
    have HX := hidep hX
    have HKS := hidep hks
    clear hall hX hrw hxr hlz hcb hyd hj hjl hil
    go_upto_region 8 with (go_at_call 40; refine (HLE.out _).mono ?_; rintro e w1 ⟨rfl, rfl⟩)
    by_cases c1 : lz = y
    case neg =>
      have HE := hidep (HF.out (by rw [HST.out, decide_eq_false c1, Bool.false_and]))
      go_quiet (fail)
      (try dsimp only [Exit.inBlock, Exit.then])
      (try apply_assumption)
      go_wp2
      go_ret
      exact ⟨by rw [HE.out]; rfl, (HX.out.below (below_drewN (Below.refl _ _) _)).1⟩
    by_cases c2 : xl = zl
    case neg =>
      have HE := hidep (HF.out (by rw [HST.out, decide_eq_false c2, Bool.false_and, Bool.and_false]))
      go_quiet (fail)
      (try dsimp only [Exit.inBlock, Exit.then])
      (try apply_assumption)
      go_wp2
      go_ret
      exact ⟨by rw [HE.out]; rfl, (HX.out.below (below_drewN (Below.refl _ _) _)).1⟩
    by_cases c3 : 0 < k
    case neg =>
      have HA := hidep (HT.out (by rw [HST.out, decide_eq_true c1, decide_eq_true c2, decide_eq_false c3]; rfl))
      have c3i : ¬ (k : Int) > 0 := by omega
      go_quiet (fail)
      (try dsimp only [Exit.inBlock, Exit.then])
      (try apply_assumption)
      go_wp2
      refine ⟨LoopI.mk rfl ⟨rfl, rfl, rfl, rfl, rfl, k + 1, by omega, by show Value.int _ _ = _; go_num, HA.out, HX.out.below (below_drewN (Below.refl _ _) _)⟩, ?_⟩
      show s.size - _ < s.size - _
      simp [natI]; omega
    have c3i : (k : Int) > 0 := by omega
    cases cb with
    | true =>
      have HE := hidep (HF.out (by rw [HST.out, decide_eq_true c1, decide_eq_true c2, decide_eq_true c3]; rfl))
      go_quiet (fail)
      (try dsimp only [Exit.inBlock, Exit.then])
      (try apply_assumption)
      go_wp2
      go_ret
      exact ⟨by rw [HE.out]; rfl, (HX.out.below (below_drewN (Below.refl _ _) _)).1⟩
    | false =>
      have HA := hidep (HT.out (by rw [HST.out, decide_eq_true c1, decide_eq_true c2, decide_eq_true c3]; rfl))
      go_quiet (fail)
      (try dsimp only [Exit.inBlock, Exit.then])
      (try apply_assumption)
      go_wp2
      refine ⟨LoopI.mk rfl ⟨rfl, rfl, rfl, rfl, rfl, k + 1, by omega, by show Value.int _ _ = _; go_num, HA.out, HX.out.below (below_drewN (Below.refl _ _) _)⟩, ?_⟩
      show s.size - _ < s.size - _
      simp [natI]; omega
  · have hki : ¬ (k : Int) < (s.size : Int) := by omega
    have HTR := hidep (HLT.out (litB_true fun j hj => hall j (by omega)))
    have HX := hidep hX
    clear hall hX
    cases lw with
    | false =>
      have HE := hidep (HTR.out.trans (by rfl : _ = true))
      go_wp2_with (go_at_call 66; refine (HSM.out _).mono ?_; rintro e w1 ⟨rfl, rfl⟩)
      go_ret
      exact ⟨by rw [HE.out]; rfl, HX.out.1⟩
    | true =>
      have HCT := hidep (HTR.out.trans (by rfl : _ = ctxV ia ib wh))
      have hwn : IntKind.i64.wrap ((i : Int) + (s.size : Int)) = ((i + s.size : Nat) : Int) := by
        rw [show (i : Int) + (s.size : Int) = ((i + s.size : Nat) : Int) from by omega]
        exact IntWalk.i64_in _ (by have := HFIT.out; have := HN.out; omega)
      obtain ⟨ie, hie⟩ : ∃ ie, ie = i + s.size := ⟨_, rfl⟩
      rw [← hie] at HIB hwn
      clear hie
      have HIA1 := hidep (HIA.out _ HX.out.1)
      go_upto_region 13 with (first
        | (go_at_call 66; refine (HSM.out _).mono ?_; rintro e w1 ⟨rfl, hw⟩; rw [hw]; clear hw)
        | (go_at_call 67; (with_reducible refine HIA1.out.mono ?_); rintro e w1 ⟨rfl, n1, hw⟩; rw [hw]; clear hw))
      clear HIA1 HIA HSM hc0
      by_cases c1 : wh = 1
      · have HE := hidep (HCT.out.trans (by unfold ctxV; rw [if_pos c1] : _ = (!ia && !ib)))
        clear HCT
        cases ia <;> cases ib
        all_goals
          go_wp2_with (go_at_call 67; (refine (HIB.out _ (below_drewN HX.out.1 _)).mono ?_); rintro e w1 ⟨rfl, n2, hw⟩; rw [hw]; clear hw)
          go_ret
          exact ⟨by rw [HE.out]; rfl, below_drewN HX.out.1 _⟩
      by_cases c2 : wh = 2
      · have HE := hidep (HCT.out.trans (by unfold ctxV; rw [if_neg c1, if_pos c2] : _ = (!ia && ib)))
        clear HCT
        cases ia <;> cases ib
        all_goals
          go_wp2_with (go_at_call 67; (refine (HIB.out _ (below_drewN HX.out.1 _)).mono ?_); rintro e w1 ⟨rfl, n2, hw⟩; rw [hw]; clear hw)
          go_ret
          exact ⟨by rw [HE.out]; rfl, below_drewN HX.out.1 _⟩
      by_cases c3 : wh = 3
      · have HE := hidep (HCT.out.trans (by unfold ctxV; rw [if_neg c1, if_neg c2, if_pos c3] : _ = ia))
        clear HCT
        cases ia
        all_goals
          go_wp2_with (go_at_call 67; (refine (HIB.out _ (below_drewN HX.out.1 _)).mono ?_); rintro e w1 ⟨rfl, n2, hw⟩; rw [hw]; clear hw)
          go_ret
          exact ⟨by rw [HE.out]; rfl, below_drewN HX.out.1 _⟩
      · have HE := hidep (HCT.out.trans (by unfold ctxV; rw [if_neg c1, if_neg c2, if_neg c3] : _ = true))
        clear HCT
        go_wp2_with (go_at_call 67; (refine (HIB.out _ (below_drewN HX.out.1 _)).mono ?_); rintro e w1 ⟨rfl, n2, hw⟩; rw [hw]; clear hw)
        go_ret
        exact ⟨by rw [HE.out]; rfl, below_drewN HX.out.1 _⟩
end Go.Proofs.Ytcfjepcflanjbaa
