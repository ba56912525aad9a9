/- Contract: a rule fits at a place (dactylref06.Fits). -/
import Derived.Test.YtcfjepcflanjbaaGreatBr07
namespace Go.Proofs.YtcfjepcflanjbaaGreat
open Go.RowKit Go.Lab Go.Shelf
set_option maxRecDepth 100000
def stepB (l : List Sym) (i : Nat) (s : ByteArray) (k : Nat) : Bool :=
  decide (lowZ (symAt l (i + k)).c = (byts s).getD k 0) && (decide ((symAt l (i + k)).lang = (symAt l i).lang) && !(decide (0 < k) && capB (symAt l (i + k)).c))
def litB (l : List Sym) (i : Nat) (s : ByteArray) : Bool := (List.range s.size).all (stepB l i s)
def ctxV (a b : Bool) (wh : Int) : Bool := if wh = 1 then !a && !b else if wh = 2 then !a && b else if wh = 3 then a else true
def fitsB (r : RuleZ) (l : List Sym) (i : Nat) : Bool :=
  decide (i + r.text.size <= l.length) && (litB l i r.text && (!lowsB r.text || ctxV (zq2a l i) (zq2a l (i + r.text.size)) r.wh))
def FtX (w0 : World) (s : ByteArray) (wh : Int) (u : Value) (Bx : Nat) (X : World) : Prop := Below w0.heap.size w0 X /\ X.heap[Bx]? = some (.cells #[.string s, .int .i64 wh, u] 59)
theorem FtX.below {w0 X X' : World} {s : ByteArray} {wh : Int} {u : Value} {Bx : Nat} (h : FtX w0 s wh u Bx X) (hb : Below X.heap.size X X') : FtX w0 s wh u Bx X' := ⟨h.1.trans (hb.mono h.1.size), zq0 hb h.2⟩
theorem FtX.c0 {w0 X : World} {s : ByteArray} {wh : Int} {u : Value} {Bx : Nat} (h : FtX w0 s wh u Bx X) : X.cell? ⟨Bx, 0, none⟩ = some (.string s) := by simp [World.cell?, h.2]
theorem FtX.c1 {w0 X : World} {s : ByteArray} {wh : Int} {u : Value} {Bx : Nat} (h : FtX w0 s wh u Bx X) : X.cell? ⟨Bx, 1, none⟩ = some (.int .i64 wh) := by simp [World.cell?, h.2]
def VF (l : List Sym) (i : Nat) (s : ByteArray) (w0 : World) (wh : Int) (u : Value) (Bx : Nat) (kv : Value) (wr : World) : Prop :=
  ∃ k : Nat, k <= s.size /\ kv = .int .i64 (k : Nat) /\ (∀ j, j < k -> stepB l i s j = true) /\ FtX w0 s wh u Bx wr
theorem litB_true {l : List Sym} {i : Nat} {s : ByteArray} (h : ∀ j, j < s.size -> stepB l i s j = true) : litB l i s = true := by
  unfold litB
  rw [List.all_eq_true]
  intro x hx
  exact h x (List.mem_range.1 hx)
theorem litB_false {l : List Sym} {i : Nat} {s : ByteArray} {k : Nat} (hk : k < s.size) (h : stepB l i s k = false) : litB l i s = false := by
  unfold litB
  rw [List.all_eq_false]
  exact ⟨k, List.mem_range.2 hk, by simp [h]⟩
set_option maxHeartbeats 4000000 in
theorem fitsR_any (r : RuleZ) (ua : Option Addr) (un uc : Nat) (v : Value) (l : List Sym) (i : Nat) (w : World) (hs : r.text.size <= 100000) (h : SymsAt w v l) (hr : SymOk l) (hl : l.length <= 1000000) (hi : i <= 1000000) :
    Calls Tryz.prog 59 #[.agg #[.string r.text, .int .i64 r.wh, .slice ua un uc], v, .int .i64 (i : Nat)] w fun e w' => e = .returned (.bool (fitsB r l i)) /\ Below w.heap.size w w' := by
  obtain ⟨a, cap, rfl, h2, h3⟩ := h.form
  unfold maxLen at h3
  obtain ⟨s, wh, cl⟩ := r
  simp only at hs ⊢
  obtain ⟨n, hn⟩ : ∃ n, n = l.length := ⟨_, rfl⟩
  rw [<- hn]
  by_cases hfit : i + s.size <= n
  case neg =>
    have g1 : (i : Int) + (s.size : Int) > (n : Int) := by omega
    have hw1 : IntKind.i64.wrap ((i : Int) + (s.size : Int)) = (i : Int) + (s.size : Int) := IntWalk.i64_in _ (by omega)
    have HF := hidep (show fitsB ⟨s, wh, cl⟩ l i = false from by unfold fitsB; simp only; rw [<- hn, decide_eq_false hfit, Bool.false_and])
    have HBX := hidep ((Below.refl w.heap.size w).alloc (Nat.le_refl _) (.cells #[.string s, .int .i64 wh, .slice ua un uc] 59))
    clear hn h hr hfit
    go_enter Tryz.func59, Tryz.ntmps59
    go_wp2
    go_ret
    exact ⟨by rw [HF.out]; rfl, HBX.out⟩
  have g1 : ¬ (i : Int) + (s.size : Int) > (n : Int) := by omega
  have hw1 : IntKind.i64.wrap ((i : Int) + (s.size : Int)) = (i : Int) + (s.size : Int) := IntWalk.i64_in _ (by omega)
  obtain ⟨lw, hlw⟩ : ∃ lw, lw = lowsB s := ⟨_, rfl⟩
  obtain ⟨ia, hia⟩ : ∃ ia, ia = zq2a l i := ⟨_, rfl⟩
  obtain ⟨ib, hib⟩ : ∃ ib, ib = zq2a l (i + s.size) := ⟨_, rfl⟩
  have HLT := hidep (show litB l i s = true -> fitsB ⟨s, wh, cl⟩ l i = (!lw || ctxV ia ib wh) from by
    intro hx; unfold fitsB; simp only; rw [<- hn, decide_eq_true hfit, hx, <- hlw, <- hia, <- hib]; rfl)
  have HLF := hidep (show litB l i s = false -> fitsB ⟨s, wh, cl⟩ l i = false from by
    intro hx; unfold fitsB; simp only; rw [hx, Bool.false_and, Bool.and_false])
  have HSM := hidep (fun W => zqb3 s W hs)
  rw [<- hlw] at HSM
  have HIA := hidep (fun W (hW : Below w.heap.size w W) => inWord_any _ l i W (h.below hW) hr hl (by omega))
  have HIB := hidep (fun W (hW : Below w.heap.size w W) => inWord_any _ l (i + s.size) W (h.below hW) hr hl (by omega))
  rw [<- hia, <- hn] at HIA
  rw [<- hib, <- hn] at HIB
  have HN := hidep hn
  have HH := hidep h
  have HR := hidep hr
  have HFIT := hidep hfit
  clear hn h hr hfit hlw hia hib
  go_enter Tryz.func59, Tryz.ntmps59
  go_upto_region 1 with (fail)
  obtain ⟨Bx, hBx⟩ : ∃ B, B = w.heap.size := ⟨_, rfl⟩
  refine zq9 (fun X => FtX w s wh (.slice ua un uc) Bx X) ⟨(Below.refl _ _).alloc (Nat.le_refl _) _, by rw [hBx]; exact heap_alloc_new _ _⟩ ?_
  rw [<- hBx]
  clear hBx
  rintro X1 hX1
  have hc0 := hX1.c0
  have HG := hidep (show VF l i s w wh (.slice ua un uc) Bx (.int .i64 0) X1 from ⟨0, Nat.zero_le _, rfl, fun j hj => by omega, hX1⟩)
  clear hX1
  go_upto_region 5 with (fail)
  clear hc0 g1 hw1
  refine wp_loop (LoopI 101 (fun tm ds wr => (slot tm 1) = .slice a n cap /\ (slot tm 2) = .int .i64 (i : Nat) /\ (slot tm 3) = .pointer (some ⟨Bx, 0, none⟩) /\ (slot tm 7) = .int .i64 (s.size : Nat) /\ ds = [] /\ VF l i s w wh (.slice ua un uc) Bx (slot tm 8) wr)) (fun a' wr => s.size - natI (a'.tmps.getD 8 undef)) ?flStart ?flRound
  case' flStart => refine LoopI.mk rfl ?_
  case' flRound => (rintro ⟨t, ds⟩ wr ⟨hts, hrel⟩; dsimp only at hts hrel; rw [frame101 t ds hts])
  case flStart => exact ⟨rfl, rfl, rfl, rfl, rfl, HG.out⟩
  clear HG
  obtain ⟨e1, e2, e3, e7, hds, k, hk, e8, hall, hX⟩ := hrel
  subst hds
  rw [e1, e2, e3, e7, e8]
  clear e1 e2 e3 e7 e8 hts
  have hc0 := hX.c0
  have hc1 := hX.c1
  by_cases hks : k < s.size
  · have hki : (k : Int) < (s.size : Int) := by omega
    have hk0 : (0 : Int) <= (k : Int) := by omega
    have hat := zq40 s k hks (by rw [zq1a]; exact hks)
    obtain ⟨y, hy⟩ : ∃ y, y = (byts s)[k]'(by rw [zq1a]; exact hks) := ⟨_, rfl⟩
    have hyd : (byts s).getD k 0 = y := by rw [List.getD_eq_getElem?_getD, List.getElem?_eq_getElem (by rw [zq1a]; exact hks), hy]; rfl
    rw [<- hy] at hat
    clear hy
    have hjl : i + k < l.length := by have := HFIT.out; have := HN.out; omega
    have hil : i < l.length := by omega
    have hrw := HH.out.below hX.1
    obtain ⟨b, off, rfl, hb, hx0, hx1⟩ := hrw.at hjl
    obtain ⟨b', off', hra, _, hz0, hz1⟩ := hrw.at hil
    injection hra with hra
    injection hra with hbb hoo
    subst hbb hoo
    have hxr := HR.out _ (List.getElem_mem hjl)
    have HSY := hidep (show symAt l (i + k) = l[i + k] /\ symAt l i = l[i] from ⟨zq37 hjl, zq37 hil⟩)
    obtain ⟨x, hxd⟩ : ∃ x, x = l[i + k] := ⟨_, rfl⟩
    obtain ⟨z, hzd⟩ : ∃ z, z = l[i] := ⟨_, rfl⟩
    rw [<- hxd] at hx0 hx1 hxr HSY
    rw [<- hzd] at hz0 hz1 HSY
    clear hxd hzd
    obtain ⟨xl, xc⟩ := x
    obtain ⟨zl, zc⟩ := z
    simp only at hx0 hx1 hz0 hz1 hxr
    have HST := hidep (show stepB l i s k = (decide (lowZ xc = y) && (decide (xl = zl) && !(decide (0 < k) && capB xc))) from by
      unfold stepB; rw [HSY.out.1, HSY.out.2, hyd])
    have HT := hidep (show stepB l i s k = true -> ∀ j, j < k + 1 -> stepB l i s j = true from fun hh j hj => by
      rcases (by omega : j < k \/ j = k) with h | rfl
      · exact hall j h
      · exact hh)
    have HF := hidep (show stepB l i s k = false -> fitsB ⟨s, wh, cl⟩ l i = false from fun hh => HLF.out (litB_false hks hh))
    have HLE := hidep (fun W => zq9b xc W ⟨hxr.1, hxr.2.1⟩)
    obtain ⟨lz, hlz⟩ : ∃ lz, lz = lowZ xc := ⟨_, rfl⟩
    obtain ⟨cb, hcb⟩ : ∃ cb, cb = capB xc := ⟨_, rfl⟩
    rw [<- hlz, <- hcb] at HLE HST
    generalize letB xc = tb at HLE
    obtain ⟨j, hj⟩ : ∃ j, j = i + k := ⟨_, rfl⟩
    rw [<- hj] at hx0 hx1
    have hjn : (j : Int) < (n : Int) := by have := HN.out; omega
    have hin : (i : Int) < (n : Int) := by have := HN.out; omega
    have hj0 : (0 : Int) <= (j : Int) := by omega
    have hi0 : (0 : Int) <= (i : Int) := by omega
    have hij : (i : Int) + (k : Int) = (j : Int) := by omega
    have hwj : IntKind.i64.wrap (j : Int) = (j : Int) := IntWalk.i64_in _ (by omega)
    have hwk : IntKind.i64.wrap ((k : Int) + 1) = (k : Int) + 1 := IntWalk.i64_in _ (by omega)
    have HX := hidep hX
    have HKS := hidep hks
    clear hall hX hrw hxr hlz hcb hyd hj hjl hil
    go_upto_region 8 with (go_at_call 58; refine (HLE.out _).mono ?_; rintro e w1 ⟨rfl, rfl⟩)
    by_cases c1 : lz = y
    case neg =>
      have HE := hidep (HF.out (by rw [HST.out, decide_eq_false c1, Bool.false_and]))
      go_quiet (fail)
      (try dsimp only [Exit.inBlock, Exit.then])
      (try apply_assumption)
      go_wp2
      go_ret
      exact ⟨by rw [HE.out]; rfl, (HX.out.below (zq6 (Below.refl _ _) _)).1⟩
    by_cases c2 : xl = zl
    case neg =>
      have HE := hidep (HF.out (by rw [HST.out, decide_eq_false c2, Bool.false_and, Bool.and_false]))
      go_quiet (fail)
      (try dsimp only [Exit.inBlock, Exit.then])
      (try apply_assumption)
      go_wp2
      go_ret
      exact ⟨by rw [HE.out]; rfl, (HX.out.below (zq6 (Below.refl _ _) _)).1⟩
    by_cases c3 : 0 < k
    case neg =>
      have HA := hidep (HT.out (by rw [HST.out, decide_eq_true c1, decide_eq_true c2, decide_eq_false c3]; rfl))
      have c3i : ¬ (k : Int) > 0 := by omega
      go_quiet (fail)
      (try dsimp only [Exit.inBlock, Exit.then])
      (try apply_assumption)
      go_wp2
      refine ⟨LoopI.mk rfl ⟨rfl, rfl, rfl, rfl, rfl, k + 1, by omega, by show Value.int _ _ = _; go_num, HA.out, HX.out.below (zq6 (Below.refl _ _) _)⟩, ?_⟩
      show s.size - _ < s.size - _
      simp [natI]; omega
    have c3i : (k : Int) > 0 := by omega
    cases cb with
    | true =>
      have HE := hidep (HF.out (by rw [HST.out, decide_eq_true c1, decide_eq_true c2, decide_eq_true c3]; rfl))
      go_quiet (fail)
      (try dsimp only [Exit.inBlock, Exit.then])
      (try apply_assumption)
      go_wp2
      go_ret
      exact ⟨by rw [HE.out]; rfl, (HX.out.below (zq6 (Below.refl _ _) _)).1⟩
    | false =>
      have HA := hidep (HT.out (by rw [HST.out, decide_eq_true c1, decide_eq_true c2, decide_eq_true c3]; rfl))
      go_quiet (fail)
      (try dsimp only [Exit.inBlock, Exit.then])
      (try apply_assumption)
      go_wp2
      refine ⟨LoopI.mk rfl ⟨rfl, rfl, rfl, rfl, rfl, k + 1, by omega, by show Value.int _ _ = _; go_num, HA.out, HX.out.below (zq6 (Below.refl _ _) _)⟩, ?_⟩
      show s.size - _ < s.size - _
      simp [natI]; omega
  · have hki : ¬ (k : Int) < (s.size : Int) := by omega
    have HTR := hidep (HLT.out (litB_true fun j hj => hall j (by omega)))
    have HX := hidep hX
    clear hall hX
    cases lw with
    | false =>
      have HE := hidep (HTR.out.trans (by rfl : _ = true))
      go_wp2_with (go_at_call 96; refine (HSM.out _).mono ?_; rintro e w1 ⟨rfl, rfl⟩)
      go_ret
      exact ⟨by rw [HE.out]; rfl, HX.out.1⟩
    | true =>
      have HCT := hidep (HTR.out.trans (by rfl : _ = ctxV ia ib wh))
      have hwn : IntKind.i64.wrap ((i : Int) + (s.size : Int)) = ((i + s.size : Nat) : Int) := by
        rw [show (i : Int) + (s.size : Int) = ((i + s.size : Nat) : Int) from by omega]
        exact IntWalk.i64_in _ (by have := HFIT.out; have := HN.out; omega)
      obtain ⟨ie, hie⟩ : ∃ ie, ie = i + s.size := ⟨_, rfl⟩
      rw [<- hie] at HIB hwn
      clear hie
      have HIA1 := hidep (HIA.out _ HX.out.1)
      go_upto_region 13 with (first
        | (go_at_call 96; refine (HSM.out _).mono ?_; rintro e w1 ⟨rfl, hw⟩; rw [hw]; clear hw)
        | (go_at_call 97; (with_reducible refine HIA1.out.mono ?_); rintro e w1 ⟨rfl, n1, hw⟩; rw [hw]; clear hw))
      clear HIA1 HIA HSM hc0
      by_cases c1 : wh = 1
      · have HE := hidep (HCT.out.trans (by unfold ctxV; rw [if_pos c1] : _ = (!ia && !ib)))
        clear HCT
        cases ia <;> cases ib
        all_goals
          go_wp2_with (go_at_call 97; (refine (HIB.out _ (zq6 HX.out.1 _)).mono ?_); rintro e w1 ⟨rfl, n2, hw⟩; rw [hw]; clear hw)
          go_ret
          exact ⟨by rw [HE.out]; rfl, zq6 HX.out.1 _⟩
      by_cases c2 : wh = 2
      · have HE := hidep (HCT.out.trans (by unfold ctxV; rw [if_neg c1, if_pos c2] : _ = (!ia && ib)))
        clear HCT
        cases ia <;> cases ib
        all_goals
          go_wp2_with (go_at_call 97; (refine (HIB.out _ (zq6 HX.out.1 _)).mono ?_); rintro e w1 ⟨rfl, n2, hw⟩; rw [hw]; clear hw)
          go_ret
          exact ⟨by rw [HE.out]; rfl, zq6 HX.out.1 _⟩
      by_cases c3 : wh = 3
      · have HE := hidep (HCT.out.trans (by unfold ctxV; rw [if_neg c1, if_neg c2, if_pos c3] : _ = ia))
        clear HCT
        cases ia
        all_goals
          go_wp2_with (go_at_call 97; (refine (HIB.out _ (zq6 HX.out.1 _)).mono ?_); rintro e w1 ⟨rfl, n2, hw⟩; rw [hw]; clear hw)
          go_ret
          exact ⟨by rw [HE.out]; rfl, zq6 HX.out.1 _⟩
      · have HE := hidep (HCT.out.trans (by unfold ctxV; rw [if_neg c1, if_neg c2, if_neg c3] : _ = true))
        clear HCT
        go_wp2_with (go_at_call 97; (refine (HIB.out _ (zq6 HX.out.1 _)).mono ?_); rintro e w1 ⟨rfl, n2, hw⟩; rw [hw]; clear hw)
        go_ret
        exact ⟨by rw [HE.out]; rfl, zq6 HX.out.1 _⟩
end Go.Proofs.YtcfjepcflanjbaaGreat
/- Contracts: the code's bounds of a word (package table). -/
namespace Go.Proofs.YtcfjepcflanjbaaGreat
open Go.RowKit Go.Lab Go.Shelf
set_option maxRecDepth 100000
def runB (l : List Sym) (i : Nat) (x : Int) : Bool :=
  decide (0 <= x) && (decide (x < l.length) && (decide ((symAt l x.toNat).lang = (symAt l i).lang) && letB (symAt l x.toNat).c))
set_option maxHeartbeats 1000000 in
theorem bounds1_any (v : Value) (l : List Sym) (i P1 P2 : Nat) (x : Int) (w : World) (h : SymsAt w v l) (hr : SymOk l) (_hl : l.length <= 1000000) (hi : i < l.length) (hp1 : w.cell? ⟨P1, 0, none⟩ = some v) (hp2 : w.cell? ⟨P2, 0, none⟩ = some (.int .i64 (i : Nat))) :
    Calls Tryz.prog 137 #[.int .i64 x, .pointer (some ⟨P1, 0, none⟩), .pointer (some ⟨P2, 0, none⟩)] w fun e w' => e = .returned (.bool (runB l i x)) /\ ∃ n, w' = w.drewN n := by
  obtain ⟨a, cap, rfl, h2, h3⟩ := h.form
  unfold maxLen at h3
  by_cases h0 : 0 <= x
  case neg =>
    have g1 : ¬ x >= 0 := by omega
    have HF := hidep (show runB l i x = false from by unfold runB; rw [decide_eq_false h0, Bool.false_and])
    clear h hr h0
    go_enter Tryz.func137, Tryz.ntmps137
    go_upto_region 1 with (fail)
    go_quiet (fail)
    (try dsimp only [Exit.inBlock, Exit.then])
    (try apply_assumption)
    go_wp2
    go_ret
    exact ⟨by rw [HF.out]; rfl, _, rfl⟩
  obtain ⟨j, rfl⟩ : ∃ j : Nat, x = (j : Int) := ⟨x.toNat, by omega⟩
  by_cases hj : j < l.length
  case neg =>
    have g2 : ¬ (j : Int) < (l.length : Int) := by omega
    have HF := hidep (show runB l i (j : Int) = false from by unfold runB; rw [decide_eq_false g2, Bool.false_and, Bool.and_false])
    clear h hr
    go_enter Tryz.func137, Tryz.ntmps137
    go_upto_region 1 with (fail)
    go_quiet (fail)
    (try dsimp only [Exit.inBlock, Exit.then])
    (try apply_assumption)
    go_wp2
    go_ret
    exact ⟨by rw [HF.out]; rfl, _, rfl⟩
  obtain ⟨b, off, rfl, hb, hx0, hx1⟩ := h.at hj
  obtain ⟨b', off', hra, _, hz0, hz1⟩ := h.at hi
  injection hra with hra
  injection hra with hbb hoo
  subst hbb hoo
  have hxr := hr _ (List.getElem_mem hj)
  have HB := hidep (show runB l i (j : Int) = (decide (l[j].lang = l[i].lang) && letB l[j].c) from by
    unfold runB
    rw [decide_eq_true h0, decide_eq_true (by omega : (j : Int) < (l.length : Int)), Int.toNat_natCast, zq37 hj, zq37 hi]
    rfl)
  obtain ⟨x, hxd⟩ : ∃ x, x = l[j] := ⟨_, rfl⟩
  obtain ⟨z, hzd⟩ : ∃ z, z = l[i] := ⟨_, rfl⟩
  rw [<- hxd] at hx0 hx1 hxr HB
  rw [<- hzd] at hz0 hz1 HB
  clear hxd hzd
  obtain ⟨xl, xc⟩ := x
  obtain ⟨zl, zc⟩ := z
  simp only at hx0 hx1 hz0 hz1 hxr HB
  have HX := hidep (fun W => isLetter_any xc W ⟨hxr.1, hxr.2.1⟩)
  have hjl : (j : Int) < (l.length : Int) := by omega
  have hil : (i : Int) < (l.length : Int) := by omega
  have hi0 : (0 : Int) <= (i : Int) := by omega
  obtain ⟨n, hn⟩ : ∃ n, n = l.length := ⟨_, rfl⟩
  rw [<- hn] at hjl hil hp1
  generalize letB xc = bx at HX HB
  clear h hr hxr hb
  by_cases c1 : xl = zl
  · have HF := hidep (HB.out.trans (by rw [decide_eq_true c1, Bool.true_and] : _ = bx))
    clear HB
    go_enter Tryz.func137, Tryz.ntmps137
    go_upto_region 1 with (fail)
    go_quiet ((go_at_call 103; refine (HX.out _).mono ?_; rintro e w' ⟨rfl, rfl⟩; exact ⟨rfl, _, rfl⟩))
    (try dsimp only [Exit.inBlock, Exit.then])
    (try apply_assumption)
    go_wp2
    go_ret
    exact ⟨by rw [HF.out]; rfl, _, rfl⟩
  · have HF := hidep (HB.out.trans (by rw [decide_eq_false c1, Bool.false_and] : _ = false))
    clear HB
    go_enter Tryz.func137, Tryz.ntmps137
    go_upto_region 1 with (fail)
    go_quiet (fail)
    (try dsimp only [Exit.inBlock, Exit.then])
    (try apply_assumption)
    go_wp2
    go_ret
    exact ⟨by rw [HF.out]; rfl, _, rfl⟩
theorem runB_rng {l : List Sym} {i : Nat} {x : Int} (h : runB l i x = true) : 0 <= x /\ x < l.length := by
  unfold runB at h
  simp only [Bool.and_eq_true, decide_eq_true_eq] at h
  exact ⟨h.1, h.2.1⟩
def BdX (w0 : World) (v : Value) (i : Nat) (Bx : Nat) (X : World) : Prop := Below w0.heap.size w0 X /\ X.cell? ⟨Bx, 0, none⟩ = some v /\ X.cell? ⟨Bx + 1, 0, none⟩ = some (.int .i64 (i : Nat))
theorem BdX.drewN {w0 : World} {v : Value} {i : Nat} {Bx : Nat} {X : World} (h : BdX w0 v i Bx X) (n : Nat) : BdX w0 v i Bx (X.drewN n) := ⟨zq6 h.1 n, h.2.1, h.2.2⟩
set_option maxHeartbeats 1000000 in
theorem bounds_any (v : Value) (l : List Sym) (i : Nat) (w : World) (h : SymsAt w v l) (hr : SymOk l) (hl : l.length <= 1000000) (hi : i < l.length) :
    Calls Tryz.prog 123 #[v, .int .i64 (i : Nat)] w fun e w' => (∃ lo hh : Int, e = .returned (.tuple #[.int .i64 lo, .int .i64 hh]) /\ Hid (lo <= i /\ (lo < i ↔ runB l i ((i : Int) - 1) = true) /\ (i : Int) <= hh /\ (∀ x : Int, i <= x -> x < hh -> runB l i x = true) /\ runB l i hh = false)) /\ Below w.heap.size w w' := by
  obtain ⟨a, cap, rfl, h2, h3⟩ := h.form
  have HC := hidep (fun (X : World) (x : Int) Bx (hX : BdX w (.slice a l.length cap) i Bx X) => bounds1_any _ l i Bx (Bx + 1) x X (h.below hX.1) hr hl hi hX.2.1 hX.2.2)
  have HI := hidep hi
  have HL := hidep hl
  clear h hr
  go_enter Tryz.func123, Tryz.ntmps123
  go_upto_region 1 with (fail)
  obtain ⟨Bx, hBx⟩ : ∃ B, B = w.heap.size := ⟨_, rfl⟩
  have hB1 := (Below.refl w.heap.size w).alloc (Nat.le_refl _) (.cells #[.slice a l.length cap] 31)
  refine zq9 (fun X => BdX w (.slice a l.length cap) i Bx X) ⟨hB1.alloc hB1.size _, ?_, ?_⟩ ?_
  · rw [hBx]; go_simp
  · rw [hBx]; go_simp
  have hsz : (w.alloc (.cells #[.slice a l.length cap] 31)).heap.size = Bx + 1 := by rw [hBx]; exact World.size_alloc ..
  try rw [hsz]
  rw [<- hBx]
  clear hBx hsz hB1
  rintro X1 hX1
  have hp1 := hX1.2.1
  have hp2 := hX1.2.2
  go_quiet (fail)
  (try dsimp only [Exit.inBlock, Exit.then])
  (try apply_assumption)
  go_upto_region 3 with (fail)
  have HG := hidep (fun n => hX1.drewN n)
  clear hX1 hp1 hp2
  go_loopw [6] (fun iv wr => ∃ lo : Int, iv = .int .i64 lo /\ Hid (0 <= lo /\ lo <= i /\ (∀ x : Int, lo <= x -> x < i -> runB l i x = true)) /\ BdX w (.slice a l.length cap) i Bx wr) (fun iv _ => (intOf iv).toNat)
  case atStart => exact ⟨(i : Int), rfl, hidep ⟨by omega, by omega, fun x h1 h2 => by omega⟩, HG.out _⟩
  case round =>
    obtain ⟨lo, rfl, hlo, hX⟩ := hrel
    have HC1 := hidep (HC.out _ (lo - 1) Bx hX)
    have hw : IntKind.i64.wrap (lo - 1) = lo - 1 := IntWalk.i64_in _ (by have := hlo.out; have := HI.out; have := HL.out; omega)
    have hp1 := hX.2.1
    have hp2 := hX.2.2
    obtain ⟨rb, hrb⟩ : ∃ rb, rb = runB l i (lo - 1) := ⟨_, rfl⟩
    rw [<- hrb] at HC1
    have HX := hidep hX
    have HRB := hidep hrb
    clear hX hrb
    cases rb with
    | true =>
      have hrg := runB_rng HRB.out.symm
      have hl0 := hlo.out
      have HL2 := hidep (show 0 <= lo - 1 /\ lo - 1 <= i /\ (∀ x : Int, lo - 1 <= x -> x < i -> runB l i x = true) from ⟨hrg.1, by omega, fun x h1 h2 => by
        by_cases hx : x = lo - 1
        · subst hx; exact HRB.out.symm
        · exact hl0.2.2 x (by omega) h2⟩)
      clear hl0
      go_wp2_with (go_at_call 137; refine HC1.out.mono ?_; rintro e w1 ⟨rfl, n1, hw1⟩; rw [hw1]; clear hw1)
      go_roundw
      case rel => exact ⟨lo - 1, rfl, HL2, HX.out.drewN _⟩
      case measure => simp [intOf]; omega
    | false =>
      have hl0 := hlo.out
      have HLO := hidep (show lo <= i /\ (lo < i ↔ runB l i ((i : Int) - 1) = true) from ⟨hl0.2.1, by
        constructor
        · intro h; exact hl0.2.2 _ (by omega) (by omega)
        · intro h
          rcases (by omega : lo < i \/ lo = i) with h3 | h3
          · exact h3
          · rw [<- h3] at h; rw [h] at HRB; exact absurd HRB.out (by simp)⟩)
      clear hl0 hlo HRB
      go_upto_region 5 with (go_at_call 137; refine HC1.out.mono ?_; rintro e w1 ⟨rfl, n1, hw1⟩; rw [hw1]; clear hw1)
      have HG2 := hidep (HX.out.drewN n1)
      clear HX HC1 hp1 hp2 hw
      go_loopw [7] (fun iv wr => ∃ hh : Int, iv = .int .i64 hh /\ Hid (i <= hh /\ hh <= l.length /\ (∀ x : Int, i <= x -> x < hh -> runB l i x = true)) /\ BdX w (.slice a l.length cap) i Bx wr) (fun iv _ => l.length - (intOf iv).toNat)
      case atStart => exact ⟨(i : Int), rfl, hidep ⟨by omega, by have := HI.out; omega, fun x h1 h2 => by omega⟩, HG2.out⟩
      case round =>
        obtain ⟨hh, rfl, hlo, hX⟩ := hrel
        have HC1 := hidep (HC.out _ hh Bx hX)
        have hw : IntKind.i64.wrap (hh + 1) = hh + 1 := IntWalk.i64_in _ (by have := hlo.out; have := HI.out; have := HL.out; omega)
        have hp1 := hX.2.1
        have hp2 := hX.2.2
        obtain ⟨rb, hrb⟩ : ∃ rb, rb = runB l i hh := ⟨_, rfl⟩
        rw [<- hrb] at HC1
        have HX := hidep hX
        have HRB := hidep hrb
        clear hX hrb
        have hl0 := hlo.out
        cases rb with
        | true =>
          have hrg := runB_rng HRB.out.symm
          have HL2 := hidep (show i <= hh + 1 /\ hh + 1 <= l.length /\ (∀ x : Int, i <= x -> x < hh + 1 -> runB l i x = true) from ⟨by omega, by omega, fun x h1 h2 => by
            by_cases hx : x = hh
            · subst hx; exact HRB.out.symm
            · exact hl0.2.2 x h1 (by omega)⟩)
          clear hl0
          go_wp2_with (go_at_call 137; refine HC1.out.mono ?_; rintro e w1 ⟨rfl, n1, hw1⟩; rw [hw1]; clear hw1)
          go_roundw
          case rel => exact ⟨hh + 1, rfl, HL2, HX.out.drewN _⟩
          case measure => simp [intOf]; omega
        | false =>
          have HR := hidep (And.intro HLO.out.1 (And.intro HLO.out.2 (And.intro hl0.1 (And.intro hl0.2.2 HRB.out.symm))))
          clear hl0
          go_wp2_with (go_at_call 137; refine HC1.out.mono ?_; rintro e w1 ⟨rfl, n1, hw1⟩; rw [hw1]; clear hw1)
          go_ret2
          exact ⟨⟨_, _, rfl, HR⟩, (HX.out.drewN _).1⟩
end Go.Proofs.YtcfjepcflanjbaaGreat
