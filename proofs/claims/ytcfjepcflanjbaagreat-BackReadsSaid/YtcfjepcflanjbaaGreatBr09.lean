/- Contract: a rule fits at a place (table.fits). -/
import Derived.Test.YtcfjepcflanjbaaGreatBr02
import Derived.Test.YtcfjepcflanjbaaGreatBr08
namespace Go.Proofs.YtcfjepcflanjbaaGreat
open Go.RowKit Go.Lab Go.Shelf
set_option maxRecDepth 100000
theorem frame108 (t : Array Value) (ds : List Deferred) (h : t.size = 108) : ({ tmps := t, defers := ds } : Act) = { tmps := #[slot t 0, slot t 1, slot t 2, slot t 3, slot t 4, slot t 5, slot t 6, slot t 7, slot t 8, slot t 9, slot t 10, slot t 11, slot t 12, slot t 13, slot t 14, slot t 15, slot t 16, slot t 17, slot t 18, slot t 19, slot t 20, slot t 21, slot t 22, slot t 23, slot t 24, slot t 25, slot t 26, slot t 27, slot t 28, slot t 29, slot t 30, slot t 31, slot t 32, slot t 33, slot t 34, slot t 35, slot t 36, slot t 37, slot t 38, slot t 39, slot t 40, slot t 41, slot t 42, slot t 43, slot t 44, slot t 45, slot t 46, slot t 47, slot t 48, slot t 49, slot t 50, slot t 51, slot t 52, slot t 53, slot t 54, slot t 55, slot t 56, slot t 57, slot t 58, slot t 59, slot t 60, slot t 61, slot t 62, slot t 63, slot t 64, slot t 65, slot t 66, slot t 67, slot t 68, slot t 69, slot t 70, slot t 71, slot t 72, slot t 73, slot t 74, slot t 75, slot t 76, slot t 77, slot t 78, slot t 79, slot t 80, slot t 81, slot t 82, slot t 83, slot t 84, slot t 85, slot t 86, slot t 87, slot t 88, slot t 89, slot t 90, slot t 91, slot t 92, slot t 93, slot t 94, slot t 95, slot t 96, slot t 97, slot t 98, slot t 99, slot t 100, slot t 101, slot t 102, slot t 103, slot t 104, slot t 105, slot t 106, slot t 107], defers := ds } :=
  (congrArg (fun x => ({ tmps := x, defers := ds } : Act)) (zq1e h)).trans (by kernel_rfl)
theorem low_let {x y : Int} (h : lowZ x = y) (hy : lowB y = true) : letB x = true := by
  unfold lowZ at h
  unfold letB
  split at h
  · rename_i hc; rw [hc, Bool.or_true]
  · subst h; rw [hy, Bool.true_or]
theorem stepB_parts {l : List Sym} {i : Nat} {s : ByteArray} {k : Nat} (h : stepB l i s k = true) : lowZ (symAt l (i + k)).c = (byts s).getD k 0 /\ (symAt l (i + k)).lang = (symAt l i).lang := by
  unfold stepB at h
  simp only [Bool.and_eq_true, decide_eq_true_eq] at h
  exact ⟨h.1, h.2.1⟩
theorem lit_run {l : List Sym} {i : Nat} {s : ByteArray} (hf : i + s.size <= l.length) (h : ∀ j, j < s.size -> stepB l i s j = true) (hw : lowsB s = true) {k : Nat} (hk : k < s.size) : runB l i ((i + k : Nat) : Int) = true := by
  have hp := stepB_parts (h k hk)
  have hy : lowB ((byts s).getD k 0) = true := by
    unfold lowsB at hw
    rw [List.all_eq_true] at hw
    have hb : k < (byts s).length := by rw [zq1a]; exact hk
    rw [List.getD_eq_getElem?_getD, List.getElem?_eq_getElem hb]
    exact hw _ (List.getElem_mem hb)
  unfold runB
  rw [Int.toNat_natCast, low_let hp.1 hy, decide_eq_true hp.2, decide_eq_true (by omega), decide_eq_true (by omega)]
  rfl
theorem run_inWord {l : List Sym} {i j : Nat} (hj : runB l i (j : Int) = true) : zq2a l (j + 1) = runB l i ((j + 1 : Nat) : Int) := by
  unfold runB at hj ⊢
  simp only [Bool.and_eq_true, decide_eq_true_eq, Int.toNat_natCast] at hj
  unfold zq2a
  rw [Nat.add_sub_cancel, hj.2.2.2, hj.2.2.1, decide_eq_true (by omega : 1 <= j + 1), decide_eq_true (by omega : (0 : Int) <= ((j + 1 : Nat) : Int)), Int.toNat_natCast, Bool.true_and, Bool.true_and, Bool.true_and]
  rw [show decide (((j + 1 : Nat) : Int) < (l.length : Int)) = decide (j + 1 < l.length) from by simp; omega]
  rw [show decide ((symAt l i).lang = (symAt l (j + 1)).lang) = decide ((symAt l (j + 1)).lang = (symAt l i).lang) from by simp [eq_comm]]
  cases decide (j + 1 < l.length) <;> cases letB (symAt l (j + 1)).c <;> simp
theorem run_inWord0 {l : List Sym} {i : Nat} (hi : runB l i (i : Int) = true) : zq2a l i = runB l i ((i : Int) - 1) := by
  cases i with
  | zero => rfl
  | succ j =>
    have hr : ∀ x, runB l (j + 1) x = (decide (0 <= x) && (decide (x < l.length) && (decide ((symAt l x.toNat).lang = (symAt l (j + 1)).lang) && letB (symAt l x.toNat).c))) := fun x => rfl
    rw [show ((j + 1 : Nat) : Int) - 1 = (j : Int) from by omega, hr]
    rw [hr, Int.toNat_natCast] at hi
    simp only [Bool.and_eq_true, decide_eq_true_eq] at hi
    unfold zq2a
    rw [Nat.add_sub_cancel, hi.2.2.2, decide_eq_true (by omega : 1 <= j + 1), decide_eq_true (by omega : j + 1 < l.length), decide_eq_true (by omega : (0 : Int) <= (j : Int)), decide_eq_true (by omega : (j : Int) < (l.length : Int)), Int.toNat_natCast]
    simp only [Bool.true_and]
    rw [Bool.and_comm]
theorem ends_ctx {l : List Sym} {i : Nat} {s : ByteArray} (hf : i + s.size <= l.length) (hs : 1 <= s.size) (h : ∀ j, j < s.size -> stepB l i s j = true) (hw : lowsB s = true) {lo hh : Int}
    (hb : lo <= i /\ (lo < i ↔ runB l i ((i : Int) - 1) = true) /\ (i : Int) <= hh /\ (∀ x : Int, i <= x -> x < hh -> runB l i x = true) /\ runB l i hh = false) :
    (lo < i ↔ zq2a l i = true) /\ (i + s.size : Int) <= hh /\ ((i + s.size : Int) < hh ↔ zq2a l (i + s.size) = true) := by
  have hrun : ∀ k, k < s.size -> runB l i ((i + k : Nat) : Int) = true := fun k hk => lit_run hf h hw hk
  have h0 : runB l i (i : Int) = true := hrun 0 (by omega)
  obtain ⟨b1, b2, b3, b4, b5⟩ := hb
  have hge : (i + s.size : Int) <= hh := by
    apply Int.not_lt.1
    intro hlt
    have := hrun (hh.toNat - i) (by omega)
    rw [show ((i + (hh.toNat - i) : Nat) : Int) = hh from by omega, b5] at this
    cases this
  have hin : zq2a l (i + s.size) = runB l i ((i + s.size : Nat) : Int) := by
    have := run_inWord (hrun (s.size - 1) (by omega))
    rw [show i + (s.size - 1) + 1 = i + s.size from by omega] at this
    exact this
  refine ⟨by rw [run_inWord0 h0]; exact b2, hge, ?_⟩
  rw [hin]
  constructor
  · intro hlt; exact b4 _ (by omega) (by omega)
  · intro hr
    rcases (by omega : (i + s.size : Int) < hh \/ (i + s.size : Int) = hh) with h1 | h1
    · exact h1
    · rw [show ((i + s.size : Nat) : Int) = hh from by omega, b5] at hr
      cases hr
def VFt (l : List Sym) (i : Nat) (s : ByteArray) (w0 : World) (wh : Int) (u : Value) (Bx : Nat) (kv : Value) (wr : World) : Prop :=
  ∃ k : Nat, k <= s.size /\ kv = .int .i64 (k : Nat) /\ (∀ j, j < k -> stepB l i s j = true) /\ FtX w0 s wh u Bx wr
set_option maxHeartbeats 4000000 in
theorem fitsT_any (r : RuleZ) (ua : Option Addr) (un uc : Nat) (v : Value) (l : List Sym) (i : Nat) (w : World) (hs : r.text.size <= 100000) (hs1 : 1 <= r.text.size) (h : SymsAt w v l) (hr : SymOk l) (hl : l.length <= 1000000) (hi : i < l.length) :
    Calls Tryz.prog 91 #[.agg #[.string r.text, .int .i64 r.wh, .slice ua un uc], v, .int .i64 (i : Nat)] w fun e w' => e = .returned (.bool (fitsB r l i)) /\ Below w.heap.size w w' := by
  obtain ⟨a, cap, rfl, h2, h3⟩ := h.form
  unfold maxLen at h3
  obtain ⟨s, wh, cl⟩ := r
  simp only at hs hs1 ⊢
  obtain ⟨b, off, rfl, hb, hz0, hz1⟩ := h.at hi
  obtain ⟨n, hn⟩ : ∃ n, n = l.length := ⟨_, rfl⟩
  rw [<- hn] at h2 ⊢
  by_cases hfit : i + s.size <= n
  case neg =>
    have g1 : (i : Int) + (s.size : Int) > (n : Int) := by omega
    have hw1 : IntKind.i64.wrap ((i : Int) + (s.size : Int)) = (i : Int) + (s.size : Int) := IntWalk.i64_in _ (by omega)
    have HF := hidep (show fitsB ⟨s, wh, cl⟩ l i = false from by unfold fitsB; simp only; rw [<- hn, decide_eq_false hfit, Bool.false_and])
    have HBX := hidep ((Below.refl w.heap.size w).alloc (Nat.le_refl _) (.cells #[.string s, .int .i64 wh, .slice ua un uc] 59))
    clear hn h hr hfit
    go_enter Tryz.func91, Tryz.ntmps91
    go_wp2
    go_ret
    exact ⟨by rw [HF.out]; rfl, HBX.out⟩
  have g1 : ¬ (i : Int) + (s.size : Int) > (n : Int) := by omega
  have hw1 : IntKind.i64.wrap ((i : Int) + (s.size : Int)) = (i : Int) + (s.size : Int) := IntWalk.i64_in _ (by omega)
  obtain ⟨lw, hlw⟩ : ∃ lw, lw = lowsB s := ⟨_, rfl⟩
  have HLT := hidep (show litB l i s = true -> fitsB ⟨s, wh, cl⟩ l i = (!lw || ctxV (zq2a l i) (zq2a l (i + s.size)) wh) from by
    intro hx; unfold fitsB; simp only; rw [<- hn, decide_eq_true hfit, hx, <- hlw]; rfl)
  have HLF := hidep (show litB l i s = false -> fitsB ⟨s, wh, cl⟩ l i = false from by
    intro hx; unfold fitsB; simp only; rw [hx, Bool.false_and, Bool.and_false])
  have HEND := hidep (fun lo hh hst (hlw1 : lw = true) hb => ends_ctx (lo := lo) (hh := hh) (by rw [<- hn]; exact hfit) hs1 hst (by rw [<- hlw]; exact hlw1) hb)
  have HSM := hidep (fun W => word_any s W hs)
  rw [<- hlw] at HSM
  have HBD := hidep (fun W (hW : Below w.heap.size w W) => bounds_any _ l i W (h.below hW) hr hl hi)
  rw [<- hn] at HBD
  have HN := hidep hn
  have HH := hidep h
  have HR := hidep hr
  have HFIT := hidep hfit
  obtain ⟨zl, hzl⟩ : ∃ zl, zl = l[i].lang := ⟨_, rfl⟩
  have HZL := hidep (show (symAt l i).lang = zl from by rw [zq37 hi, hzl])
  rw [<- hzl] at hz0
  have HZ := hidep (And.intro hb hz0)
  have HI := hidep hi
  clear h hr hfit hlw hz0 hz1 hn hb hzl hi
  have f1 : (i : Int) <= (i : Int) + (s.size : Int) := by omega
  have f2 : (0 : Int) <= (i : Int) := by omega
  have f3 : (i : Int) + (s.size : Int) <= (cap : Int) := by have := HFIT.out; omega
  have f4 : ((i : Int) + (s.size : Int)).toNat - i = s.size := by omega
  go_enter Tryz.func91, Tryz.ntmps91
  go_upto_region 1 with (fail)
  obtain ⟨Bx, hBx⟩ : ∃ B, B = w.heap.size := ⟨_, rfl⟩
  refine zq9 (fun X => FtX w s wh (.slice ua un uc) Bx X) ⟨(Below.refl _ _).alloc (Nat.le_refl _) _, by rw [hBx]; exact heap_alloc_new _ _⟩ ?_
  rw [<- hBx]
  clear hBx
  rintro X1 hX1
  have hc0 := hX1.c0
  have HG := hidep (show VFt l i s w wh (.slice ua un uc) Bx (.int .i64 0) X1 from ⟨0, Nat.zero_le _, rfl, fun j hj => by omega, hX1⟩)
  clear hX1
  go_upto_region 5 with (fail)
  clear hc0 g1 hw1 f1 f3 f4
  refine wp_loop (LoopI 108 (fun tm ds wr => (slot tm 1) = .slice (some ⟨b, off, none⟩) n cap /\ (slot tm 2) = .int .i64 (i : Nat) /\ (slot tm 3) = .pointer (some ⟨Bx, 0, none⟩) /\ (slot tm 7) = .int .i64 (s.size : Nat) /\ (slot tm 29) = .slice (some ⟨b, off + i * 2, none⟩) s.size (cap - i) /\ (slot tm 30) = .int .i64 (s.size : Nat) /\ ds = [] /\ VFt l i s w wh (.slice ua un uc) Bx (slot tm 31) wr)) (fun a' wr => s.size - natI (a'.tmps.getD 31 undef)) ?flStart ?flRound
  case' flStart => refine LoopI.mk rfl ?_
  case' flRound => (rintro ⟨t, ds⟩ wr ⟨hts, hrel⟩; dsimp only at hts hrel; rw [frame108 t ds hts])
  case flStart => exact ⟨rfl, rfl, rfl, rfl, rfl, rfl, rfl, HG.out⟩
  clear HG
  obtain ⟨e1, e2, e3, e7, e29, e30, hds, k, hk, e31, hall, hX⟩ := hrel
  subst hds
  rw [e1, e2, e3, e7, e29, e30, e31]
  clear e1 e2 e3 e7 e29 e30 e31 hts
  by_cases hks : k < s.size
  · have hki : (k : Int) < (s.size : Int) := by omega
    have hk0 : (0 : Int) <= (k : Int) := by omega
    have hat := zq40 s k hks (by rw [zq1a]; exact hks)
    obtain ⟨y, hy⟩ : ∃ y, y = (byts s)[k]'(by rw [zq1a]; exact hks) := ⟨_, rfl⟩
    have hyd : (byts s).getD k 0 = y := by rw [List.getD_eq_getElem?_getD, List.getElem?_eq_getElem (by rw [zq1a]; exact hks), hy]; rfl
    rw [<- hy] at hat
    clear hy
    have hjl : i + k < l.length := by have := HFIT.out; have := HN.out; omega
    have hrw := HH.out.below hX.1
    obtain ⟨b', off', hra, _, hx0, hx1⟩ := hrw.at hjl
    injection hra with hra
    injection hra with hbb hoo
    subst hbb hoo
    have hxr := HR.out _ (List.getElem_mem hjl)
    have HSY := hidep (zq37 hjl)
    obtain ⟨x, hxd⟩ : ∃ x, x = l[i + k] := ⟨_, rfl⟩
    rw [<- hxd] at hx0 hx1 hxr HSY
    clear hxd
    obtain ⟨xl, xc⟩ := x
    simp only at hx0 hx1 hxr
    have HST := hidep (show stepB l i s k = (decide (lowZ xc = y) && (decide (xl = zl) && !(decide (0 < k) && capB xc))) from by
      unfold stepB; rw [HSY.out, HZL.out, hyd])
    have HT := hidep (show stepB l i s k = true -> ∀ j, j < k + 1 -> stepB l i s j = true from fun hh j hj => by
      rcases (by omega : j < k \/ j = k) with h | rfl
      · exact hall j h
      · exact hh)
    have HF := hidep (show stepB l i s k = false -> fitsB ⟨s, wh, cl⟩ l i = false from fun hh => HLF.out (litB_false hks hh))
    have HLE := hidep (fun W => zq9d xc W ⟨hxr.1, hxr.2.1⟩)
    obtain ⟨lz, hlz⟩ : ∃ lz, lz = lowZ xc := ⟨_, rfl⟩
    obtain ⟨cb, hcb⟩ : ∃ cb, cb = capB xc := ⟨_, rfl⟩
    rw [<- hlz, <- hcb] at HLE HST
    generalize letB xc = tb at HLE
    rw [show off + (i + k) * 2 = off + i * 2 + k * 2 from by omega] at hx0 hx1
    have hin : (i : Int) < (n : Int) := by have := HFIT.out; omega
    have hwk : IntKind.i64.wrap ((k : Int) + 1) = (k : Int) + 1 := IntWalk.i64_in _ (by omega)
    have HX := hidep hX
    clear hall hX hrw hxr hlz hcb hyd hjl
    go_upto_region 7 with (fail)
    obtain ⟨E, hE⟩ : ∃ E, E = wr.heap.size := ⟨_, rfl⟩
    refine zq9 (fun X => FtX w s wh (.slice ua un uc) Bx X /\ X.heap[E]? = some (.cells #[.int .i64 xl, .int .u8 xc] 39)) ⟨HX.out.below ((Below.refl _ _).alloc (Nat.le_refl _) _), by rw [hE]; exact heap_alloc_new _ _⟩ ?_
    rw [<- hE]
    clear hE HX hx0 hx1
    rintro X7 hX7
    have HX := hidep hX7
    have hc0 := hX7.1.c0
    have he0 : X7.cell? ⟨E, 0, none⟩ = some (.int .i64 xl) := by simp [World.cell?, hX7.2]
    have he1 : X7.cell? ⟨E, 1, none⟩ = some (.int .u8 xc) := by simp [World.cell?, hX7.2]
    have hz0 : X7.cell? ⟨b, off + i * 2, none⟩ = some (.int .i64 zl) := by
      have hrw := HH.out.below hX7.1.1
      obtain ⟨b', off', hra, _, hz0, _⟩ := hrw.at HI.out
      injection hra with hra
      injection hra with hbb hoo
      subst hbb hoo
      rw [<- zq37 HI.out, HZL.out] at hz0
      exact hz0
    clear hX7
    go_upto_region 8 with (go_at_call 90; refine (HLE.out _).mono ?_; rintro e w1 ⟨rfl, hw1⟩; rw [hw1]; clear hw1)
    by_cases c1 : lz = y
    case neg =>
      have HE := hidep (HF.out (by rw [HST.out, decide_eq_false c1, Bool.false_and]))
      go_quiet (fail)
      (try dsimp only [Exit.inBlock, Exit.then])
      (try apply_assumption)
      go_wp2
      go_ret
      exact ⟨by rw [HE.out]; rfl, (HX.out.1.below (zq6 (Below.refl _ _) _)).1⟩
    by_cases c2 : xl = zl
    case neg =>
      have HE := hidep (HF.out (by rw [HST.out, decide_eq_false c2, Bool.false_and, Bool.and_false]))
      go_quiet (fail)
      (try dsimp only [Exit.inBlock, Exit.then])
      (try apply_assumption)
      go_wp2
      go_ret
      exact ⟨by rw [HE.out]; rfl, (HX.out.1.below (zq6 (Below.refl _ _) _)).1⟩
    cases cb with
    | false =>
      have HA := hidep (HT.out (by rw [HST.out, decide_eq_true c1, decide_eq_true c2, Bool.and_false]; rfl))
      go_quiet (fail)
      (try dsimp only [Exit.inBlock, Exit.then])
      (try apply_assumption)
      go_wp2
      refine ⟨LoopI.mk rfl ⟨rfl, rfl, rfl, rfl, rfl, rfl, rfl, k + 1, by omega, by show Value.int _ _ = _; go_num, HA.out, HX.out.1.below (zq6 (Below.refl _ _) _)⟩, ?_⟩
      show s.size - _ < s.size - _
      simp [natI]; omega
    | true =>
      by_cases c3 : 0 < k
      · have c3i : (k : Int) > 0 := by omega
        have HE := hidep (HF.out (by rw [HST.out, decide_eq_true c1, decide_eq_true c2, decide_eq_true c3]; rfl))
        go_quiet (fail)
        (try dsimp only [Exit.inBlock, Exit.then])
        (try apply_assumption)
        go_wp2
        go_ret
        exact ⟨by rw [HE.out]; rfl, (HX.out.1.below (zq6 (Below.refl _ _) _)).1⟩
      · have c3i : ¬ (k : Int) > 0 := by omega
        have HA := hidep (HT.out (by rw [HST.out, decide_eq_true c1, decide_eq_true c2, decide_eq_false c3]; rfl))
        go_quiet (fail)
        (try dsimp only [Exit.inBlock, Exit.then])
        (try apply_assumption)
        go_wp2
        refine ⟨LoopI.mk rfl ⟨rfl, rfl, rfl, rfl, rfl, rfl, rfl, k + 1, by omega, by show Value.int _ _ = _; go_num, HA.out, HX.out.1.below (zq6 (Below.refl _ _) _)⟩, ?_⟩
        show s.size - _ < s.size - _
        simp [natI]; omega
  · have hki : ¬ (k : Int) < (s.size : Int) := by omega
    have hall2 : ∀ j, j < s.size -> stepB l i s j = true := fun j hj => hall j (by omega)
    have HTR := hidep (HLT.out (litB_true hall2))
    have HX := hidep hX
    have hc0 := hX.c0
    have hc1 := hX.c1
    have HALL := hidep hall2
    clear hall hX hall2
    cases lw with
    | false =>
      have HE := hidep (HTR.out.trans (by rfl : _ = true))
      go_wp2_with (go_at_call 101; refine (HSM.out _).mono ?_; rintro e w1 ⟨rfl, hw1⟩; rw [hw1]; clear hw1)
      go_ret
      exact ⟨by rw [HE.out]; rfl, HX.out.1⟩
    | true =>
      have HCT := hidep (HTR.out.trans (by rfl : _ = ctxV (zq2a l i) (zq2a l (i + s.size)) wh))
      have HBD1 := hidep (HBD.out _ HX.out.1)
      go_upto_region 13 with (go_at_call 101; refine (HSM.out _).mono ?_; rintro e w1 ⟨rfl, hw1⟩; rw [hw1]; clear hw1)
      go_upto_region 14 with (go_at_call 123; refine HBD1.out.mono ?_; rintro e w1 ⟨⟨lo, hh, rfl, hb⟩, hbel⟩)
      have hX2 := HX.out.below hbel
      have hc2 := hX2.c1
      have HX2 := hidep hX2
      clear hX2 hbel HX HBD1 hc0 hc1
      obtain ⟨hia, hge, hib⟩ := HEND.out lo hh HALL.out trivial hb.out
      have hlo := hb.out.1
      have hw1 : IntKind.i64.wrap ((i : Int) + (s.size : Int)) = (i : Int) + (s.size : Int) := IntWalk.i64_in _ (by have := HFIT.out; omega)
      have HV := hidep (show fitsB ⟨s, wh, cl⟩ l i = ctxV (decide (lo < i)) (decide ((i : Int) + s.size < hh)) wh from by
        rw [HCT.out]
        congr 1
        · rw [Bool.eq_iff_iff]; simp only [decide_eq_true_eq]; exact hia.symm
        · rw [Bool.eq_iff_iff]; simp only [decide_eq_true_eq]; exact hib.symm)
      clear hia hib hb HCT HTR HALL
      by_cases c1 : wh = 1
      · subst c1
        by_cases d1 : lo < i
        · have d1n : (lo == (i : Int)) = false := by rw [beq_eq_false_iff_ne]; omega
          have HE := hidep (HV.out.trans (by unfold ctxV; rw [if_pos rfl, decide_eq_true d1]; rfl : _ = false))
          go_wp2
          go_ret
          exact ⟨by rw [HE.out]; rfl, HX2.out.1⟩
        · have d1n : (lo == (i : Int)) = true := by rw [beq_iff_eq]; omega
          by_cases d2 : (i : Int) + s.size < hh
          · have d2n : (hh == (i : Int) + s.size) = false := by rw [beq_eq_false_iff_ne]; omega
            have HE := hidep (HV.out.trans (by unfold ctxV; rw [if_pos rfl, decide_eq_false d1, decide_eq_true d2]; rfl : _ = false))
            go_wp2
            go_ret
            exact ⟨by rw [HE.out]; rfl, HX2.out.1⟩
          · have d2n : (hh == (i : Int) + s.size) = true := by rw [beq_iff_eq]; omega
            have HE := hidep (HV.out.trans (by unfold ctxV; rw [if_pos rfl, decide_eq_false d1, decide_eq_false d2]; rfl : _ = true))
            go_wp2
            go_ret
            exact ⟨by rw [HE.out]; rfl, HX2.out.1⟩
      by_cases c2 : wh = 2
      · subst c2
        by_cases d1 : lo < i
        · have d1n : (lo == (i : Int)) = false := by rw [beq_eq_false_iff_ne]; omega
          have HE := hidep (HV.out.trans (by unfold ctxV; rw [if_neg c1, if_pos rfl, decide_eq_true d1]; rfl : _ = false))
          go_wp2
          go_ret
          exact ⟨by rw [HE.out]; rfl, HX2.out.1⟩
        · have d1n : (lo == (i : Int)) = true := by rw [beq_iff_eq]; omega
          by_cases d2 : (i : Int) + s.size < hh
          · have d2n : hh > (i : Int) + s.size := by omega
            have HE := hidep (HV.out.trans (by unfold ctxV; rw [if_neg c1, if_pos rfl, decide_eq_false d1, decide_eq_true d2]; rfl : _ = true))
            go_wp2
            go_ret
            exact ⟨by rw [HE.out]; rfl, HX2.out.1⟩
          · have d2n : ¬ hh > (i : Int) + s.size := by omega
            have HE := hidep (HV.out.trans (by unfold ctxV; rw [if_neg c1, if_pos rfl, decide_eq_false d1, decide_eq_false d2]; rfl : _ = false))
            go_wp2
            go_ret
            exact ⟨by rw [HE.out]; rfl, HX2.out.1⟩
      by_cases c3 : wh = 3
      · subst c3
        by_cases d1 : lo < i
        · have HE := hidep (HV.out.trans (by unfold ctxV; rw [if_neg c1, if_neg c2, if_pos rfl, decide_eq_true d1] : _ = true))
          go_wp2
          go_ret
          exact ⟨by rw [HE.out]; rfl, HX2.out.1⟩
        · have HE := hidep (HV.out.trans (by unfold ctxV; rw [if_neg c1, if_neg c2, if_pos rfl, decide_eq_false d1] : _ = false))
          go_wp2
          go_ret
          exact ⟨by rw [HE.out]; rfl, HX2.out.1⟩
      · have HE := hidep (HV.out.trans (by unfold ctxV; rw [if_neg c1, if_neg c2, if_neg c3] : _ = true))
        go_wp2
        go_ret
        exact ⟨by rw [HE.out]; rfl, HX2.out.1⟩
end Go.Proofs.YtcfjepcflanjbaaGreat
/- Plain steps over text (Next, Steps); contract: slices.Clone over bytes. -/
namespace Go.Proofs.YtcfjepcflanjbaaGreat
open Go.RowKit Go.Lab Go.Shelf
theorem slByt : SlT Tryz.prog 23 5 (.int .u8 0) 1 1 := ⟨by kernel_rfl, by kernel_rfl, rfl, by decide⟩
theorem fresh_byts (w : World) : (w.alloc (.cells #[] 5)).ownsRow w.heap.size 5 1 (.slice (some ⟨w.heap.size, 0, none⟩) 0 0) 0 [] := World.ownsRow_lit w #[] 0 (Nat.le_refl _) (by decide) rfl
set_option maxHeartbeats 1000000 in
theorem cloneBy_any (v : Value) (l : List Int) (w : World) (h : BysAt w v l) (hn : l.length <= 1000000) (h1 : 1 <= l.length) :
    Calls Tryz.prog 88 #[v] w fun e w' => ∃ v', e = .returned v' /\ w'.ownsRow w.heap.size 5 1 v' l.length (byC l) /\ Below w.heap.size w w' := by
  obtain ⟨a, c, rfl, hc1, hc2⟩ := h.1.form
  obtain ⟨b, off, rfl, -, -⟩ := h.at (show 0 < l.length by omega)
  have hq : ∀ (W : World) (a : Option Addr) (n c n' c' : Nat), (binOp .eql 23 (.slice a n c) (.slice none n' c')).run Tryz.prog W = .ok (.bool a.isNone) W := fun W a n c n' c' => Lib.run_eql_slice_nil W _ _ a n c n' c' slByt.und
  have hone := zq33 l
  have hx0 : Below w.heap.size w (w.alloc (.cells #[] 5)) := (Below.refl _ _).alloc (Nat.le_refl _) _
  have hr2 := h.1.below hx0
  have hfr := fresh_byts w
  have HX := hidep hx0
  unfold maxLen at hc2
  clear hx0 h
  generalize byC l = cs at hr2 hone ⊢
  generalize l.length = n at hr2 hc1 hn h1 ⊢
  go_enter Tryz.func88, Tryz.ntmps88
  go_wp2_with (at_builtin; go_loud (refine zq4 _ rfl _ _ rfl slByt w.heap.size (.slice (some ⟨w.heap.size, 0, none⟩) 0 0) 0 [] rfl hfr _ _ _ _ rfl hr2 hone (by unfold maxLen; omega) (by omega) (by simp) ?_; intro v1 w1 hown hgr hat hnl; clear hat hnl; simp only [Nat.zero_add, List.nil_append] at hown))
  go_ret
  exact ⟨_, rfl, hown, HX.out.grown hgr (by simp) (by intro k hk; simp [Value.ownBlock] at hk; omega)⟩
/-! ### plain -/
structure StZ where
  lang : Int
  num : Bool
  word : Bool
  deriving DecidableEq
structure StpZ where
  st : StZ
  n : Nat
  cells : List Int
  rule : Int
  deriving DecidableEq
def leadZ (T : TabZ) (st : StZ) (c : Int) : List Int := (if st.num = true /\ letB c = true then T.en else []) ++ (if capB c = true then T.cp else [])
def zq20 (lang : Int) (wd : Bool) (lead : List Int) (l : List Sym) (i : Nat) : List RuleZ -> Nat -> List StpZ
  | [], _ => []
  | r :: rs, k => (if fitsB r l i = true then [⟨⟨lang, false, wd⟩, r.text.size, lead ++ r.cells, k⟩] else []) ++ zq20 lang wd lead l i rs (k + 1)
def nextZ (T : TabZ) (st : StZ) (l : List Sym) (i : Nat) : List StpZ :=
  if (symAt l i).lang ≠ st.lang then [⟨⟨(symAt l i).lang, false, false⟩, 0, T.sw, -1⟩]
  else if digB (symAt l i).c = true then [⟨⟨(symAt l i).lang, true, false⟩, 1, (if st.num = true then [] else T.nm) ++ [T.dg.getD ((symAt l i).c - 48).toNat 0], -1⟩]
  else zq20 (symAt l i).lang (letB (symAt l i).c) (leadZ T st (symAt l i).c) l i (T.rules (symAt l i).lang) 0
end Go.Proofs.YtcfjepcflanjbaaGreat
