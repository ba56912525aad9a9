/- The reference: what can be read next. -/
import Derived.Test.YtcfjepcflanjbaaGreatBr02
import Derived.Test.YtcfjepcflanjbaaGreatBr46
namespace Go.Proofs.YtcfjepcflanjbaaGreat
open Go.RowKit Go.Lab Go.Shelf
set_option maxRecDepth 100000
theorem zq3d (t : Array Value) (ds : List Deferred) (h : t.size = 121) : ({ tmps := t, defers := ds } : Act) = { tmps := #[slot t 0, slot t 1, slot t 2, slot t 3, slot t 4, slot t 5, slot t 6, slot t 7, slot t 8, slot t 9, slot t 10, slot t 11, slot t 12, slot t 13, slot t 14, slot t 15, slot t 16, slot t 17, slot t 18, slot t 19, slot t 20, slot t 21, slot t 22, slot t 23, slot t 24, slot t 25, slot t 26, slot t 27, slot t 28, slot t 29, slot t 30, slot t 31, slot t 32, slot t 33, slot t 34, slot t 35, slot t 36, slot t 37, slot t 38, slot t 39, slot t 40, slot t 41, slot t 42, slot t 43, slot t 44, slot t 45, slot t 46, slot t 47, slot t 48, slot t 49, slot t 50, slot t 51, slot t 52, slot t 53, slot t 54, slot t 55, slot t 56, slot t 57, slot t 58, slot t 59, slot t 60, slot t 61, slot t 62, slot t 63, slot t 64, slot t 65, slot t 66, slot t 67, slot t 68, slot t 69, slot t 70, slot t 71, slot t 72, slot t 73, slot t 74, slot t 75, slot t 76, slot t 77, slot t 78, slot t 79, slot t 80, slot t 81, slot t 82, slot t 83, slot t 84, slot t 85, slot t 86, slot t 87, slot t 88, slot t 89, slot t 90, slot t 91, slot t 92, slot t 93, slot t 94, slot t 95, slot t 96, slot t 97, slot t 98, slot t 99, slot t 100, slot t 101, slot t 102, slot t 103, slot t 104, slot t 105, slot t 106, slot t 107, slot t 108, slot t 109, slot t 110, slot t 111, slot t 112, slot t 113, slot t 114, slot t 115, slot t 116, slot t 117, slot t 118, slot t 119, slot t 120], defers := ds } :=
  (congrArg (fun x => ({ tmps := x, defers := ds } : Act)) (zq1e h)).trans (by kernel_rfl)
structure MoX (w : World) (V : TabV) (p : PlZ) (Bt Bp : Nat) (X : World) : Prop where
  low : Below w.heap.size w X
  bt : X.heap[Bt]? = some (.cells #[V.a, V.b, V.d, V.c, V.n, V.e, V.s] 29)
  bp : X.heap[Bp]? = some (.cells #[.int .i64 p.st.lang, .bool p.st.num, .bool p.st.word, .int .i64 (p.need : Nat), .bool p.sw] 141)
theorem MoX.below {w X X' : World} {V : TabV} {p : PlZ} {Bt Bp : Nat} (h : MoX w V p Bt Bp X) (hb : Below X.heap.size X X') : MoX w V p Bt Bp X' :=
  ⟨h.low.trans (hb.mono h.low.size), zq0 hb h.bt, zq0 hb h.bp⟩
def MoL (w0 Y : World) (T : TabZ) (p : PlZ) (L : List RuleZ) (u5 u7 : Value) (W : World) : Prop := ∃ i : Nat, i <= L.length /\ u7 = .int .i64 (i : Nat) /\ MvR Y.heap.size w0.heap.size p.st.lang W u5 ((L.take i).flatMap (zq18 T p)) /\ Below Y.heap.size Y W
def MoD (w0 Y : World) (T : TabZ) (p : PlZ) (ms : List MvZ) (u5 u8 : Value) (W : World) : Prop := ∃ d : Nat, d <= 10 /\ u8 = .int .i64 (d : Nat) /\ MvR Y.heap.size w0.heap.size p.st.lang W u5 (ms ++ (zq26 T p).take d) /\ Below Y.heap.size Y W
theorem zqac {T : TabZ} (hv : zq8 T = 0) : T.l0.length <= 96 /\ T.l1.length <= 96 := by
  unfold zq8 at hv
  split at hv
  · cases hv
  · omega
theorem headD_at : ∀ {l : List Int} (h : 0 < l.length), l.headD 0 = l[0]
  | [], h => by cases h
  | _ :: _, _ => rfl
theorem lows_small {r : RuleZ} (h : zqf r = true) : lowsB r.text = zq5a r.text := by
  unfold zqf at h
  simp only [Bool.and_eq_true, Bool.or_eq_true, decide_eq_true_eq] at h
  obtain ⟨h1, -, -, -, -, h6⟩ := h
  have hl : 0 < (byts r.text).length := by rw [zq1a]; omega
  have hg : (byts r.text).getD 0 0 = (byts r.text)[0] := by rw [List.getD_eq_getElem?_getD, List.getElem?_eq_getElem hl]; rfl
  unfold zq5a
  rw [decide_eq_true h1, Bool.true_and, hg]
  rcases h6 with h6 | h6
  · rw [h6]
    exact (List.all_eq_true.1 h6 _ (List.getElem_mem hl)).symm
  · unfold markB headC at h6
    simp only [Bool.and_eq_true, Bool.not_eq_true', decide_eq_true_eq] at h6
    have hh : (byts r.text).headD 0 = (byts r.text)[0] := headD_at hl
    rw [hh] at h6
    rw [h6.2.2.1]
    unfold lowsB
    cases ha : (byts r.text).all lowB with
    | false => rfl
    | true =>
      have := List.all_eq_true.1 ha _ (List.getElem_mem hl)
      rw [h6.2.2.1] at this
      cases this
theorem ruleMv_lenM (T : TabZ) (p : PlZ) (r : RuleZ) : (zq18 T p r).length <= 2 := by
  unfold zq18
  split <;> split <;> simp
theorem zqae (T : TabZ) (p : PlZ) : ∀ L : List RuleZ, (L.flatMap (zq18 T p)).length <= 2 * L.length
  | [] => by simp
  | r :: L => by
    have h1 := ruleMv_lenM T p r
    have h2 := zqae T p L
    rw [List.flatMap_cons, List.length_append, List.length_cons]
    omega
theorem mvsC_one : ∀ (ms : List MvZ) (us : List (Value × Value)), (∀ i (h' : i < us.length), us[i].1.oneCell' = true /\ us[i].2.oneCell' = true) -> ∀ u ∈ mvsC ms us, u.oneCell' = true
  | [], _, _, u, hu => by simp [mvsC] at hu
  | _ :: _, [], _, u, hu => by simp [mvsC] at hu
  | m :: ms, x :: us, h, u, hu => by
    rw [mvsC] at hu
    rcases List.mem_append.1 hu with hu | hu
    · have h0 := h 0 (by simp)
      simp only [List.getElem_cons_zero] at h0
      unfold mvC at hu
      simp at hu
      rcases hu with rfl | rfl | rfl | rfl | rfl | rfl | rfl
      · exact h0.1
      · exact h0.2
      · rfl
      · rfl
      · rfl
      · rfl
      · rfl
    · refine mvsC_one ms us (fun i hi => ?_) u hu
      have := h (i + 1) (by simpa using hi)
      simpa using this
theorem MvR.one {bd : Nat} {lang : Int} {W : World} {ms : List MvZ} {us : List (Value × Value)} (hl : us.length = ms.length) (hc : ∀ i (h : i < ms.length) (h' : i < us.length), ApM bd W (fun X => BysAt X us[i].1 ms[i].cells /\ SymsAt X us[i].2 (zq1b lang ms[i].text ms[i].cap))) : ∀ u ∈ mvsC ms us, u.oneCell' = true := by
  refine mvsC_one ms us (fun i hi => ?_)
  have h := (hc i (by omega) hi).here
  obtain ⟨a, c, e, -, -⟩ := h.1.1.form
  obtain ⟨a', c', e', -, -⟩ := h.2.form
  rw [e, e']
  exact ⟨rfl, rfl⟩
theorem own_neT {W : World} {base base' k k' n n' : Nat} {e e' : TypeId} {v v' : Value} {xs xs' : List Value} (h : W.ownsRow base e k v n xs) (h' : W.ownsRow base' e' k' v' n' xs') (he : e ≠ e') : v.ownBlock = none \/ v.ownBlock ≠ v'.ownBlock := by
  cases hv : v.ownBlock with
  | none => exact .inl rfl
  | some g =>
    refine .inr (fun e1 => ?_)
    obtain ⟨c1, q1⟩ := zq1d h hv
    obtain ⟨c2, q2⟩ := zq1d h' e1.symm
    rw [q1] at q2
    injection q2 with q2
    injection q2 with _ e3 _
    exact he e3
theorem dig_ext : ∀ d : Fin 10, (⟨#[48, 49, 50, 51, 52, 53, 54, 55, 56, 57]⟩ : ByteArray).extract d.val (d.val + 1) = zq2d d.val := by decide +kernel
def Mo3 (w0 : World) (Bt Bp d : Nat) (v5 : Value) (hd : List Int) : Act -> World -> Prop := fun a W => ∃ (xa : Option Addr) (xc : Nat), a.tmps.size = 121 /\ a.defers = [] /\ slot a.tmps 2 = .pointer (some ⟨Bt, 0, none⟩) /\ slot a.tmps 3 = .pointer (some ⟨Bp, 0, none⟩) /\ slot a.tmps 5 = v5 /\ slot a.tmps 8 = .int .i64 (d : Nat) /\ slot a.tmps 9 = .slice xa hd.length xc /\ W.ownsRow w0.heap.size 5 1 (.slice xa hd.length xc) hd.length (byC hd) /\ Below w0.heap.size w0 W
def Mo4 (w0 Y : World) (lang : Int) (ms : List MvZ) : Act -> World -> Prop := fun a W => ∃ (v : Value), a.tmps.size = 121 /\ a.defers = [] /\ slot a.tmps 5 = v /\ MvR Y.heap.size w0.heap.size lang W v ms /\ Below Y.heap.size Y W
set_option maxHeartbeats 4000000 in
theorem movesR_any (V : TabV) (T : TabZ) (p : PlZ) (w0 w : World) (hb0 : Below w0.heap.size w0 w) (hT : TabIn w0 V T) (hok : TabOk T) (hv : zq8 T = 0) (hlg : p.st.lang = 0 \/ p.st.lang = 1) :
    Calls Tryz.prog 81 #[V.v, .agg #[.int .i64 p.st.lang, .bool p.st.num, .bool p.st.word, .int .i64 (p.need : Nat), .bool p.sw]] w fun e w' => ∃ v, e = .returned v /\ MvR w.heap.size w0.heap.size p.st.lang w' v (zqa T p) /\ Below w.heap.size w w' := by
  have HT0 := hidep hT
  have HB0 := hidep hb0
  have HT := hidep (hT.below hb0)
  have HOK := hidep hok
  have HV := hidep hv
  have hvi := zq54 hv
  have HVI := hidep hvi
  have hlen := zqac hv
  clear hT hok hv hvi hb0
  obtain ⟨lg, hlgk⟩ : ∃ k : Nat, (k : Int) = p.st.lang := ⟨p.st.lang.toNat, by omega⟩
  have hlg2 : lg < 2 := by omega
  go_enter Tryz.func81, Tryz.ntmps81
  go_upto_region 2 with (fail)
  obtain ⟨Bt, hBt⟩ : ∃ B, B = w.heap.size := ⟨_, rfl⟩
  obtain ⟨Bp, hBp⟩ : ∃ B, B = w.heap.size + 1 := ⟨_, rfl⟩
  refine zq9 (fun X => MoX w V p Bt Bp X) ?hx ?_
  case hx =>
    have h1 : Below w.heap.size w (w.alloc (.cells #[V.a, V.b, V.d, V.c, V.n, V.e, V.s] 29)) := (Below.refl _ _).alloc (Nat.le_refl _) _
    have e2 := heap_alloc_new (w.alloc (.cells #[V.a, V.b, V.d, V.c, V.n, V.e, V.s] 29)) (.cells #[.int .i64 p.st.lang, .bool p.st.num, .bool p.st.word, .int .i64 (p.need : Nat), .bool p.sw] 141)
    simp only [World.size_alloc] at e2
    refine ⟨h1.alloc (by rw [World.size_alloc]; omega) _, ?_, ?_⟩
    · rw [hBt]
      exact zq0 ((Below.refl _ _).alloc (Nat.le_refl _) _) (heap_alloc_new _ _)
    · rw [hBp]
      exact e2
  intro X hX
  have HX := hidep hX
  rw [<- hBp, <- hBt]
  clear hX hBt hBp
  obtain ⟨L, hL⟩ : ∃ L, L = T.rules p.st.lang := ⟨_, rfl⟩
  obtain ⟨ra, rc, hcell, hLr, hLn, hLk⟩ : ∃ ra rc, X.cell? ⟨Bt, lg, none⟩ = some (.slice ra L.length rc) /\ RulesAt w0 (.slice ra L.length rc) L /\ L.length <= 96 /\ ∀ r ∈ L, zqf r = true := by
    have hd : X.cell? ⟨Bt, lg, none⟩ = #[V.a, V.b, V.d, V.c, V.n, V.e, V.s][lg]? := by simp [World.cell?, HX.out.bt]
    rw [hd, hL]
    have hvr := zq7b HV.out
    unfold TabZ.rules
    rcases (by omega : lg = 0 \/ lg = 1) with rfl | rfl
    · rw [if_pos (by omega)]
      obtain ⟨a', c', e, -, -⟩ := HT0.out.r0.form
      exact ⟨a', c', by rw [<- e]; rfl, by rw [<- e]; exact HT0.out.r0, hlen.1, List.all_eq_true.1 hvr.1⟩
    · rw [if_neg (by omega)]
      obtain ⟨a', c', e, -, -⟩ := HT0.out.r1.form
      exact ⟨a', c', by rw [<- e]; rfl, by rw [<- e]; exact HT0.out.r1, hlen.2, List.all_eq_true.1 hvr.2⟩
  have hp0 : X.cell? ⟨Bp, 0, none⟩ = some (.int .i64 (lg : Nat)) := by rw [hlgk]; simp [World.cell?, HX.out.bp]
  have hlgI : (lg : Int) < 2 := by omega
  have hlgI0 : (0 : Int) <= (lg : Int) := by omega
  have HLL := hidep (And.intro hL (And.intro hLr hLk))
  have HLG := hidep (And.intro hlgk hlg)
  have hXw := HX.out.low.size
  have hX0 : w0.heap.size <= X.heap.size := Nat.le_trans HB0.out.size hXw
  clear hL hLr hLk hlgk hlg hlen
  have HSEE := hidep (show ∀ Z : World, Below X.heap.size X Z -> (Z.cell? ⟨Bp, 0, none⟩ = some (.int .i64 p.st.lang) /\ Z.cell? ⟨Bp, 1, none⟩ = some (.bool p.st.num) /\ Z.cell? ⟨Bp, 2, none⟩ = some (.bool p.st.word) /\ Z.cell? ⟨Bp, 3, none⟩ = some (.int .i64 (p.need : Nat)) /\ Z.cell? ⟨Bp, 4, none⟩ = some (.bool p.sw)) /\ (Z.cell? ⟨Bt, 0, none⟩ = some V.a /\ Z.cell? ⟨Bt, 1, none⟩ = some V.b /\ Z.cell? ⟨Bt, 2, none⟩ = some V.d /\ Z.cell? ⟨Bt, 3, none⟩ = some V.c /\ Z.cell? ⟨Bt, 4, none⟩ = some V.n /\ Z.cell? ⟨Bt, 5, none⟩ = some V.e /\ Z.cell? ⟨Bt, 6, none⟩ = some V.s) from fun Z hZ => by
    have hX := HX.out.below hZ
    refine ⟨⟨?_, ?_, ?_, ?_, ?_⟩, tb7 hX.bt⟩ <;> simp [World.cell?, hX.bp])
  go_upto_region 4 with (fail)
  refine wp_loop (LoopI 121 (fun tm ds wr => (slot tm 2) = .pointer (some ⟨Bt, 0, none⟩) /\ (slot tm 3) = .pointer (some ⟨Bp, 0, none⟩) /\ (slot tm 6) = .slice ra L.length rc /\ ds = [] /\ MoL w0 X T p L (slot tm 5) (slot tm 7) wr)) (fun a' wr => L.length - natI (a'.tmps.getD 7 undef)) ?liStart ?liRound
  case' liStart => refine LoopI.mk rfl ?_
  case' liRound => (rintro ⟨t, ds⟩ wr ⟨hts, hrel⟩; dsimp only at hts hrel; rw [zq3d t ds hts])
  case liStart => exact ⟨rfl, rfl, rfl, rfl, 0, Nat.zero_le _, rfl, by rw [List.take_zero]; exact MvR.nil _ _ _ _, Below.refl _ _⟩
  obtain ⟨e2, e3, e6, hds, i, hi, e7, hM, hbw⟩ := hrel
  obtain ⟨v5, hv5⟩ : ∃ v, v = slot t 5 := ⟨_, rfl⟩
  rw [<- hv5] at hM
  subst hds
  rw [e2, e3, e6, e7, <- hv5]
  clear e2 e3 e6 e7 hts hv5 hcell hp0
  have HM := hidep (And.intro hM hbw)
  clear hM hbw
  have hiw : IntKind.i64.wrap ((i : Int) + 1) = (i : Int) + 1 := IntWalk.i64_in _ (by omega)
  have HBA := hidep (show ∀ Z : World, Below wr.heap.size wr Z -> Below X.heap.size X Z from fun Z hZ => HM.out.2.trans (hZ.mono HM.out.2.size))
  obtain ⟨us5, h51, h52, h53⟩ := HM.out.1
  obtain ⟨MS, hMS⟩ : ∃ M, M = (L.take i).flatMap (zq18 T p) := ⟨_, rfl⟩
  rw [<- hMS] at h51 h52 h53
  have hMSn : MS.length <= 192 := by
    rw [hMS]
    have := zqae T p (L.take i)
    rw [List.length_take] at this
    omega
  obtain ⟨mn, hmn⟩ : ∃ x, x = MS.length := ⟨_, rfl⟩
  have HMN := hidep (And.intro hmn hMS)
  have HC5 := hidep (And.intro h51 h53)
  rw [<- hmn] at h52 hMSn
  have HR5 := hidep h52
  clear h51 h52 h53 hMS hmn
  by_cases hil : i < L.length
  · have hiI : (i : Int) < (L.length : Int) := by omega
    obtain ⟨b, off, xa, xn, xc, hra, hbl, x0, x1, x2, hyw⟩ := zq4e HLL.out.2.1 hil
    subst hra
    have hrt := HLL.out.2.2 _ (List.getElem_mem hil)
    have hsz := zqa0 hrt
    have hls := lows_small hrt
    have HTK := hidep (moves_take T p hil)
    obtain ⟨r, hr⟩ : ∃ r, r = L[i] := ⟨_, rfl⟩
    rw [<- hr] at x0 x1 hyw hsz hls HTK
    have hxn : xn = r.cells.length := by
      obtain ⟨a', c', e', -, -⟩ := hyw.1.form
      injection e'
    subst hxn
    obtain ⟨wi, hwi⟩ : ∃ wo : World, wo = wr := ⟨_, rfl⟩
    rw [<- hwi] at HBA HM HC5 HR5 ⊢
    have HYW := hidep hyw
    have HSZ := hidep hsz
    have hts8 : r.text.size <= 8 := hsz.2.1
    have HXX := hidep (show ∀ Z : World, Below X.heap.size X Z -> Z.cell? ⟨b, off + i * 3, none⟩ = some (.string r.text) /\ Z.cell? ⟨b, off + i * 3 + 1, none⟩ = some (.int .i64 r.wh) /\ Z.cell? ⟨b, off + i * 3 + 2, none⟩ = some (.slice xa r.cells.length xc) from fun Z hZ => by
      have hb0 := HX.out.low.trans (hZ.mono HX.out.low.size)
      have hb := HB0.out.trans (hb0.mono HB0.out.size)
      exact ⟨(hb.cell (p := ⟨_, _, none⟩) hbl).trans x0, (hb.cell (p := ⟨_, _, none⟩) hbl).trans x1, (hb.cell (p := ⟨_, _, none⟩) hbl).trans x2⟩)
    have x0 := (HXX.out wi HM.out.2).1
    have HSMR := hidep (fun (Z : World) => zqb3 r.text Z (by omega))
    obtain ⟨sm, hsm⟩ : ∃ x, x = zq5a r.text := ⟨_, rfl⟩
    rw [hls, <- hsm] at HSMR
    have HSM := hidep hsm
    have hz8 : X.heap.size <= wi.heap.size := HM.out.2.size
    clear hr hls hwi hyw hsz hrt hsm x1 x2
    cases sm with
    | true =>
      have HRM := hidep (show zq18 T p r = ltrMv T p r by unfold zq18 ltrMv; rw [<- HSM.out, if_pos rfl])
      have HLT := hidep (show ∀ Z : World, Below X.heap.size X Z -> Calls Tryz.prog 121 #[.agg #[V.a, V.b, V.d, V.c, V.n, V.e, V.s], .agg #[.int .i64 p.st.lang, .bool p.st.num, .bool p.st.word, .int .i64 (p.need : Nat), .bool p.sw], .agg #[.string r.text, .int .i64 r.wh, .slice xa r.cells.length xc]] Z (fun e w' => ∃ v, e = .returned v /\ MvR Z.heap.size 0 p.st.lang w' v (ltrMv T p r) /\ Below Z.heap.size Z w') from fun Z hZ => lettersR_any V T p r _ Z (HT.out.below (HX.out.low.trans (hZ.mono HX.out.low.size))) (HYW.out.below (HB0.out.trans ((HX.out.low.trans (hZ.mono HX.out.low.size)).mono HB0.out.size))) (by have := HVI.out; have := HSZ.out; omega))
      have hlm : (ltrMv T p r).length <= 2 := by rw [<- HRM.out]; exact ruleMv_lenM T p r
      go_upto_region 7 with (go_at_call 96; refine (HSMR.out _).mono ?_; rintro e w1 ⟨rfl, rfl⟩)
      clear x0
      refine wp_region_noPanic (wp_region_held_drew (S := (fun Z => Below X.heap.size X Z)) (by kernel_rfl) ?hSz0 (fun hHeld => ?hRz0))
      case hSz0 => ((try dsimp only); (exact HBA.out _ ((Below.refl _ _).drew)))
      refine tkC 0 rfl ?_
      refine tkB 1 rfl (.inl ⟨by kernel_rfl, fun w hSw => by (obtain ⟨⟨p0, p1, p2, p3, p4⟩, ⟨g0, g1, g2, g3, g4, g5, g6⟩⟩ := HSEE.out _ hSw; obtain ⟨x0, x1, x2⟩ := HXX.out _ hSw); go_simp; first | done | with_reducible rfl⟩) ?_
      refine tkB 2 rfl (.inl ⟨by kernel_rfl, fun w hSw => by (obtain ⟨⟨p0, p1, p2, p3, p4⟩, ⟨g0, g1, g2, g3, g4, g5, g6⟩⟩ := HSEE.out _ hSw; obtain ⟨x0, x1, x2⟩ := HXX.out _ hSw); go_simp; first | done | with_reducible rfl⟩) ?_
      refine tkC 3 rfl ?_
      refine tkC 4 rfl ?_
      refine tkC 5 rfl ?_
      refine tkB 6 rfl (.inl ⟨by kernel_rfl, fun w hSw => by (obtain ⟨⟨p0, p1, p2, p3, p4⟩, ⟨g0, g1, g2, g3, g4, g5, g6⟩⟩ := HSEE.out _ hSw; obtain ⟨x0, x1, x2⟩ := HXX.out _ hSw); go_simp; first | done | with_reducible rfl⟩) ?_
      refine wpAnyH_ready (rs := [7]) (by kernel_rfl) (by simp) (AllReadyH.cons rfl (fun K hK => ?hcz1) AllReadyH.nil)
      go_simp
      (go_at_call 121; (with_reducible refine (HLT.out _ hHeld).mono ?_); rintro e' w36 ⟨v36, rfl, ⟨us36, hu1, hu2, hu3⟩, hb36⟩; obtain ⟨a36, c36, hv36, -, -⟩ := (Rd.of_own hu2).form; subst hv36; have hkw := ((Below.refl _ _).drew).trans hb36; have hk9 := HBA.out _ hkw; (try dsimp only))
      refine hK.out _ _ (by (try dsimp only); (exact hk9)) ?_
      clear hHeld hK; intro hHeld
      refine wpAnyH_ready (rs := [8]) (by kernel_rfl) (by simp) (AllReadyH.cons rfl (fun K hK => ?hcz2) AllReadyH.nil)
      (refine zq11 _ rfl (.tmp 29) (.tmp 36) rfl zq8f X.heap.size v5 mn (mvsC MS us5) (by kernel_rfl) (zq2 HR5.out hkw) _ _ _ _ (by kernel_rfl) (Rd.of_own hu2) (MvR.one hu1 hu3) (by unfold maxLen; omega) (by omega) hHeld.size ?_; intro v37 w37 ho37 hg37 hat37 hnl; clear hnl; have hk9 := hHeld.grown hg37 hHeld.size (fun x hx => (HR5.out.lt x hx).1); (try dsimp only))
      refine hK.out _ _ (by (try dsimp only); (exact hk9)) ?_
      clear hHeld hK; intro hHeld
      refine tkC 9 rfl ?_
      refine wpAnyH_done (by kernel_rfl) ?_ _
      clear hHeld
      refine NoPanic.normal ?_
      all_goals
        (try dsimp only [Exit.then])
        have hnew : MvR X.heap.size w0.heap.size p.st.lang w37 v37 (MS ++ ltrMv T p r) :=
          MvR.push (W := w36) (v := v5) HC5.out.1 (fun i a b => (HC5.out.2 i a b).below hkw) hu1 (fun i a b => (hu3 i a b).high (Nat.zero_le _)) hg37 (by rw [<- HMN.out.1]; exact zq2 HR5.out hkw) hX0 (by rw [<- HMN.out.1]; exact ho37)
        have HNW := hidep (show MvR X.heap.size w0.heap.size p.st.lang w37 v37 ((L.take (i + 1)).flatMap (zq18 T p)) /\ Below X.heap.size X w37 from ⟨by rw [HTK.out, <- HMN.out.2, HRM.out]; exact hnew, hk9⟩)
        clear hnew hu1 hu2 hu3 hk9 hkw
        go_wp2
        refine ⟨LoopI.mk (by kernel_rfl) ⟨by kernel_rfl, by kernel_rfl, by kernel_rfl, rfl, i + 1, by omega, by kernel_rfl, HNW.out.1, HNW.out.2⟩, ?_⟩
        show L.length - _ < L.length - _
        simp [natI]; omega
    | false =>
      obtain ⟨⟨p0, p1, p2, p3, p4⟩, -⟩ := HSEE.out wi HM.out.2
      by_cases hn2 : p.need = 2
      · have hne : ((p.need : Int) != 2) = false := by simp [hn2]
        have HNW := hidep (show MvR X.heap.size w0.heap.size p.st.lang wi v5 ((L.take (i + 1)).flatMap (zq18 T p)) /\ Below X.heap.size X wi from ⟨by
          have hrm : zq18 T p r = [] := by unfold zq18; rw [<- HSM.out, if_neg (by decide), if_pos hn2]
          rw [HTK.out, hrm, List.append_nil]
          exact HM.out.1, HM.out.2⟩)
        have hn2I : ((p.need : Nat) : Int) = 2 := by omega
        clear hn2
        obtain ⟨nd, hnd⟩ : ∃ x : Int, x = ((p.need : Nat) : Int) := ⟨_, rfl⟩
        rw [<- hnd] at p3 hne hn2I
        subst hn2I
        clear hnd
        go_upto_region 8 with (go_at_call 96; refine (HSMR.out _).mono ?_; rintro e w1 ⟨rfl, rfl⟩)
        go_wp2
        refine ⟨LoopI.mk (by kernel_rfl) ⟨by kernel_rfl, by kernel_rfl, by kernel_rfl, rfl, i + 1, by omega, by kernel_rfl, HNW.out.1, HNW.out.2⟩, ?_⟩
        show L.length - _ < L.length - _
        simp [natI]; omega
      · have hne : ((p.need : Int) != 2) = true := by rw [bne_iff_ne]; omega
        have HRM := hidep (show zq18 T p r = [(⟨r.cells, r.text, false, ⟨⟨p.st.lang, false, false⟩, 0, false⟩⟩ : MvZ)] by unfold zq18; rw [<- HSM.out, if_neg (by decide), if_neg hn2])
        have HSY := hidep (fun (Z : World) => zqb9 p.st.lang r.text false Z (by omega))
        have hn2I : ¬ ((p.need : Nat) : Int) = 2 := by omega
        go_upto_region 9 with (go_at_call 96; refine (HSMR.out _).mono ?_; rintro e w1 ⟨rfl, rfl⟩)
        clear x0 p0 p1 p2 p3 p4
        refine wp_region_noPanic (wp_region_held_drew (S := (fun Z => Below X.heap.size X Z)) (by kernel_rfl) ?hSz3 (fun hHeld => ?hRz3))
        case hSz3 => ((try dsimp only); (exact HBA.out _ ((Below.refl _ _).drew)))
        refine tkC 0 rfl ?_
        refine tkC 1 rfl ?_
        refine tkC 2 rfl ?_
        refine tkC 3 rfl ?_
        refine tkC 4 rfl ?_
        refine tkB 5 rfl (.inl ⟨by kernel_rfl, fun w hSw => by (obtain ⟨⟨p0, p1, p2, p3, p4⟩, -⟩ := HSEE.out _ hSw; obtain ⟨x0, x1, x2⟩ := HXX.out _ hSw); go_simp; first | done | with_reducible rfl⟩) ?_
        refine tkC 6 rfl ?_
        refine tkC 7 rfl ?_
        refine tkB 8 rfl (.inl ⟨by kernel_rfl, fun w hSw => by (obtain ⟨⟨p0, p1, p2, p3, p4⟩, -⟩ := HSEE.out _ hSw; obtain ⟨x0, x1, x2⟩ := HXX.out _ hSw); go_simp; first | done | with_reducible rfl⟩) ?_
        refine tkC 9 rfl ?_
        refine tkC 10 rfl ?_
        refine tkC 11 rfl ?_
        refine tkC 12 rfl ?_
        refine tkB 13 rfl (.inl ⟨by kernel_rfl, fun w hSw => by (obtain ⟨⟨p0, p1, p2, p3, p4⟩, -⟩ := HSEE.out _ hSw; obtain ⟨x0, x1, x2⟩ := HXX.out _ hSw); go_simp; first | done | with_reducible rfl⟩) ?_
        refine tkC 15 rfl ?_
        refine tkC 16 rfl ?_
        refine tkB 17 rfl (.inl ⟨by kernel_rfl, fun w hSw => by (obtain ⟨⟨p0, p1, p2, p3, p4⟩, -⟩ := HSEE.out _ hSw; obtain ⟨x0, x1, x2⟩ := HXX.out _ hSw); go_simp; first | done | with_reducible rfl⟩) ?_
        refine tkC 18 rfl ?_
        refine tkC 19 rfl ?_
        refine wpAnyH_ready (rs := [14]) (by kernel_rfl) (by simp) (AllReadyH.cons rfl (fun K hK => ?hcz4) AllReadyH.nil)
        go_simp
        (go_at_call 122; (with_reducible refine (HSY.out _).mono ?_); rintro e' w55 ⟨v55, rfl, ho55, hb55⟩; obtain ⟨a55, c55, hv55, -, -⟩ := (Rd.of_own ho55).form; subst hv55; have hkw := ((Below.refl _ _).drew).trans hb55; have hk9 := HBA.out _ hkw; (try dsimp only))
        refine hK.out _ _ (by (try dsimp only); (exact hk9)) ?_
        clear hHeld hK; intro hHeld
        refine tkC 20 rfl ?_
        refine wpAnyH_ready (rs := [21]) (by kernel_rfl) (by simp) (AllReadyH.cons rfl (fun K hK => ?hcz5) AllReadyH.nil)
        go_simp
        ((first | refine zq7 (fun X62 hBX hL62 => ?_) | refine zq3 (fun X62 hBX hL62 => ?_)); have hkw := hkw.trans (hBX.mono hkw.size); have ho55 := zq2 ho55 hBX; have hk9 := HBA.out _ hkw; (try dsimp only))
        refine hK.out _ _ (by (try dsimp only); (exact hk9)) ?_
        clear hHeld hK; intro hHeld
        refine wpAnyH_ready (rs := [22]) (by kernel_rfl) (by simp) (AllReadyH.cons rfl (fun K hK => ?hcz6) AllReadyH.nil)
        (refine zq11 _ rfl (.tmp 41) (.tmp 62) rfl zq8f X.heap.size v5 mn (mvsC MS us5) (by kernel_rfl) (zq2 HR5.out hkw) _ _ _ _ (by kernel_rfl) (zq28 hL62) (by intro u hu; simp at hu; rcases hu with rfl | rfl | rfl | rfl | rfl | rfl | rfl <;> rfl) (by unfold maxLen; omega) (by omega) (HBA.out _ hkw).size ?_; intro v63 w63 ho63 hg63 hat63 hnl; clear hnl; have hk9 := (HBA.out _ hkw).grown hg63 (HBA.out _ hkw).size (fun x hx => (HR5.out.lt x hx).1); (try dsimp only))
        refine hK.out _ _ (by (try dsimp only); (exact hk9)) ?_
        clear hHeld hK; intro hHeld
        refine tkC 23 rfl ?_
        refine wpAnyH_done (by kernel_rfl) ?_ _
        clear hHeld
        refine NoPanic.normal ?_
        all_goals
          (try dsimp only [Exit.then])
          have hap := (ApM.bys (bd := w0.heap.size) HYW.out (HB0.out.trans ((HX.out.low.trans ((HBA.out _ hkw).mono HX.out.low.size)).mono HB0.out.size)) (Nat.le_refl _)).and (ApM.own (bd := w0.heap.size) ho55 (by decide))
          have hnew : MvR X.heap.size w0.heap.size p.st.lang w63 v63 (MS ++ [(⟨r.cells, r.text, false, ⟨⟨p.st.lang, false, false⟩, 0, false⟩⟩ : MvZ)]) := by
            refine MvR.push (W := X62) (v := v5) (us := us5) (un := [(.slice xa r.cells.length xc, .slice a55 (zq1b p.st.lang r.text false).length c55)]) HC5.out.1 (fun i a b => (HC5.out.2 i a b).below hkw) rfl (fun i a b => ?_) hg63 (by rw [<- HMN.out.1]; exact zq2 HR5.out hkw) hX0 (by rw [<- HMN.out.1]; exact ho63)
            have hi0 : i = 0 := by simp at a; omega
            subst hi0
            exact hap.mono (fun Z hZ => ⟨hZ.1, SymsAt.of_own hZ.2⟩)
          have HNW := hidep (show MvR X.heap.size w0.heap.size p.st.lang w63 v63 ((L.take (i + 1)).flatMap (zq18 T p)) /\ Below X.heap.size X w63 from ⟨by rw [HTK.out, <- HMN.out.2, HRM.out]; exact hnew, hk9⟩)
          clear hnew hap hk9 hkw
          go_wp2
          refine ⟨LoopI.mk (by kernel_rfl) ⟨by kernel_rfl, by kernel_rfl, by kernel_rfl, rfl, i + 1, by omega, by kernel_rfl, HNW.out.1, HNW.out.2⟩, ?_⟩
          show L.length - _ < L.length - _
          simp [natI]; omega
  · have hiI : ¬ (i : Int) < (L.length : Int) := by omega
    obtain ⟨⟨p0, p1, p2, p3, p4⟩, -⟩ := HSEE.out wr HM.out.2
    have hMSr : MS = (T.rules p.st.lang).flatMap (zq18 T p) := by
      rw [HMN.out.2, List.take_of_length_le (by omega), HLL.out.1]
    have HMS := hidep hMSr
    have hwX : Below w.heap.size w wr := HX.out.low.trans (HM.out.2.mono HX.out.low.size)
    have HWX := hidep hwX
    clear hMSr hwX
    by_cases hn2 : p.need = 2
    · have HF := hidep (show zqa T p = MS by unfold zqa; rw [if_pos hn2, List.append_nil, HMS.out])
      have hne : ((p.need : Int) == 2) = true := by simp [hn2]
      have hn2I : ((p.need : Nat) : Int) = 2 := by omega
      clear hn2
      obtain ⟨nd, hnd⟩ : ∃ x : Int, x = ((p.need : Nat) : Int) := ⟨_, rfl⟩
      rw [<- hnd] at p3 hne hn2I
      subst hn2I
      clear hnd
      go_wp2
      go_ret
      refine ⟨_, rfl, ?_, HWX.out⟩
      rw [HF.out]
      obtain ⟨us, h1, h2, h3⟩ := HM.out.1
      rw [<- HMN.out.2] at h1 h2 h3
      exact ⟨us, h1, zqd0 h2 hXw, h3⟩
    · have hne : ((p.need : Int) == 2) = false := by rw [beq_eq_false_iff_ne]; omega
      have hn2I : ¬ ((p.need : Nat) : Int) = 2 := by omega
      have HN2 := hidep hn2
      clear hn2
      obtain ⟨w4, hw4⟩ : ∃ wo : World, wo = wr := ⟨_, rfl⟩
      rw [<- hw4] at HBA HM HC5 HR5 HWX p0 p1 p2 p3 p4 ⊢
      clear hw4 hiI hiw
      obtain ⟨da, dc, hda, -, -⟩ := HT.out.dg.1.form
      rw [HVI.out.1] at hda
      obtain ⟨na, nc, hna, -, -⟩ := HT.out.nm.1.form
      have HDA := hidep (And.intro hda hna)
      clear hda hna
      go_upto_region 13 with (fail)
      refine wp_loop (LoopI 121 (fun tm ds wr => (slot tm 2) = .pointer (some ⟨Bt, 0, none⟩) /\ (slot tm 3) = .pointer (some ⟨Bp, 0, none⟩) /\ ds = [] /\ MoD w0 X T p MS (slot tm 5) (slot tm 8) wr)) (fun a' wr => 10 - natI (a'.tmps.getD 8 undef)) ?ldStart ?ldRound
      case' ldStart => refine LoopI.mk rfl ?_
      case' ldRound => (rintro ⟨t, ds⟩ wr ⟨hts, hrel⟩; dsimp only at hts hrel; rw [zq3d t ds hts])
      case ldStart => exact ⟨rfl, rfl, rfl, 0, by decide, rfl, by rw [List.take_zero, List.append_nil, HMN.out.2]; exact HM.out.1, HM.out.2⟩
      obtain ⟨e2, e3, hds, d, hd, e8, hM2, hbw⟩ := hrel
      obtain ⟨v6, hv6⟩ : ∃ v, v = slot t 5 := ⟨_, rfl⟩
      rw [<- hv6] at hM2
      subst hds
      rw [e2, e3, e8, <- hv6]
      clear e2 e3 e8 hts hv6 p0 p1 p2 p3 p4 HBA HC5 HR5
      have HM2 := hidep (And.intro hM2 hbw)
      clear hM2 hbw
      have hdw : IntKind.i64.wrap ((d : Int) + 1) = (d : Int) + 1 := IntWalk.i64_in _ (by omega)
      obtain ⟨us6, h61, h62, h63⟩ := HM2.out.1
      obtain ⟨M2, hMS2⟩ : ∃ M, M = MS ++ (zq26 T p).take d := ⟨_, rfl⟩
      rw [<- hMS2] at h61 h62 h63
      have hM2n : M2.length <= 202 := by
        rw [hMS2, List.length_append, List.length_take, <- HMN.out.1]
        omega
      obtain ⟨m2, hm2⟩ : ∃ x, x = M2.length := ⟨_, rfl⟩
      have HMN2 := hidep (And.intro hm2 hMS2)
      have HC6 := hidep (And.intro h61 h63)
      rw [<- hm2] at h62 hM2n
      have HR6 := hidep h62
      have HBA := hidep (show ∀ Z : World, Below wr.heap.size wr Z -> Below X.heap.size X Z from fun Z hZ => HM2.out.2.trans (hZ.mono HM2.out.2.size))
      clear h61 h62 h63 hMS2 hm2
      obtain ⟨w5, hw5⟩ : ∃ wo : World, wo = wr := ⟨_, rfl⟩
      rw [<- hw5] at HBA HM2 HC6 HR6 ⊢
      clear hw5
      obtain ⟨⟨p0, p1, p2, p3, p4⟩, ⟨g0, g1, g2, g3, g4, g5, g6⟩⟩ := HSEE.out w5 HM2.out.2
      rw [HDA.out.2] at g4
      by_cases hd10 : d < 10
      · have hdI : (d : Int) < 10 := by omega
        obtain ⟨hd2, hhd2⟩ : ∃ x, x = (if p.st.num = true then [] else T.nm) := ⟨_, rfl⟩
        have HHD := hidep hhd2
        obtain ⟨nb, hnb⟩ : ∃ x, x = p.st.num := ⟨_, rfl⟩
        rw [<- hnb] at p1
        have HNB := hidep hnb
        clear hhd2 hnb
        have hnmW := HT.out.nm.below (HX.out.low.trans (HM2.out.2.mono HX.out.low.size))
        rw [HDA.out.2] at hnmW
        have HNM := hidep hnmW
        have hoN : ∀ u ∈ byC T.nm, u.oneCell' = true := zq33 T.nm
        have hln := HVI.out.2.1
        clear hnmW
        go_upto_if 75 with (fail)
        refine zq17 (Mo3 w5 Bt Bp d v6 hd2) ?j1 ?_
        case j1 =>
          intro K' hMK
          cases nb with
          | true =>
            obtain rfl : hd2 = [] := by rw [HHD.out, <- HNB.out, if_pos rfl]
            have HO := hidep (show w5.ownsRow w5.heap.size 5 1 (.slice none 0 0) ([] : List Int).length (byC []) /\ Below w5.heap.size w5 w5 from ⟨World.ownsRow_nil _ _ _ _, Below.refl _ _⟩)
            go_wp2
            first
              | (refine ⟨none, 0, ?_, ?_, ?_, ?_, ?_, ?_, ?_, HO.out⟩ <;> kernel_rfl)
              | (refine hMK _ _ ⟨none, 0, ?_, ?_, ?_, ?_, ?_, ?_, ?_, HO.out⟩ <;> kernel_rfl)
          | false =>
            obtain rfl : hd2 = T.nm := by rw [HHD.out, <- HNB.out, if_neg (by decide)]
            go_wp2_with (at_builtin; go_loud (refine zq4 _ rfl (.tmp 76) (.tmp 78) rfl slByt w5.heap.size (.slice none 0 0) 0 [] rfl (World.ownsRow_nil _ _ _ _) _ _ _ _ rfl HNM.out.1 hoN (by unfold maxLen; omega) (by omega) (Nat.le_refl _) ?_; intro v1 w1 ho1 hg1 hat hnl; clear hat hnl; simp only [Nat.zero_add, List.nil_append] at ho1; obtain ⟨a1, c1, hv1, -, -⟩ := (Rd.of_own ho1).form; subst hv1))
            have HO := hidep (show w1.ownsRow w5.heap.size 5 1 (.slice a1 T.nm.length c1) T.nm.length (byC T.nm) /\ Below w5.heap.size w5 w1 from ⟨ho1, (Below.refl _ _).grown hg1 (Nat.le_refl _) (fun x hx => by cases (show none = some x from hx))⟩)
            first
              | (refine ⟨a1, c1, ?_, ?_, ?_, ?_, ?_, ?_, ?_, HO.out⟩ <;> kernel_rfl)
              | (refine hMK _ _ ⟨a1, c1, ?_, ?_, ?_, ?_, ?_, ?_, ?_, HO.out⟩ <;> kernel_rfl)
        clear p0 p1 p2 p3 p4 g0 g1 g2 g3 g4 g5 g6 HNM hoN
        rintro ⟨tm4, ds⟩ W1 ⟨a9, c9, hts, hds, e2, e3, e5, e8, e9, ho1, hb1⟩
        dsimp only at hts hds e2 e3 e5 e8 e9
        subst hds
        rw [zq3d tm4 _ hts, e2, e3, e5, e8, e9]
        clear e2 e3 e5 e8 e9 hts
        (try apply_assumption)
        have hdgl : d < T.dg.length := by rw [HVI.out.1]; exact hd10
        have hdgW := HT.out.dg
        rw [HDA.out.1, <- HVI.out.1] at hdgW
        obtain ⟨b, off, hda, hbl, x0, hc0, hc1⟩ := hdgW.at hdgl
        subst hda
        obtain ⟨cb, hcb⟩ : ∃ x, x = T.dg[d] := ⟨_, rfl⟩
        rw [<- hcb] at x0 hc0 hc1
        have HCB := hidep hcb
        have HO1 := hidep (And.intro ho1 hb1)
        have HXD := hidep (show ∀ Z : World, Below X.heap.size X Z -> Z.cell? ⟨b, off + d, none⟩ = some (.int .u8 cb) from fun Z hZ => ((HX.out.low.trans (hZ.mono HX.out.low.size)).cell (p := ⟨_, _, none⟩) hbl).trans x0)
        have HSX := hidep (show ∀ Z : World, Below X.heap.size X Z -> Z.cell? ⟨Bp, 0, none⟩ = some (.int .i64 p.st.lang) /\ Z.cell? ⟨Bt, 2, none⟩ = some (.slice (some ⟨b, off, none⟩) 10 dc) from fun Z hZ => by
          obtain ⟨⟨p0, -, -, -, -⟩, ⟨-, -, g2, -, -, -, -⟩⟩ := HSEE.out Z hZ
          rw [HDA.out.1] at g2
          exact ⟨p0, g2⟩)
        have hdx : (⟨#[48, 49, 50, 51, 52, 53, 54, 55, 56, 57]⟩ : ByteArray).extract d (d + 1) = zq2d d := dig_ext ⟨d, hd10⟩
        have HSY := hidep (fun (Z : World) => zqb9 p.st.lang (zq2d d) false Z (by show (1 : Nat) <= 100000; omega))
        have HMV := hidep (show (zq26 T p).take (d + 1) = (zq26 T p).take d ++ [(⟨hd2 ++ [cb], zq2d d, false, ⟨⟨p.st.lang, true, false⟩, 0, false⟩⟩ : MvZ)] from by
          rw [digMvs_take T p hdgl]
          unfold digMv
          rw [HHD.out, HCB.out, List.getD_eq_getElem?_getD, List.getElem?_eq_getElem hdgl]
          rfl)
        have hhl : hd2.length <= 4 := by
          rw [HHD.out]
          split
          · simp
          · exact hln.2
        have HHR := hidep (show ∀ x ∈ hd2 ++ [cb], 0 <= x /\ x < 256 from fun x hx => by
          rcases List.mem_append.1 hx with hx | hx
          · rw [HHD.out] at hx
            split at hx
            · cases hx
            · exact HT.out.nm.2 x hx
          · rw [List.mem_singleton] at hx
            subst hx
            exact ⟨hc0, hc1⟩)
        clear hcb ho1 hb1 hdgW x0 hc0 hc1
        have hd1a : (0 : Int) <= (d : Int) + 1 := by omega
        have hd1b : (d : Int) + 1 <= 10 := by omega
        have hd1c : (d : Int) <= (d : Int) + 1 := by omega
        have HW1X := hidep (show ∀ Z : World, Below W1.heap.size W1 Z -> Below X.heap.size X Z from fun Z hZ => HBA.out Z (HO1.out.2.trans (hZ.mono HO1.out.2.size)))
        go_upto_region 18 with (fail)
        refine wp_region_noPanic (wp_region_held_drew (S := (fun Z => Below X.heap.size X Z)) (by kernel_rfl) ?hSz7 (fun hHeld => ?hRz7))
        case hSz7 => ((try dsimp only); (exact HW1X.out _ ((Below.refl _ _).drew)))
        refine tkC 0 rfl ?_
        refine tkC 1 rfl ?_
        refine tkC 2 rfl ?_
        refine tkB 3 rfl (.inl ⟨by kernel_rfl, fun w hSw => by (obtain ⟨p0, g2⟩ := HSX.out _ hSw; have x0 := HXD.out _ hSw); go_simp; first | done | with_reducible rfl⟩) ?_
        refine tkC 4 rfl ?_
        refine tkC 5 rfl ?_
        refine tkB 6 rfl (.inl ⟨by kernel_rfl, fun w hSw => by (obtain ⟨p0, g2⟩ := HSX.out _ hSw; have x0 := HXD.out _ hSw); go_simp; first | done | with_reducible rfl⟩) ?_
        refine tkC 9 rfl ?_
        refine tkC 10 rfl ?_
        refine tkB 11 rfl (.inl ⟨by kernel_rfl, fun w hSw => by (obtain ⟨p0, g2⟩ := HSX.out _ hSw; have x0 := HXD.out _ hSw); go_simp; first | done | with_reducible rfl⟩) ?_
        refine tkC 12 rfl ?_
        refine tkC 13 rfl ?_
        refine tkC 14 rfl ?_
        refine tkC 15 rfl ?_
        refine tkC 17 rfl ?_
        refine tkC 18 rfl ?_
        refine tkB 19 rfl (.inl ⟨by kernel_rfl, fun w hSw => by (obtain ⟨p0, g2⟩ := HSX.out _ hSw; have x0 := HXD.out _ hSw); go_simp; first | done | with_reducible rfl⟩) ?_
        refine tkC 20 rfl ?_
        refine tkC 21 rfl ?_
        refine wpAnyH_ready (rs := [7]) (by kernel_rfl) (by simp) (AllReadyH.cons rfl (fun K hK => ?hcz8) AllReadyH.nil)
        go_simp
        ((first | refine zq7 (fun X87 hBX hL87 => ?_) | refine zq3 (fun X87 hBX hL87 => ?_)); have hkw : Below W1.heap.size W1 X87 := (by first | exact hkw.trans (hBX.mono hkw.size) | exact hBX | exact ((Below.refl _ _).drew).trans hBX); (first | (have ho96 := zq2 ho96 hBX) | skip); have hk9 := HW1X.out _ hkw; (try dsimp only))
        refine hK.out _ _ (by (try dsimp only); (exact hk9)) ?_
        clear hHeld hK; intro hHeld
        refine wpAnyH_ready (rs := [8]) (by kernel_rfl) (by simp) (AllReadyH.cons rfl (fun K hK => ?hcz9) AllReadyH.nil)
        (have hkx := HO1.out.2.trans (hkw.mono HO1.out.2.size); refine zq11 _ rfl (.tmp 81) (.tmp 87) rfl slByt w5.heap.size (.slice a9 hd2.length c9) hd2.length (byC hd2) (by kernel_rfl) (zq2 HO1.out.1 hkw) _ _ _ _ (by kernel_rfl) (zq28 hL87) (by intro u hu; simp at hu; subst hu; rfl) (by unfold maxLen; omega) (by omega) hkx.size ?_; intro v88 w88 ho88 hg88 hat88 hnl; clear hnl; obtain ⟨a88, c88, hv88, -, -⟩ := (Rd.of_own ho88).form; subst hv88; have hkv := hkx.grown hg88 hkx.size (fun x hx => (HO1.out.1.lt x hx).1); (first | (have ho96 := ho96.kept hg88 (own_neT ho96 (zq2 HO1.out.1 hkw) (by decide))) | skip); have hk9 := HBA.out _ hkv; (try dsimp only))
        refine hK.out _ _ (by (try dsimp only); (exact hk9)) ?_
        clear hHeld hK; intro hHeld
        refine wpAnyH_ready (rs := [16]) (by kernel_rfl) (by simp) (AllReadyH.cons rfl (fun K hK => ?hcz10) AllReadyH.nil)
        go_simp
        (go_at_call 122; (with_reducible refine (HSY.out _).mono ?_); rintro e' w96 ⟨v96, rfl, ho96, hb96⟩; obtain ⟨a96, c96, hv96, -, -⟩ := (Rd.of_own ho96).form; subst hv96; (first | (have hL87 := zq0 hb96 hL87) | skip); (first | (have ho88 := zq2 ho88 hb96; have hkv := hkv.trans (hb96.mono hkv.size); have hk9 := HBA.out _ hkv) | (have hkw : Below W1.heap.size W1 w96 := (by first | exact hkw.trans (hb96.mono hkw.size) | exact ((Below.refl _ _).drew).trans hb96 | exact hb96); have hk9 := HW1X.out _ hkw)); (try dsimp only))
        refine hK.out _ _ (by (try dsimp only); (exact hk9)) ?_
        clear hHeld hK; intro hHeld
        refine tkC 22 rfl ?_
        refine wpAnyH_ready (rs := [23]) (by kernel_rfl) (by simp) (AllReadyH.cons rfl (fun K hK => ?hcz11) AllReadyH.nil)
        go_simp
        ((first | refine zq7 (fun X103 hBX hL103 => ?_) | refine zq3 (fun X103 hBX hL103 => ?_)); have ho88 := zq2 ho88 hBX; have ho96 := zq2 ho96 hBX; have hkv := hkv.trans (hBX.mono hkv.size); have hk9 := HBA.out _ hkv; (try dsimp only))
        refine hK.out _ _ (by (try dsimp only); (exact hk9)) ?_
        clear hHeld hK; intro hHeld
        refine wpAnyH_ready (rs := [24]) (by kernel_rfl) (by simp) (AllReadyH.cons rfl (fun K hK => ?hcz12) AllReadyH.nil)
        (refine zq11 _ rfl (.tmp 80) (.tmp 103) rfl zq8f X.heap.size v6 m2 (mvsC M2 us6) (by kernel_rfl) (zq2 HR6.out hkv) _ _ _ _ (by kernel_rfl) (zq28 hL103) (by intro u hu; simp at hu; rcases hu with rfl | rfl | rfl | rfl | rfl | rfl | rfl <;> rfl) (by unfold maxLen; omega) (by omega) hHeld.size ?_; intro v104 w104 ho104 hg104 hat104 hnl; clear hnl; have hk9 := hHeld.grown hg104 hHeld.size (fun x hx => (HR6.out.lt x hx).1); (try dsimp only))
        refine hK.out _ _ (by (try dsimp only); (exact hk9)) ?_
        clear hHeld hK; intro hHeld
        refine tkC 25 rfl ?_
        refine wpAnyH_done (by kernel_rfl) ?_ _
        clear hHeld
        refine NoPanic.normal ?_
        all_goals
          (try dsimp only [Exit.then])
          have hap := (ApM.own (bd := w0.heap.size) ho88 (by decide)).and (ApM.own (bd := w0.heap.size) ho96 (by decide))
          have hcl : (hd2 ++ [cb]).length = hd2.length + 1 := List.length_append
          have hcb : byC hd2 ++ [.int .u8 cb] = byC (hd2 ++ [cb]) := by unfold byC; rw [List.map_append]; rfl
          have hnew : MvR X.heap.size w0.heap.size p.st.lang w104 v104 (M2 ++ [(⟨hd2 ++ [cb], zq2d d, false, ⟨⟨p.st.lang, true, false⟩, 0, false⟩⟩ : MvZ)]) := by
            refine MvR.push (W := X103) (v := v6) (us := us6) (un := [(.slice a88 (hd2.length + 1) c88, .slice a96 (zq1b p.st.lang (zq2d d) false).length c96)]) HC6.out.1 (fun i a b => (HC6.out.2 i a b).below hkv) rfl (fun i a b => ?_) hg104 (by rw [<- HMN2.out.1]; exact zq2 HR6.out hkv) hX0 (by rw [<- HMN2.out.1]; exact ho104)
            have hi0 : i = 0 := by simp at a; omega
            subst hi0
            refine hap.mono (fun Z hZ => ⟨?_, SymsAt.of_own hZ.2⟩)
            refine BysAt.of_own (base := w5.heap.size) (e := 5) ?_ HHR.out
            show Z.ownsRow w5.heap.size 5 1 (.slice a88 (hd2.length + 1) c88) (hd2 ++ [cb]).length (byC (hd2 ++ [cb]))
            rw [hcl, <- hcb]
            exact hZ.1
          have HNW := hidep (show MvR X.heap.size w0.heap.size p.st.lang w104 v104 (MS ++ (zq26 T p).take (d + 1)) /\ Below X.heap.size X w104 from ⟨by rw [HMV.out, <- List.append_assoc, <- HMN2.out.2]; exact hnew, hk9⟩)
          clear hnew hap hk9 hkv hcl hcb
          go_wp2
          refine ⟨LoopI.mk (by kernel_rfl) ⟨by kernel_rfl, by kernel_rfl, rfl, d + 1, by omega, by kernel_rfl, HNW.out.1, HNW.out.2⟩, ?_⟩
          show 10 - _ < 10 - _
          simp [natI]; omega
      · have hdI : ¬ (d : Int) < 10 := by omega
        have hde : d = 10 := by omega
        have hfull : M2 = (T.rules p.st.lang).flatMap (zq18 T p) ++ zq26 T p := by
          rw [HMN2.out.2, HMS.out, hde, List.take_of_length_le (by rw [zq52, HVI.out.1]; exact Nat.le_refl _)]
        have HF := hidep (show zqa T p = M2 ++ swMv T p by rw [moves_sw T p HN2.out, hfull])
        have HWX5 := hidep (HX.out.low.trans (HM2.out.2.mono HX.out.low.size))
        obtain ⟨sa, sc, hsa, -, -⟩ := HT.out.sw.1.form
        rw [hsa] at g6
        have hsw0 := HT0.out.sw
        rw [hsa] at hsw0
        have HSW0 := hidep hsw0
        have hlw : IntKind.i64.wrap (1 - p.st.lang) = 1 - p.st.lang := IntWalk.i64_in _ (by have := HLG.out.2; omega)
        obtain ⟨sb, hsb⟩ : ∃ x, x = p.sw := ⟨_, rfl⟩
        rw [<- hsb] at p4
        have HSB := hidep hsb
        clear hfull hsa hsb hsw0 hde
        go_upto_if 107 with (fail)
        refine zq17 (Mo4 w0 X p.st.lang (zqa T p)) ?j2 ?_
        case j2 =>
          intro K' hMK
          cases sb with
          | true =>
            have HO := hidep (show MvR X.heap.size w0.heap.size p.st.lang w5 v6 (zqa T p) /\ Below X.heap.size X w5 from ⟨by
              rw [HF.out]
              unfold swMv
              rw [<- HSB.out, if_pos rfl, List.append_nil, HMN2.out.2]
              exact HM2.out.1, HM2.out.2⟩)
            go_wp2
            first
              | (refine ⟨v6, ?_, ?_, ?_, HO.out⟩ <;> kernel_rfl)
              | (refine hMK _ _ ⟨v6, ?_, ?_, ?_, HO.out⟩ <;> kernel_rfl)
          | false =>
            go_wp2_with (at_builtin; go_loud (refine zq4 _ rfl (.tmp 108) (.tmp 118) rfl zq8f X.heap.size v6 m2 (mvsC M2 us6) (by kernel_rfl) (HR6.out.alloc _) _ _ _ _ rfl (Rd.fresh w5 #[.slice sa T.sw.length sc, .slice none 0 0, .int .i64 (1 - p.st.lang), .bool false, .bool false, .int .i64 0, .bool true] 144 7 1 rfl (by decide)) (by intro u hu; simp at hu; rcases hu with rfl | rfl | rfl | rfl | rfl | rfl | rfl <;> rfl) (by unfold maxLen; omega) (by omega) (by rw [World.size_alloc]; have := HM2.out.2.size; omega) ?_; intro v1 w1 ho1 hg1 hat hnl; clear hat hnl))
            have hba := (Below.refl w5.heap.size w5).alloc (Nat.le_refl _) (.cells #[.slice sa T.sw.length sc, .slice none 0 0, .int .i64 (1 - p.st.lang), .bool false, .bool false, .int .i64 0, .bool true] 144)
            have hnew : MvR X.heap.size w0.heap.size p.st.lang w1 v1 (M2 ++ [(⟨T.sw, ByteArray.empty, false, ⟨⟨1 - p.st.lang, false, false⟩, 0, true⟩⟩ : MvZ)]) := by
              refine MvR.push (v := v6) (us := us6) (un := [(.slice sa T.sw.length sc, .slice none 0 0)]) HC6.out.1 (fun i a b => (HC6.out.2 i a b).below hba) rfl (fun i a b => ?_) hg1 (by rw [<- HMN2.out.1]; exact HR6.out.alloc _) hX0 (by rw [<- HMN2.out.1]; exact ho1)
              have hi0 : i = 0 := by simp at a; omega
              subst hi0
              exact (ApM.bys (bd := w0.heap.size) HSW0.out (HB0.out.trans ((HWX5.out.trans (hba.mono HWX5.out.size)).mono HB0.out.size)) (Nat.le_refl _)).and ApM.nil
            have HO := hidep (show MvR X.heap.size w0.heap.size p.st.lang w1 v1 (zqa T p) /\ Below X.heap.size X w1 from ⟨by
              rw [HF.out]
              unfold swMv
              rw [<- HSB.out, if_neg (by decide)]
              exact hnew, (HBA.out _ hba).grown hg1 (HBA.out _ hba).size (fun x hx => (HR6.out.lt x hx).1)⟩)
            clear hnew hba
            first
              | (refine ⟨v1, ?_, ?_, ?_, HO.out⟩ <;> kernel_rfl)
              | (refine hMK _ _ ⟨v1, ?_, ?_, ?_, HO.out⟩ <;> kernel_rfl)
        clear p0 p1 p2 p3 p4 g0 g1 g2 g3 g4 g5 g6
        rintro ⟨tm4, ds⟩ W1 ⟨v1, hts, hds, e5, hMr, hbr⟩
        dsimp only at hts hds e5
        subst hds
        rw [zq3d tm4 _ hts, e5]
        clear e5 hts
        (try apply_assumption)
        have HMR := hidep (And.intro hMr hbr)
        clear hMr hbr
        go_wp2
        go_ret
        refine ⟨_, rfl, ?_, HX.out.low.trans (HMR.out.2.mono HX.out.low.size)⟩
        obtain ⟨us, h1, h2, h3⟩ := HMR.out.1
        exact ⟨us, h1, zqd0 h2 hXw, h3⟩
end Go.Proofs.YtcfjepcflanjbaaGreat
